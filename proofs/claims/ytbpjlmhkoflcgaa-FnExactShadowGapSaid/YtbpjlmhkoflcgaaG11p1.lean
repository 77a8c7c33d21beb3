/- What the functions of the seat compute, as printed by wip/tools. -/
import Derived.Test.YtbpjlmhkoflcgaaViGen
import Derived.Test.YtbpjlmhkoflcgaaProg
namespace Go.VI
open Go.Proofs
set_option maxRecDepth 100000
def n0 : Nat := 0
def GG : World → Prop := fun _ => True
theorem hstable : Stable n0 GG := stable_true
theorem hmix : Try.prog.follows .mixedOrders = true := by kernel_rfl
theorem hglob (X : Ctx) (h : X.globals = [] := by rfl) (A : Fix) (_ : A.P = Try.prog) (_ : A.G = GG) : GlobOK A X := globOK_none h A
abbrev T_A2 : Ty := (.pair (.int .i64) (.pair (.int .i64) .unit))
abbrev D_A2 : Type := Int × Int × Unit
abbrev T_A3 : Ty := (.pair (.int .i64) (.pair (.int .i64) (.pair (.int .i64) .unit)))
abbrev D_A3 : Type := Int × Int × Int × Unit
abbrev T_Heap : Ty := (.pair (.int .i64) (.pair (.int .i64) (.pair (.int .i64) (.pair (.sl T_A3) .unit))))
abbrev D_Heap : Type := Int × Int × Int × (List D_A3) × Unit
abbrev T_Bench : Ty := (.pair T_Heap (.pair (.int .i64) (.pair (.int .i64) .unit)))
abbrev D_Bench : Type := D_Heap × Int × Int × Unit
abbrev T_Shadow : Ty := (.pair (.int .i64) (.pair (.int .i64) (.pair (.int .i64) (.pair (.sl (.int .i64)) (.pair (.sl (.int .i64)) (.pair (.sl (.int .i64)) .unit))))))
abbrev D_Shadow : Type := Int × Int × Int × (List Int) × (List Int) × (List Int) × Unit
noncomputable def TT : List (TypeId × TI) := [(3, ⟨Try.t3.desc, (.int .i64), false, 8, [.int .i64 0]⟩),
  (4, ⟨Try.t4.desc, .bool, false, 1, [.bool false]⟩),
  (22, ⟨Try.t22.desc, (.sl T_A3), false, 24, [.nil 58 T_A3]⟩),
  (24, ⟨Try.t23.desc, T_Heap, true, 48, [.int .i64 0, .int .i64 0, .int .i64 0, .nil 58 T_A3]⟩),
  (31, ⟨Try.t23.desc, T_Heap, true, 48, [.int .i64 0, .int .i64 0, .int .i64 0, .nil 58 T_A3]⟩),
  (41, ⟨Try.t40.desc, T_Bench, true, 64, [.int .i64 0, .int .i64 0, .int .i64 0, .nil 58 T_A3, .int .i64 0, .int .i64 0]⟩),
  (46, ⟨Try.t45.desc, T_Bench, true, 64, [.int .i64 0, .int .i64 0, .int .i64 0, .nil 58 T_A3, .int .i64 0, .int .i64 0]⟩),
  (58, ⟨Try.t58.desc, T_A3, true, 24, [.int .i64 0, .int .i64 0, .int .i64 0]⟩),
  (59, ⟨Try.t58.desc, T_A3, true, 24, [.int .i64 0, .int .i64 0, .int .i64 0]⟩),
  (73, ⟨Try.t73.desc, (.sl (.int .i64)), false, 24, [.nil 3 (.int .i64)]⟩),
  (75, ⟨Try.t74.desc, T_Shadow, true, 96, [.int .i64 0, .int .i64 0, .int .i64 0, .nil 3 (.int .i64), .nil 3 (.int .i64), .nil 3 (.int .i64)]⟩),
  (96, ⟨Try.t96.desc, (.pair (.sl (.int .i64)) (.pair (.sl (.int .i64)) (.pair (.sl (.int .i64)) .unit))), true, 72, [.nil 3 (.int .i64), .nil 3 (.int .i64), .nil 3 (.int .i64)]⟩)]
theorem ttOK : allP (fun q => tiB Try.prog q.1 q.2) TT :=
  ⟨⟨by kernel_rfl, by kernel_rfl, by kernel_rfl, by kernel_rfl, by kernel_rfl⟩, ⟨by kernel_rfl, by kernel_rfl, by kernel_rfl, by kernel_rfl, by kernel_rfl⟩, ⟨by kernel_rfl, by kernel_rfl, by kernel_rfl, by kernel_rfl, by kernel_rfl⟩, ⟨by kernel_rfl, by kernel_rfl, by kernel_rfl, by kernel_rfl, by kernel_rfl⟩, ⟨by kernel_rfl, by kernel_rfl, by kernel_rfl, by kernel_rfl, by kernel_rfl⟩, ⟨by kernel_rfl, by kernel_rfl, by kernel_rfl, by kernel_rfl, by kernel_rfl⟩, ⟨by kernel_rfl, by kernel_rfl, by kernel_rfl, by kernel_rfl, by kernel_rfl⟩, ⟨by kernel_rfl, by kernel_rfl, by kernel_rfl, by kernel_rfl, by kernel_rfl⟩, ⟨by kernel_rfl, by kernel_rfl, by kernel_rfl, by kernel_rfl, by kernel_rfl⟩, ⟨by kernel_rfl, by kernel_rfl, by kernel_rfl, by kernel_rfl, by kernel_rfl⟩, ⟨by kernel_rfl, by kernel_rfl, by kernel_rfl, by kernel_rfl, by kernel_rfl⟩, ⟨by kernel_rfl, by kernel_rfl, by kernel_rfl, by kernel_rfl, by kernel_rfl⟩, trivial⟩

/- 23: loop.example/g01166/laws.szIntA3S -/
abbrev As_laws_szIntA3S : List ATy := [.data false (.sl T_A3), .data false (.int .i64)]
abbrev R_laws_szIntA3S : List (Bool × Ty) := [(false, (.int .i64))]
abbrev M_laws_szIntA3S : List RMode := []
abbrev Ft_laws_szIntA3S : Type := (List D_A3) × Int × Unit → Option (Int × Unit)
noncomputable def X_laws_szIntA3S (n : Nat) : Ctx := { types := TT, globals := [], con := [], keep := [], results := [.tmp 4], ntmps := 12, n := n }
noncomputable def B_laws_szIntA3S : Code := (Try.f23.body).getD .skip
noncomputable def P_laws_szIntA3S : Ft_laws_szIntA3S := hid (runF (X_laws_szIntA3S N) B_laws_szIntA3S As_laws_szIntA3S R_laws_szIntA3S M_laws_szIntA3S)
theorem h_laws_szIntA3S : P_laws_szIntA3S = runF (X_laws_szIntA3S N) B_laws_szIntA3S As_laws_szIntA3S R_laws_szIntA3S M_laws_szIntA3S := hid_eq _
noncomputable def C_laws_szIntA3S : Contract := ⟨As_laws_szIntA3S, R_laws_szIntA3S, M_laws_szIntA3S, P_laws_szIntA3S⟩
theorem s_laws_szIntA3S : Sound Try.prog GG 23 C_laws_szIntA3S := by
  unfold C_laws_szIntA3S; rw [h_laws_szIntA3S]
  exact sound_of_run (fn := Try.f23) hmix hstable (tyOK_of ttOK) (hglob (X_laws_szIntA3S N)) (conOK_of (X := X_laws_szIntA3S N) trivial) (mconOK_of (X := X_laws_szIntA3S N) trivial) (by kernel_rfl) (by kernel_rfl) (by kernel_rfl) (by kernel_rfl) (by kernel_rfl) (of_decide_eq_true (by kernel_rfl))
theorem p_laws_szIntA3S (a0 : List D_A3) (a1 : Int) : P_laws_szIntA3S (a0, a1, ()) = 
  bif decide ((IntKind.wrap .i64 (a1 - (List.length a0 : Int))) < 0) then
    some ((-1), ())
  else
    some ((IntKind.wrap .i64 (a1 - (List.length a0 : Int))), ()) := by
  rewrite [h_laws_szIntA3S]
  kernel_rfl

/- 5: loop.example/g01166/laws.szHeap -/
abbrev As_laws_szHeap : List ATy := [.data true T_Heap, .data false (.int .i64)]
abbrev R_laws_szHeap : List (Bool × Ty) := [(false, (.int .i64))]
abbrev M_laws_szHeap : List RMode := []
abbrev Ft_laws_szHeap : Type := D_Heap × Int × Unit → Option (Int × Unit)
noncomputable def X_laws_szHeap (n : Nat) (F_laws_szIntA3S : Ft_laws_szIntA3S) : Ctx := { types := TT, globals := [], con := [(23, ⟨As_laws_szIntA3S, R_laws_szIntA3S, M_laws_szIntA3S, F_laws_szIntA3S⟩)], keep := [], results := [.tmp 4], ntmps := 12, n := n }
noncomputable def B_laws_szHeap : Code := (Try.f5.body).getD .skip
noncomputable def P_laws_szHeap : Ft_laws_szHeap := hid (runF (X_laws_szHeap N P_laws_szIntA3S) B_laws_szHeap As_laws_szHeap R_laws_szHeap M_laws_szHeap)
theorem h_laws_szHeap : P_laws_szHeap = runF (X_laws_szHeap N P_laws_szIntA3S) B_laws_szHeap As_laws_szHeap R_laws_szHeap M_laws_szHeap := hid_eq _
noncomputable def C_laws_szHeap : Contract := ⟨As_laws_szHeap, R_laws_szHeap, M_laws_szHeap, P_laws_szHeap⟩
theorem s_laws_szHeap : Sound Try.prog GG 5 C_laws_szHeap := by
  unfold C_laws_szHeap; rw [h_laws_szHeap]
  exact sound_of_run (fn := Try.f5) hmix hstable (tyOK_of ttOK) (hglob (X_laws_szHeap N P_laws_szIntA3S)) (conOK_of (X := X_laws_szHeap N P_laws_szIntA3S) ⟨s_laws_szIntA3S, trivial⟩) (mconOK_of (X := X_laws_szHeap N P_laws_szIntA3S) trivial) (by kernel_rfl) (by kernel_rfl) (by kernel_rfl) (by kernel_rfl) (by kernel_rfl) (of_decide_eq_true (by kernel_rfl))
theorem p_laws_szHeap (a0 : D_Heap) (a1 : Int) : P_laws_szHeap (a0, a1, ()) = 
  Option.bind (P_laws_szIntA3S (a0.2.2.2.1, a1, ())) fun r0 =>
  bif decide (r0.1 < 0) then
    some ((-1), ())
  else
    some (r0.1, ()) := by
  rewrite [h_laws_szHeap]
  kernel_rfl

/- 18: loop.example/g01166/laws.szBench -/
abbrev As_laws_szBench : List ATy := [.data true T_Bench, .data false (.int .i64)]
abbrev R_laws_szBench : List (Bool × Ty) := [(false, (.int .i64))]
abbrev M_laws_szBench : List RMode := []
abbrev Ft_laws_szBench : Type := D_Bench × Int × Unit → Option (Int × Unit)
noncomputable def X_laws_szBench (n : Nat) (F_laws_szHeap : Ft_laws_szHeap) : Ctx := { types := TT, globals := [], con := [(5, ⟨As_laws_szHeap, R_laws_szHeap, M_laws_szHeap, F_laws_szHeap⟩)], keep := [], results := [.tmp 4], ntmps := 12, n := n }
noncomputable def B_laws_szBench : Code := (Try.f18.body).getD .skip
noncomputable def P_laws_szBench : Ft_laws_szBench := hid (runF (X_laws_szBench N P_laws_szHeap) B_laws_szBench As_laws_szBench R_laws_szBench M_laws_szBench)
theorem h_laws_szBench : P_laws_szBench = runF (X_laws_szBench N P_laws_szHeap) B_laws_szBench As_laws_szBench R_laws_szBench M_laws_szBench := hid_eq _
noncomputable def C_laws_szBench : Contract := ⟨As_laws_szBench, R_laws_szBench, M_laws_szBench, P_laws_szBench⟩
theorem s_laws_szBench : Sound Try.prog GG 18 C_laws_szBench := by
  unfold C_laws_szBench; rw [h_laws_szBench]
  exact sound_of_run (fn := Try.f18) hmix hstable (tyOK_of ttOK) (hglob (X_laws_szBench N P_laws_szHeap)) (conOK_of (X := X_laws_szBench N P_laws_szHeap) ⟨s_laws_szHeap, trivial⟩) (mconOK_of (X := X_laws_szBench N P_laws_szHeap) trivial) (by kernel_rfl) (by kernel_rfl) (by kernel_rfl) (by kernel_rfl) (by kernel_rfl) (of_decide_eq_true (by kernel_rfl))
theorem p_laws_szBench (a0 : D_Bench) (a1 : Int) : P_laws_szBench (a0, a1, ()) = 
  Option.bind (P_laws_szHeap (a0.1, a1, ())) fun r0 =>
  bif decide (r0.1 < 0) then
    some ((-1), ())
  else
    some (r0.1, ()) := by
  rewrite [h_laws_szBench]
  kernel_rfl

/- 49: loop.example/g01166/spec.l1In -/
abbrev As_spec_l1In : List ATy := [.data false (.int .i64), .data false (.int .i64), .data false (.int .i64)]
abbrev R_spec_l1In : List (Bool × Ty) := [(false, .bool)]
abbrev M_spec_l1In : List RMode := []
abbrev Ft_spec_l1In : Type := Int × Int × Int × Unit → Option (Bool × Unit)
noncomputable def X_spec_l1In (n : Nat) : Ctx := { types := TT, globals := [], con := [], keep := [], results := [.tmp 6], ntmps := 15, n := n }
noncomputable def B_spec_l1In : Code := (Try.f49.body).getD .skip
noncomputable def P_spec_l1In : Ft_spec_l1In := hid (runF (X_spec_l1In N) B_spec_l1In As_spec_l1In R_spec_l1In M_spec_l1In)
theorem h_spec_l1In : P_spec_l1In = runF (X_spec_l1In N) B_spec_l1In As_spec_l1In R_spec_l1In M_spec_l1In := hid_eq _
noncomputable def C_spec_l1In : Contract := ⟨As_spec_l1In, R_spec_l1In, M_spec_l1In, P_spec_l1In⟩
theorem s_spec_l1In : Sound Try.prog GG 49 C_spec_l1In := by
  unfold C_spec_l1In; rw [h_spec_l1In]
  exact sound_of_run (fn := Try.f49) hmix hstable (tyOK_of ttOK) (hglob (X_spec_l1In N)) (conOK_of (X := X_spec_l1In N) trivial) (mconOK_of (X := X_spec_l1In N) trivial) (by kernel_rfl) (by kernel_rfl) (by kernel_rfl) (by kernel_rfl) (by kernel_rfl) (of_decide_eq_true (by kernel_rfl))
theorem p_spec_l1In (a0 : Int) (a1 : Int) (a2 : Int) : P_spec_l1In (a0, a1, a2, ()) = 
  bif decide (a0 ≥ a1) then
    some (decide (a0 ≤ a2), ())
  else
    some (false, ()) := by
  rewrite [h_spec_l1In]
  kernel_rfl

/- 46: loop.example/g01166/spec.l2Sides -/
abbrev As_spec_l2Sides : List ATy := [.data false (.int .i64), .data false (.int .i64), .data false (.int .i64)]
abbrev R_spec_l2Sides : List (Bool × Ty) := [(false, .bool)]
abbrev M_spec_l2Sides : List RMode := []
abbrev Ft_spec_l2Sides : Type := Int × Int × Int × Unit → Option (Bool × Unit)
noncomputable def X_spec_l2Sides (n : Nat) (F_spec_l1In : Ft_spec_l1In) : Ctx := { types := TT, globals := [], con := [(49, ⟨As_spec_l1In, R_spec_l1In, M_spec_l1In, F_spec_l1In⟩)], keep := [], results := [.tmp 6], ntmps := 17, n := n }
noncomputable def B_spec_l2Sides : Code := (Try.f46.body).getD .skip
noncomputable def P_spec_l2Sides : Ft_spec_l2Sides := hid (runF (X_spec_l2Sides N P_spec_l1In) B_spec_l2Sides As_spec_l2Sides R_spec_l2Sides M_spec_l2Sides)
theorem h_spec_l2Sides : P_spec_l2Sides = runF (X_spec_l2Sides N P_spec_l1In) B_spec_l2Sides As_spec_l2Sides R_spec_l2Sides M_spec_l2Sides := hid_eq _
noncomputable def C_spec_l2Sides : Contract := ⟨As_spec_l2Sides, R_spec_l2Sides, M_spec_l2Sides, P_spec_l2Sides⟩
theorem s_spec_l2Sides : Sound Try.prog GG 46 C_spec_l2Sides := by
  unfold C_spec_l2Sides; rw [h_spec_l2Sides]
  exact sound_of_run (fn := Try.f46) hmix hstable (tyOK_of ttOK) (hglob (X_spec_l2Sides N P_spec_l1In)) (conOK_of (X := X_spec_l2Sides N P_spec_l1In) ⟨s_spec_l1In, trivial⟩) (mconOK_of (X := X_spec_l2Sides N P_spec_l1In) trivial) (by kernel_rfl) (by kernel_rfl) (by kernel_rfl) (by kernel_rfl) (by kernel_rfl) (of_decide_eq_true (by kernel_rfl))
theorem p_spec_l2Sides (a0 : Int) (a1 : Int) (a2 : Int) : P_spec_l2Sides (a0, a1, a2, ()) = 
  Option.bind (P_spec_l1In (a0, 1, 4, ())) fun r0 =>
  bif r0.1 then
    Option.bind (P_spec_l1In (a1, 1, 4, ())) fun r2 =>
    bif r2.1 then
      Option.bind (P_spec_l1In (a2, 1, 4, ())) fun r4 =>
      some (r4.1, ())
    else
      some (false, ())
  else
    some (false, ()) := by
  rewrite [h_spec_l2Sides]
  kernel_rfl

/- 47: loop.example/g01166/spec.l2In -/
abbrev As_spec_l2In : List ATy := [.data true T_Heap, .data true T_A3]
abbrev R_spec_l2In : List (Bool × Ty) := [(false, .bool)]
abbrev M_spec_l2In : List RMode := []
abbrev Ft_spec_l2In : Type := D_Heap × D_A3 × Unit → Option (Bool × Unit)
noncomputable def X_spec_l2In (n : Nat) (F_spec_l1In : Ft_spec_l1In) : Ctx := { types := TT, globals := [], con := [(49, ⟨As_spec_l1In, R_spec_l1In, M_spec_l1In, F_spec_l1In⟩)], keep := [], results := [.tmp 4], ntmps := 27, n := n }
noncomputable def B_spec_l2In : Code := (Try.f47.body).getD .skip
noncomputable def P_spec_l2In : Ft_spec_l2In := hid (runF (X_spec_l2In N P_spec_l1In) B_spec_l2In As_spec_l2In R_spec_l2In M_spec_l2In)
theorem h_spec_l2In : P_spec_l2In = runF (X_spec_l2In N P_spec_l1In) B_spec_l2In As_spec_l2In R_spec_l2In M_spec_l2In := hid_eq _
noncomputable def C_spec_l2In : Contract := ⟨As_spec_l2In, R_spec_l2In, M_spec_l2In, P_spec_l2In⟩
theorem s_spec_l2In : Sound Try.prog GG 47 C_spec_l2In := by
  unfold C_spec_l2In; rw [h_spec_l2In]
  exact sound_of_run (fn := Try.f47) hmix hstable (tyOK_of ttOK) (hglob (X_spec_l2In N P_spec_l1In)) (conOK_of (X := X_spec_l2In N P_spec_l1In) ⟨s_spec_l1In, trivial⟩) (mconOK_of (X := X_spec_l2In N P_spec_l1In) trivial) (by kernel_rfl) (by kernel_rfl) (by kernel_rfl) (by kernel_rfl) (by kernel_rfl) (of_decide_eq_true (by kernel_rfl))
theorem p_spec_l2In (a0 : D_Heap) (a1 : D_A3) : P_spec_l2In (a0, a1, ()) = 
  Option.bind (P_spec_l1In (a1.1, 0, (IntKind.wrap .i64 (a0.1 - 1)), ())) fun r0 =>
  bif r0.1 then
    Option.bind (P_spec_l1In (a1.2.1, 0, (IntKind.wrap .i64 (a0.2.1 - 1)), ())) fun r2 =>
    bif r2.1 then
      Option.bind (P_spec_l1In (a1.2.2.1, 0, (IntKind.wrap .i64 (a0.2.2.1 - 1)), ())) fun r4 =>
      some (r4.1, ())
    else
      some (false, ())
  else
    some (false, ()) := by
  rewrite [h_spec_l2In]
  kernel_rfl

/- 48: loop.example/g01166/spec.l2Before -/
abbrev As_spec_l2Before : List ATy := [.data true T_A3, .data true T_A3]
abbrev R_spec_l2Before : List (Bool × Ty) := [(false, .bool)]
abbrev M_spec_l2Before : List RMode := []
abbrev Ft_spec_l2Before : Type := D_A3 × D_A3 × Unit → Option (Bool × Unit)
noncomputable def X_spec_l2Before (n : Nat) : Ctx := { types := TT, globals := [], con := [], keep := [(2, ⟨[.box 2, .box 3, .tmp 2, .tmp 3, .tmp 5], []⟩)], results := [.tmp 4], ntmps := 24, n := n }
noncomputable def B_spec_l2Before : Code := (Try.f48.body).getD .skip
noncomputable def L_spec_l2Before_2 (n : Nat) (m0 : Nat) (p0 : Int) (p1 : Int) (p2 : Int) (p3 : Int) (p4 : Int) (p5 : Int) (p6 : Int) : Option (denL R_spec_l2Before) := loopF (X_spec_l2Before n) B_spec_l2Before R_spec_l2Before M_spec_l2Before 2 [m0] [(.ver, .num 1), (.box 2, .box 0 false [.int .i64 p0, .int .i64 p1, .int .i64 p2]), (.box 3, .box 0 false [.int .i64 p3, .int .i64 p4, .int .i64 p5]), (.tmp 2, .val false [.addr 2 0 0]), (.tmp 3, .val false [.addr 3 0 0]), (.tmp 5, .val false [.int .i64 p6])]
noncomputable def P_spec_l2Before : Ft_spec_l2Before := hid (runF (X_spec_l2Before N) B_spec_l2Before As_spec_l2Before R_spec_l2Before M_spec_l2Before)
theorem h_spec_l2Before : P_spec_l2Before = runF (X_spec_l2Before N) B_spec_l2Before As_spec_l2Before R_spec_l2Before M_spec_l2Before := hid_eq _
noncomputable def C_spec_l2Before : Contract := ⟨As_spec_l2Before, R_spec_l2Before, M_spec_l2Before, P_spec_l2Before⟩
theorem s_spec_l2Before : Sound Try.prog GG 48 C_spec_l2Before := by
  unfold C_spec_l2Before; rw [h_spec_l2Before]
  exact sound_of_run (fn := Try.f48) hmix hstable (tyOK_of ttOK) (hglob (X_spec_l2Before N)) (conOK_of (X := X_spec_l2Before N) trivial) (mconOK_of (X := X_spec_l2Before N) trivial) (by kernel_rfl) (by kernel_rfl) (by kernel_rfl) (by kernel_rfl) (by kernel_rfl) (of_decide_eq_true (by kernel_rfl))
noncomputable def l_spec_l2Before_2 : Nat → Int → Int → Int → Int → Int → Int → Int → Option (denL R_spec_l2Before) := hid (fun m0 p0 p1 p2 p3 p4 p5 p6 => L_spec_l2Before_2 N m0 p0 p1 p2 p3 p4 p5 p6)
theorem h_spec_l2Before_2 : l_spec_l2Before_2 = fun m0 p0 p1 p2 p3 p4 p5 p6 => L_spec_l2Before_2 N m0 p0 p1 p2 p3 p4 p5 p6 := hid_eq _
theorem p_spec_l2Before (a0 : D_A3) (a1 : D_A3) : P_spec_l2Before (a0, a1, ()) = 
  l_spec_l2Before_2 N a0.1 a0.2.1 a0.2.2.1 a1.1 a1.2.1 a1.2.2.1 0 := by
  rewrite [h_spec_l2Before, h_spec_l2Before_2]
  kernel_rfl
theorem q_spec_l2Before_2 (m0 : Nat) (p0 : Int) (p1 : Int) (p2 : Int) (p3 : Int) (p4 : Int) (p5 : Int) (p6 : Int) : l_spec_l2Before_2 (m0 + 1) p0 p1 p2 p3 p4 p5 p6 = 
  bif decide (p6 < 3) then
    bif inB p6 3 then
      bif inB p6 3 then
        bif !decide ((bif decide (p6 = (0 : Int)) then p0 else (bif decide (p6 = (1 : Int)) then p1 else p2)) = (bif decide (p6 = (0 : Int)) then p3 else (bif decide (p6 = (1 : Int)) then p4 else p5))) then
          bif inB p6 3 then
            bif inB p6 3 then
              some (decide ((bif decide (p6 = (0 : Int)) then p0 else (bif decide (p6 = (1 : Int)) then p1 else p2)) < (bif decide (p6 = (0 : Int)) then p3 else (bif decide (p6 = (1 : Int)) then p4 else p5))), ())
            else none
          else none
        else
          l_spec_l2Before_2 m0 p0 p1 p2 p3 p4 p5 (IntKind.wrap .i64 (p6 + 1))
      else none
    else none
  else
    some (false, ()) := by
  rewrite [h_spec_l2Before_2]
  kernel_rfl

/- 24: loop.example/g01166/spec.l2Heap -/
abbrev As_spec_l2Heap : List ATy := [.data true T_Heap]
abbrev R_spec_l2Heap : List (Bool × Ty) := [(false, .bool)]
abbrev M_spec_l2Heap : List RMode := []
abbrev Ft_spec_l2Heap : Type := D_Heap × Unit → Option (Bool × Unit)
noncomputable def X_spec_l2Heap (n : Nat) (F_spec_l2Sides : Ft_spec_l2Sides) (F_spec_l2In : Ft_spec_l2In) (F_spec_l2Before : Ft_spec_l2Before) : Ctx := { types := TT, globals := [], con := [(46, ⟨As_spec_l2Sides, R_spec_l2Sides, M_spec_l2Sides, F_spec_l2Sides⟩), (47, ⟨As_spec_l2In, R_spec_l2In, M_spec_l2In, F_spec_l2In⟩), (48, ⟨As_spec_l2Before, R_spec_l2Before, M_spec_l2Before, F_spec_l2Before⟩)], keep := [(4, ⟨[.box 1, .tmp 1, .tmp 3], []⟩)], results := [.tmp 2], ntmps := 46, n := n }
noncomputable def B_spec_l2Heap : Code := (Try.f24.body).getD .skip
noncomputable def L_spec_l2Heap_4 (n : Nat) (F_spec_l2Sides : Ft_spec_l2Sides) (F_spec_l2In : Ft_spec_l2In) (F_spec_l2Before : Ft_spec_l2Before) (m0 : Nat) (p0 : Int) (p1 : Int) (p2 : Int) (p3 : List D_A3) (p4 : Int) : Option (denL R_spec_l2Heap) := loopF (X_spec_l2Heap n F_spec_l2Sides F_spec_l2In F_spec_l2Before) B_spec_l2Heap R_spec_l2Heap M_spec_l2Heap 4 [m0] [(.ver, .num 1), (.box 1, .box 0 false [.int .i64 p0, .int .i64 p1, .int .i64 p2, .imm T_A3 p3 (some 3)]), (.tmp 1, .val false [.addr 1 0 0]), (.tmp 3, .val false [.int .i64 p4])]
noncomputable def P_spec_l2Heap : Ft_spec_l2Heap := hid (runF (X_spec_l2Heap N P_spec_l2Sides P_spec_l2In P_spec_l2Before) B_spec_l2Heap As_spec_l2Heap R_spec_l2Heap M_spec_l2Heap)
theorem h_spec_l2Heap : P_spec_l2Heap = runF (X_spec_l2Heap N P_spec_l2Sides P_spec_l2In P_spec_l2Before) B_spec_l2Heap As_spec_l2Heap R_spec_l2Heap M_spec_l2Heap := hid_eq _
noncomputable def C_spec_l2Heap : Contract := ⟨As_spec_l2Heap, R_spec_l2Heap, M_spec_l2Heap, P_spec_l2Heap⟩
theorem s_spec_l2Heap : Sound Try.prog GG 24 C_spec_l2Heap := by
  unfold C_spec_l2Heap; rw [h_spec_l2Heap]
  exact sound_of_run (fn := Try.f24) hmix hstable (tyOK_of ttOK) (hglob (X_spec_l2Heap N P_spec_l2Sides P_spec_l2In P_spec_l2Before)) (conOK_of (X := X_spec_l2Heap N P_spec_l2Sides P_spec_l2In P_spec_l2Before) ⟨s_spec_l2Sides, s_spec_l2In, s_spec_l2Before, trivial⟩) (mconOK_of (X := X_spec_l2Heap N P_spec_l2Sides P_spec_l2In P_spec_l2Before) trivial) (by kernel_rfl) (by kernel_rfl) (by kernel_rfl) (by kernel_rfl) (by kernel_rfl) (of_decide_eq_true (by kernel_rfl))
noncomputable def l_spec_l2Heap_4 : Nat → Int → Int → Int → (List D_A3) → Int → Option (denL R_spec_l2Heap) := hid (fun m0 p0 p1 p2 p3 p4 => L_spec_l2Heap_4 N P_spec_l2Sides P_spec_l2In P_spec_l2Before m0 p0 p1 p2 p3 p4)
theorem h_spec_l2Heap_4 : l_spec_l2Heap_4 = fun m0 p0 p1 p2 p3 p4 => L_spec_l2Heap_4 N P_spec_l2Sides P_spec_l2In P_spec_l2Before m0 p0 p1 p2 p3 p4 := hid_eq _
theorem p_spec_l2Heap (a0 : D_Heap) : P_spec_l2Heap (a0, ()) = 
  Option.bind (P_spec_l2Sides (a0.1, a0.2.1, a0.2.2.1, ())) fun r0 =>
  bif !r0.1 then
    some (false, ())
  else
    l_spec_l2Heap_4 N a0.1 a0.2.1 a0.2.2.1 a0.2.2.2.1 0 := by
  rewrite [h_spec_l2Heap, h_spec_l2Heap_4]
  kernel_rfl
theorem q_spec_l2Heap_4 (m0 : Nat) (p0 : Int) (p1 : Int) (p2 : Int) (p3 : List D_A3) (p4 : Int) : l_spec_l2Heap_4 (m0 + 1) p0 p1 p2 p3 p4 = 
  bif decide (p4 < (List.length p3 : Int)) then
    bif inB p4 (List.length p3) then
      Option.bind (P_spec_l2In ((p0, (p1, (p2, (p3, ())))), (nth T_A3 p3 p4), ())) fun r2 =>
      bif !r2.1 then
        some (false, ())
      else
        bif decide (p4 > 0) then
          bif inB (IntKind.wrap .i64 (p4 - 1)) (List.length p3) then
            bif inB p4 (List.length p3) then
              Option.bind (P_spec_l2Before ((nth T_A3 p3 (IntKind.wrap .i64 (p4 - 1))), (nth T_A3 p3 p4), ())) fun r7 =>
              bif !r7.1 then
                some (false, ())
              else
                l_spec_l2Heap_4 m0 p0 p1 p2 p3 (IntKind.wrap .i64 (p4 + 1))
            else none
          else none
        else
          l_spec_l2Heap_4 m0 p0 p1 p2 p3 (IntKind.wrap .i64 (p4 + 1))
    else none
  else
    some (true, ()) := by
  rewrite [h_spec_l2Heap_4]
  kernel_rfl

/- 41: loop.example/g01166/spec.l12Good -/
abbrev As_spec_l12Good : List ATy := [.data true T_Bench]
abbrev R_spec_l12Good : List (Bool × Ty) := [(false, .bool)]
abbrev M_spec_l12Good : List RMode := []
abbrev Ft_spec_l12Good : Type := D_Bench × Unit → Option (Bool × Unit)
noncomputable def X_spec_l12Good (n : Nat) (F_spec_l2Heap : Ft_spec_l2Heap) (F_spec_l1In : Ft_spec_l1In) : Ctx := { types := TT, globals := [], con := [(24, ⟨As_spec_l2Heap, R_spec_l2Heap, M_spec_l2Heap, F_spec_l2Heap⟩), (49, ⟨As_spec_l1In, R_spec_l1In, M_spec_l1In, F_spec_l1In⟩)], keep := [], results := [.tmp 2], ntmps := 20, n := n }
noncomputable def B_spec_l12Good : Code := (Try.f41.body).getD .skip
noncomputable def P_spec_l12Good : Ft_spec_l12Good := hid (runF (X_spec_l12Good N P_spec_l2Heap P_spec_l1In) B_spec_l12Good As_spec_l12Good R_spec_l12Good M_spec_l12Good)
theorem h_spec_l12Good : P_spec_l12Good = runF (X_spec_l12Good N P_spec_l2Heap P_spec_l1In) B_spec_l12Good As_spec_l12Good R_spec_l12Good M_spec_l12Good := hid_eq _
noncomputable def C_spec_l12Good : Contract := ⟨As_spec_l12Good, R_spec_l12Good, M_spec_l12Good, P_spec_l12Good⟩
theorem s_spec_l12Good : Sound Try.prog GG 41 C_spec_l12Good := by
  unfold C_spec_l12Good; rw [h_spec_l12Good]
  exact sound_of_run (fn := Try.f41) hmix hstable (tyOK_of ttOK) (hglob (X_spec_l12Good N P_spec_l2Heap P_spec_l1In)) (conOK_of (X := X_spec_l12Good N P_spec_l2Heap P_spec_l1In) ⟨s_spec_l2Heap, s_spec_l1In, trivial⟩) (mconOK_of (X := X_spec_l12Good N P_spec_l2Heap P_spec_l1In) trivial) (by kernel_rfl) (by kernel_rfl) (by kernel_rfl) (by kernel_rfl) (by kernel_rfl) (of_decide_eq_true (by kernel_rfl))
theorem p_spec_l12Good (a0 : D_Bench) : P_spec_l12Good (a0, ()) = 
  Option.bind (P_spec_l2Heap (a0.1, ())) fun r0 =>
  bif r0.1 then
    Option.bind (P_spec_l1In (a0.2.2.1, 0, 1000, ())) fun r2 =>
    bif r2.1 then
      Option.bind (P_spec_l1In (a0.2.1, 0, (List.length a0.1.2.2.2.1 : Int), ())) fun r4 =>
      some (r4.1, ())
    else
      some (false, ())
  else
    some (false, ()) := by
  rewrite [h_spec_l12Good]
  kernel_rfl

/- 88: loop.example/g01166/spec.l3Ones -/
abbrev As_spec_l3Ones : List ATy := [.data false (.sl (.int .i64)), .data false (.int .i64)]
abbrev R_spec_l3Ones : List (Bool × Ty) := [(false, .bool)]
abbrev M_spec_l3Ones : List RMode := []
abbrev Ft_spec_l3Ones : Type := (List Int) × Int × Unit → Option (Bool × Unit)
noncomputable def X_spec_l3Ones (n : Nat) (F_spec_l1In : Ft_spec_l1In) : Ctx := { types := TT, globals := [], con := [(49, ⟨As_spec_l1In, R_spec_l1In, M_spec_l1In, F_spec_l1In⟩)], keep := [(2, ⟨[.tmp 0, .tmp 1, .tmp 5], []⟩)], results := [.tmp 4], ntmps := 22, n := n }
noncomputable def B_spec_l3Ones : Code := (Try.f88.body).getD .skip
noncomputable def L_spec_l3Ones_2 (n : Nat) (F_spec_l1In : Ft_spec_l1In) (m0 : Nat) (p0 : List Int) (p1 : Int) (p2 : Int) : Option (denL R_spec_l3Ones) := loopF (X_spec_l3Ones n F_spec_l1In) B_spec_l3Ones R_spec_l3Ones M_spec_l3Ones 2 [m0] [(.ver, .num 1), (.tmp 0, .val false [.imm (.int .i64) p0 (some 0)]), (.tmp 1, .val false [.int .i64 p1]), (.tmp 5, .val false [.int .i64 p2])]
noncomputable def P_spec_l3Ones : Ft_spec_l3Ones := hid (runF (X_spec_l3Ones N P_spec_l1In) B_spec_l3Ones As_spec_l3Ones R_spec_l3Ones M_spec_l3Ones)
theorem h_spec_l3Ones : P_spec_l3Ones = runF (X_spec_l3Ones N P_spec_l1In) B_spec_l3Ones As_spec_l3Ones R_spec_l3Ones M_spec_l3Ones := hid_eq _
noncomputable def C_spec_l3Ones : Contract := ⟨As_spec_l3Ones, R_spec_l3Ones, M_spec_l3Ones, P_spec_l3Ones⟩
theorem s_spec_l3Ones : Sound Try.prog GG 88 C_spec_l3Ones := by
  unfold C_spec_l3Ones; rw [h_spec_l3Ones]
  exact sound_of_run (fn := Try.f88) hmix hstable (tyOK_of ttOK) (hglob (X_spec_l3Ones N P_spec_l1In)) (conOK_of (X := X_spec_l3Ones N P_spec_l1In) ⟨s_spec_l1In, trivial⟩) (mconOK_of (X := X_spec_l3Ones N P_spec_l1In) trivial) (by kernel_rfl) (by kernel_rfl) (by kernel_rfl) (by kernel_rfl) (by kernel_rfl) (of_decide_eq_true (by kernel_rfl))
noncomputable def l_spec_l3Ones_2 : Nat → (List Int) → Int → Int → Option (denL R_spec_l3Ones) := hid (fun m0 p0 p1 p2 => L_spec_l3Ones_2 N P_spec_l1In m0 p0 p1 p2)
theorem h_spec_l3Ones_2 : l_spec_l3Ones_2 = fun m0 p0 p1 p2 => L_spec_l3Ones_2 N P_spec_l1In m0 p0 p1 p2 := hid_eq _
theorem p_spec_l3Ones (a0 : List Int) (a1 : Int) : P_spec_l3Ones (a0, a1, ()) = 
  l_spec_l3Ones_2 N a0 a1 0 := by
  rewrite [h_spec_l3Ones, h_spec_l3Ones_2]
  kernel_rfl
theorem q_spec_l3Ones_2 (m0 : Nat) (p0 : List Int) (p1 : Int) (p2 : Int) : l_spec_l3Ones_2 (m0 + 1) p0 p1 p2 = 
  bif decide (p2 < (List.length p0 : Int)) then
    bif inB p2 (List.length p0) then
      Option.bind (P_spec_l1In ((nth ((.int .i64) : Ty) p0 p2), 0, 1, ())) fun r2 =>
      bif !r2.1 then
        some (false, ())
      else
        l_spec_l3Ones_2 m0 p0 p1 (IntKind.wrap .i64 (p2 + 1))
    else none
  else
    some (decide ((List.length p0 : Int) = p1), ()) := by
  rewrite [h_spec_l3Ones_2]
  kernel_rfl

/- 77: loop.example/g01166/spec.l3Shadow -/
abbrev As_spec_l3Shadow : List ATy := [.data true T_Shadow]
abbrev R_spec_l3Shadow : List (Bool × Ty) := [(false, .bool)]
abbrev M_spec_l3Shadow : List RMode := []
abbrev Ft_spec_l3Shadow : Type := D_Shadow × Unit → Option (Bool × Unit)
noncomputable def X_spec_l3Shadow (n : Nat) (F_spec_l2Sides : Ft_spec_l2Sides) (F_spec_l3Ones : Ft_spec_l3Ones) : Ctx := { types := TT, globals := [], con := [(46, ⟨As_spec_l2Sides, R_spec_l2Sides, M_spec_l2Sides, F_spec_l2Sides⟩), (88, ⟨As_spec_l3Ones, R_spec_l3Ones, M_spec_l3Ones, F_spec_l3Ones⟩)], keep := [], results := [.tmp 2], ntmps := 40, n := n }
noncomputable def B_spec_l3Shadow : Code := (Try.f77.body).getD .skip
noncomputable def P_spec_l3Shadow : Ft_spec_l3Shadow := hid (runF (X_spec_l3Shadow N P_spec_l2Sides P_spec_l3Ones) B_spec_l3Shadow As_spec_l3Shadow R_spec_l3Shadow M_spec_l3Shadow)
theorem h_spec_l3Shadow : P_spec_l3Shadow = runF (X_spec_l3Shadow N P_spec_l2Sides P_spec_l3Ones) B_spec_l3Shadow As_spec_l3Shadow R_spec_l3Shadow M_spec_l3Shadow := hid_eq _
noncomputable def C_spec_l3Shadow : Contract := ⟨As_spec_l3Shadow, R_spec_l3Shadow, M_spec_l3Shadow, P_spec_l3Shadow⟩
theorem s_spec_l3Shadow : Sound Try.prog GG 77 C_spec_l3Shadow := by
  unfold C_spec_l3Shadow; rw [h_spec_l3Shadow]
  exact sound_of_run (fn := Try.f77) hmix hstable (tyOK_of ttOK) (hglob (X_spec_l3Shadow N P_spec_l2Sides P_spec_l3Ones)) (conOK_of (X := X_spec_l3Shadow N P_spec_l2Sides P_spec_l3Ones) ⟨s_spec_l2Sides, s_spec_l3Ones, trivial⟩) (mconOK_of (X := X_spec_l3Shadow N P_spec_l2Sides P_spec_l3Ones) trivial) (by kernel_rfl) (by kernel_rfl) (by kernel_rfl) (by kernel_rfl) (by kernel_rfl) (of_decide_eq_true (by kernel_rfl))
theorem p_spec_l3Shadow (a0 : D_Shadow) : P_spec_l3Shadow (a0, ()) = 
  Option.bind (P_spec_l2Sides (a0.1, a0.2.1, a0.2.2.1, ())) fun r0 =>
  bif r0.1 then
    Option.bind (P_spec_l3Ones (a0.2.2.2.1, (IntKind.wrap .i64 (a0.1 * a0.2.1)), ())) fun r2 =>
    bif r2.1 then
      Option.bind (P_spec_l3Ones (a0.2.2.2.2.1, (IntKind.wrap .i64 (a0.1 * a0.2.2.1)), ())) fun r4 =>
      bif r4.1 then
        Option.bind (P_spec_l3Ones (a0.2.2.2.2.2.1, (IntKind.wrap .i64 (a0.2.1 * a0.2.2.1)), ())) fun r6 =>
        some (r6.1, ())
      else
        some (false, ())
    else
      some (false, ())
  else
    some (false, ()) := by
  rewrite [h_spec_l3Shadow]
  kernel_rfl

/- 78: loop.example/g01166/spec.l1Most -/
abbrev As_spec_l1Most : List ATy := [.data false (.int .i64), .data false (.int .i64)]
abbrev R_spec_l1Most : List (Bool × Ty) := [(false, (.int .i64))]
abbrev M_spec_l1Most : List RMode := []
abbrev Ft_spec_l1Most : Type := Int × Int × Unit → Option (Int × Unit)
noncomputable def X_spec_l1Most (n : Nat) : Ctx := { types := TT, globals := [], con := [], keep := [], results := [.tmp 4], ntmps := 10, n := n }
noncomputable def B_spec_l1Most : Code := (Try.f78.body).getD .skip
noncomputable def P_spec_l1Most : Ft_spec_l1Most := hid (runF (X_spec_l1Most N) B_spec_l1Most As_spec_l1Most R_spec_l1Most M_spec_l1Most)
theorem h_spec_l1Most : P_spec_l1Most = runF (X_spec_l1Most N) B_spec_l1Most As_spec_l1Most R_spec_l1Most M_spec_l1Most := hid_eq _
noncomputable def C_spec_l1Most : Contract := ⟨As_spec_l1Most, R_spec_l1Most, M_spec_l1Most, P_spec_l1Most⟩
theorem s_spec_l1Most : Sound Try.prog GG 78 C_spec_l1Most := by
  unfold C_spec_l1Most; rw [h_spec_l1Most]
  exact sound_of_run (fn := Try.f78) hmix hstable (tyOK_of ttOK) (hglob (X_spec_l1Most N)) (conOK_of (X := X_spec_l1Most N) trivial) (mconOK_of (X := X_spec_l1Most N) trivial) (by kernel_rfl) (by kernel_rfl) (by kernel_rfl) (by kernel_rfl) (by kernel_rfl) (of_decide_eq_true (by kernel_rfl))
theorem p_spec_l1Most (a0 : Int) (a1 : Int) : P_spec_l1Most (a0, a1, ()) = 
  bif decide (a0 > a1) then
    some (a0, ())
  else
    some (a1, ()) := by
  rewrite [h_spec_l1Most]
  kernel_rfl

/- 79: loop.example/g01166/spec.l3Lit -/
abbrev As_spec_l3Lit : List ATy := [.data false (.sl (.int .i64))]
abbrev R_spec_l3Lit : List (Bool × Ty) := [(false, (.int .i64))]
abbrev M_spec_l3Lit : List RMode := []
abbrev Ft_spec_l3Lit : Type := (List Int) × Unit → Option (Int × Unit)
noncomputable def X_spec_l3Lit (n : Nat) : Ctx := { types := TT, globals := [], con := [], keep := [(3, ⟨[.tmp 0, .tmp 3, .tmp 4], []⟩)], results := [.tmp 2], ntmps := 18, n := n }
noncomputable def B_spec_l3Lit : Code := (Try.f79.body).getD .skip
noncomputable def L_spec_l3Lit_3 (n : Nat) (m0 : Nat) (p0 : List Int) (p1 : Int) (p2 : Int) : Option (denL R_spec_l3Lit) := loopF (X_spec_l3Lit n) B_spec_l3Lit R_spec_l3Lit M_spec_l3Lit 3 [m0] [(.ver, .num 1), (.tmp 0, .val false [.imm (.int .i64) p0 (some 0)]), (.tmp 3, .val false [.int .i64 p1]), (.tmp 4, .val false [.int .i64 p2])]
noncomputable def P_spec_l3Lit : Ft_spec_l3Lit := hid (runF (X_spec_l3Lit N) B_spec_l3Lit As_spec_l3Lit R_spec_l3Lit M_spec_l3Lit)
theorem h_spec_l3Lit : P_spec_l3Lit = runF (X_spec_l3Lit N) B_spec_l3Lit As_spec_l3Lit R_spec_l3Lit M_spec_l3Lit := hid_eq _
noncomputable def C_spec_l3Lit : Contract := ⟨As_spec_l3Lit, R_spec_l3Lit, M_spec_l3Lit, P_spec_l3Lit⟩
theorem s_spec_l3Lit : Sound Try.prog GG 79 C_spec_l3Lit := by
  unfold C_spec_l3Lit; rw [h_spec_l3Lit]
  exact sound_of_run (fn := Try.f79) hmix hstable (tyOK_of ttOK) (hglob (X_spec_l3Lit N)) (conOK_of (X := X_spec_l3Lit N) trivial) (mconOK_of (X := X_spec_l3Lit N) trivial) (by kernel_rfl) (by kernel_rfl) (by kernel_rfl) (by kernel_rfl) (by kernel_rfl) (of_decide_eq_true (by kernel_rfl))
noncomputable def l_spec_l3Lit_3 : Nat → (List Int) → Int → Int → Option (denL R_spec_l3Lit) := hid (fun m0 p0 p1 p2 => L_spec_l3Lit_3 N m0 p0 p1 p2)
theorem h_spec_l3Lit_3 : l_spec_l3Lit_3 = fun m0 p0 p1 p2 => L_spec_l3Lit_3 N m0 p0 p1 p2 := hid_eq _
theorem p_spec_l3Lit (a0 : List Int) : P_spec_l3Lit (a0, ()) = 
  l_spec_l3Lit_3 N a0 0 0 := by
  rewrite [h_spec_l3Lit, h_spec_l3Lit_3]
  kernel_rfl
theorem q_spec_l3Lit_3 (m0 : Nat) (p0 : List Int) (p1 : Int) (p2 : Int) : l_spec_l3Lit_3 (m0 + 1) p0 p1 p2 = 
  bif decide (p2 < (List.length p0 : Int)) then
    bif inB p2 (List.length p0) then
      l_spec_l3Lit_3 m0 p0 (IntKind.wrap .i64 (p1 + (nth ((.int .i64) : Ty) p0 p2))) (IntKind.wrap .i64 (p2 + 1))
    else none
  else
    some (p1, ()) := by
  rewrite [h_spec_l3Lit_3]
  kernel_rfl

/- 69: loop.example/g01166/spec.LineBound -/
abbrev As_spec_LineBound : List ATy := [.data true T_Shadow]
abbrev R_spec_LineBound : List (Bool × Ty) := [(false, (.int .i64)), (false, .bool)]
abbrev M_spec_LineBound : List RMode := []
abbrev Ft_spec_LineBound : Type := D_Shadow × Unit → Option (Int × Bool × Unit)
noncomputable def X_spec_LineBound (n : Nat) (F_spec_l3Shadow : Ft_spec_l3Shadow) (F_spec_l1Most : Ft_spec_l1Most) (F_spec_l3Lit : Ft_spec_l3Lit) : Ctx := { types := TT, globals := [], con := [(77, ⟨As_spec_l3Shadow, R_spec_l3Shadow, M_spec_l3Shadow, F_spec_l3Shadow⟩), (78, ⟨As_spec_l1Most, R_spec_l1Most, M_spec_l1Most, F_spec_l1Most⟩), (79, ⟨As_spec_l3Lit, R_spec_l3Lit, M_spec_l3Lit, F_spec_l3Lit⟩)], keep := [], results := [.tmp 2, .tmp 3], ntmps := 18, n := n }
noncomputable def B_spec_LineBound : Code := (Try.f69.body).getD .skip
noncomputable def P_spec_LineBound : Ft_spec_LineBound := hid (runF (X_spec_LineBound N P_spec_l3Shadow P_spec_l1Most P_spec_l3Lit) B_spec_LineBound As_spec_LineBound R_spec_LineBound M_spec_LineBound)
theorem h_spec_LineBound : P_spec_LineBound = runF (X_spec_LineBound N P_spec_l3Shadow P_spec_l1Most P_spec_l3Lit) B_spec_LineBound As_spec_LineBound R_spec_LineBound M_spec_LineBound := hid_eq _
noncomputable def C_spec_LineBound : Contract := ⟨As_spec_LineBound, R_spec_LineBound, M_spec_LineBound, P_spec_LineBound⟩
theorem s_spec_LineBound : Sound Try.prog GG 69 C_spec_LineBound := by
  unfold C_spec_LineBound; rw [h_spec_LineBound]
  exact sound_of_run (fn := Try.f69) hmix hstable (tyOK_of ttOK) (hglob (X_spec_LineBound N P_spec_l3Shadow P_spec_l1Most P_spec_l3Lit)) (conOK_of (X := X_spec_LineBound N P_spec_l3Shadow P_spec_l1Most P_spec_l3Lit) ⟨s_spec_l3Shadow, s_spec_l1Most, s_spec_l3Lit, trivial⟩) (mconOK_of (X := X_spec_LineBound N P_spec_l3Shadow P_spec_l1Most P_spec_l3Lit) trivial) (by kernel_rfl) (by kernel_rfl) (by kernel_rfl) (by kernel_rfl) (by kernel_rfl) (of_decide_eq_true (by kernel_rfl))
theorem p_spec_LineBound (a0 : D_Shadow) : P_spec_LineBound (a0, ()) = 
  Option.bind (P_spec_l3Shadow (a0, ())) fun r0 =>
  bif !r0.1 then
    some (0, false, ())
  else
    Option.bind (P_spec_l3Lit (a0.2.2.2.1, ())) fun r2 =>
    Option.bind (P_spec_l3Lit (a0.2.2.2.2.1, ())) fun r3 =>
    Option.bind (P_spec_l3Lit (a0.2.2.2.2.2.1, ())) fun r4 =>
    Option.bind (P_spec_l1Most (r3.1, r4.1, ())) fun r5 =>
    Option.bind (P_spec_l1Most (r2.1, r5.1, ())) fun r6 =>
    some (r6.1, true, ()) := by
  rewrite [h_spec_LineBound]
  kernel_rfl

/- 93: loop.example/g01166/spec.l1Least -/
abbrev As_spec_l1Least : List ATy := [.data false (.int .i64), .data false (.int .i64)]
abbrev R_spec_l1Least : List (Bool × Ty) := [(false, (.int .i64))]
abbrev M_spec_l1Least : List RMode := []
abbrev Ft_spec_l1Least : Type := Int × Int × Unit → Option (Int × Unit)
noncomputable def X_spec_l1Least (n : Nat) : Ctx := { types := TT, globals := [], con := [], keep := [], results := [.tmp 4], ntmps := 10, n := n }
noncomputable def B_spec_l1Least : Code := (Try.f93.body).getD .skip
noncomputable def P_spec_l1Least : Ft_spec_l1Least := hid (runF (X_spec_l1Least N) B_spec_l1Least As_spec_l1Least R_spec_l1Least M_spec_l1Least)
theorem h_spec_l1Least : P_spec_l1Least = runF (X_spec_l1Least N) B_spec_l1Least As_spec_l1Least R_spec_l1Least M_spec_l1Least := hid_eq _
noncomputable def C_spec_l1Least : Contract := ⟨As_spec_l1Least, R_spec_l1Least, M_spec_l1Least, P_spec_l1Least⟩
theorem s_spec_l1Least : Sound Try.prog GG 93 C_spec_l1Least := by
  unfold C_spec_l1Least; rw [h_spec_l1Least]
  exact sound_of_run (fn := Try.f93) hmix hstable (tyOK_of ttOK) (hglob (X_spec_l1Least N)) (conOK_of (X := X_spec_l1Least N) trivial) (mconOK_of (X := X_spec_l1Least N) trivial) (by kernel_rfl) (by kernel_rfl) (by kernel_rfl) (by kernel_rfl) (by kernel_rfl) (of_decide_eq_true (by kernel_rfl))
theorem p_spec_l1Least (a0 : Int) (a1 : Int) : P_spec_l1Least (a0, a1, ()) = 
  bif decide (a0 < a1) then
    some (a0, ())
  else
    some (a1, ()) := by
  rewrite [h_spec_l1Least]
  kernel_rfl

/- 89: loop.example/g01166/spec.l2Ones -/
abbrev As_spec_l2Ones : List ATy := [.data false (.sl (.int .i64))]
abbrev R_spec_l2Ones : List (Bool × Ty) := [(false, (.sl (.int .i64)))]
abbrev M_spec_l2Ones : List RMode := [.own 3]
abbrev Ft_spec_l2Ones : Type := (List Int) × Unit → Option ((List Int) × Unit)
noncomputable def X_spec_l2Ones (n : Nat) (F_spec_l1Least : Ft_spec_l1Least) : Ctx := { types := TT, globals := [], con := [(93, ⟨As_spec_l1Least, R_spec_l1Least, M_spec_l1Least, F_spec_l1Least⟩)], keep := [(3, ⟨[.tmp 0, .tmp 3, .tmp 4], []⟩)], results := [.tmp 2], ntmps := 21, n := n }
noncomputable def B_spec_l2Ones : Code := (Try.f89.body).getD .skip
noncomputable def L_spec_l2Ones_3 (n : Nat) (F_spec_l1Least : Ft_spec_l1Least) (m0 : Nat) (p0 : List Int) (p1 : List Int) (p2 : Int) : Option (denL R_spec_l2Ones) := loopF (X_spec_l2Ones n F_spec_l1Least) B_spec_l2Ones R_spec_l2Ones M_spec_l2Ones 3 [m0] [(.ver, .num 1), (.tmp 0, .val false [.imm (.int .i64) p0 (some 0)]), (.tmp 3, .val false [.own 3 (.int .i64) 0 p1]), (.tmp 4, .val false [.int .i64 p2])]
noncomputable def P_spec_l2Ones : Ft_spec_l2Ones := hid (runF (X_spec_l2Ones N P_spec_l1Least) B_spec_l2Ones As_spec_l2Ones R_spec_l2Ones M_spec_l2Ones)
theorem h_spec_l2Ones : P_spec_l2Ones = runF (X_spec_l2Ones N P_spec_l1Least) B_spec_l2Ones As_spec_l2Ones R_spec_l2Ones M_spec_l2Ones := hid_eq _
noncomputable def C_spec_l2Ones : Contract := ⟨As_spec_l2Ones, R_spec_l2Ones, M_spec_l2Ones, P_spec_l2Ones⟩
theorem s_spec_l2Ones : Sound Try.prog GG 89 C_spec_l2Ones := by
  unfold C_spec_l2Ones; rw [h_spec_l2Ones]
  exact sound_of_run (fn := Try.f89) hmix hstable (tyOK_of ttOK) (hglob (X_spec_l2Ones N P_spec_l1Least)) (conOK_of (X := X_spec_l2Ones N P_spec_l1Least) ⟨s_spec_l1Least, trivial⟩) (mconOK_of (X := X_spec_l2Ones N P_spec_l1Least) trivial) (by kernel_rfl) (by kernel_rfl) (by kernel_rfl) (by kernel_rfl) (by kernel_rfl) (of_decide_eq_true (by kernel_rfl))
noncomputable def l_spec_l2Ones_3 : Nat → (List Int) → (List Int) → Int → Option (denL R_spec_l2Ones) := hid (fun m0 p0 p1 p2 => L_spec_l2Ones_3 N P_spec_l1Least m0 p0 p1 p2)
theorem h_spec_l2Ones_3 : l_spec_l2Ones_3 = fun m0 p0 p1 p2 => L_spec_l2Ones_3 N P_spec_l1Least m0 p0 p1 p2 := hid_eq _
theorem p_spec_l2Ones (a0 : List Int) : P_spec_l2Ones (a0, ()) = 
  l_spec_l2Ones_3 N a0 ([] : List Int) 0 := by
  rewrite [h_spec_l2Ones, h_spec_l2Ones_3]
  kernel_rfl
theorem q_spec_l2Ones_3 (m0 : Nat) (p0 : List Int) (p1 : List Int) (p2 : Int) : l_spec_l2Ones_3 (m0 + 1) p0 p1 p2 = 
  bif decide (p2 < (List.length p0 : Int)) then
    bif inB p2 (List.length p0) then
      Option.bind (P_spec_l1Least ((nth ((.int .i64) : Ty) p0 p2), 1, ())) fun r2 =>
      bif (decide (((List.length p1) + (List.length ([r2.1] : List Int))) * 8 ≤ 140737488355328) && decide (((List.length p1) + (List.length ([r2.1] : List Int))) ≤ 140737488355328)) then
        l_spec_l2Ones_3 m0 p0 (p1 ++ ([r2.1] : List Int)) (IntKind.wrap .i64 (p2 + 1))
      else none
    else none
  else
    some (p1, ()) := by
  rewrite [h_spec_l2Ones_3]
  kernel_rfl

/- 50: loop.example/g01166/spec.l2Long -/
abbrev As_spec_l2Long : List ATy := [.data true T_Heap, .data false (.int .i64)]
abbrev R_spec_l2Long : List (Bool × Ty) := [(false, (.int .i64))]
abbrev M_spec_l2Long : List RMode := []
abbrev Ft_spec_l2Long : Type := D_Heap × Int × Unit → Option (Int × Unit)
noncomputable def X_spec_l2Long (n : Nat) : Ctx := { types := TT, globals := [], con := [], keep := [], results := [.tmp 4], ntmps := 14, n := n }
noncomputable def B_spec_l2Long : Code := (Try.f50.body).getD .skip
noncomputable def P_spec_l2Long : Ft_spec_l2Long := hid (runF (X_spec_l2Long N) B_spec_l2Long As_spec_l2Long R_spec_l2Long M_spec_l2Long)
theorem h_spec_l2Long : P_spec_l2Long = runF (X_spec_l2Long N) B_spec_l2Long As_spec_l2Long R_spec_l2Long M_spec_l2Long := hid_eq _
noncomputable def C_spec_l2Long : Contract := ⟨As_spec_l2Long, R_spec_l2Long, M_spec_l2Long, P_spec_l2Long⟩
theorem s_spec_l2Long : Sound Try.prog GG 50 C_spec_l2Long := by
  unfold C_spec_l2Long; rw [h_spec_l2Long]
  exact sound_of_run (fn := Try.f50) hmix hstable (tyOK_of ttOK) (hglob (X_spec_l2Long N)) (conOK_of (X := X_spec_l2Long N) trivial) (mconOK_of (X := X_spec_l2Long N) trivial) (by kernel_rfl) (by kernel_rfl) (by kernel_rfl) (by kernel_rfl) (by kernel_rfl) (of_decide_eq_true (by kernel_rfl))
theorem p_spec_l2Long (a0 : D_Heap) (a1 : Int) : P_spec_l2Long (a0, a1, ()) = 
  bif inB a1 3 then
    some ((bif decide (a1 = (0 : Int)) then a0.1 else (bif decide (a1 = (1 : Int)) then a0.2.1 else a0.2.2.1)), ())
  else none := by
  rewrite [h_spec_l2Long]
  kernel_rfl

/- 94: loop.example/g01166/spec.l2Others -/
abbrev As_spec_l2Others : List ATy := [.data false (.int .i64)]
abbrev R_spec_l2Others : List (Bool × Ty) := [(false, (.int .i64)), (false, (.int .i64))]
abbrev M_spec_l2Others : List RMode := []
abbrev Ft_spec_l2Others : Type := Int × Unit → Option (Int × Int × Unit)
noncomputable def X_spec_l2Others (n : Nat) : Ctx := { types := TT, globals := [], con := [], keep := [], results := [.tmp 2, .tmp 3], ntmps := 9, n := n }
noncomputable def B_spec_l2Others : Code := (Try.f94.body).getD .skip
noncomputable def P_spec_l2Others : Ft_spec_l2Others := hid (runF (X_spec_l2Others N) B_spec_l2Others As_spec_l2Others R_spec_l2Others M_spec_l2Others)
theorem h_spec_l2Others : P_spec_l2Others = runF (X_spec_l2Others N) B_spec_l2Others As_spec_l2Others R_spec_l2Others M_spec_l2Others := hid_eq _
noncomputable def C_spec_l2Others : Contract := ⟨As_spec_l2Others, R_spec_l2Others, M_spec_l2Others, P_spec_l2Others⟩
theorem s_spec_l2Others : Sound Try.prog GG 94 C_spec_l2Others := by
  unfold C_spec_l2Others; rw [h_spec_l2Others]
  exact sound_of_run (fn := Try.f94) hmix hstable (tyOK_of ttOK) (hglob (X_spec_l2Others N)) (conOK_of (X := X_spec_l2Others N) trivial) (mconOK_of (X := X_spec_l2Others N) trivial) (by kernel_rfl) (by kernel_rfl) (by kernel_rfl) (by kernel_rfl) (by kernel_rfl) (of_decide_eq_true (by kernel_rfl))
theorem p_spec_l2Others (a0 : Int) : P_spec_l2Others (a0, ()) = 
  bif decide (a0 = 0) then
    some (1, 2, ())
  else
    bif decide (a0 = 1) then
      some (0, 2, ())
    else
      some (0, 1, ()) := by
  rewrite [h_spec_l2Others]
  kernel_rfl

/- 90: loop.example/g01166/spec.l2View -/
abbrev As_spec_l2View : List ATy := [.data true T_Heap, .data false (.int .i64)]
abbrev R_spec_l2View : List (Bool × Ty) := [(false, (.sl (.int .i64)))]
abbrev M_spec_l2View : List RMode := [.own 3]
abbrev Ft_spec_l2View : Type := D_Heap × Int × Unit → Option ((List Int) × Unit)
noncomputable def X_spec_l2View (n : Nat) (F_spec_l2Long : Ft_spec_l2Long) (F_spec_l2Others : Ft_spec_l2Others) : Ctx := { types := TT, globals := [], con := [(50, ⟨As_spec_l2Long, R_spec_l2Long, M_spec_l2Long, F_spec_l2Long⟩), (94, ⟨As_spec_l2Others, R_spec_l2Others, M_spec_l2Others, F_spec_l2Others⟩)], keep := [(4, ⟨[.box 2, .tmp 2, .tmp 5, .tmp 6, .tmp 7, .tmp 8], []⟩)], results := [.tmp 4], ntmps := 54, n := n }
noncomputable def B_spec_l2View : Code := (Try.f90.body).getD .skip
noncomputable def L_spec_l2View_4 (n : Nat) (F_spec_l2Long : Ft_spec_l2Long) (F_spec_l2Others : Ft_spec_l2Others) (m0 : Nat) (p0 : Int) (p1 : Int) (p2 : Int) (p3 : List D_A3) (p4 : Int) (p5 : Int) (p6 : List Int) (p7 : Int) : Option (denL R_spec_l2View) := loopF (X_spec_l2View n F_spec_l2Long F_spec_l2Others) B_spec_l2View R_spec_l2View M_spec_l2View 4 [m0] [(.ver, .num 1), (.box 2, .box 0 false [.int .i64 p0, .int .i64 p1, .int .i64 p2, .imm T_A3 p3 (some 3)]), (.tmp 2, .val false [.addr 2 0 0]), (.tmp 5, .val false [.int .i64 p4]), (.tmp 6, .val false [.int .i64 p5]), (.tmp 7, .val false [.own 3 (.int .i64) 0 p6]), (.tmp 8, .val false [.int .i64 p7])]
noncomputable def P_spec_l2View : Ft_spec_l2View := hid (runF (X_spec_l2View N P_spec_l2Long P_spec_l2Others) B_spec_l2View As_spec_l2View R_spec_l2View M_spec_l2View)
theorem h_spec_l2View : P_spec_l2View = runF (X_spec_l2View N P_spec_l2Long P_spec_l2Others) B_spec_l2View As_spec_l2View R_spec_l2View M_spec_l2View := hid_eq _
noncomputable def C_spec_l2View : Contract := ⟨As_spec_l2View, R_spec_l2View, M_spec_l2View, P_spec_l2View⟩
theorem s_spec_l2View : Sound Try.prog GG 90 C_spec_l2View := by
  unfold C_spec_l2View; rw [h_spec_l2View]
  exact sound_of_run (fn := Try.f90) hmix hstable (tyOK_of ttOK) (hglob (X_spec_l2View N P_spec_l2Long P_spec_l2Others)) (conOK_of (X := X_spec_l2View N P_spec_l2Long P_spec_l2Others) ⟨s_spec_l2Long, s_spec_l2Others, trivial⟩) (mconOK_of (X := X_spec_l2View N P_spec_l2Long P_spec_l2Others) trivial) (by kernel_rfl) (by kernel_rfl) (by kernel_rfl) (by kernel_rfl) (by kernel_rfl) (of_decide_eq_true (by kernel_rfl))
noncomputable def l_spec_l2View_4 : Nat → Int → Int → Int → (List D_A3) → Int → Int → (List Int) → Int → Option (denL R_spec_l2View) := hid (fun m0 p0 p1 p2 p3 p4 p5 p6 p7 => L_spec_l2View_4 N P_spec_l2Long P_spec_l2Others m0 p0 p1 p2 p3 p4 p5 p6 p7)
theorem h_spec_l2View_4 : l_spec_l2View_4 = fun m0 p0 p1 p2 p3 p4 p5 p6 p7 => L_spec_l2View_4 N P_spec_l2Long P_spec_l2Others m0 p0 p1 p2 p3 p4 p5 p6 p7 := hid_eq _
theorem p_spec_l2View (a0 : D_Heap) (a1 : Int) : P_spec_l2View (a0, a1, ()) = 
  Option.bind (P_spec_l2Others (a1, ())) fun r0 =>
  Option.bind (P_spec_l2Long (a0, r0.1, ())) fun r1 =>
  Option.bind (P_spec_l2Long (a0, r0.2.1, ())) fun r2 =>
  bif (decide ((0 : Int) ≤ (IntKind.wrap .i64 (r1.1 * r2.1))) && decide (((IntKind.wrap .i64 (r1.1 * r2.1)) : Int) ≤ (IntKind.wrap .i64 (r1.1 * r2.1))) && decide (((IntKind.wrap .i64 (r1.1 * r2.1)) : Int) * (8 : Nat) ≤ 140737488355328) && decide (((IntKind.wrap .i64 (r1.1 * r2.1)) : Int) ≤ 140737488355328)) then
    l_spec_l2View_4 N a0.1 a0.2.1 a0.2.2.1 a0.2.2.2.1 r0.1 r0.2.1 (List.replicate (Int.toNat (IntKind.wrap .i64 (r1.1 * r2.1))) (Ty.dflt ((.int .i64) : Ty))) 0
  else none := by
  rewrite [h_spec_l2View, h_spec_l2View_4]
  kernel_rfl
theorem q_spec_l2View_4 (m0 : Nat) (p0 : Int) (p1 : Int) (p2 : Int) (p3 : List D_A3) (p4 : Int) (p5 : Int) (p6 : List Int) (p7 : Int) : l_spec_l2View_4 (m0 + 1) p0 p1 p2 p3 p4 p5 p6 p7 = 
  bif decide (p7 < (List.length p3 : Int)) then
    bif inB p7 (List.length p3) then
      bif inB p4 3 then
        Option.bind (P_spec_l2Long ((p0, (p1, (p2, (p3, ())))), p5, ())) fun r3 =>
        bif inB p7 (List.length p3) then
          bif inB p5 3 then
            bif inB (IntKind.wrap .i64 ((IntKind.wrap .i64 ((bif decide (p4 = (0 : Int)) then ((nth T_A3 p3 p7)).1 else (bif decide (p4 = (1 : Int)) then (((nth T_A3 p3 p7)).2).1 else ((((nth T_A3 p3 p7)).2).2).1)) * r3.1)) + (bif decide (p5 = (0 : Int)) then ((nth T_A3 p3 p7)).1 else (bif decide (p5 = (1 : Int)) then (((nth T_A3 p3 p7)).2).1 else ((((nth T_A3 p3 p7)).2).2).1)))) (List.length p6) then
              bif inB (IntKind.wrap .i64 ((IntKind.wrap .i64 ((bif decide (p4 = (0 : Int)) then ((nth T_A3 p3 p7)).1 else (bif decide (p4 = (1 : Int)) then (((nth T_A3 p3 p7)).2).1 else ((((nth T_A3 p3 p7)).2).2).1)) * r3.1)) + (bif decide (p5 = (0 : Int)) then ((nth T_A3 p3 p7)).1 else (bif decide (p5 = (1 : Int)) then (((nth T_A3 p3 p7)).2).1 else ((((nth T_A3 p3 p7)).2).2).1)))) (List.length p6) then
                l_spec_l2View_4 m0 p0 p1 p2 p3 p4 p5 (List.set p6 (Int.toNat (IntKind.wrap .i64 ((IntKind.wrap .i64 ((bif decide (p4 = (0 : Int)) then ((nth T_A3 p3 p7)).1 else (bif decide (p4 = (1 : Int)) then (((nth T_A3 p3 p7)).2).1 else ((((nth T_A3 p3 p7)).2).2).1)) * r3.1)) + (bif decide (p5 = (0 : Int)) then ((nth T_A3 p3 p7)).1 else (bif decide (p5 = (1 : Int)) then (((nth T_A3 p3 p7)).2).1 else ((((nth T_A3 p3 p7)).2).2).1))))) (IntKind.wrap .i64 ((nth ((.int .i64) : Ty) p6 (IntKind.wrap .i64 ((IntKind.wrap .i64 ((bif decide (p4 = (0 : Int)) then ((nth T_A3 p3 p7)).1 else (bif decide (p4 = (1 : Int)) then (((nth T_A3 p3 p7)).2).1 else ((((nth T_A3 p3 p7)).2).2).1)) * r3.1)) + (bif decide (p5 = (0 : Int)) then ((nth T_A3 p3 p7)).1 else (bif decide (p5 = (1 : Int)) then (((nth T_A3 p3 p7)).2).1 else ((((nth T_A3 p3 p7)).2).2).1))))) + 1))) (IntKind.wrap .i64 (p7 + 1))
              else none
            else none
          else none
        else none
      else none
    else none
  else
    some (p6, ()) := by
  rewrite [h_spec_l2View_4]
  kernel_rfl

/- 80: loop.example/g01166/spec.l2Top -/
abbrev As_spec_l2Top : List ATy := [.data true T_Heap]
abbrev R_spec_l2Top : List (Bool × Ty) := [(false, (.sl (.int .i64)))]
abbrev M_spec_l2Top : List RMode := [.own 3]
abbrev Ft_spec_l2Top : Type := D_Heap × Unit → Option ((List Int) × Unit)
noncomputable def X_spec_l2Top (n : Nat) (F_spec_l2Ones : Ft_spec_l2Ones) (F_spec_l2View : Ft_spec_l2View) : Ctx := { types := TT, globals := [], con := [(89, ⟨As_spec_l2Ones, R_spec_l2Ones, M_spec_l2Ones, F_spec_l2Ones⟩), (90, ⟨As_spec_l2View, R_spec_l2View, M_spec_l2View, F_spec_l2View⟩)], keep := [], results := [.tmp 2], ntmps := 6, n := n }
noncomputable def B_spec_l2Top : Code := (Try.f80.body).getD .skip
noncomputable def P_spec_l2Top : Ft_spec_l2Top := hid (runF (X_spec_l2Top N P_spec_l2Ones P_spec_l2View) B_spec_l2Top As_spec_l2Top R_spec_l2Top M_spec_l2Top)
theorem h_spec_l2Top : P_spec_l2Top = runF (X_spec_l2Top N P_spec_l2Ones P_spec_l2View) B_spec_l2Top As_spec_l2Top R_spec_l2Top M_spec_l2Top := hid_eq _
noncomputable def C_spec_l2Top : Contract := ⟨As_spec_l2Top, R_spec_l2Top, M_spec_l2Top, P_spec_l2Top⟩
theorem s_spec_l2Top : Sound Try.prog GG 80 C_spec_l2Top := by
  unfold C_spec_l2Top; rw [h_spec_l2Top]
  exact sound_of_run (fn := Try.f80) hmix hstable (tyOK_of ttOK) (hglob (X_spec_l2Top N P_spec_l2Ones P_spec_l2View)) (conOK_of (X := X_spec_l2Top N P_spec_l2Ones P_spec_l2View) ⟨s_spec_l2Ones, s_spec_l2View, trivial⟩) (mconOK_of (X := X_spec_l2Top N P_spec_l2Ones P_spec_l2View) trivial) (by kernel_rfl) (by kernel_rfl) (by kernel_rfl) (by kernel_rfl) (by kernel_rfl) (of_decide_eq_true (by kernel_rfl))
theorem p_spec_l2Top (a0 : D_Heap) : P_spec_l2Top (a0, ()) = 
  Option.bind (P_spec_l2View (a0, 2, ())) fun r0 =>
  Option.bind (P_spec_l2Ones (r0.1, ())) fun r1 =>
  some (r1.1, ()) := by
  rewrite [h_spec_l2Top]
  kernel_rfl

/- 81: loop.example/g01166/spec.l2Front -/
abbrev As_spec_l2Front : List ATy := [.data true T_Heap]
abbrev R_spec_l2Front : List (Bool × Ty) := [(false, (.sl (.int .i64)))]
abbrev M_spec_l2Front : List RMode := [.own 3]
abbrev Ft_spec_l2Front : Type := D_Heap × Unit → Option ((List Int) × Unit)
noncomputable def X_spec_l2Front (n : Nat) (F_spec_l2Ones : Ft_spec_l2Ones) (F_spec_l2View : Ft_spec_l2View) : Ctx := { types := TT, globals := [], con := [(89, ⟨As_spec_l2Ones, R_spec_l2Ones, M_spec_l2Ones, F_spec_l2Ones⟩), (90, ⟨As_spec_l2View, R_spec_l2View, M_spec_l2View, F_spec_l2View⟩)], keep := [], results := [.tmp 2], ntmps := 6, n := n }
noncomputable def B_spec_l2Front : Code := (Try.f81.body).getD .skip
noncomputable def P_spec_l2Front : Ft_spec_l2Front := hid (runF (X_spec_l2Front N P_spec_l2Ones P_spec_l2View) B_spec_l2Front As_spec_l2Front R_spec_l2Front M_spec_l2Front)
theorem h_spec_l2Front : P_spec_l2Front = runF (X_spec_l2Front N P_spec_l2Ones P_spec_l2View) B_spec_l2Front As_spec_l2Front R_spec_l2Front M_spec_l2Front := hid_eq _
noncomputable def C_spec_l2Front : Contract := ⟨As_spec_l2Front, R_spec_l2Front, M_spec_l2Front, P_spec_l2Front⟩
theorem s_spec_l2Front : Sound Try.prog GG 81 C_spec_l2Front := by
  unfold C_spec_l2Front; rw [h_spec_l2Front]
  exact sound_of_run (fn := Try.f81) hmix hstable (tyOK_of ttOK) (hglob (X_spec_l2Front N P_spec_l2Ones P_spec_l2View)) (conOK_of (X := X_spec_l2Front N P_spec_l2Ones P_spec_l2View) ⟨s_spec_l2Ones, s_spec_l2View, trivial⟩) (mconOK_of (X := X_spec_l2Front N P_spec_l2Ones P_spec_l2View) trivial) (by kernel_rfl) (by kernel_rfl) (by kernel_rfl) (by kernel_rfl) (by kernel_rfl) (of_decide_eq_true (by kernel_rfl))
theorem p_spec_l2Front (a0 : D_Heap) : P_spec_l2Front (a0, ()) = 
  Option.bind (P_spec_l2View (a0, 1, ())) fun r0 =>
  Option.bind (P_spec_l2Ones (r0.1, ())) fun r1 =>
  some (r1.1, ()) := by
  rewrite [h_spec_l2Front]
  kernel_rfl

/- 82: loop.example/g01166/spec.l2Side -/
abbrev As_spec_l2Side : List ATy := [.data true T_Heap]
abbrev R_spec_l2Side : List (Bool × Ty) := [(false, (.sl (.int .i64)))]
abbrev M_spec_l2Side : List RMode := [.own 3]
abbrev Ft_spec_l2Side : Type := D_Heap × Unit → Option ((List Int) × Unit)
noncomputable def X_spec_l2Side (n : Nat) (F_spec_l2Ones : Ft_spec_l2Ones) (F_spec_l2View : Ft_spec_l2View) : Ctx := { types := TT, globals := [], con := [(89, ⟨As_spec_l2Ones, R_spec_l2Ones, M_spec_l2Ones, F_spec_l2Ones⟩), (90, ⟨As_spec_l2View, R_spec_l2View, M_spec_l2View, F_spec_l2View⟩)], keep := [], results := [.tmp 2], ntmps := 6, n := n }
noncomputable def B_spec_l2Side : Code := (Try.f82.body).getD .skip
noncomputable def P_spec_l2Side : Ft_spec_l2Side := hid (runF (X_spec_l2Side N P_spec_l2Ones P_spec_l2View) B_spec_l2Side As_spec_l2Side R_spec_l2Side M_spec_l2Side)
theorem h_spec_l2Side : P_spec_l2Side = runF (X_spec_l2Side N P_spec_l2Ones P_spec_l2View) B_spec_l2Side As_spec_l2Side R_spec_l2Side M_spec_l2Side := hid_eq _
noncomputable def C_spec_l2Side : Contract := ⟨As_spec_l2Side, R_spec_l2Side, M_spec_l2Side, P_spec_l2Side⟩
theorem s_spec_l2Side : Sound Try.prog GG 82 C_spec_l2Side := by
  unfold C_spec_l2Side; rw [h_spec_l2Side]
  exact sound_of_run (fn := Try.f82) hmix hstable (tyOK_of ttOK) (hglob (X_spec_l2Side N P_spec_l2Ones P_spec_l2View)) (conOK_of (X := X_spec_l2Side N P_spec_l2Ones P_spec_l2View) ⟨s_spec_l2Ones, s_spec_l2View, trivial⟩) (mconOK_of (X := X_spec_l2Side N P_spec_l2Ones P_spec_l2View) trivial) (by kernel_rfl) (by kernel_rfl) (by kernel_rfl) (by kernel_rfl) (by kernel_rfl) (of_decide_eq_true (by kernel_rfl))
theorem p_spec_l2Side (a0 : D_Heap) : P_spec_l2Side (a0, ()) = 
  Option.bind (P_spec_l2View (a0, 0, ())) fun r0 =>
  Option.bind (P_spec_l2Ones (r0.1, ())) fun r1 =>
  some (r1.1, ()) := by
  rewrite [h_spec_l2Side]
  kernel_rfl

/- 70: loop.example/g01166/spec.l3Of -/
abbrev As_spec_l3Of : List ATy := [.data true T_Heap]
abbrev R_spec_l3Of : List (Bool × Ty) := [(true, T_Shadow)]
abbrev M_spec_l3Of : List RMode := [.own 3, .own 3, .own 3]
abbrev Ft_spec_l3Of : Type := D_Heap × Unit → Option (D_Shadow × Unit)
noncomputable def X_spec_l3Of (n : Nat) (F_spec_l2Top : Ft_spec_l2Top) (F_spec_l2Front : Ft_spec_l2Front) (F_spec_l2Side : Ft_spec_l2Side) : Ctx := { types := TT, globals := [], con := [(80, ⟨As_spec_l2Top, R_spec_l2Top, M_spec_l2Top, F_spec_l2Top⟩), (81, ⟨As_spec_l2Front, R_spec_l2Front, M_spec_l2Front, F_spec_l2Front⟩), (82, ⟨As_spec_l2Side, R_spec_l2Side, M_spec_l2Side, F_spec_l2Side⟩)], keep := [], results := [.cell 2 75], ntmps := 16, n := n }
noncomputable def B_spec_l3Of : Code := (Try.f70.body).getD .skip
noncomputable def P_spec_l3Of : Ft_spec_l3Of := hid (runF (X_spec_l3Of N P_spec_l2Top P_spec_l2Front P_spec_l2Side) B_spec_l3Of As_spec_l3Of R_spec_l3Of M_spec_l3Of)
theorem h_spec_l3Of : P_spec_l3Of = runF (X_spec_l3Of N P_spec_l2Top P_spec_l2Front P_spec_l2Side) B_spec_l3Of As_spec_l3Of R_spec_l3Of M_spec_l3Of := hid_eq _
noncomputable def C_spec_l3Of : Contract := ⟨As_spec_l3Of, R_spec_l3Of, M_spec_l3Of, P_spec_l3Of⟩
theorem s_spec_l3Of : Sound Try.prog GG 70 C_spec_l3Of := by
  unfold C_spec_l3Of; rw [h_spec_l3Of]
  exact sound_of_run (fn := Try.f70) hmix hstable (tyOK_of ttOK) (hglob (X_spec_l3Of N P_spec_l2Top P_spec_l2Front P_spec_l2Side)) (conOK_of (X := X_spec_l3Of N P_spec_l2Top P_spec_l2Front P_spec_l2Side) ⟨s_spec_l2Top, s_spec_l2Front, s_spec_l2Side, trivial⟩) (mconOK_of (X := X_spec_l3Of N P_spec_l2Top P_spec_l2Front P_spec_l2Side) trivial) (by kernel_rfl) (by kernel_rfl) (by kernel_rfl) (by kernel_rfl) (by kernel_rfl) (of_decide_eq_true (by kernel_rfl))
theorem p_spec_l3Of (a0 : D_Heap) : P_spec_l3Of (a0, ()) = 
  Option.bind (P_spec_l2Top (a0, ())) fun r0 =>
  Option.bind (P_spec_l2Front (a0, ())) fun r1 =>
  Option.bind (P_spec_l2Side (a0, ())) fun r2 =>
  some ((a0.1, (a0.2.1, (a0.2.2.1, (r0.1, (r1.1, (r2.1, ())))))), ()) := by
  rewrite [h_spec_l3Of]
  kernel_rfl

/- 42: loop.example/g01166/spec.l12Gap -/
abbrev As_spec_l12Gap : List ATy := [.data true T_Bench]
abbrev R_spec_l12Gap : List (Bool × Ty) := [(false, (.int .i64))]
abbrev M_spec_l12Gap : List RMode := []
abbrev Ft_spec_l12Gap : Type := D_Bench × Unit → Option (Int × Unit)
noncomputable def X_spec_l12Gap (n : Nat) (F_spec_LineBound : Ft_spec_LineBound) (F_spec_l3Of : Ft_spec_l3Of) : Ctx := { types := TT, globals := [], con := [(69, ⟨As_spec_LineBound, R_spec_LineBound, M_spec_LineBound, F_spec_LineBound⟩), (70, ⟨As_spec_l3Of, R_spec_l3Of, M_spec_l3Of, F_spec_l3Of⟩)], keep := [], results := [.tmp 2], ntmps := 18, n := n }
noncomputable def B_spec_l12Gap : Code := (Try.f42.body).getD .skip
noncomputable def P_spec_l12Gap : Ft_spec_l12Gap := hid (runF (X_spec_l12Gap N P_spec_LineBound P_spec_l3Of) B_spec_l12Gap As_spec_l12Gap R_spec_l12Gap M_spec_l12Gap)
theorem h_spec_l12Gap : P_spec_l12Gap = runF (X_spec_l12Gap N P_spec_LineBound P_spec_l3Of) B_spec_l12Gap As_spec_l12Gap R_spec_l12Gap M_spec_l12Gap := hid_eq _
noncomputable def C_spec_l12Gap : Contract := ⟨As_spec_l12Gap, R_spec_l12Gap, M_spec_l12Gap, P_spec_l12Gap⟩
theorem s_spec_l12Gap : Sound Try.prog GG 42 C_spec_l12Gap := by
  unfold C_spec_l12Gap; rw [h_spec_l12Gap]
  exact sound_of_run (fn := Try.f42) hmix hstable (tyOK_of ttOK) (hglob (X_spec_l12Gap N P_spec_LineBound P_spec_l3Of)) (conOK_of (X := X_spec_l12Gap N P_spec_LineBound P_spec_l3Of) ⟨s_spec_LineBound, s_spec_l3Of, trivial⟩) (mconOK_of (X := X_spec_l12Gap N P_spec_LineBound P_spec_l3Of) trivial) (by kernel_rfl) (by kernel_rfl) (by kernel_rfl) (by kernel_rfl) (by kernel_rfl) (of_decide_eq_true (by kernel_rfl))
theorem p_spec_l12Gap (a0 : D_Bench) : P_spec_l12Gap (a0, ()) = 
  Option.bind (P_spec_l3Of (a0.1, ())) fun r0 =>
  Option.bind (P_spec_LineBound (r0.1, ())) fun r1 =>
  some ((IntKind.wrap .i64 ((List.length a0.1.2.2.2.1 : Int) - r1.1)), ()) := by
  rewrite [h_spec_l12Gap]
  kernel_rfl

/- 19: loop.example/g01166/spec.ShadowGap -/
abbrev As_spec_ShadowGap : List ATy := [.data true T_Bench]
abbrev R_spec_ShadowGap : List (Bool × Ty) := [(false, (.int .i64)), (false, .bool)]
abbrev M_spec_ShadowGap : List RMode := []
abbrev Ft_spec_ShadowGap : Type := D_Bench × Unit → Option (Int × Bool × Unit)
noncomputable def X_spec_ShadowGap (n : Nat) (F_spec_l12Good : Ft_spec_l12Good) (F_spec_l12Gap : Ft_spec_l12Gap) : Ctx := { types := TT, globals := [], con := [(41, ⟨As_spec_l12Good, R_spec_l12Good, M_spec_l12Good, F_spec_l12Good⟩), (42, ⟨As_spec_l12Gap, R_spec_l12Gap, M_spec_l12Gap, F_spec_l12Gap⟩)], keep := [], results := [.tmp 2, .tmp 3], ntmps := 9, n := n }
noncomputable def B_spec_ShadowGap : Code := (Try.f19.body).getD .skip
noncomputable def P_spec_ShadowGap : Ft_spec_ShadowGap := hid (runF (X_spec_ShadowGap N P_spec_l12Good P_spec_l12Gap) B_spec_ShadowGap As_spec_ShadowGap R_spec_ShadowGap M_spec_ShadowGap)
theorem h_spec_ShadowGap : P_spec_ShadowGap = runF (X_spec_ShadowGap N P_spec_l12Good P_spec_l12Gap) B_spec_ShadowGap As_spec_ShadowGap R_spec_ShadowGap M_spec_ShadowGap := hid_eq _
noncomputable def C_spec_ShadowGap : Contract := ⟨As_spec_ShadowGap, R_spec_ShadowGap, M_spec_ShadowGap, P_spec_ShadowGap⟩
theorem s_spec_ShadowGap : Sound Try.prog GG 19 C_spec_ShadowGap := by
  unfold C_spec_ShadowGap; rw [h_spec_ShadowGap]
  exact sound_of_run (fn := Try.f19) hmix hstable (tyOK_of ttOK) (hglob (X_spec_ShadowGap N P_spec_l12Good P_spec_l12Gap)) (conOK_of (X := X_spec_ShadowGap N P_spec_l12Good P_spec_l12Gap) ⟨s_spec_l12Good, s_spec_l12Gap, trivial⟩) (mconOK_of (X := X_spec_ShadowGap N P_spec_l12Good P_spec_l12Gap) trivial) (by kernel_rfl) (by kernel_rfl) (by kernel_rfl) (by kernel_rfl) (by kernel_rfl) (of_decide_eq_true (by kernel_rfl))
theorem p_spec_ShadowGap (a0 : D_Bench) : P_spec_ShadowGap (a0, ()) = 
  Option.bind (P_spec_l12Good (a0, ())) fun r0 =>
  bif !r0.1 then
    some (0, false, ())
  else
    Option.bind (P_spec_l12Gap (a0, ())) fun r2 =>
    some (r2.1, true, ()) := by
  rewrite [h_spec_ShadowGap]
  kernel_rfl

/- 57: loop.example/g01166/laws.toIntA3 -/
abbrev As_laws_toIntA3 : List ATy := [.data true T_A3]
abbrev R_laws_toIntA3 : List (Bool × Ty) := [(true, T_A3)]
abbrev M_laws_toIntA3 : List RMode := []
abbrev Ft_laws_toIntA3 : Type := D_A3 × Unit → Option (D_A3 × Unit)
noncomputable def X_laws_toIntA3 (n : Nat) : Ctx := { types := TT, globals := [], con := [], keep := [(3, ⟨[.box 1, .box 2, .box 3, .tmp 1, .tmp 2, .tmp 3, .tmp 4], []⟩)], results := [.cell 2 58], ntmps := 15, n := n }
noncomputable def B_laws_toIntA3 : Code := (Try.f57.body).getD .skip
noncomputable def L_laws_toIntA3_3 (n : Nat) (m0 : Nat) (p0 : Int) (p1 : Int) (p2 : Int) (p3 : Int) (p4 : Int) (p5 : Int) (p6 : Int) (p7 : Int) (p8 : Int) (p9 : Int) : Option (denL R_laws_toIntA3) := loopF (X_laws_toIntA3 n) B_laws_toIntA3 R_laws_toIntA3 M_laws_toIntA3 3 [m0] [(.ver, .num 1), (.box 1, .box 0 false [.int .i64 p0, .int .i64 p1, .int .i64 p2]), (.box 2, .box 0 false [.int .i64 p3, .int .i64 p4, .int .i64 p5]), (.box 3, .box 0 false [.int .i64 p6, .int .i64 p7, .int .i64 p8]), (.tmp 1, .val false [.addr 1 0 0]), (.tmp 2, .val false [.addr 2 0 0]), (.tmp 3, .val false [.addr 3 0 0]), (.tmp 4, .val false [.int .i64 p9])]
noncomputable def P_laws_toIntA3 : Ft_laws_toIntA3 := hid (runF (X_laws_toIntA3 N) B_laws_toIntA3 As_laws_toIntA3 R_laws_toIntA3 M_laws_toIntA3)
theorem h_laws_toIntA3 : P_laws_toIntA3 = runF (X_laws_toIntA3 N) B_laws_toIntA3 As_laws_toIntA3 R_laws_toIntA3 M_laws_toIntA3 := hid_eq _
noncomputable def C_laws_toIntA3 : Contract := ⟨As_laws_toIntA3, R_laws_toIntA3, M_laws_toIntA3, P_laws_toIntA3⟩
theorem s_laws_toIntA3 : Sound Try.prog GG 57 C_laws_toIntA3 := by
  unfold C_laws_toIntA3; rw [h_laws_toIntA3]
  exact sound_of_run (fn := Try.f57) hmix hstable (tyOK_of ttOK) (hglob (X_laws_toIntA3 N)) (conOK_of (X := X_laws_toIntA3 N) trivial) (mconOK_of (X := X_laws_toIntA3 N) trivial) (by kernel_rfl) (by kernel_rfl) (by kernel_rfl) (by kernel_rfl) (by kernel_rfl) (of_decide_eq_true (by kernel_rfl))
noncomputable def l_laws_toIntA3_3 : Nat → Int → Int → Int → Int → Int → Int → Int → Int → Int → Int → Option (denL R_laws_toIntA3) := hid (fun m0 p0 p1 p2 p3 p4 p5 p6 p7 p8 p9 => L_laws_toIntA3_3 N m0 p0 p1 p2 p3 p4 p5 p6 p7 p8 p9)
theorem h_laws_toIntA3_3 : l_laws_toIntA3_3 = fun m0 p0 p1 p2 p3 p4 p5 p6 p7 p8 p9 => L_laws_toIntA3_3 N m0 p0 p1 p2 p3 p4 p5 p6 p7 p8 p9 := hid_eq _
theorem p_laws_toIntA3 (a0 : D_A3) : P_laws_toIntA3 (a0, ()) = 
  l_laws_toIntA3_3 N a0.1 a0.2.1 a0.2.2.1 0 0 0 0 0 0 0 := by
  rewrite [h_laws_toIntA3, h_laws_toIntA3_3]
  kernel_rfl
theorem q_laws_toIntA3_3 (m0 : Nat) (p0 : Int) (p1 : Int) (p2 : Int) (p3 : Int) (p4 : Int) (p5 : Int) (p6 : Int) (p7 : Int) (p8 : Int) (p9 : Int) : l_laws_toIntA3_3 (m0 + 1) p0 p1 p2 p3 p4 p5 p6 p7 p8 p9 = 
  bif decide (p9 < 3) then
    bif inB p9 3 then
      bif inB p9 3 then
        l_laws_toIntA3_3 m0 p0 p1 p2 p3 p4 p5 (bif decide (p9 = (0 : Int)) then (bif decide (p9 = (0 : Int)) then p0 else (bif decide (p9 = (1 : Int)) then p1 else p2)) else p6) (bif decide (p9 = (1 : Int)) then (bif decide (p9 = (0 : Int)) then p0 else (bif decide (p9 = (1 : Int)) then p1 else p2)) else p7) (bif decide (p9 = (2 : Int)) then (bif decide (p9 = (0 : Int)) then p0 else (bif decide (p9 = (1 : Int)) then p1 else p2)) else p8) (IntKind.wrap .i64 (p9 + 1))
      else none
    else none
  else
    some ((p6, (p7, (p8, ()))), ()) := by
  rewrite [h_laws_toIntA3_3]
  kernel_rfl

/- 27: loop.example/g01166/laws.toIntA3S -/
abbrev As_laws_toIntA3S : List ATy := [.data false (.sl T_A3)]
abbrev R_laws_toIntA3S : List (Bool × Ty) := [(false, (.sl T_A3))]
abbrev M_laws_toIntA3S : List RMode := [.own 58]
abbrev Ft_laws_toIntA3S : Type := (List D_A3) × Unit → Option ((List D_A3) × Unit)
noncomputable def X_laws_toIntA3S (n : Nat) (F_laws_toIntA3 : Ft_laws_toIntA3) : Ctx := { types := TT, globals := [], con := [(57, ⟨As_laws_toIntA3, R_laws_toIntA3, M_laws_toIntA3, F_laws_toIntA3⟩)], keep := [(3, ⟨[.tmp 0, .tmp 3, .tmp 4], []⟩)], results := [.tmp 2], ntmps := 23, n := n }
noncomputable def B_laws_toIntA3S : Code := (Try.f27.body).getD .skip
noncomputable def L_laws_toIntA3S_3 (n : Nat) (F_laws_toIntA3 : Ft_laws_toIntA3) (m0 : Nat) (p0 : List D_A3) (p1 : List D_A3) (p2 : Int) : Option (denL R_laws_toIntA3S) := loopF (X_laws_toIntA3S n F_laws_toIntA3) B_laws_toIntA3S R_laws_toIntA3S M_laws_toIntA3S 3 [m0] [(.ver, .num 1), (.tmp 0, .val false [.imm T_A3 p0 (some 0)]), (.tmp 3, .val false [.own 58 T_A3 0 p1]), (.tmp 4, .val false [.int .i64 p2])]
noncomputable def P_laws_toIntA3S : Ft_laws_toIntA3S := hid (runF (X_laws_toIntA3S N P_laws_toIntA3) B_laws_toIntA3S As_laws_toIntA3S R_laws_toIntA3S M_laws_toIntA3S)
theorem h_laws_toIntA3S : P_laws_toIntA3S = runF (X_laws_toIntA3S N P_laws_toIntA3) B_laws_toIntA3S As_laws_toIntA3S R_laws_toIntA3S M_laws_toIntA3S := hid_eq _
noncomputable def C_laws_toIntA3S : Contract := ⟨As_laws_toIntA3S, R_laws_toIntA3S, M_laws_toIntA3S, P_laws_toIntA3S⟩
theorem s_laws_toIntA3S : Sound Try.prog GG 27 C_laws_toIntA3S := by
  unfold C_laws_toIntA3S; rw [h_laws_toIntA3S]
  exact sound_of_run (fn := Try.f27) hmix hstable (tyOK_of ttOK) (hglob (X_laws_toIntA3S N P_laws_toIntA3)) (conOK_of (X := X_laws_toIntA3S N P_laws_toIntA3) ⟨s_laws_toIntA3, trivial⟩) (mconOK_of (X := X_laws_toIntA3S N P_laws_toIntA3) trivial) (by kernel_rfl) (by kernel_rfl) (by kernel_rfl) (by kernel_rfl) (by kernel_rfl) (of_decide_eq_true (by kernel_rfl))
noncomputable def l_laws_toIntA3S_3 : Nat → (List D_A3) → (List D_A3) → Int → Option (denL R_laws_toIntA3S) := hid (fun m0 p0 p1 p2 => L_laws_toIntA3S_3 N P_laws_toIntA3 m0 p0 p1 p2)
theorem h_laws_toIntA3S_3 : l_laws_toIntA3S_3 = fun m0 p0 p1 p2 => L_laws_toIntA3S_3 N P_laws_toIntA3 m0 p0 p1 p2 := hid_eq _
theorem p_laws_toIntA3S (a0 : List D_A3) : P_laws_toIntA3S (a0, ()) = 
  bif (decide ((0 : Int) ≤ (List.length a0 : Int)) && decide (((List.length a0 : Int) : Int) ≤ (List.length a0 : Int)) && decide (((List.length a0 : Int) : Int) * (24 : Nat) ≤ 140737488355328) && decide (((List.length a0 : Int) : Int) ≤ 140737488355328)) then
    l_laws_toIntA3S_3 N a0 (List.replicate (Int.toNat (List.length a0 : Int)) (Ty.dflt T_A3)) 0
  else none := by
  rewrite [h_laws_toIntA3S, h_laws_toIntA3S_3]
  kernel_rfl
theorem q_laws_toIntA3S_3 (m0 : Nat) (p0 : List D_A3) (p1 : List D_A3) (p2 : Int) : l_laws_toIntA3S_3 (m0 + 1) p0 p1 p2 = 
  bif decide (p2 < (List.length p0 : Int)) then
    bif inB p2 (List.length p0) then
      Option.bind (P_laws_toIntA3 ((nth T_A3 p0 p2), ())) fun r2 =>
      bif inB p2 (List.length p1) then
        l_laws_toIntA3S_3 m0 p0 (List.set p1 (Int.toNat p2) r2.1) (IntKind.wrap .i64 (p2 + 1))
      else none
    else none
  else
    some (p1, ()) := by
  rewrite [h_laws_toIntA3S_3]
  kernel_rfl

/- 8: loop.example/g01166/laws.toHeap -/
abbrev As_laws_toHeap : List ATy := [.data true T_Heap]
abbrev R_laws_toHeap : List (Bool × Ty) := [(true, T_Heap)]
abbrev M_laws_toHeap : List RMode := [.own 58]
abbrev Ft_laws_toHeap : Type := D_Heap × Unit → Option (D_Heap × Unit)
noncomputable def X_laws_toHeap (n : Nat) (F_laws_toIntA3S : Ft_laws_toIntA3S) : Ctx := { types := TT, globals := [], con := [(27, ⟨As_laws_toIntA3S, R_laws_toIntA3S, M_laws_toIntA3S, F_laws_toIntA3S⟩)], keep := [], results := [.cell 2 31], ntmps := 18, n := n }
noncomputable def B_laws_toHeap : Code := (Try.f8.body).getD .skip
noncomputable def P_laws_toHeap : Ft_laws_toHeap := hid (runF (X_laws_toHeap N P_laws_toIntA3S) B_laws_toHeap As_laws_toHeap R_laws_toHeap M_laws_toHeap)
theorem h_laws_toHeap : P_laws_toHeap = runF (X_laws_toHeap N P_laws_toIntA3S) B_laws_toHeap As_laws_toHeap R_laws_toHeap M_laws_toHeap := hid_eq _
noncomputable def C_laws_toHeap : Contract := ⟨As_laws_toHeap, R_laws_toHeap, M_laws_toHeap, P_laws_toHeap⟩
theorem s_laws_toHeap : Sound Try.prog GG 8 C_laws_toHeap := by
  unfold C_laws_toHeap; rw [h_laws_toHeap]
  exact sound_of_run (fn := Try.f8) hmix hstable (tyOK_of ttOK) (hglob (X_laws_toHeap N P_laws_toIntA3S)) (conOK_of (X := X_laws_toHeap N P_laws_toIntA3S) ⟨s_laws_toIntA3S, trivial⟩) (mconOK_of (X := X_laws_toHeap N P_laws_toIntA3S) trivial) (by kernel_rfl) (by kernel_rfl) (by kernel_rfl) (by kernel_rfl) (by kernel_rfl) (of_decide_eq_true (by kernel_rfl))
theorem p_laws_toHeap (a0 : D_Heap) : P_laws_toHeap (a0, ()) = 
  Option.bind (P_laws_toIntA3S (a0.2.2.2.1, ())) fun r0 =>
  some ((a0.1, (a0.2.1, (a0.2.2.1, (r0.1, ())))), ()) := by
  rewrite [h_laws_toHeap]
  kernel_rfl

/- 20: loop.example/g01166/laws.toBench -/
abbrev As_laws_toBench : List ATy := [.data true T_Bench]
abbrev R_laws_toBench : List (Bool × Ty) := [(true, T_Bench)]
abbrev M_laws_toBench : List RMode := [.own 58]
abbrev Ft_laws_toBench : Type := D_Bench × Unit → Option (D_Bench × Unit)
noncomputable def X_laws_toBench (n : Nat) (F_laws_toHeap : Ft_laws_toHeap) : Ctx := { types := TT, globals := [], con := [(8, ⟨As_laws_toHeap, R_laws_toHeap, M_laws_toHeap, F_laws_toHeap⟩)], keep := [], results := [.cell 2 46], ntmps := 15, n := n }
noncomputable def B_laws_toBench : Code := (Try.f20.body).getD .skip
noncomputable def P_laws_toBench : Ft_laws_toBench := hid (runF (X_laws_toBench N P_laws_toHeap) B_laws_toBench As_laws_toBench R_laws_toBench M_laws_toBench)
theorem h_laws_toBench : P_laws_toBench = runF (X_laws_toBench N P_laws_toHeap) B_laws_toBench As_laws_toBench R_laws_toBench M_laws_toBench := hid_eq _
noncomputable def C_laws_toBench : Contract := ⟨As_laws_toBench, R_laws_toBench, M_laws_toBench, P_laws_toBench⟩
theorem s_laws_toBench : Sound Try.prog GG 20 C_laws_toBench := by
  unfold C_laws_toBench; rw [h_laws_toBench]
  exact sound_of_run (fn := Try.f20) hmix hstable (tyOK_of ttOK) (hglob (X_laws_toBench N P_laws_toHeap)) (conOK_of (X := X_laws_toBench N P_laws_toHeap) ⟨s_laws_toHeap, trivial⟩) (mconOK_of (X := X_laws_toBench N P_laws_toHeap) trivial) (by kernel_rfl) (by kernel_rfl) (by kernel_rfl) (by kernel_rfl) (by kernel_rfl) (of_decide_eq_true (by kernel_rfl))
theorem p_laws_toBench (a0 : D_Bench) : P_laws_toBench (a0, ()) = 
  Option.bind (P_laws_toHeap (a0.1, ())) fun r0 =>
  some ((r0.1, a0.2), ()) := by
  rewrite [h_laws_toBench]
  kernel_rfl

/- 31: (loop.example/g01166/impl.Heap).box -/
abbrev As_Heap_box : List ATy := [.data true T_Heap]
abbrev R_Heap_box : List (Bool × Ty) := [(true, T_A3)]
abbrev M_Heap_box : List RMode := []
abbrev Ft_Heap_box : Type := D_Heap × Unit → Option (D_A3 × Unit)
noncomputable def X_Heap_box (n : Nat) : Ctx := { types := TT, globals := [], con := [], keep := [], results := [.cell 2 59], ntmps := 10, n := n }
noncomputable def B_Heap_box : Code := (Try.f31.body).getD .skip
noncomputable def P_Heap_box : Ft_Heap_box := hid (runF (X_Heap_box N) B_Heap_box As_Heap_box R_Heap_box M_Heap_box)
theorem h_Heap_box : P_Heap_box = runF (X_Heap_box N) B_Heap_box As_Heap_box R_Heap_box M_Heap_box := hid_eq _
noncomputable def C_Heap_box : Contract := ⟨As_Heap_box, R_Heap_box, M_Heap_box, P_Heap_box⟩
theorem s_Heap_box : Sound Try.prog GG 31 C_Heap_box := by
  unfold C_Heap_box; rw [h_Heap_box]
  exact sound_of_run (fn := Try.f31) hmix hstable (tyOK_of ttOK) (hglob (X_Heap_box N)) (conOK_of (X := X_Heap_box N) trivial) (mconOK_of (X := X_Heap_box N) trivial) (by kernel_rfl) (by kernel_rfl) (by kernel_rfl) (by kernel_rfl) (by kernel_rfl) (of_decide_eq_true (by kernel_rfl))
theorem p_Heap_box (a0 : D_Heap) : P_Heap_box (a0, ()) = 
  some ((a0.1, (a0.2.1, (a0.2.2.1, ()))), ()) := by
  rewrite [h_Heap_box]
  kernel_rfl

/- 63: (loop.example/g01166/impl.box).index -/
abbrev As_box_index : List ATy := [.data true T_A3, .data true T_A3]
abbrev R_box_index : List (Bool × Ty) := [(false, (.int .i64))]
abbrev M_box_index : List RMode := []
abbrev Ft_box_index : Type := D_A3 × D_A3 × Unit → Option (Int × Unit)
noncomputable def X_box_index (n : Nat) : Ctx := { types := TT, globals := [], con := [], keep := [], results := [.tmp 4], ntmps := 19, n := n }
noncomputable def B_box_index : Code := (Try.f63.body).getD .skip
noncomputable def P_box_index : Ft_box_index := hid (runF (X_box_index N) B_box_index As_box_index R_box_index M_box_index)
theorem h_box_index : P_box_index = runF (X_box_index N) B_box_index As_box_index R_box_index M_box_index := hid_eq _
noncomputable def C_box_index : Contract := ⟨As_box_index, R_box_index, M_box_index, P_box_index⟩
theorem s_box_index : Sound Try.prog GG 63 C_box_index := by
  unfold C_box_index; rw [h_box_index]
  exact sound_of_run (fn := Try.f63) hmix hstable (tyOK_of ttOK) (hglob (X_box_index N)) (conOK_of (X := X_box_index N) trivial) (mconOK_of (X := X_box_index N) trivial) (by kernel_rfl) (by kernel_rfl) (by kernel_rfl) (by kernel_rfl) (by kernel_rfl) (of_decide_eq_true (by kernel_rfl))
theorem p_box_index (a0 : D_A3) (a1 : D_A3) : P_box_index (a0, a1, ()) = 
  some ((IntKind.wrap .i64 ((IntKind.wrap .i64 ((IntKind.wrap .i64 ((IntKind.wrap .i64 (a1.1 * a0.2.1)) + a1.2.1)) * a0.2.2.1)) + a1.2.2.1)), ()) := by
  rewrite [h_box_index]
  kernel_rfl

/- 32: (loop.example/g01166/impl.Heap).cubes -/
abbrev As_Heap_cubes : List ATy := [.data true T_Heap]
abbrev R_Heap_cubes : List (Bool × Ty) := [(false, (.int .u64))]
abbrev M_Heap_cubes : List RMode := []
abbrev Ft_Heap_cubes : Type := D_Heap × Unit → Option (Int × Unit)
noncomputable def X_Heap_cubes (n : Nat) (F_Heap_box : Ft_Heap_box) (F_box_index : Ft_box_index) : Ctx := { types := TT, globals := [], con := [(31, ⟨As_Heap_box, R_Heap_box, M_Heap_box, F_Heap_box⟩), (63, ⟨As_box_index, R_box_index, M_box_index, F_box_index⟩)], keep := [(3, ⟨[.box 1, .tmp 1, .tmp 3, .tmp 7, .tmp 8, .tmp 9], []⟩)], results := [.tmp 2], ntmps := 22, n := n }
noncomputable def B_Heap_cubes : Code := (Try.f32.body).getD .skip
noncomputable def L_Heap_cubes_3 (n : Nat) (F_Heap_box : Ft_Heap_box) (F_box_index : Ft_box_index) (m0 : Nat) (p0 : Int) (p1 : Int) (p2 : Int) (p3 : List D_A3) (p4 : Int) (p5 : List D_A3) (p6 : Int) (p7 : Int) : Option (denL R_Heap_cubes) := loopF (X_Heap_cubes n F_Heap_box F_box_index) B_Heap_cubes R_Heap_cubes M_Heap_cubes 3 [m0] [(.ver, .num 1), (.box 1, .box 0 false [.int .i64 p0, .int .i64 p1, .int .i64 p2, .imm T_A3 p3 (some 3)]), (.tmp 1, .val false [.addr 1 0 0]), (.tmp 3, .val false [.int .u64 p4]), (.tmp 7, .val false [.imm T_A3 p5 (some 3)]), (.tmp 8, .val false [.int .i64 p6]), (.tmp 9, .val false [.int .i64 p7])]
noncomputable def P_Heap_cubes : Ft_Heap_cubes := hid (runF (X_Heap_cubes N P_Heap_box P_box_index) B_Heap_cubes As_Heap_cubes R_Heap_cubes M_Heap_cubes)
theorem h_Heap_cubes : P_Heap_cubes = runF (X_Heap_cubes N P_Heap_box P_box_index) B_Heap_cubes As_Heap_cubes R_Heap_cubes M_Heap_cubes := hid_eq _
noncomputable def C_Heap_cubes : Contract := ⟨As_Heap_cubes, R_Heap_cubes, M_Heap_cubes, P_Heap_cubes⟩
theorem s_Heap_cubes : Sound Try.prog GG 32 C_Heap_cubes := by
  unfold C_Heap_cubes; rw [h_Heap_cubes]
  exact sound_of_run (fn := Try.f32) hmix hstable (tyOK_of ttOK) (hglob (X_Heap_cubes N P_Heap_box P_box_index)) (conOK_of (X := X_Heap_cubes N P_Heap_box P_box_index) ⟨s_Heap_box, s_box_index, trivial⟩) (mconOK_of (X := X_Heap_cubes N P_Heap_box P_box_index) trivial) (by kernel_rfl) (by kernel_rfl) (by kernel_rfl) (by kernel_rfl) (by kernel_rfl) (of_decide_eq_true (by kernel_rfl))
noncomputable def l_Heap_cubes_3 : Nat → Int → Int → Int → (List D_A3) → Int → (List D_A3) → Int → Int → Option (denL R_Heap_cubes) := hid (fun m0 p0 p1 p2 p3 p4 p5 p6 p7 => L_Heap_cubes_3 N P_Heap_box P_box_index m0 p0 p1 p2 p3 p4 p5 p6 p7)
theorem h_Heap_cubes_3 : l_Heap_cubes_3 = fun m0 p0 p1 p2 p3 p4 p5 p6 p7 => L_Heap_cubes_3 N P_Heap_box P_box_index m0 p0 p1 p2 p3 p4 p5 p6 p7 := hid_eq _
theorem p_Heap_cubes (a0 : D_Heap) : P_Heap_cubes (a0, ()) = 
  l_Heap_cubes_3 N a0.1 a0.2.1 a0.2.2.1 a0.2.2.2.1 0 a0.2.2.2.1 (List.length a0.2.2.2.1 : Int) 0 := by
  rewrite [h_Heap_cubes, h_Heap_cubes_3]
  kernel_rfl
theorem q_Heap_cubes_3 (m0 : Nat) (p0 : Int) (p1 : Int) (p2 : Int) (p3 : List D_A3) (p4 : Int) (p5 : List D_A3) (p6 : Int) (p7 : Int) : l_Heap_cubes_3 (m0 + 1) p0 p1 p2 p3 p4 p5 p6 p7 = 
  bif decide (p7 < p6) then
    bif inB p7 (List.length p5) then
      Option.bind (P_Heap_box ((p0, (p1, (p2, (p3, ())))), ())) fun r2 =>
      Option.bind (P_box_index (r2.1, (nth T_A3 p5 p7), ())) fun r3 =>
      bif decide ((0 : Int) ≤ r3.1) then
        l_Heap_cubes_3 m0 p0 p1 p2 p3 (intBits .or .u64 p4 (shlI .u64 1 r3.1)) p5 p6 (IntKind.wrap .i64 (p7 + 1))
      else none
    else none
  else
    some (p4, ()) := by
  rewrite [h_Heap_cubes_3]
  kernel_rfl

/- 62: loop.example/g01166/impl.within -/
abbrev As_impl_within : List ATy := [.data false (.int .i64), .data false (.int .i64), .data false (.int .i64)]
abbrev R_impl_within : List (Bool × Ty) := [(false, .bool)]
abbrev M_impl_within : List RMode := []
abbrev Ft_impl_within : Type := Int × Int × Int × Unit → Option (Bool × Unit)
noncomputable def X_impl_within (n : Nat) : Ctx := { types := TT, globals := [], con := [], keep := [], results := [.tmp 6], ntmps := 15, n := n }
noncomputable def B_impl_within : Code := (Try.f62.body).getD .skip
noncomputable def P_impl_within : Ft_impl_within := hid (runF (X_impl_within N) B_impl_within As_impl_within R_impl_within M_impl_within)
theorem h_impl_within : P_impl_within = runF (X_impl_within N) B_impl_within As_impl_within R_impl_within M_impl_within := hid_eq _
noncomputable def C_impl_within : Contract := ⟨As_impl_within, R_impl_within, M_impl_within, P_impl_within⟩
theorem s_impl_within : Sound Try.prog GG 62 C_impl_within := by
  unfold C_impl_within; rw [h_impl_within]
  exact sound_of_run (fn := Try.f62) hmix hstable (tyOK_of ttOK) (hglob (X_impl_within N)) (conOK_of (X := X_impl_within N) trivial) (mconOK_of (X := X_impl_within N) trivial) (by kernel_rfl) (by kernel_rfl) (by kernel_rfl) (by kernel_rfl) (by kernel_rfl) (of_decide_eq_true (by kernel_rfl))
theorem p_impl_within (a0 : Int) (a1 : Int) (a2 : Int) : P_impl_within (a0, a1, a2, ()) = 
  bif decide (a0 ≥ a1) then
    some (decide (a0 ≤ a2), ())
  else
    some (false, ()) := by
  rewrite [h_impl_within]
  kernel_rfl

/- 58: (loop.example/g01166/impl.box).valid -/
abbrev As_box_valid : List ATy := [.data true T_A3]
abbrev R_box_valid : List (Bool × Ty) := [(false, .bool)]
abbrev M_box_valid : List RMode := []
abbrev Ft_box_valid : Type := D_A3 × Unit → Option (Bool × Unit)
noncomputable def X_box_valid (n : Nat) (F_impl_within : Ft_impl_within) : Ctx := { types := TT, globals := [], con := [(62, ⟨As_impl_within, R_impl_within, M_impl_within, F_impl_within⟩)], keep := [], results := [.tmp 2], ntmps := 16, n := n }
noncomputable def B_box_valid : Code := (Try.f58.body).getD .skip
noncomputable def P_box_valid : Ft_box_valid := hid (runF (X_box_valid N P_impl_within) B_box_valid As_box_valid R_box_valid M_box_valid)
theorem h_box_valid : P_box_valid = runF (X_box_valid N P_impl_within) B_box_valid As_box_valid R_box_valid M_box_valid := hid_eq _
noncomputable def C_box_valid : Contract := ⟨As_box_valid, R_box_valid, M_box_valid, P_box_valid⟩
theorem s_box_valid : Sound Try.prog GG 58 C_box_valid := by
  unfold C_box_valid; rw [h_box_valid]
  exact sound_of_run (fn := Try.f58) hmix hstable (tyOK_of ttOK) (hglob (X_box_valid N P_impl_within)) (conOK_of (X := X_box_valid N P_impl_within) ⟨s_impl_within, trivial⟩) (mconOK_of (X := X_box_valid N P_impl_within) trivial) (by kernel_rfl) (by kernel_rfl) (by kernel_rfl) (by kernel_rfl) (by kernel_rfl) (of_decide_eq_true (by kernel_rfl))
theorem p_box_valid (a0 : D_A3) : P_box_valid (a0, ()) = 
  Option.bind (P_impl_within (a0.1, 1, 4, ())) fun r0 =>
  bif r0.1 then
    Option.bind (P_impl_within (a0.2.1, 1, 4, ())) fun r2 =>
    bif r2.1 then
      Option.bind (P_impl_within (a0.2.2.1, 1, 4, ())) fun r4 =>
      some (r4.1, ())
    else
      some (false, ())
  else
    some (false, ()) := by
  rewrite [h_box_valid]
  kernel_rfl

/- 59: (loop.example/g01166/impl.box).has -/
abbrev As_box_has : List ATy := [.data true T_A3, .data true T_A3]
abbrev R_box_has : List (Bool × Ty) := [(false, .bool)]
abbrev M_box_has : List RMode := []
abbrev Ft_box_has : Type := D_A3 × D_A3 × Unit → Option (Bool × Unit)
noncomputable def X_box_has (n : Nat) (F_impl_within : Ft_impl_within) : Ctx := { types := TT, globals := [], con := [(62, ⟨As_impl_within, R_impl_within, M_impl_within, F_impl_within⟩)], keep := [], results := [.tmp 4], ntmps := 27, n := n }
noncomputable def B_box_has : Code := (Try.f59.body).getD .skip
noncomputable def P_box_has : Ft_box_has := hid (runF (X_box_has N P_impl_within) B_box_has As_box_has R_box_has M_box_has)
theorem h_box_has : P_box_has = runF (X_box_has N P_impl_within) B_box_has As_box_has R_box_has M_box_has := hid_eq _
noncomputable def C_box_has : Contract := ⟨As_box_has, R_box_has, M_box_has, P_box_has⟩
theorem s_box_has : Sound Try.prog GG 59 C_box_has := by
  unfold C_box_has; rw [h_box_has]
  exact sound_of_run (fn := Try.f59) hmix hstable (tyOK_of ttOK) (hglob (X_box_has N P_impl_within)) (conOK_of (X := X_box_has N P_impl_within) ⟨s_impl_within, trivial⟩) (mconOK_of (X := X_box_has N P_impl_within) trivial) (by kernel_rfl) (by kernel_rfl) (by kernel_rfl) (by kernel_rfl) (by kernel_rfl) (of_decide_eq_true (by kernel_rfl))
theorem p_box_has (a0 : D_A3) (a1 : D_A3) : P_box_has (a0, a1, ()) = 
  Option.bind (P_impl_within (a1.1, 0, (IntKind.wrap .i64 (a0.1 - 1)), ())) fun r0 =>
  bif r0.1 then
    Option.bind (P_impl_within (a1.2.1, 0, (IntKind.wrap .i64 (a0.2.1 - 1)), ())) fun r2 =>
    bif r2.1 then
      Option.bind (P_impl_within (a1.2.2.1, 0, (IntKind.wrap .i64 (a0.2.2.1 - 1)), ())) fun r4 =>
      some (r4.1, ())
    else
      some (false, ())
  else
    some (false, ()) := by
  rewrite [h_box_has]
  kernel_rfl

/- 92: cmp.isNaN[int] -/
abbrev As_cmp_isNaN_int : List ATy := [.data false (.int .i64)]
abbrev R_cmp_isNaN_int : List (Bool × Ty) := [(false, .bool)]
abbrev M_cmp_isNaN_int : List RMode := []
abbrev Ft_cmp_isNaN_int : Type := Int × Unit → Option (Bool × Unit)
noncomputable def X_cmp_isNaN_int (n : Nat) : Ctx := { types := TT, globals := [], con := [], keep := [], results := [.tmp 2], ntmps := 6, n := n }
noncomputable def B_cmp_isNaN_int : Code := (Try.f92.body).getD .skip
noncomputable def P_cmp_isNaN_int : Ft_cmp_isNaN_int := hid (runF (X_cmp_isNaN_int N) B_cmp_isNaN_int As_cmp_isNaN_int R_cmp_isNaN_int M_cmp_isNaN_int)
theorem h_cmp_isNaN_int : P_cmp_isNaN_int = runF (X_cmp_isNaN_int N) B_cmp_isNaN_int As_cmp_isNaN_int R_cmp_isNaN_int M_cmp_isNaN_int := hid_eq _
noncomputable def C_cmp_isNaN_int : Contract := ⟨As_cmp_isNaN_int, R_cmp_isNaN_int, M_cmp_isNaN_int, P_cmp_isNaN_int⟩
theorem s_cmp_isNaN_int : Sound Try.prog GG 92 C_cmp_isNaN_int := by
  unfold C_cmp_isNaN_int; rw [h_cmp_isNaN_int]
  exact sound_of_run (fn := Try.f92) hmix hstable (tyOK_of ttOK) (hglob (X_cmp_isNaN_int N)) (conOK_of (X := X_cmp_isNaN_int N) trivial) (mconOK_of (X := X_cmp_isNaN_int N) trivial) (by kernel_rfl) (by kernel_rfl) (by kernel_rfl) (by kernel_rfl) (by kernel_rfl) (of_decide_eq_true (by kernel_rfl))
theorem p_cmp_isNaN_int (a0 : Int) : P_cmp_isNaN_int (a0, ()) = 
  some (!decide (a0 = a0), ()) := by
  rewrite [h_cmp_isNaN_int]
  kernel_rfl

/- 87: cmp.Compare[int] -/
abbrev As_cmp_Compare_int : List ATy := [.data false (.int .i64), .data false (.int .i64)]
abbrev R_cmp_Compare_int : List (Bool × Ty) := [(false, (.int .i64))]
abbrev M_cmp_Compare_int : List RMode := []
abbrev Ft_cmp_Compare_int : Type := Int × Int × Unit → Option (Int × Unit)
noncomputable def X_cmp_Compare_int (n : Nat) (F_cmp_isNaN_int : Ft_cmp_isNaN_int) : Ctx := { types := TT, globals := [], con := [(92, ⟨As_cmp_isNaN_int, R_cmp_isNaN_int, M_cmp_isNaN_int, F_cmp_isNaN_int⟩)], keep := [], results := [.tmp 4], ntmps := 20, n := n }
noncomputable def B_cmp_Compare_int : Code := (Try.f87.body).getD .skip
noncomputable def P_cmp_Compare_int : Ft_cmp_Compare_int := hid (runF (X_cmp_Compare_int N P_cmp_isNaN_int) B_cmp_Compare_int As_cmp_Compare_int R_cmp_Compare_int M_cmp_Compare_int)
theorem h_cmp_Compare_int : P_cmp_Compare_int = runF (X_cmp_Compare_int N P_cmp_isNaN_int) B_cmp_Compare_int As_cmp_Compare_int R_cmp_Compare_int M_cmp_Compare_int := hid_eq _
noncomputable def C_cmp_Compare_int : Contract := ⟨As_cmp_Compare_int, R_cmp_Compare_int, M_cmp_Compare_int, P_cmp_Compare_int⟩
theorem s_cmp_Compare_int : Sound Try.prog GG 87 C_cmp_Compare_int := by
  unfold C_cmp_Compare_int; rw [h_cmp_Compare_int]
  exact sound_of_run (fn := Try.f87) hmix hstable (tyOK_of ttOK) (hglob (X_cmp_Compare_int N P_cmp_isNaN_int)) (conOK_of (X := X_cmp_Compare_int N P_cmp_isNaN_int) ⟨s_cmp_isNaN_int, trivial⟩) (mconOK_of (X := X_cmp_Compare_int N P_cmp_isNaN_int) trivial) (by kernel_rfl) (by kernel_rfl) (by kernel_rfl) (by kernel_rfl) (by kernel_rfl) (of_decide_eq_true (by kernel_rfl))
theorem p_cmp_Compare_int (a0 : Int) (a1 : Int) : P_cmp_Compare_int (a0, a1, ()) = 
  Option.bind (P_cmp_isNaN_int (a0, ())) fun r0 =>
  Option.bind (P_cmp_isNaN_int (a1, ())) fun r1 =>
  bif r0.1 then
    bif r1.1 then
      some (0, ())
    else
      some ((-1), ())
  else
    bif r1.1 then
      some (1, ())
    else
      bif decide (a0 < a1) then
        some ((-1), ())
      else
        bif decide (a0 > a1) then
          some (1, ())
        else
          some (0, ()) := by
  rewrite [h_cmp_Compare_int]
  kernel_rfl

/- 76: slices.Compare[[]int,int] -/
abbrev As_slices_Compare_int_int : List ATy := [.data false (.sl (.int .i64)), .data false (.sl (.int .i64))]
abbrev R_slices_Compare_int_int : List (Bool × Ty) := [(false, (.int .i64))]
abbrev M_slices_Compare_int_int : List RMode := []
abbrev Ft_slices_Compare_int_int : Type := (List Int) × (List Int) × Unit → Option (Int × Unit)
noncomputable def X_slices_Compare_int_int (n : Nat) (F_cmp_Compare_int : Ft_cmp_Compare_int) : Ctx := { types := TT, globals := [], con := [(87, ⟨As_cmp_Compare_int, R_cmp_Compare_int, M_cmp_Compare_int, F_cmp_Compare_int⟩)], keep := [(2, ⟨[.tmp 0, .tmp 1, .tmp 9, .tmp 10, .tmp 11], []⟩)], results := [.tmp 4], ntmps := 36, n := n }
noncomputable def B_slices_Compare_int_int : Code := (Try.f76.body).getD .skip
noncomputable def L_slices_Compare_int_int_2 (n : Nat) (F_cmp_Compare_int : Ft_cmp_Compare_int) (m0 : Nat) (p0 : List Int) (p1 : List Int) (p2 : List Int) (p3 : Int) (p4 : Int) : Option (denL R_slices_Compare_int_int) := loopF (X_slices_Compare_int_int n F_cmp_Compare_int) B_slices_Compare_int_int R_slices_Compare_int_int M_slices_Compare_int_int 2 [m0] [(.ver, .num 1), (.tmp 0, .val false [.imm (.int .i64) p0 (some 0)]), (.tmp 1, .val false [.imm (.int .i64) p1 (some 1)]), (.tmp 9, .val false [.imm (.int .i64) p2 (some 0)]), (.tmp 10, .val false [.int .i64 p3]), (.tmp 11, .val false [.int .i64 p4])]
noncomputable def P_slices_Compare_int_int : Ft_slices_Compare_int_int := hid (runF (X_slices_Compare_int_int N P_cmp_Compare_int) B_slices_Compare_int_int As_slices_Compare_int_int R_slices_Compare_int_int M_slices_Compare_int_int)
theorem h_slices_Compare_int_int : P_slices_Compare_int_int = runF (X_slices_Compare_int_int N P_cmp_Compare_int) B_slices_Compare_int_int As_slices_Compare_int_int R_slices_Compare_int_int M_slices_Compare_int_int := hid_eq _
noncomputable def C_slices_Compare_int_int : Contract := ⟨As_slices_Compare_int_int, R_slices_Compare_int_int, M_slices_Compare_int_int, P_slices_Compare_int_int⟩
theorem s_slices_Compare_int_int : Sound Try.prog GG 76 C_slices_Compare_int_int := by
  unfold C_slices_Compare_int_int; rw [h_slices_Compare_int_int]
  exact sound_of_run (fn := Try.f76) hmix hstable (tyOK_of ttOK) (hglob (X_slices_Compare_int_int N P_cmp_Compare_int)) (conOK_of (X := X_slices_Compare_int_int N P_cmp_Compare_int) ⟨s_cmp_Compare_int, trivial⟩) (mconOK_of (X := X_slices_Compare_int_int N P_cmp_Compare_int) trivial) (by kernel_rfl) (by kernel_rfl) (by kernel_rfl) (by kernel_rfl) (by kernel_rfl) (of_decide_eq_true (by kernel_rfl))
noncomputable def l_slices_Compare_int_int_2 : Nat → (List Int) → (List Int) → (List Int) → Int → Int → Option (denL R_slices_Compare_int_int) := hid (fun m0 p0 p1 p2 p3 p4 => L_slices_Compare_int_int_2 N P_cmp_Compare_int m0 p0 p1 p2 p3 p4)
theorem h_slices_Compare_int_int_2 : l_slices_Compare_int_int_2 = fun m0 p0 p1 p2 p3 p4 => L_slices_Compare_int_int_2 N P_cmp_Compare_int m0 p0 p1 p2 p3 p4 := hid_eq _
theorem p_slices_Compare_int_int (a0 : List Int) (a1 : List Int) : P_slices_Compare_int_int (a0, a1, ()) = 
  l_slices_Compare_int_int_2 N a0 a1 a0 (List.length a0 : Int) 0 := by
  rewrite [h_slices_Compare_int_int, h_slices_Compare_int_int_2]
  kernel_rfl
theorem q_slices_Compare_int_int_2 (m0 : Nat) (p0 : List Int) (p1 : List Int) (p2 : List Int) (p3 : Int) (p4 : Int) : l_slices_Compare_int_int_2 (m0 + 1) p0 p1 p2 p3 p4 = 
  bif decide (p4 < p3) then
    bif inB p4 (List.length p2) then
      bif decide (p4 ≥ (List.length p1 : Int)) then
        some (1, ())
      else
        bif inB p4 (List.length p1) then
          Option.bind (P_cmp_Compare_int ((nth ((.int .i64) : Ty) p2 p4), (nth ((.int .i64) : Ty) p1 p4), ())) fun r4 =>
          bif !decide (r4.1 = 0) then
            some (r4.1, ())
          else
            l_slices_Compare_int_int_2 m0 p0 p1 p2 p3 (IntKind.wrap .i64 (p4 + 1))
        else none
    else none
  else
    bif decide ((List.length p0 : Int) < (List.length p1 : Int)) then
      some ((-1), ())
    else
      some (0, ()) := by
  rewrite [h_slices_Compare_int_int_2]
  kernel_rfl

/- 60: loop.example/g01166/impl.compareCells -/
abbrev As_impl_compareCells : List ATy := [.data true T_A3, .data true T_A3]
abbrev R_impl_compareCells : List (Bool × Ty) := [(false, (.int .i64))]
abbrev M_impl_compareCells : List RMode := []
abbrev Ft_impl_compareCells : Type := D_A3 × D_A3 × Unit → Option (Int × Unit)
noncomputable def X_impl_compareCells (n : Nat) (F_slices_Compare_int_int : Ft_slices_Compare_int_int) : Ctx := { types := TT, globals := [], con := [(76, ⟨As_slices_Compare_int_int, R_slices_Compare_int_int, M_slices_Compare_int_int, F_slices_Compare_int_int⟩)], keep := [], results := [.tmp 4], ntmps := 8, n := n }
noncomputable def B_impl_compareCells : Code := (Try.f60.body).getD .skip
noncomputable def P_impl_compareCells : Ft_impl_compareCells := hid (runF (X_impl_compareCells N P_slices_Compare_int_int) B_impl_compareCells As_impl_compareCells R_impl_compareCells M_impl_compareCells)
theorem h_impl_compareCells : P_impl_compareCells = runF (X_impl_compareCells N P_slices_Compare_int_int) B_impl_compareCells As_impl_compareCells R_impl_compareCells M_impl_compareCells := hid_eq _
noncomputable def C_impl_compareCells : Contract := ⟨As_impl_compareCells, R_impl_compareCells, M_impl_compareCells, P_impl_compareCells⟩
theorem s_impl_compareCells : Sound Try.prog GG 60 C_impl_compareCells := by
  unfold C_impl_compareCells; rw [h_impl_compareCells]
  exact sound_of_run (fn := Try.f60) hmix hstable (tyOK_of ttOK) (hglob (X_impl_compareCells N P_slices_Compare_int_int)) (conOK_of (X := X_impl_compareCells N P_slices_Compare_int_int) ⟨s_slices_Compare_int_int, trivial⟩) (mconOK_of (X := X_impl_compareCells N P_slices_Compare_int_int) trivial) (by kernel_rfl) (by kernel_rfl) (by kernel_rfl) (by kernel_rfl) (by kernel_rfl) (of_decide_eq_true (by kernel_rfl))
theorem p_impl_compareCells (a0 : D_A3) (a1 : D_A3) : P_impl_compareCells (a0, a1, ()) = 
  Option.bind (P_slices_Compare_int_int (([a0.1, a0.2.1, a0.2.2.1] : List Int), ([a1.1, a1.2.1, a1.2.2.1] : List Int), ())) fun r0 =>
  some (r0.1, ()) := by
  rewrite [h_impl_compareCells]
  kernel_rfl

/- 29: loop.example/g01166/impl.IsHeap -/
abbrev As_impl_IsHeap : List ATy := [.data true T_Heap]
abbrev R_impl_IsHeap : List (Bool × Ty) := [(false, .bool)]
abbrev M_impl_IsHeap : List RMode := []
abbrev Ft_impl_IsHeap : Type := D_Heap × Unit → Option (Bool × Unit)
noncomputable def X_impl_IsHeap (n : Nat) (F_Heap_box : Ft_Heap_box) (F_box_valid : Ft_box_valid) (F_box_has : Ft_box_has) (F_impl_compareCells : Ft_impl_compareCells) : Ctx := { types := TT, globals := [], con := [(31, ⟨As_Heap_box, R_Heap_box, M_Heap_box, F_Heap_box⟩), (58, ⟨As_box_valid, R_box_valid, M_box_valid, F_box_valid⟩), (59, ⟨As_box_has, R_box_has, M_box_has, F_box_has⟩), (60, ⟨As_impl_compareCells, R_impl_compareCells, M_impl_compareCells, F_impl_compareCells⟩)], keep := [(4, ⟨[.box 1, .tmp 1, .tmp 10, .tmp 11, .tmp 12], []⟩)], results := [.tmp 2], ntmps := 38, n := n }
noncomputable def B_impl_IsHeap : Code := (Try.f29.body).getD .skip
noncomputable def L_impl_IsHeap_4 (n : Nat) (F_Heap_box : Ft_Heap_box) (F_box_valid : Ft_box_valid) (F_box_has : Ft_box_has) (F_impl_compareCells : Ft_impl_compareCells) (m0 : Nat) (p0 : Int) (p1 : Int) (p2 : Int) (p3 : List D_A3) (p4 : List D_A3) (p5 : Int) (p6 : Int) : Option (denL R_impl_IsHeap) := loopF (X_impl_IsHeap n F_Heap_box F_box_valid F_box_has F_impl_compareCells) B_impl_IsHeap R_impl_IsHeap M_impl_IsHeap 4 [m0] [(.ver, .num 1), (.box 1, .box 0 false [.int .i64 p0, .int .i64 p1, .int .i64 p2, .imm T_A3 p3 (some 3)]), (.tmp 1, .val false [.addr 1 0 0]), (.tmp 10, .val false [.imm T_A3 p4 (some 3)]), (.tmp 11, .val false [.int .i64 p5]), (.tmp 12, .val false [.int .i64 p6])]
noncomputable def P_impl_IsHeap : Ft_impl_IsHeap := hid (runF (X_impl_IsHeap N P_Heap_box P_box_valid P_box_has P_impl_compareCells) B_impl_IsHeap As_impl_IsHeap R_impl_IsHeap M_impl_IsHeap)
theorem h_impl_IsHeap : P_impl_IsHeap = runF (X_impl_IsHeap N P_Heap_box P_box_valid P_box_has P_impl_compareCells) B_impl_IsHeap As_impl_IsHeap R_impl_IsHeap M_impl_IsHeap := hid_eq _
noncomputable def C_impl_IsHeap : Contract := ⟨As_impl_IsHeap, R_impl_IsHeap, M_impl_IsHeap, P_impl_IsHeap⟩
theorem s_impl_IsHeap : Sound Try.prog GG 29 C_impl_IsHeap := by
  unfold C_impl_IsHeap; rw [h_impl_IsHeap]
  exact sound_of_run (fn := Try.f29) hmix hstable (tyOK_of ttOK) (hglob (X_impl_IsHeap N P_Heap_box P_box_valid P_box_has P_impl_compareCells)) (conOK_of (X := X_impl_IsHeap N P_Heap_box P_box_valid P_box_has P_impl_compareCells) ⟨s_Heap_box, s_box_valid, s_box_has, s_impl_compareCells, trivial⟩) (mconOK_of (X := X_impl_IsHeap N P_Heap_box P_box_valid P_box_has P_impl_compareCells) trivial) (by kernel_rfl) (by kernel_rfl) (by kernel_rfl) (by kernel_rfl) (by kernel_rfl) (of_decide_eq_true (by kernel_rfl))
noncomputable def l_impl_IsHeap_4 : Nat → Int → Int → Int → (List D_A3) → (List D_A3) → Int → Int → Option (denL R_impl_IsHeap) := hid (fun m0 p0 p1 p2 p3 p4 p5 p6 => L_impl_IsHeap_4 N P_Heap_box P_box_valid P_box_has P_impl_compareCells m0 p0 p1 p2 p3 p4 p5 p6)
theorem h_impl_IsHeap_4 : l_impl_IsHeap_4 = fun m0 p0 p1 p2 p3 p4 p5 p6 => L_impl_IsHeap_4 N P_Heap_box P_box_valid P_box_has P_impl_compareCells m0 p0 p1 p2 p3 p4 p5 p6 := hid_eq _
theorem p_impl_IsHeap (a0 : D_Heap) : P_impl_IsHeap (a0, ()) = 
  Option.bind (P_Heap_box (a0, ())) fun r0 =>
  Option.bind (P_box_valid (r0.1, ())) fun r1 =>
  bif !r1.1 then
    some (false, ())
  else
    l_impl_IsHeap_4 N a0.1 a0.2.1 a0.2.2.1 a0.2.2.2.1 a0.2.2.2.1 (List.length a0.2.2.2.1 : Int) 0 := by
  rewrite [h_impl_IsHeap, h_impl_IsHeap_4]
  kernel_rfl
theorem q_impl_IsHeap_4 (m0 : Nat) (p0 : Int) (p1 : Int) (p2 : Int) (p3 : List D_A3) (p4 : List D_A3) (p5 : Int) (p6 : Int) : l_impl_IsHeap_4 (m0 + 1) p0 p1 p2 p3 p4 p5 p6 = 
  bif decide (p6 < p5) then
    bif inB p6 (List.length p4) then
      Option.bind (P_Heap_box ((p0, (p1, (p2, (p3, ())))), ())) fun r2 =>
      Option.bind (P_box_has (r2.1, (nth T_A3 p4 p6), ())) fun r3 =>
      bif !r3.1 then
        some (false, ())
      else
        bif decide (p6 > 0) then
          bif inB (IntKind.wrap .i64 (p6 - 1)) (List.length p3) then
            Option.bind (P_impl_compareCells ((nth T_A3 p3 (IntKind.wrap .i64 (p6 - 1))), (nth T_A3 p4 p6), ())) fun r7 =>
            bif decide (r7.1 ≥ 0) then
              some (false, ())
            else
              l_impl_IsHeap_4 m0 p0 p1 p2 p3 p4 p5 (IntKind.wrap .i64 (p6 + 1))
          else none
        else
          l_impl_IsHeap_4 m0 p0 p1 p2 p3 p4 p5 (IntKind.wrap .i64 (p6 + 1))
    else none
  else
    some (true, ()) := by
  rewrite [h_impl_IsHeap_4]
  kernel_rfl

/- 43: loop.example/g01166/impl.IsBench -/
abbrev As_impl_IsBench : List ATy := [.data true T_Bench]
abbrev R_impl_IsBench : List (Bool × Ty) := [(false, .bool)]
abbrev M_impl_IsBench : List RMode := []
abbrev Ft_impl_IsBench : Type := D_Bench × Unit → Option (Bool × Unit)
noncomputable def X_impl_IsBench (n : Nat) (F_impl_IsHeap : Ft_impl_IsHeap) (F_impl_within : Ft_impl_within) : Ctx := { types := TT, globals := [], con := [(29, ⟨As_impl_IsHeap, R_impl_IsHeap, M_impl_IsHeap, F_impl_IsHeap⟩), (62, ⟨As_impl_within, R_impl_within, M_impl_within, F_impl_within⟩)], keep := [], results := [.tmp 2], ntmps := 20, n := n }
noncomputable def B_impl_IsBench : Code := (Try.f43.body).getD .skip
noncomputable def P_impl_IsBench : Ft_impl_IsBench := hid (runF (X_impl_IsBench N P_impl_IsHeap P_impl_within) B_impl_IsBench As_impl_IsBench R_impl_IsBench M_impl_IsBench)
theorem h_impl_IsBench : P_impl_IsBench = runF (X_impl_IsBench N P_impl_IsHeap P_impl_within) B_impl_IsBench As_impl_IsBench R_impl_IsBench M_impl_IsBench := hid_eq _
noncomputable def C_impl_IsBench : Contract := ⟨As_impl_IsBench, R_impl_IsBench, M_impl_IsBench, P_impl_IsBench⟩
theorem s_impl_IsBench : Sound Try.prog GG 43 C_impl_IsBench := by
  unfold C_impl_IsBench; rw [h_impl_IsBench]
  exact sound_of_run (fn := Try.f43) hmix hstable (tyOK_of ttOK) (hglob (X_impl_IsBench N P_impl_IsHeap P_impl_within)) (conOK_of (X := X_impl_IsBench N P_impl_IsHeap P_impl_within) ⟨s_impl_IsHeap, s_impl_within, trivial⟩) (mconOK_of (X := X_impl_IsBench N P_impl_IsHeap P_impl_within) trivial) (by kernel_rfl) (by kernel_rfl) (by kernel_rfl) (by kernel_rfl) (by kernel_rfl) (of_decide_eq_true (by kernel_rfl))
theorem p_impl_IsBench (a0 : D_Bench) : P_impl_IsBench (a0, ()) = 
  Option.bind (P_impl_IsHeap (a0.1, ())) fun r0 =>
  bif r0.1 then
    Option.bind (P_impl_within (a0.2.1, 0, (List.length a0.1.2.2.2.1 : Int), ())) fun r2 =>
    bif r2.1 then
      Option.bind (P_impl_within (a0.2.2.1, 0, 1000, ())) fun r4 =>
      some (r4.1, ())
    else
      some (false, ())
  else
    some (false, ()) := by
  rewrite [h_impl_IsBench]
  kernel_rfl

/- 72: (loop.example/g01166/impl.Shadow).list -/
abbrev As_Shadow_list : List ATy := [.data true T_Shadow, .data false (.int .i64)]
abbrev R_Shadow_list : List (Bool × Ty) := [(false, (.sl (.int .i64)))]
abbrev M_Shadow_list : List RMode := [.imm]
abbrev Ft_Shadow_list : Type := D_Shadow × Int × Unit → Option ((List Int) × Unit)
noncomputable def X_Shadow_list (n : Nat) : Ctx := { types := TT, globals := [], con := [], keep := [], results := [.tmp 4], ntmps := 14, n := n }
noncomputable def B_Shadow_list : Code := (Try.f72.body).getD .skip
noncomputable def P_Shadow_list : Ft_Shadow_list := hid (runF (X_Shadow_list N) B_Shadow_list As_Shadow_list R_Shadow_list M_Shadow_list)
theorem h_Shadow_list : P_Shadow_list = runF (X_Shadow_list N) B_Shadow_list As_Shadow_list R_Shadow_list M_Shadow_list := hid_eq _
noncomputable def C_Shadow_list : Contract := ⟨As_Shadow_list, R_Shadow_list, M_Shadow_list, P_Shadow_list⟩
theorem s_Shadow_list : Sound Try.prog GG 72 C_Shadow_list := by
  unfold C_Shadow_list; rw [h_Shadow_list]
  exact sound_of_run (fn := Try.f72) hmix hstable (tyOK_of ttOK) (hglob (X_Shadow_list N)) (conOK_of (X := X_Shadow_list N) trivial) (mconOK_of (X := X_Shadow_list N) trivial) (by kernel_rfl) (by kernel_rfl) (by kernel_rfl) (by kernel_rfl) (by kernel_rfl) (of_decide_eq_true (by kernel_rfl))
theorem p_Shadow_list (a0 : D_Shadow) (a1 : Int) : P_Shadow_list (a0, a1, ()) = 
  bif inB a1 3 then
    bif decide (a1 = (0 : Int)) then
      some (a0.2.2.2.2.2.1, ())
    else
      bif decide (a1 = (1 : Int)) then
        some (a0.2.2.2.2.1, ())
      else
        some (a0.2.2.2.1, ())
  else none := by
  rewrite [h_Shadow_list]
  kernel_rfl

/- 83: (loop.example/g01166/impl.Shadow).box -/
abbrev As_Shadow_box : List ATy := [.data true T_Shadow]
abbrev R_Shadow_box : List (Bool × Ty) := [(true, T_A3)]
abbrev M_Shadow_box : List RMode := []
abbrev Ft_Shadow_box : Type := D_Shadow × Unit → Option (D_A3 × Unit)
noncomputable def X_Shadow_box (n : Nat) : Ctx := { types := TT, globals := [], con := [], keep := [], results := [.cell 2 59], ntmps := 10, n := n }
noncomputable def B_Shadow_box : Code := (Try.f83.body).getD .skip
noncomputable def P_Shadow_box : Ft_Shadow_box := hid (runF (X_Shadow_box N) B_Shadow_box As_Shadow_box R_Shadow_box M_Shadow_box)
theorem h_Shadow_box : P_Shadow_box = runF (X_Shadow_box N) B_Shadow_box As_Shadow_box R_Shadow_box M_Shadow_box := hid_eq _
noncomputable def C_Shadow_box : Contract := ⟨As_Shadow_box, R_Shadow_box, M_Shadow_box, P_Shadow_box⟩
theorem s_Shadow_box : Sound Try.prog GG 83 C_Shadow_box := by
  unfold C_Shadow_box; rw [h_Shadow_box]
  exact sound_of_run (fn := Try.f83) hmix hstable (tyOK_of ttOK) (hglob (X_Shadow_box N)) (conOK_of (X := X_Shadow_box N) trivial) (mconOK_of (X := X_Shadow_box N) trivial) (by kernel_rfl) (by kernel_rfl) (by kernel_rfl) (by kernel_rfl) (by kernel_rfl) (of_decide_eq_true (by kernel_rfl))
theorem p_Shadow_box (a0 : D_Shadow) : P_Shadow_box (a0, ()) = 
  some ((a0.1, (a0.2.1, (a0.2.2.1, ()))), ()) := by
  rewrite [h_Shadow_box]
  kernel_rfl

/- 64: (loop.example/g01166/impl.box).size -/
abbrev As_box_size : List ATy := [.data true T_A3]
abbrev R_box_size : List (Bool × Ty) := [(false, (.int .i64))]
abbrev M_box_size : List RMode := []
abbrev Ft_box_size : Type := D_A3 × Unit → Option (Int × Unit)
noncomputable def X_box_size (n : Nat) : Ctx := { types := TT, globals := [], con := [], keep := [], results := [.tmp 2], ntmps := 11, n := n }
noncomputable def B_box_size : Code := (Try.f64.body).getD .skip
noncomputable def P_box_size : Ft_box_size := hid (runF (X_box_size N) B_box_size As_box_size R_box_size M_box_size)
theorem h_box_size : P_box_size = runF (X_box_size N) B_box_size As_box_size R_box_size M_box_size := hid_eq _
noncomputable def C_box_size : Contract := ⟨As_box_size, R_box_size, M_box_size, P_box_size⟩
theorem s_box_size : Sound Try.prog GG 64 C_box_size := by
  unfold C_box_size; rw [h_box_size]
  exact sound_of_run (fn := Try.f64) hmix hstable (tyOK_of ttOK) (hglob (X_box_size N)) (conOK_of (X := X_box_size N) trivial) (mconOK_of (X := X_box_size N) trivial) (by kernel_rfl) (by kernel_rfl) (by kernel_rfl) (by kernel_rfl) (by kernel_rfl) (of_decide_eq_true (by kernel_rfl))
theorem p_box_size (a0 : D_A3) : P_box_size (a0, ()) = 
  some ((IntKind.wrap .i64 ((IntKind.wrap .i64 (a0.1 * a0.2.1)) * a0.2.2.1)), ()) := by
  rewrite [h_box_size]
  kernel_rfl

/- 84: (loop.example/g01166/impl.box).lines -/
abbrev As_box_lines : List ATy := [.data true T_A3, .data false (.int .i64)]
abbrev R_box_lines : List (Bool × Ty) := [(false, (.int .i64))]
abbrev M_box_lines : List RMode := []
abbrev Ft_box_lines : Type := D_A3 × Int × Unit → Option (Int × Unit)
noncomputable def X_box_lines (n : Nat) (F_box_size : Ft_box_size) : Ctx := { types := TT, globals := [], con := [(64, ⟨As_box_size, R_box_size, M_box_size, F_box_size⟩)], keep := [], results := [.tmp 4], ntmps := 11, n := n }
noncomputable def B_box_lines : Code := (Try.f84.body).getD .skip
noncomputable def P_box_lines : Ft_box_lines := hid (runF (X_box_lines N P_box_size) B_box_lines As_box_lines R_box_lines M_box_lines)
theorem h_box_lines : P_box_lines = runF (X_box_lines N P_box_size) B_box_lines As_box_lines R_box_lines M_box_lines := hid_eq _
noncomputable def C_box_lines : Contract := ⟨As_box_lines, R_box_lines, M_box_lines, P_box_lines⟩
theorem s_box_lines : Sound Try.prog GG 84 C_box_lines := by
  unfold C_box_lines; rw [h_box_lines]
  exact sound_of_run (fn := Try.f84) hmix hstable (tyOK_of ttOK) (hglob (X_box_lines N P_box_size)) (conOK_of (X := X_box_lines N P_box_size) ⟨s_box_size, trivial⟩) (mconOK_of (X := X_box_lines N P_box_size) trivial) (by kernel_rfl) (by kernel_rfl) (by kernel_rfl) (by kernel_rfl) (by kernel_rfl) (of_decide_eq_true (by kernel_rfl))
theorem p_box_lines (a0 : D_A3) (a1 : Int) : P_box_lines (a0, a1, ()) = 
  Option.bind (P_box_size (a0, ())) fun r0 =>
  bif inB a1 3 then
    bif !decide ((bif decide (a1 = (0 : Int)) then a0.1 else (bif decide (a1 = (1 : Int)) then a0.2.1 else a0.2.2.1)) = 0) then
      some ((IntKind.wrap .i64 (Int.tdiv r0.1 (bif decide (a1 = (0 : Int)) then a0.1 else (bif decide (a1 = (1 : Int)) then a0.2.1 else a0.2.2.1)))), ())
    else none
  else none := by
  rewrite [h_box_lines]
  kernel_rfl

/- 85: loop.example/g01166/impl.allWithin -/
abbrev As_impl_allWithin : List ATy := [.data false (.sl (.int .i64)), .data false (.int .i64), .data false (.int .i64)]
abbrev R_impl_allWithin : List (Bool × Ty) := [(false, .bool)]
abbrev M_impl_allWithin : List RMode := []
abbrev Ft_impl_allWithin : Type := (List Int) × Int × Int × Unit → Option (Bool × Unit)
noncomputable def X_impl_allWithin (n : Nat) (F_impl_within : Ft_impl_within) : Ctx := { types := TT, globals := [], con := [(62, ⟨As_impl_within, R_impl_within, M_impl_within, F_impl_within⟩)], keep := [(2, ⟨[.tmp 1, .tmp 2, .tmp 9, .tmp 10, .tmp 11], []⟩)], results := [.tmp 6], ntmps := 21, n := n }
noncomputable def B_impl_allWithin : Code := (Try.f85.body).getD .skip
noncomputable def L_impl_allWithin_2 (n : Nat) (F_impl_within : Ft_impl_within) (m0 : Nat) (p0 : Int) (p1 : Int) (p2 : List Int) (p3 : Int) (p4 : Int) : Option (denL R_impl_allWithin) := loopF (X_impl_allWithin n F_impl_within) B_impl_allWithin R_impl_allWithin M_impl_allWithin 2 [m0] [(.ver, .num 1), (.tmp 1, .val false [.int .i64 p0]), (.tmp 2, .val false [.int .i64 p1]), (.tmp 9, .val false [.imm (.int .i64) p2 (some 0)]), (.tmp 10, .val false [.int .i64 p3]), (.tmp 11, .val false [.int .i64 p4])]
noncomputable def P_impl_allWithin : Ft_impl_allWithin := hid (runF (X_impl_allWithin N P_impl_within) B_impl_allWithin As_impl_allWithin R_impl_allWithin M_impl_allWithin)
theorem h_impl_allWithin : P_impl_allWithin = runF (X_impl_allWithin N P_impl_within) B_impl_allWithin As_impl_allWithin R_impl_allWithin M_impl_allWithin := hid_eq _
noncomputable def C_impl_allWithin : Contract := ⟨As_impl_allWithin, R_impl_allWithin, M_impl_allWithin, P_impl_allWithin⟩
theorem s_impl_allWithin : Sound Try.prog GG 85 C_impl_allWithin := by
  unfold C_impl_allWithin; rw [h_impl_allWithin]
  exact sound_of_run (fn := Try.f85) hmix hstable (tyOK_of ttOK) (hglob (X_impl_allWithin N P_impl_within)) (conOK_of (X := X_impl_allWithin N P_impl_within) ⟨s_impl_within, trivial⟩) (mconOK_of (X := X_impl_allWithin N P_impl_within) trivial) (by kernel_rfl) (by kernel_rfl) (by kernel_rfl) (by kernel_rfl) (by kernel_rfl) (of_decide_eq_true (by kernel_rfl))
noncomputable def l_impl_allWithin_2 : Nat → Int → Int → (List Int) → Int → Int → Option (denL R_impl_allWithin) := hid (fun m0 p0 p1 p2 p3 p4 => L_impl_allWithin_2 N P_impl_within m0 p0 p1 p2 p3 p4)
theorem h_impl_allWithin_2 : l_impl_allWithin_2 = fun m0 p0 p1 p2 p3 p4 => L_impl_allWithin_2 N P_impl_within m0 p0 p1 p2 p3 p4 := hid_eq _
theorem p_impl_allWithin (a0 : List Int) (a1 : Int) (a2 : Int) : P_impl_allWithin (a0, a1, a2, ()) = 
  l_impl_allWithin_2 N a1 a2 a0 (List.length a0 : Int) 0 := by
  rewrite [h_impl_allWithin, h_impl_allWithin_2]
  kernel_rfl
theorem q_impl_allWithin_2 (m0 : Nat) (p0 : Int) (p1 : Int) (p2 : List Int) (p3 : Int) (p4 : Int) : l_impl_allWithin_2 (m0 + 1) p0 p1 p2 p3 p4 = 
  bif decide (p4 < p3) then
    bif inB p4 (List.length p2) then
      Option.bind (P_impl_within ((nth ((.int .i64) : Ty) p2 p4), p0, p1, ())) fun r2 =>
      bif !r2.1 then
        some (false, ())
      else
        l_impl_allWithin_2 m0 p0 p1 p2 p3 (IntKind.wrap .i64 (p4 + 1))
    else none
  else
    some (true, ()) := by
  rewrite [h_impl_allWithin_2]
  kernel_rfl

/- 71: loop.example/g01166/impl.IsShadow -/
abbrev As_impl_IsShadow : List ATy := [.data true T_Shadow]
abbrev R_impl_IsShadow : List (Bool × Ty) := [(false, .bool)]
abbrev M_impl_IsShadow : List RMode := []
abbrev Ft_impl_IsShadow : Type := D_Shadow × Unit → Option (Bool × Unit)
noncomputable def X_impl_IsShadow (n : Nat) (F_box_valid : Ft_box_valid) (F_Shadow_list : Ft_Shadow_list) (F_Shadow_box : Ft_Shadow_box) (F_box_lines : Ft_box_lines) (F_impl_allWithin : Ft_impl_allWithin) : Ctx := { types := TT, globals := [], con := [(58, ⟨As_box_valid, R_box_valid, M_box_valid, F_box_valid⟩), (72, ⟨As_Shadow_list, R_Shadow_list, M_Shadow_list, F_Shadow_list⟩), (83, ⟨As_Shadow_box, R_Shadow_box, M_Shadow_box, F_Shadow_box⟩), (84, ⟨As_box_lines, R_box_lines, M_box_lines, F_box_lines⟩), (85, ⟨As_impl_allWithin, R_impl_allWithin, M_impl_allWithin, F_impl_allWithin⟩)], keep := [(4, ⟨[.box 1, .tmp 1, .tmp 9], []⟩)], results := [.tmp 2], ntmps := 28, n := n }
noncomputable def B_impl_IsShadow : Code := (Try.f71.body).getD .skip
noncomputable def L_impl_IsShadow_4 (n : Nat) (F_box_valid : Ft_box_valid) (F_Shadow_list : Ft_Shadow_list) (F_Shadow_box : Ft_Shadow_box) (F_box_lines : Ft_box_lines) (F_impl_allWithin : Ft_impl_allWithin) (m0 : Nat) (p0 : Int) (p1 : Int) (p2 : Int) (p3 : List Int) (p4 : List Int) (p5 : List Int) (p6 : Int) : Option (denL R_impl_IsShadow) := loopF (X_impl_IsShadow n F_box_valid F_Shadow_list F_Shadow_box F_box_lines F_impl_allWithin) B_impl_IsShadow R_impl_IsShadow M_impl_IsShadow 4 [m0] [(.ver, .num 1), (.box 1, .box 0 false [.int .i64 p0, .int .i64 p1, .int .i64 p2, .imm (.int .i64) p3 (some 3), .imm (.int .i64) p4 (some 4), .imm (.int .i64) p5 (some 5)]), (.tmp 1, .val false [.addr 1 0 0]), (.tmp 9, .val false [.int .i64 p6])]
noncomputable def P_impl_IsShadow : Ft_impl_IsShadow := hid (runF (X_impl_IsShadow N P_box_valid P_Shadow_list P_Shadow_box P_box_lines P_impl_allWithin) B_impl_IsShadow As_impl_IsShadow R_impl_IsShadow M_impl_IsShadow)
theorem h_impl_IsShadow : P_impl_IsShadow = runF (X_impl_IsShadow N P_box_valid P_Shadow_list P_Shadow_box P_box_lines P_impl_allWithin) B_impl_IsShadow As_impl_IsShadow R_impl_IsShadow M_impl_IsShadow := hid_eq _
noncomputable def C_impl_IsShadow : Contract := ⟨As_impl_IsShadow, R_impl_IsShadow, M_impl_IsShadow, P_impl_IsShadow⟩
theorem s_impl_IsShadow : Sound Try.prog GG 71 C_impl_IsShadow := by
  unfold C_impl_IsShadow; rw [h_impl_IsShadow]
  exact sound_of_run (fn := Try.f71) hmix hstable (tyOK_of ttOK) (hglob (X_impl_IsShadow N P_box_valid P_Shadow_list P_Shadow_box P_box_lines P_impl_allWithin)) (conOK_of (X := X_impl_IsShadow N P_box_valid P_Shadow_list P_Shadow_box P_box_lines P_impl_allWithin) ⟨s_box_valid, s_Shadow_list, s_Shadow_box, s_box_lines, s_impl_allWithin, trivial⟩) (mconOK_of (X := X_impl_IsShadow N P_box_valid P_Shadow_list P_Shadow_box P_box_lines P_impl_allWithin) trivial) (by kernel_rfl) (by kernel_rfl) (by kernel_rfl) (by kernel_rfl) (by kernel_rfl) (of_decide_eq_true (by kernel_rfl))
noncomputable def l_impl_IsShadow_4 : Nat → Int → Int → Int → (List Int) → (List Int) → (List Int) → Int → Option (denL R_impl_IsShadow) := hid (fun m0 p0 p1 p2 p3 p4 p5 p6 => L_impl_IsShadow_4 N P_box_valid P_Shadow_list P_Shadow_box P_box_lines P_impl_allWithin m0 p0 p1 p2 p3 p4 p5 p6)
theorem h_impl_IsShadow_4 : l_impl_IsShadow_4 = fun m0 p0 p1 p2 p3 p4 p5 p6 => L_impl_IsShadow_4 N P_box_valid P_Shadow_list P_Shadow_box P_box_lines P_impl_allWithin m0 p0 p1 p2 p3 p4 p5 p6 := hid_eq _
theorem p_impl_IsShadow (a0 : D_Shadow) : P_impl_IsShadow (a0, ()) = 
  Option.bind (P_Shadow_box (a0, ())) fun r0 =>
  Option.bind (P_box_valid (r0.1, ())) fun r1 =>
  bif !r1.1 then
    some (false, ())
  else
    l_impl_IsShadow_4 N a0.1 a0.2.1 a0.2.2.1 a0.2.2.2.1 a0.2.2.2.2.1 a0.2.2.2.2.2.1 0 := by
  rewrite [h_impl_IsShadow, h_impl_IsShadow_4]
  kernel_rfl
theorem q_impl_IsShadow_4 (m0 : Nat) (p0 : Int) (p1 : Int) (p2 : Int) (p3 : List Int) (p4 : List Int) (p5 : List Int) (p6 : Int) : l_impl_IsShadow_4 (m0 + 1) p0 p1 p2 p3 p4 p5 p6 = 
  bif decide (p6 < 3) then
    Option.bind (P_Shadow_list ((p0, (p1, (p2, (p3, (p4, (p5, ())))))), p6, ())) fun r1 =>
    Option.bind (P_Shadow_box ((p0, (p1, (p2, (p3, (p4, (p5, ())))))), ())) fun r2 =>
    Option.bind (P_box_lines (r2.1, p6, ())) fun r3 =>
    bif !decide ((List.length r1.1 : Int) = r3.1) then
      some (false, ())
    else
      Option.bind (P_impl_allWithin (r1.1, 0, 1, ())) fun r5 =>
      bif !r5.1 then
        some (false, ())
      else
        l_impl_IsShadow_4 m0 p0 p1 p2 p3 p4 p5 (IntKind.wrap .i64 (p6 + 1))
  else
    some (true, ()) := by
  rewrite [h_impl_IsShadow_4]
  kernel_rfl

/- 44: loop.example/g01166/impl.LineBound -/
abbrev As_impl_LineBound : List ATy := [.data true T_Shadow]
abbrev R_impl_LineBound : List (Bool × Ty) := [(false, (.int .i64)), (false, .bool)]
abbrev M_impl_LineBound : List RMode := []
abbrev Ft_impl_LineBound : Type := D_Shadow × Unit → Option (Int × Bool × Unit)
noncomputable def X_impl_LineBound (n : Nat) (F_impl_IsShadow : Ft_impl_IsShadow) (F_Shadow_list : Ft_Shadow_list) : Ctx := { types := TT, globals := [], con := [(71, ⟨As_impl_IsShadow, R_impl_IsShadow, M_impl_IsShadow, F_impl_IsShadow⟩), (72, ⟨As_Shadow_list, R_Shadow_list, M_Shadow_list, F_Shadow_list⟩)], keep := [(5, ⟨[.box 1, .tmp 1, .tmp 4, .tmp 12], []⟩), (9, ⟨[.box 1, .tmp 1, .tmp 4, .tmp 6, .tmp 12, .tmp 17, .tmp 18, .tmp 19], []⟩)], results := [.tmp 2, .tmp 3], ntmps := 32, n := n }
noncomputable def B_impl_LineBound : Code := (Try.f44.body).getD .skip
noncomputable def L_impl_LineBound_5 (n : Nat) (F_impl_IsShadow : Ft_impl_IsShadow) (F_Shadow_list : Ft_Shadow_list) (m0 : Nat) (p0 : Int) (p1 : Int) (p2 : Int) (p3 : List Int) (p4 : List Int) (p5 : List Int) (p6 : Int) (p7 : Int) : Option (denL R_impl_LineBound) := loopF (X_impl_LineBound n F_impl_IsShadow F_Shadow_list) B_impl_LineBound R_impl_LineBound M_impl_LineBound 5 [m0] [(.ver, .num 1), (.box 1, .box 0 false [.int .i64 p0, .int .i64 p1, .int .i64 p2, .imm (.int .i64) p3 (some 3), .imm (.int .i64) p4 (some 4), .imm (.int .i64) p5 (some 5)]), (.tmp 1, .val false [.addr 1 0 0]), (.tmp 4, .val false [.int .i64 p6]), (.tmp 12, .val false [.int .i64 p7])]
noncomputable def L_impl_LineBound_9 (n : Nat) (F_impl_IsShadow : Ft_impl_IsShadow) (F_Shadow_list : Ft_Shadow_list) (m0 m1 : Nat) (p0 : Int) (p1 : Int) (p2 : Int) (p3 : List Int) (p4 : List Int) (p5 : List Int) (p6 : Int) (p7 : Int) (p8 : Int) (p9 : List Int) (p10 : Int) (p11 : Int) : Option (denL R_impl_LineBound) := loopF (X_impl_LineBound n F_impl_IsShadow F_Shadow_list) B_impl_LineBound R_impl_LineBound M_impl_LineBound 9 [m0, m1] [(.ver, .num 1), (.box 1, .box 0 false [.int .i64 p0, .int .i64 p1, .int .i64 p2, .imm (.int .i64) p3 (some 3), .imm (.int .i64) p4 (some 4), .imm (.int .i64) p5 (some 5)]), (.tmp 1, .val false [.addr 1 0 0]), (.tmp 4, .val false [.int .i64 p6]), (.tmp 6, .val false [.int .i64 p7]), (.tmp 12, .val false [.int .i64 p8]), (.tmp 17, .val false [.imm (.int .i64) p9 none]), (.tmp 18, .val false [.int .i64 p10]), (.tmp 19, .val false [.int .i64 p11])]
noncomputable def P_impl_LineBound : Ft_impl_LineBound := hid (runF (X_impl_LineBound N P_impl_IsShadow P_Shadow_list) B_impl_LineBound As_impl_LineBound R_impl_LineBound M_impl_LineBound)
theorem h_impl_LineBound : P_impl_LineBound = runF (X_impl_LineBound N P_impl_IsShadow P_Shadow_list) B_impl_LineBound As_impl_LineBound R_impl_LineBound M_impl_LineBound := hid_eq _
noncomputable def C_impl_LineBound : Contract := ⟨As_impl_LineBound, R_impl_LineBound, M_impl_LineBound, P_impl_LineBound⟩
theorem s_impl_LineBound : Sound Try.prog GG 44 C_impl_LineBound := by
  unfold C_impl_LineBound; rw [h_impl_LineBound]
  exact sound_of_run (fn := Try.f44) hmix hstable (tyOK_of ttOK) (hglob (X_impl_LineBound N P_impl_IsShadow P_Shadow_list)) (conOK_of (X := X_impl_LineBound N P_impl_IsShadow P_Shadow_list) ⟨s_impl_IsShadow, s_Shadow_list, trivial⟩) (mconOK_of (X := X_impl_LineBound N P_impl_IsShadow P_Shadow_list) trivial) (by kernel_rfl) (by kernel_rfl) (by kernel_rfl) (by kernel_rfl) (by kernel_rfl) (of_decide_eq_true (by kernel_rfl))
noncomputable def l_impl_LineBound_5 : Nat → Int → Int → Int → (List Int) → (List Int) → (List Int) → Int → Int → Option (denL R_impl_LineBound) := hid (fun m0 p0 p1 p2 p3 p4 p5 p6 p7 => L_impl_LineBound_5 N P_impl_IsShadow P_Shadow_list m0 p0 p1 p2 p3 p4 p5 p6 p7)
theorem h_impl_LineBound_5 : l_impl_LineBound_5 = fun m0 p0 p1 p2 p3 p4 p5 p6 p7 => L_impl_LineBound_5 N P_impl_IsShadow P_Shadow_list m0 p0 p1 p2 p3 p4 p5 p6 p7 := hid_eq _
noncomputable def l_impl_LineBound_9 : Nat → Nat → Int → Int → Int → (List Int) → (List Int) → (List Int) → Int → Int → Int → (List Int) → Int → Int → Option (denL R_impl_LineBound) := hid (fun m0 m1 p0 p1 p2 p3 p4 p5 p6 p7 p8 p9 p10 p11 => L_impl_LineBound_9 N P_impl_IsShadow P_Shadow_list m0 m1 p0 p1 p2 p3 p4 p5 p6 p7 p8 p9 p10 p11)
theorem h_impl_LineBound_9 : l_impl_LineBound_9 = fun m0 m1 p0 p1 p2 p3 p4 p5 p6 p7 p8 p9 p10 p11 => L_impl_LineBound_9 N P_impl_IsShadow P_Shadow_list m0 m1 p0 p1 p2 p3 p4 p5 p6 p7 p8 p9 p10 p11 := hid_eq _
theorem p_impl_LineBound (a0 : D_Shadow) : P_impl_LineBound (a0, ()) = 
  Option.bind (P_impl_IsShadow (a0, ())) fun r0 =>
  bif !r0.1 then
    some (0, false, ())
  else
    l_impl_LineBound_5 N a0.1 a0.2.1 a0.2.2.1 a0.2.2.2.1 a0.2.2.2.2.1 a0.2.2.2.2.2.1 0 0 := by
  rewrite [h_impl_LineBound, h_impl_LineBound_5]
  kernel_rfl
theorem q_impl_LineBound_5 (m0 : Nat) (p0 : Int) (p1 : Int) (p2 : Int) (p3 : List Int) (p4 : List Int) (p5 : List Int) (p6 : Int) (p7 : Int) : l_impl_LineBound_5 (m0 + 1) p0 p1 p2 p3 p4 p5 p6 p7 = 
  bif decide (p7 < 3) then
    Option.bind (P_Shadow_list ((p0, (p1, (p2, (p3, (p4, (p5, ())))))), p7, ())) fun r1 =>
    l_impl_LineBound_9 m0 N p0 p1 p2 p3 p4 p5 p6 0 p7 r1.1 (List.length r1.1 : Int) 0
  else
    some (p6, true, ()) := by
  rewrite [h_impl_LineBound_5, h_impl_LineBound_9]
  kernel_rfl
theorem q_impl_LineBound_9 (m0 m1 : Nat) (p0 : Int) (p1 : Int) (p2 : Int) (p3 : List Int) (p4 : List Int) (p5 : List Int) (p6 : Int) (p7 : Int) (p8 : Int) (p9 : List Int) (p10 : Int) (p11 : Int) : l_impl_LineBound_9 m0 (m1 + 1) p0 p1 p2 p3 p4 p5 p6 p7 p8 p9 p10 p11 = 
  bif decide (p11 < p10) then
    bif inB p11 (List.length p9) then
      l_impl_LineBound_9 m0 m1 p0 p1 p2 p3 p4 p5 p6 (IntKind.wrap .i64 (p7 + (nth ((.int .i64) : Ty) p9 p11))) p8 p9 p10 (IntKind.wrap .i64 (p11 + 1))
    else none
  else
    l_impl_LineBound_5 m0 p0 p1 p2 p3 p4 p5 (bif decide (p7 > p6) then p7 else p6) (IntKind.wrap .i64 (p8 + 1)) := by
  rewrite [h_impl_LineBound_5, h_impl_LineBound_9]
  kernel_rfl

/- 65: (loop.example/g01166/impl.set).has -/
abbrev As_set_has : List ATy := [.data false (.int .u64), .data false (.int .i64)]
abbrev R_set_has : List (Bool × Ty) := [(false, .bool)]
abbrev M_set_has : List RMode := []
abbrev Ft_set_has : Type := Int × Int × Unit → Option (Bool × Unit)
noncomputable def X_set_has (n : Nat) : Ctx := { types := TT, globals := [], con := [], keep := [], results := [.tmp 4], ntmps := 10, n := n }
noncomputable def B_set_has : Code := (Try.f65.body).getD .skip
noncomputable def P_set_has : Ft_set_has := hid (runF (X_set_has N) B_set_has As_set_has R_set_has M_set_has)
theorem h_set_has : P_set_has = runF (X_set_has N) B_set_has As_set_has R_set_has M_set_has := hid_eq _
noncomputable def C_set_has : Contract := ⟨As_set_has, R_set_has, M_set_has, P_set_has⟩
theorem s_set_has : Sound Try.prog GG 65 C_set_has := by
  unfold C_set_has; rw [h_set_has]
  exact sound_of_run (fn := Try.f65) hmix hstable (tyOK_of ttOK) (hglob (X_set_has N)) (conOK_of (X := X_set_has N) trivial) (mconOK_of (X := X_set_has N) trivial) (by kernel_rfl) (by kernel_rfl) (by kernel_rfl) (by kernel_rfl) (by kernel_rfl) (of_decide_eq_true (by kernel_rfl))
theorem p_set_has (a0 : Int) (a1 : Int) : P_set_has (a0, a1, ()) = 
  bif decide ((0 : Int) ≤ a1) then
    some (decide ((intBits .and .u64 (shrI .u64 a0 a1) 1) = 1), ())
  else none := by
  rewrite [h_set_has]
  kernel_rfl

/- 66: (loop.example/g01166/impl.box).cell -/
abbrev As_box_cell : List ATy := [.data true T_A3, .data false (.int .i64)]
abbrev R_box_cell : List (Bool × Ty) := [(true, T_A3)]
abbrev M_box_cell : List RMode := []
abbrev Ft_box_cell : Type := D_A3 × Int × Unit → Option (D_A3 × Unit)
noncomputable def X_box_cell (n : Nat) : Ctx := { types := TT, globals := [], con := [], keep := [], results := [.cell 4 58], ntmps := 24, n := n }
noncomputable def B_box_cell : Code := (Try.f66.body).getD .skip
noncomputable def P_box_cell : Ft_box_cell := hid (runF (X_box_cell N) B_box_cell As_box_cell R_box_cell M_box_cell)
theorem h_box_cell : P_box_cell = runF (X_box_cell N) B_box_cell As_box_cell R_box_cell M_box_cell := hid_eq _
noncomputable def C_box_cell : Contract := ⟨As_box_cell, R_box_cell, M_box_cell, P_box_cell⟩
theorem s_box_cell : Sound Try.prog GG 66 C_box_cell := by
  unfold C_box_cell; rw [h_box_cell]
  exact sound_of_run (fn := Try.f66) hmix hstable (tyOK_of ttOK) (hglob (X_box_cell N)) (conOK_of (X := X_box_cell N) trivial) (mconOK_of (X := X_box_cell N) trivial) (by kernel_rfl) (by kernel_rfl) (by kernel_rfl) (by kernel_rfl) (by kernel_rfl) (of_decide_eq_true (by kernel_rfl))
theorem p_box_cell (a0 : D_A3) (a1 : Int) : P_box_cell (a0, a1, ()) = 
  bif !decide (a0.2.2.1 = 0) then
    bif !decide (a0.2.1 = 0) then
      bif !decide (a0.2.2.1 = 0) then
        bif !decide (a0.2.1 = 0) then
          bif !decide (a0.2.2.1 = 0) then
            some (((IntKind.wrap .i64 (Int.tdiv (IntKind.wrap .i64 (Int.tdiv a1 a0.2.2.1)) a0.2.1)), ((Int.tmod (IntKind.wrap .i64 (Int.tdiv a1 a0.2.2.1)) a0.2.1), ((Int.tmod a1 a0.2.2.1), ()))), ())
          else none
        else none
      else none
    else none
  else none := by
  rewrite [h_box_cell]
  kernel_rfl

/- 33: (loop.example/g01166/impl.box).list -/
abbrev As_box_list : List ATy := [.data true T_A3, .data false (.int .u64)]
abbrev R_box_list : List (Bool × Ty) := [(false, (.sl T_A3))]
abbrev M_box_list : List RMode := [.own 58]
abbrev Ft_box_list : Type := D_A3 × Int × Unit → Option ((List D_A3) × Unit)
noncomputable def X_box_list (n : Nat) (F_box_size : Ft_box_size) (F_set_has : Ft_set_has) (F_box_cell : Ft_box_cell) : Ctx := { types := TT, globals := [], con := [(64, ⟨As_box_size, R_box_size, M_box_size, F_box_size⟩), (65, ⟨As_set_has, R_set_has, M_set_has, F_set_has⟩), (66, ⟨As_box_cell, R_box_cell, M_box_cell, F_box_cell⟩)], keep := [(3, ⟨[.box 2, .tmp 1, .tmp 2, .tmp 5, .tmp 9, .tmp 10], []⟩)], results := [.tmp 4], ntmps := 24, n := n }
noncomputable def B_box_list : Code := (Try.f33.body).getD .skip
noncomputable def L_box_list_3 (n : Nat) (F_box_size : Ft_box_size) (F_set_has : Ft_set_has) (F_box_cell : Ft_box_cell) (m0 : Nat) (p0 : Int) (p1 : Int) (p2 : Int) (p3 : Int) (p4 : List D_A3) (p5 : Int) (p6 : Int) : Option (denL R_box_list) := loopF (X_box_list n F_box_size F_set_has F_box_cell) B_box_list R_box_list M_box_list 3 [m0] [(.ver, .num 1), (.box 2, .box 0 false [.int .i64 p0, .int .i64 p1, .int .i64 p2]), (.tmp 1, .val false [.int .u64 p3]), (.tmp 2, .val false [.addr 2 0 0]), (.tmp 5, .val false [.own 58 T_A3 0 p4]), (.tmp 9, .val false [.int .i64 p5]), (.tmp 10, .val false [.int .i64 p6])]
noncomputable def P_box_list : Ft_box_list := hid (runF (X_box_list N P_box_size P_set_has P_box_cell) B_box_list As_box_list R_box_list M_box_list)
theorem h_box_list : P_box_list = runF (X_box_list N P_box_size P_set_has P_box_cell) B_box_list As_box_list R_box_list M_box_list := hid_eq _
noncomputable def C_box_list : Contract := ⟨As_box_list, R_box_list, M_box_list, P_box_list⟩
theorem s_box_list : Sound Try.prog GG 33 C_box_list := by
  unfold C_box_list; rw [h_box_list]
  exact sound_of_run (fn := Try.f33) hmix hstable (tyOK_of ttOK) (hglob (X_box_list N P_box_size P_set_has P_box_cell)) (conOK_of (X := X_box_list N P_box_size P_set_has P_box_cell) ⟨s_box_size, s_set_has, s_box_cell, trivial⟩) (mconOK_of (X := X_box_list N P_box_size P_set_has P_box_cell) trivial) (by kernel_rfl) (by kernel_rfl) (by kernel_rfl) (by kernel_rfl) (by kernel_rfl) (of_decide_eq_true (by kernel_rfl))
noncomputable def l_box_list_3 : Nat → Int → Int → Int → Int → (List D_A3) → Int → Int → Option (denL R_box_list) := hid (fun m0 p0 p1 p2 p3 p4 p5 p6 => L_box_list_3 N P_box_size P_set_has P_box_cell m0 p0 p1 p2 p3 p4 p5 p6)
theorem h_box_list_3 : l_box_list_3 = fun m0 p0 p1 p2 p3 p4 p5 p6 => L_box_list_3 N P_box_size P_set_has P_box_cell m0 p0 p1 p2 p3 p4 p5 p6 := hid_eq _
theorem p_box_list (a0 : D_A3) (a1 : Int) : P_box_list (a0, a1, ()) = 
  Option.bind (P_box_size (a0, ())) fun r0 =>
  l_box_list_3 N a0.1 a0.2.1 a0.2.2.1 a1 ([] : List D_A3) r0.1 0 := by
  rewrite [h_box_list, h_box_list_3]
  kernel_rfl
theorem q_box_list_3 (m0 : Nat) (p0 : Int) (p1 : Int) (p2 : Int) (p3 : Int) (p4 : List D_A3) (p5 : Int) (p6 : Int) : l_box_list_3 (m0 + 1) p0 p1 p2 p3 p4 p5 p6 = 
  bif decide (p6 < p5) then
    Option.bind (P_set_has (p3, p6, ())) fun r1 =>
    bif r1.1 then
      Option.bind (P_box_cell ((p0, (p1, (p2, ()))), p6, ())) fun r3 =>
      bif (decide (((List.length p4) + (List.length ([r3.1] : List D_A3))) * 24 ≤ 140737488355328) && decide (((List.length p4) + (List.length ([r3.1] : List D_A3))) ≤ 140737488355328)) then
        l_box_list_3 m0 p0 p1 p2 p3 (p4 ++ ([r3.1] : List D_A3)) p5 (IntKind.wrap .i64 (p6 + 1))
      else none
    else
      l_box_list_3 m0 p0 p1 p2 p3 p4 p5 (IntKind.wrap .i64 (p6 + 1))
  else
    some (p4, ()) := by
  rewrite [h_box_list_3]
  kernel_rfl

/- 91: loop.example/g01166/impl.others -/
abbrev As_impl_others : List ATy := [.data false (.int .i64)]
abbrev R_impl_others : List (Bool × Ty) := [(false, (.int .i64)), (false, (.int .i64))]
abbrev M_impl_others : List RMode := []
abbrev Ft_impl_others : Type := Int × Unit → Option (Int × Int × Unit)
noncomputable def X_impl_others (n : Nat) : Ctx := { types := TT, globals := [], con := [], keep := [], results := [.tmp 2, .tmp 3], ntmps := 9, n := n }
noncomputable def B_impl_others : Code := (Try.f91.body).getD .skip
noncomputable def P_impl_others : Ft_impl_others := hid (runF (X_impl_others N) B_impl_others As_impl_others R_impl_others M_impl_others)
theorem h_impl_others : P_impl_others = runF (X_impl_others N) B_impl_others As_impl_others R_impl_others M_impl_others := hid_eq _
noncomputable def C_impl_others : Contract := ⟨As_impl_others, R_impl_others, M_impl_others, P_impl_others⟩
theorem s_impl_others : Sound Try.prog GG 91 C_impl_others := by
  unfold C_impl_others; rw [h_impl_others]
  exact sound_of_run (fn := Try.f91) hmix hstable (tyOK_of ttOK) (hglob (X_impl_others N)) (conOK_of (X := X_impl_others N) trivial) (mconOK_of (X := X_impl_others N) trivial) (by kernel_rfl) (by kernel_rfl) (by kernel_rfl) (by kernel_rfl) (by kernel_rfl) (of_decide_eq_true (by kernel_rfl))
theorem p_impl_others (a0 : Int) : P_impl_others (a0, ()) = 
  bif decide (a0 = 0) then
    some (1, 2, ())
  else
    bif decide (a0 = 1) then
      some (0, 2, ())
    else
      some (0, 1, ()) := by
  rewrite [h_impl_others]
  kernel_rfl

/- 86: (loop.example/g01166/impl.box).line -/
abbrev As_box_line : List ATy := [.data true T_A3, .data true T_A3, .data false (.int .i64)]
abbrev R_box_line : List (Bool × Ty) := [(false, (.int .i64))]
abbrev M_box_line : List RMode := []
abbrev Ft_box_line : Type := D_A3 × D_A3 × Int × Unit → Option (Int × Unit)
noncomputable def X_box_line (n : Nat) (F_impl_others : Ft_impl_others) : Ctx := { types := TT, globals := [], con := [(91, ⟨As_impl_others, R_impl_others, M_impl_others, F_impl_others⟩)], keep := [], results := [.tmp 6], ntmps := 25, n := n }
noncomputable def B_box_line : Code := (Try.f86.body).getD .skip
noncomputable def P_box_line : Ft_box_line := hid (runF (X_box_line N P_impl_others) B_box_line As_box_line R_box_line M_box_line)
theorem h_box_line : P_box_line = runF (X_box_line N P_impl_others) B_box_line As_box_line R_box_line M_box_line := hid_eq _
noncomputable def C_box_line : Contract := ⟨As_box_line, R_box_line, M_box_line, P_box_line⟩
theorem s_box_line : Sound Try.prog GG 86 C_box_line := by
  unfold C_box_line; rw [h_box_line]
  exact sound_of_run (fn := Try.f86) hmix hstable (tyOK_of ttOK) (hglob (X_box_line N P_impl_others)) (conOK_of (X := X_box_line N P_impl_others) ⟨s_impl_others, trivial⟩) (mconOK_of (X := X_box_line N P_impl_others) trivial) (by kernel_rfl) (by kernel_rfl) (by kernel_rfl) (by kernel_rfl) (by kernel_rfl) (of_decide_eq_true (by kernel_rfl))
theorem p_box_line (a0 : D_A3) (a1 : D_A3) (a2 : Int) : P_box_line (a0, a1, a2, ()) = 
  Option.bind (P_impl_others (a2, ())) fun r0 =>
  bif inB r0.1 3 then
    bif inB r0.2.1 3 then
      bif inB r0.2.1 3 then
        some ((IntKind.wrap .i64 ((IntKind.wrap .i64 ((bif decide (r0.1 = (0 : Int)) then a1.1 else (bif decide (r0.1 = (1 : Int)) then a1.2.1 else a1.2.2.1)) * (bif decide (r0.2.1 = (0 : Int)) then a0.1 else (bif decide (r0.2.1 = (1 : Int)) then a0.2.1 else a0.2.2.1)))) + (bif decide (r0.2.1 = (0 : Int)) then a1.1 else (bif decide (r0.2.1 = (1 : Int)) then a1.2.1 else a1.2.2.1)))), ())
      else none
    else none
  else none := by
  rewrite [h_box_line]
  kernel_rfl

/- 73: (loop.example/g01166/impl.box).view -/
abbrev As_box_view : List ATy := [.data true T_A3, .data false (.int .u64), .data false (.int .i64)]
abbrev R_box_view : List (Bool × Ty) := [(false, (.sl (.int .i64)))]
abbrev M_box_view : List RMode := [.own 3]
abbrev Ft_box_view : Type := D_A3 × Int × Int × Unit → Option ((List Int) × Unit)
noncomputable def X_box_view (n : Nat) (F_box_list : Ft_box_list) (F_box_lines : Ft_box_lines) (F_box_line : Ft_box_line) : Ctx := { types := TT, globals := [], con := [(33, ⟨As_box_list, R_box_list, M_box_list, F_box_list⟩), (84, ⟨As_box_lines, R_box_lines, M_box_lines, F_box_lines⟩), (86, ⟨As_box_line, R_box_line, M_box_line, F_box_line⟩)], keep := [(3, ⟨[.box 3, .tmp 2, .tmp 3, .tmp 7, .tmp 16, .tmp 17, .tmp 18], []⟩)], results := [.tmp 6], ntmps := 33, n := n }
noncomputable def B_box_view : Code := (Try.f73.body).getD .skip
noncomputable def L_box_view_3 (n : Nat) (F_box_list : Ft_box_list) (F_box_lines : Ft_box_lines) (F_box_line : Ft_box_line) (m0 : Nat) (p0 : Int) (p1 : Int) (p2 : Int) (p3 : Int) (p4 : List Int) (p5 : List D_A3) (p6 : Int) (p7 : Int) : Option (denL R_box_view) := loopF (X_box_view n F_box_list F_box_lines F_box_line) B_box_view R_box_view M_box_view 3 [m0] [(.ver, .num 1), (.box 3, .box 0 false [.int .i64 p0, .int .i64 p1, .int .i64 p2]), (.tmp 2, .val false [.int .i64 p3]), (.tmp 3, .val false [.addr 3 0 0]), (.tmp 7, .val false [.own 3 (.int .i64) 0 p4]), (.tmp 16, .val false [.own 58 T_A3 0 p5]), (.tmp 17, .val false [.int .i64 p6]), (.tmp 18, .val false [.int .i64 p7])]
noncomputable def P_box_view : Ft_box_view := hid (runF (X_box_view N P_box_list P_box_lines P_box_line) B_box_view As_box_view R_box_view M_box_view)
theorem h_box_view : P_box_view = runF (X_box_view N P_box_list P_box_lines P_box_line) B_box_view As_box_view R_box_view M_box_view := hid_eq _
noncomputable def C_box_view : Contract := ⟨As_box_view, R_box_view, M_box_view, P_box_view⟩
theorem s_box_view : Sound Try.prog GG 73 C_box_view := by
  unfold C_box_view; rw [h_box_view]
  exact sound_of_run (fn := Try.f73) hmix hstable (tyOK_of ttOK) (hglob (X_box_view N P_box_list P_box_lines P_box_line)) (conOK_of (X := X_box_view N P_box_list P_box_lines P_box_line) ⟨s_box_list, s_box_lines, s_box_line, trivial⟩) (mconOK_of (X := X_box_view N P_box_list P_box_lines P_box_line) trivial) (by kernel_rfl) (by kernel_rfl) (by kernel_rfl) (by kernel_rfl) (by kernel_rfl) (of_decide_eq_true (by kernel_rfl))
noncomputable def l_box_view_3 : Nat → Int → Int → Int → Int → (List Int) → (List D_A3) → Int → Int → Option (denL R_box_view) := hid (fun m0 p0 p1 p2 p3 p4 p5 p6 p7 => L_box_view_3 N P_box_list P_box_lines P_box_line m0 p0 p1 p2 p3 p4 p5 p6 p7)
theorem h_box_view_3 : l_box_view_3 = fun m0 p0 p1 p2 p3 p4 p5 p6 p7 => L_box_view_3 N P_box_list P_box_lines P_box_line m0 p0 p1 p2 p3 p4 p5 p6 p7 := hid_eq _
theorem p_box_view (a0 : D_A3) (a1 : Int) (a2 : Int) : P_box_view (a0, a1, a2, ()) = 
  Option.bind (P_box_lines (a0, a2, ())) fun r0 =>
  bif (decide ((0 : Int) ≤ r0.1) && decide ((r0.1 : Int) ≤ r0.1) && decide ((r0.1 : Int) * (8 : Nat) ≤ 140737488355328) && decide ((r0.1 : Int) ≤ 140737488355328)) then
    Option.bind (P_box_list (a0, a1, ())) fun r2 =>
    l_box_view_3 N a0.1 a0.2.1 a0.2.2.1 a2 (List.replicate (Int.toNat r0.1) (Ty.dflt ((.int .i64) : Ty))) r2.1 (List.length r2.1 : Int) 0
  else none := by
  rewrite [h_box_view, h_box_view_3]
  kernel_rfl
theorem q_box_view_3 (m0 : Nat) (p0 : Int) (p1 : Int) (p2 : Int) (p3 : Int) (p4 : List Int) (p5 : List D_A3) (p6 : Int) (p7 : Int) : l_box_view_3 (m0 + 1) p0 p1 p2 p3 p4 p5 p6 p7 = 
  bif decide (p7 < p6) then
    bif inB p7 (List.length p5) then
      Option.bind (P_box_line ((p0, (p1, (p2, ()))), (nth T_A3 p5 p7), p3, ())) fun r2 =>
      bif inB r2.1 (List.length p4) then
        bif inB r2.1 (List.length p4) then
          l_box_view_3 m0 p0 p1 p2 p3 (List.set p4 (Int.toNat r2.1) (IntKind.wrap .i64 ((nth ((.int .i64) : Ty) p4 r2.1) + 1))) p5 p6 (IntKind.wrap .i64 (p7 + 1))
        else none
      else none
    else none
  else
    some (p4, ()) := by
  rewrite [h_box_view_3]
  kernel_rfl

/- 45: (loop.example/g01166/impl.box).shadow -/
abbrev As_box_shadow : List ATy := [.data true T_A3, .data false (.int .u64)]
abbrev R_box_shadow : List (Bool × Ty) := [(true, T_Shadow)]
abbrev M_box_shadow : List RMode := [.own 3, .own 3, .own 3]
abbrev Ft_box_shadow : Type := D_A3 × Int × Unit → Option (D_Shadow × Unit)
noncomputable def X_box_shadow (n : Nat) (F_box_view : Ft_box_view) : Ctx := { types := TT, globals := [], con := [(73, ⟨As_box_view, R_box_view, M_box_view, F_box_view⟩)], keep := [(3, ⟨[.box 2, .box 4, .box 5, .tmp 1, .tmp 2, .tmp 4, .tmp 5, .tmp 10], []⟩), (7, ⟨[.box 2, .box 4, .box 5, .tmp 1, .tmp 2, .tmp 4, .tmp 5, .tmp 6, .tmp 10, .tmp 21, .tmp 22, .tmp 23], []⟩)], results := [.cell 4 75], ntmps := 50, n := n }
noncomputable def B_box_shadow : Code := (Try.f45.body).getD .skip
noncomputable def L_box_shadow_3 (n : Nat) (F_box_view : Ft_box_view) (m0 : Nat) (p0 : Int) (p1 : Int) (p2 : Int) (p3 : Int) (p4 : Int) (p5 : Int) (p6 : List Int) (p7 : List Int) (p8 : List Int) (p9 : List Int) (p10 : List Int) (p11 : List Int) (p12 : Int) (p13 : Int) : Option (denL R_box_shadow) := loopF (X_box_shadow n F_box_view) B_box_shadow R_box_shadow M_box_shadow 3 [m0] [(.ver, .num 1), (.box 2, .box 0 false [.int .i64 p0, .int .i64 p1, .int .i64 p2]), (.box 4, .box 0 false [.int .i64 p3, .int .i64 p4, .int .i64 p5, .own 3 (.int .i64) 0 p6, .own 3 (.int .i64) 0 p7, .own 3 (.int .i64) 0 p8]), (.box 5, .box 0 false [.own 3 (.int .i64) 0 p9, .own 3 (.int .i64) 0 p10, .own 3 (.int .i64) 0 p11]), (.tmp 1, .val false [.int .u64 p12]), (.tmp 2, .val false [.addr 2 0 0]), (.tmp 4, .val false [.addr 4 0 0]), (.tmp 5, .val false [.addr 5 0 0]), (.tmp 10, .val false [.int .i64 p13])]
noncomputable def L_box_shadow_7 (n : Nat) (F_box_view : Ft_box_view) (m0 m1 : Nat) (p0 : Int) (p1 : Int) (p2 : Int) (p3 : Int) (p4 : Int) (p5 : Int) (p6 : List Int) (p7 : List Int) (p8 : List Int) (p9 : List Int) (p10 : List Int) (p11 : List Int) (p12 : Int) (p13 : Int) (p14 : Int) (p15 : Int) (p16 : Int) : Option (denL R_box_shadow) := loopF (X_box_shadow n F_box_view) B_box_shadow R_box_shadow M_box_shadow 7 [m0, m1] [(.ver, .num 1), (.box 2, .box 0 false [.int .i64 p0, .int .i64 p1, .int .i64 p2]), (.box 4, .box 0 false [.int .i64 p3, .int .i64 p4, .int .i64 p5, .own 3 (.int .i64) 0 p6, .own 3 (.int .i64) 0 p7, .own 3 (.int .i64) 0 p8]), (.box 5, .box 0 false [.own 3 (.int .i64) 0 p9, .own 3 (.int .i64) 0 p10, .own 3 (.int .i64) 0 p11]), (.tmp 1, .val false [.int .u64 p12]), (.tmp 2, .val false [.addr 2 0 0]), (.tmp 4, .val false [.addr 4 0 0]), (.tmp 5, .val false [.addr 5 0 0]), (.tmp 6, .val false [.int .i64 p13]), (.tmp 10, .val false [.int .i64 p14]), (.tmp 21, .val false [.view ⟨.box 5, 0, 0⟩ 0]), (.tmp 22, .val false [.int .i64 p15]), (.tmp 23, .val false [.int .i64 p16])]
noncomputable def L_box_shadow_1007 (n : Nat) (F_box_view : Ft_box_view) (m0 m1 : Nat) (p0 : Int) (p1 : Int) (p2 : Int) (p3 : Int) (p4 : Int) (p5 : Int) (p6 : List Int) (p7 : List Int) (p8 : List Int) (p9 : List Int) (p10 : List Int) (p11 : List Int) (p12 : Int) (p13 : Int) (p14 : Int) (p15 : Int) (p16 : Int) : Option (denL R_box_shadow) := loopF (X_box_shadow n F_box_view) B_box_shadow R_box_shadow M_box_shadow 7 [m0, m1] [(.ver, .num 1), (.box 2, .box 0 false [.int .i64 p0, .int .i64 p1, .int .i64 p2]), (.box 4, .box 0 false [.int .i64 p3, .int .i64 p4, .int .i64 p5, .own 3 (.int .i64) 0 p6, .own 3 (.int .i64) 0 p7, .own 3 (.int .i64) 0 p8]), (.box 5, .box 0 false [.own 3 (.int .i64) 0 p9, .own 3 (.int .i64) 0 p10, .own 3 (.int .i64) 0 p11]), (.tmp 1, .val false [.int .u64 p12]), (.tmp 2, .val false [.addr 2 0 0]), (.tmp 4, .val false [.addr 4 0 0]), (.tmp 5, .val false [.addr 5 0 0]), (.tmp 6, .val false [.int .i64 p13]), (.tmp 10, .val false [.int .i64 p14]), (.tmp 21, .val false [.view ⟨.box 5, 0, 1⟩ 0]), (.tmp 22, .val false [.int .i64 p15]), (.tmp 23, .val false [.int .i64 p16])]
noncomputable def L_box_shadow_2007 (n : Nat) (F_box_view : Ft_box_view) (m0 m1 : Nat) (p0 : Int) (p1 : Int) (p2 : Int) (p3 : Int) (p4 : Int) (p5 : Int) (p6 : List Int) (p7 : List Int) (p8 : List Int) (p9 : List Int) (p10 : List Int) (p11 : List Int) (p12 : Int) (p13 : Int) (p14 : Int) (p15 : Int) (p16 : Int) : Option (denL R_box_shadow) := loopF (X_box_shadow n F_box_view) B_box_shadow R_box_shadow M_box_shadow 7 [m0, m1] [(.ver, .num 1), (.box 2, .box 0 false [.int .i64 p0, .int .i64 p1, .int .i64 p2]), (.box 4, .box 0 false [.int .i64 p3, .int .i64 p4, .int .i64 p5, .own 3 (.int .i64) 0 p6, .own 3 (.int .i64) 0 p7, .own 3 (.int .i64) 0 p8]), (.box 5, .box 0 false [.own 3 (.int .i64) 0 p9, .own 3 (.int .i64) 0 p10, .own 3 (.int .i64) 0 p11]), (.tmp 1, .val false [.int .u64 p12]), (.tmp 2, .val false [.addr 2 0 0]), (.tmp 4, .val false [.addr 4 0 0]), (.tmp 5, .val false [.addr 5 0 0]), (.tmp 6, .val false [.int .i64 p13]), (.tmp 10, .val false [.int .i64 p14]), (.tmp 21, .val false [.view ⟨.box 5, 0, 2⟩ 0]), (.tmp 22, .val false [.int .i64 p15]), (.tmp 23, .val false [.int .i64 p16])]
noncomputable def P_box_shadow : Ft_box_shadow := hid (runF (X_box_shadow N P_box_view) B_box_shadow As_box_shadow R_box_shadow M_box_shadow)
theorem h_box_shadow : P_box_shadow = runF (X_box_shadow N P_box_view) B_box_shadow As_box_shadow R_box_shadow M_box_shadow := hid_eq _
noncomputable def C_box_shadow : Contract := ⟨As_box_shadow, R_box_shadow, M_box_shadow, P_box_shadow⟩
theorem s_box_shadow : Sound Try.prog GG 45 C_box_shadow := by
  unfold C_box_shadow; rw [h_box_shadow]
  exact sound_of_run (fn := Try.f45) hmix hstable (tyOK_of ttOK) (hglob (X_box_shadow N P_box_view)) (conOK_of (X := X_box_shadow N P_box_view) ⟨s_box_view, trivial⟩) (mconOK_of (X := X_box_shadow N P_box_view) trivial) (by kernel_rfl) (by kernel_rfl) (by kernel_rfl) (by kernel_rfl) (by kernel_rfl) (of_decide_eq_true (by kernel_rfl))
noncomputable def l_box_shadow_3 : Nat → Int → Int → Int → Int → Int → Int → (List Int) → (List Int) → (List Int) → (List Int) → (List Int) → (List Int) → Int → Int → Option (denL R_box_shadow) := hid (fun m0 p0 p1 p2 p3 p4 p5 p6 p7 p8 p9 p10 p11 p12 p13 => L_box_shadow_3 N P_box_view m0 p0 p1 p2 p3 p4 p5 p6 p7 p8 p9 p10 p11 p12 p13)
theorem h_box_shadow_3 : l_box_shadow_3 = fun m0 p0 p1 p2 p3 p4 p5 p6 p7 p8 p9 p10 p11 p12 p13 => L_box_shadow_3 N P_box_view m0 p0 p1 p2 p3 p4 p5 p6 p7 p8 p9 p10 p11 p12 p13 := hid_eq _
noncomputable def l_box_shadow_7 : Nat → Nat → Int → Int → Int → Int → Int → Int → (List Int) → (List Int) → (List Int) → (List Int) → (List Int) → (List Int) → Int → Int → Int → Int → Int → Option (denL R_box_shadow) := hid (fun m0 m1 p0 p1 p2 p3 p4 p5 p6 p7 p8 p9 p10 p11 p12 p13 p14 p15 p16 => L_box_shadow_7 N P_box_view m0 m1 p0 p1 p2 p3 p4 p5 p6 p7 p8 p9 p10 p11 p12 p13 p14 p15 p16)
theorem h_box_shadow_7 : l_box_shadow_7 = fun m0 m1 p0 p1 p2 p3 p4 p5 p6 p7 p8 p9 p10 p11 p12 p13 p14 p15 p16 => L_box_shadow_7 N P_box_view m0 m1 p0 p1 p2 p3 p4 p5 p6 p7 p8 p9 p10 p11 p12 p13 p14 p15 p16 := hid_eq _
noncomputable def l_box_shadow_1007 : Nat → Nat → Int → Int → Int → Int → Int → Int → (List Int) → (List Int) → (List Int) → (List Int) → (List Int) → (List Int) → Int → Int → Int → Int → Int → Option (denL R_box_shadow) := hid (fun m0 m1 p0 p1 p2 p3 p4 p5 p6 p7 p8 p9 p10 p11 p12 p13 p14 p15 p16 => L_box_shadow_1007 N P_box_view m0 m1 p0 p1 p2 p3 p4 p5 p6 p7 p8 p9 p10 p11 p12 p13 p14 p15 p16)
theorem h_box_shadow_1007 : l_box_shadow_1007 = fun m0 m1 p0 p1 p2 p3 p4 p5 p6 p7 p8 p9 p10 p11 p12 p13 p14 p15 p16 => L_box_shadow_1007 N P_box_view m0 m1 p0 p1 p2 p3 p4 p5 p6 p7 p8 p9 p10 p11 p12 p13 p14 p15 p16 := hid_eq _
noncomputable def l_box_shadow_2007 : Nat → Nat → Int → Int → Int → Int → Int → Int → (List Int) → (List Int) → (List Int) → (List Int) → (List Int) → (List Int) → Int → Int → Int → Int → Int → Option (denL R_box_shadow) := hid (fun m0 m1 p0 p1 p2 p3 p4 p5 p6 p7 p8 p9 p10 p11 p12 p13 p14 p15 p16 => L_box_shadow_2007 N P_box_view m0 m1 p0 p1 p2 p3 p4 p5 p6 p7 p8 p9 p10 p11 p12 p13 p14 p15 p16)
theorem h_box_shadow_2007 : l_box_shadow_2007 = fun m0 m1 p0 p1 p2 p3 p4 p5 p6 p7 p8 p9 p10 p11 p12 p13 p14 p15 p16 => L_box_shadow_2007 N P_box_view m0 m1 p0 p1 p2 p3 p4 p5 p6 p7 p8 p9 p10 p11 p12 p13 p14 p15 p16 := hid_eq _
theorem p_box_shadow (a0 : D_A3) (a1 : Int) : P_box_shadow (a0, a1, ()) = 
  l_box_shadow_3 N a0.1 a0.2.1 a0.2.2.1 0 0 0 ([] : List Int) ([] : List Int) ([] : List Int) ([] : List Int) ([] : List Int) ([] : List Int) a1 0 := by
  rewrite [h_box_shadow, h_box_shadow_3]
  kernel_rfl
theorem q_box_shadow_3 (m0 : Nat) (p0 : Int) (p1 : Int) (p2 : Int) (p3 : Int) (p4 : Int) (p5 : Int) (p6 : List Int) (p7 : List Int) (p8 : List Int) (p9 : List Int) (p10 : List Int) (p11 : List Int) (p12 : Int) (p13 : Int) : l_box_shadow_3 (m0 + 1) p0 p1 p2 p3 p4 p5 p6 p7 p8 p9 p10 p11 p12 p13 = 
  bif decide (p13 < 3) then
    Option.bind (P_box_view ((p0, (p1, (p2, ()))), p12, p13, ())) fun r1 =>
    bif inB p13 3 then
      bif decide (p13 = (0 : Int)) then
        bif inB p13 3 then
          bif decide (p13 = (0 : Int)) then
            l_box_shadow_7 m0 N p0 p1 p2 p3 p4 p5 p6 p7 p8 r1.1 p10 p11 p12 p13 p13 (List.length r1.1 : Int) 0
          else
            bif decide (p13 = (1 : Int)) then
              l_box_shadow_1007 m0 N p0 p1 p2 p3 p4 p5 p6 p7 p8 r1.1 p10 p11 p12 p13 p13 (List.length p10 : Int) 0
            else
              l_box_shadow_2007 m0 N p0 p1 p2 p3 p4 p5 p6 p7 p8 r1.1 p10 p11 p12 p13 p13 (List.length p11 : Int) 0
        else none
      else
        bif decide (p13 = (1 : Int)) then
          bif inB p13 3 then
            bif decide (p13 = (0 : Int)) then
              l_box_shadow_7 m0 N p0 p1 p2 p3 p4 p5 p6 p7 p8 p9 r1.1 p11 p12 p13 p13 (List.length p9 : Int) 0
            else
              bif decide (p13 = (1 : Int)) then
                l_box_shadow_1007 m0 N p0 p1 p2 p3 p4 p5 p6 p7 p8 p9 r1.1 p11 p12 p13 p13 (List.length r1.1 : Int) 0
              else
                l_box_shadow_2007 m0 N p0 p1 p2 p3 p4 p5 p6 p7 p8 p9 r1.1 p11 p12 p13 p13 (List.length p11 : Int) 0
          else none
        else
          bif inB p13 3 then
            bif decide (p13 = (0 : Int)) then
              l_box_shadow_7 m0 N p0 p1 p2 p3 p4 p5 p6 p7 p8 p9 p10 r1.1 p12 p13 p13 (List.length p9 : Int) 0
            else
              bif decide (p13 = (1 : Int)) then
                l_box_shadow_1007 m0 N p0 p1 p2 p3 p4 p5 p6 p7 p8 p9 p10 r1.1 p12 p13 p13 (List.length p10 : Int) 0
              else
                l_box_shadow_2007 m0 N p0 p1 p2 p3 p4 p5 p6 p7 p8 p9 p10 r1.1 p12 p13 p13 (List.length r1.1 : Int) 0
          else none
    else none
  else
    some ((p0, (p1, (p2, (p11, (p10, (p9, ())))))), ()) := by
  rewrite [h_box_shadow_3, h_box_shadow_7, h_box_shadow_1007, h_box_shadow_2007]
  kernel_rfl
theorem q_box_shadow_7 (m0 m1 : Nat) (p0 : Int) (p1 : Int) (p2 : Int) (p3 : Int) (p4 : Int) (p5 : Int) (p6 : List Int) (p7 : List Int) (p8 : List Int) (p9 : List Int) (p10 : List Int) (p11 : List Int) (p12 : Int) (p13 : Int) (p14 : Int) (p15 : Int) (p16 : Int) : l_box_shadow_7 m0 (m1 + 1) p0 p1 p2 p3 p4 p5 p6 p7 p8 p9 p10 p11 p12 p13 p14 p15 p16 = 
  bif decide (p16 < p15) then
    bif inB p16 (List.length p9) then
      bif inB p13 3 then
        bif decide (p13 = (0 : Int)) then
          bif inB p16 (List.length p9) then
            l_box_shadow_7 m0 m1 p0 p1 p2 p3 p4 p5 p6 p7 p8 (List.set p9 (Int.toNat p16) (bif decide (1 < (nth ((.int .i64) : Ty) p9 p16)) then 1 else (nth ((.int .i64) : Ty) p9 p16))) p10 p11 p12 p13 p14 p15 (IntKind.wrap .i64 (p16 + 1))
          else none
        else
          bif decide (p13 = (1 : Int)) then
            bif inB p16 (List.length p10) then
              l_box_shadow_7 m0 m1 p0 p1 p2 p3 p4 p5 p6 p7 p8 p9 (List.set p10 (Int.toNat p16) (bif decide (1 < (nth ((.int .i64) : Ty) p9 p16)) then 1 else (nth ((.int .i64) : Ty) p9 p16))) p11 p12 p13 p14 p15 (IntKind.wrap .i64 (p16 + 1))
            else none
          else
            bif inB p16 (List.length p11) then
              l_box_shadow_7 m0 m1 p0 p1 p2 p3 p4 p5 p6 p7 p8 p9 p10 (List.set p11 (Int.toNat p16) (bif decide (1 < (nth ((.int .i64) : Ty) p9 p16)) then 1 else (nth ((.int .i64) : Ty) p9 p16))) p12 p13 p14 p15 (IntKind.wrap .i64 (p16 + 1))
            else none
      else none
    else none
  else
    l_box_shadow_3 m0 p0 p1 p2 p3 p4 p5 p6 p7 p8 p9 p10 p11 p12 (IntKind.wrap .i64 (p14 + 1)) := by
  rewrite [h_box_shadow_3, h_box_shadow_7]
  kernel_rfl
theorem q_box_shadow_1007 (m0 m1 : Nat) (p0 : Int) (p1 : Int) (p2 : Int) (p3 : Int) (p4 : Int) (p5 : Int) (p6 : List Int) (p7 : List Int) (p8 : List Int) (p9 : List Int) (p10 : List Int) (p11 : List Int) (p12 : Int) (p13 : Int) (p14 : Int) (p15 : Int) (p16 : Int) : l_box_shadow_1007 m0 (m1 + 1) p0 p1 p2 p3 p4 p5 p6 p7 p8 p9 p10 p11 p12 p13 p14 p15 p16 = 
  bif decide (p16 < p15) then
    bif inB p16 (List.length p10) then
      bif inB p13 3 then
        bif decide (p13 = (0 : Int)) then
          bif inB p16 (List.length p9) then
            l_box_shadow_1007 m0 m1 p0 p1 p2 p3 p4 p5 p6 p7 p8 (List.set p9 (Int.toNat p16) (bif decide (1 < (nth ((.int .i64) : Ty) p10 p16)) then 1 else (nth ((.int .i64) : Ty) p10 p16))) p10 p11 p12 p13 p14 p15 (IntKind.wrap .i64 (p16 + 1))
          else none
        else
          bif decide (p13 = (1 : Int)) then
            bif inB p16 (List.length p10) then
              l_box_shadow_1007 m0 m1 p0 p1 p2 p3 p4 p5 p6 p7 p8 p9 (List.set p10 (Int.toNat p16) (bif decide (1 < (nth ((.int .i64) : Ty) p10 p16)) then 1 else (nth ((.int .i64) : Ty) p10 p16))) p11 p12 p13 p14 p15 (IntKind.wrap .i64 (p16 + 1))
            else none
          else
            bif inB p16 (List.length p11) then
              l_box_shadow_1007 m0 m1 p0 p1 p2 p3 p4 p5 p6 p7 p8 p9 p10 (List.set p11 (Int.toNat p16) (bif decide (1 < (nth ((.int .i64) : Ty) p10 p16)) then 1 else (nth ((.int .i64) : Ty) p10 p16))) p12 p13 p14 p15 (IntKind.wrap .i64 (p16 + 1))
            else none
      else none
    else none
  else
    l_box_shadow_3 m0 p0 p1 p2 p3 p4 p5 p6 p7 p8 p9 p10 p11 p12 (IntKind.wrap .i64 (p14 + 1)) := by
  rewrite [h_box_shadow_3, h_box_shadow_1007]
  kernel_rfl
theorem q_box_shadow_2007 (m0 m1 : Nat) (p0 : Int) (p1 : Int) (p2 : Int) (p3 : Int) (p4 : Int) (p5 : Int) (p6 : List Int) (p7 : List Int) (p8 : List Int) (p9 : List Int) (p10 : List Int) (p11 : List Int) (p12 : Int) (p13 : Int) (p14 : Int) (p15 : Int) (p16 : Int) : l_box_shadow_2007 m0 (m1 + 1) p0 p1 p2 p3 p4 p5 p6 p7 p8 p9 p10 p11 p12 p13 p14 p15 p16 = 
  bif decide (p16 < p15) then
    bif inB p16 (List.length p11) then
      bif inB p13 3 then
        bif decide (p13 = (0 : Int)) then
          bif inB p16 (List.length p9) then
            l_box_shadow_2007 m0 m1 p0 p1 p2 p3 p4 p5 p6 p7 p8 (List.set p9 (Int.toNat p16) (bif decide (1 < (nth ((.int .i64) : Ty) p11 p16)) then 1 else (nth ((.int .i64) : Ty) p11 p16))) p10 p11 p12 p13 p14 p15 (IntKind.wrap .i64 (p16 + 1))
          else none
        else
          bif decide (p13 = (1 : Int)) then
            bif inB p16 (List.length p10) then
              l_box_shadow_2007 m0 m1 p0 p1 p2 p3 p4 p5 p6 p7 p8 p9 (List.set p10 (Int.toNat p16) (bif decide (1 < (nth ((.int .i64) : Ty) p11 p16)) then 1 else (nth ((.int .i64) : Ty) p11 p16))) p11 p12 p13 p14 p15 (IntKind.wrap .i64 (p16 + 1))
            else none
          else
            bif inB p16 (List.length p11) then
              l_box_shadow_2007 m0 m1 p0 p1 p2 p3 p4 p5 p6 p7 p8 p9 p10 (List.set p11 (Int.toNat p16) (bif decide (1 < (nth ((.int .i64) : Ty) p11 p16)) then 1 else (nth ((.int .i64) : Ty) p11 p16))) p12 p13 p14 p15 (IntKind.wrap .i64 (p16 + 1))
            else none
      else none
    else none
  else
    l_box_shadow_3 m0 p0 p1 p2 p3 p4 p5 p6 p7 p8 p9 p10 p11 p12 (IntKind.wrap .i64 (p14 + 1)) := by
  rewrite [h_box_shadow_3, h_box_shadow_2007]
  kernel_rfl

/- 21: loop.example/g01166/impl.ShadowGap -/
abbrev As_impl_ShadowGap : List ATy := [.data true T_Bench]
abbrev R_impl_ShadowGap : List (Bool × Ty) := [(false, (.int .i64)), (false, .bool)]
abbrev M_impl_ShadowGap : List RMode := []
abbrev Ft_impl_ShadowGap : Type := D_Bench × Unit → Option (Int × Bool × Unit)
noncomputable def X_impl_ShadowGap (n : Nat) (F_Heap_box : Ft_Heap_box) (F_Heap_cubes : Ft_Heap_cubes) (F_impl_IsBench : Ft_impl_IsBench) (F_impl_LineBound : Ft_impl_LineBound) (F_box_shadow : Ft_box_shadow) : Ctx := { types := TT, globals := [], con := [(31, ⟨As_Heap_box, R_Heap_box, M_Heap_box, F_Heap_box⟩), (32, ⟨As_Heap_cubes, R_Heap_cubes, M_Heap_cubes, F_Heap_cubes⟩), (43, ⟨As_impl_IsBench, R_impl_IsBench, M_impl_IsBench, F_impl_IsBench⟩), (44, ⟨As_impl_LineBound, R_impl_LineBound, M_impl_LineBound, F_impl_LineBound⟩), (45, ⟨As_box_shadow, R_box_shadow, M_box_shadow, F_box_shadow⟩)], keep := [], results := [.tmp 2, .tmp 3], ntmps := 26, n := n }
noncomputable def B_impl_ShadowGap : Code := (Try.f21.body).getD .skip
noncomputable def P_impl_ShadowGap : Ft_impl_ShadowGap := hid (runF (X_impl_ShadowGap N P_Heap_box P_Heap_cubes P_impl_IsBench P_impl_LineBound P_box_shadow) B_impl_ShadowGap As_impl_ShadowGap R_impl_ShadowGap M_impl_ShadowGap)
theorem h_impl_ShadowGap : P_impl_ShadowGap = runF (X_impl_ShadowGap N P_Heap_box P_Heap_cubes P_impl_IsBench P_impl_LineBound P_box_shadow) B_impl_ShadowGap As_impl_ShadowGap R_impl_ShadowGap M_impl_ShadowGap := hid_eq _
noncomputable def C_impl_ShadowGap : Contract := ⟨As_impl_ShadowGap, R_impl_ShadowGap, M_impl_ShadowGap, P_impl_ShadowGap⟩
theorem s_impl_ShadowGap : Sound Try.prog GG 21 C_impl_ShadowGap := by
  unfold C_impl_ShadowGap; rw [h_impl_ShadowGap]
  exact sound_of_run (fn := Try.f21) hmix hstable (tyOK_of ttOK) (hglob (X_impl_ShadowGap N P_Heap_box P_Heap_cubes P_impl_IsBench P_impl_LineBound P_box_shadow)) (conOK_of (X := X_impl_ShadowGap N P_Heap_box P_Heap_cubes P_impl_IsBench P_impl_LineBound P_box_shadow) ⟨s_Heap_box, s_Heap_cubes, s_impl_IsBench, s_impl_LineBound, s_box_shadow, trivial⟩) (mconOK_of (X := X_impl_ShadowGap N P_Heap_box P_Heap_cubes P_impl_IsBench P_impl_LineBound P_box_shadow) trivial) (by kernel_rfl) (by kernel_rfl) (by kernel_rfl) (by kernel_rfl) (by kernel_rfl) (of_decide_eq_true (by kernel_rfl))
theorem p_impl_ShadowGap (a0 : D_Bench) : P_impl_ShadowGap (a0, ()) = 
  Option.bind (P_impl_IsBench (a0, ())) fun r0 =>
  bif !r0.1 then
    some (0, false, ())
  else
    Option.bind (P_Heap_box (a0.1, ())) fun r2 =>
    Option.bind (P_Heap_cubes (a0.1, ())) fun r3 =>
    Option.bind (P_box_shadow (r2.1, r3.1, ())) fun r4 =>
    Option.bind (P_impl_LineBound (r4.1, ())) fun r5 =>
    some ((IntKind.wrap .i64 ((List.length a0.1.2.2.2.1 : Int) - r5.1)), true, ()) := by
  rewrite [h_impl_ShadowGap]
  kernel_rfl

/- 68: loop.example/g01166/laws.eqIntA3 -/
abbrev As_laws_eqIntA3 : List ATy := [.data true T_A3, .data true T_A3]
abbrev R_laws_eqIntA3 : List (Bool × Ty) := [(false, .bool)]
abbrev M_laws_eqIntA3 : List RMode := []
abbrev Ft_laws_eqIntA3 : Type := D_A3 × D_A3 × Unit → Option (Bool × Unit)
noncomputable def X_laws_eqIntA3 (n : Nat) : Ctx := { types := TT, globals := [], con := [], keep := [(2, ⟨[.box 2, .box 3, .tmp 2, .tmp 3, .tmp 5], []⟩)], results := [.tmp 4], ntmps := 17, n := n }
noncomputable def B_laws_eqIntA3 : Code := (Try.f68.body).getD .skip
noncomputable def L_laws_eqIntA3_2 (n : Nat) (m0 : Nat) (p0 : Int) (p1 : Int) (p2 : Int) (p3 : Int) (p4 : Int) (p5 : Int) (p6 : Int) : Option (denL R_laws_eqIntA3) := loopF (X_laws_eqIntA3 n) B_laws_eqIntA3 R_laws_eqIntA3 M_laws_eqIntA3 2 [m0] [(.ver, .num 1), (.box 2, .box 0 false [.int .i64 p0, .int .i64 p1, .int .i64 p2]), (.box 3, .box 0 false [.int .i64 p3, .int .i64 p4, .int .i64 p5]), (.tmp 2, .val false [.addr 2 0 0]), (.tmp 3, .val false [.addr 3 0 0]), (.tmp 5, .val false [.int .i64 p6])]
noncomputable def P_laws_eqIntA3 : Ft_laws_eqIntA3 := hid (runF (X_laws_eqIntA3 N) B_laws_eqIntA3 As_laws_eqIntA3 R_laws_eqIntA3 M_laws_eqIntA3)
theorem h_laws_eqIntA3 : P_laws_eqIntA3 = runF (X_laws_eqIntA3 N) B_laws_eqIntA3 As_laws_eqIntA3 R_laws_eqIntA3 M_laws_eqIntA3 := hid_eq _
noncomputable def C_laws_eqIntA3 : Contract := ⟨As_laws_eqIntA3, R_laws_eqIntA3, M_laws_eqIntA3, P_laws_eqIntA3⟩
theorem s_laws_eqIntA3 : Sound Try.prog GG 68 C_laws_eqIntA3 := by
  unfold C_laws_eqIntA3; rw [h_laws_eqIntA3]
  exact sound_of_run (fn := Try.f68) hmix hstable (tyOK_of ttOK) (hglob (X_laws_eqIntA3 N)) (conOK_of (X := X_laws_eqIntA3 N) trivial) (mconOK_of (X := X_laws_eqIntA3 N) trivial) (by kernel_rfl) (by kernel_rfl) (by kernel_rfl) (by kernel_rfl) (by kernel_rfl) (of_decide_eq_true (by kernel_rfl))
noncomputable def l_laws_eqIntA3_2 : Nat → Int → Int → Int → Int → Int → Int → Int → Option (denL R_laws_eqIntA3) := hid (fun m0 p0 p1 p2 p3 p4 p5 p6 => L_laws_eqIntA3_2 N m0 p0 p1 p2 p3 p4 p5 p6)
theorem h_laws_eqIntA3_2 : l_laws_eqIntA3_2 = fun m0 p0 p1 p2 p3 p4 p5 p6 => L_laws_eqIntA3_2 N m0 p0 p1 p2 p3 p4 p5 p6 := hid_eq _
theorem p_laws_eqIntA3 (a0 : D_A3) (a1 : D_A3) : P_laws_eqIntA3 (a0, a1, ()) = 
  l_laws_eqIntA3_2 N a0.1 a0.2.1 a0.2.2.1 a1.1 a1.2.1 a1.2.2.1 0 := by
  rewrite [h_laws_eqIntA3, h_laws_eqIntA3_2]
  kernel_rfl
theorem q_laws_eqIntA3_2 (m0 : Nat) (p0 : Int) (p1 : Int) (p2 : Int) (p3 : Int) (p4 : Int) (p5 : Int) (p6 : Int) : l_laws_eqIntA3_2 (m0 + 1) p0 p1 p2 p3 p4 p5 p6 = 
  bif decide (p6 < 3) then
    bif inB p6 3 then
      bif inB p6 3 then
        bif !decide ((bif decide (p6 = (0 : Int)) then p0 else (bif decide (p6 = (1 : Int)) then p1 else p2)) = (bif decide (p6 = (0 : Int)) then p3 else (bif decide (p6 = (1 : Int)) then p4 else p5))) then
          some (false, ())
        else
          l_laws_eqIntA3_2 m0 p0 p1 p2 p3 p4 p5 (IntKind.wrap .i64 (p6 + 1))
      else none
    else none
  else
    some (true, ()) := by
  rewrite [h_laws_eqIntA3_2]
  kernel_rfl

/- 37: loop.example/g01166/laws.eqIntA3S -/
abbrev As_laws_eqIntA3S : List ATy := [.data false (.sl T_A3), .data false (.sl T_A3)]
abbrev R_laws_eqIntA3S : List (Bool × Ty) := [(false, .bool)]
abbrev M_laws_eqIntA3S : List RMode := []
abbrev Ft_laws_eqIntA3S : Type := (List D_A3) × (List D_A3) × Unit → Option (Bool × Unit)
noncomputable def X_laws_eqIntA3S (n : Nat) (F_laws_eqIntA3 : Ft_laws_eqIntA3) : Ctx := { types := TT, globals := [], con := [(68, ⟨As_laws_eqIntA3, R_laws_eqIntA3, M_laws_eqIntA3, F_laws_eqIntA3⟩)], keep := [(4, ⟨[.tmp 0, .tmp 1, .tmp 5], []⟩)], results := [.tmp 4], ntmps := 27, n := n }
noncomputable def B_laws_eqIntA3S : Code := (Try.f37.body).getD .skip
noncomputable def L_laws_eqIntA3S_4 (n : Nat) (F_laws_eqIntA3 : Ft_laws_eqIntA3) (m0 : Nat) (p0 : List D_A3) (p1 : List D_A3) (p2 : Int) : Option (denL R_laws_eqIntA3S) := loopF (X_laws_eqIntA3S n F_laws_eqIntA3) B_laws_eqIntA3S R_laws_eqIntA3S M_laws_eqIntA3S 4 [m0] [(.ver, .num 1), (.tmp 0, .val false [.imm T_A3 p0 (some 0)]), (.tmp 1, .val false [.imm T_A3 p1 (some 1)]), (.tmp 5, .val false [.int .i64 p2])]
noncomputable def P_laws_eqIntA3S : Ft_laws_eqIntA3S := hid (runF (X_laws_eqIntA3S N P_laws_eqIntA3) B_laws_eqIntA3S As_laws_eqIntA3S R_laws_eqIntA3S M_laws_eqIntA3S)
theorem h_laws_eqIntA3S : P_laws_eqIntA3S = runF (X_laws_eqIntA3S N P_laws_eqIntA3) B_laws_eqIntA3S As_laws_eqIntA3S R_laws_eqIntA3S M_laws_eqIntA3S := hid_eq _
noncomputable def C_laws_eqIntA3S : Contract := ⟨As_laws_eqIntA3S, R_laws_eqIntA3S, M_laws_eqIntA3S, P_laws_eqIntA3S⟩
theorem s_laws_eqIntA3S : Sound Try.prog GG 37 C_laws_eqIntA3S := by
  unfold C_laws_eqIntA3S; rw [h_laws_eqIntA3S]
  exact sound_of_run (fn := Try.f37) hmix hstable (tyOK_of ttOK) (hglob (X_laws_eqIntA3S N P_laws_eqIntA3)) (conOK_of (X := X_laws_eqIntA3S N P_laws_eqIntA3) ⟨s_laws_eqIntA3, trivial⟩) (mconOK_of (X := X_laws_eqIntA3S N P_laws_eqIntA3) trivial) (by kernel_rfl) (by kernel_rfl) (by kernel_rfl) (by kernel_rfl) (by kernel_rfl) (of_decide_eq_true (by kernel_rfl))
noncomputable def l_laws_eqIntA3S_4 : Nat → (List D_A3) → (List D_A3) → Int → Option (denL R_laws_eqIntA3S) := hid (fun m0 p0 p1 p2 => L_laws_eqIntA3S_4 N P_laws_eqIntA3 m0 p0 p1 p2)
theorem h_laws_eqIntA3S_4 : l_laws_eqIntA3S_4 = fun m0 p0 p1 p2 => L_laws_eqIntA3S_4 N P_laws_eqIntA3 m0 p0 p1 p2 := hid_eq _
theorem p_laws_eqIntA3S (a0 : List D_A3) (a1 : List D_A3) : P_laws_eqIntA3S (a0, a1, ()) = 
  bif !decide ((List.length a0 : Int) = (List.length a1 : Int)) then
    some (false, ())
  else
    l_laws_eqIntA3S_4 N a0 a1 0 := by
  rewrite [h_laws_eqIntA3S, h_laws_eqIntA3S_4]
  kernel_rfl
theorem q_laws_eqIntA3S_4 (m0 : Nat) (p0 : List D_A3) (p1 : List D_A3) (p2 : Int) : l_laws_eqIntA3S_4 (m0 + 1) p0 p1 p2 = 
  bif decide (p2 < (List.length p0 : Int)) then
    bif inB p2 (List.length p0) then
      bif inB p2 (List.length p1) then
        Option.bind (P_laws_eqIntA3 ((nth T_A3 p0 p2), (nth T_A3 p1 p2), ())) fun r3 =>
        bif !r3.1 then
          some (false, ())
        else
          l_laws_eqIntA3S_4 m0 p0 p1 (IntKind.wrap .i64 (p2 + 1))
      else none
    else none
  else
    some (true, ()) := by
  rewrite [h_laws_eqIntA3S_4]
  kernel_rfl

/- 12: loop.example/g01166/laws.eqHeap -/
abbrev As_laws_eqHeap : List ATy := [.data true T_Heap, .data true T_Heap]
abbrev R_laws_eqHeap : List (Bool × Ty) := [(false, .bool)]
abbrev M_laws_eqHeap : List RMode := []
abbrev Ft_laws_eqHeap : Type := D_Heap × D_Heap × Unit → Option (Bool × Unit)
noncomputable def X_laws_eqHeap (n : Nat) (F_laws_eqIntA3S : Ft_laws_eqIntA3S) : Ctx := { types := TT, globals := [], con := [(37, ⟨As_laws_eqIntA3S, R_laws_eqIntA3S, M_laws_eqIntA3S, F_laws_eqIntA3S⟩)], keep := [], results := [.tmp 4], ntmps := 26, n := n }
noncomputable def B_laws_eqHeap : Code := (Try.f12.body).getD .skip
noncomputable def P_laws_eqHeap : Ft_laws_eqHeap := hid (runF (X_laws_eqHeap N P_laws_eqIntA3S) B_laws_eqHeap As_laws_eqHeap R_laws_eqHeap M_laws_eqHeap)
theorem h_laws_eqHeap : P_laws_eqHeap = runF (X_laws_eqHeap N P_laws_eqIntA3S) B_laws_eqHeap As_laws_eqHeap R_laws_eqHeap M_laws_eqHeap := hid_eq _
noncomputable def C_laws_eqHeap : Contract := ⟨As_laws_eqHeap, R_laws_eqHeap, M_laws_eqHeap, P_laws_eqHeap⟩
theorem s_laws_eqHeap : Sound Try.prog GG 12 C_laws_eqHeap := by
  unfold C_laws_eqHeap; rw [h_laws_eqHeap]
  exact sound_of_run (fn := Try.f12) hmix hstable (tyOK_of ttOK) (hglob (X_laws_eqHeap N P_laws_eqIntA3S)) (conOK_of (X := X_laws_eqHeap N P_laws_eqIntA3S) ⟨s_laws_eqIntA3S, trivial⟩) (mconOK_of (X := X_laws_eqHeap N P_laws_eqIntA3S) trivial) (by kernel_rfl) (by kernel_rfl) (by kernel_rfl) (by kernel_rfl) (by kernel_rfl) (of_decide_eq_true (by kernel_rfl))
theorem p_laws_eqHeap (a0 : D_Heap) (a1 : D_Heap) : P_laws_eqHeap (a0, a1, ()) = 
  bif !decide (a0.1 = a1.1) then
    some (false, ())
  else
    bif !decide (a0.2.1 = a1.2.1) then
      some (false, ())
    else
      bif !decide (a0.2.2.1 = a1.2.2.1) then
        some (false, ())
      else
        Option.bind (P_laws_eqIntA3S (a0.2.2.2.1, a1.2.2.2.1, ())) fun r3 =>
        bif !r3.1 then
          some (false, ())
        else
          some (true, ()) := by
  rewrite [h_laws_eqHeap]
  kernel_rfl

/- 22: loop.example/g01166/laws.eqBench -/
abbrev As_laws_eqBench : List ATy := [.data true T_Bench, .data true T_Bench]
abbrev R_laws_eqBench : List (Bool × Ty) := [(false, .bool)]
abbrev M_laws_eqBench : List RMode := []
abbrev Ft_laws_eqBench : Type := D_Bench × D_Bench × Unit → Option (Bool × Unit)
noncomputable def X_laws_eqBench (n : Nat) (F_laws_eqHeap : Ft_laws_eqHeap) : Ctx := { types := TT, globals := [], con := [(12, ⟨As_laws_eqHeap, R_laws_eqHeap, M_laws_eqHeap, F_laws_eqHeap⟩)], keep := [], results := [.tmp 4], ntmps := 21, n := n }
noncomputable def B_laws_eqBench : Code := (Try.f22.body).getD .skip
noncomputable def P_laws_eqBench : Ft_laws_eqBench := hid (runF (X_laws_eqBench N P_laws_eqHeap) B_laws_eqBench As_laws_eqBench R_laws_eqBench M_laws_eqBench)
theorem h_laws_eqBench : P_laws_eqBench = runF (X_laws_eqBench N P_laws_eqHeap) B_laws_eqBench As_laws_eqBench R_laws_eqBench M_laws_eqBench := hid_eq _
noncomputable def C_laws_eqBench : Contract := ⟨As_laws_eqBench, R_laws_eqBench, M_laws_eqBench, P_laws_eqBench⟩
theorem s_laws_eqBench : Sound Try.prog GG 22 C_laws_eqBench := by
  unfold C_laws_eqBench; rw [h_laws_eqBench]
  exact sound_of_run (fn := Try.f22) hmix hstable (tyOK_of ttOK) (hglob (X_laws_eqBench N P_laws_eqHeap)) (conOK_of (X := X_laws_eqBench N P_laws_eqHeap) ⟨s_laws_eqHeap, trivial⟩) (mconOK_of (X := X_laws_eqBench N P_laws_eqHeap) trivial) (by kernel_rfl) (by kernel_rfl) (by kernel_rfl) (by kernel_rfl) (by kernel_rfl) (of_decide_eq_true (by kernel_rfl))
theorem p_laws_eqBench (a0 : D_Bench) (a1 : D_Bench) : P_laws_eqBench (a0, a1, ()) = 
  Option.bind (P_laws_eqHeap (a0.1, a1.1, ())) fun r0 =>
  bif !r0.1 then
    some (false, ())
  else
    bif !decide (a0.2.1 = a1.2.1) then
      some (false, ())
    else
      bif !decide (a0.2.2.1 = a1.2.2.1) then
        some (false, ())
      else
        some (true, ()) := by
  rewrite [h_laws_eqBench]
  kernel_rfl

/- 4: loop.example/g01166/laws.FnExactShadowGap -/
abbrev As_laws_FnExactShadowGap : List ATy := [.data true T_Bench]
abbrev R_laws_FnExactShadowGap : List (Bool × Ty) := [(false, .bool)]
abbrev M_laws_FnExactShadowGap : List RMode := []
abbrev Ft_laws_FnExactShadowGap : Type := D_Bench × Unit → Option (Bool × Unit)
noncomputable def X_laws_FnExactShadowGap (n : Nat) (F_laws_szBench : Ft_laws_szBench) (F_spec_ShadowGap : Ft_spec_ShadowGap) (F_laws_toBench : Ft_laws_toBench) (F_impl_ShadowGap : Ft_impl_ShadowGap) (F_laws_eqBench : Ft_laws_eqBench) : Ctx := { types := TT, globals := [], con := [(18, ⟨As_laws_szBench, R_laws_szBench, M_laws_szBench, F_laws_szBench⟩), (19, ⟨As_spec_ShadowGap, R_spec_ShadowGap, M_spec_ShadowGap, F_spec_ShadowGap⟩), (20, ⟨As_laws_toBench, R_laws_toBench, M_laws_toBench, F_laws_toBench⟩), (21, ⟨As_impl_ShadowGap, R_impl_ShadowGap, M_impl_ShadowGap, F_impl_ShadowGap⟩), (22, ⟨As_laws_eqBench, R_laws_eqBench, M_laws_eqBench, F_laws_eqBench⟩)], keep := [], results := [.tmp 2], ntmps := 40, n := n }
noncomputable def B_laws_FnExactShadowGap : Code := (Try.f4.body).getD .skip
noncomputable def P_laws_FnExactShadowGap : Ft_laws_FnExactShadowGap := hid (runF (X_laws_FnExactShadowGap N P_laws_szBench P_spec_ShadowGap P_laws_toBench P_impl_ShadowGap P_laws_eqBench) B_laws_FnExactShadowGap As_laws_FnExactShadowGap R_laws_FnExactShadowGap M_laws_FnExactShadowGap)
theorem h_laws_FnExactShadowGap : P_laws_FnExactShadowGap = runF (X_laws_FnExactShadowGap N P_laws_szBench P_spec_ShadowGap P_laws_toBench P_impl_ShadowGap P_laws_eqBench) B_laws_FnExactShadowGap As_laws_FnExactShadowGap R_laws_FnExactShadowGap M_laws_FnExactShadowGap := hid_eq _
noncomputable def C_laws_FnExactShadowGap : Contract := ⟨As_laws_FnExactShadowGap, R_laws_FnExactShadowGap, M_laws_FnExactShadowGap, P_laws_FnExactShadowGap⟩
theorem s_laws_FnExactShadowGap : Sound Try.prog GG 4 C_laws_FnExactShadowGap := by
  unfold C_laws_FnExactShadowGap; rw [h_laws_FnExactShadowGap]
  exact sound_of_run (fn := Try.f4) hmix hstable (tyOK_of ttOK) (hglob (X_laws_FnExactShadowGap N P_laws_szBench P_spec_ShadowGap P_laws_toBench P_impl_ShadowGap P_laws_eqBench)) (conOK_of (X := X_laws_FnExactShadowGap N P_laws_szBench P_spec_ShadowGap P_laws_toBench P_impl_ShadowGap P_laws_eqBench) ⟨s_laws_szBench, s_spec_ShadowGap, s_laws_toBench, s_impl_ShadowGap, s_laws_eqBench, trivial⟩) (mconOK_of (X := X_laws_FnExactShadowGap N P_laws_szBench P_spec_ShadowGap P_laws_toBench P_impl_ShadowGap P_laws_eqBench) trivial) (by kernel_rfl) (by kernel_rfl) (by kernel_rfl) (by kernel_rfl) (by kernel_rfl) (of_decide_eq_true (by kernel_rfl))
theorem p_laws_FnExactShadowGap (a0 : D_Bench) : P_laws_FnExactShadowGap (a0, ()) = 
  Option.bind (P_laws_szBench (a0, 1048576, ())) fun r0 =>
  bif decide (r0.1 < 0) then
    some (true, ())
  else
    Option.bind (P_laws_toBench (a0, ())) fun r2 =>
    Option.bind (P_spec_ShadowGap (r2.1, ())) fun r3 =>
    Option.bind (P_laws_toBench (a0, ())) fun r4 =>
    Option.bind (P_impl_ShadowGap (r4.1, ())) fun r5 =>
    bif !decide (r5.1 = r3.1) then
      some (false, ())
    else
      bif !(r5.2.1 == r3.2.1) then
        some (false, ())
      else
        Option.bind (P_laws_toBench (a0, ())) fun r8 =>
        Option.bind (P_laws_eqBench (r4.1, r8.1, ())) fun r9 =>
        bif !r9.1 then
          some (false, ())
        else
          some (true, ()) := by
  rewrite [h_laws_FnExactShadowGap]
  kernel_rfl
end Go.VI
