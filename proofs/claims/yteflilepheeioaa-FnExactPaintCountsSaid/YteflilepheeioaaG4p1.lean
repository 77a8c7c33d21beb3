/- What the functions of the seat compute, as printed by wip/tools. -/
import Derived.Test.YteflilepheeioaaViGen
import Derived.Test.YteflilepheeioaaProg
namespace Go.VI
open Go.Proofs
set_option maxRecDepth 100000
def n0 : Nat := 0
def GG : World → Prop := fun _ => True
theorem hstable : Stable n0 GG := stable_true
theorem hmix : Try.prog.follows .mixedOrders = true := by kernel_rfl
theorem hglob (X : Ctx) (h : X.globals = [] := by rfl) (A : Fix) (_ : A.P = Try.prog) (_ : A.G = GG) : GlobOK A X := globOK_none h A
abbrev T_A2 : Ty := (.pair (.int .i64) (.pair (.int .i64) .unit))
abbrev D_A2 : Type := Int × Int × Unit
abbrev T_A3 : Ty := (.pair (.int .i64) (.pair (.int .i64) (.pair (.int .i64) .unit)))
abbrev D_A3 : Type := Int × Int × Int × Unit
abbrev T_Heap : Ty := (.pair (.int .i64) (.pair (.int .i64) (.pair (.int .i64) (.pair (.sl T_A3) .unit))))
abbrev D_Heap : Type := Int × Int × Int × (List D_A3) × Unit
abbrev T_A4 : Ty := (.pair (.int .i64) (.pair (.int .i64) (.pair (.int .i64) (.pair (.int .i64) .unit))))
abbrev D_A4 : Type := Int × Int × Int × Int × Unit
abbrev T_A5 : Ty := (.pair (.int .i64) (.pair (.int .i64) (.pair (.int .i64) (.pair (.int .i64) (.pair (.int .i64) .unit)))))
abbrev D_A5 : Type := Int × Int × Int × Int × Int × Unit
abbrev T_A6 : Ty := (.pair (.int .i64) (.pair (.int .i64) (.pair (.int .i64) (.pair (.int .i64) (.pair (.int .i64) (.pair (.int .i64) .unit))))))
abbrev D_A6 : Type := Int × Int × Int × Int × Int × Int × Unit
abbrev T_A7 : Ty := (.pair (.int .i64) (.pair (.int .i64) (.pair (.int .i64) (.pair (.int .i64) (.pair (.int .i64) (.pair (.int .i64) (.pair (.int .i64) .unit)))))))
abbrev D_A7 : Type := Int × Int × Int × Int × Int × Int × Int × Unit
noncomputable def TT : List (TypeId × TI) := [(3, ⟨Try.t3.desc, (.int .i64), false, 8, [.int .i64 0]⟩),
  (4, ⟨Try.t4.desc, .bool, false, 1, [.bool false]⟩),
  (22, ⟨Try.t22.desc, (.sl T_A3), false, 24, [.nil 25 T_A3]⟩),
  (24, ⟨Try.t23.desc, T_Heap, true, 48, [.int .i64 0, .int .i64 0, .int .i64 0, .nil 25 T_A3]⟩),
  (25, ⟨Try.t25.desc, T_A3, true, 24, [.int .i64 0, .int .i64 0, .int .i64 0]⟩),
  (29, ⟨Try.t23.desc, T_Heap, true, 48, [.int .i64 0, .int .i64 0, .int .i64 0, .nil 25 T_A3]⟩),
  (36, ⟨Try.t36.desc, T_A7, true, 56, [.int .i64 0, .int .i64 0, .int .i64 0, .int .i64 0, .int .i64 0, .int .i64 0, .int .i64 0]⟩),
  (66, ⟨Try.t66.desc, (.sl (.int .i64)), false, 24, [.nil 3 (.int .i64)]⟩),
  (73, ⟨Try.t73.desc, T_A2, true, 16, [.int .i64 0, .int .i64 0]⟩),
  (77, ⟨Try.t25.desc, T_A3, true, 24, [.int .i64 0, .int .i64 0, .int .i64 0]⟩),
  (79, ⟨Try.t79.desc, (.int .u64), false, 8, [.int .u64 0]⟩),
  (92, ⟨Try.t92.desc, (.pair T_A3 (.pair T_A3 (.pair T_A3 (.pair T_A3 (.pair T_A3 (.pair T_A3 .unit)))))), true, 144, [.int .i64 0, .int .i64 0, .int .i64 0, .int .i64 0, .int .i64 0, .int .i64 0, .int .i64 0, .int .i64 0, .int .i64 0, .int .i64 0, .int .i64 0, .int .i64 0, .int .i64 0, .int .i64 0, .int .i64 0, .int .i64 0, .int .i64 0, .int .i64 0]⟩)]
theorem ttOK : allP (fun q => tiB Try.prog q.1 q.2) TT :=
  ⟨⟨by kernel_rfl, by kernel_rfl, by kernel_rfl, by kernel_rfl, by kernel_rfl⟩, ⟨by kernel_rfl, by kernel_rfl, by kernel_rfl, by kernel_rfl, by kernel_rfl⟩, ⟨by kernel_rfl, by kernel_rfl, by kernel_rfl, by kernel_rfl, by kernel_rfl⟩, ⟨by kernel_rfl, by kernel_rfl, by kernel_rfl, by kernel_rfl, by kernel_rfl⟩, ⟨by kernel_rfl, by kernel_rfl, by kernel_rfl, by kernel_rfl, by kernel_rfl⟩, ⟨by kernel_rfl, by kernel_rfl, by kernel_rfl, by kernel_rfl, by kernel_rfl⟩, ⟨by kernel_rfl, by kernel_rfl, by kernel_rfl, by kernel_rfl, by kernel_rfl⟩, ⟨by kernel_rfl, by kernel_rfl, by kernel_rfl, by kernel_rfl, by kernel_rfl⟩, ⟨by kernel_rfl, by kernel_rfl, by kernel_rfl, by kernel_rfl, by kernel_rfl⟩, ⟨by kernel_rfl, by kernel_rfl, by kernel_rfl, by kernel_rfl, by kernel_rfl⟩, ⟨by kernel_rfl, by kernel_rfl, by kernel_rfl, by kernel_rfl, by kernel_rfl⟩, ⟨by kernel_rfl, by kernel_rfl, by kernel_rfl, by kernel_rfl, by kernel_rfl⟩, trivial⟩

/- 34: loop.example/g01166/laws.szIntA3S -/
abbrev As_laws_szIntA3S : List ATy := [.data false (.sl T_A3), .data false (.int .i64)]
abbrev R_laws_szIntA3S : List (Bool × Ty) := [(false, (.int .i64))]
abbrev M_laws_szIntA3S : List RMode := []
abbrev Ft_laws_szIntA3S : Type := (List D_A3) × Int × Unit → Option (Int × Unit)
noncomputable def X_laws_szIntA3S (n : Nat) : Ctx := { types := TT, globals := [], con := [], keep := [], results := [.tmp 4], ntmps := 12, n := n }
noncomputable def B_laws_szIntA3S : Code := (Try.f34.body).getD .skip
theorem e_laws_szIntA3S (n : Nat) (a0 : List D_A3) (a1 : Int) : runF (X_laws_szIntA3S n) B_laws_szIntA3S As_laws_szIntA3S R_laws_szIntA3S M_laws_szIntA3S (a0, a1, ()) = 
  bif decide ((IntKind.wrap .i64 (a1 - (List.length a0 : Int))) < 0) then
    some ((-1), ())
  else
    some ((IntKind.wrap .i64 (a1 - (List.length a0 : Int))), ()) := by kernel_rfl
noncomputable def P_laws_szIntA3S : Ft_laws_szIntA3S := hid (runF (X_laws_szIntA3S N) B_laws_szIntA3S As_laws_szIntA3S R_laws_szIntA3S M_laws_szIntA3S)
theorem h_laws_szIntA3S : P_laws_szIntA3S = runF (X_laws_szIntA3S N) B_laws_szIntA3S As_laws_szIntA3S R_laws_szIntA3S M_laws_szIntA3S := hid_eq _
noncomputable def C_laws_szIntA3S : Contract := ⟨As_laws_szIntA3S, R_laws_szIntA3S, M_laws_szIntA3S, P_laws_szIntA3S⟩
theorem s_laws_szIntA3S : Sound Try.prog GG 34 C_laws_szIntA3S := by
  unfold C_laws_szIntA3S; rw [h_laws_szIntA3S]
  exact sound_of_run (fn := Try.f34) hmix hstable (tyOK_of ttOK) (hglob (X_laws_szIntA3S N)) (conOK_of (X := X_laws_szIntA3S N) trivial) (mconOK_of (X := X_laws_szIntA3S N) trivial) (by kernel_rfl) (by kernel_rfl) (by kernel_rfl) (by kernel_rfl) (by kernel_rfl) (of_decide_eq_true (by kernel_rfl))
theorem p_laws_szIntA3S (a0 : List D_A3) (a1 : Int) : P_laws_szIntA3S (a0, a1, ()) = 
  bif decide ((IntKind.wrap .i64 (a1 - (List.length a0 : Int))) < 0) then
    some ((-1), ())
  else
    some ((IntKind.wrap .i64 (a1 - (List.length a0 : Int))), ()) := by
  rewrite [h_laws_szIntA3S]
  exact e_laws_szIntA3S N a0 a1

/- 8: loop.example/g01166/laws.szHeap -/
abbrev As_laws_szHeap : List ATy := [.data true T_Heap, .data false (.int .i64)]
abbrev R_laws_szHeap : List (Bool × Ty) := [(false, (.int .i64))]
abbrev M_laws_szHeap : List RMode := []
abbrev Ft_laws_szHeap : Type := D_Heap × Int × Unit → Option (Int × Unit)
noncomputable def X_laws_szHeap (n : Nat) (F_laws_szIntA3S : Ft_laws_szIntA3S) : Ctx := { types := TT, globals := [], con := [(34, ⟨As_laws_szIntA3S, R_laws_szIntA3S, M_laws_szIntA3S, F_laws_szIntA3S⟩)], keep := [], results := [.tmp 4], ntmps := 12, n := n }
noncomputable def B_laws_szHeap : Code := (Try.f8.body).getD .skip
theorem e_laws_szHeap (n : Nat) (F_laws_szIntA3S : Ft_laws_szIntA3S) (a0 : D_Heap) (a1 : Int) : runF (X_laws_szHeap n F_laws_szIntA3S) B_laws_szHeap As_laws_szHeap R_laws_szHeap M_laws_szHeap (a0, a1, ()) = 
  Option.bind (F_laws_szIntA3S (a0.2.2.2.1, a1, ())) fun r0 =>
  bif decide (r0.1 < 0) then
    some ((-1), ())
  else
    some (r0.1, ()) := by kernel_rfl
noncomputable def P_laws_szHeap : Ft_laws_szHeap := hid (runF (X_laws_szHeap N P_laws_szIntA3S) B_laws_szHeap As_laws_szHeap R_laws_szHeap M_laws_szHeap)
theorem h_laws_szHeap : P_laws_szHeap = runF (X_laws_szHeap N P_laws_szIntA3S) B_laws_szHeap As_laws_szHeap R_laws_szHeap M_laws_szHeap := hid_eq _
noncomputable def C_laws_szHeap : Contract := ⟨As_laws_szHeap, R_laws_szHeap, M_laws_szHeap, P_laws_szHeap⟩
theorem s_laws_szHeap : Sound Try.prog GG 8 C_laws_szHeap := by
  unfold C_laws_szHeap; rw [h_laws_szHeap]
  exact sound_of_run (fn := Try.f8) hmix hstable (tyOK_of ttOK) (hglob (X_laws_szHeap N P_laws_szIntA3S)) (conOK_of (X := X_laws_szHeap N P_laws_szIntA3S) ⟨s_laws_szIntA3S, trivial⟩) (mconOK_of (X := X_laws_szHeap N P_laws_szIntA3S) trivial) (by kernel_rfl) (by kernel_rfl) (by kernel_rfl) (by kernel_rfl) (by kernel_rfl) (of_decide_eq_true (by kernel_rfl))
theorem p_laws_szHeap (a0 : D_Heap) (a1 : Int) : P_laws_szHeap (a0, a1, ()) = 
  Option.bind (P_laws_szIntA3S (a0.2.2.2.1, a1, ())) fun r0 =>
  bif decide (r0.1 < 0) then
    some ((-1), ())
  else
    some (r0.1, ()) := by
  rewrite [h_laws_szHeap]
  exact e_laws_szHeap N P_laws_szIntA3S a0 a1

/- 83: loop.example/g01166/spec.l1In -/
abbrev As_spec_l1In : List ATy := [.data false (.int .i64), .data false (.int .i64), .data false (.int .i64)]
abbrev R_spec_l1In : List (Bool × Ty) := [(false, .bool)]
abbrev M_spec_l1In : List RMode := []
abbrev Ft_spec_l1In : Type := Int × Int × Int × Unit → Option (Bool × Unit)
noncomputable def X_spec_l1In (n : Nat) : Ctx := { types := TT, globals := [], con := [], keep := [], results := [.tmp 6], ntmps := 15, n := n }
noncomputable def B_spec_l1In : Code := (Try.f83.body).getD .skip
theorem e_spec_l1In (n : Nat) (a0 : Int) (a1 : Int) (a2 : Int) : runF (X_spec_l1In n) B_spec_l1In As_spec_l1In R_spec_l1In M_spec_l1In (a0, a1, a2, ()) = 
  bif decide (a0 ≥ a1) then
    some (decide (a0 ≤ a2), ())
  else
    some (false, ()) := by kernel_rfl
noncomputable def P_spec_l1In : Ft_spec_l1In := hid (runF (X_spec_l1In N) B_spec_l1In As_spec_l1In R_spec_l1In M_spec_l1In)
theorem h_spec_l1In : P_spec_l1In = runF (X_spec_l1In N) B_spec_l1In As_spec_l1In R_spec_l1In M_spec_l1In := hid_eq _
noncomputable def C_spec_l1In : Contract := ⟨As_spec_l1In, R_spec_l1In, M_spec_l1In, P_spec_l1In⟩
theorem s_spec_l1In : Sound Try.prog GG 83 C_spec_l1In := by
  unfold C_spec_l1In; rw [h_spec_l1In]
  exact sound_of_run (fn := Try.f83) hmix hstable (tyOK_of ttOK) (hglob (X_spec_l1In N)) (conOK_of (X := X_spec_l1In N) trivial) (mconOK_of (X := X_spec_l1In N) trivial) (by kernel_rfl) (by kernel_rfl) (by kernel_rfl) (by kernel_rfl) (by kernel_rfl) (of_decide_eq_true (by kernel_rfl))
theorem p_spec_l1In (a0 : Int) (a1 : Int) (a2 : Int) : P_spec_l1In (a0, a1, a2, ()) = 
  bif decide (a0 ≥ a1) then
    some (decide (a0 ≤ a2), ())
  else
    some (false, ()) := by
  rewrite [h_spec_l1In]
  exact e_spec_l1In N a0 a1 a2

/- 66: loop.example/g01166/spec.l2In -/
abbrev As_spec_l2In : List ATy := [.data true T_Heap, .data true T_A3]
abbrev R_spec_l2In : List (Bool × Ty) := [(false, .bool)]
abbrev M_spec_l2In : List RMode := []
abbrev Ft_spec_l2In : Type := D_Heap × D_A3 × Unit → Option (Bool × Unit)
noncomputable def X_spec_l2In (n : Nat) (F_spec_l1In : Ft_spec_l1In) : Ctx := { types := TT, globals := [], con := [(83, ⟨As_spec_l1In, R_spec_l1In, M_spec_l1In, F_spec_l1In⟩)], keep := [], results := [.tmp 4], ntmps := 27, n := n }
noncomputable def B_spec_l2In : Code := (Try.f66.body).getD .skip
theorem e_spec_l2In (n : Nat) (F_spec_l1In : Ft_spec_l1In) (a0 : D_Heap) (a1 : D_A3) : runF (X_spec_l2In n F_spec_l1In) B_spec_l2In As_spec_l2In R_spec_l2In M_spec_l2In (a0, a1, ()) = 
  Option.bind (F_spec_l1In (a1.1, 0, (IntKind.wrap .i64 (a0.1 - 1)), ())) fun r0 =>
  bif r0.1 then
    Option.bind (F_spec_l1In (a1.2.1, 0, (IntKind.wrap .i64 (a0.2.1 - 1)), ())) fun r2 =>
    bif r2.1 then
      Option.bind (F_spec_l1In (a1.2.2.1, 0, (IntKind.wrap .i64 (a0.2.2.1 - 1)), ())) fun r4 =>
      some (r4.1, ())
    else
      some (false, ())
  else
    some (false, ()) := by kernel_rfl
noncomputable def P_spec_l2In : Ft_spec_l2In := hid (runF (X_spec_l2In N P_spec_l1In) B_spec_l2In As_spec_l2In R_spec_l2In M_spec_l2In)
theorem h_spec_l2In : P_spec_l2In = runF (X_spec_l2In N P_spec_l1In) B_spec_l2In As_spec_l2In R_spec_l2In M_spec_l2In := hid_eq _
noncomputable def C_spec_l2In : Contract := ⟨As_spec_l2In, R_spec_l2In, M_spec_l2In, P_spec_l2In⟩
theorem s_spec_l2In : Sound Try.prog GG 66 C_spec_l2In := by
  unfold C_spec_l2In; rw [h_spec_l2In]
  exact sound_of_run (fn := Try.f66) hmix hstable (tyOK_of ttOK) (hglob (X_spec_l2In N P_spec_l1In)) (conOK_of (X := X_spec_l2In N P_spec_l1In) ⟨s_spec_l1In, trivial⟩) (mconOK_of (X := X_spec_l2In N P_spec_l1In) trivial) (by kernel_rfl) (by kernel_rfl) (by kernel_rfl) (by kernel_rfl) (by kernel_rfl) (of_decide_eq_true (by kernel_rfl))
theorem p_spec_l2In (a0 : D_Heap) (a1 : D_A3) : P_spec_l2In (a0, a1, ()) = 
  Option.bind (P_spec_l1In (a1.1, 0, (IntKind.wrap .i64 (a0.1 - 1)), ())) fun r0 =>
  bif r0.1 then
    Option.bind (P_spec_l1In (a1.2.1, 0, (IntKind.wrap .i64 (a0.2.1 - 1)), ())) fun r2 =>
    bif r2.1 then
      Option.bind (P_spec_l1In (a1.2.2.1, 0, (IntKind.wrap .i64 (a0.2.2.1 - 1)), ())) fun r4 =>
      some (r4.1, ())
    else
      some (false, ())
  else
    some (false, ()) := by
  rewrite [h_spec_l2In]
  exact e_spec_l2In N P_spec_l1In a0 a1

/- 79: loop.example/g01166/spec.l2Sides -/
abbrev As_spec_l2Sides : List ATy := [.data false (.int .i64), .data false (.int .i64), .data false (.int .i64)]
abbrev R_spec_l2Sides : List (Bool × Ty) := [(false, .bool)]
abbrev M_spec_l2Sides : List RMode := []
abbrev Ft_spec_l2Sides : Type := Int × Int × Int × Unit → Option (Bool × Unit)
noncomputable def X_spec_l2Sides (n : Nat) (F_spec_l1In : Ft_spec_l1In) : Ctx := { types := TT, globals := [], con := [(83, ⟨As_spec_l1In, R_spec_l1In, M_spec_l1In, F_spec_l1In⟩)], keep := [], results := [.tmp 6], ntmps := 17, n := n }
noncomputable def B_spec_l2Sides : Code := (Try.f79.body).getD .skip
theorem e_spec_l2Sides (n : Nat) (F_spec_l1In : Ft_spec_l1In) (a0 : Int) (a1 : Int) (a2 : Int) : runF (X_spec_l2Sides n F_spec_l1In) B_spec_l2Sides As_spec_l2Sides R_spec_l2Sides M_spec_l2Sides (a0, a1, a2, ()) = 
  Option.bind (F_spec_l1In (a0, 1, 4, ())) fun r0 =>
  bif r0.1 then
    Option.bind (F_spec_l1In (a1, 1, 4, ())) fun r2 =>
    bif r2.1 then
      Option.bind (F_spec_l1In (a2, 1, 4, ())) fun r4 =>
      some (r4.1, ())
    else
      some (false, ())
  else
    some (false, ()) := by kernel_rfl
noncomputable def P_spec_l2Sides : Ft_spec_l2Sides := hid (runF (X_spec_l2Sides N P_spec_l1In) B_spec_l2Sides As_spec_l2Sides R_spec_l2Sides M_spec_l2Sides)
theorem h_spec_l2Sides : P_spec_l2Sides = runF (X_spec_l2Sides N P_spec_l1In) B_spec_l2Sides As_spec_l2Sides R_spec_l2Sides M_spec_l2Sides := hid_eq _
noncomputable def C_spec_l2Sides : Contract := ⟨As_spec_l2Sides, R_spec_l2Sides, M_spec_l2Sides, P_spec_l2Sides⟩
theorem s_spec_l2Sides : Sound Try.prog GG 79 C_spec_l2Sides := by
  unfold C_spec_l2Sides; rw [h_spec_l2Sides]
  exact sound_of_run (fn := Try.f79) hmix hstable (tyOK_of ttOK) (hglob (X_spec_l2Sides N P_spec_l1In)) (conOK_of (X := X_spec_l2Sides N P_spec_l1In) ⟨s_spec_l1In, trivial⟩) (mconOK_of (X := X_spec_l2Sides N P_spec_l1In) trivial) (by kernel_rfl) (by kernel_rfl) (by kernel_rfl) (by kernel_rfl) (by kernel_rfl) (of_decide_eq_true (by kernel_rfl))
theorem p_spec_l2Sides (a0 : Int) (a1 : Int) (a2 : Int) : P_spec_l2Sides (a0, a1, a2, ()) = 
  Option.bind (P_spec_l1In (a0, 1, 4, ())) fun r0 =>
  bif r0.1 then
    Option.bind (P_spec_l1In (a1, 1, 4, ())) fun r2 =>
    bif r2.1 then
      Option.bind (P_spec_l1In (a2, 1, 4, ())) fun r4 =>
      some (r4.1, ())
    else
      some (false, ())
  else
    some (false, ()) := by
  rewrite [h_spec_l2Sides]
  exact e_spec_l2Sides N P_spec_l1In a0 a1 a2

/- 80: loop.example/g01166/spec.l2Before -/
abbrev As_spec_l2Before : List ATy := [.data true T_A3, .data true T_A3]
abbrev R_spec_l2Before : List (Bool × Ty) := [(false, .bool)]
abbrev M_spec_l2Before : List RMode := []
abbrev Ft_spec_l2Before : Type := D_A3 × D_A3 × Unit → Option (Bool × Unit)
noncomputable def X_spec_l2Before (n : Nat) : Ctx := { types := TT, globals := [], con := [], keep := [(2, ⟨[.box 2, .box 3, .tmp 2, .tmp 3, .tmp 5], []⟩)], results := [.tmp 4], ntmps := 24, n := n }
noncomputable def B_spec_l2Before : Code := (Try.f80.body).getD .skip
noncomputable def L_spec_l2Before_2 (n : Nat) (m0 : Nat) (p0 : Int) (p1 : Int) (p2 : Int) (p3 : Int) (p4 : Int) (p5 : Int) (p6 : Int) : Option (denL R_spec_l2Before) := loopF (X_spec_l2Before n) B_spec_l2Before R_spec_l2Before M_spec_l2Before 2 [m0] [(.ver, .num 1), (.box 2, .box 0 false [.int .i64 p0, .int .i64 p1, .int .i64 p2]), (.box 3, .box 0 false [.int .i64 p3, .int .i64 p4, .int .i64 p5]), (.tmp 2, .val false [.addr 2 0 0]), (.tmp 3, .val false [.addr 3 0 0]), (.tmp 5, .val false [.int .i64 p6])]
theorem e_spec_l2Before (n : Nat) (a0 : D_A3) (a1 : D_A3) : runF (X_spec_l2Before n) B_spec_l2Before As_spec_l2Before R_spec_l2Before M_spec_l2Before (a0, a1, ()) = 
  L_spec_l2Before_2 n n a0.1 a0.2.1 a0.2.2.1 a1.1 a1.2.1 a1.2.2.1 0 := by kernel_rfl
theorem e_spec_l2Before_2 (n : Nat) (m0 : Nat) (p0 : Int) (p1 : Int) (p2 : Int) (p3 : Int) (p4 : Int) (p5 : Int) (p6 : Int) : L_spec_l2Before_2 n (m0 + 1) p0 p1 p2 p3 p4 p5 p6 = 
  bif decide (p6 < 3) then
    bif inB p6 3 then
      bif inB p6 3 then
        bif !decide ((bif decide (p6 = (0 : Int)) then p0 else (bif decide (p6 = (1 : Int)) then p1 else p2)) = (bif decide (p6 = (0 : Int)) then p3 else (bif decide (p6 = (1 : Int)) then p4 else p5))) then
          bif inB p6 3 then
            bif inB p6 3 then
              some (decide ((bif decide (p6 = (0 : Int)) then p0 else (bif decide (p6 = (1 : Int)) then p1 else p2)) < (bif decide (p6 = (0 : Int)) then p3 else (bif decide (p6 = (1 : Int)) then p4 else p5))), ())
            else none
          else none
        else
          L_spec_l2Before_2 n m0 p0 p1 p2 p3 p4 p5 (IntKind.wrap .i64 (p6 + 1))
      else none
    else none
  else
    some (false, ()) := by kernel_rfl
noncomputable def P_spec_l2Before : Ft_spec_l2Before := hid (runF (X_spec_l2Before N) B_spec_l2Before As_spec_l2Before R_spec_l2Before M_spec_l2Before)
theorem h_spec_l2Before : P_spec_l2Before = runF (X_spec_l2Before N) B_spec_l2Before As_spec_l2Before R_spec_l2Before M_spec_l2Before := hid_eq _
noncomputable def C_spec_l2Before : Contract := ⟨As_spec_l2Before, R_spec_l2Before, M_spec_l2Before, P_spec_l2Before⟩
theorem s_spec_l2Before : Sound Try.prog GG 80 C_spec_l2Before := by
  unfold C_spec_l2Before; rw [h_spec_l2Before]
  exact sound_of_run (fn := Try.f80) hmix hstable (tyOK_of ttOK) (hglob (X_spec_l2Before N)) (conOK_of (X := X_spec_l2Before N) trivial) (mconOK_of (X := X_spec_l2Before N) trivial) (by kernel_rfl) (by kernel_rfl) (by kernel_rfl) (by kernel_rfl) (by kernel_rfl) (of_decide_eq_true (by kernel_rfl))
noncomputable def l_spec_l2Before_2 : Nat → Int → Int → Int → Int → Int → Int → Int → Option (denL R_spec_l2Before) := hid (fun m0 p0 p1 p2 p3 p4 p5 p6 => L_spec_l2Before_2 N m0 p0 p1 p2 p3 p4 p5 p6)
theorem h_spec_l2Before_2 : l_spec_l2Before_2 = fun m0 p0 p1 p2 p3 p4 p5 p6 => L_spec_l2Before_2 N m0 p0 p1 p2 p3 p4 p5 p6 := hid_eq _
theorem p_spec_l2Before (a0 : D_A3) (a1 : D_A3) : P_spec_l2Before (a0, a1, ()) = 
  l_spec_l2Before_2 N a0.1 a0.2.1 a0.2.2.1 a1.1 a1.2.1 a1.2.2.1 0 := by
  rewrite [h_spec_l2Before, h_spec_l2Before_2]
  exact e_spec_l2Before N a0 a1
theorem q_spec_l2Before_2 (m0 : Nat) (p0 : Int) (p1 : Int) (p2 : Int) (p3 : Int) (p4 : Int) (p5 : Int) (p6 : Int) : l_spec_l2Before_2 (m0 + 1) p0 p1 p2 p3 p4 p5 p6 = 
  bif decide (p6 < 3) then
    bif inB p6 3 then
      bif inB p6 3 then
        bif !decide ((bif decide (p6 = (0 : Int)) then p0 else (bif decide (p6 = (1 : Int)) then p1 else p2)) = (bif decide (p6 = (0 : Int)) then p3 else (bif decide (p6 = (1 : Int)) then p4 else p5))) then
          bif inB p6 3 then
            bif inB p6 3 then
              some (decide ((bif decide (p6 = (0 : Int)) then p0 else (bif decide (p6 = (1 : Int)) then p1 else p2)) < (bif decide (p6 = (0 : Int)) then p3 else (bif decide (p6 = (1 : Int)) then p4 else p5))), ())
            else none
          else none
        else
          l_spec_l2Before_2 m0 p0 p1 p2 p3 p4 p5 (IntKind.wrap .i64 (p6 + 1))
      else none
    else none
  else
    some (false, ()) := by
  rewrite [h_spec_l2Before_2]
  exact e_spec_l2Before_2 N m0 p0 p1 p2 p3 p4 p5 p6

/- 45: loop.example/g01166/spec.l2Heap -/
abbrev As_spec_l2Heap : List ATy := [.data true T_Heap]
abbrev R_spec_l2Heap : List (Bool × Ty) := [(false, .bool)]
abbrev M_spec_l2Heap : List RMode := []
abbrev Ft_spec_l2Heap : Type := D_Heap × Unit → Option (Bool × Unit)
noncomputable def X_spec_l2Heap (n : Nat) (F_spec_l2In : Ft_spec_l2In) (F_spec_l2Sides : Ft_spec_l2Sides) (F_spec_l2Before : Ft_spec_l2Before) : Ctx := { types := TT, globals := [], con := [(66, ⟨As_spec_l2In, R_spec_l2In, M_spec_l2In, F_spec_l2In⟩), (79, ⟨As_spec_l2Sides, R_spec_l2Sides, M_spec_l2Sides, F_spec_l2Sides⟩), (80, ⟨As_spec_l2Before, R_spec_l2Before, M_spec_l2Before, F_spec_l2Before⟩)], keep := [(4, ⟨[.box 1, .tmp 1, .tmp 3], []⟩)], results := [.tmp 2], ntmps := 46, n := n }
noncomputable def B_spec_l2Heap : Code := (Try.f45.body).getD .skip
noncomputable def L_spec_l2Heap_4 (n : Nat) (F_spec_l2In : Ft_spec_l2In) (F_spec_l2Sides : Ft_spec_l2Sides) (F_spec_l2Before : Ft_spec_l2Before) (m0 : Nat) (p0 : Int) (p1 : Int) (p2 : Int) (p3 : List D_A3) (p4 : Int) : Option (denL R_spec_l2Heap) := loopF (X_spec_l2Heap n F_spec_l2In F_spec_l2Sides F_spec_l2Before) B_spec_l2Heap R_spec_l2Heap M_spec_l2Heap 4 [m0] [(.ver, .num 1), (.box 1, .box 0 false [.int .i64 p0, .int .i64 p1, .int .i64 p2, .imm T_A3 p3 (some 3)]), (.tmp 1, .val false [.addr 1 0 0]), (.tmp 3, .val false [.int .i64 p4])]
theorem e_spec_l2Heap (n : Nat) (F_spec_l2In : Ft_spec_l2In) (F_spec_l2Sides : Ft_spec_l2Sides) (F_spec_l2Before : Ft_spec_l2Before) (a0 : D_Heap) : runF (X_spec_l2Heap n F_spec_l2In F_spec_l2Sides F_spec_l2Before) B_spec_l2Heap As_spec_l2Heap R_spec_l2Heap M_spec_l2Heap (a0, ()) = 
  Option.bind (F_spec_l2Sides (a0.1, a0.2.1, a0.2.2.1, ())) fun r0 =>
  bif !r0.1 then
    some (false, ())
  else
    L_spec_l2Heap_4 n F_spec_l2In F_spec_l2Sides F_spec_l2Before n a0.1 a0.2.1 a0.2.2.1 a0.2.2.2.1 0 := by kernel_rfl
theorem e_spec_l2Heap_4 (n : Nat) (F_spec_l2In : Ft_spec_l2In) (F_spec_l2Sides : Ft_spec_l2Sides) (F_spec_l2Before : Ft_spec_l2Before) (m0 : Nat) (p0 : Int) (p1 : Int) (p2 : Int) (p3 : List D_A3) (p4 : Int) : L_spec_l2Heap_4 n F_spec_l2In F_spec_l2Sides F_spec_l2Before (m0 + 1) p0 p1 p2 p3 p4 = 
  bif decide (p4 < (List.length p3 : Int)) then
    bif inB p4 (List.length p3) then
      Option.bind (F_spec_l2In ((p0, (p1, (p2, (p3, ())))), (nth T_A3 p3 p4), ())) fun r2 =>
      bif !r2.1 then
        some (false, ())
      else
        bif decide (p4 > 0) then
          bif inB (IntKind.wrap .i64 (p4 - 1)) (List.length p3) then
            bif inB p4 (List.length p3) then
              Option.bind (F_spec_l2Before ((nth T_A3 p3 (IntKind.wrap .i64 (p4 - 1))), (nth T_A3 p3 p4), ())) fun r7 =>
              bif !r7.1 then
                some (false, ())
              else
                L_spec_l2Heap_4 n F_spec_l2In F_spec_l2Sides F_spec_l2Before m0 p0 p1 p2 p3 (IntKind.wrap .i64 (p4 + 1))
            else none
          else none
        else
          L_spec_l2Heap_4 n F_spec_l2In F_spec_l2Sides F_spec_l2Before m0 p0 p1 p2 p3 (IntKind.wrap .i64 (p4 + 1))
    else none
  else
    some (true, ()) := by kernel_rfl
noncomputable def P_spec_l2Heap : Ft_spec_l2Heap := hid (runF (X_spec_l2Heap N P_spec_l2In P_spec_l2Sides P_spec_l2Before) B_spec_l2Heap As_spec_l2Heap R_spec_l2Heap M_spec_l2Heap)
theorem h_spec_l2Heap : P_spec_l2Heap = runF (X_spec_l2Heap N P_spec_l2In P_spec_l2Sides P_spec_l2Before) B_spec_l2Heap As_spec_l2Heap R_spec_l2Heap M_spec_l2Heap := hid_eq _
noncomputable def C_spec_l2Heap : Contract := ⟨As_spec_l2Heap, R_spec_l2Heap, M_spec_l2Heap, P_spec_l2Heap⟩
theorem s_spec_l2Heap : Sound Try.prog GG 45 C_spec_l2Heap := by
  unfold C_spec_l2Heap; rw [h_spec_l2Heap]
  exact sound_of_run (fn := Try.f45) hmix hstable (tyOK_of ttOK) (hglob (X_spec_l2Heap N P_spec_l2In P_spec_l2Sides P_spec_l2Before)) (conOK_of (X := X_spec_l2Heap N P_spec_l2In P_spec_l2Sides P_spec_l2Before) ⟨s_spec_l2In, s_spec_l2Sides, s_spec_l2Before, trivial⟩) (mconOK_of (X := X_spec_l2Heap N P_spec_l2In P_spec_l2Sides P_spec_l2Before) trivial) (by kernel_rfl) (by kernel_rfl) (by kernel_rfl) (by kernel_rfl) (by kernel_rfl) (of_decide_eq_true (by kernel_rfl))
noncomputable def l_spec_l2Heap_4 : Nat → Int → Int → Int → (List D_A3) → Int → Option (denL R_spec_l2Heap) := hid (fun m0 p0 p1 p2 p3 p4 => L_spec_l2Heap_4 N P_spec_l2In P_spec_l2Sides P_spec_l2Before m0 p0 p1 p2 p3 p4)
theorem h_spec_l2Heap_4 : l_spec_l2Heap_4 = fun m0 p0 p1 p2 p3 p4 => L_spec_l2Heap_4 N P_spec_l2In P_spec_l2Sides P_spec_l2Before m0 p0 p1 p2 p3 p4 := hid_eq _
theorem p_spec_l2Heap (a0 : D_Heap) : P_spec_l2Heap (a0, ()) = 
  Option.bind (P_spec_l2Sides (a0.1, a0.2.1, a0.2.2.1, ())) fun r0 =>
  bif !r0.1 then
    some (false, ())
  else
    l_spec_l2Heap_4 N a0.1 a0.2.1 a0.2.2.1 a0.2.2.2.1 0 := by
  rewrite [h_spec_l2Heap, h_spec_l2Heap_4]
  exact e_spec_l2Heap N P_spec_l2In P_spec_l2Sides P_spec_l2Before a0
theorem q_spec_l2Heap_4 (m0 : Nat) (p0 : Int) (p1 : Int) (p2 : Int) (p3 : List D_A3) (p4 : Int) : l_spec_l2Heap_4 (m0 + 1) p0 p1 p2 p3 p4 = 
  bif decide (p4 < (List.length p3 : Int)) then
    bif inB p4 (List.length p3) then
      Option.bind (P_spec_l2In ((p0, (p1, (p2, (p3, ())))), (nth T_A3 p3 p4), ())) fun r2 =>
      bif !r2.1 then
        some (false, ())
      else
        bif decide (p4 > 0) then
          bif inB (IntKind.wrap .i64 (p4 - 1)) (List.length p3) then
            bif inB p4 (List.length p3) then
              Option.bind (P_spec_l2Before ((nth T_A3 p3 (IntKind.wrap .i64 (p4 - 1))), (nth T_A3 p3 p4), ())) fun r7 =>
              bif !r7.1 then
                some (false, ())
              else
                l_spec_l2Heap_4 m0 p0 p1 p2 p3 (IntKind.wrap .i64 (p4 + 1))
            else none
          else none
        else
          l_spec_l2Heap_4 m0 p0 p1 p2 p3 (IntKind.wrap .i64 (p4 + 1))
    else none
  else
    some (true, ()) := by
  rewrite [h_spec_l2Heap_4]
  exact e_spec_l2Heap_4 N P_spec_l2In P_spec_l2Sides P_spec_l2Before m0 p0 p1 p2 p3 p4

/- 35: loop.example/g01166/spec.l2Cell -/
abbrev As_spec_l2Cell : List ATy := [.data true T_Heap, .data true T_A3]
abbrev R_spec_l2Cell : List (Bool × Ty) := [(false, .bool)]
abbrev M_spec_l2Cell : List RMode := []
abbrev Ft_spec_l2Cell : Type := D_Heap × D_A3 × Unit → Option (Bool × Unit)
noncomputable def X_spec_l2Cell (n : Nat) (F_spec_l2Heap : Ft_spec_l2Heap) (F_spec_l2In : Ft_spec_l2In) : Ctx := { types := TT, globals := [], con := [(45, ⟨As_spec_l2Heap, R_spec_l2Heap, M_spec_l2Heap, F_spec_l2Heap⟩), (66, ⟨As_spec_l2In, R_spec_l2In, M_spec_l2In, F_spec_l2In⟩)], keep := [], results := [.tmp 4], ntmps := 12, n := n }
noncomputable def B_spec_l2Cell : Code := (Try.f35.body).getD .skip
theorem e_spec_l2Cell (n : Nat) (F_spec_l2Heap : Ft_spec_l2Heap) (F_spec_l2In : Ft_spec_l2In) (a0 : D_Heap) (a1 : D_A3) : runF (X_spec_l2Cell n F_spec_l2Heap F_spec_l2In) B_spec_l2Cell As_spec_l2Cell R_spec_l2Cell M_spec_l2Cell (a0, a1, ()) = 
  Option.bind (F_spec_l2Heap (a0, ())) fun r0 =>
  bif r0.1 then
    Option.bind (F_spec_l2In (a0, a1, ())) fun r2 =>
    some (r2.1, ())
  else
    some (false, ()) := by kernel_rfl
noncomputable def P_spec_l2Cell : Ft_spec_l2Cell := hid (runF (X_spec_l2Cell N P_spec_l2Heap P_spec_l2In) B_spec_l2Cell As_spec_l2Cell R_spec_l2Cell M_spec_l2Cell)
theorem h_spec_l2Cell : P_spec_l2Cell = runF (X_spec_l2Cell N P_spec_l2Heap P_spec_l2In) B_spec_l2Cell As_spec_l2Cell R_spec_l2Cell M_spec_l2Cell := hid_eq _
noncomputable def C_spec_l2Cell : Contract := ⟨As_spec_l2Cell, R_spec_l2Cell, M_spec_l2Cell, P_spec_l2Cell⟩
theorem s_spec_l2Cell : Sound Try.prog GG 35 C_spec_l2Cell := by
  unfold C_spec_l2Cell; rw [h_spec_l2Cell]
  exact sound_of_run (fn := Try.f35) hmix hstable (tyOK_of ttOK) (hglob (X_spec_l2Cell N P_spec_l2Heap P_spec_l2In)) (conOK_of (X := X_spec_l2Cell N P_spec_l2Heap P_spec_l2In) ⟨s_spec_l2Heap, s_spec_l2In, trivial⟩) (mconOK_of (X := X_spec_l2Cell N P_spec_l2Heap P_spec_l2In) trivial) (by kernel_rfl) (by kernel_rfl) (by kernel_rfl) (by kernel_rfl) (by kernel_rfl) (of_decide_eq_true (by kernel_rfl))
theorem p_spec_l2Cell (a0 : D_Heap) (a1 : D_A3) : P_spec_l2Cell (a0, a1, ()) = 
  Option.bind (P_spec_l2Heap (a0, ())) fun r0 =>
  bif r0.1 then
    Option.bind (P_spec_l2In (a0, a1, ())) fun r2 =>
    some (r2.1, ())
  else
    some (false, ()) := by
  rewrite [h_spec_l2Cell]
  exact e_spec_l2Cell N P_spec_l2Heap P_spec_l2In a0 a1

/- 36: loop.example/g01166/spec.l2Has -/
abbrev As_spec_l2Has : List ATy := [.data true T_Heap, .data true T_A3]
abbrev R_spec_l2Has : List (Bool × Ty) := [(false, .bool)]
abbrev M_spec_l2Has : List RMode := []
abbrev Ft_spec_l2Has : Type := D_Heap × D_A3 × Unit → Option (Bool × Unit)
noncomputable def X_spec_l2Has (n : Nat) : Ctx := { types := TT, globals := [], con := [], keep := [(2, ⟨[.box 2, .box 3, .tmp 2, .tmp 3, .tmp 5], []⟩)], results := [.tmp 4], ntmps := 20, n := n }
noncomputable def B_spec_l2Has : Code := (Try.f36.body).getD .skip
noncomputable def L_spec_l2Has_2 (n : Nat) (m0 : Nat) (p0 : Int) (p1 : Int) (p2 : Int) (p3 : List D_A3) (p4 : Int) (p5 : Int) (p6 : Int) (p7 : Int) : Option (denL R_spec_l2Has) := loopF (X_spec_l2Has n) B_spec_l2Has R_spec_l2Has M_spec_l2Has 2 [m0] [(.ver, .num 1), (.box 2, .box 0 false [.int .i64 p0, .int .i64 p1, .int .i64 p2, .imm T_A3 p3 (some 3)]), (.box 3, .box 0 false [.int .i64 p4, .int .i64 p5, .int .i64 p6]), (.tmp 2, .val false [.addr 2 0 0]), (.tmp 3, .val false [.addr 3 0 0]), (.tmp 5, .val false [.int .i64 p7])]
theorem e_spec_l2Has (n : Nat) (a0 : D_Heap) (a1 : D_A3) : runF (X_spec_l2Has n) B_spec_l2Has As_spec_l2Has R_spec_l2Has M_spec_l2Has (a0, a1, ()) = 
  L_spec_l2Has_2 n n a0.1 a0.2.1 a0.2.2.1 a0.2.2.2.1 a1.1 a1.2.1 a1.2.2.1 0 := by kernel_rfl
theorem e_spec_l2Has_2 (n : Nat) (m0 : Nat) (p0 : Int) (p1 : Int) (p2 : Int) (p3 : List D_A3) (p4 : Int) (p5 : Int) (p6 : Int) (p7 : Int) : L_spec_l2Has_2 n (m0 + 1) p0 p1 p2 p3 p4 p5 p6 p7 = 
  bif decide (p7 < (List.length p3 : Int)) then
    bif inB p7 (List.length p3) then
      bif (decide (((nth T_A3 p3 p7)).1 = p4) && (decide ((((nth T_A3 p3 p7)).2).1 = p5) && (decide (((((nth T_A3 p3 p7)).2).2).1 = p6) && true))) then
        some (true, ())
      else
        L_spec_l2Has_2 n m0 p0 p1 p2 p3 p4 p5 p6 (IntKind.wrap .i64 (p7 + 1))
    else none
  else
    some (false, ()) := by kernel_rfl
noncomputable def P_spec_l2Has : Ft_spec_l2Has := hid (runF (X_spec_l2Has N) B_spec_l2Has As_spec_l2Has R_spec_l2Has M_spec_l2Has)
theorem h_spec_l2Has : P_spec_l2Has = runF (X_spec_l2Has N) B_spec_l2Has As_spec_l2Has R_spec_l2Has M_spec_l2Has := hid_eq _
noncomputable def C_spec_l2Has : Contract := ⟨As_spec_l2Has, R_spec_l2Has, M_spec_l2Has, P_spec_l2Has⟩
theorem s_spec_l2Has : Sound Try.prog GG 36 C_spec_l2Has := by
  unfold C_spec_l2Has; rw [h_spec_l2Has]
  exact sound_of_run (fn := Try.f36) hmix hstable (tyOK_of ttOK) (hglob (X_spec_l2Has N)) (conOK_of (X := X_spec_l2Has N) trivial) (mconOK_of (X := X_spec_l2Has N) trivial) (by kernel_rfl) (by kernel_rfl) (by kernel_rfl) (by kernel_rfl) (by kernel_rfl) (of_decide_eq_true (by kernel_rfl))
noncomputable def l_spec_l2Has_2 : Nat → Int → Int → Int → (List D_A3) → Int → Int → Int → Int → Option (denL R_spec_l2Has) := hid (fun m0 p0 p1 p2 p3 p4 p5 p6 p7 => L_spec_l2Has_2 N m0 p0 p1 p2 p3 p4 p5 p6 p7)
theorem h_spec_l2Has_2 : l_spec_l2Has_2 = fun m0 p0 p1 p2 p3 p4 p5 p6 p7 => L_spec_l2Has_2 N m0 p0 p1 p2 p3 p4 p5 p6 p7 := hid_eq _
theorem p_spec_l2Has (a0 : D_Heap) (a1 : D_A3) : P_spec_l2Has (a0, a1, ()) = 
  l_spec_l2Has_2 N a0.1 a0.2.1 a0.2.2.1 a0.2.2.2.1 a1.1 a1.2.1 a1.2.2.1 0 := by
  rewrite [h_spec_l2Has, h_spec_l2Has_2]
  exact e_spec_l2Has N a0 a1
theorem q_spec_l2Has_2 (m0 : Nat) (p0 : Int) (p1 : Int) (p2 : Int) (p3 : List D_A3) (p4 : Int) (p5 : Int) (p6 : Int) (p7 : Int) : l_spec_l2Has_2 (m0 + 1) p0 p1 p2 p3 p4 p5 p6 p7 = 
  bif decide (p7 < (List.length p3 : Int)) then
    bif inB p7 (List.length p3) then
      bif (decide (((nth T_A3 p3 p7)).1 = p4) && (decide ((((nth T_A3 p3 p7)).2).1 = p5) && (decide (((((nth T_A3 p3 p7)).2).2).1 = p6) && true))) then
        some (true, ())
      else
        l_spec_l2Has_2 m0 p0 p1 p2 p3 p4 p5 p6 (IntKind.wrap .i64 (p7 + 1))
    else none
  else
    some (false, ()) := by
  rewrite [h_spec_l2Has_2]
  exact e_spec_l2Has_2 N m0 p0 p1 p2 p3 p4 p5 p6 p7

/- 67: loop.example/g01166/spec.l6Steps -/
abbrev As_spec_l6Steps : List ATy := []
abbrev R_spec_l6Steps : List (Bool × Ty) := [(true, (.pair T_A3 (.pair T_A3 (.pair T_A3 (.pair T_A3 (.pair T_A3 (.pair T_A3 .unit)))))))]
abbrev M_spec_l6Steps : List RMode := []
abbrev Ft_spec_l6Steps : Type := Unit → Option ((D_A3 × D_A3 × D_A3 × D_A3 × D_A3 × D_A3 × Unit) × Unit)
noncomputable def X_spec_l6Steps (n : Nat) : Ctx := { types := TT, globals := [], con := [], keep := [], results := [.cell 0 92], ntmps := 8, n := n }
noncomputable def B_spec_l6Steps : Code := (Try.f67.body).getD .skip
theorem e_spec_l6Steps (n : Nat)  : runF (X_spec_l6Steps n) B_spec_l6Steps As_spec_l6Steps R_spec_l6Steps M_spec_l6Steps (()) = 
  some ((((-1), (0, (0, ()))), ((1, (0, (0, ()))), ((0, ((-1), (0, ()))), ((0, (1, (0, ()))), ((0, (0, ((-1), ()))), ((0, (0, (1, ()))), ())))))), ()) := by kernel_rfl
noncomputable def P_spec_l6Steps : Ft_spec_l6Steps := hid (runF (X_spec_l6Steps N) B_spec_l6Steps As_spec_l6Steps R_spec_l6Steps M_spec_l6Steps)
theorem h_spec_l6Steps : P_spec_l6Steps = runF (X_spec_l6Steps N) B_spec_l6Steps As_spec_l6Steps R_spec_l6Steps M_spec_l6Steps := hid_eq _
noncomputable def C_spec_l6Steps : Contract := ⟨As_spec_l6Steps, R_spec_l6Steps, M_spec_l6Steps, P_spec_l6Steps⟩
theorem s_spec_l6Steps : Sound Try.prog GG 67 C_spec_l6Steps := by
  unfold C_spec_l6Steps; rw [h_spec_l6Steps]
  exact sound_of_run (fn := Try.f67) hmix hstable (tyOK_of ttOK) (hglob (X_spec_l6Steps N)) (conOK_of (X := X_spec_l6Steps N) trivial) (mconOK_of (X := X_spec_l6Steps N) trivial) (by kernel_rfl) (by kernel_rfl) (by kernel_rfl) (by kernel_rfl) (by kernel_rfl) (of_decide_eq_true (by kernel_rfl))
theorem p_spec_l6Steps  : P_spec_l6Steps (()) = 
  some ((((-1), (0, (0, ()))), ((1, (0, (0, ()))), ((0, ((-1), (0, ()))), ((0, (1, (0, ()))), ((0, (0, ((-1), ()))), ((0, (0, (1, ()))), ())))))), ()) := by
  rewrite [h_spec_l6Steps]
  exact e_spec_l6Steps N 

/- 68: loop.example/g01166/spec.l6Beside -/
abbrev As_spec_l6Beside : List ATy := [.data true T_A3, .data true T_A3]
abbrev R_spec_l6Beside : List (Bool × Ty) := [(true, T_A3)]
abbrev M_spec_l6Beside : List RMode := []
abbrev Ft_spec_l6Beside : Type := D_A3 × D_A3 × Unit → Option (D_A3 × Unit)
noncomputable def X_spec_l6Beside (n : Nat) : Ctx := { types := TT, globals := [], con := [], keep := [], results := [.cell 4 25], ntmps := 21, n := n }
noncomputable def B_spec_l6Beside : Code := (Try.f68.body).getD .skip
theorem e_spec_l6Beside (n : Nat) (a0 : D_A3) (a1 : D_A3) : runF (X_spec_l6Beside n) B_spec_l6Beside As_spec_l6Beside R_spec_l6Beside M_spec_l6Beside (a0, a1, ()) = 
  some (((IntKind.wrap .i64 (a0.1 + a1.1)), ((IntKind.wrap .i64 (a0.2.1 + a1.2.1)), ((IntKind.wrap .i64 (a0.2.2.1 + a1.2.2.1)), ()))), ()) := by kernel_rfl
noncomputable def P_spec_l6Beside : Ft_spec_l6Beside := hid (runF (X_spec_l6Beside N) B_spec_l6Beside As_spec_l6Beside R_spec_l6Beside M_spec_l6Beside)
theorem h_spec_l6Beside : P_spec_l6Beside = runF (X_spec_l6Beside N) B_spec_l6Beside As_spec_l6Beside R_spec_l6Beside M_spec_l6Beside := hid_eq _
noncomputable def C_spec_l6Beside : Contract := ⟨As_spec_l6Beside, R_spec_l6Beside, M_spec_l6Beside, P_spec_l6Beside⟩
theorem s_spec_l6Beside : Sound Try.prog GG 68 C_spec_l6Beside := by
  unfold C_spec_l6Beside; rw [h_spec_l6Beside]
  exact sound_of_run (fn := Try.f68) hmix hstable (tyOK_of ttOK) (hglob (X_spec_l6Beside N)) (conOK_of (X := X_spec_l6Beside N) trivial) (mconOK_of (X := X_spec_l6Beside N) trivial) (by kernel_rfl) (by kernel_rfl) (by kernel_rfl) (by kernel_rfl) (by kernel_rfl) (of_decide_eq_true (by kernel_rfl))
theorem p_spec_l6Beside (a0 : D_A3) (a1 : D_A3) : P_spec_l6Beside (a0, a1, ()) = 
  some (((IntKind.wrap .i64 (a0.1 + a1.1)), ((IntKind.wrap .i64 (a0.2.1 + a1.2.1)), ((IntKind.wrap .i64 (a0.2.2.1 + a1.2.2.1)), ()))), ()) := by
  rewrite [h_spec_l6Beside]
  exact e_spec_l6Beside N a0 a1

/- 37: loop.example/g01166/spec.l11Painted -/
abbrev As_spec_l11Painted : List ATy := [.data true T_Heap, .data true T_Heap, .data true T_A3]
abbrev R_spec_l11Painted : List (Bool × Ty) := [(false, (.int .i64))]
abbrev M_spec_l11Painted : List RMode := []
abbrev Ft_spec_l11Painted : Type := D_Heap × D_Heap × D_A3 × Unit → Option (Int × Unit)
noncomputable def X_spec_l11Painted (n : Nat) (F_spec_l2Has : Ft_spec_l2Has) (F_spec_l6Steps : Ft_spec_l6Steps) (F_spec_l6Beside : Ft_spec_l6Beside) : Ctx := { types := TT, globals := [], con := [(36, ⟨As_spec_l2Has, R_spec_l2Has, M_spec_l2Has, F_spec_l2Has⟩), (67, ⟨As_spec_l6Steps, R_spec_l6Steps, M_spec_l6Steps, F_spec_l6Steps⟩), (68, ⟨As_spec_l6Beside, R_spec_l6Beside, M_spec_l6Beside, F_spec_l6Beside⟩)], keep := [(3, ⟨[.box 3, .box 4, .box 5, .box 8, .tmp 3, .tmp 4, .tmp 5, .tmp 7, .tmp 8, .tmp 9], []⟩)], results := [.tmp 6], ntmps := 34, n := n }
noncomputable def B_spec_l11Painted : Code := (Try.f37.body).getD .skip
noncomputable def L_spec_l11Painted_3 (n : Nat) (F_spec_l2Has : Ft_spec_l2Has) (F_spec_l6Steps : Ft_spec_l6Steps) (F_spec_l6Beside : Ft_spec_l6Beside) (m0 : Nat) (p0 : Int) (p1 : Int) (p2 : Int) (p3 : List D_A3) (p4 : Int) (p5 : Int) (p6 : Int) (p7 : List D_A3) (p8 : Int) (p9 : Int) (p10 : Int) (p11 : Int) (p12 : Int) (p13 : Int) (p14 : Int) (p15 : Int) (p16 : Int) (p17 : Int) (p18 : Int) (p19 : Int) (p20 : Int) (p21 : Int) (p22 : Int) (p23 : Int) (p24 : Int) (p25 : Int) (p26 : Int) (p27 : Int) (p28 : Int) (p29 : Int) (p30 : Int) : Option (denL R_spec_l11Painted) := loopF (X_spec_l11Painted n F_spec_l2Has F_spec_l6Steps F_spec_l6Beside) B_spec_l11Painted R_spec_l11Painted M_spec_l11Painted 3 [m0] [(.ver, .num 1), (.box 3, .box 0 false [.int .i64 p0, .int .i64 p1, .int .i64 p2, .imm T_A3 p3 (some 3)]), (.box 4, .box 0 false [.int .i64 p4, .int .i64 p5, .int .i64 p6, .imm T_A3 p7 (some 7)]), (.box 5, .box 0 false [.int .i64 p8, .int .i64 p9, .int .i64 p10]), (.box 8, .box 0 false [.int .i64 p11, .int .i64 p12, .int .i64 p13, .int .i64 p14, .int .i64 p15, .int .i64 p16, .int .i64 p17, .int .i64 p18, .int .i64 p19, .int .i64 p20, .int .i64 p21, .int .i64 p22, .int .i64 p23, .int .i64 p24, .int .i64 p25, .int .i64 p26, .int .i64 p27, .int .i64 p28]), (.tmp 3, .val false [.addr 3 0 0]), (.tmp 4, .val false [.addr 4 0 0]), (.tmp 5, .val false [.addr 5 0 0]), (.tmp 7, .val false [.int .i64 p29]), (.tmp 8, .val false [.addr 8 0 0]), (.tmp 9, .val false [.int .i64 p30])]
theorem e_spec_l11Painted (n : Nat) (F_spec_l2Has : Ft_spec_l2Has) (F_spec_l6Steps : Ft_spec_l6Steps) (F_spec_l6Beside : Ft_spec_l6Beside) (a0 : D_Heap) (a1 : D_Heap) (a2 : D_A3) : runF (X_spec_l11Painted n F_spec_l2Has F_spec_l6Steps F_spec_l6Beside) B_spec_l11Painted As_spec_l11Painted R_spec_l11Painted M_spec_l11Painted (a0, a1, a2, ()) = 
  Option.bind (F_spec_l6Steps (())) fun r0 =>
  L_spec_l11Painted_3 n F_spec_l2Has F_spec_l6Steps F_spec_l6Beside n a0.1 a0.2.1 a0.2.2.1 a0.2.2.2.1 a1.1 a1.2.1 a1.2.2.1 a1.2.2.2.1 a2.1 a2.2.1 a2.2.2.1 r0.1.1.1 r0.1.1.2.1 r0.1.1.2.2.1 r0.1.2.1.1 r0.1.2.1.2.1 r0.1.2.1.2.2.1 r0.1.2.2.1.1 r0.1.2.2.1.2.1 r0.1.2.2.1.2.2.1 r0.1.2.2.2.1.1 r0.1.2.2.2.1.2.1 r0.1.2.2.2.1.2.2.1 r0.1.2.2.2.2.1.1 r0.1.2.2.2.2.1.2.1 r0.1.2.2.2.2.1.2.2.1 r0.1.2.2.2.2.2.1.1 r0.1.2.2.2.2.2.1.2.1 r0.1.2.2.2.2.2.1.2.2.1 0 0 := by kernel_rfl
theorem e_spec_l11Painted_3 (n : Nat) (F_spec_l2Has : Ft_spec_l2Has) (F_spec_l6Steps : Ft_spec_l6Steps) (F_spec_l6Beside : Ft_spec_l6Beside) (m0 : Nat) (p0 : Int) (p1 : Int) (p2 : Int) (p3 : List D_A3) (p4 : Int) (p5 : Int) (p6 : Int) (p7 : List D_A3) (p8 : Int) (p9 : Int) (p10 : Int) (p11 : Int) (p12 : Int) (p13 : Int) (p14 : Int) (p15 : Int) (p16 : Int) (p17 : Int) (p18 : Int) (p19 : Int) (p20 : Int) (p21 : Int) (p22 : Int) (p23 : Int) (p24 : Int) (p25 : Int) (p26 : Int) (p27 : Int) (p28 : Int) (p29 : Int) (p30 : Int) : L_spec_l11Painted_3 n F_spec_l2Has F_spec_l6Steps F_spec_l6Beside (m0 + 1) p0 p1 p2 p3 p4 p5 p6 p7 p8 p9 p10 p11 p12 p13 p14 p15 p16 p17 p18 p19 p20 p21 p22 p23 p24 p25 p26 p27 p28 p29 p30 = 
  bif decide (p30 < 6) then
    bif inB p30 6 then
      Option.bind (F_spec_l6Beside ((p8, (p9, (p10, ()))), ((bif decide (p30 = (0 : Int)) then p11 else (bif decide (p30 = (1 : Int)) then p14 else (bif decide (p30 = (2 : Int)) then p17 else (bif decide (p30 = (3 : Int)) then p20 else (bif decide (p30 = (4 : Int)) then p23 else p26))))), ((bif decide (p30 = (0 : Int)) then p12 else (bif decide (p30 = (1 : Int)) then p15 else (bif decide (p30 = (2 : Int)) then p18 else (bif decide (p30 = (3 : Int)) then p21 else (bif decide (p30 = (4 : Int)) then p24 else p27))))), ((bif decide (p30 = (0 : Int)) then p13 else (bif decide (p30 = (1 : Int)) then p16 else (bif decide (p30 = (2 : Int)) then p19 else (bif decide (p30 = (3 : Int)) then p22 else (bif decide (p30 = (4 : Int)) then p25 else p28))))), ()))), ())) fun r2 =>
      Option.bind (F_spec_l2Has ((p0, (p1, (p2, (p3, ())))), r2.1, ())) fun r3 =>
      bif !r3.1 then
        Option.bind (F_spec_l2Has ((p4, (p5, (p6, (p7, ())))), r2.1, ())) fun r5 =>
        bif !r5.1 then
          L_spec_l11Painted_3 n F_spec_l2Has F_spec_l6Steps F_spec_l6Beside m0 p0 p1 p2 p3 p4 p5 p6 p7 p8 p9 p10 p11 p12 p13 p14 p15 p16 p17 p18 p19 p20 p21 p22 p23 p24 p25 p26 p27 p28 (IntKind.wrap .i64 (p29 + 1)) (IntKind.wrap .i64 (p30 + 1))
        else
          L_spec_l11Painted_3 n F_spec_l2Has F_spec_l6Steps F_spec_l6Beside m0 p0 p1 p2 p3 p4 p5 p6 p7 p8 p9 p10 p11 p12 p13 p14 p15 p16 p17 p18 p19 p20 p21 p22 p23 p24 p25 p26 p27 p28 p29 (IntKind.wrap .i64 (p30 + 1))
      else
        L_spec_l11Painted_3 n F_spec_l2Has F_spec_l6Steps F_spec_l6Beside m0 p0 p1 p2 p3 p4 p5 p6 p7 p8 p9 p10 p11 p12 p13 p14 p15 p16 p17 p18 p19 p20 p21 p22 p23 p24 p25 p26 p27 p28 p29 (IntKind.wrap .i64 (p30 + 1))
    else none
  else
    some (p29, ()) := by kernel_rfl
noncomputable def P_spec_l11Painted : Ft_spec_l11Painted := hid (runF (X_spec_l11Painted N P_spec_l2Has P_spec_l6Steps P_spec_l6Beside) B_spec_l11Painted As_spec_l11Painted R_spec_l11Painted M_spec_l11Painted)
theorem h_spec_l11Painted : P_spec_l11Painted = runF (X_spec_l11Painted N P_spec_l2Has P_spec_l6Steps P_spec_l6Beside) B_spec_l11Painted As_spec_l11Painted R_spec_l11Painted M_spec_l11Painted := hid_eq _
noncomputable def C_spec_l11Painted : Contract := ⟨As_spec_l11Painted, R_spec_l11Painted, M_spec_l11Painted, P_spec_l11Painted⟩
theorem s_spec_l11Painted : Sound Try.prog GG 37 C_spec_l11Painted := by
  unfold C_spec_l11Painted; rw [h_spec_l11Painted]
  exact sound_of_run (fn := Try.f37) hmix hstable (tyOK_of ttOK) (hglob (X_spec_l11Painted N P_spec_l2Has P_spec_l6Steps P_spec_l6Beside)) (conOK_of (X := X_spec_l11Painted N P_spec_l2Has P_spec_l6Steps P_spec_l6Beside) ⟨s_spec_l2Has, s_spec_l6Steps, s_spec_l6Beside, trivial⟩) (mconOK_of (X := X_spec_l11Painted N P_spec_l2Has P_spec_l6Steps P_spec_l6Beside) trivial) (by kernel_rfl) (by kernel_rfl) (by kernel_rfl) (by kernel_rfl) (by kernel_rfl) (of_decide_eq_true (by kernel_rfl))
noncomputable def l_spec_l11Painted_3 : Nat → Int → Int → Int → (List D_A3) → Int → Int → Int → (List D_A3) → Int → Int → Int → Int → Int → Int → Int → Int → Int → Int → Int → Int → Int → Int → Int → Int → Int → Int → Int → Int → Int → Int → Int → Option (denL R_spec_l11Painted) := hid (fun m0 p0 p1 p2 p3 p4 p5 p6 p7 p8 p9 p10 p11 p12 p13 p14 p15 p16 p17 p18 p19 p20 p21 p22 p23 p24 p25 p26 p27 p28 p29 p30 => L_spec_l11Painted_3 N P_spec_l2Has P_spec_l6Steps P_spec_l6Beside m0 p0 p1 p2 p3 p4 p5 p6 p7 p8 p9 p10 p11 p12 p13 p14 p15 p16 p17 p18 p19 p20 p21 p22 p23 p24 p25 p26 p27 p28 p29 p30)
theorem h_spec_l11Painted_3 : l_spec_l11Painted_3 = fun m0 p0 p1 p2 p3 p4 p5 p6 p7 p8 p9 p10 p11 p12 p13 p14 p15 p16 p17 p18 p19 p20 p21 p22 p23 p24 p25 p26 p27 p28 p29 p30 => L_spec_l11Painted_3 N P_spec_l2Has P_spec_l6Steps P_spec_l6Beside m0 p0 p1 p2 p3 p4 p5 p6 p7 p8 p9 p10 p11 p12 p13 p14 p15 p16 p17 p18 p19 p20 p21 p22 p23 p24 p25 p26 p27 p28 p29 p30 := hid_eq _
theorem p_spec_l11Painted (a0 : D_Heap) (a1 : D_Heap) (a2 : D_A3) : P_spec_l11Painted (a0, a1, a2, ()) = 
  Option.bind (P_spec_l6Steps (())) fun r0 =>
  l_spec_l11Painted_3 N a0.1 a0.2.1 a0.2.2.1 a0.2.2.2.1 a1.1 a1.2.1 a1.2.2.1 a1.2.2.2.1 a2.1 a2.2.1 a2.2.2.1 r0.1.1.1 r0.1.1.2.1 r0.1.1.2.2.1 r0.1.2.1.1 r0.1.2.1.2.1 r0.1.2.1.2.2.1 r0.1.2.2.1.1 r0.1.2.2.1.2.1 r0.1.2.2.1.2.2.1 r0.1.2.2.2.1.1 r0.1.2.2.2.1.2.1 r0.1.2.2.2.1.2.2.1 r0.1.2.2.2.2.1.1 r0.1.2.2.2.2.1.2.1 r0.1.2.2.2.2.1.2.2.1 r0.1.2.2.2.2.2.1.1 r0.1.2.2.2.2.2.1.2.1 r0.1.2.2.2.2.2.1.2.2.1 0 0 := by
  rewrite [h_spec_l11Painted, h_spec_l11Painted_3]
  exact e_spec_l11Painted N P_spec_l2Has P_spec_l6Steps P_spec_l6Beside a0 a1 a2
theorem q_spec_l11Painted_3 (m0 : Nat) (p0 : Int) (p1 : Int) (p2 : Int) (p3 : List D_A3) (p4 : Int) (p5 : Int) (p6 : Int) (p7 : List D_A3) (p8 : Int) (p9 : Int) (p10 : Int) (p11 : Int) (p12 : Int) (p13 : Int) (p14 : Int) (p15 : Int) (p16 : Int) (p17 : Int) (p18 : Int) (p19 : Int) (p20 : Int) (p21 : Int) (p22 : Int) (p23 : Int) (p24 : Int) (p25 : Int) (p26 : Int) (p27 : Int) (p28 : Int) (p29 : Int) (p30 : Int) : l_spec_l11Painted_3 (m0 + 1) p0 p1 p2 p3 p4 p5 p6 p7 p8 p9 p10 p11 p12 p13 p14 p15 p16 p17 p18 p19 p20 p21 p22 p23 p24 p25 p26 p27 p28 p29 p30 = 
  bif decide (p30 < 6) then
    bif inB p30 6 then
      Option.bind (P_spec_l6Beside ((p8, (p9, (p10, ()))), ((bif decide (p30 = (0 : Int)) then p11 else (bif decide (p30 = (1 : Int)) then p14 else (bif decide (p30 = (2 : Int)) then p17 else (bif decide (p30 = (3 : Int)) then p20 else (bif decide (p30 = (4 : Int)) then p23 else p26))))), ((bif decide (p30 = (0 : Int)) then p12 else (bif decide (p30 = (1 : Int)) then p15 else (bif decide (p30 = (2 : Int)) then p18 else (bif decide (p30 = (3 : Int)) then p21 else (bif decide (p30 = (4 : Int)) then p24 else p27))))), ((bif decide (p30 = (0 : Int)) then p13 else (bif decide (p30 = (1 : Int)) then p16 else (bif decide (p30 = (2 : Int)) then p19 else (bif decide (p30 = (3 : Int)) then p22 else (bif decide (p30 = (4 : Int)) then p25 else p28))))), ()))), ())) fun r2 =>
      Option.bind (P_spec_l2Has ((p0, (p1, (p2, (p3, ())))), r2.1, ())) fun r3 =>
      bif !r3.1 then
        Option.bind (P_spec_l2Has ((p4, (p5, (p6, (p7, ())))), r2.1, ())) fun r5 =>
        bif !r5.1 then
          l_spec_l11Painted_3 m0 p0 p1 p2 p3 p4 p5 p6 p7 p8 p9 p10 p11 p12 p13 p14 p15 p16 p17 p18 p19 p20 p21 p22 p23 p24 p25 p26 p27 p28 (IntKind.wrap .i64 (p29 + 1)) (IntKind.wrap .i64 (p30 + 1))
        else
          l_spec_l11Painted_3 m0 p0 p1 p2 p3 p4 p5 p6 p7 p8 p9 p10 p11 p12 p13 p14 p15 p16 p17 p18 p19 p20 p21 p22 p23 p24 p25 p26 p27 p28 p29 (IntKind.wrap .i64 (p30 + 1))
      else
        l_spec_l11Painted_3 m0 p0 p1 p2 p3 p4 p5 p6 p7 p8 p9 p10 p11 p12 p13 p14 p15 p16 p17 p18 p19 p20 p21 p22 p23 p24 p25 p26 p27 p28 p29 (IntKind.wrap .i64 (p30 + 1))
    else none
  else
    some (p29, ()) := by
  rewrite [h_spec_l11Painted_3]
  exact e_spec_l11Painted_3 N P_spec_l2Has P_spec_l6Steps P_spec_l6Beside m0 p0 p1 p2 p3 p4 p5 p6 p7 p8 p9 p10 p11 p12 p13 p14 p15 p16 p17 p18 p19 p20 p21 p22 p23 p24 p25 p26 p27 p28 p29 p30

/- 69: loop.example/g01166/spec.l2Made -/
abbrev As_spec_l2Made : List ATy := [.data true T_Heap, .data false (.sl T_A3)]
abbrev R_spec_l2Made : List (Bool × Ty) := [(true, T_Heap)]
abbrev M_spec_l2Made : List RMode := [.pass 4]
abbrev Ft_spec_l2Made : Type := D_Heap × (List D_A3) × Unit → Option (D_Heap × Unit)
noncomputable def X_spec_l2Made (n : Nat) : Ctx := { types := TT, globals := [], con := [], keep := [], results := [.cell 4 29], ntmps := 13, n := n }
noncomputable def B_spec_l2Made : Code := (Try.f69.body).getD .skip
theorem e_spec_l2Made (n : Nat) (a0 : D_Heap) (a1 : List D_A3) : runF (X_spec_l2Made n) B_spec_l2Made As_spec_l2Made R_spec_l2Made M_spec_l2Made (a0, a1, ()) = 
  some ((a0.1, (a0.2.1, (a0.2.2.1, (a1, ())))), ()) := by kernel_rfl
noncomputable def P_spec_l2Made : Ft_spec_l2Made := hid (runF (X_spec_l2Made N) B_spec_l2Made As_spec_l2Made R_spec_l2Made M_spec_l2Made)
theorem h_spec_l2Made : P_spec_l2Made = runF (X_spec_l2Made N) B_spec_l2Made As_spec_l2Made R_spec_l2Made M_spec_l2Made := hid_eq _
noncomputable def C_spec_l2Made : Contract := ⟨As_spec_l2Made, R_spec_l2Made, M_spec_l2Made, P_spec_l2Made⟩
theorem s_spec_l2Made : Sound Try.prog GG 69 C_spec_l2Made := by
  unfold C_spec_l2Made; rw [h_spec_l2Made]
  exact sound_of_run (fn := Try.f69) hmix hstable (tyOK_of ttOK) (hglob (X_spec_l2Made N)) (conOK_of (X := X_spec_l2Made N) trivial) (mconOK_of (X := X_spec_l2Made N) trivial) (by kernel_rfl) (by kernel_rfl) (by kernel_rfl) (by kernel_rfl) (by kernel_rfl) (of_decide_eq_true (by kernel_rfl))
theorem p_spec_l2Made (a0 : D_Heap) (a1 : List D_A3) : P_spec_l2Made (a0, a1, ()) = 
  some ((a0.1, (a0.2.1, (a0.2.2.1, (a1, ())))), ()) := by
  rewrite [h_spec_l2Made]
  exact e_spec_l2Made N a0 a1

/- 71: loop.example/g01166/spec.l2Empty -/
abbrev As_spec_l2Empty : List ATy := [.data false (.int .i64), .data false (.int .i64), .data false (.int .i64)]
abbrev R_spec_l2Empty : List (Bool × Ty) := [(true, T_Heap)]
abbrev M_spec_l2Empty : List RMode := [.own 25]
abbrev Ft_spec_l2Empty : Type := Int × Int × Int × Unit → Option (D_Heap × Unit)
noncomputable def X_spec_l2Empty (n : Nat) : Ctx := { types := TT, globals := [], con := [], keep := [], results := [.cell 6 29], ntmps := 12, n := n }
noncomputable def B_spec_l2Empty : Code := (Try.f71.body).getD .skip
theorem e_spec_l2Empty (n : Nat) (a0 : Int) (a1 : Int) (a2 : Int) : runF (X_spec_l2Empty n) B_spec_l2Empty As_spec_l2Empty R_spec_l2Empty M_spec_l2Empty (a0, a1, a2, ()) = 
  some ((a0, (a1, (a2, (([] : List D_A3), ())))), ()) := by kernel_rfl
noncomputable def P_spec_l2Empty : Ft_spec_l2Empty := hid (runF (X_spec_l2Empty N) B_spec_l2Empty As_spec_l2Empty R_spec_l2Empty M_spec_l2Empty)
theorem h_spec_l2Empty : P_spec_l2Empty = runF (X_spec_l2Empty N) B_spec_l2Empty As_spec_l2Empty R_spec_l2Empty M_spec_l2Empty := hid_eq _
noncomputable def C_spec_l2Empty : Contract := ⟨As_spec_l2Empty, R_spec_l2Empty, M_spec_l2Empty, P_spec_l2Empty⟩
theorem s_spec_l2Empty : Sound Try.prog GG 71 C_spec_l2Empty := by
  unfold C_spec_l2Empty; rw [h_spec_l2Empty]
  exact sound_of_run (fn := Try.f71) hmix hstable (tyOK_of ttOK) (hglob (X_spec_l2Empty N)) (conOK_of (X := X_spec_l2Empty N) trivial) (mconOK_of (X := X_spec_l2Empty N) trivial) (by kernel_rfl) (by kernel_rfl) (by kernel_rfl) (by kernel_rfl) (by kernel_rfl) (of_decide_eq_true (by kernel_rfl))
theorem p_spec_l2Empty (a0 : Int) (a1 : Int) (a2 : Int) : P_spec_l2Empty (a0, a1, a2, ()) = 
  some ((a0, (a1, (a2, (([] : List D_A3), ())))), ()) := by
  rewrite [h_spec_l2Empty]
  exact e_spec_l2Empty N a0 a1 a2

/- 85: loop.example/g01166/spec.l2Own -/
abbrev As_spec_l2Own : List ATy := [.data true T_Heap]
abbrev R_spec_l2Own : List (Bool × Ty) := [(true, T_Heap)]
abbrev M_spec_l2Own : List RMode := [.own 25]
abbrev Ft_spec_l2Own : Type := D_Heap × Unit → Option (D_Heap × Unit)
noncomputable def X_spec_l2Own (n : Nat) (F_spec_l2Made : Ft_spec_l2Made) : Ctx := { types := TT, globals := [], con := [(69, ⟨As_spec_l2Made, R_spec_l2Made, M_spec_l2Made, F_spec_l2Made⟩)], keep := [], results := [.cell 2 29], ntmps := 9, n := n }
noncomputable def B_spec_l2Own : Code := (Try.f85.body).getD .skip
theorem e_spec_l2Own (n : Nat) (F_spec_l2Made : Ft_spec_l2Made) (a0 : D_Heap) : runF (X_spec_l2Own n F_spec_l2Made) B_spec_l2Own As_spec_l2Own R_spec_l2Own M_spec_l2Own (a0, ()) = 
  bif (decide (((List.length ([] : List D_A3)) + (List.length a0.2.2.2.1)) * 24 ≤ 140737488355328) && decide (((List.length ([] : List D_A3)) + (List.length a0.2.2.2.1)) ≤ 140737488355328)) then
    Option.bind (F_spec_l2Made (a0, (([] : List D_A3) ++ a0.2.2.2.1), ())) fun r1 =>
    some ((r1.1.1, (r1.1.2.1, (r1.1.2.2.1, ((([] : List D_A3) ++ a0.2.2.2.1), ())))), ())
  else none := by kernel_rfl
noncomputable def P_spec_l2Own : Ft_spec_l2Own := hid (runF (X_spec_l2Own N P_spec_l2Made) B_spec_l2Own As_spec_l2Own R_spec_l2Own M_spec_l2Own)
theorem h_spec_l2Own : P_spec_l2Own = runF (X_spec_l2Own N P_spec_l2Made) B_spec_l2Own As_spec_l2Own R_spec_l2Own M_spec_l2Own := hid_eq _
noncomputable def C_spec_l2Own : Contract := ⟨As_spec_l2Own, R_spec_l2Own, M_spec_l2Own, P_spec_l2Own⟩
theorem s_spec_l2Own : Sound Try.prog GG 85 C_spec_l2Own := by
  unfold C_spec_l2Own; rw [h_spec_l2Own]
  exact sound_of_run (fn := Try.f85) hmix hstable (tyOK_of ttOK) (hglob (X_spec_l2Own N P_spec_l2Made)) (conOK_of (X := X_spec_l2Own N P_spec_l2Made) ⟨s_spec_l2Made, trivial⟩) (mconOK_of (X := X_spec_l2Own N P_spec_l2Made) trivial) (by kernel_rfl) (by kernel_rfl) (by kernel_rfl) (by kernel_rfl) (by kernel_rfl) (of_decide_eq_true (by kernel_rfl))
theorem p_spec_l2Own (a0 : D_Heap) : P_spec_l2Own (a0, ()) = 
  bif (decide (((List.length ([] : List D_A3)) + (List.length a0.2.2.2.1)) * 24 ≤ 140737488355328) && decide (((List.length ([] : List D_A3)) + (List.length a0.2.2.2.1)) ≤ 140737488355328)) then
    Option.bind (P_spec_l2Made (a0, (([] : List D_A3) ++ a0.2.2.2.1), ())) fun r1 =>
    some ((r1.1.1, (r1.1.2.1, (r1.1.2.2.1, ((([] : List D_A3) ++ a0.2.2.2.1), ())))), ())
  else none := by
  rewrite [h_spec_l2Own]
  exact e_spec_l2Own N P_spec_l2Made a0

/- 87: loop.example/g01166/spec.l2With -/
abbrev As_spec_l2With : List ATy := [.data true T_Heap, .data true T_A3]
abbrev R_spec_l2With : List (Bool × Ty) := [(true, T_Heap)]
abbrev M_spec_l2With : List RMode := [.own 25]
abbrev Ft_spec_l2With : Type := D_Heap × D_A3 × Unit → Option (D_Heap × Unit)
noncomputable def X_spec_l2With (n : Nat) (F_spec_l2Made : Ft_spec_l2Made) (F_spec_l2Before : Ft_spec_l2Before) (F_spec_l2Own : Ft_spec_l2Own) : Ctx := { types := TT, globals := [], con := [(69, ⟨As_spec_l2Made, R_spec_l2Made, M_spec_l2Made, F_spec_l2Made⟩), (80, ⟨As_spec_l2Before, R_spec_l2Before, M_spec_l2Before, F_spec_l2Before⟩), (85, ⟨As_spec_l2Own, R_spec_l2Own, M_spec_l2Own, F_spec_l2Own⟩)], keep := [(2, ⟨[.box 2, .box 3, .box 4, .tmp 2, .tmp 3, .tmp 4, .tmp 5], []⟩)], results := [.cell 4 29], ntmps := 54, n := n }
noncomputable def B_spec_l2With : Code := (Try.f87.body).getD .skip
noncomputable def L_spec_l2With_2 (n : Nat) (F_spec_l2Made : Ft_spec_l2Made) (F_spec_l2Before : Ft_spec_l2Before) (F_spec_l2Own : Ft_spec_l2Own) (m0 : Nat) (p0 : Int) (p1 : Int) (p2 : Int) (p3 : List D_A3) (p4 : Int) (p5 : Int) (p6 : Int) (p7 : Int) (p8 : Int) (p9 : Int) (p10 : List D_A3) (p11 : Int) : Option (denL R_spec_l2With) := loopF (X_spec_l2With n F_spec_l2Made F_spec_l2Before F_spec_l2Own) B_spec_l2With R_spec_l2With M_spec_l2With 2 [m0] [(.ver, .num 1), (.box 2, .box 0 false [.int .i64 p0, .int .i64 p1, .int .i64 p2, .imm T_A3 p3 (some 3)]), (.box 3, .box 0 false [.int .i64 p4, .int .i64 p5, .int .i64 p6]), (.box 4, .box 0 false [.int .i64 p7, .int .i64 p8, .int .i64 p9, .own 25 T_A3 0 p10]), (.tmp 2, .val false [.addr 2 0 0]), (.tmp 3, .val false [.addr 3 0 0]), (.tmp 4, .val false [.addr 4 0 0]), (.tmp 5, .val false [.int .i64 p11])]
theorem e_spec_l2With (n : Nat) (F_spec_l2Made : Ft_spec_l2Made) (F_spec_l2Before : Ft_spec_l2Before) (F_spec_l2Own : Ft_spec_l2Own) (a0 : D_Heap) (a1 : D_A3) : runF (X_spec_l2With n F_spec_l2Made F_spec_l2Before F_spec_l2Own) B_spec_l2With As_spec_l2With R_spec_l2With M_spec_l2With (a0, a1, ()) = 
  L_spec_l2With_2 n F_spec_l2Made F_spec_l2Before F_spec_l2Own n a0.1 a0.2.1 a0.2.2.1 a0.2.2.2.1 a1.1 a1.2.1 a1.2.2.1 0 0 0 ([] : List D_A3) 0 := by kernel_rfl
theorem e_spec_l2With_2 (n : Nat) (F_spec_l2Made : Ft_spec_l2Made) (F_spec_l2Before : Ft_spec_l2Before) (F_spec_l2Own : Ft_spec_l2Own) (m0 : Nat) (p0 : Int) (p1 : Int) (p2 : Int) (p3 : List D_A3) (p4 : Int) (p5 : Int) (p6 : Int) (p7 : Int) (p8 : Int) (p9 : Int) (p10 : List D_A3) (p11 : Int) : L_spec_l2With_2 n F_spec_l2Made F_spec_l2Before F_spec_l2Own (m0 + 1) p0 p1 p2 p3 p4 p5 p6 p7 p8 p9 p10 p11 = 
  bif decide (p11 < (List.length p3 : Int)) then
    bif inB p11 (List.length p3) then
      Option.bind (F_spec_l2Before ((nth T_A3 p3 p11), (p4, (p5, (p6, ()))), ())) fun r2 =>
      bif r2.1 then
        L_spec_l2With_2 n F_spec_l2Made F_spec_l2Before F_spec_l2Own m0 p0 p1 p2 p3 p4 p5 p6 p7 p8 p9 p10 (IntKind.wrap .i64 (p11 + 1))
      else
        bif decide (p11 < (List.length p3 : Int)) then
          bif inB p11 (List.length p3) then
            bif (decide (((nth T_A3 p3 p11)).1 = p4) && (decide ((((nth T_A3 p3 p11)).2).1 = p5) && (decide (((((nth T_A3 p3 p11)).2).2).1 = p6) && true))) then
              Option.bind (F_spec_l2Own ((p0, (p1, (p2, (p3, ())))), ())) fun r7 =>
              some (r7.1, ())
            else
              bif (decide ((0 : Int) ≤ 0) && decide ((0 : Int) ≤ p11) && decide (p11 ≤ (List.length p3 : Int))) then
                bif (decide (((List.length ([] : List D_A3)) + (List.length (cut p3 0 p11))) * 24 ≤ 140737488355328) && decide (((List.length ([] : List D_A3)) + (List.length (cut p3 0 p11))) ≤ 140737488355328)) then
                  bif (decide (((List.length (([] : List D_A3) ++ (cut p3 0 p11))) + (List.length ([(p4, (p5, (p6, ())))] : List D_A3))) * 24 ≤ 140737488355328) && decide (((List.length (([] : List D_A3) ++ (cut p3 0 p11))) + (List.length ([(p4, (p5, (p6, ())))] : List D_A3))) ≤ 140737488355328)) then
                    bif (decide ((0 : Int) ≤ p11) && decide (p11 ≤ (List.length p3 : Int)) && decide ((List.length p3 : Int) ≤ (List.length p3 : Int))) then
                      bif (decide (((List.length ((([] : List D_A3) ++ (cut p3 0 p11)) ++ ([(p4, (p5, (p6, ())))] : List D_A3))) + (List.length (cut p3 p11 (List.length p3 : Int)))) * 24 ≤ 140737488355328) && decide (((List.length ((([] : List D_A3) ++ (cut p3 0 p11)) ++ ([(p4, (p5, (p6, ())))] : List D_A3))) + (List.length (cut p3 p11 (List.length p3 : Int)))) ≤ 140737488355328)) then
                        Option.bind (F_spec_l2Made ((p0, (p1, (p2, (p3, ())))), (((([] : List D_A3) ++ (cut p3 0 p11)) ++ ([(p4, (p5, (p6, ())))] : List D_A3)) ++ (cut p3 p11 (List.length p3 : Int))), ())) fun r12 =>
                        some ((r12.1.1, (r12.1.2.1, (r12.1.2.2.1, ((((([] : List D_A3) ++ (cut p3 0 p11)) ++ ([(p4, (p5, (p6, ())))] : List D_A3)) ++ (cut p3 p11 (List.length p3 : Int))), ())))), ())
                      else none
                    else none
                  else none
                else none
              else none
          else none
        else
          bif (decide ((0 : Int) ≤ 0) && decide ((0 : Int) ≤ p11) && decide (p11 ≤ (List.length p3 : Int))) then
            bif (decide (((List.length ([] : List D_A3)) + (List.length (cut p3 0 p11))) * 24 ≤ 140737488355328) && decide (((List.length ([] : List D_A3)) + (List.length (cut p3 0 p11))) ≤ 140737488355328)) then
              bif (decide (((List.length (([] : List D_A3) ++ (cut p3 0 p11))) + (List.length ([(p4, (p5, (p6, ())))] : List D_A3))) * 24 ≤ 140737488355328) && decide (((List.length (([] : List D_A3) ++ (cut p3 0 p11))) + (List.length ([(p4, (p5, (p6, ())))] : List D_A3))) ≤ 140737488355328)) then
                bif (decide ((0 : Int) ≤ p11) && decide (p11 ≤ (List.length p3 : Int)) && decide ((List.length p3 : Int) ≤ (List.length p3 : Int))) then
                  bif (decide (((List.length ((([] : List D_A3) ++ (cut p3 0 p11)) ++ ([(p4, (p5, (p6, ())))] : List D_A3))) + (List.length (cut p3 p11 (List.length p3 : Int)))) * 24 ≤ 140737488355328) && decide (((List.length ((([] : List D_A3) ++ (cut p3 0 p11)) ++ ([(p4, (p5, (p6, ())))] : List D_A3))) + (List.length (cut p3 p11 (List.length p3 : Int)))) ≤ 140737488355328)) then
                    Option.bind (F_spec_l2Made ((p0, (p1, (p2, (p3, ())))), (((([] : List D_A3) ++ (cut p3 0 p11)) ++ ([(p4, (p5, (p6, ())))] : List D_A3)) ++ (cut p3 p11 (List.length p3 : Int))), ())) fun r10 =>
                    some ((r10.1.1, (r10.1.2.1, (r10.1.2.2.1, ((((([] : List D_A3) ++ (cut p3 0 p11)) ++ ([(p4, (p5, (p6, ())))] : List D_A3)) ++ (cut p3 p11 (List.length p3 : Int))), ())))), ())
                  else none
                else none
              else none
            else none
          else none
    else none
  else
    bif decide (p11 < (List.length p3 : Int)) then
      bif inB p11 (List.length p3) then
        bif (decide (((nth T_A3 p3 p11)).1 = p4) && (decide ((((nth T_A3 p3 p11)).2).1 = p5) && (decide (((((nth T_A3 p3 p11)).2).2).1 = p6) && true))) then
          Option.bind (F_spec_l2Own ((p0, (p1, (p2, (p3, ())))), ())) fun r4 =>
          some (r4.1, ())
        else
          bif (decide ((0 : Int) ≤ 0) && decide ((0 : Int) ≤ p11) && decide (p11 ≤ (List.length p3 : Int))) then
            bif (decide (((List.length ([] : List D_A3)) + (List.length (cut p3 0 p11))) * 24 ≤ 140737488355328) && decide (((List.length ([] : List D_A3)) + (List.length (cut p3 0 p11))) ≤ 140737488355328)) then
              bif (decide (((List.length (([] : List D_A3) ++ (cut p3 0 p11))) + (List.length ([(p4, (p5, (p6, ())))] : List D_A3))) * 24 ≤ 140737488355328) && decide (((List.length (([] : List D_A3) ++ (cut p3 0 p11))) + (List.length ([(p4, (p5, (p6, ())))] : List D_A3))) ≤ 140737488355328)) then
                bif (decide ((0 : Int) ≤ p11) && decide (p11 ≤ (List.length p3 : Int)) && decide ((List.length p3 : Int) ≤ (List.length p3 : Int))) then
                  bif (decide (((List.length ((([] : List D_A3) ++ (cut p3 0 p11)) ++ ([(p4, (p5, (p6, ())))] : List D_A3))) + (List.length (cut p3 p11 (List.length p3 : Int)))) * 24 ≤ 140737488355328) && decide (((List.length ((([] : List D_A3) ++ (cut p3 0 p11)) ++ ([(p4, (p5, (p6, ())))] : List D_A3))) + (List.length (cut p3 p11 (List.length p3 : Int)))) ≤ 140737488355328)) then
                    Option.bind (F_spec_l2Made ((p0, (p1, (p2, (p3, ())))), (((([] : List D_A3) ++ (cut p3 0 p11)) ++ ([(p4, (p5, (p6, ())))] : List D_A3)) ++ (cut p3 p11 (List.length p3 : Int))), ())) fun r9 =>
                    some ((r9.1.1, (r9.1.2.1, (r9.1.2.2.1, ((((([] : List D_A3) ++ (cut p3 0 p11)) ++ ([(p4, (p5, (p6, ())))] : List D_A3)) ++ (cut p3 p11 (List.length p3 : Int))), ())))), ())
                  else none
                else none
              else none
            else none
          else none
      else none
    else
      bif (decide ((0 : Int) ≤ 0) && decide ((0 : Int) ≤ p11) && decide (p11 ≤ (List.length p3 : Int))) then
        bif (decide (((List.length ([] : List D_A3)) + (List.length (cut p3 0 p11))) * 24 ≤ 140737488355328) && decide (((List.length ([] : List D_A3)) + (List.length (cut p3 0 p11))) ≤ 140737488355328)) then
          bif (decide (((List.length (([] : List D_A3) ++ (cut p3 0 p11))) + (List.length ([(p4, (p5, (p6, ())))] : List D_A3))) * 24 ≤ 140737488355328) && decide (((List.length (([] : List D_A3) ++ (cut p3 0 p11))) + (List.length ([(p4, (p5, (p6, ())))] : List D_A3))) ≤ 140737488355328)) then
            bif (decide ((0 : Int) ≤ p11) && decide (p11 ≤ (List.length p3 : Int)) && decide ((List.length p3 : Int) ≤ (List.length p3 : Int))) then
              bif (decide (((List.length ((([] : List D_A3) ++ (cut p3 0 p11)) ++ ([(p4, (p5, (p6, ())))] : List D_A3))) + (List.length (cut p3 p11 (List.length p3 : Int)))) * 24 ≤ 140737488355328) && decide (((List.length ((([] : List D_A3) ++ (cut p3 0 p11)) ++ ([(p4, (p5, (p6, ())))] : List D_A3))) + (List.length (cut p3 p11 (List.length p3 : Int)))) ≤ 140737488355328)) then
                Option.bind (F_spec_l2Made ((p0, (p1, (p2, (p3, ())))), (((([] : List D_A3) ++ (cut p3 0 p11)) ++ ([(p4, (p5, (p6, ())))] : List D_A3)) ++ (cut p3 p11 (List.length p3 : Int))), ())) fun r7 =>
                some ((r7.1.1, (r7.1.2.1, (r7.1.2.2.1, ((((([] : List D_A3) ++ (cut p3 0 p11)) ++ ([(p4, (p5, (p6, ())))] : List D_A3)) ++ (cut p3 p11 (List.length p3 : Int))), ())))), ())
              else none
            else none
          else none
        else none
      else none := by kernel_rfl
noncomputable def P_spec_l2With : Ft_spec_l2With := hid (runF (X_spec_l2With N P_spec_l2Made P_spec_l2Before P_spec_l2Own) B_spec_l2With As_spec_l2With R_spec_l2With M_spec_l2With)
theorem h_spec_l2With : P_spec_l2With = runF (X_spec_l2With N P_spec_l2Made P_spec_l2Before P_spec_l2Own) B_spec_l2With As_spec_l2With R_spec_l2With M_spec_l2With := hid_eq _
noncomputable def C_spec_l2With : Contract := ⟨As_spec_l2With, R_spec_l2With, M_spec_l2With, P_spec_l2With⟩
theorem s_spec_l2With : Sound Try.prog GG 87 C_spec_l2With := by
  unfold C_spec_l2With; rw [h_spec_l2With]
  exact sound_of_run (fn := Try.f87) hmix hstable (tyOK_of ttOK) (hglob (X_spec_l2With N P_spec_l2Made P_spec_l2Before P_spec_l2Own)) (conOK_of (X := X_spec_l2With N P_spec_l2Made P_spec_l2Before P_spec_l2Own) ⟨s_spec_l2Made, s_spec_l2Before, s_spec_l2Own, trivial⟩) (mconOK_of (X := X_spec_l2With N P_spec_l2Made P_spec_l2Before P_spec_l2Own) trivial) (by kernel_rfl) (by kernel_rfl) (by kernel_rfl) (by kernel_rfl) (by kernel_rfl) (of_decide_eq_true (by kernel_rfl))
noncomputable def l_spec_l2With_2 : Nat → Int → Int → Int → (List D_A3) → Int → Int → Int → Int → Int → Int → (List D_A3) → Int → Option (denL R_spec_l2With) := hid (fun m0 p0 p1 p2 p3 p4 p5 p6 p7 p8 p9 p10 p11 => L_spec_l2With_2 N P_spec_l2Made P_spec_l2Before P_spec_l2Own m0 p0 p1 p2 p3 p4 p5 p6 p7 p8 p9 p10 p11)
theorem h_spec_l2With_2 : l_spec_l2With_2 = fun m0 p0 p1 p2 p3 p4 p5 p6 p7 p8 p9 p10 p11 => L_spec_l2With_2 N P_spec_l2Made P_spec_l2Before P_spec_l2Own m0 p0 p1 p2 p3 p4 p5 p6 p7 p8 p9 p10 p11 := hid_eq _
theorem p_spec_l2With (a0 : D_Heap) (a1 : D_A3) : P_spec_l2With (a0, a1, ()) = 
  l_spec_l2With_2 N a0.1 a0.2.1 a0.2.2.1 a0.2.2.2.1 a1.1 a1.2.1 a1.2.2.1 0 0 0 ([] : List D_A3) 0 := by
  rewrite [h_spec_l2With, h_spec_l2With_2]
  exact e_spec_l2With N P_spec_l2Made P_spec_l2Before P_spec_l2Own a0 a1
theorem q_spec_l2With_2 (m0 : Nat) (p0 : Int) (p1 : Int) (p2 : Int) (p3 : List D_A3) (p4 : Int) (p5 : Int) (p6 : Int) (p7 : Int) (p8 : Int) (p9 : Int) (p10 : List D_A3) (p11 : Int) : l_spec_l2With_2 (m0 + 1) p0 p1 p2 p3 p4 p5 p6 p7 p8 p9 p10 p11 = 
  bif decide (p11 < (List.length p3 : Int)) then
    bif inB p11 (List.length p3) then
      Option.bind (P_spec_l2Before ((nth T_A3 p3 p11), (p4, (p5, (p6, ()))), ())) fun r2 =>
      bif r2.1 then
        l_spec_l2With_2 m0 p0 p1 p2 p3 p4 p5 p6 p7 p8 p9 p10 (IntKind.wrap .i64 (p11 + 1))
      else
        bif decide (p11 < (List.length p3 : Int)) then
          bif inB p11 (List.length p3) then
            bif (decide (((nth T_A3 p3 p11)).1 = p4) && (decide ((((nth T_A3 p3 p11)).2).1 = p5) && (decide (((((nth T_A3 p3 p11)).2).2).1 = p6) && true))) then
              Option.bind (P_spec_l2Own ((p0, (p1, (p2, (p3, ())))), ())) fun r7 =>
              some (r7.1, ())
            else
              bif (decide ((0 : Int) ≤ 0) && decide ((0 : Int) ≤ p11) && decide (p11 ≤ (List.length p3 : Int))) then
                bif (decide (((List.length ([] : List D_A3)) + (List.length (cut p3 0 p11))) * 24 ≤ 140737488355328) && decide (((List.length ([] : List D_A3)) + (List.length (cut p3 0 p11))) ≤ 140737488355328)) then
                  bif (decide (((List.length (([] : List D_A3) ++ (cut p3 0 p11))) + (List.length ([(p4, (p5, (p6, ())))] : List D_A3))) * 24 ≤ 140737488355328) && decide (((List.length (([] : List D_A3) ++ (cut p3 0 p11))) + (List.length ([(p4, (p5, (p6, ())))] : List D_A3))) ≤ 140737488355328)) then
                    bif (decide ((0 : Int) ≤ p11) && decide (p11 ≤ (List.length p3 : Int)) && decide ((List.length p3 : Int) ≤ (List.length p3 : Int))) then
                      bif (decide (((List.length ((([] : List D_A3) ++ (cut p3 0 p11)) ++ ([(p4, (p5, (p6, ())))] : List D_A3))) + (List.length (cut p3 p11 (List.length p3 : Int)))) * 24 ≤ 140737488355328) && decide (((List.length ((([] : List D_A3) ++ (cut p3 0 p11)) ++ ([(p4, (p5, (p6, ())))] : List D_A3))) + (List.length (cut p3 p11 (List.length p3 : Int)))) ≤ 140737488355328)) then
                        Option.bind (P_spec_l2Made ((p0, (p1, (p2, (p3, ())))), (((([] : List D_A3) ++ (cut p3 0 p11)) ++ ([(p4, (p5, (p6, ())))] : List D_A3)) ++ (cut p3 p11 (List.length p3 : Int))), ())) fun r12 =>
                        some ((r12.1.1, (r12.1.2.1, (r12.1.2.2.1, ((((([] : List D_A3) ++ (cut p3 0 p11)) ++ ([(p4, (p5, (p6, ())))] : List D_A3)) ++ (cut p3 p11 (List.length p3 : Int))), ())))), ())
                      else none
                    else none
                  else none
                else none
              else none
          else none
        else
          bif (decide ((0 : Int) ≤ 0) && decide ((0 : Int) ≤ p11) && decide (p11 ≤ (List.length p3 : Int))) then
            bif (decide (((List.length ([] : List D_A3)) + (List.length (cut p3 0 p11))) * 24 ≤ 140737488355328) && decide (((List.length ([] : List D_A3)) + (List.length (cut p3 0 p11))) ≤ 140737488355328)) then
              bif (decide (((List.length (([] : List D_A3) ++ (cut p3 0 p11))) + (List.length ([(p4, (p5, (p6, ())))] : List D_A3))) * 24 ≤ 140737488355328) && decide (((List.length (([] : List D_A3) ++ (cut p3 0 p11))) + (List.length ([(p4, (p5, (p6, ())))] : List D_A3))) ≤ 140737488355328)) then
                bif (decide ((0 : Int) ≤ p11) && decide (p11 ≤ (List.length p3 : Int)) && decide ((List.length p3 : Int) ≤ (List.length p3 : Int))) then
                  bif (decide (((List.length ((([] : List D_A3) ++ (cut p3 0 p11)) ++ ([(p4, (p5, (p6, ())))] : List D_A3))) + (List.length (cut p3 p11 (List.length p3 : Int)))) * 24 ≤ 140737488355328) && decide (((List.length ((([] : List D_A3) ++ (cut p3 0 p11)) ++ ([(p4, (p5, (p6, ())))] : List D_A3))) + (List.length (cut p3 p11 (List.length p3 : Int)))) ≤ 140737488355328)) then
                    Option.bind (P_spec_l2Made ((p0, (p1, (p2, (p3, ())))), (((([] : List D_A3) ++ (cut p3 0 p11)) ++ ([(p4, (p5, (p6, ())))] : List D_A3)) ++ (cut p3 p11 (List.length p3 : Int))), ())) fun r10 =>
                    some ((r10.1.1, (r10.1.2.1, (r10.1.2.2.1, ((((([] : List D_A3) ++ (cut p3 0 p11)) ++ ([(p4, (p5, (p6, ())))] : List D_A3)) ++ (cut p3 p11 (List.length p3 : Int))), ())))), ())
                  else none
                else none
              else none
            else none
          else none
    else none
  else
    bif decide (p11 < (List.length p3 : Int)) then
      bif inB p11 (List.length p3) then
        bif (decide (((nth T_A3 p3 p11)).1 = p4) && (decide ((((nth T_A3 p3 p11)).2).1 = p5) && (decide (((((nth T_A3 p3 p11)).2).2).1 = p6) && true))) then
          Option.bind (P_spec_l2Own ((p0, (p1, (p2, (p3, ())))), ())) fun r4 =>
          some (r4.1, ())
        else
          bif (decide ((0 : Int) ≤ 0) && decide ((0 : Int) ≤ p11) && decide (p11 ≤ (List.length p3 : Int))) then
            bif (decide (((List.length ([] : List D_A3)) + (List.length (cut p3 0 p11))) * 24 ≤ 140737488355328) && decide (((List.length ([] : List D_A3)) + (List.length (cut p3 0 p11))) ≤ 140737488355328)) then
              bif (decide (((List.length (([] : List D_A3) ++ (cut p3 0 p11))) + (List.length ([(p4, (p5, (p6, ())))] : List D_A3))) * 24 ≤ 140737488355328) && decide (((List.length (([] : List D_A3) ++ (cut p3 0 p11))) + (List.length ([(p4, (p5, (p6, ())))] : List D_A3))) ≤ 140737488355328)) then
                bif (decide ((0 : Int) ≤ p11) && decide (p11 ≤ (List.length p3 : Int)) && decide ((List.length p3 : Int) ≤ (List.length p3 : Int))) then
                  bif (decide (((List.length ((([] : List D_A3) ++ (cut p3 0 p11)) ++ ([(p4, (p5, (p6, ())))] : List D_A3))) + (List.length (cut p3 p11 (List.length p3 : Int)))) * 24 ≤ 140737488355328) && decide (((List.length ((([] : List D_A3) ++ (cut p3 0 p11)) ++ ([(p4, (p5, (p6, ())))] : List D_A3))) + (List.length (cut p3 p11 (List.length p3 : Int)))) ≤ 140737488355328)) then
                    Option.bind (P_spec_l2Made ((p0, (p1, (p2, (p3, ())))), (((([] : List D_A3) ++ (cut p3 0 p11)) ++ ([(p4, (p5, (p6, ())))] : List D_A3)) ++ (cut p3 p11 (List.length p3 : Int))), ())) fun r9 =>
                    some ((r9.1.1, (r9.1.2.1, (r9.1.2.2.1, ((((([] : List D_A3) ++ (cut p3 0 p11)) ++ ([(p4, (p5, (p6, ())))] : List D_A3)) ++ (cut p3 p11 (List.length p3 : Int))), ())))), ())
                  else none
                else none
              else none
            else none
          else none
      else none
    else
      bif (decide ((0 : Int) ≤ 0) && decide ((0 : Int) ≤ p11) && decide (p11 ≤ (List.length p3 : Int))) then
        bif (decide (((List.length ([] : List D_A3)) + (List.length (cut p3 0 p11))) * 24 ≤ 140737488355328) && decide (((List.length ([] : List D_A3)) + (List.length (cut p3 0 p11))) ≤ 140737488355328)) then
          bif (decide (((List.length (([] : List D_A3) ++ (cut p3 0 p11))) + (List.length ([(p4, (p5, (p6, ())))] : List D_A3))) * 24 ≤ 140737488355328) && decide (((List.length (([] : List D_A3) ++ (cut p3 0 p11))) + (List.length ([(p4, (p5, (p6, ())))] : List D_A3))) ≤ 140737488355328)) then
            bif (decide ((0 : Int) ≤ p11) && decide (p11 ≤ (List.length p3 : Int)) && decide ((List.length p3 : Int) ≤ (List.length p3 : Int))) then
              bif (decide (((List.length ((([] : List D_A3) ++ (cut p3 0 p11)) ++ ([(p4, (p5, (p6, ())))] : List D_A3))) + (List.length (cut p3 p11 (List.length p3 : Int)))) * 24 ≤ 140737488355328) && decide (((List.length ((([] : List D_A3) ++ (cut p3 0 p11)) ++ ([(p4, (p5, (p6, ())))] : List D_A3))) + (List.length (cut p3 p11 (List.length p3 : Int)))) ≤ 140737488355328)) then
                Option.bind (P_spec_l2Made ((p0, (p1, (p2, (p3, ())))), (((([] : List D_A3) ++ (cut p3 0 p11)) ++ ([(p4, (p5, (p6, ())))] : List D_A3)) ++ (cut p3 p11 (List.length p3 : Int))), ())) fun r7 =>
                some ((r7.1.1, (r7.1.2.1, (r7.1.2.2.1, ((((([] : List D_A3) ++ (cut p3 0 p11)) ++ ([(p4, (p5, (p6, ())))] : List D_A3)) ++ (cut p3 p11 (List.length p3 : Int))), ())))), ())
              else none
            else none
          else none
        else none
      else none := by
  rewrite [h_spec_l2With_2]
  exact e_spec_l2With_2 N P_spec_l2Made P_spec_l2Before P_spec_l2Own m0 p0 p1 p2 p3 p4 p5 p6 p7 p8 p9 p10 p11

/- 100: loop.example/g01166/spec.l2All -/
abbrev As_spec_l2All : List ATy := [.data true T_Heap]
abbrev R_spec_l2All : List (Bool × Ty) := [(false, (.sl T_A3))]
abbrev M_spec_l2All : List RMode := [.own 25]
abbrev Ft_spec_l2All : Type := D_Heap × Unit → Option ((List D_A3) × Unit)
noncomputable def X_spec_l2All (n : Nat) : Ctx := { types := TT, globals := [], con := [], keep := [(3, ⟨[.box 1, .tmp 1, .tmp 3, .tmp 4], []⟩), (6, ⟨[.box 1, .tmp 1, .tmp 3, .tmp 4, .tmp 5], []⟩), (9, ⟨[.box 1, .tmp 1, .tmp 3, .tmp 4, .tmp 5, .tmp 6], []⟩)], results := [.tmp 2], ntmps := 34, n := n }
noncomputable def B_spec_l2All : Code := (Try.f100.body).getD .skip
noncomputable def L_spec_l2All_3 (n : Nat) (m0 : Nat) (p0 : Int) (p1 : Int) (p2 : Int) (p3 : List D_A3) (p4 : List D_A3) (p5 : Int) : Option (denL R_spec_l2All) := loopF (X_spec_l2All n) B_spec_l2All R_spec_l2All M_spec_l2All 3 [m0] [(.ver, .num 1), (.box 1, .box 0 false [.int .i64 p0, .int .i64 p1, .int .i64 p2, .imm T_A3 p3 (some 3)]), (.tmp 1, .val false [.addr 1 0 0]), (.tmp 3, .val false [.own 25 T_A3 0 p4]), (.tmp 4, .val false [.int .i64 p5])]
noncomputable def L_spec_l2All_6 (n : Nat) (m0 m1 : Nat) (p0 : Int) (p1 : Int) (p2 : Int) (p3 : List D_A3) (p4 : List D_A3) (p5 : Int) (p6 : Int) : Option (denL R_spec_l2All) := loopF (X_spec_l2All n) B_spec_l2All R_spec_l2All M_spec_l2All 6 [m0, m1] [(.ver, .num 1), (.box 1, .box 0 false [.int .i64 p0, .int .i64 p1, .int .i64 p2, .imm T_A3 p3 (some 3)]), (.tmp 1, .val false [.addr 1 0 0]), (.tmp 3, .val false [.own 25 T_A3 0 p4]), (.tmp 4, .val false [.int .i64 p5]), (.tmp 5, .val false [.int .i64 p6])]
noncomputable def L_spec_l2All_9 (n : Nat) (m0 m1 m2 : Nat) (p0 : Int) (p1 : Int) (p2 : Int) (p3 : List D_A3) (p4 : List D_A3) (p5 : Int) (p6 : Int) (p7 : Int) : Option (denL R_spec_l2All) := loopF (X_spec_l2All n) B_spec_l2All R_spec_l2All M_spec_l2All 9 [m0, m1, m2] [(.ver, .num 1), (.box 1, .box 0 false [.int .i64 p0, .int .i64 p1, .int .i64 p2, .imm T_A3 p3 (some 3)]), (.tmp 1, .val false [.addr 1 0 0]), (.tmp 3, .val false [.own 25 T_A3 0 p4]), (.tmp 4, .val false [.int .i64 p5]), (.tmp 5, .val false [.int .i64 p6]), (.tmp 6, .val false [.int .i64 p7])]
theorem e_spec_l2All (n : Nat) (a0 : D_Heap) : runF (X_spec_l2All n) B_spec_l2All As_spec_l2All R_spec_l2All M_spec_l2All (a0, ()) = 
  L_spec_l2All_3 n n a0.1 a0.2.1 a0.2.2.1 a0.2.2.2.1 ([] : List D_A3) 0 := by kernel_rfl
theorem e_spec_l2All_3 (n : Nat) (m0 : Nat) (p0 : Int) (p1 : Int) (p2 : Int) (p3 : List D_A3) (p4 : List D_A3) (p5 : Int) : L_spec_l2All_3 n (m0 + 1) p0 p1 p2 p3 p4 p5 = 
  bif decide (p5 < p0) then
    L_spec_l2All_6 n m0 n p0 p1 p2 p3 p4 p5 0
  else
    some (p4, ()) := by kernel_rfl
theorem e_spec_l2All_6 (n : Nat) (m0 m1 : Nat) (p0 : Int) (p1 : Int) (p2 : Int) (p3 : List D_A3) (p4 : List D_A3) (p5 : Int) (p6 : Int) : L_spec_l2All_6 n m0 (m1 + 1) p0 p1 p2 p3 p4 p5 p6 = 
  bif decide (p6 < p1) then
    L_spec_l2All_9 n m0 m1 n p0 p1 p2 p3 p4 p5 p6 0
  else
    L_spec_l2All_3 n m0 p0 p1 p2 p3 p4 (IntKind.wrap .i64 (p5 + 1)) := by kernel_rfl
theorem e_spec_l2All_9 (n : Nat) (m0 m1 m2 : Nat) (p0 : Int) (p1 : Int) (p2 : Int) (p3 : List D_A3) (p4 : List D_A3) (p5 : Int) (p6 : Int) (p7 : Int) : L_spec_l2All_9 n m0 m1 (m2 + 1) p0 p1 p2 p3 p4 p5 p6 p7 = 
  bif decide (p7 < p2) then
    bif (decide (((List.length p4) + (List.length ([(p5, (p6, (p7, ())))] : List D_A3))) * 24 ≤ 140737488355328) && decide (((List.length p4) + (List.length ([(p5, (p6, (p7, ())))] : List D_A3))) ≤ 140737488355328)) then
      L_spec_l2All_9 n m0 m1 m2 p0 p1 p2 p3 (p4 ++ ([(p5, (p6, (p7, ())))] : List D_A3)) p5 p6 (IntKind.wrap .i64 (p7 + 1))
    else none
  else
    L_spec_l2All_6 n m0 m1 p0 p1 p2 p3 p4 p5 (IntKind.wrap .i64 (p6 + 1)) := by kernel_rfl
noncomputable def P_spec_l2All : Ft_spec_l2All := hid (runF (X_spec_l2All N) B_spec_l2All As_spec_l2All R_spec_l2All M_spec_l2All)
theorem h_spec_l2All : P_spec_l2All = runF (X_spec_l2All N) B_spec_l2All As_spec_l2All R_spec_l2All M_spec_l2All := hid_eq _
noncomputable def C_spec_l2All : Contract := ⟨As_spec_l2All, R_spec_l2All, M_spec_l2All, P_spec_l2All⟩
theorem s_spec_l2All : Sound Try.prog GG 100 C_spec_l2All := by
  unfold C_spec_l2All; rw [h_spec_l2All]
  exact sound_of_run (fn := Try.f100) hmix hstable (tyOK_of ttOK) (hglob (X_spec_l2All N)) (conOK_of (X := X_spec_l2All N) trivial) (mconOK_of (X := X_spec_l2All N) trivial) (by kernel_rfl) (by kernel_rfl) (by kernel_rfl) (by kernel_rfl) (by kernel_rfl) (of_decide_eq_true (by kernel_rfl))
noncomputable def l_spec_l2All_3 : Nat → Int → Int → Int → (List D_A3) → (List D_A3) → Int → Option (denL R_spec_l2All) := hid (fun m0 p0 p1 p2 p3 p4 p5 => L_spec_l2All_3 N m0 p0 p1 p2 p3 p4 p5)
theorem h_spec_l2All_3 : l_spec_l2All_3 = fun m0 p0 p1 p2 p3 p4 p5 => L_spec_l2All_3 N m0 p0 p1 p2 p3 p4 p5 := hid_eq _
noncomputable def l_spec_l2All_6 : Nat → Nat → Int → Int → Int → (List D_A3) → (List D_A3) → Int → Int → Option (denL R_spec_l2All) := hid (fun m0 m1 p0 p1 p2 p3 p4 p5 p6 => L_spec_l2All_6 N m0 m1 p0 p1 p2 p3 p4 p5 p6)
theorem h_spec_l2All_6 : l_spec_l2All_6 = fun m0 m1 p0 p1 p2 p3 p4 p5 p6 => L_spec_l2All_6 N m0 m1 p0 p1 p2 p3 p4 p5 p6 := hid_eq _
noncomputable def l_spec_l2All_9 : Nat → Nat → Nat → Int → Int → Int → (List D_A3) → (List D_A3) → Int → Int → Int → Option (denL R_spec_l2All) := hid (fun m0 m1 m2 p0 p1 p2 p3 p4 p5 p6 p7 => L_spec_l2All_9 N m0 m1 m2 p0 p1 p2 p3 p4 p5 p6 p7)
theorem h_spec_l2All_9 : l_spec_l2All_9 = fun m0 m1 m2 p0 p1 p2 p3 p4 p5 p6 p7 => L_spec_l2All_9 N m0 m1 m2 p0 p1 p2 p3 p4 p5 p6 p7 := hid_eq _
theorem p_spec_l2All (a0 : D_Heap) : P_spec_l2All (a0, ()) = 
  l_spec_l2All_3 N a0.1 a0.2.1 a0.2.2.1 a0.2.2.2.1 ([] : List D_A3) 0 := by
  rewrite [h_spec_l2All, h_spec_l2All_3]
  exact e_spec_l2All N a0
theorem q_spec_l2All_3 (m0 : Nat) (p0 : Int) (p1 : Int) (p2 : Int) (p3 : List D_A3) (p4 : List D_A3) (p5 : Int) : l_spec_l2All_3 (m0 + 1) p0 p1 p2 p3 p4 p5 = 
  bif decide (p5 < p0) then
    l_spec_l2All_6 m0 N p0 p1 p2 p3 p4 p5 0
  else
    some (p4, ()) := by
  rewrite [h_spec_l2All_3, h_spec_l2All_6]
  exact e_spec_l2All_3 N m0 p0 p1 p2 p3 p4 p5
theorem q_spec_l2All_6 (m0 m1 : Nat) (p0 : Int) (p1 : Int) (p2 : Int) (p3 : List D_A3) (p4 : List D_A3) (p5 : Int) (p6 : Int) : l_spec_l2All_6 m0 (m1 + 1) p0 p1 p2 p3 p4 p5 p6 = 
  bif decide (p6 < p1) then
    l_spec_l2All_9 m0 m1 N p0 p1 p2 p3 p4 p5 p6 0
  else
    l_spec_l2All_3 m0 p0 p1 p2 p3 p4 (IntKind.wrap .i64 (p5 + 1)) := by
  rewrite [h_spec_l2All_3, h_spec_l2All_6, h_spec_l2All_9]
  exact e_spec_l2All_6 N m0 m1 p0 p1 p2 p3 p4 p5 p6
theorem q_spec_l2All_9 (m0 m1 m2 : Nat) (p0 : Int) (p1 : Int) (p2 : Int) (p3 : List D_A3) (p4 : List D_A3) (p5 : Int) (p6 : Int) (p7 : Int) : l_spec_l2All_9 m0 m1 (m2 + 1) p0 p1 p2 p3 p4 p5 p6 p7 = 
  bif decide (p7 < p2) then
    bif (decide (((List.length p4) + (List.length ([(p5, (p6, (p7, ())))] : List D_A3))) * 24 ≤ 140737488355328) && decide (((List.length p4) + (List.length ([(p5, (p6, (p7, ())))] : List D_A3))) ≤ 140737488355328)) then
      l_spec_l2All_9 m0 m1 m2 p0 p1 p2 p3 (p4 ++ ([(p5, (p6, (p7, ())))] : List D_A3)) p5 p6 (IntKind.wrap .i64 (p7 + 1))
    else none
  else
    l_spec_l2All_6 m0 m1 p0 p1 p2 p3 p4 p5 (IntKind.wrap .i64 (p6 + 1)) := by
  rewrite [h_spec_l2All_6, h_spec_l2All_9]
  exact e_spec_l2All_9 N m0 m1 m2 p0 p1 p2 p3 p4 p5 p6 p7

/- 70: loop.example/g01166/spec.l6Enclosed -/
abbrev As_spec_l6Enclosed : List ATy := [.data true T_Heap]
abbrev R_spec_l6Enclosed : List (Bool × Ty) := [(false, (.sl T_A3))]
abbrev M_spec_l6Enclosed : List RMode := [.own 25]
abbrev Ft_spec_l6Enclosed : Type := D_Heap × Unit → Option ((List D_A3) × Unit)
noncomputable def X_spec_l6Enclosed (n : Nat) (F_spec_l2Has : Ft_spec_l2Has) (F_spec_l2In : Ft_spec_l2In) (F_spec_l6Steps : Ft_spec_l6Steps) (F_spec_l6Beside : Ft_spec_l6Beside) (F_spec_l2Empty : Ft_spec_l2Empty) (F_spec_l2With : Ft_spec_l2With) (F_spec_l2All : Ft_spec_l2All) : Ctx := { types := TT, globals := [], con := [(36, ⟨As_spec_l2Has, R_spec_l2Has, M_spec_l2Has, F_spec_l2Has⟩), (66, ⟨As_spec_l2In, R_spec_l2In, M_spec_l2In, F_spec_l2In⟩), (67, ⟨As_spec_l6Steps, R_spec_l6Steps, M_spec_l6Steps, F_spec_l6Steps⟩), (68, ⟨As_spec_l6Beside, R_spec_l6Beside, M_spec_l6Beside, F_spec_l6Beside⟩), (71, ⟨As_spec_l2Empty, R_spec_l2Empty, M_spec_l2Empty, F_spec_l2Empty⟩), (87, ⟨As_spec_l2With, R_spec_l2With, M_spec_l2With, F_spec_l2With⟩), (100, ⟨As_spec_l2All, R_spec_l2All, M_spec_l2All, F_spec_l2All⟩)], keep := [(4, ⟨[.box 1, .box 3, .box 5, .tmp 1, .tmp 3, .tmp 4, .tmp 5, .tmp 6], []⟩), (7, ⟨[.box 1, .box 3, .box 5, .tmp 1, .tmp 3, .tmp 4, .tmp 5, .tmp 6, .tmp 7], []⟩), (10, ⟨[.box 1, .box 3, .box 5, .tmp 1, .tmp 3, .tmp 4, .tmp 5, .tmp 6, .tmp 7, .tmp 8], []⟩), (15, ⟨[.box 1, .box 3, .box 5, .tmp 1, .tmp 3, .tmp 4, .tmp 5, .tmp 9], []⟩), (18, ⟨[.box 1, .box 3, .box 5, .tmp 1, .tmp 3, .tmp 4, .tmp 5, .tmp 9, .tmp 10], []⟩), (26, ⟨[.box 1, .box 3, .tmp 1, .tmp 3, .tmp 12, .tmp 13, .tmp 14], []⟩)], results := [.tmp 2], ntmps := 129, n := n }
noncomputable def B_spec_l6Enclosed : Code := (Try.f70.body).getD .skip
noncomputable def L_spec_l6Enclosed_4 (n : Nat) (F_spec_l2Has : Ft_spec_l2Has) (F_spec_l2In : Ft_spec_l2In) (F_spec_l6Steps : Ft_spec_l6Steps) (F_spec_l6Beside : Ft_spec_l6Beside) (F_spec_l2Empty : Ft_spec_l2Empty) (F_spec_l2With : Ft_spec_l2With) (F_spec_l2All : Ft_spec_l2All) (m0 : Nat) (p0 : Int) (p1 : Int) (p2 : Int) (p3 : List D_A3) (p4 : Int) (p5 : Int) (p6 : Int) (p7 : List D_A3) (p8 : Int) (p9 : Int) (p10 : Int) (p11 : Int) (p12 : Int) (p13 : Int) (p14 : Int) (p15 : Int) (p16 : Int) (p17 : Int) (p18 : Int) (p19 : Int) (p20 : Int) (p21 : Int) (p22 : Int) (p23 : Int) (p24 : Int) (p25 : Int) (p26 : List D_A3) (p27 : Int) : Option (denL R_spec_l6Enclosed) := loopF (X_spec_l6Enclosed n F_spec_l2Has F_spec_l2In F_spec_l6Steps F_spec_l6Beside F_spec_l2Empty F_spec_l2With F_spec_l2All) B_spec_l6Enclosed R_spec_l6Enclosed M_spec_l6Enclosed 4 [m0] [(.ver, .num 1), (.box 1, .box 0 false [.int .i64 p0, .int .i64 p1, .int .i64 p2, .imm T_A3 p3 (some 3)]), (.box 3, .box 0 false [.int .i64 p4, .int .i64 p5, .int .i64 p6, .own 25 T_A3 0 p7]), (.box 5, .box 0 false [.int .i64 p8, .int .i64 p9, .int .i64 p10, .int .i64 p11, .int .i64 p12, .int .i64 p13, .int .i64 p14, .int .i64 p15, .int .i64 p16, .int .i64 p17, .int .i64 p18, .int .i64 p19, .int .i64 p20, .int .i64 p21, .int .i64 p22, .int .i64 p23, .int .i64 p24, .int .i64 p25]), (.tmp 1, .val false [.addr 1 0 0]), (.tmp 3, .val false [.addr 3 0 0]), (.tmp 4, .val false [.own 25 T_A3 0 p26]), (.tmp 5, .val false [.addr 5 0 0]), (.tmp 6, .val false [.int .i64 p27])]
noncomputable def L_spec_l6Enclosed_7 (n : Nat) (F_spec_l2Has : Ft_spec_l2Has) (F_spec_l2In : Ft_spec_l2In) (F_spec_l6Steps : Ft_spec_l6Steps) (F_spec_l6Beside : Ft_spec_l6Beside) (F_spec_l2Empty : Ft_spec_l2Empty) (F_spec_l2With : Ft_spec_l2With) (F_spec_l2All : Ft_spec_l2All) (m0 m1 : Nat) (p0 : Int) (p1 : Int) (p2 : Int) (p3 : List D_A3) (p4 : Int) (p5 : Int) (p6 : Int) (p7 : List D_A3) (p8 : Int) (p9 : Int) (p10 : Int) (p11 : Int) (p12 : Int) (p13 : Int) (p14 : Int) (p15 : Int) (p16 : Int) (p17 : Int) (p18 : Int) (p19 : Int) (p20 : Int) (p21 : Int) (p22 : Int) (p23 : Int) (p24 : Int) (p25 : Int) (p26 : List D_A3) (p27 : Int) (p28 : Int) : Option (denL R_spec_l6Enclosed) := loopF (X_spec_l6Enclosed n F_spec_l2Has F_spec_l2In F_spec_l6Steps F_spec_l6Beside F_spec_l2Empty F_spec_l2With F_spec_l2All) B_spec_l6Enclosed R_spec_l6Enclosed M_spec_l6Enclosed 7 [m0, m1] [(.ver, .num 1), (.box 1, .box 0 false [.int .i64 p0, .int .i64 p1, .int .i64 p2, .imm T_A3 p3 (some 3)]), (.box 3, .box 0 false [.int .i64 p4, .int .i64 p5, .int .i64 p6, .own 25 T_A3 0 p7]), (.box 5, .box 0 false [.int .i64 p8, .int .i64 p9, .int .i64 p10, .int .i64 p11, .int .i64 p12, .int .i64 p13, .int .i64 p14, .int .i64 p15, .int .i64 p16, .int .i64 p17, .int .i64 p18, .int .i64 p19, .int .i64 p20, .int .i64 p21, .int .i64 p22, .int .i64 p23, .int .i64 p24, .int .i64 p25]), (.tmp 1, .val false [.addr 1 0 0]), (.tmp 3, .val false [.addr 3 0 0]), (.tmp 4, .val false [.own 25 T_A3 0 p26]), (.tmp 5, .val false [.addr 5 0 0]), (.tmp 6, .val false [.int .i64 p27]), (.tmp 7, .val false [.int .i64 p28])]
noncomputable def L_spec_l6Enclosed_15 (n : Nat) (F_spec_l2Has : Ft_spec_l2Has) (F_spec_l2In : Ft_spec_l2In) (F_spec_l6Steps : Ft_spec_l6Steps) (F_spec_l6Beside : Ft_spec_l6Beside) (F_spec_l2Empty : Ft_spec_l2Empty) (F_spec_l2With : Ft_spec_l2With) (F_spec_l2All : Ft_spec_l2All) (m0 : Nat) (p0 : Int) (p1 : Int) (p2 : Int) (p3 : List D_A3) (p4 : Int) (p5 : Int) (p6 : Int) (p7 : List D_A3) (p8 : Int) (p9 : Int) (p10 : Int) (p11 : Int) (p12 : Int) (p13 : Int) (p14 : Int) (p15 : Int) (p16 : Int) (p17 : Int) (p18 : Int) (p19 : Int) (p20 : Int) (p21 : Int) (p22 : Int) (p23 : Int) (p24 : Int) (p25 : Int) (p26 : List D_A3) (p27 : Int) : Option (denL R_spec_l6Enclosed) := loopF (X_spec_l6Enclosed n F_spec_l2Has F_spec_l2In F_spec_l6Steps F_spec_l6Beside F_spec_l2Empty F_spec_l2With F_spec_l2All) B_spec_l6Enclosed R_spec_l6Enclosed M_spec_l6Enclosed 15 [m0] [(.ver, .num 1), (.box 1, .box 0 false [.int .i64 p0, .int .i64 p1, .int .i64 p2, .imm T_A3 p3 (some 3)]), (.box 3, .box 0 false [.int .i64 p4, .int .i64 p5, .int .i64 p6, .own 25 T_A3 0 p7]), (.box 5, .box 0 false [.int .i64 p8, .int .i64 p9, .int .i64 p10, .int .i64 p11, .int .i64 p12, .int .i64 p13, .int .i64 p14, .int .i64 p15, .int .i64 p16, .int .i64 p17, .int .i64 p18, .int .i64 p19, .int .i64 p20, .int .i64 p21, .int .i64 p22, .int .i64 p23, .int .i64 p24, .int .i64 p25]), (.tmp 1, .val false [.addr 1 0 0]), (.tmp 3, .val false [.addr 3 0 0]), (.tmp 4, .val false [.own 25 T_A3 0 p26]), (.tmp 5, .val false [.addr 5 0 0]), (.tmp 9, .val false [.int .i64 p27])]
noncomputable def L_spec_l6Enclosed_10 (n : Nat) (F_spec_l2Has : Ft_spec_l2Has) (F_spec_l2In : Ft_spec_l2In) (F_spec_l6Steps : Ft_spec_l6Steps) (F_spec_l6Beside : Ft_spec_l6Beside) (F_spec_l2Empty : Ft_spec_l2Empty) (F_spec_l2With : Ft_spec_l2With) (F_spec_l2All : Ft_spec_l2All) (m0 m1 m2 : Nat) (p0 : Int) (p1 : Int) (p2 : Int) (p3 : List D_A3) (p4 : Int) (p5 : Int) (p6 : Int) (p7 : List D_A3) (p8 : Int) (p9 : Int) (p10 : Int) (p11 : Int) (p12 : Int) (p13 : Int) (p14 : Int) (p15 : Int) (p16 : Int) (p17 : Int) (p18 : Int) (p19 : Int) (p20 : Int) (p21 : Int) (p22 : Int) (p23 : Int) (p24 : Int) (p25 : Int) (p26 : List D_A3) (p27 : Int) (p28 : Int) (p29 : Int) : Option (denL R_spec_l6Enclosed) := loopF (X_spec_l6Enclosed n F_spec_l2Has F_spec_l2In F_spec_l6Steps F_spec_l6Beside F_spec_l2Empty F_spec_l2With F_spec_l2All) B_spec_l6Enclosed R_spec_l6Enclosed M_spec_l6Enclosed 10 [m0, m1, m2] [(.ver, .num 1), (.box 1, .box 0 false [.int .i64 p0, .int .i64 p1, .int .i64 p2, .imm T_A3 p3 (some 3)]), (.box 3, .box 0 false [.int .i64 p4, .int .i64 p5, .int .i64 p6, .own 25 T_A3 0 p7]), (.box 5, .box 0 false [.int .i64 p8, .int .i64 p9, .int .i64 p10, .int .i64 p11, .int .i64 p12, .int .i64 p13, .int .i64 p14, .int .i64 p15, .int .i64 p16, .int .i64 p17, .int .i64 p18, .int .i64 p19, .int .i64 p20, .int .i64 p21, .int .i64 p22, .int .i64 p23, .int .i64 p24, .int .i64 p25]), (.tmp 1, .val false [.addr 1 0 0]), (.tmp 3, .val false [.addr 3 0 0]), (.tmp 4, .val false [.own 25 T_A3 0 p26]), (.tmp 5, .val false [.addr 5 0 0]), (.tmp 6, .val false [.int .i64 p27]), (.tmp 7, .val false [.int .i64 p28]), (.tmp 8, .val false [.int .i64 p29])]
noncomputable def L_spec_l6Enclosed_18 (n : Nat) (F_spec_l2Has : Ft_spec_l2Has) (F_spec_l2In : Ft_spec_l2In) (F_spec_l6Steps : Ft_spec_l6Steps) (F_spec_l6Beside : Ft_spec_l6Beside) (F_spec_l2Empty : Ft_spec_l2Empty) (F_spec_l2With : Ft_spec_l2With) (F_spec_l2All : Ft_spec_l2All) (m0 m1 : Nat) (p0 : Int) (p1 : Int) (p2 : Int) (p3 : List D_A3) (p4 : Int) (p5 : Int) (p6 : Int) (p7 : List D_A3) (p8 : Int) (p9 : Int) (p10 : Int) (p11 : Int) (p12 : Int) (p13 : Int) (p14 : Int) (p15 : Int) (p16 : Int) (p17 : Int) (p18 : Int) (p19 : Int) (p20 : Int) (p21 : Int) (p22 : Int) (p23 : Int) (p24 : Int) (p25 : Int) (p26 : List D_A3) (p27 : Int) (p28 : Int) : Option (denL R_spec_l6Enclosed) := loopF (X_spec_l6Enclosed n F_spec_l2Has F_spec_l2In F_spec_l6Steps F_spec_l6Beside F_spec_l2Empty F_spec_l2With F_spec_l2All) B_spec_l6Enclosed R_spec_l6Enclosed M_spec_l6Enclosed 18 [m0, m1] [(.ver, .num 1), (.box 1, .box 0 false [.int .i64 p0, .int .i64 p1, .int .i64 p2, .imm T_A3 p3 (some 3)]), (.box 3, .box 0 false [.int .i64 p4, .int .i64 p5, .int .i64 p6, .own 25 T_A3 0 p7]), (.box 5, .box 0 false [.int .i64 p8, .int .i64 p9, .int .i64 p10, .int .i64 p11, .int .i64 p12, .int .i64 p13, .int .i64 p14, .int .i64 p15, .int .i64 p16, .int .i64 p17, .int .i64 p18, .int .i64 p19, .int .i64 p20, .int .i64 p21, .int .i64 p22, .int .i64 p23, .int .i64 p24, .int .i64 p25]), (.tmp 1, .val false [.addr 1 0 0]), (.tmp 3, .val false [.addr 3 0 0]), (.tmp 4, .val false [.own 25 T_A3 0 p26]), (.tmp 5, .val false [.addr 5 0 0]), (.tmp 9, .val false [.int .i64 p27]), (.tmp 10, .val false [.int .i64 p28])]
noncomputable def L_spec_l6Enclosed_26 (n : Nat) (F_spec_l2Has : Ft_spec_l2Has) (F_spec_l2In : Ft_spec_l2In) (F_spec_l6Steps : Ft_spec_l6Steps) (F_spec_l6Beside : Ft_spec_l6Beside) (F_spec_l2Empty : Ft_spec_l2Empty) (F_spec_l2With : Ft_spec_l2With) (F_spec_l2All : Ft_spec_l2All) (m0 : Nat) (p0 : Int) (p1 : Int) (p2 : Int) (p3 : List D_A3) (p4 : Int) (p5 : Int) (p6 : Int) (p7 : List D_A3) (p8 : List D_A3) (p9 : List D_A3) (p10 : Int) : Option (denL R_spec_l6Enclosed) := loopF (X_spec_l6Enclosed n F_spec_l2Has F_spec_l2In F_spec_l6Steps F_spec_l6Beside F_spec_l2Empty F_spec_l2With F_spec_l2All) B_spec_l6Enclosed R_spec_l6Enclosed M_spec_l6Enclosed 26 [m0] [(.ver, .num 1), (.box 1, .box 0 false [.int .i64 p0, .int .i64 p1, .int .i64 p2, .imm T_A3 p3 (some 3)]), (.box 3, .box 0 false [.int .i64 p4, .int .i64 p5, .int .i64 p6, .own 25 T_A3 0 p7]), (.tmp 1, .val false [.addr 1 0 0]), (.tmp 3, .val false [.addr 3 0 0]), (.tmp 12, .val false [.own 25 T_A3 0 p8]), (.tmp 13, .val false [.own 25 T_A3 0 p9]), (.tmp 14, .val false [.int .i64 p10])]
theorem e_spec_l6Enclosed (n : Nat) (F_spec_l2Has : Ft_spec_l2Has) (F_spec_l2In : Ft_spec_l2In) (F_spec_l6Steps : Ft_spec_l6Steps) (F_spec_l6Beside : Ft_spec_l6Beside) (F_spec_l2Empty : Ft_spec_l2Empty) (F_spec_l2With : Ft_spec_l2With) (F_spec_l2All : Ft_spec_l2All) (a0 : D_Heap) : runF (X_spec_l6Enclosed n F_spec_l2Has F_spec_l2In F_spec_l6Steps F_spec_l6Beside F_spec_l2Empty F_spec_l2With F_spec_l2All) B_spec_l6Enclosed As_spec_l6Enclosed R_spec_l6Enclosed M_spec_l6Enclosed (a0, ()) = 
  Option.bind (F_spec_l2Empty (a0.1, a0.2.1, a0.2.2.1, ())) fun r0 =>
  Option.bind (F_spec_l6Steps (())) fun r1 =>
  L_spec_l6Enclosed_4 n F_spec_l2Has F_spec_l2In F_spec_l6Steps F_spec_l6Beside F_spec_l2Empty F_spec_l2With F_spec_l2All n a0.1 a0.2.1 a0.2.2.1 a0.2.2.2.1 r0.1.1 r0.1.2.1 r0.1.2.2.1 r0.1.2.2.2.1 r1.1.1.1 r1.1.1.2.1 r1.1.1.2.2.1 r1.1.2.1.1 r1.1.2.1.2.1 r1.1.2.1.2.2.1 r1.1.2.2.1.1 r1.1.2.2.1.2.1 r1.1.2.2.1.2.2.1 r1.1.2.2.2.1.1 r1.1.2.2.2.1.2.1 r1.1.2.2.2.1.2.2.1 r1.1.2.2.2.2.1.1 r1.1.2.2.2.2.1.2.1 r1.1.2.2.2.2.1.2.2.1 r1.1.2.2.2.2.2.1.1 r1.1.2.2.2.2.2.1.2.1 r1.1.2.2.2.2.2.1.2.2.1 ([] : List D_A3) (-1) := by kernel_rfl
theorem e_spec_l6Enclosed_4 (n : Nat) (F_spec_l2Has : Ft_spec_l2Has) (F_spec_l2In : Ft_spec_l2In) (F_spec_l6Steps : Ft_spec_l6Steps) (F_spec_l6Beside : Ft_spec_l6Beside) (F_spec_l2Empty : Ft_spec_l2Empty) (F_spec_l2With : Ft_spec_l2With) (F_spec_l2All : Ft_spec_l2All) (m0 : Nat) (p0 : Int) (p1 : Int) (p2 : Int) (p3 : List D_A3) (p4 : Int) (p5 : Int) (p6 : Int) (p7 : List D_A3) (p8 : Int) (p9 : Int) (p10 : Int) (p11 : Int) (p12 : Int) (p13 : Int) (p14 : Int) (p15 : Int) (p16 : Int) (p17 : Int) (p18 : Int) (p19 : Int) (p20 : Int) (p21 : Int) (p22 : Int) (p23 : Int) (p24 : Int) (p25 : Int) (p26 : List D_A3) (p27 : Int) : L_spec_l6Enclosed_4 n F_spec_l2Has F_spec_l2In F_spec_l6Steps F_spec_l6Beside F_spec_l2Empty F_spec_l2With F_spec_l2All (m0 + 1) p0 p1 p2 p3 p4 p5 p6 p7 p8 p9 p10 p11 p12 p13 p14 p15 p16 p17 p18 p19 p20 p21 p22 p23 p24 p25 p26 p27 = 
  bif decide (p27 ≤ p0) then
    L_spec_l6Enclosed_7 n F_spec_l2Has F_spec_l2In F_spec_l6Steps F_spec_l6Beside F_spec_l2Empty F_spec_l2With F_spec_l2All m0 n p0 p1 p2 p3 p4 p5 p6 p7 p8 p9 p10 p11 p12 p13 p14 p15 p16 p17 p18 p19 p20 p21 p22 p23 p24 p25 p26 p27 (-1)
  else
    L_spec_l6Enclosed_15 n F_spec_l2Has F_spec_l2In F_spec_l6Steps F_spec_l6Beside F_spec_l2Empty F_spec_l2With F_spec_l2All n p0 p1 p2 p3 p4 p5 p6 p7 p8 p9 p10 p11 p12 p13 p14 p15 p16 p17 p18 p19 p20 p21 p22 p23 p24 p25 p26 0 := by kernel_rfl
theorem e_spec_l6Enclosed_7 (n : Nat) (F_spec_l2Has : Ft_spec_l2Has) (F_spec_l2In : Ft_spec_l2In) (F_spec_l6Steps : Ft_spec_l6Steps) (F_spec_l6Beside : Ft_spec_l6Beside) (F_spec_l2Empty : Ft_spec_l2Empty) (F_spec_l2With : Ft_spec_l2With) (F_spec_l2All : Ft_spec_l2All) (m0 m1 : Nat) (p0 : Int) (p1 : Int) (p2 : Int) (p3 : List D_A3) (p4 : Int) (p5 : Int) (p6 : Int) (p7 : List D_A3) (p8 : Int) (p9 : Int) (p10 : Int) (p11 : Int) (p12 : Int) (p13 : Int) (p14 : Int) (p15 : Int) (p16 : Int) (p17 : Int) (p18 : Int) (p19 : Int) (p20 : Int) (p21 : Int) (p22 : Int) (p23 : Int) (p24 : Int) (p25 : Int) (p26 : List D_A3) (p27 : Int) (p28 : Int) : L_spec_l6Enclosed_7 n F_spec_l2Has F_spec_l2In F_spec_l6Steps F_spec_l6Beside F_spec_l2Empty F_spec_l2With F_spec_l2All m0 (m1 + 1) p0 p1 p2 p3 p4 p5 p6 p7 p8 p9 p10 p11 p12 p13 p14 p15 p16 p17 p18 p19 p20 p21 p22 p23 p24 p25 p26 p27 p28 = 
  bif decide (p28 ≤ p1) then
    L_spec_l6Enclosed_10 n F_spec_l2Has F_spec_l2In F_spec_l6Steps F_spec_l6Beside F_spec_l2Empty F_spec_l2With F_spec_l2All m0 m1 n p0 p1 p2 p3 p4 p5 p6 p7 p8 p9 p10 p11 p12 p13 p14 p15 p16 p17 p18 p19 p20 p21 p22 p23 p24 p25 p26 p27 p28 (-1)
  else
    L_spec_l6Enclosed_4 n F_spec_l2Has F_spec_l2In F_spec_l6Steps F_spec_l6Beside F_spec_l2Empty F_spec_l2With F_spec_l2All m0 p0 p1 p2 p3 p4 p5 p6 p7 p8 p9 p10 p11 p12 p13 p14 p15 p16 p17 p18 p19 p20 p21 p22 p23 p24 p25 p26 (IntKind.wrap .i64 (p27 + 1)) := by kernel_rfl
theorem e_spec_l6Enclosed_15 (n : Nat) (F_spec_l2Has : Ft_spec_l2Has) (F_spec_l2In : Ft_spec_l2In) (F_spec_l6Steps : Ft_spec_l6Steps) (F_spec_l6Beside : Ft_spec_l6Beside) (F_spec_l2Empty : Ft_spec_l2Empty) (F_spec_l2With : Ft_spec_l2With) (F_spec_l2All : Ft_spec_l2All) (m0 : Nat) (p0 : Int) (p1 : Int) (p2 : Int) (p3 : List D_A3) (p4 : Int) (p5 : Int) (p6 : Int) (p7 : List D_A3) (p8 : Int) (p9 : Int) (p10 : Int) (p11 : Int) (p12 : Int) (p13 : Int) (p14 : Int) (p15 : Int) (p16 : Int) (p17 : Int) (p18 : Int) (p19 : Int) (p20 : Int) (p21 : Int) (p22 : Int) (p23 : Int) (p24 : Int) (p25 : Int) (p26 : List D_A3) (p27 : Int) : L_spec_l6Enclosed_15 n F_spec_l2Has F_spec_l2In F_spec_l6Steps F_spec_l6Beside F_spec_l2Empty F_spec_l2With F_spec_l2All (m0 + 1) p0 p1 p2 p3 p4 p5 p6 p7 p8 p9 p10 p11 p12 p13 p14 p15 p16 p17 p18 p19 p20 p21 p22 p23 p24 p25 p26 p27 = 
  bif decide (p27 < (List.length p26 : Int)) then
    L_spec_l6Enclosed_18 n F_spec_l2Has F_spec_l2In F_spec_l6Steps F_spec_l6Beside F_spec_l2Empty F_spec_l2With F_spec_l2All m0 n p0 p1 p2 p3 p4 p5 p6 p7 p8 p9 p10 p11 p12 p13 p14 p15 p16 p17 p18 p19 p20 p21 p22 p23 p24 p25 p26 p27 0
  else
    Option.bind (F_spec_l2All ((p0, (p1, (p2, (p3, ())))), ())) fun r1 =>
    L_spec_l6Enclosed_26 n F_spec_l2Has F_spec_l2In F_spec_l6Steps F_spec_l6Beside F_spec_l2Empty F_spec_l2With F_spec_l2All n p0 p1 p2 p3 p4 p5 p6 p7 ([] : List D_A3) r1.1 0 := by kernel_rfl
theorem e_spec_l6Enclosed_10 (n : Nat) (F_spec_l2Has : Ft_spec_l2Has) (F_spec_l2In : Ft_spec_l2In) (F_spec_l6Steps : Ft_spec_l6Steps) (F_spec_l6Beside : Ft_spec_l6Beside) (F_spec_l2Empty : Ft_spec_l2Empty) (F_spec_l2With : Ft_spec_l2With) (F_spec_l2All : Ft_spec_l2All) (m0 m1 m2 : Nat) (p0 : Int) (p1 : Int) (p2 : Int) (p3 : List D_A3) (p4 : Int) (p5 : Int) (p6 : Int) (p7 : List D_A3) (p8 : Int) (p9 : Int) (p10 : Int) (p11 : Int) (p12 : Int) (p13 : Int) (p14 : Int) (p15 : Int) (p16 : Int) (p17 : Int) (p18 : Int) (p19 : Int) (p20 : Int) (p21 : Int) (p22 : Int) (p23 : Int) (p24 : Int) (p25 : Int) (p26 : List D_A3) (p27 : Int) (p28 : Int) (p29 : Int) : L_spec_l6Enclosed_10 n F_spec_l2Has F_spec_l2In F_spec_l6Steps F_spec_l6Beside F_spec_l2Empty F_spec_l2With F_spec_l2All m0 m1 (m2 + 1) p0 p1 p2 p3 p4 p5 p6 p7 p8 p9 p10 p11 p12 p13 p14 p15 p16 p17 p18 p19 p20 p21 p22 p23 p24 p25 p26 p27 p28 p29 = 
  bif decide (p29 ≤ p2) then
    Option.bind (F_spec_l2In ((p0, (p1, (p2, (p3, ())))), (p27, (p28, (p29, ()))), ())) fun r1 =>
    bif !r1.1 then
      bif (decide (((List.length p26) + (List.length ([(p27, (p28, (p29, ())))] : List D_A3))) * 24 ≤ 140737488355328) && decide (((List.length p26) + (List.length ([(p27, (p28, (p29, ())))] : List D_A3))) ≤ 140737488355328)) then
        L_spec_l6Enclosed_10 n F_spec_l2Has F_spec_l2In F_spec_l6Steps F_spec_l6Beside F_spec_l2Empty F_spec_l2With F_spec_l2All m0 m1 m2 p0 p1 p2 p3 p4 p5 p6 p7 p8 p9 p10 p11 p12 p13 p14 p15 p16 p17 p18 p19 p20 p21 p22 p23 p24 p25 (p26 ++ ([(p27, (p28, (p29, ())))] : List D_A3)) p27 p28 (IntKind.wrap .i64 (p29 + 1))
      else none
    else
      L_spec_l6Enclosed_10 n F_spec_l2Has F_spec_l2In F_spec_l6Steps F_spec_l6Beside F_spec_l2Empty F_spec_l2With F_spec_l2All m0 m1 m2 p0 p1 p2 p3 p4 p5 p6 p7 p8 p9 p10 p11 p12 p13 p14 p15 p16 p17 p18 p19 p20 p21 p22 p23 p24 p25 p26 p27 p28 (IntKind.wrap .i64 (p29 + 1))
  else
    L_spec_l6Enclosed_7 n F_spec_l2Has F_spec_l2In F_spec_l6Steps F_spec_l6Beside F_spec_l2Empty F_spec_l2With F_spec_l2All m0 m1 p0 p1 p2 p3 p4 p5 p6 p7 p8 p9 p10 p11 p12 p13 p14 p15 p16 p17 p18 p19 p20 p21 p22 p23 p24 p25 p26 p27 (IntKind.wrap .i64 (p28 + 1)) := by kernel_rfl
theorem e_spec_l6Enclosed_18 (n : Nat) (F_spec_l2Has : Ft_spec_l2Has) (F_spec_l2In : Ft_spec_l2In) (F_spec_l6Steps : Ft_spec_l6Steps) (F_spec_l6Beside : Ft_spec_l6Beside) (F_spec_l2Empty : Ft_spec_l2Empty) (F_spec_l2With : Ft_spec_l2With) (F_spec_l2All : Ft_spec_l2All) (m0 m1 : Nat) (p0 : Int) (p1 : Int) (p2 : Int) (p3 : List D_A3) (p4 : Int) (p5 : Int) (p6 : Int) (p7 : List D_A3) (p8 : Int) (p9 : Int) (p10 : Int) (p11 : Int) (p12 : Int) (p13 : Int) (p14 : Int) (p15 : Int) (p16 : Int) (p17 : Int) (p18 : Int) (p19 : Int) (p20 : Int) (p21 : Int) (p22 : Int) (p23 : Int) (p24 : Int) (p25 : Int) (p26 : List D_A3) (p27 : Int) (p28 : Int) : L_spec_l6Enclosed_18 n F_spec_l2Has F_spec_l2In F_spec_l6Steps F_spec_l6Beside F_spec_l2Empty F_spec_l2With F_spec_l2All m0 (m1 + 1) p0 p1 p2 p3 p4 p5 p6 p7 p8 p9 p10 p11 p12 p13 p14 p15 p16 p17 p18 p19 p20 p21 p22 p23 p24 p25 p26 p27 p28 = 
  bif decide (p28 < 6) then
    bif inB p27 (List.length p26) then
      bif inB p28 6 then
        Option.bind (F_spec_l6Beside ((nth T_A3 p26 p27), ((bif decide (p28 = (0 : Int)) then p8 else (bif decide (p28 = (1 : Int)) then p11 else (bif decide (p28 = (2 : Int)) then p14 else (bif decide (p28 = (3 : Int)) then p17 else (bif decide (p28 = (4 : Int)) then p20 else p23))))), ((bif decide (p28 = (0 : Int)) then p9 else (bif decide (p28 = (1 : Int)) then p12 else (bif decide (p28 = (2 : Int)) then p15 else (bif decide (p28 = (3 : Int)) then p18 else (bif decide (p28 = (4 : Int)) then p21 else p24))))), ((bif decide (p28 = (0 : Int)) then p10 else (bif decide (p28 = (1 : Int)) then p13 else (bif decide (p28 = (2 : Int)) then p16 else (bif decide (p28 = (3 : Int)) then p19 else (bif decide (p28 = (4 : Int)) then p22 else p25))))), ()))), ())) fun r3 =>
        Option.bind (F_spec_l2In ((p0, (p1, (p2, (p3, ())))), r3.1, ())) fun r4 =>
        bif r4.1 then
          Option.bind (F_spec_l2Has ((p0, (p1, (p2, (p3, ())))), r3.1, ())) fun r6 =>
          bif !r6.1 then
            Option.bind (F_spec_l2Has ((p4, (p5, (p6, (p7, ())))), r3.1, ())) fun r8 =>
            bif !r8.1 then
              Option.bind (F_spec_l2With ((p4, (p5, (p6, (p7, ())))), r3.1, ())) fun r10 =>
              bif (decide (((List.length p26) + (List.length ([r3.1] : List D_A3))) * 24 ≤ 140737488355328) && decide (((List.length p26) + (List.length ([r3.1] : List D_A3))) ≤ 140737488355328)) then
                L_spec_l6Enclosed_18 n F_spec_l2Has F_spec_l2In F_spec_l6Steps F_spec_l6Beside F_spec_l2Empty F_spec_l2With F_spec_l2All m0 m1 p0 p1 p2 p3 r10.1.1 r10.1.2.1 r10.1.2.2.1 r10.1.2.2.2.1 p8 p9 p10 p11 p12 p13 p14 p15 p16 p17 p18 p19 p20 p21 p22 p23 p24 p25 (p26 ++ ([r3.1] : List D_A3)) p27 (IntKind.wrap .i64 (p28 + 1))
              else none
            else
              L_spec_l6Enclosed_18 n F_spec_l2Has F_spec_l2In F_spec_l6Steps F_spec_l6Beside F_spec_l2Empty F_spec_l2With F_spec_l2All m0 m1 p0 p1 p2 p3 p4 p5 p6 p7 p8 p9 p10 p11 p12 p13 p14 p15 p16 p17 p18 p19 p20 p21 p22 p23 p24 p25 p26 p27 (IntKind.wrap .i64 (p28 + 1))
          else
            L_spec_l6Enclosed_18 n F_spec_l2Has F_spec_l2In F_spec_l6Steps F_spec_l6Beside F_spec_l2Empty F_spec_l2With F_spec_l2All m0 m1 p0 p1 p2 p3 p4 p5 p6 p7 p8 p9 p10 p11 p12 p13 p14 p15 p16 p17 p18 p19 p20 p21 p22 p23 p24 p25 p26 p27 (IntKind.wrap .i64 (p28 + 1))
        else
          L_spec_l6Enclosed_18 n F_spec_l2Has F_spec_l2In F_spec_l6Steps F_spec_l6Beside F_spec_l2Empty F_spec_l2With F_spec_l2All m0 m1 p0 p1 p2 p3 p4 p5 p6 p7 p8 p9 p10 p11 p12 p13 p14 p15 p16 p17 p18 p19 p20 p21 p22 p23 p24 p25 p26 p27 (IntKind.wrap .i64 (p28 + 1))
      else none
    else none
  else
    L_spec_l6Enclosed_15 n F_spec_l2Has F_spec_l2In F_spec_l6Steps F_spec_l6Beside F_spec_l2Empty F_spec_l2With F_spec_l2All m0 p0 p1 p2 p3 p4 p5 p6 p7 p8 p9 p10 p11 p12 p13 p14 p15 p16 p17 p18 p19 p20 p21 p22 p23 p24 p25 p26 (IntKind.wrap .i64 (p27 + 1)) := by kernel_rfl
theorem e_spec_l6Enclosed_26 (n : Nat) (F_spec_l2Has : Ft_spec_l2Has) (F_spec_l2In : Ft_spec_l2In) (F_spec_l6Steps : Ft_spec_l6Steps) (F_spec_l6Beside : Ft_spec_l6Beside) (F_spec_l2Empty : Ft_spec_l2Empty) (F_spec_l2With : Ft_spec_l2With) (F_spec_l2All : Ft_spec_l2All) (m0 : Nat) (p0 : Int) (p1 : Int) (p2 : Int) (p3 : List D_A3) (p4 : Int) (p5 : Int) (p6 : Int) (p7 : List D_A3) (p8 : List D_A3) (p9 : List D_A3) (p10 : Int) : L_spec_l6Enclosed_26 n F_spec_l2Has F_spec_l2In F_spec_l6Steps F_spec_l6Beside F_spec_l2Empty F_spec_l2With F_spec_l2All (m0 + 1) p0 p1 p2 p3 p4 p5 p6 p7 p8 p9 p10 = 
  bif decide (p10 < (List.length p9 : Int)) then
    bif inB p10 (List.length p9) then
      Option.bind (F_spec_l2Has ((p0, (p1, (p2, (p3, ())))), (nth T_A3 p9 p10), ())) fun r2 =>
      bif !r2.1 then
        bif inB p10 (List.length p9) then
          Option.bind (F_spec_l2Has ((p4, (p5, (p6, (p7, ())))), (nth T_A3 p9 p10), ())) fun r5 =>
          bif !r5.1 then
            bif inB p10 (List.length p9) then
              bif (decide (((List.length p8) + (List.length ([(nth T_A3 p9 p10)] : List D_A3))) * 24 ≤ 140737488355328) && decide (((List.length p8) + (List.length ([(nth T_A3 p9 p10)] : List D_A3))) ≤ 140737488355328)) then
                L_spec_l6Enclosed_26 n F_spec_l2Has F_spec_l2In F_spec_l6Steps F_spec_l6Beside F_spec_l2Empty F_spec_l2With F_spec_l2All m0 p0 p1 p2 p3 p4 p5 p6 p7 (p8 ++ ([(nth T_A3 p9 p10)] : List D_A3)) p9 (IntKind.wrap .i64 (p10 + 1))
              else none
            else none
          else
            L_spec_l6Enclosed_26 n F_spec_l2Has F_spec_l2In F_spec_l6Steps F_spec_l6Beside F_spec_l2Empty F_spec_l2With F_spec_l2All m0 p0 p1 p2 p3 p4 p5 p6 p7 p8 p9 (IntKind.wrap .i64 (p10 + 1))
        else none
      else
        L_spec_l6Enclosed_26 n F_spec_l2Has F_spec_l2In F_spec_l6Steps F_spec_l6Beside F_spec_l2Empty F_spec_l2With F_spec_l2All m0 p0 p1 p2 p3 p4 p5 p6 p7 p8 p9 (IntKind.wrap .i64 (p10 + 1))
    else none
  else
    some (p8, ()) := by kernel_rfl
noncomputable def P_spec_l6Enclosed : Ft_spec_l6Enclosed := hid (runF (X_spec_l6Enclosed N P_spec_l2Has P_spec_l2In P_spec_l6Steps P_spec_l6Beside P_spec_l2Empty P_spec_l2With P_spec_l2All) B_spec_l6Enclosed As_spec_l6Enclosed R_spec_l6Enclosed M_spec_l6Enclosed)
theorem h_spec_l6Enclosed : P_spec_l6Enclosed = runF (X_spec_l6Enclosed N P_spec_l2Has P_spec_l2In P_spec_l6Steps P_spec_l6Beside P_spec_l2Empty P_spec_l2With P_spec_l2All) B_spec_l6Enclosed As_spec_l6Enclosed R_spec_l6Enclosed M_spec_l6Enclosed := hid_eq _
noncomputable def C_spec_l6Enclosed : Contract := ⟨As_spec_l6Enclosed, R_spec_l6Enclosed, M_spec_l6Enclosed, P_spec_l6Enclosed⟩
theorem s_spec_l6Enclosed : Sound Try.prog GG 70 C_spec_l6Enclosed := by
  unfold C_spec_l6Enclosed; rw [h_spec_l6Enclosed]
  exact sound_of_run (fn := Try.f70) hmix hstable (tyOK_of ttOK) (hglob (X_spec_l6Enclosed N P_spec_l2Has P_spec_l2In P_spec_l6Steps P_spec_l6Beside P_spec_l2Empty P_spec_l2With P_spec_l2All)) (conOK_of (X := X_spec_l6Enclosed N P_spec_l2Has P_spec_l2In P_spec_l6Steps P_spec_l6Beside P_spec_l2Empty P_spec_l2With P_spec_l2All) ⟨s_spec_l2Has, s_spec_l2In, s_spec_l6Steps, s_spec_l6Beside, s_spec_l2Empty, s_spec_l2With, s_spec_l2All, trivial⟩) (mconOK_of (X := X_spec_l6Enclosed N P_spec_l2Has P_spec_l2In P_spec_l6Steps P_spec_l6Beside P_spec_l2Empty P_spec_l2With P_spec_l2All) trivial) (by kernel_rfl) (by kernel_rfl) (by kernel_rfl) (by kernel_rfl) (by kernel_rfl) (of_decide_eq_true (by kernel_rfl))
noncomputable def l_spec_l6Enclosed_4 : Nat → Int → Int → Int → (List D_A3) → Int → Int → Int → (List D_A3) → Int → Int → Int → Int → Int → Int → Int → Int → Int → Int → Int → Int → Int → Int → Int → Int → Int → Int → (List D_A3) → Int → Option (denL R_spec_l6Enclosed) := hid (fun m0 p0 p1 p2 p3 p4 p5 p6 p7 p8 p9 p10 p11 p12 p13 p14 p15 p16 p17 p18 p19 p20 p21 p22 p23 p24 p25 p26 p27 => L_spec_l6Enclosed_4 N P_spec_l2Has P_spec_l2In P_spec_l6Steps P_spec_l6Beside P_spec_l2Empty P_spec_l2With P_spec_l2All m0 p0 p1 p2 p3 p4 p5 p6 p7 p8 p9 p10 p11 p12 p13 p14 p15 p16 p17 p18 p19 p20 p21 p22 p23 p24 p25 p26 p27)
theorem h_spec_l6Enclosed_4 : l_spec_l6Enclosed_4 = fun m0 p0 p1 p2 p3 p4 p5 p6 p7 p8 p9 p10 p11 p12 p13 p14 p15 p16 p17 p18 p19 p20 p21 p22 p23 p24 p25 p26 p27 => L_spec_l6Enclosed_4 N P_spec_l2Has P_spec_l2In P_spec_l6Steps P_spec_l6Beside P_spec_l2Empty P_spec_l2With P_spec_l2All m0 p0 p1 p2 p3 p4 p5 p6 p7 p8 p9 p10 p11 p12 p13 p14 p15 p16 p17 p18 p19 p20 p21 p22 p23 p24 p25 p26 p27 := hid_eq _
noncomputable def l_spec_l6Enclosed_7 : Nat → Nat → Int → Int → Int → (List D_A3) → Int → Int → Int → (List D_A3) → Int → Int → Int → Int → Int → Int → Int → Int → Int → Int → Int → Int → Int → Int → Int → Int → Int → Int → (List D_A3) → Int → Int → Option (denL R_spec_l6Enclosed) := hid (fun m0 m1 p0 p1 p2 p3 p4 p5 p6 p7 p8 p9 p10 p11 p12 p13 p14 p15 p16 p17 p18 p19 p20 p21 p22 p23 p24 p25 p26 p27 p28 => L_spec_l6Enclosed_7 N P_spec_l2Has P_spec_l2In P_spec_l6Steps P_spec_l6Beside P_spec_l2Empty P_spec_l2With P_spec_l2All m0 m1 p0 p1 p2 p3 p4 p5 p6 p7 p8 p9 p10 p11 p12 p13 p14 p15 p16 p17 p18 p19 p20 p21 p22 p23 p24 p25 p26 p27 p28)
theorem h_spec_l6Enclosed_7 : l_spec_l6Enclosed_7 = fun m0 m1 p0 p1 p2 p3 p4 p5 p6 p7 p8 p9 p10 p11 p12 p13 p14 p15 p16 p17 p18 p19 p20 p21 p22 p23 p24 p25 p26 p27 p28 => L_spec_l6Enclosed_7 N P_spec_l2Has P_spec_l2In P_spec_l6Steps P_spec_l6Beside P_spec_l2Empty P_spec_l2With P_spec_l2All m0 m1 p0 p1 p2 p3 p4 p5 p6 p7 p8 p9 p10 p11 p12 p13 p14 p15 p16 p17 p18 p19 p20 p21 p22 p23 p24 p25 p26 p27 p28 := hid_eq _
noncomputable def l_spec_l6Enclosed_15 : Nat → Int → Int → Int → (List D_A3) → Int → Int → Int → (List D_A3) → Int → Int → Int → Int → Int → Int → Int → Int → Int → Int → Int → Int → Int → Int → Int → Int → Int → Int → (List D_A3) → Int → Option (denL R_spec_l6Enclosed) := hid (fun m0 p0 p1 p2 p3 p4 p5 p6 p7 p8 p9 p10 p11 p12 p13 p14 p15 p16 p17 p18 p19 p20 p21 p22 p23 p24 p25 p26 p27 => L_spec_l6Enclosed_15 N P_spec_l2Has P_spec_l2In P_spec_l6Steps P_spec_l6Beside P_spec_l2Empty P_spec_l2With P_spec_l2All m0 p0 p1 p2 p3 p4 p5 p6 p7 p8 p9 p10 p11 p12 p13 p14 p15 p16 p17 p18 p19 p20 p21 p22 p23 p24 p25 p26 p27)
theorem h_spec_l6Enclosed_15 : l_spec_l6Enclosed_15 = fun m0 p0 p1 p2 p3 p4 p5 p6 p7 p8 p9 p10 p11 p12 p13 p14 p15 p16 p17 p18 p19 p20 p21 p22 p23 p24 p25 p26 p27 => L_spec_l6Enclosed_15 N P_spec_l2Has P_spec_l2In P_spec_l6Steps P_spec_l6Beside P_spec_l2Empty P_spec_l2With P_spec_l2All m0 p0 p1 p2 p3 p4 p5 p6 p7 p8 p9 p10 p11 p12 p13 p14 p15 p16 p17 p18 p19 p20 p21 p22 p23 p24 p25 p26 p27 := hid_eq _
noncomputable def l_spec_l6Enclosed_10 : Nat → Nat → Nat → Int → Int → Int → (List D_A3) → Int → Int → Int → (List D_A3) → Int → Int → Int → Int → Int → Int → Int → Int → Int → Int → Int → Int → Int → Int → Int → Int → Int → Int → (List D_A3) → Int → Int → Int → Option (denL R_spec_l6Enclosed) := hid (fun m0 m1 m2 p0 p1 p2 p3 p4 p5 p6 p7 p8 p9 p10 p11 p12 p13 p14 p15 p16 p17 p18 p19 p20 p21 p22 p23 p24 p25 p26 p27 p28 p29 => L_spec_l6Enclosed_10 N P_spec_l2Has P_spec_l2In P_spec_l6Steps P_spec_l6Beside P_spec_l2Empty P_spec_l2With P_spec_l2All m0 m1 m2 p0 p1 p2 p3 p4 p5 p6 p7 p8 p9 p10 p11 p12 p13 p14 p15 p16 p17 p18 p19 p20 p21 p22 p23 p24 p25 p26 p27 p28 p29)
theorem h_spec_l6Enclosed_10 : l_spec_l6Enclosed_10 = fun m0 m1 m2 p0 p1 p2 p3 p4 p5 p6 p7 p8 p9 p10 p11 p12 p13 p14 p15 p16 p17 p18 p19 p20 p21 p22 p23 p24 p25 p26 p27 p28 p29 => L_spec_l6Enclosed_10 N P_spec_l2Has P_spec_l2In P_spec_l6Steps P_spec_l6Beside P_spec_l2Empty P_spec_l2With P_spec_l2All m0 m1 m2 p0 p1 p2 p3 p4 p5 p6 p7 p8 p9 p10 p11 p12 p13 p14 p15 p16 p17 p18 p19 p20 p21 p22 p23 p24 p25 p26 p27 p28 p29 := hid_eq _
noncomputable def l_spec_l6Enclosed_18 : Nat → Nat → Int → Int → Int → (List D_A3) → Int → Int → Int → (List D_A3) → Int → Int → Int → Int → Int → Int → Int → Int → Int → Int → Int → Int → Int → Int → Int → Int → Int → Int → (List D_A3) → Int → Int → Option (denL R_spec_l6Enclosed) := hid (fun m0 m1 p0 p1 p2 p3 p4 p5 p6 p7 p8 p9 p10 p11 p12 p13 p14 p15 p16 p17 p18 p19 p20 p21 p22 p23 p24 p25 p26 p27 p28 => L_spec_l6Enclosed_18 N P_spec_l2Has P_spec_l2In P_spec_l6Steps P_spec_l6Beside P_spec_l2Empty P_spec_l2With P_spec_l2All m0 m1 p0 p1 p2 p3 p4 p5 p6 p7 p8 p9 p10 p11 p12 p13 p14 p15 p16 p17 p18 p19 p20 p21 p22 p23 p24 p25 p26 p27 p28)
theorem h_spec_l6Enclosed_18 : l_spec_l6Enclosed_18 = fun m0 m1 p0 p1 p2 p3 p4 p5 p6 p7 p8 p9 p10 p11 p12 p13 p14 p15 p16 p17 p18 p19 p20 p21 p22 p23 p24 p25 p26 p27 p28 => L_spec_l6Enclosed_18 N P_spec_l2Has P_spec_l2In P_spec_l6Steps P_spec_l6Beside P_spec_l2Empty P_spec_l2With P_spec_l2All m0 m1 p0 p1 p2 p3 p4 p5 p6 p7 p8 p9 p10 p11 p12 p13 p14 p15 p16 p17 p18 p19 p20 p21 p22 p23 p24 p25 p26 p27 p28 := hid_eq _
noncomputable def l_spec_l6Enclosed_26 : Nat → Int → Int → Int → (List D_A3) → Int → Int → Int → (List D_A3) → (List D_A3) → (List D_A3) → Int → Option (denL R_spec_l6Enclosed) := hid (fun m0 p0 p1 p2 p3 p4 p5 p6 p7 p8 p9 p10 => L_spec_l6Enclosed_26 N P_spec_l2Has P_spec_l2In P_spec_l6Steps P_spec_l6Beside P_spec_l2Empty P_spec_l2With P_spec_l2All m0 p0 p1 p2 p3 p4 p5 p6 p7 p8 p9 p10)
theorem h_spec_l6Enclosed_26 : l_spec_l6Enclosed_26 = fun m0 p0 p1 p2 p3 p4 p5 p6 p7 p8 p9 p10 => L_spec_l6Enclosed_26 N P_spec_l2Has P_spec_l2In P_spec_l6Steps P_spec_l6Beside P_spec_l2Empty P_spec_l2With P_spec_l2All m0 p0 p1 p2 p3 p4 p5 p6 p7 p8 p9 p10 := hid_eq _
theorem p_spec_l6Enclosed (a0 : D_Heap) : P_spec_l6Enclosed (a0, ()) = 
  Option.bind (P_spec_l2Empty (a0.1, a0.2.1, a0.2.2.1, ())) fun r0 =>
  Option.bind (P_spec_l6Steps (())) fun r1 =>
  l_spec_l6Enclosed_4 N a0.1 a0.2.1 a0.2.2.1 a0.2.2.2.1 r0.1.1 r0.1.2.1 r0.1.2.2.1 r0.1.2.2.2.1 r1.1.1.1 r1.1.1.2.1 r1.1.1.2.2.1 r1.1.2.1.1 r1.1.2.1.2.1 r1.1.2.1.2.2.1 r1.1.2.2.1.1 r1.1.2.2.1.2.1 r1.1.2.2.1.2.2.1 r1.1.2.2.2.1.1 r1.1.2.2.2.1.2.1 r1.1.2.2.2.1.2.2.1 r1.1.2.2.2.2.1.1 r1.1.2.2.2.2.1.2.1 r1.1.2.2.2.2.1.2.2.1 r1.1.2.2.2.2.2.1.1 r1.1.2.2.2.2.2.1.2.1 r1.1.2.2.2.2.2.1.2.2.1 ([] : List D_A3) (-1) := by
  rewrite [h_spec_l6Enclosed, h_spec_l6Enclosed_4]
  exact e_spec_l6Enclosed N P_spec_l2Has P_spec_l2In P_spec_l6Steps P_spec_l6Beside P_spec_l2Empty P_spec_l2With P_spec_l2All a0
theorem q_spec_l6Enclosed_4 (m0 : Nat) (p0 : Int) (p1 : Int) (p2 : Int) (p3 : List D_A3) (p4 : Int) (p5 : Int) (p6 : Int) (p7 : List D_A3) (p8 : Int) (p9 : Int) (p10 : Int) (p11 : Int) (p12 : Int) (p13 : Int) (p14 : Int) (p15 : Int) (p16 : Int) (p17 : Int) (p18 : Int) (p19 : Int) (p20 : Int) (p21 : Int) (p22 : Int) (p23 : Int) (p24 : Int) (p25 : Int) (p26 : List D_A3) (p27 : Int) : l_spec_l6Enclosed_4 (m0 + 1) p0 p1 p2 p3 p4 p5 p6 p7 p8 p9 p10 p11 p12 p13 p14 p15 p16 p17 p18 p19 p20 p21 p22 p23 p24 p25 p26 p27 = 
  bif decide (p27 ≤ p0) then
    l_spec_l6Enclosed_7 m0 N p0 p1 p2 p3 p4 p5 p6 p7 p8 p9 p10 p11 p12 p13 p14 p15 p16 p17 p18 p19 p20 p21 p22 p23 p24 p25 p26 p27 (-1)
  else
    l_spec_l6Enclosed_15 N p0 p1 p2 p3 p4 p5 p6 p7 p8 p9 p10 p11 p12 p13 p14 p15 p16 p17 p18 p19 p20 p21 p22 p23 p24 p25 p26 0 := by
  rewrite [h_spec_l6Enclosed_4, h_spec_l6Enclosed_7, h_spec_l6Enclosed_15]
  exact e_spec_l6Enclosed_4 N P_spec_l2Has P_spec_l2In P_spec_l6Steps P_spec_l6Beside P_spec_l2Empty P_spec_l2With P_spec_l2All m0 p0 p1 p2 p3 p4 p5 p6 p7 p8 p9 p10 p11 p12 p13 p14 p15 p16 p17 p18 p19 p20 p21 p22 p23 p24 p25 p26 p27
theorem q_spec_l6Enclosed_7 (m0 m1 : Nat) (p0 : Int) (p1 : Int) (p2 : Int) (p3 : List D_A3) (p4 : Int) (p5 : Int) (p6 : Int) (p7 : List D_A3) (p8 : Int) (p9 : Int) (p10 : Int) (p11 : Int) (p12 : Int) (p13 : Int) (p14 : Int) (p15 : Int) (p16 : Int) (p17 : Int) (p18 : Int) (p19 : Int) (p20 : Int) (p21 : Int) (p22 : Int) (p23 : Int) (p24 : Int) (p25 : Int) (p26 : List D_A3) (p27 : Int) (p28 : Int) : l_spec_l6Enclosed_7 m0 (m1 + 1) p0 p1 p2 p3 p4 p5 p6 p7 p8 p9 p10 p11 p12 p13 p14 p15 p16 p17 p18 p19 p20 p21 p22 p23 p24 p25 p26 p27 p28 = 
  bif decide (p28 ≤ p1) then
    l_spec_l6Enclosed_10 m0 m1 N p0 p1 p2 p3 p4 p5 p6 p7 p8 p9 p10 p11 p12 p13 p14 p15 p16 p17 p18 p19 p20 p21 p22 p23 p24 p25 p26 p27 p28 (-1)
  else
    l_spec_l6Enclosed_4 m0 p0 p1 p2 p3 p4 p5 p6 p7 p8 p9 p10 p11 p12 p13 p14 p15 p16 p17 p18 p19 p20 p21 p22 p23 p24 p25 p26 (IntKind.wrap .i64 (p27 + 1)) := by
  rewrite [h_spec_l6Enclosed_4, h_spec_l6Enclosed_7, h_spec_l6Enclosed_10]
  exact e_spec_l6Enclosed_7 N P_spec_l2Has P_spec_l2In P_spec_l6Steps P_spec_l6Beside P_spec_l2Empty P_spec_l2With P_spec_l2All m0 m1 p0 p1 p2 p3 p4 p5 p6 p7 p8 p9 p10 p11 p12 p13 p14 p15 p16 p17 p18 p19 p20 p21 p22 p23 p24 p25 p26 p27 p28
theorem q_spec_l6Enclosed_15 (m0 : Nat) (p0 : Int) (p1 : Int) (p2 : Int) (p3 : List D_A3) (p4 : Int) (p5 : Int) (p6 : Int) (p7 : List D_A3) (p8 : Int) (p9 : Int) (p10 : Int) (p11 : Int) (p12 : Int) (p13 : Int) (p14 : Int) (p15 : Int) (p16 : Int) (p17 : Int) (p18 : Int) (p19 : Int) (p20 : Int) (p21 : Int) (p22 : Int) (p23 : Int) (p24 : Int) (p25 : Int) (p26 : List D_A3) (p27 : Int) : l_spec_l6Enclosed_15 (m0 + 1) p0 p1 p2 p3 p4 p5 p6 p7 p8 p9 p10 p11 p12 p13 p14 p15 p16 p17 p18 p19 p20 p21 p22 p23 p24 p25 p26 p27 = 
  bif decide (p27 < (List.length p26 : Int)) then
    l_spec_l6Enclosed_18 m0 N p0 p1 p2 p3 p4 p5 p6 p7 p8 p9 p10 p11 p12 p13 p14 p15 p16 p17 p18 p19 p20 p21 p22 p23 p24 p25 p26 p27 0
  else
    Option.bind (P_spec_l2All ((p0, (p1, (p2, (p3, ())))), ())) fun r1 =>
    l_spec_l6Enclosed_26 N p0 p1 p2 p3 p4 p5 p6 p7 ([] : List D_A3) r1.1 0 := by
  rewrite [h_spec_l6Enclosed_15, h_spec_l6Enclosed_18, h_spec_l6Enclosed_26]
  exact e_spec_l6Enclosed_15 N P_spec_l2Has P_spec_l2In P_spec_l6Steps P_spec_l6Beside P_spec_l2Empty P_spec_l2With P_spec_l2All m0 p0 p1 p2 p3 p4 p5 p6 p7 p8 p9 p10 p11 p12 p13 p14 p15 p16 p17 p18 p19 p20 p21 p22 p23 p24 p25 p26 p27
theorem q_spec_l6Enclosed_10 (m0 m1 m2 : Nat) (p0 : Int) (p1 : Int) (p2 : Int) (p3 : List D_A3) (p4 : Int) (p5 : Int) (p6 : Int) (p7 : List D_A3) (p8 : Int) (p9 : Int) (p10 : Int) (p11 : Int) (p12 : Int) (p13 : Int) (p14 : Int) (p15 : Int) (p16 : Int) (p17 : Int) (p18 : Int) (p19 : Int) (p20 : Int) (p21 : Int) (p22 : Int) (p23 : Int) (p24 : Int) (p25 : Int) (p26 : List D_A3) (p27 : Int) (p28 : Int) (p29 : Int) : l_spec_l6Enclosed_10 m0 m1 (m2 + 1) p0 p1 p2 p3 p4 p5 p6 p7 p8 p9 p10 p11 p12 p13 p14 p15 p16 p17 p18 p19 p20 p21 p22 p23 p24 p25 p26 p27 p28 p29 = 
  bif decide (p29 ≤ p2) then
    Option.bind (P_spec_l2In ((p0, (p1, (p2, (p3, ())))), (p27, (p28, (p29, ()))), ())) fun r1 =>
    bif !r1.1 then
      bif (decide (((List.length p26) + (List.length ([(p27, (p28, (p29, ())))] : List D_A3))) * 24 ≤ 140737488355328) && decide (((List.length p26) + (List.length ([(p27, (p28, (p29, ())))] : List D_A3))) ≤ 140737488355328)) then
        l_spec_l6Enclosed_10 m0 m1 m2 p0 p1 p2 p3 p4 p5 p6 p7 p8 p9 p10 p11 p12 p13 p14 p15 p16 p17 p18 p19 p20 p21 p22 p23 p24 p25 (p26 ++ ([(p27, (p28, (p29, ())))] : List D_A3)) p27 p28 (IntKind.wrap .i64 (p29 + 1))
      else none
    else
      l_spec_l6Enclosed_10 m0 m1 m2 p0 p1 p2 p3 p4 p5 p6 p7 p8 p9 p10 p11 p12 p13 p14 p15 p16 p17 p18 p19 p20 p21 p22 p23 p24 p25 p26 p27 p28 (IntKind.wrap .i64 (p29 + 1))
  else
    l_spec_l6Enclosed_7 m0 m1 p0 p1 p2 p3 p4 p5 p6 p7 p8 p9 p10 p11 p12 p13 p14 p15 p16 p17 p18 p19 p20 p21 p22 p23 p24 p25 p26 p27 (IntKind.wrap .i64 (p28 + 1)) := by
  rewrite [h_spec_l6Enclosed_7, h_spec_l6Enclosed_10]
  exact e_spec_l6Enclosed_10 N P_spec_l2Has P_spec_l2In P_spec_l6Steps P_spec_l6Beside P_spec_l2Empty P_spec_l2With P_spec_l2All m0 m1 m2 p0 p1 p2 p3 p4 p5 p6 p7 p8 p9 p10 p11 p12 p13 p14 p15 p16 p17 p18 p19 p20 p21 p22 p23 p24 p25 p26 p27 p28 p29
theorem q_spec_l6Enclosed_18 (m0 m1 : Nat) (p0 : Int) (p1 : Int) (p2 : Int) (p3 : List D_A3) (p4 : Int) (p5 : Int) (p6 : Int) (p7 : List D_A3) (p8 : Int) (p9 : Int) (p10 : Int) (p11 : Int) (p12 : Int) (p13 : Int) (p14 : Int) (p15 : Int) (p16 : Int) (p17 : Int) (p18 : Int) (p19 : Int) (p20 : Int) (p21 : Int) (p22 : Int) (p23 : Int) (p24 : Int) (p25 : Int) (p26 : List D_A3) (p27 : Int) (p28 : Int) : l_spec_l6Enclosed_18 m0 (m1 + 1) p0 p1 p2 p3 p4 p5 p6 p7 p8 p9 p10 p11 p12 p13 p14 p15 p16 p17 p18 p19 p20 p21 p22 p23 p24 p25 p26 p27 p28 = 
  bif decide (p28 < 6) then
    bif inB p27 (List.length p26) then
      bif inB p28 6 then
        Option.bind (P_spec_l6Beside ((nth T_A3 p26 p27), ((bif decide (p28 = (0 : Int)) then p8 else (bif decide (p28 = (1 : Int)) then p11 else (bif decide (p28 = (2 : Int)) then p14 else (bif decide (p28 = (3 : Int)) then p17 else (bif decide (p28 = (4 : Int)) then p20 else p23))))), ((bif decide (p28 = (0 : Int)) then p9 else (bif decide (p28 = (1 : Int)) then p12 else (bif decide (p28 = (2 : Int)) then p15 else (bif decide (p28 = (3 : Int)) then p18 else (bif decide (p28 = (4 : Int)) then p21 else p24))))), ((bif decide (p28 = (0 : Int)) then p10 else (bif decide (p28 = (1 : Int)) then p13 else (bif decide (p28 = (2 : Int)) then p16 else (bif decide (p28 = (3 : Int)) then p19 else (bif decide (p28 = (4 : Int)) then p22 else p25))))), ()))), ())) fun r3 =>
        Option.bind (P_spec_l2In ((p0, (p1, (p2, (p3, ())))), r3.1, ())) fun r4 =>
        bif r4.1 then
          Option.bind (P_spec_l2Has ((p0, (p1, (p2, (p3, ())))), r3.1, ())) fun r6 =>
          bif !r6.1 then
            Option.bind (P_spec_l2Has ((p4, (p5, (p6, (p7, ())))), r3.1, ())) fun r8 =>
            bif !r8.1 then
              Option.bind (P_spec_l2With ((p4, (p5, (p6, (p7, ())))), r3.1, ())) fun r10 =>
              bif (decide (((List.length p26) + (List.length ([r3.1] : List D_A3))) * 24 ≤ 140737488355328) && decide (((List.length p26) + (List.length ([r3.1] : List D_A3))) ≤ 140737488355328)) then
                l_spec_l6Enclosed_18 m0 m1 p0 p1 p2 p3 r10.1.1 r10.1.2.1 r10.1.2.2.1 r10.1.2.2.2.1 p8 p9 p10 p11 p12 p13 p14 p15 p16 p17 p18 p19 p20 p21 p22 p23 p24 p25 (p26 ++ ([r3.1] : List D_A3)) p27 (IntKind.wrap .i64 (p28 + 1))
              else none
            else
              l_spec_l6Enclosed_18 m0 m1 p0 p1 p2 p3 p4 p5 p6 p7 p8 p9 p10 p11 p12 p13 p14 p15 p16 p17 p18 p19 p20 p21 p22 p23 p24 p25 p26 p27 (IntKind.wrap .i64 (p28 + 1))
          else
            l_spec_l6Enclosed_18 m0 m1 p0 p1 p2 p3 p4 p5 p6 p7 p8 p9 p10 p11 p12 p13 p14 p15 p16 p17 p18 p19 p20 p21 p22 p23 p24 p25 p26 p27 (IntKind.wrap .i64 (p28 + 1))
        else
          l_spec_l6Enclosed_18 m0 m1 p0 p1 p2 p3 p4 p5 p6 p7 p8 p9 p10 p11 p12 p13 p14 p15 p16 p17 p18 p19 p20 p21 p22 p23 p24 p25 p26 p27 (IntKind.wrap .i64 (p28 + 1))
      else none
    else none
  else
    l_spec_l6Enclosed_15 m0 p0 p1 p2 p3 p4 p5 p6 p7 p8 p9 p10 p11 p12 p13 p14 p15 p16 p17 p18 p19 p20 p21 p22 p23 p24 p25 p26 (IntKind.wrap .i64 (p27 + 1)) := by
  rewrite [h_spec_l6Enclosed_15, h_spec_l6Enclosed_18]
  exact e_spec_l6Enclosed_18 N P_spec_l2Has P_spec_l2In P_spec_l6Steps P_spec_l6Beside P_spec_l2Empty P_spec_l2With P_spec_l2All m0 m1 p0 p1 p2 p3 p4 p5 p6 p7 p8 p9 p10 p11 p12 p13 p14 p15 p16 p17 p18 p19 p20 p21 p22 p23 p24 p25 p26 p27 p28
theorem q_spec_l6Enclosed_26 (m0 : Nat) (p0 : Int) (p1 : Int) (p2 : Int) (p3 : List D_A3) (p4 : Int) (p5 : Int) (p6 : Int) (p7 : List D_A3) (p8 : List D_A3) (p9 : List D_A3) (p10 : Int) : l_spec_l6Enclosed_26 (m0 + 1) p0 p1 p2 p3 p4 p5 p6 p7 p8 p9 p10 = 
  bif decide (p10 < (List.length p9 : Int)) then
    bif inB p10 (List.length p9) then
      Option.bind (P_spec_l2Has ((p0, (p1, (p2, (p3, ())))), (nth T_A3 p9 p10), ())) fun r2 =>
      bif !r2.1 then
        bif inB p10 (List.length p9) then
          Option.bind (P_spec_l2Has ((p4, (p5, (p6, (p7, ())))), (nth T_A3 p9 p10), ())) fun r5 =>
          bif !r5.1 then
            bif inB p10 (List.length p9) then
              bif (decide (((List.length p8) + (List.length ([(nth T_A3 p9 p10)] : List D_A3))) * 24 ≤ 140737488355328) && decide (((List.length p8) + (List.length ([(nth T_A3 p9 p10)] : List D_A3))) ≤ 140737488355328)) then
                l_spec_l6Enclosed_26 m0 p0 p1 p2 p3 p4 p5 p6 p7 (p8 ++ ([(nth T_A3 p9 p10)] : List D_A3)) p9 (IntKind.wrap .i64 (p10 + 1))
              else none
            else none
          else
            l_spec_l6Enclosed_26 m0 p0 p1 p2 p3 p4 p5 p6 p7 p8 p9 (IntKind.wrap .i64 (p10 + 1))
        else none
      else
        l_spec_l6Enclosed_26 m0 p0 p1 p2 p3 p4 p5 p6 p7 p8 p9 (IntKind.wrap .i64 (p10 + 1))
    else none
  else
    some (p8, ()) := by
  rewrite [h_spec_l6Enclosed_26]
  exact e_spec_l6Enclosed_26 N P_spec_l2Has P_spec_l2In P_spec_l6Steps P_spec_l6Beside P_spec_l2Empty P_spec_l2With P_spec_l2All m0 p0 p1 p2 p3 p4 p5 p6 p7 p8 p9 p10

/- 38: loop.example/g01166/spec.l11Hidden -/
abbrev As_spec_l11Hidden : List ATy := [.data true T_Heap, .data false .bool]
abbrev R_spec_l11Hidden : List (Bool × Ty) := [(true, T_Heap)]
abbrev M_spec_l11Hidden : List RMode := [.own 25]
abbrev Ft_spec_l11Hidden : Type := D_Heap × Bool × Unit → Option (D_Heap × Unit)
noncomputable def X_spec_l11Hidden (n : Nat) (F_spec_l2Made : Ft_spec_l2Made) (F_spec_l6Enclosed : Ft_spec_l6Enclosed) (F_spec_l2Empty : Ft_spec_l2Empty) : Ctx := { types := TT, globals := [], con := [(69, ⟨As_spec_l2Made, R_spec_l2Made, M_spec_l2Made, F_spec_l2Made⟩), (70, ⟨As_spec_l6Enclosed, R_spec_l6Enclosed, M_spec_l6Enclosed, F_spec_l6Enclosed⟩), (71, ⟨As_spec_l2Empty, R_spec_l2Empty, M_spec_l2Empty, F_spec_l2Empty⟩)], keep := [], results := [.cell 4 29], ntmps := 17, n := n }
noncomputable def B_spec_l11Hidden : Code := (Try.f38.body).getD .skip
theorem e_spec_l11Hidden (n : Nat) (F_spec_l2Made : Ft_spec_l2Made) (F_spec_l6Enclosed : Ft_spec_l6Enclosed) (F_spec_l2Empty : Ft_spec_l2Empty) (a0 : D_Heap) (a1 : Bool) : runF (X_spec_l11Hidden n F_spec_l2Made F_spec_l6Enclosed F_spec_l2Empty) B_spec_l11Hidden As_spec_l11Hidden R_spec_l11Hidden M_spec_l11Hidden (a0, a1, ()) = 
  bif a1 then
    Option.bind (F_spec_l6Enclosed (a0, ())) fun r1 =>
    Option.bind (F_spec_l2Made (a0, r1.1, ())) fun r2 =>
    some ((r2.1.1, (r2.1.2.1, (r2.1.2.2.1, (r1.1, ())))), ())
  else
    Option.bind (F_spec_l2Empty (a0.1, a0.2.1, a0.2.2.1, ())) fun r1 =>
    some (r1.1, ()) := by kernel_rfl
noncomputable def P_spec_l11Hidden : Ft_spec_l11Hidden := hid (runF (X_spec_l11Hidden N P_spec_l2Made P_spec_l6Enclosed P_spec_l2Empty) B_spec_l11Hidden As_spec_l11Hidden R_spec_l11Hidden M_spec_l11Hidden)
theorem h_spec_l11Hidden : P_spec_l11Hidden = runF (X_spec_l11Hidden N P_spec_l2Made P_spec_l6Enclosed P_spec_l2Empty) B_spec_l11Hidden As_spec_l11Hidden R_spec_l11Hidden M_spec_l11Hidden := hid_eq _
noncomputable def C_spec_l11Hidden : Contract := ⟨As_spec_l11Hidden, R_spec_l11Hidden, M_spec_l11Hidden, P_spec_l11Hidden⟩
theorem s_spec_l11Hidden : Sound Try.prog GG 38 C_spec_l11Hidden := by
  unfold C_spec_l11Hidden; rw [h_spec_l11Hidden]
  exact sound_of_run (fn := Try.f38) hmix hstable (tyOK_of ttOK) (hglob (X_spec_l11Hidden N P_spec_l2Made P_spec_l6Enclosed P_spec_l2Empty)) (conOK_of (X := X_spec_l11Hidden N P_spec_l2Made P_spec_l6Enclosed P_spec_l2Empty) ⟨s_spec_l2Made, s_spec_l6Enclosed, s_spec_l2Empty, trivial⟩) (mconOK_of (X := X_spec_l11Hidden N P_spec_l2Made P_spec_l6Enclosed P_spec_l2Empty) trivial) (by kernel_rfl) (by kernel_rfl) (by kernel_rfl) (by kernel_rfl) (by kernel_rfl) (of_decide_eq_true (by kernel_rfl))
theorem p_spec_l11Hidden (a0 : D_Heap) (a1 : Bool) : P_spec_l11Hidden (a0, a1, ()) = 
  bif a1 then
    Option.bind (P_spec_l6Enclosed (a0, ())) fun r1 =>
    Option.bind (P_spec_l2Made (a0, r1.1, ())) fun r2 =>
    some ((r2.1.1, (r2.1.2.1, (r2.1.2.2.1, (r1.1, ())))), ())
  else
    Option.bind (P_spec_l2Empty (a0.1, a0.2.1, a0.2.2.1, ())) fun r1 =>
    some (r1.1, ()) := by
  rewrite [h_spec_l11Hidden]
  exact e_spec_l11Hidden N P_spec_l2Made P_spec_l6Enclosed P_spec_l2Empty a0 a1

/- 9: loop.example/g01166/spec.PaintedFaces -/
abbrev As_spec_PaintedFaces : List ATy := [.data true T_Heap, .data true T_A3, .data false .bool]
abbrev R_spec_PaintedFaces : List (Bool × Ty) := [(false, (.int .i64)), (false, .bool)]
abbrev M_spec_PaintedFaces : List RMode := []
abbrev Ft_spec_PaintedFaces : Type := D_Heap × D_A3 × Bool × Unit → Option (Int × Bool × Unit)
noncomputable def X_spec_PaintedFaces (n : Nat) (F_spec_l2Cell : Ft_spec_l2Cell) (F_spec_l2Has : Ft_spec_l2Has) (F_spec_l11Painted : Ft_spec_l11Painted) (F_spec_l11Hidden : Ft_spec_l11Hidden) : Ctx := { types := TT, globals := [], con := [(35, ⟨As_spec_l2Cell, R_spec_l2Cell, M_spec_l2Cell, F_spec_l2Cell⟩), (36, ⟨As_spec_l2Has, R_spec_l2Has, M_spec_l2Has, F_spec_l2Has⟩), (37, ⟨As_spec_l11Painted, R_spec_l11Painted, M_spec_l11Painted, F_spec_l11Painted⟩), (38, ⟨As_spec_l11Hidden, R_spec_l11Hidden, M_spec_l11Hidden, F_spec_l11Hidden⟩)], keep := [], results := [.tmp 6, .tmp 7], ntmps := 24, n := n }
noncomputable def B_spec_PaintedFaces : Code := (Try.f9.body).getD .skip
theorem e_spec_PaintedFaces (n : Nat) (F_spec_l2Cell : Ft_spec_l2Cell) (F_spec_l2Has : Ft_spec_l2Has) (F_spec_l11Painted : Ft_spec_l11Painted) (F_spec_l11Hidden : Ft_spec_l11Hidden) (a0 : D_Heap) (a1 : D_A3) (a2 : Bool) : runF (X_spec_PaintedFaces n F_spec_l2Cell F_spec_l2Has F_spec_l11Painted F_spec_l11Hidden) B_spec_PaintedFaces As_spec_PaintedFaces R_spec_PaintedFaces M_spec_PaintedFaces (a0, a1, a2, ()) = 
  Option.bind (F_spec_l2Cell (a0, a1, ())) fun r0 =>
  bif !r0.1 then
    some (0, false, ())
  else
    Option.bind (F_spec_l2Has (a0, a1, ())) fun r2 =>
    bif !r2.1 then
      some (0, false, ())
    else
      Option.bind (F_spec_l11Hidden (a0, a2, ())) fun r4 =>
      Option.bind (F_spec_l11Painted (a0, r4.1, a1, ())) fun r5 =>
      some (r5.1, true, ()) := by kernel_rfl
noncomputable def P_spec_PaintedFaces : Ft_spec_PaintedFaces := hid (runF (X_spec_PaintedFaces N P_spec_l2Cell P_spec_l2Has P_spec_l11Painted P_spec_l11Hidden) B_spec_PaintedFaces As_spec_PaintedFaces R_spec_PaintedFaces M_spec_PaintedFaces)
theorem h_spec_PaintedFaces : P_spec_PaintedFaces = runF (X_spec_PaintedFaces N P_spec_l2Cell P_spec_l2Has P_spec_l11Painted P_spec_l11Hidden) B_spec_PaintedFaces As_spec_PaintedFaces R_spec_PaintedFaces M_spec_PaintedFaces := hid_eq _
noncomputable def C_spec_PaintedFaces : Contract := ⟨As_spec_PaintedFaces, R_spec_PaintedFaces, M_spec_PaintedFaces, P_spec_PaintedFaces⟩
theorem s_spec_PaintedFaces : Sound Try.prog GG 9 C_spec_PaintedFaces := by
  unfold C_spec_PaintedFaces; rw [h_spec_PaintedFaces]
  exact sound_of_run (fn := Try.f9) hmix hstable (tyOK_of ttOK) (hglob (X_spec_PaintedFaces N P_spec_l2Cell P_spec_l2Has P_spec_l11Painted P_spec_l11Hidden)) (conOK_of (X := X_spec_PaintedFaces N P_spec_l2Cell P_spec_l2Has P_spec_l11Painted P_spec_l11Hidden) ⟨s_spec_l2Cell, s_spec_l2Has, s_spec_l11Painted, s_spec_l11Hidden, trivial⟩) (mconOK_of (X := X_spec_PaintedFaces N P_spec_l2Cell P_spec_l2Has P_spec_l11Painted P_spec_l11Hidden) trivial) (by kernel_rfl) (by kernel_rfl) (by kernel_rfl) (by kernel_rfl) (by kernel_rfl) (of_decide_eq_true (by kernel_rfl))
theorem p_spec_PaintedFaces (a0 : D_Heap) (a1 : D_A3) (a2 : Bool) : P_spec_PaintedFaces (a0, a1, a2, ()) = 
  Option.bind (P_spec_l2Cell (a0, a1, ())) fun r0 =>
  bif !r0.1 then
    some (0, false, ())
  else
    Option.bind (P_spec_l2Has (a0, a1, ())) fun r2 =>
    bif !r2.1 then
      some (0, false, ())
    else
      Option.bind (P_spec_l11Hidden (a0, a2, ())) fun r4 =>
      Option.bind (P_spec_l11Painted (a0, r4.1, a1, ())) fun r5 =>
      some (r5.1, true, ()) := by
  rewrite [h_spec_PaintedFaces]
  exact e_spec_PaintedFaces N P_spec_l2Cell P_spec_l2Has P_spec_l11Painted P_spec_l11Hidden a0 a1 a2

/- 11: loop.example/g01166/laws.toIntA3 -/
abbrev As_laws_toIntA3 : List ATy := [.data true T_A3]
abbrev R_laws_toIntA3 : List (Bool × Ty) := [(true, T_A3)]
abbrev M_laws_toIntA3 : List RMode := []
abbrev Ft_laws_toIntA3 : Type := D_A3 × Unit → Option (D_A3 × Unit)
noncomputable def X_laws_toIntA3 (n : Nat) : Ctx := { types := TT, globals := [], con := [], keep := [(3, ⟨[.box 1, .box 2, .box 3, .tmp 1, .tmp 2, .tmp 3, .tmp 4], []⟩)], results := [.cell 2 25], ntmps := 15, n := n }
noncomputable def B_laws_toIntA3 : Code := (Try.f11.body).getD .skip
noncomputable def L_laws_toIntA3_3 (n : Nat) (m0 : Nat) (p0 : Int) (p1 : Int) (p2 : Int) (p3 : Int) (p4 : Int) (p5 : Int) (p6 : Int) (p7 : Int) (p8 : Int) (p9 : Int) : Option (denL R_laws_toIntA3) := loopF (X_laws_toIntA3 n) B_laws_toIntA3 R_laws_toIntA3 M_laws_toIntA3 3 [m0] [(.ver, .num 1), (.box 1, .box 0 false [.int .i64 p0, .int .i64 p1, .int .i64 p2]), (.box 2, .box 0 false [.int .i64 p3, .int .i64 p4, .int .i64 p5]), (.box 3, .box 0 false [.int .i64 p6, .int .i64 p7, .int .i64 p8]), (.tmp 1, .val false [.addr 1 0 0]), (.tmp 2, .val false [.addr 2 0 0]), (.tmp 3, .val false [.addr 3 0 0]), (.tmp 4, .val false [.int .i64 p9])]
theorem e_laws_toIntA3 (n : Nat) (a0 : D_A3) : runF (X_laws_toIntA3 n) B_laws_toIntA3 As_laws_toIntA3 R_laws_toIntA3 M_laws_toIntA3 (a0, ()) = 
  L_laws_toIntA3_3 n n a0.1 a0.2.1 a0.2.2.1 0 0 0 0 0 0 0 := by kernel_rfl
theorem e_laws_toIntA3_3 (n : Nat) (m0 : Nat) (p0 : Int) (p1 : Int) (p2 : Int) (p3 : Int) (p4 : Int) (p5 : Int) (p6 : Int) (p7 : Int) (p8 : Int) (p9 : Int) : L_laws_toIntA3_3 n (m0 + 1) p0 p1 p2 p3 p4 p5 p6 p7 p8 p9 = 
  bif decide (p9 < 3) then
    bif inB p9 3 then
      bif inB p9 3 then
        L_laws_toIntA3_3 n m0 p0 p1 p2 p3 p4 p5 (bif decide (p9 = (0 : Int)) then (bif decide (p9 = (0 : Int)) then p0 else (bif decide (p9 = (1 : Int)) then p1 else p2)) else p6) (bif decide (p9 = (1 : Int)) then (bif decide (p9 = (0 : Int)) then p0 else (bif decide (p9 = (1 : Int)) then p1 else p2)) else p7) (bif decide (p9 = (2 : Int)) then (bif decide (p9 = (0 : Int)) then p0 else (bif decide (p9 = (1 : Int)) then p1 else p2)) else p8) (IntKind.wrap .i64 (p9 + 1))
      else none
    else none
  else
    some ((p6, (p7, (p8, ()))), ()) := by kernel_rfl
noncomputable def P_laws_toIntA3 : Ft_laws_toIntA3 := hid (runF (X_laws_toIntA3 N) B_laws_toIntA3 As_laws_toIntA3 R_laws_toIntA3 M_laws_toIntA3)
theorem h_laws_toIntA3 : P_laws_toIntA3 = runF (X_laws_toIntA3 N) B_laws_toIntA3 As_laws_toIntA3 R_laws_toIntA3 M_laws_toIntA3 := hid_eq _
noncomputable def C_laws_toIntA3 : Contract := ⟨As_laws_toIntA3, R_laws_toIntA3, M_laws_toIntA3, P_laws_toIntA3⟩
theorem s_laws_toIntA3 : Sound Try.prog GG 11 C_laws_toIntA3 := by
  unfold C_laws_toIntA3; rw [h_laws_toIntA3]
  exact sound_of_run (fn := Try.f11) hmix hstable (tyOK_of ttOK) (hglob (X_laws_toIntA3 N)) (conOK_of (X := X_laws_toIntA3 N) trivial) (mconOK_of (X := X_laws_toIntA3 N) trivial) (by kernel_rfl) (by kernel_rfl) (by kernel_rfl) (by kernel_rfl) (by kernel_rfl) (of_decide_eq_true (by kernel_rfl))
noncomputable def l_laws_toIntA3_3 : Nat → Int → Int → Int → Int → Int → Int → Int → Int → Int → Int → Option (denL R_laws_toIntA3) := hid (fun m0 p0 p1 p2 p3 p4 p5 p6 p7 p8 p9 => L_laws_toIntA3_3 N m0 p0 p1 p2 p3 p4 p5 p6 p7 p8 p9)
theorem h_laws_toIntA3_3 : l_laws_toIntA3_3 = fun m0 p0 p1 p2 p3 p4 p5 p6 p7 p8 p9 => L_laws_toIntA3_3 N m0 p0 p1 p2 p3 p4 p5 p6 p7 p8 p9 := hid_eq _
theorem p_laws_toIntA3 (a0 : D_A3) : P_laws_toIntA3 (a0, ()) = 
  l_laws_toIntA3_3 N a0.1 a0.2.1 a0.2.2.1 0 0 0 0 0 0 0 := by
  rewrite [h_laws_toIntA3, h_laws_toIntA3_3]
  exact e_laws_toIntA3 N a0
theorem q_laws_toIntA3_3 (m0 : Nat) (p0 : Int) (p1 : Int) (p2 : Int) (p3 : Int) (p4 : Int) (p5 : Int) (p6 : Int) (p7 : Int) (p8 : Int) (p9 : Int) : l_laws_toIntA3_3 (m0 + 1) p0 p1 p2 p3 p4 p5 p6 p7 p8 p9 = 
  bif decide (p9 < 3) then
    bif inB p9 3 then
      bif inB p9 3 then
        l_laws_toIntA3_3 m0 p0 p1 p2 p3 p4 p5 (bif decide (p9 = (0 : Int)) then (bif decide (p9 = (0 : Int)) then p0 else (bif decide (p9 = (1 : Int)) then p1 else p2)) else p6) (bif decide (p9 = (1 : Int)) then (bif decide (p9 = (0 : Int)) then p0 else (bif decide (p9 = (1 : Int)) then p1 else p2)) else p7) (bif decide (p9 = (2 : Int)) then (bif decide (p9 = (0 : Int)) then p0 else (bif decide (p9 = (1 : Int)) then p1 else p2)) else p8) (IntKind.wrap .i64 (p9 + 1))
      else none
    else none
  else
    some ((p6, (p7, (p8, ()))), ()) := by
  rewrite [h_laws_toIntA3_3]
  exact e_laws_toIntA3_3 N m0 p0 p1 p2 p3 p4 p5 p6 p7 p8 p9

/- 39: loop.example/g01166/laws.toIntA3S -/
abbrev As_laws_toIntA3S : List ATy := [.data false (.sl T_A3)]
abbrev R_laws_toIntA3S : List (Bool × Ty) := [(false, (.sl T_A3))]
abbrev M_laws_toIntA3S : List RMode := [.own 25]
abbrev Ft_laws_toIntA3S : Type := (List D_A3) × Unit → Option ((List D_A3) × Unit)
noncomputable def X_laws_toIntA3S (n : Nat) (F_laws_toIntA3 : Ft_laws_toIntA3) : Ctx := { types := TT, globals := [], con := [(11, ⟨As_laws_toIntA3, R_laws_toIntA3, M_laws_toIntA3, F_laws_toIntA3⟩)], keep := [(3, ⟨[.tmp 0, .tmp 3, .tmp 4], []⟩)], results := [.tmp 2], ntmps := 23, n := n }
noncomputable def B_laws_toIntA3S : Code := (Try.f39.body).getD .skip
noncomputable def L_laws_toIntA3S_3 (n : Nat) (F_laws_toIntA3 : Ft_laws_toIntA3) (m0 : Nat) (p0 : List D_A3) (p1 : List D_A3) (p2 : Int) : Option (denL R_laws_toIntA3S) := loopF (X_laws_toIntA3S n F_laws_toIntA3) B_laws_toIntA3S R_laws_toIntA3S M_laws_toIntA3S 3 [m0] [(.ver, .num 1), (.tmp 0, .val false [.imm T_A3 p0 (some 0)]), (.tmp 3, .val false [.own 25 T_A3 0 p1]), (.tmp 4, .val false [.int .i64 p2])]
theorem e_laws_toIntA3S (n : Nat) (F_laws_toIntA3 : Ft_laws_toIntA3) (a0 : List D_A3) : runF (X_laws_toIntA3S n F_laws_toIntA3) B_laws_toIntA3S As_laws_toIntA3S R_laws_toIntA3S M_laws_toIntA3S (a0, ()) = 
  bif (decide ((0 : Int) ≤ (List.length a0 : Int)) && decide (((List.length a0 : Int) : Int) ≤ (List.length a0 : Int)) && decide (((List.length a0 : Int) : Int) * (24 : Nat) ≤ 140737488355328) && decide (((List.length a0 : Int) : Int) ≤ 140737488355328)) then
    L_laws_toIntA3S_3 n F_laws_toIntA3 n a0 (List.replicate (Int.toNat (List.length a0 : Int)) (Ty.dflt T_A3)) 0
  else none := by kernel_rfl
theorem e_laws_toIntA3S_3 (n : Nat) (F_laws_toIntA3 : Ft_laws_toIntA3) (m0 : Nat) (p0 : List D_A3) (p1 : List D_A3) (p2 : Int) : L_laws_toIntA3S_3 n F_laws_toIntA3 (m0 + 1) p0 p1 p2 = 
  bif decide (p2 < (List.length p0 : Int)) then
    bif inB p2 (List.length p0) then
      Option.bind (F_laws_toIntA3 ((nth T_A3 p0 p2), ())) fun r2 =>
      bif inB p2 (List.length p1) then
        L_laws_toIntA3S_3 n F_laws_toIntA3 m0 p0 (List.set p1 (Int.toNat p2) r2.1) (IntKind.wrap .i64 (p2 + 1))
      else none
    else none
  else
    some (p1, ()) := by kernel_rfl
noncomputable def P_laws_toIntA3S : Ft_laws_toIntA3S := hid (runF (X_laws_toIntA3S N P_laws_toIntA3) B_laws_toIntA3S As_laws_toIntA3S R_laws_toIntA3S M_laws_toIntA3S)
theorem h_laws_toIntA3S : P_laws_toIntA3S = runF (X_laws_toIntA3S N P_laws_toIntA3) B_laws_toIntA3S As_laws_toIntA3S R_laws_toIntA3S M_laws_toIntA3S := hid_eq _
noncomputable def C_laws_toIntA3S : Contract := ⟨As_laws_toIntA3S, R_laws_toIntA3S, M_laws_toIntA3S, P_laws_toIntA3S⟩
theorem s_laws_toIntA3S : Sound Try.prog GG 39 C_laws_toIntA3S := by
  unfold C_laws_toIntA3S; rw [h_laws_toIntA3S]
  exact sound_of_run (fn := Try.f39) hmix hstable (tyOK_of ttOK) (hglob (X_laws_toIntA3S N P_laws_toIntA3)) (conOK_of (X := X_laws_toIntA3S N P_laws_toIntA3) ⟨s_laws_toIntA3, trivial⟩) (mconOK_of (X := X_laws_toIntA3S N P_laws_toIntA3) trivial) (by kernel_rfl) (by kernel_rfl) (by kernel_rfl) (by kernel_rfl) (by kernel_rfl) (of_decide_eq_true (by kernel_rfl))
noncomputable def l_laws_toIntA3S_3 : Nat → (List D_A3) → (List D_A3) → Int → Option (denL R_laws_toIntA3S) := hid (fun m0 p0 p1 p2 => L_laws_toIntA3S_3 N P_laws_toIntA3 m0 p0 p1 p2)
theorem h_laws_toIntA3S_3 : l_laws_toIntA3S_3 = fun m0 p0 p1 p2 => L_laws_toIntA3S_3 N P_laws_toIntA3 m0 p0 p1 p2 := hid_eq _
theorem p_laws_toIntA3S (a0 : List D_A3) : P_laws_toIntA3S (a0, ()) = 
  bif (decide ((0 : Int) ≤ (List.length a0 : Int)) && decide (((List.length a0 : Int) : Int) ≤ (List.length a0 : Int)) && decide (((List.length a0 : Int) : Int) * (24 : Nat) ≤ 140737488355328) && decide (((List.length a0 : Int) : Int) ≤ 140737488355328)) then
    l_laws_toIntA3S_3 N a0 (List.replicate (Int.toNat (List.length a0 : Int)) (Ty.dflt T_A3)) 0
  else none := by
  rewrite [h_laws_toIntA3S, h_laws_toIntA3S_3]
  exact e_laws_toIntA3S N P_laws_toIntA3 a0
theorem q_laws_toIntA3S_3 (m0 : Nat) (p0 : List D_A3) (p1 : List D_A3) (p2 : Int) : l_laws_toIntA3S_3 (m0 + 1) p0 p1 p2 = 
  bif decide (p2 < (List.length p0 : Int)) then
    bif inB p2 (List.length p0) then
      Option.bind (P_laws_toIntA3 ((nth T_A3 p0 p2), ())) fun r2 =>
      bif inB p2 (List.length p1) then
        l_laws_toIntA3S_3 m0 p0 (List.set p1 (Int.toNat p2) r2.1) (IntKind.wrap .i64 (p2 + 1))
      else none
    else none
  else
    some (p1, ()) := by
  rewrite [h_laws_toIntA3S_3]
  exact e_laws_toIntA3S_3 N P_laws_toIntA3 m0 p0 p1 p2

/- 10: loop.example/g01166/laws.toHeap -/
abbrev As_laws_toHeap : List ATy := [.data true T_Heap]
abbrev R_laws_toHeap : List (Bool × Ty) := [(true, T_Heap)]
abbrev M_laws_toHeap : List RMode := [.own 25]
abbrev Ft_laws_toHeap : Type := D_Heap × Unit → Option (D_Heap × Unit)
noncomputable def X_laws_toHeap (n : Nat) (F_laws_toIntA3S : Ft_laws_toIntA3S) : Ctx := { types := TT, globals := [], con := [(39, ⟨As_laws_toIntA3S, R_laws_toIntA3S, M_laws_toIntA3S, F_laws_toIntA3S⟩)], keep := [], results := [.cell 2 29], ntmps := 18, n := n }
noncomputable def B_laws_toHeap : Code := (Try.f10.body).getD .skip
theorem e_laws_toHeap (n : Nat) (F_laws_toIntA3S : Ft_laws_toIntA3S) (a0 : D_Heap) : runF (X_laws_toHeap n F_laws_toIntA3S) B_laws_toHeap As_laws_toHeap R_laws_toHeap M_laws_toHeap (a0, ()) = 
  Option.bind (F_laws_toIntA3S (a0.2.2.2.1, ())) fun r0 =>
  some ((a0.1, (a0.2.1, (a0.2.2.1, (r0.1, ())))), ()) := by kernel_rfl
noncomputable def P_laws_toHeap : Ft_laws_toHeap := hid (runF (X_laws_toHeap N P_laws_toIntA3S) B_laws_toHeap As_laws_toHeap R_laws_toHeap M_laws_toHeap)
theorem h_laws_toHeap : P_laws_toHeap = runF (X_laws_toHeap N P_laws_toIntA3S) B_laws_toHeap As_laws_toHeap R_laws_toHeap M_laws_toHeap := hid_eq _
noncomputable def C_laws_toHeap : Contract := ⟨As_laws_toHeap, R_laws_toHeap, M_laws_toHeap, P_laws_toHeap⟩
theorem s_laws_toHeap : Sound Try.prog GG 10 C_laws_toHeap := by
  unfold C_laws_toHeap; rw [h_laws_toHeap]
  exact sound_of_run (fn := Try.f10) hmix hstable (tyOK_of ttOK) (hglob (X_laws_toHeap N P_laws_toIntA3S)) (conOK_of (X := X_laws_toHeap N P_laws_toIntA3S) ⟨s_laws_toIntA3S, trivial⟩) (mconOK_of (X := X_laws_toHeap N P_laws_toIntA3S) trivial) (by kernel_rfl) (by kernel_rfl) (by kernel_rfl) (by kernel_rfl) (by kernel_rfl) (of_decide_eq_true (by kernel_rfl))
theorem p_laws_toHeap (a0 : D_Heap) : P_laws_toHeap (a0, ()) = 
  Option.bind (P_laws_toIntA3S (a0.2.2.2.1, ())) fun r0 =>
  some ((a0.1, (a0.2.1, (a0.2.2.1, (r0.1, ())))), ()) := by
  rewrite [h_laws_toHeap]
  exact e_laws_toHeap N P_laws_toIntA3S a0

/- 52: (loop.example/g01166/impl.Heap).box -/
abbrev As_Heap_box : List ATy := [.data true T_Heap]
abbrev R_Heap_box : List (Bool × Ty) := [(true, T_A3)]
abbrev M_Heap_box : List RMode := []
abbrev Ft_Heap_box : Type := D_Heap × Unit → Option (D_A3 × Unit)
noncomputable def X_Heap_box (n : Nat) : Ctx := { types := TT, globals := [], con := [], keep := [], results := [.cell 2 77], ntmps := 10, n := n }
noncomputable def B_Heap_box : Code := (Try.f52.body).getD .skip
theorem e_Heap_box (n : Nat) (a0 : D_Heap) : runF (X_Heap_box n) B_Heap_box As_Heap_box R_Heap_box M_Heap_box (a0, ()) = 
  some ((a0.1, (a0.2.1, (a0.2.2.1, ()))), ()) := by kernel_rfl
noncomputable def P_Heap_box : Ft_Heap_box := hid (runF (X_Heap_box N) B_Heap_box As_Heap_box R_Heap_box M_Heap_box)
theorem h_Heap_box : P_Heap_box = runF (X_Heap_box N) B_Heap_box As_Heap_box R_Heap_box M_Heap_box := hid_eq _
noncomputable def C_Heap_box : Contract := ⟨As_Heap_box, R_Heap_box, M_Heap_box, P_Heap_box⟩
theorem s_Heap_box : Sound Try.prog GG 52 C_Heap_box := by
  unfold C_Heap_box; rw [h_Heap_box]
  exact sound_of_run (fn := Try.f52) hmix hstable (tyOK_of ttOK) (hglob (X_Heap_box N)) (conOK_of (X := X_Heap_box N) trivial) (mconOK_of (X := X_Heap_box N) trivial) (by kernel_rfl) (by kernel_rfl) (by kernel_rfl) (by kernel_rfl) (by kernel_rfl) (of_decide_eq_true (by kernel_rfl))
theorem p_Heap_box (a0 : D_Heap) : P_Heap_box (a0, ()) = 
  some ((a0.1, (a0.2.1, (a0.2.2.1, ()))), ()) := by
  rewrite [h_Heap_box]
  exact e_Heap_box N a0

/- 91: loop.example/g01166/impl.within -/
abbrev As_impl_within : List ATy := [.data false (.int .i64), .data false (.int .i64), .data false (.int .i64)]
abbrev R_impl_within : List (Bool × Ty) := [(false, .bool)]
abbrev M_impl_within : List RMode := []
abbrev Ft_impl_within : Type := Int × Int × Int × Unit → Option (Bool × Unit)
noncomputable def X_impl_within (n : Nat) : Ctx := { types := TT, globals := [], con := [], keep := [], results := [.tmp 6], ntmps := 15, n := n }
noncomputable def B_impl_within : Code := (Try.f91.body).getD .skip
theorem e_impl_within (n : Nat) (a0 : Int) (a1 : Int) (a2 : Int) : runF (X_impl_within n) B_impl_within As_impl_within R_impl_within M_impl_within (a0, a1, a2, ()) = 
  bif decide (a0 ≥ a1) then
    some (decide (a0 ≤ a2), ())
  else
    some (false, ()) := by kernel_rfl
noncomputable def P_impl_within : Ft_impl_within := hid (runF (X_impl_within N) B_impl_within As_impl_within R_impl_within M_impl_within)
theorem h_impl_within : P_impl_within = runF (X_impl_within N) B_impl_within As_impl_within R_impl_within M_impl_within := hid_eq _
noncomputable def C_impl_within : Contract := ⟨As_impl_within, R_impl_within, M_impl_within, P_impl_within⟩
theorem s_impl_within : Sound Try.prog GG 91 C_impl_within := by
  unfold C_impl_within; rw [h_impl_within]
  exact sound_of_run (fn := Try.f91) hmix hstable (tyOK_of ttOK) (hglob (X_impl_within N)) (conOK_of (X := X_impl_within N) trivial) (mconOK_of (X := X_impl_within N) trivial) (by kernel_rfl) (by kernel_rfl) (by kernel_rfl) (by kernel_rfl) (by kernel_rfl) (of_decide_eq_true (by kernel_rfl))
theorem p_impl_within (a0 : Int) (a1 : Int) (a2 : Int) : P_impl_within (a0, a1, a2, ()) = 
  bif decide (a0 ≥ a1) then
    some (decide (a0 ≤ a2), ())
  else
    some (false, ()) := by
  rewrite [h_impl_within]
  exact e_impl_within N a0 a1 a2

/- 72: (loop.example/g01166/impl.box).has -/
abbrev As_box_has : List ATy := [.data true T_A3, .data true T_A3]
abbrev R_box_has : List (Bool × Ty) := [(false, .bool)]
abbrev M_box_has : List RMode := []
abbrev Ft_box_has : Type := D_A3 × D_A3 × Unit → Option (Bool × Unit)
noncomputable def X_box_has (n : Nat) (F_impl_within : Ft_impl_within) : Ctx := { types := TT, globals := [], con := [(91, ⟨As_impl_within, R_impl_within, M_impl_within, F_impl_within⟩)], keep := [], results := [.tmp 4], ntmps := 27, n := n }
noncomputable def B_box_has : Code := (Try.f72.body).getD .skip
theorem e_box_has (n : Nat) (F_impl_within : Ft_impl_within) (a0 : D_A3) (a1 : D_A3) : runF (X_box_has n F_impl_within) B_box_has As_box_has R_box_has M_box_has (a0, a1, ()) = 
  Option.bind (F_impl_within (a1.1, 0, (IntKind.wrap .i64 (a0.1 - 1)), ())) fun r0 =>
  bif r0.1 then
    Option.bind (F_impl_within (a1.2.1, 0, (IntKind.wrap .i64 (a0.2.1 - 1)), ())) fun r2 =>
    bif r2.1 then
      Option.bind (F_impl_within (a1.2.2.1, 0, (IntKind.wrap .i64 (a0.2.2.1 - 1)), ())) fun r4 =>
      some (r4.1, ())
    else
      some (false, ())
  else
    some (false, ()) := by kernel_rfl
noncomputable def P_box_has : Ft_box_has := hid (runF (X_box_has N P_impl_within) B_box_has As_box_has R_box_has M_box_has)
theorem h_box_has : P_box_has = runF (X_box_has N P_impl_within) B_box_has As_box_has R_box_has M_box_has := hid_eq _
noncomputable def C_box_has : Contract := ⟨As_box_has, R_box_has, M_box_has, P_box_has⟩
theorem s_box_has : Sound Try.prog GG 72 C_box_has := by
  unfold C_box_has; rw [h_box_has]
  exact sound_of_run (fn := Try.f72) hmix hstable (tyOK_of ttOK) (hglob (X_box_has N P_impl_within)) (conOK_of (X := X_box_has N P_impl_within) ⟨s_impl_within, trivial⟩) (mconOK_of (X := X_box_has N P_impl_within) trivial) (by kernel_rfl) (by kernel_rfl) (by kernel_rfl) (by kernel_rfl) (by kernel_rfl) (of_decide_eq_true (by kernel_rfl))
theorem p_box_has (a0 : D_A3) (a1 : D_A3) : P_box_has (a0, a1, ()) = 
  Option.bind (P_impl_within (a1.1, 0, (IntKind.wrap .i64 (a0.1 - 1)), ())) fun r0 =>
  bif r0.1 then
    Option.bind (P_impl_within (a1.2.1, 0, (IntKind.wrap .i64 (a0.2.1 - 1)), ())) fun r2 =>
    bif r2.1 then
      Option.bind (P_impl_within (a1.2.2.1, 0, (IntKind.wrap .i64 (a0.2.2.1 - 1)), ())) fun r4 =>
      some (r4.1, ())
    else
      some (false, ())
  else
    some (false, ()) := by
  rewrite [h_box_has]
  exact e_box_has N P_impl_within a0 a1

/- 81: (loop.example/g01166/impl.box).valid -/
abbrev As_box_valid : List ATy := [.data true T_A3]
abbrev R_box_valid : List (Bool × Ty) := [(false, .bool)]
abbrev M_box_valid : List RMode := []
abbrev Ft_box_valid : Type := D_A3 × Unit → Option (Bool × Unit)
noncomputable def X_box_valid (n : Nat) (F_impl_within : Ft_impl_within) : Ctx := { types := TT, globals := [], con := [(91, ⟨As_impl_within, R_impl_within, M_impl_within, F_impl_within⟩)], keep := [], results := [.tmp 2], ntmps := 16, n := n }
noncomputable def B_box_valid : Code := (Try.f81.body).getD .skip
theorem e_box_valid (n : Nat) (F_impl_within : Ft_impl_within) (a0 : D_A3) : runF (X_box_valid n F_impl_within) B_box_valid As_box_valid R_box_valid M_box_valid (a0, ()) = 
  Option.bind (F_impl_within (a0.1, 1, 4, ())) fun r0 =>
  bif r0.1 then
    Option.bind (F_impl_within (a0.2.1, 1, 4, ())) fun r2 =>
    bif r2.1 then
      Option.bind (F_impl_within (a0.2.2.1, 1, 4, ())) fun r4 =>
      some (r4.1, ())
    else
      some (false, ())
  else
    some (false, ()) := by kernel_rfl
noncomputable def P_box_valid : Ft_box_valid := hid (runF (X_box_valid N P_impl_within) B_box_valid As_box_valid R_box_valid M_box_valid)
theorem h_box_valid : P_box_valid = runF (X_box_valid N P_impl_within) B_box_valid As_box_valid R_box_valid M_box_valid := hid_eq _
noncomputable def C_box_valid : Contract := ⟨As_box_valid, R_box_valid, M_box_valid, P_box_valid⟩
theorem s_box_valid : Sound Try.prog GG 81 C_box_valid := by
  unfold C_box_valid; rw [h_box_valid]
  exact sound_of_run (fn := Try.f81) hmix hstable (tyOK_of ttOK) (hglob (X_box_valid N P_impl_within)) (conOK_of (X := X_box_valid N P_impl_within) ⟨s_impl_within, trivial⟩) (mconOK_of (X := X_box_valid N P_impl_within) trivial) (by kernel_rfl) (by kernel_rfl) (by kernel_rfl) (by kernel_rfl) (by kernel_rfl) (of_decide_eq_true (by kernel_rfl))
theorem p_box_valid (a0 : D_A3) : P_box_valid (a0, ()) = 
  Option.bind (P_impl_within (a0.1, 1, 4, ())) fun r0 =>
  bif r0.1 then
    Option.bind (P_impl_within (a0.2.1, 1, 4, ())) fun r2 =>
    bif r2.1 then
      Option.bind (P_impl_within (a0.2.2.1, 1, 4, ())) fun r4 =>
      some (r4.1, ())
    else
      some (false, ())
  else
    some (false, ()) := by
  rewrite [h_box_valid]
  exact e_box_valid N P_impl_within a0

/- 122: cmp.isNaN[int] -/
abbrev As_cmp_isNaN_int : List ATy := [.data false (.int .i64)]
abbrev R_cmp_isNaN_int : List (Bool × Ty) := [(false, .bool)]
abbrev M_cmp_isNaN_int : List RMode := []
abbrev Ft_cmp_isNaN_int : Type := Int × Unit → Option (Bool × Unit)
noncomputable def X_cmp_isNaN_int (n : Nat) : Ctx := { types := TT, globals := [], con := [], keep := [], results := [.tmp 2], ntmps := 6, n := n }
noncomputable def B_cmp_isNaN_int : Code := (Try.f122.body).getD .skip
theorem e_cmp_isNaN_int (n : Nat) (a0 : Int) : runF (X_cmp_isNaN_int n) B_cmp_isNaN_int As_cmp_isNaN_int R_cmp_isNaN_int M_cmp_isNaN_int (a0, ()) = 
  some (!decide (a0 = a0), ()) := by kernel_rfl
noncomputable def P_cmp_isNaN_int : Ft_cmp_isNaN_int := hid (runF (X_cmp_isNaN_int N) B_cmp_isNaN_int As_cmp_isNaN_int R_cmp_isNaN_int M_cmp_isNaN_int)
theorem h_cmp_isNaN_int : P_cmp_isNaN_int = runF (X_cmp_isNaN_int N) B_cmp_isNaN_int As_cmp_isNaN_int R_cmp_isNaN_int M_cmp_isNaN_int := hid_eq _
noncomputable def C_cmp_isNaN_int : Contract := ⟨As_cmp_isNaN_int, R_cmp_isNaN_int, M_cmp_isNaN_int, P_cmp_isNaN_int⟩
theorem s_cmp_isNaN_int : Sound Try.prog GG 122 C_cmp_isNaN_int := by
  unfold C_cmp_isNaN_int; rw [h_cmp_isNaN_int]
  exact sound_of_run (fn := Try.f122) hmix hstable (tyOK_of ttOK) (hglob (X_cmp_isNaN_int N)) (conOK_of (X := X_cmp_isNaN_int N) trivial) (mconOK_of (X := X_cmp_isNaN_int N) trivial) (by kernel_rfl) (by kernel_rfl) (by kernel_rfl) (by kernel_rfl) (by kernel_rfl) (of_decide_eq_true (by kernel_rfl))
theorem p_cmp_isNaN_int (a0 : Int) : P_cmp_isNaN_int (a0, ()) = 
  some (!decide (a0 = a0), ()) := by
  rewrite [h_cmp_isNaN_int]
  exact e_cmp_isNaN_int N a0

/- 117: cmp.Compare[int] -/
abbrev As_cmp_Compare_int : List ATy := [.data false (.int .i64), .data false (.int .i64)]
abbrev R_cmp_Compare_int : List (Bool × Ty) := [(false, (.int .i64))]
abbrev M_cmp_Compare_int : List RMode := []
abbrev Ft_cmp_Compare_int : Type := Int × Int × Unit → Option (Int × Unit)
noncomputable def X_cmp_Compare_int (n : Nat) (F_cmp_isNaN_int : Ft_cmp_isNaN_int) : Ctx := { types := TT, globals := [], con := [(122, ⟨As_cmp_isNaN_int, R_cmp_isNaN_int, M_cmp_isNaN_int, F_cmp_isNaN_int⟩)], keep := [], results := [.tmp 4], ntmps := 20, n := n }
noncomputable def B_cmp_Compare_int : Code := (Try.f117.body).getD .skip
theorem e_cmp_Compare_int (n : Nat) (F_cmp_isNaN_int : Ft_cmp_isNaN_int) (a0 : Int) (a1 : Int) : runF (X_cmp_Compare_int n F_cmp_isNaN_int) B_cmp_Compare_int As_cmp_Compare_int R_cmp_Compare_int M_cmp_Compare_int (a0, a1, ()) = 
  Option.bind (F_cmp_isNaN_int (a0, ())) fun r0 =>
  Option.bind (F_cmp_isNaN_int (a1, ())) fun r1 =>
  bif r0.1 then
    bif r1.1 then
      some (0, ())
    else
      some ((-1), ())
  else
    bif r1.1 then
      some (1, ())
    else
      bif decide (a0 < a1) then
        some ((-1), ())
      else
        bif decide (a0 > a1) then
          some (1, ())
        else
          some (0, ()) := by kernel_rfl
noncomputable def P_cmp_Compare_int : Ft_cmp_Compare_int := hid (runF (X_cmp_Compare_int N P_cmp_isNaN_int) B_cmp_Compare_int As_cmp_Compare_int R_cmp_Compare_int M_cmp_Compare_int)
theorem h_cmp_Compare_int : P_cmp_Compare_int = runF (X_cmp_Compare_int N P_cmp_isNaN_int) B_cmp_Compare_int As_cmp_Compare_int R_cmp_Compare_int M_cmp_Compare_int := hid_eq _
noncomputable def C_cmp_Compare_int : Contract := ⟨As_cmp_Compare_int, R_cmp_Compare_int, M_cmp_Compare_int, P_cmp_Compare_int⟩
theorem s_cmp_Compare_int : Sound Try.prog GG 117 C_cmp_Compare_int := by
  unfold C_cmp_Compare_int; rw [h_cmp_Compare_int]
  exact sound_of_run (fn := Try.f117) hmix hstable (tyOK_of ttOK) (hglob (X_cmp_Compare_int N P_cmp_isNaN_int)) (conOK_of (X := X_cmp_Compare_int N P_cmp_isNaN_int) ⟨s_cmp_isNaN_int, trivial⟩) (mconOK_of (X := X_cmp_Compare_int N P_cmp_isNaN_int) trivial) (by kernel_rfl) (by kernel_rfl) (by kernel_rfl) (by kernel_rfl) (by kernel_rfl) (of_decide_eq_true (by kernel_rfl))
theorem p_cmp_Compare_int (a0 : Int) (a1 : Int) : P_cmp_Compare_int (a0, a1, ()) = 
  Option.bind (P_cmp_isNaN_int (a0, ())) fun r0 =>
  Option.bind (P_cmp_isNaN_int (a1, ())) fun r1 =>
  bif r0.1 then
    bif r1.1 then
      some (0, ())
    else
      some ((-1), ())
  else
    bif r1.1 then
      some (1, ())
    else
      bif decide (a0 < a1) then
        some ((-1), ())
      else
        bif decide (a0 > a1) then
          some (1, ())
        else
          some (0, ()) := by
  rewrite [h_cmp_Compare_int]
  exact e_cmp_Compare_int N P_cmp_isNaN_int a0 a1

/- 104: slices.Compare[[]int,int] -/
abbrev As_slices_Compare_int_int : List ATy := [.data false (.sl (.int .i64)), .data false (.sl (.int .i64))]
abbrev R_slices_Compare_int_int : List (Bool × Ty) := [(false, (.int .i64))]
abbrev M_slices_Compare_int_int : List RMode := []
abbrev Ft_slices_Compare_int_int : Type := (List Int) × (List Int) × Unit → Option (Int × Unit)
noncomputable def X_slices_Compare_int_int (n : Nat) (F_cmp_Compare_int : Ft_cmp_Compare_int) : Ctx := { types := TT, globals := [], con := [(117, ⟨As_cmp_Compare_int, R_cmp_Compare_int, M_cmp_Compare_int, F_cmp_Compare_int⟩)], keep := [(2, ⟨[.tmp 0, .tmp 1, .tmp 9, .tmp 10, .tmp 11], []⟩)], results := [.tmp 4], ntmps := 36, n := n }
noncomputable def B_slices_Compare_int_int : Code := (Try.f104.body).getD .skip
noncomputable def L_slices_Compare_int_int_2 (n : Nat) (F_cmp_Compare_int : Ft_cmp_Compare_int) (m0 : Nat) (p0 : List Int) (p1 : List Int) (p2 : List Int) (p3 : Int) (p4 : Int) : Option (denL R_slices_Compare_int_int) := loopF (X_slices_Compare_int_int n F_cmp_Compare_int) B_slices_Compare_int_int R_slices_Compare_int_int M_slices_Compare_int_int 2 [m0] [(.ver, .num 1), (.tmp 0, .val false [.imm (.int .i64) p0 (some 0)]), (.tmp 1, .val false [.imm (.int .i64) p1 (some 1)]), (.tmp 9, .val false [.imm (.int .i64) p2 (some 0)]), (.tmp 10, .val false [.int .i64 p3]), (.tmp 11, .val false [.int .i64 p4])]
theorem e_slices_Compare_int_int (n : Nat) (F_cmp_Compare_int : Ft_cmp_Compare_int) (a0 : List Int) (a1 : List Int) : runF (X_slices_Compare_int_int n F_cmp_Compare_int) B_slices_Compare_int_int As_slices_Compare_int_int R_slices_Compare_int_int M_slices_Compare_int_int (a0, a1, ()) = 
  L_slices_Compare_int_int_2 n F_cmp_Compare_int n a0 a1 a0 (List.length a0 : Int) 0 := by kernel_rfl
theorem e_slices_Compare_int_int_2 (n : Nat) (F_cmp_Compare_int : Ft_cmp_Compare_int) (m0 : Nat) (p0 : List Int) (p1 : List Int) (p2 : List Int) (p3 : Int) (p4 : Int) : L_slices_Compare_int_int_2 n F_cmp_Compare_int (m0 + 1) p0 p1 p2 p3 p4 = 
  bif decide (p4 < p3) then
    bif inB p4 (List.length p2) then
      bif decide (p4 ≥ (List.length p1 : Int)) then
        some (1, ())
      else
        bif inB p4 (List.length p1) then
          Option.bind (F_cmp_Compare_int ((nth ((.int .i64) : Ty) p2 p4), (nth ((.int .i64) : Ty) p1 p4), ())) fun r4 =>
          bif !decide (r4.1 = 0) then
            some (r4.1, ())
          else
            L_slices_Compare_int_int_2 n F_cmp_Compare_int m0 p0 p1 p2 p3 (IntKind.wrap .i64 (p4 + 1))
        else none
    else none
  else
    bif decide ((List.length p0 : Int) < (List.length p1 : Int)) then
      some ((-1), ())
    else
      some (0, ()) := by kernel_rfl
noncomputable def P_slices_Compare_int_int : Ft_slices_Compare_int_int := hid (runF (X_slices_Compare_int_int N P_cmp_Compare_int) B_slices_Compare_int_int As_slices_Compare_int_int R_slices_Compare_int_int M_slices_Compare_int_int)
theorem h_slices_Compare_int_int : P_slices_Compare_int_int = runF (X_slices_Compare_int_int N P_cmp_Compare_int) B_slices_Compare_int_int As_slices_Compare_int_int R_slices_Compare_int_int M_slices_Compare_int_int := hid_eq _
noncomputable def C_slices_Compare_int_int : Contract := ⟨As_slices_Compare_int_int, R_slices_Compare_int_int, M_slices_Compare_int_int, P_slices_Compare_int_int⟩
theorem s_slices_Compare_int_int : Sound Try.prog GG 104 C_slices_Compare_int_int := by
  unfold C_slices_Compare_int_int; rw [h_slices_Compare_int_int]
  exact sound_of_run (fn := Try.f104) hmix hstable (tyOK_of ttOK) (hglob (X_slices_Compare_int_int N P_cmp_Compare_int)) (conOK_of (X := X_slices_Compare_int_int N P_cmp_Compare_int) ⟨s_cmp_Compare_int, trivial⟩) (mconOK_of (X := X_slices_Compare_int_int N P_cmp_Compare_int) trivial) (by kernel_rfl) (by kernel_rfl) (by kernel_rfl) (by kernel_rfl) (by kernel_rfl) (of_decide_eq_true (by kernel_rfl))
noncomputable def l_slices_Compare_int_int_2 : Nat → (List Int) → (List Int) → (List Int) → Int → Int → Option (denL R_slices_Compare_int_int) := hid (fun m0 p0 p1 p2 p3 p4 => L_slices_Compare_int_int_2 N P_cmp_Compare_int m0 p0 p1 p2 p3 p4)
theorem h_slices_Compare_int_int_2 : l_slices_Compare_int_int_2 = fun m0 p0 p1 p2 p3 p4 => L_slices_Compare_int_int_2 N P_cmp_Compare_int m0 p0 p1 p2 p3 p4 := hid_eq _
theorem p_slices_Compare_int_int (a0 : List Int) (a1 : List Int) : P_slices_Compare_int_int (a0, a1, ()) = 
  l_slices_Compare_int_int_2 N a0 a1 a0 (List.length a0 : Int) 0 := by
  rewrite [h_slices_Compare_int_int, h_slices_Compare_int_int_2]
  exact e_slices_Compare_int_int N P_cmp_Compare_int a0 a1
theorem q_slices_Compare_int_int_2 (m0 : Nat) (p0 : List Int) (p1 : List Int) (p2 : List Int) (p3 : Int) (p4 : Int) : l_slices_Compare_int_int_2 (m0 + 1) p0 p1 p2 p3 p4 = 
  bif decide (p4 < p3) then
    bif inB p4 (List.length p2) then
      bif decide (p4 ≥ (List.length p1 : Int)) then
        some (1, ())
      else
        bif inB p4 (List.length p1) then
          Option.bind (P_cmp_Compare_int ((nth ((.int .i64) : Ty) p2 p4), (nth ((.int .i64) : Ty) p1 p4), ())) fun r4 =>
          bif !decide (r4.1 = 0) then
            some (r4.1, ())
          else
            l_slices_Compare_int_int_2 m0 p0 p1 p2 p3 (IntKind.wrap .i64 (p4 + 1))
        else none
    else none
  else
    bif decide ((List.length p0 : Int) < (List.length p1 : Int)) then
      some ((-1), ())
    else
      some (0, ()) := by
  rewrite [h_slices_Compare_int_int_2]
  exact e_slices_Compare_int_int_2 N P_cmp_Compare_int m0 p0 p1 p2 p3 p4

/- 82: loop.example/g01166/impl.compareCells -/
abbrev As_impl_compareCells : List ATy := [.data true T_A3, .data true T_A3]
abbrev R_impl_compareCells : List (Bool × Ty) := [(false, (.int .i64))]
abbrev M_impl_compareCells : List RMode := []
abbrev Ft_impl_compareCells : Type := D_A3 × D_A3 × Unit → Option (Int × Unit)
noncomputable def X_impl_compareCells (n : Nat) (F_slices_Compare_int_int : Ft_slices_Compare_int_int) : Ctx := { types := TT, globals := [], con := [(104, ⟨As_slices_Compare_int_int, R_slices_Compare_int_int, M_slices_Compare_int_int, F_slices_Compare_int_int⟩)], keep := [], results := [.tmp 4], ntmps := 8, n := n }
noncomputable def B_impl_compareCells : Code := (Try.f82.body).getD .skip
theorem e_impl_compareCells (n : Nat) (F_slices_Compare_int_int : Ft_slices_Compare_int_int) (a0 : D_A3) (a1 : D_A3) : runF (X_impl_compareCells n F_slices_Compare_int_int) B_impl_compareCells As_impl_compareCells R_impl_compareCells M_impl_compareCells (a0, a1, ()) = 
  Option.bind (F_slices_Compare_int_int (([a0.1, a0.2.1, a0.2.2.1] : List Int), ([a1.1, a1.2.1, a1.2.2.1] : List Int), ())) fun r0 =>
  some (r0.1, ()) := by kernel_rfl
noncomputable def P_impl_compareCells : Ft_impl_compareCells := hid (runF (X_impl_compareCells N P_slices_Compare_int_int) B_impl_compareCells As_impl_compareCells R_impl_compareCells M_impl_compareCells)
theorem h_impl_compareCells : P_impl_compareCells = runF (X_impl_compareCells N P_slices_Compare_int_int) B_impl_compareCells As_impl_compareCells R_impl_compareCells M_impl_compareCells := hid_eq _
noncomputable def C_impl_compareCells : Contract := ⟨As_impl_compareCells, R_impl_compareCells, M_impl_compareCells, P_impl_compareCells⟩
theorem s_impl_compareCells : Sound Try.prog GG 82 C_impl_compareCells := by
  unfold C_impl_compareCells; rw [h_impl_compareCells]
  exact sound_of_run (fn := Try.f82) hmix hstable (tyOK_of ttOK) (hglob (X_impl_compareCells N P_slices_Compare_int_int)) (conOK_of (X := X_impl_compareCells N P_slices_Compare_int_int) ⟨s_slices_Compare_int_int, trivial⟩) (mconOK_of (X := X_impl_compareCells N P_slices_Compare_int_int) trivial) (by kernel_rfl) (by kernel_rfl) (by kernel_rfl) (by kernel_rfl) (by kernel_rfl) (of_decide_eq_true (by kernel_rfl))
theorem p_impl_compareCells (a0 : D_A3) (a1 : D_A3) : P_impl_compareCells (a0, a1, ()) = 
  Option.bind (P_slices_Compare_int_int (([a0.1, a0.2.1, a0.2.2.1] : List Int), ([a1.1, a1.2.1, a1.2.2.1] : List Int), ())) fun r0 =>
  some (r0.1, ()) := by
  rewrite [h_impl_compareCells]
  exact e_impl_compareCells N P_slices_Compare_int_int a0 a1

/- 47: loop.example/g01166/impl.IsHeap -/
abbrev As_impl_IsHeap : List ATy := [.data true T_Heap]
abbrev R_impl_IsHeap : List (Bool × Ty) := [(false, .bool)]
abbrev M_impl_IsHeap : List RMode := []
abbrev Ft_impl_IsHeap : Type := D_Heap × Unit → Option (Bool × Unit)
noncomputable def X_impl_IsHeap (n : Nat) (F_Heap_box : Ft_Heap_box) (F_box_has : Ft_box_has) (F_box_valid : Ft_box_valid) (F_impl_compareCells : Ft_impl_compareCells) : Ctx := { types := TT, globals := [], con := [(52, ⟨As_Heap_box, R_Heap_box, M_Heap_box, F_Heap_box⟩), (72, ⟨As_box_has, R_box_has, M_box_has, F_box_has⟩), (81, ⟨As_box_valid, R_box_valid, M_box_valid, F_box_valid⟩), (82, ⟨As_impl_compareCells, R_impl_compareCells, M_impl_compareCells, F_impl_compareCells⟩)], keep := [(4, ⟨[.box 1, .tmp 1, .tmp 10, .tmp 11, .tmp 12], []⟩)], results := [.tmp 2], ntmps := 38, n := n }
noncomputable def B_impl_IsHeap : Code := (Try.f47.body).getD .skip
noncomputable def L_impl_IsHeap_4 (n : Nat) (F_Heap_box : Ft_Heap_box) (F_box_has : Ft_box_has) (F_box_valid : Ft_box_valid) (F_impl_compareCells : Ft_impl_compareCells) (m0 : Nat) (p0 : Int) (p1 : Int) (p2 : Int) (p3 : List D_A3) (p4 : List D_A3) (p5 : Int) (p6 : Int) : Option (denL R_impl_IsHeap) := loopF (X_impl_IsHeap n F_Heap_box F_box_has F_box_valid F_impl_compareCells) B_impl_IsHeap R_impl_IsHeap M_impl_IsHeap 4 [m0] [(.ver, .num 1), (.box 1, .box 0 false [.int .i64 p0, .int .i64 p1, .int .i64 p2, .imm T_A3 p3 (some 3)]), (.tmp 1, .val false [.addr 1 0 0]), (.tmp 10, .val false [.imm T_A3 p4 (some 3)]), (.tmp 11, .val false [.int .i64 p5]), (.tmp 12, .val false [.int .i64 p6])]
theorem e_impl_IsHeap (n : Nat) (F_Heap_box : Ft_Heap_box) (F_box_has : Ft_box_has) (F_box_valid : Ft_box_valid) (F_impl_compareCells : Ft_impl_compareCells) (a0 : D_Heap) : runF (X_impl_IsHeap n F_Heap_box F_box_has F_box_valid F_impl_compareCells) B_impl_IsHeap As_impl_IsHeap R_impl_IsHeap M_impl_IsHeap (a0, ()) = 
  Option.bind (F_Heap_box (a0, ())) fun r0 =>
  Option.bind (F_box_valid (r0.1, ())) fun r1 =>
  bif !r1.1 then
    some (false, ())
  else
    L_impl_IsHeap_4 n F_Heap_box F_box_has F_box_valid F_impl_compareCells n a0.1 a0.2.1 a0.2.2.1 a0.2.2.2.1 a0.2.2.2.1 (List.length a0.2.2.2.1 : Int) 0 := by kernel_rfl
theorem e_impl_IsHeap_4 (n : Nat) (F_Heap_box : Ft_Heap_box) (F_box_has : Ft_box_has) (F_box_valid : Ft_box_valid) (F_impl_compareCells : Ft_impl_compareCells) (m0 : Nat) (p0 : Int) (p1 : Int) (p2 : Int) (p3 : List D_A3) (p4 : List D_A3) (p5 : Int) (p6 : Int) : L_impl_IsHeap_4 n F_Heap_box F_box_has F_box_valid F_impl_compareCells (m0 + 1) p0 p1 p2 p3 p4 p5 p6 = 
  bif decide (p6 < p5) then
    bif inB p6 (List.length p4) then
      Option.bind (F_Heap_box ((p0, (p1, (p2, (p3, ())))), ())) fun r2 =>
      Option.bind (F_box_has (r2.1, (nth T_A3 p4 p6), ())) fun r3 =>
      bif !r3.1 then
        some (false, ())
      else
        bif decide (p6 > 0) then
          bif inB (IntKind.wrap .i64 (p6 - 1)) (List.length p3) then
            Option.bind (F_impl_compareCells ((nth T_A3 p3 (IntKind.wrap .i64 (p6 - 1))), (nth T_A3 p4 p6), ())) fun r7 =>
            bif decide (r7.1 ≥ 0) then
              some (false, ())
            else
              L_impl_IsHeap_4 n F_Heap_box F_box_has F_box_valid F_impl_compareCells m0 p0 p1 p2 p3 p4 p5 (IntKind.wrap .i64 (p6 + 1))
          else none
        else
          L_impl_IsHeap_4 n F_Heap_box F_box_has F_box_valid F_impl_compareCells m0 p0 p1 p2 p3 p4 p5 (IntKind.wrap .i64 (p6 + 1))
    else none
  else
    some (true, ()) := by kernel_rfl
noncomputable def P_impl_IsHeap : Ft_impl_IsHeap := hid (runF (X_impl_IsHeap N P_Heap_box P_box_has P_box_valid P_impl_compareCells) B_impl_IsHeap As_impl_IsHeap R_impl_IsHeap M_impl_IsHeap)
theorem h_impl_IsHeap : P_impl_IsHeap = runF (X_impl_IsHeap N P_Heap_box P_box_has P_box_valid P_impl_compareCells) B_impl_IsHeap As_impl_IsHeap R_impl_IsHeap M_impl_IsHeap := hid_eq _
noncomputable def C_impl_IsHeap : Contract := ⟨As_impl_IsHeap, R_impl_IsHeap, M_impl_IsHeap, P_impl_IsHeap⟩
theorem s_impl_IsHeap : Sound Try.prog GG 47 C_impl_IsHeap := by
  unfold C_impl_IsHeap; rw [h_impl_IsHeap]
  exact sound_of_run (fn := Try.f47) hmix hstable (tyOK_of ttOK) (hglob (X_impl_IsHeap N P_Heap_box P_box_has P_box_valid P_impl_compareCells)) (conOK_of (X := X_impl_IsHeap N P_Heap_box P_box_has P_box_valid P_impl_compareCells) ⟨s_Heap_box, s_box_has, s_box_valid, s_impl_compareCells, trivial⟩) (mconOK_of (X := X_impl_IsHeap N P_Heap_box P_box_has P_box_valid P_impl_compareCells) trivial) (by kernel_rfl) (by kernel_rfl) (by kernel_rfl) (by kernel_rfl) (by kernel_rfl) (of_decide_eq_true (by kernel_rfl))
noncomputable def l_impl_IsHeap_4 : Nat → Int → Int → Int → (List D_A3) → (List D_A3) → Int → Int → Option (denL R_impl_IsHeap) := hid (fun m0 p0 p1 p2 p3 p4 p5 p6 => L_impl_IsHeap_4 N P_Heap_box P_box_has P_box_valid P_impl_compareCells m0 p0 p1 p2 p3 p4 p5 p6)
theorem h_impl_IsHeap_4 : l_impl_IsHeap_4 = fun m0 p0 p1 p2 p3 p4 p5 p6 => L_impl_IsHeap_4 N P_Heap_box P_box_has P_box_valid P_impl_compareCells m0 p0 p1 p2 p3 p4 p5 p6 := hid_eq _
theorem p_impl_IsHeap (a0 : D_Heap) : P_impl_IsHeap (a0, ()) = 
  Option.bind (P_Heap_box (a0, ())) fun r0 =>
  Option.bind (P_box_valid (r0.1, ())) fun r1 =>
  bif !r1.1 then
    some (false, ())
  else
    l_impl_IsHeap_4 N a0.1 a0.2.1 a0.2.2.1 a0.2.2.2.1 a0.2.2.2.1 (List.length a0.2.2.2.1 : Int) 0 := by
  rewrite [h_impl_IsHeap, h_impl_IsHeap_4]
  exact e_impl_IsHeap N P_Heap_box P_box_has P_box_valid P_impl_compareCells a0
theorem q_impl_IsHeap_4 (m0 : Nat) (p0 : Int) (p1 : Int) (p2 : Int) (p3 : List D_A3) (p4 : List D_A3) (p5 : Int) (p6 : Int) : l_impl_IsHeap_4 (m0 + 1) p0 p1 p2 p3 p4 p5 p6 = 
  bif decide (p6 < p5) then
    bif inB p6 (List.length p4) then
      Option.bind (P_Heap_box ((p0, (p1, (p2, (p3, ())))), ())) fun r2 =>
      Option.bind (P_box_has (r2.1, (nth T_A3 p4 p6), ())) fun r3 =>
      bif !r3.1 then
        some (false, ())
      else
        bif decide (p6 > 0) then
          bif inB (IntKind.wrap .i64 (p6 - 1)) (List.length p3) then
            Option.bind (P_impl_compareCells ((nth T_A3 p3 (IntKind.wrap .i64 (p6 - 1))), (nth T_A3 p4 p6), ())) fun r7 =>
            bif decide (r7.1 ≥ 0) then
              some (false, ())
            else
              l_impl_IsHeap_4 m0 p0 p1 p2 p3 p4 p5 (IntKind.wrap .i64 (p6 + 1))
          else none
        else
          l_impl_IsHeap_4 m0 p0 p1 p2 p3 p4 p5 (IntKind.wrap .i64 (p6 + 1))
    else none
  else
    some (true, ()) := by
  rewrite [h_impl_IsHeap_4]
  exact e_impl_IsHeap_4 N P_Heap_box P_box_has P_box_valid P_impl_compareCells m0 p0 p1 p2 p3 p4 p5 p6

/- 40: loop.example/g01166/impl.isCell -/
abbrev As_impl_isCell : List ATy := [.data true T_Heap, .data true T_A3]
abbrev R_impl_isCell : List (Bool × Ty) := [(false, .bool)]
abbrev M_impl_isCell : List RMode := []
abbrev Ft_impl_isCell : Type := D_Heap × D_A3 × Unit → Option (Bool × Unit)
noncomputable def X_impl_isCell (n : Nat) (F_impl_IsHeap : Ft_impl_IsHeap) (F_Heap_box : Ft_Heap_box) (F_box_has : Ft_box_has) : Ctx := { types := TT, globals := [], con := [(47, ⟨As_impl_IsHeap, R_impl_IsHeap, M_impl_IsHeap, F_impl_IsHeap⟩), (52, ⟨As_Heap_box, R_Heap_box, M_Heap_box, F_Heap_box⟩), (72, ⟨As_box_has, R_box_has, M_box_has, F_box_has⟩)], keep := [], results := [.tmp 4], ntmps := 13, n := n }
noncomputable def B_impl_isCell : Code := (Try.f40.body).getD .skip
theorem e_impl_isCell (n : Nat) (F_impl_IsHeap : Ft_impl_IsHeap) (F_Heap_box : Ft_Heap_box) (F_box_has : Ft_box_has) (a0 : D_Heap) (a1 : D_A3) : runF (X_impl_isCell n F_impl_IsHeap F_Heap_box F_box_has) B_impl_isCell As_impl_isCell R_impl_isCell M_impl_isCell (a0, a1, ()) = 
  Option.bind (F_impl_IsHeap (a0, ())) fun r0 =>
  bif r0.1 then
    Option.bind (F_Heap_box (a0, ())) fun r2 =>
    Option.bind (F_box_has (r2.1, a1, ())) fun r3 =>
    some (r3.1, ())
  else
    some (false, ()) := by kernel_rfl
noncomputable def P_impl_isCell : Ft_impl_isCell := hid (runF (X_impl_isCell N P_impl_IsHeap P_Heap_box P_box_has) B_impl_isCell As_impl_isCell R_impl_isCell M_impl_isCell)
theorem h_impl_isCell : P_impl_isCell = runF (X_impl_isCell N P_impl_IsHeap P_Heap_box P_box_has) B_impl_isCell As_impl_isCell R_impl_isCell M_impl_isCell := hid_eq _
noncomputable def C_impl_isCell : Contract := ⟨As_impl_isCell, R_impl_isCell, M_impl_isCell, P_impl_isCell⟩
theorem s_impl_isCell : Sound Try.prog GG 40 C_impl_isCell := by
  unfold C_impl_isCell; rw [h_impl_isCell]
  exact sound_of_run (fn := Try.f40) hmix hstable (tyOK_of ttOK) (hglob (X_impl_isCell N P_impl_IsHeap P_Heap_box P_box_has)) (conOK_of (X := X_impl_isCell N P_impl_IsHeap P_Heap_box P_box_has) ⟨s_impl_IsHeap, s_Heap_box, s_box_has, trivial⟩) (mconOK_of (X := X_impl_isCell N P_impl_IsHeap P_Heap_box P_box_has) trivial) (by kernel_rfl) (by kernel_rfl) (by kernel_rfl) (by kernel_rfl) (by kernel_rfl) (of_decide_eq_true (by kernel_rfl))
theorem p_impl_isCell (a0 : D_Heap) (a1 : D_A3) : P_impl_isCell (a0, a1, ()) = 
  Option.bind (P_impl_IsHeap (a0, ())) fun r0 =>
  bif r0.1 then
    Option.bind (P_Heap_box (a0, ())) fun r2 =>
    Option.bind (P_box_has (r2.1, a1, ())) fun r3 =>
    some (r3.1, ())
  else
    some (false, ()) := by
  rewrite [h_impl_isCell]
  exact e_impl_isCell N P_impl_IsHeap P_Heap_box P_box_has a0 a1

/- 74: (loop.example/g01166/impl.box).index -/
abbrev As_box_index : List ATy := [.data true T_A3, .data true T_A3]
abbrev R_box_index : List (Bool × Ty) := [(false, (.int .i64))]
abbrev M_box_index : List RMode := []
abbrev Ft_box_index : Type := D_A3 × D_A3 × Unit → Option (Int × Unit)
noncomputable def X_box_index (n : Nat) : Ctx := { types := TT, globals := [], con := [], keep := [], results := [.tmp 4], ntmps := 19, n := n }
noncomputable def B_box_index : Code := (Try.f74.body).getD .skip
theorem e_box_index (n : Nat) (a0 : D_A3) (a1 : D_A3) : runF (X_box_index n) B_box_index As_box_index R_box_index M_box_index (a0, a1, ()) = 
  some ((IntKind.wrap .i64 ((IntKind.wrap .i64 ((IntKind.wrap .i64 ((IntKind.wrap .i64 (a1.1 * a0.2.1)) + a1.2.1)) * a0.2.2.1)) + a1.2.2.1)), ()) := by kernel_rfl
noncomputable def P_box_index : Ft_box_index := hid (runF (X_box_index N) B_box_index As_box_index R_box_index M_box_index)
theorem h_box_index : P_box_index = runF (X_box_index N) B_box_index As_box_index R_box_index M_box_index := hid_eq _
noncomputable def C_box_index : Contract := ⟨As_box_index, R_box_index, M_box_index, P_box_index⟩
theorem s_box_index : Sound Try.prog GG 74 C_box_index := by
  unfold C_box_index; rw [h_box_index]
  exact sound_of_run (fn := Try.f74) hmix hstable (tyOK_of ttOK) (hglob (X_box_index N)) (conOK_of (X := X_box_index N) trivial) (mconOK_of (X := X_box_index N) trivial) (by kernel_rfl) (by kernel_rfl) (by kernel_rfl) (by kernel_rfl) (by kernel_rfl) (of_decide_eq_true (by kernel_rfl))
theorem p_box_index (a0 : D_A3) (a1 : D_A3) : P_box_index (a0, a1, ()) = 
  some ((IntKind.wrap .i64 ((IntKind.wrap .i64 ((IntKind.wrap .i64 ((IntKind.wrap .i64 (a1.1 * a0.2.1)) + a1.2.1)) * a0.2.2.1)) + a1.2.2.1)), ()) := by
  rewrite [h_box_index]
  exact e_box_index N a0 a1

/- 53: (loop.example/g01166/impl.Heap).cubes -/
abbrev As_Heap_cubes : List ATy := [.data true T_Heap]
abbrev R_Heap_cubes : List (Bool × Ty) := [(false, (.int .u64))]
abbrev M_Heap_cubes : List RMode := []
abbrev Ft_Heap_cubes : Type := D_Heap × Unit → Option (Int × Unit)
noncomputable def X_Heap_cubes (n : Nat) (F_Heap_box : Ft_Heap_box) (F_box_index : Ft_box_index) : Ctx := { types := TT, globals := [], con := [(52, ⟨As_Heap_box, R_Heap_box, M_Heap_box, F_Heap_box⟩), (74, ⟨As_box_index, R_box_index, M_box_index, F_box_index⟩)], keep := [(3, ⟨[.box 1, .tmp 1, .tmp 3, .tmp 7, .tmp 8, .tmp 9], []⟩)], results := [.tmp 2], ntmps := 22, n := n }
noncomputable def B_Heap_cubes : Code := (Try.f53.body).getD .skip
noncomputable def L_Heap_cubes_3 (n : Nat) (F_Heap_box : Ft_Heap_box) (F_box_index : Ft_box_index) (m0 : Nat) (p0 : Int) (p1 : Int) (p2 : Int) (p3 : List D_A3) (p4 : Int) (p5 : List D_A3) (p6 : Int) (p7 : Int) : Option (denL R_Heap_cubes) := loopF (X_Heap_cubes n F_Heap_box F_box_index) B_Heap_cubes R_Heap_cubes M_Heap_cubes 3 [m0] [(.ver, .num 1), (.box 1, .box 0 false [.int .i64 p0, .int .i64 p1, .int .i64 p2, .imm T_A3 p3 (some 3)]), (.tmp 1, .val false [.addr 1 0 0]), (.tmp 3, .val false [.int .u64 p4]), (.tmp 7, .val false [.imm T_A3 p5 (some 3)]), (.tmp 8, .val false [.int .i64 p6]), (.tmp 9, .val false [.int .i64 p7])]
theorem e_Heap_cubes (n : Nat) (F_Heap_box : Ft_Heap_box) (F_box_index : Ft_box_index) (a0 : D_Heap) : runF (X_Heap_cubes n F_Heap_box F_box_index) B_Heap_cubes As_Heap_cubes R_Heap_cubes M_Heap_cubes (a0, ()) = 
  L_Heap_cubes_3 n F_Heap_box F_box_index n a0.1 a0.2.1 a0.2.2.1 a0.2.2.2.1 0 a0.2.2.2.1 (List.length a0.2.2.2.1 : Int) 0 := by kernel_rfl
theorem e_Heap_cubes_3 (n : Nat) (F_Heap_box : Ft_Heap_box) (F_box_index : Ft_box_index) (m0 : Nat) (p0 : Int) (p1 : Int) (p2 : Int) (p3 : List D_A3) (p4 : Int) (p5 : List D_A3) (p6 : Int) (p7 : Int) : L_Heap_cubes_3 n F_Heap_box F_box_index (m0 + 1) p0 p1 p2 p3 p4 p5 p6 p7 = 
  bif decide (p7 < p6) then
    bif inB p7 (List.length p5) then
      Option.bind (F_Heap_box ((p0, (p1, (p2, (p3, ())))), ())) fun r2 =>
      Option.bind (F_box_index (r2.1, (nth T_A3 p5 p7), ())) fun r3 =>
      bif decide ((0 : Int) ≤ r3.1) then
        L_Heap_cubes_3 n F_Heap_box F_box_index m0 p0 p1 p2 p3 (intBits .or .u64 p4 (shlI .u64 1 r3.1)) p5 p6 (IntKind.wrap .i64 (p7 + 1))
      else none
    else none
  else
    some (p4, ()) := by kernel_rfl
noncomputable def P_Heap_cubes : Ft_Heap_cubes := hid (runF (X_Heap_cubes N P_Heap_box P_box_index) B_Heap_cubes As_Heap_cubes R_Heap_cubes M_Heap_cubes)
theorem h_Heap_cubes : P_Heap_cubes = runF (X_Heap_cubes N P_Heap_box P_box_index) B_Heap_cubes As_Heap_cubes R_Heap_cubes M_Heap_cubes := hid_eq _
noncomputable def C_Heap_cubes : Contract := ⟨As_Heap_cubes, R_Heap_cubes, M_Heap_cubes, P_Heap_cubes⟩
theorem s_Heap_cubes : Sound Try.prog GG 53 C_Heap_cubes := by
  unfold C_Heap_cubes; rw [h_Heap_cubes]
  exact sound_of_run (fn := Try.f53) hmix hstable (tyOK_of ttOK) (hglob (X_Heap_cubes N P_Heap_box P_box_index)) (conOK_of (X := X_Heap_cubes N P_Heap_box P_box_index) ⟨s_Heap_box, s_box_index, trivial⟩) (mconOK_of (X := X_Heap_cubes N P_Heap_box P_box_index) trivial) (by kernel_rfl) (by kernel_rfl) (by kernel_rfl) (by kernel_rfl) (by kernel_rfl) (of_decide_eq_true (by kernel_rfl))
noncomputable def l_Heap_cubes_3 : Nat → Int → Int → Int → (List D_A3) → Int → (List D_A3) → Int → Int → Option (denL R_Heap_cubes) := hid (fun m0 p0 p1 p2 p3 p4 p5 p6 p7 => L_Heap_cubes_3 N P_Heap_box P_box_index m0 p0 p1 p2 p3 p4 p5 p6 p7)
theorem h_Heap_cubes_3 : l_Heap_cubes_3 = fun m0 p0 p1 p2 p3 p4 p5 p6 p7 => L_Heap_cubes_3 N P_Heap_box P_box_index m0 p0 p1 p2 p3 p4 p5 p6 p7 := hid_eq _
theorem p_Heap_cubes (a0 : D_Heap) : P_Heap_cubes (a0, ()) = 
  l_Heap_cubes_3 N a0.1 a0.2.1 a0.2.2.1 a0.2.2.2.1 0 a0.2.2.2.1 (List.length a0.2.2.2.1 : Int) 0 := by
  rewrite [h_Heap_cubes, h_Heap_cubes_3]
  exact e_Heap_cubes N P_Heap_box P_box_index a0
theorem q_Heap_cubes_3 (m0 : Nat) (p0 : Int) (p1 : Int) (p2 : Int) (p3 : List D_A3) (p4 : Int) (p5 : List D_A3) (p6 : Int) (p7 : Int) : l_Heap_cubes_3 (m0 + 1) p0 p1 p2 p3 p4 p5 p6 p7 = 
  bif decide (p7 < p6) then
    bif inB p7 (List.length p5) then
      Option.bind (P_Heap_box ((p0, (p1, (p2, (p3, ())))), ())) fun r2 =>
      Option.bind (P_box_index (r2.1, (nth T_A3 p5 p7), ())) fun r3 =>
      bif decide ((0 : Int) ≤ r3.1) then
        l_Heap_cubes_3 m0 p0 p1 p2 p3 (intBits .or .u64 p4 (shlI .u64 1 r3.1)) p5 p6 (IntKind.wrap .i64 (p7 + 1))
      else none
    else none
  else
    some (p4, ()) := by
  rewrite [h_Heap_cubes_3]
  exact e_Heap_cubes_3 N P_Heap_box P_box_index m0 p0 p1 p2 p3 p4 p5 p6 p7

/- 73: (loop.example/g01166/impl.set).has -/
abbrev As_set_has : List ATy := [.data false (.int .u64), .data false (.int .i64)]
abbrev R_set_has : List (Bool × Ty) := [(false, .bool)]
abbrev M_set_has : List RMode := []
abbrev Ft_set_has : Type := Int × Int × Unit → Option (Bool × Unit)
noncomputable def X_set_has (n : Nat) : Ctx := { types := TT, globals := [], con := [], keep := [], results := [.tmp 4], ntmps := 10, n := n }
noncomputable def B_set_has : Code := (Try.f73.body).getD .skip
theorem e_set_has (n : Nat) (a0 : Int) (a1 : Int) : runF (X_set_has n) B_set_has As_set_has R_set_has M_set_has (a0, a1, ()) = 
  bif decide ((0 : Int) ≤ a1) then
    some (decide ((intBits .and .u64 (shrI .u64 a0 a1) 1) = 1), ())
  else none := by kernel_rfl
noncomputable def P_set_has : Ft_set_has := hid (runF (X_set_has N) B_set_has As_set_has R_set_has M_set_has)
theorem h_set_has : P_set_has = runF (X_set_has N) B_set_has As_set_has R_set_has M_set_has := hid_eq _
noncomputable def C_set_has : Contract := ⟨As_set_has, R_set_has, M_set_has, P_set_has⟩
theorem s_set_has : Sound Try.prog GG 73 C_set_has := by
  unfold C_set_has; rw [h_set_has]
  exact sound_of_run (fn := Try.f73) hmix hstable (tyOK_of ttOK) (hglob (X_set_has N)) (conOK_of (X := X_set_has N) trivial) (mconOK_of (X := X_set_has N) trivial) (by kernel_rfl) (by kernel_rfl) (by kernel_rfl) (by kernel_rfl) (by kernel_rfl) (of_decide_eq_true (by kernel_rfl))
theorem p_set_has (a0 : Int) (a1 : Int) : P_set_has (a0, a1, ()) = 
  bif decide ((0 : Int) ≤ a1) then
    some (decide ((intBits .and .u64 (shrI .u64 a0 a1) 1) = 1), ())
  else none := by
  rewrite [h_set_has]
  exact e_set_has N a0 a1

/- 41: (loop.example/g01166/impl.Heap).hasCube -/
abbrev As_Heap_hasCube : List ATy := [.data true T_Heap, .data true T_A3]
abbrev R_Heap_hasCube : List (Bool × Ty) := [(false, .bool)]
abbrev M_Heap_hasCube : List RMode := []
abbrev Ft_Heap_hasCube : Type := D_Heap × D_A3 × Unit → Option (Bool × Unit)
noncomputable def X_Heap_hasCube (n : Nat) (F_Heap_box : Ft_Heap_box) (F_Heap_cubes : Ft_Heap_cubes) (F_set_has : Ft_set_has) (F_box_index : Ft_box_index) : Ctx := { types := TT, globals := [], con := [(52, ⟨As_Heap_box, R_Heap_box, M_Heap_box, F_Heap_box⟩), (53, ⟨As_Heap_cubes, R_Heap_cubes, M_Heap_cubes, F_Heap_cubes⟩), (73, ⟨As_set_has, R_set_has, M_set_has, F_set_has⟩), (74, ⟨As_box_index, R_box_index, M_box_index, F_box_index⟩)], keep := [], results := [.tmp 4], ntmps := 12, n := n }
noncomputable def B_Heap_hasCube : Code := (Try.f41.body).getD .skip
theorem e_Heap_hasCube (n : Nat) (F_Heap_box : Ft_Heap_box) (F_Heap_cubes : Ft_Heap_cubes) (F_set_has : Ft_set_has) (F_box_index : Ft_box_index) (a0 : D_Heap) (a1 : D_A3) : runF (X_Heap_hasCube n F_Heap_box F_Heap_cubes F_set_has F_box_index) B_Heap_hasCube As_Heap_hasCube R_Heap_hasCube M_Heap_hasCube (a0, a1, ()) = 
  Option.bind (F_Heap_cubes (a0, ())) fun r0 =>
  Option.bind (F_Heap_box (a0, ())) fun r1 =>
  Option.bind (F_box_index (r1.1, a1, ())) fun r2 =>
  Option.bind (F_set_has (r0.1, r2.1, ())) fun r3 =>
  some (r3.1, ()) := by kernel_rfl
noncomputable def P_Heap_hasCube : Ft_Heap_hasCube := hid (runF (X_Heap_hasCube N P_Heap_box P_Heap_cubes P_set_has P_box_index) B_Heap_hasCube As_Heap_hasCube R_Heap_hasCube M_Heap_hasCube)
theorem h_Heap_hasCube : P_Heap_hasCube = runF (X_Heap_hasCube N P_Heap_box P_Heap_cubes P_set_has P_box_index) B_Heap_hasCube As_Heap_hasCube R_Heap_hasCube M_Heap_hasCube := hid_eq _
noncomputable def C_Heap_hasCube : Contract := ⟨As_Heap_hasCube, R_Heap_hasCube, M_Heap_hasCube, P_Heap_hasCube⟩
theorem s_Heap_hasCube : Sound Try.prog GG 41 C_Heap_hasCube := by
  unfold C_Heap_hasCube; rw [h_Heap_hasCube]
  exact sound_of_run (fn := Try.f41) hmix hstable (tyOK_of ttOK) (hglob (X_Heap_hasCube N P_Heap_box P_Heap_cubes P_set_has P_box_index)) (conOK_of (X := X_Heap_hasCube N P_Heap_box P_Heap_cubes P_set_has P_box_index) ⟨s_Heap_box, s_Heap_cubes, s_set_has, s_box_index, trivial⟩) (mconOK_of (X := X_Heap_hasCube N P_Heap_box P_Heap_cubes P_set_has P_box_index) trivial) (by kernel_rfl) (by kernel_rfl) (by kernel_rfl) (by kernel_rfl) (by kernel_rfl) (of_decide_eq_true (by kernel_rfl))
theorem p_Heap_hasCube (a0 : D_Heap) (a1 : D_A3) : P_Heap_hasCube (a0, a1, ()) = 
  Option.bind (P_Heap_cubes (a0, ())) fun r0 =>
  Option.bind (P_Heap_box (a0, ())) fun r1 =>
  Option.bind (P_box_index (r1.1, a1, ())) fun r2 =>
  Option.bind (P_set_has (r0.1, r2.1, ())) fun r3 =>
  some (r3.1, ()) := by
  rewrite [h_Heap_hasCube]
  exact e_Heap_hasCube N P_Heap_box P_Heap_cubes P_set_has P_box_index a0 a1

/- 92: (loop.example/g01166/impl.box).size -/
abbrev As_box_size : List ATy := [.data true T_A3]
abbrev R_box_size : List (Bool × Ty) := [(false, (.int .i64))]
abbrev M_box_size : List RMode := []
abbrev Ft_box_size : Type := D_A3 × Unit → Option (Int × Unit)
noncomputable def X_box_size (n : Nat) : Ctx := { types := TT, globals := [], con := [], keep := [], results := [.tmp 2], ntmps := 11, n := n }
noncomputable def B_box_size : Code := (Try.f92.body).getD .skip
theorem e_box_size (n : Nat) (a0 : D_A3) : runF (X_box_size n) B_box_size As_box_size R_box_size M_box_size (a0, ()) = 
  some ((IntKind.wrap .i64 ((IntKind.wrap .i64 (a0.1 * a0.2.1)) * a0.2.2.1)), ()) := by kernel_rfl
noncomputable def P_box_size : Ft_box_size := hid (runF (X_box_size N) B_box_size As_box_size R_box_size M_box_size)
theorem h_box_size : P_box_size = runF (X_box_size N) B_box_size As_box_size R_box_size M_box_size := hid_eq _
noncomputable def C_box_size : Contract := ⟨As_box_size, R_box_size, M_box_size, P_box_size⟩
theorem s_box_size : Sound Try.prog GG 92 C_box_size := by
  unfold C_box_size; rw [h_box_size]
  exact sound_of_run (fn := Try.f92) hmix hstable (tyOK_of ttOK) (hglob (X_box_size N)) (conOK_of (X := X_box_size N) trivial) (mconOK_of (X := X_box_size N) trivial) (by kernel_rfl) (by kernel_rfl) (by kernel_rfl) (by kernel_rfl) (by kernel_rfl) (of_decide_eq_true (by kernel_rfl))
theorem p_box_size (a0 : D_A3) : P_box_size (a0, ()) = 
  some ((IntKind.wrap .i64 ((IntKind.wrap .i64 (a0.1 * a0.2.1)) * a0.2.2.1)), ()) := by
  rewrite [h_box_size]
  exact e_box_size N a0

/- 93: (loop.example/g01166/impl.box).cell -/
abbrev As_box_cell : List ATy := [.data true T_A3, .data false (.int .i64)]
abbrev R_box_cell : List (Bool × Ty) := [(true, T_A3)]
abbrev M_box_cell : List RMode := []
abbrev Ft_box_cell : Type := D_A3 × Int × Unit → Option (D_A3 × Unit)
noncomputable def X_box_cell (n : Nat) : Ctx := { types := TT, globals := [], con := [], keep := [], results := [.cell 4 25], ntmps := 24, n := n }
noncomputable def B_box_cell : Code := (Try.f93.body).getD .skip
theorem e_box_cell (n : Nat) (a0 : D_A3) (a1 : Int) : runF (X_box_cell n) B_box_cell As_box_cell R_box_cell M_box_cell (a0, a1, ()) = 
  bif !decide (a0.2.2.1 = 0) then
    bif !decide (a0.2.1 = 0) then
      bif !decide (a0.2.2.1 = 0) then
        bif !decide (a0.2.1 = 0) then
          bif !decide (a0.2.2.1 = 0) then
            some (((IntKind.wrap .i64 (Int.tdiv (IntKind.wrap .i64 (Int.tdiv a1 a0.2.2.1)) a0.2.1)), ((Int.tmod (IntKind.wrap .i64 (Int.tdiv a1 a0.2.2.1)) a0.2.1), ((Int.tmod a1 a0.2.2.1), ()))), ())
          else none
        else none
      else none
    else none
  else none := by kernel_rfl
noncomputable def P_box_cell : Ft_box_cell := hid (runF (X_box_cell N) B_box_cell As_box_cell R_box_cell M_box_cell)
theorem h_box_cell : P_box_cell = runF (X_box_cell N) B_box_cell As_box_cell R_box_cell M_box_cell := hid_eq _
noncomputable def C_box_cell : Contract := ⟨As_box_cell, R_box_cell, M_box_cell, P_box_cell⟩
theorem s_box_cell : Sound Try.prog GG 93 C_box_cell := by
  unfold C_box_cell; rw [h_box_cell]
  exact sound_of_run (fn := Try.f93) hmix hstable (tyOK_of ttOK) (hglob (X_box_cell N)) (conOK_of (X := X_box_cell N) trivial) (mconOK_of (X := X_box_cell N) trivial) (by kernel_rfl) (by kernel_rfl) (by kernel_rfl) (by kernel_rfl) (by kernel_rfl) (of_decide_eq_true (by kernel_rfl))
theorem p_box_cell (a0 : D_A3) (a1 : Int) : P_box_cell (a0, a1, ()) = 
  bif !decide (a0.2.2.1 = 0) then
    bif !decide (a0.2.1 = 0) then
      bif !decide (a0.2.2.1 = 0) then
        bif !decide (a0.2.1 = 0) then
          bif !decide (a0.2.2.1 = 0) then
            some (((IntKind.wrap .i64 (Int.tdiv (IntKind.wrap .i64 (Int.tdiv a1 a0.2.2.1)) a0.2.1)), ((Int.tmod (IntKind.wrap .i64 (Int.tdiv a1 a0.2.2.1)) a0.2.1), ((Int.tmod a1 a0.2.2.1), ()))), ())
          else none
        else none
      else none
    else none
  else none := by
  rewrite [h_box_cell]
  exact e_box_cell N a0 a1

/- 55: (loop.example/g01166/impl.box).those -/
abbrev As_box_those : List ATy := [.data true T_A3, .clo [(true, T_A3)] [(false, .bool)]]
abbrev R_box_those : List (Bool × Ty) := [(false, (.int .u64))]
abbrev M_box_those : List RMode := []
abbrev Ft_box_those : Type := D_A3 × ((D_A3 × Unit) → Option (Bool × Unit)) × Unit → Option (Int × Unit)
noncomputable def X_box_those (n : Nat) (F_box_size : Ft_box_size) (F_box_cell : Ft_box_cell) : Ctx := { types := TT, globals := [], con := [(92, ⟨As_box_size, R_box_size, M_box_size, F_box_size⟩), (93, ⟨As_box_cell, R_box_cell, M_box_cell, F_box_cell⟩)], keep := [(3, ⟨[.box 2, .tmp 1, .tmp 2, .tmp 5, .tmp 8, .tmp 9], []⟩)], results := [.tmp 4], ntmps := 23, n := n }
noncomputable def B_box_those : Code := (Try.f55.body).getD .skip
noncomputable def L_box_those_3 (n : Nat) (F_box_size : Ft_box_size) (F_box_cell : Ft_box_cell) (m0 : Nat) (p0 : Int) (p1 : Int) (p2 : Int) (p3 : (D_A3 × Unit) → Option (Bool × Unit)) (p4 : Int) (p5 : Int) (p6 : Int) : Option (denL R_box_those) := loopF (X_box_those n F_box_size F_box_cell) B_box_those R_box_those M_box_those 3 [m0] [(.ver, .num 1), (.box 2, .box 0 false [.int .i64 p0, .int .i64 p1, .int .i64 p2]), (.tmp 1, .val false [.clo [(true, T_A3)] [(false, .bool)] p3]), (.tmp 2, .val false [.addr 2 0 0]), (.tmp 5, .val false [.int .u64 p4]), (.tmp 8, .val false [.int .i64 p5]), (.tmp 9, .val false [.int .i64 p6])]
theorem e_box_those (n : Nat) (F_box_size : Ft_box_size) (F_box_cell : Ft_box_cell) (a0 : D_A3) (a1 : (D_A3 × Unit) → Option (Bool × Unit)) : runF (X_box_those n F_box_size F_box_cell) B_box_those As_box_those R_box_those M_box_those (a0, a1, ()) = 
  Option.bind (F_box_size (a0, ())) fun r0 =>
  L_box_those_3 n F_box_size F_box_cell n a0.1 a0.2.1 a0.2.2.1 a1 0 r0.1 0 := by kernel_rfl
theorem e_box_those_3 (n : Nat) (F_box_size : Ft_box_size) (F_box_cell : Ft_box_cell) (m0 : Nat) (p0 : Int) (p1 : Int) (p2 : Int) (p3 : (D_A3 × Unit) → Option (Bool × Unit)) (p4 : Int) (p5 : Int) (p6 : Int) : L_box_those_3 n F_box_size F_box_cell (m0 + 1) p0 p1 p2 p3 p4 p5 p6 = 
  bif decide (p6 < p5) then
    Option.bind (F_box_cell ((p0, (p1, (p2, ()))), p6, ())) fun r1 =>
    Option.bind (p3 (r1.1, ())) fun r2 =>
    bif r2.1 then
      bif decide ((0 : Int) ≤ p6) then
        L_box_those_3 n F_box_size F_box_cell m0 p0 p1 p2 p3 (intBits .or .u64 p4 (shlI .u64 1 p6)) p5 (IntKind.wrap .i64 (p6 + 1))
      else none
    else
      L_box_those_3 n F_box_size F_box_cell m0 p0 p1 p2 p3 p4 p5 (IntKind.wrap .i64 (p6 + 1))
  else
    some (p4, ()) := by kernel_rfl
noncomputable def P_box_those : Ft_box_those := hid (runF (X_box_those N P_box_size P_box_cell) B_box_those As_box_those R_box_those M_box_those)
theorem h_box_those : P_box_those = runF (X_box_those N P_box_size P_box_cell) B_box_those As_box_those R_box_those M_box_those := hid_eq _
noncomputable def C_box_those : Contract := ⟨As_box_those, R_box_those, M_box_those, P_box_those⟩
theorem s_box_those : Sound Try.prog GG 55 C_box_those := by
  unfold C_box_those; rw [h_box_those]
  exact sound_of_run (fn := Try.f55) hmix hstable (tyOK_of ttOK) (hglob (X_box_those N P_box_size P_box_cell)) (conOK_of (X := X_box_those N P_box_size P_box_cell) ⟨s_box_size, s_box_cell, trivial⟩) (mconOK_of (X := X_box_those N P_box_size P_box_cell) trivial) (by kernel_rfl) (by kernel_rfl) (by kernel_rfl) (by kernel_rfl) (by kernel_rfl) (of_decide_eq_true (by kernel_rfl))
noncomputable def l_box_those_3 : Nat → Int → Int → Int → ((D_A3 × Unit) → Option (Bool × Unit)) → Int → Int → Int → Option (denL R_box_those) := hid (fun m0 p0 p1 p2 p3 p4 p5 p6 => L_box_those_3 N P_box_size P_box_cell m0 p0 p1 p2 p3 p4 p5 p6)
theorem h_box_those_3 : l_box_those_3 = fun m0 p0 p1 p2 p3 p4 p5 p6 => L_box_those_3 N P_box_size P_box_cell m0 p0 p1 p2 p3 p4 p5 p6 := hid_eq _
theorem p_box_those (a0 : D_A3) (a1 : (D_A3 × Unit) → Option (Bool × Unit)) : P_box_those (a0, a1, ()) = 
  Option.bind (P_box_size (a0, ())) fun r0 =>
  l_box_those_3 N a0.1 a0.2.1 a0.2.2.1 a1 0 r0.1 0 := by
  rewrite [h_box_those, h_box_those_3]
  exact e_box_those N P_box_size P_box_cell a0 a1
theorem q_box_those_3 (m0 : Nat) (p0 : Int) (p1 : Int) (p2 : Int) (p3 : (D_A3 × Unit) → Option (Bool × Unit)) (p4 : Int) (p5 : Int) (p6 : Int) : l_box_those_3 (m0 + 1) p0 p1 p2 p3 p4 p5 p6 = 
  bif decide (p6 < p5) then
    Option.bind (P_box_cell ((p0, (p1, (p2, ()))), p6, ())) fun r1 =>
    Option.bind (p3 (r1.1, ())) fun r2 =>
    bif r2.1 then
      bif decide ((0 : Int) ≤ p6) then
        l_box_those_3 m0 p0 p1 p2 p3 (intBits .or .u64 p4 (shlI .u64 1 p6)) p5 (IntKind.wrap .i64 (p6 + 1))
      else none
    else
      l_box_those_3 m0 p0 p1 p2 p3 p4 p5 (IntKind.wrap .i64 (p6 + 1))
  else
    some (p4, ()) := by
  rewrite [h_box_those_3]
  exact e_box_those_3 N P_box_size P_box_cell m0 p0 p1 p2 p3 p4 p5 p6

/- 94: (loop.example/g01166/impl.box).near -/
abbrev As_box_near : List ATy := [.data true T_A3, .data true T_A3]
abbrev R_box_near : List (Bool × Ty) := [(false, (.int .u64))]
abbrev M_box_near : List RMode := []
abbrev Ft_box_near : Type := D_A3 × D_A3 × Unit → Option (Int × Unit)
noncomputable def X_box_near (n : Nat) (F_box_has : Ft_box_has) (F_box_index : Ft_box_index) : Ctx := { types := TT, globals := [], con := [(72, ⟨As_box_has, R_box_has, M_box_has, F_box_has⟩), (74, ⟨As_box_index, R_box_index, M_box_index, F_box_index⟩)], keep := [(3, ⟨[.box 2, .box 3, .tmp 2, .tmp 3, .tmp 5, .tmp 10], []⟩), (6, ⟨[.box 2, .box 3, .tmp 2, .tmp 3, .tmp 5, .tmp 6, .tmp 10, .tmp 13, .tmp 14], []⟩)], results := [.tmp 4], ntmps := 36, n := n }
noncomputable def B_box_near : Code := (Try.f94.body).getD .skip
noncomputable def L_box_near_3 (n : Nat) (F_box_has : Ft_box_has) (F_box_index : Ft_box_index) (m0 : Nat) (p0 : Int) (p1 : Int) (p2 : Int) (p3 : Int) (p4 : Int) (p5 : Int) (p6 : Int) (p7 : Int) : Option (denL R_box_near) := loopF (X_box_near n F_box_has F_box_index) B_box_near R_box_near M_box_near 3 [m0] [(.ver, .num 1), (.box 2, .box 0 false [.int .i64 p0, .int .i64 p1, .int .i64 p2]), (.box 3, .box 0 false [.int .i64 p3, .int .i64 p4, .int .i64 p5]), (.tmp 2, .val false [.addr 2 0 0]), (.tmp 3, .val false [.addr 3 0 0]), (.tmp 5, .val false [.int .u64 p6]), (.tmp 10, .val false [.int .i64 p7])]
noncomputable def L_box_near_6 (n : Nat) (F_box_has : Ft_box_has) (F_box_index : Ft_box_index) (m0 m1 : Nat) (p0 : Int) (p1 : Int) (p2 : Int) (p3 : Int) (p4 : Int) (p5 : Int) (p6 : Int) (p7 : Int) (p8 : Int) (p9 : Int) (p10 : Int) (p11 : Int) : Option (denL R_box_near) := loopF (X_box_near n F_box_has F_box_index) B_box_near R_box_near M_box_near 6 [m0, m1] [(.ver, .num 1), (.box 2, .box 0 false [.int .i64 p0, .int .i64 p1, .int .i64 p2]), (.box 3, .box 0 false [.int .i64 p3, .int .i64 p4, .int .i64 p5]), (.tmp 2, .val false [.addr 2 0 0]), (.tmp 3, .val false [.addr 3 0 0]), (.tmp 5, .val false [.int .u64 p6]), (.tmp 6, .val false [.int .i64 p7]), (.tmp 10, .val false [.int .i64 p8]), (.tmp 13, .val true [.int .i64 p9, .int .i64 p10]), (.tmp 14, .val false [.int .i64 p11])]
theorem e_box_near (n : Nat) (F_box_has : Ft_box_has) (F_box_index : Ft_box_index) (a0 : D_A3) (a1 : D_A3) : runF (X_box_near n F_box_has F_box_index) B_box_near As_box_near R_box_near M_box_near (a0, a1, ()) = 
  L_box_near_3 n F_box_has F_box_index n a0.1 a0.2.1 a0.2.2.1 a1.1 a1.2.1 a1.2.2.1 0 0 := by kernel_rfl
theorem e_box_near_3 (n : Nat) (F_box_has : Ft_box_has) (F_box_index : Ft_box_index) (m0 : Nat) (p0 : Int) (p1 : Int) (p2 : Int) (p3 : Int) (p4 : Int) (p5 : Int) (p6 : Int) (p7 : Int) : L_box_near_3 n F_box_has F_box_index (m0 + 1) p0 p1 p2 p3 p4 p5 p6 p7 = 
  bif decide (p7 < 3) then
    L_box_near_6 n F_box_has F_box_index m0 n p0 p1 p2 p3 p4 p5 p6 p7 p7 (-1) 1 0
  else
    some (p6, ()) := by kernel_rfl
theorem e_box_near_6 (n : Nat) (F_box_has : Ft_box_has) (F_box_index : Ft_box_index) (m0 m1 : Nat) (p0 : Int) (p1 : Int) (p2 : Int) (p3 : Int) (p4 : Int) (p5 : Int) (p6 : Int) (p7 : Int) (p8 : Int) (p9 : Int) (p10 : Int) (p11 : Int) : L_box_near_6 n F_box_has F_box_index m0 (m1 + 1) p0 p1 p2 p3 p4 p5 p6 p7 p8 p9 p10 p11 = 
  bif decide (p11 < 2) then
    bif inB p11 2 then
      bif inB p7 3 then
        bif inB p7 3 then
          Option.bind (F_box_has ((p0, (p1, (p2, ()))), ((bif decide (p7 = (0 : Int)) then (IntKind.wrap .i64 ((bif decide (p7 = (0 : Int)) then p3 else (bif decide (p7 = (1 : Int)) then p4 else p5)) + (bif decide (p11 = (0 : Int)) then p9 else p10))) else p3), ((bif decide (p7 = (1 : Int)) then (IntKind.wrap .i64 ((bif decide (p7 = (0 : Int)) then p3 else (bif decide (p7 = (1 : Int)) then p4 else p5)) + (bif decide (p11 = (0 : Int)) then p9 else p10))) else p4), ((bif decide (p7 = (2 : Int)) then (IntKind.wrap .i64 ((bif decide (p7 = (0 : Int)) then p3 else (bif decide (p7 = (1 : Int)) then p4 else p5)) + (bif decide (p11 = (0 : Int)) then p9 else p10))) else p5), ()))), ())) fun r4 =>
          bif r4.1 then
            Option.bind (F_box_index ((p0, (p1, (p2, ()))), ((bif decide (p7 = (0 : Int)) then (IntKind.wrap .i64 ((bif decide (p7 = (0 : Int)) then p3 else (bif decide (p7 = (1 : Int)) then p4 else p5)) + (bif decide (p11 = (0 : Int)) then p9 else p10))) else p3), ((bif decide (p7 = (1 : Int)) then (IntKind.wrap .i64 ((bif decide (p7 = (0 : Int)) then p3 else (bif decide (p7 = (1 : Int)) then p4 else p5)) + (bif decide (p11 = (0 : Int)) then p9 else p10))) else p4), ((bif decide (p7 = (2 : Int)) then (IntKind.wrap .i64 ((bif decide (p7 = (0 : Int)) then p3 else (bif decide (p7 = (1 : Int)) then p4 else p5)) + (bif decide (p11 = (0 : Int)) then p9 else p10))) else p5), ()))), ())) fun r6 =>
            bif decide ((0 : Int) ≤ r6.1) then
              L_box_near_6 n F_box_has F_box_index m0 m1 p0 p1 p2 p3 p4 p5 (intBits .or .u64 p6 (shlI .u64 1 r6.1)) p7 p8 p9 p10 (IntKind.wrap .i64 (p11 + 1))
            else none
          else
            L_box_near_6 n F_box_has F_box_index m0 m1 p0 p1 p2 p3 p4 p5 p6 p7 p8 p9 p10 (IntKind.wrap .i64 (p11 + 1))
        else none
      else none
    else none
  else
    L_box_near_3 n F_box_has F_box_index m0 p0 p1 p2 p3 p4 p5 p6 (IntKind.wrap .i64 (p8 + 1)) := by kernel_rfl
noncomputable def P_box_near : Ft_box_near := hid (runF (X_box_near N P_box_has P_box_index) B_box_near As_box_near R_box_near M_box_near)
theorem h_box_near : P_box_near = runF (X_box_near N P_box_has P_box_index) B_box_near As_box_near R_box_near M_box_near := hid_eq _
noncomputable def C_box_near : Contract := ⟨As_box_near, R_box_near, M_box_near, P_box_near⟩
theorem s_box_near : Sound Try.prog GG 94 C_box_near := by
  unfold C_box_near; rw [h_box_near]
  exact sound_of_run (fn := Try.f94) hmix hstable (tyOK_of ttOK) (hglob (X_box_near N P_box_has P_box_index)) (conOK_of (X := X_box_near N P_box_has P_box_index) ⟨s_box_has, s_box_index, trivial⟩) (mconOK_of (X := X_box_near N P_box_has P_box_index) trivial) (by kernel_rfl) (by kernel_rfl) (by kernel_rfl) (by kernel_rfl) (by kernel_rfl) (of_decide_eq_true (by kernel_rfl))
noncomputable def l_box_near_3 : Nat → Int → Int → Int → Int → Int → Int → Int → Int → Option (denL R_box_near) := hid (fun m0 p0 p1 p2 p3 p4 p5 p6 p7 => L_box_near_3 N P_box_has P_box_index m0 p0 p1 p2 p3 p4 p5 p6 p7)
theorem h_box_near_3 : l_box_near_3 = fun m0 p0 p1 p2 p3 p4 p5 p6 p7 => L_box_near_3 N P_box_has P_box_index m0 p0 p1 p2 p3 p4 p5 p6 p7 := hid_eq _
noncomputable def l_box_near_6 : Nat → Nat → Int → Int → Int → Int → Int → Int → Int → Int → Int → Int → Int → Int → Option (denL R_box_near) := hid (fun m0 m1 p0 p1 p2 p3 p4 p5 p6 p7 p8 p9 p10 p11 => L_box_near_6 N P_box_has P_box_index m0 m1 p0 p1 p2 p3 p4 p5 p6 p7 p8 p9 p10 p11)
theorem h_box_near_6 : l_box_near_6 = fun m0 m1 p0 p1 p2 p3 p4 p5 p6 p7 p8 p9 p10 p11 => L_box_near_6 N P_box_has P_box_index m0 m1 p0 p1 p2 p3 p4 p5 p6 p7 p8 p9 p10 p11 := hid_eq _
theorem p_box_near (a0 : D_A3) (a1 : D_A3) : P_box_near (a0, a1, ()) = 
  l_box_near_3 N a0.1 a0.2.1 a0.2.2.1 a1.1 a1.2.1 a1.2.2.1 0 0 := by
  rewrite [h_box_near, h_box_near_3]
  exact e_box_near N P_box_has P_box_index a0 a1
theorem q_box_near_3 (m0 : Nat) (p0 : Int) (p1 : Int) (p2 : Int) (p3 : Int) (p4 : Int) (p5 : Int) (p6 : Int) (p7 : Int) : l_box_near_3 (m0 + 1) p0 p1 p2 p3 p4 p5 p6 p7 = 
  bif decide (p7 < 3) then
    l_box_near_6 m0 N p0 p1 p2 p3 p4 p5 p6 p7 p7 (-1) 1 0
  else
    some (p6, ()) := by
  rewrite [h_box_near_3, h_box_near_6]
  exact e_box_near_3 N P_box_has P_box_index m0 p0 p1 p2 p3 p4 p5 p6 p7
theorem q_box_near_6 (m0 m1 : Nat) (p0 : Int) (p1 : Int) (p2 : Int) (p3 : Int) (p4 : Int) (p5 : Int) (p6 : Int) (p7 : Int) (p8 : Int) (p9 : Int) (p10 : Int) (p11 : Int) : l_box_near_6 m0 (m1 + 1) p0 p1 p2 p3 p4 p5 p6 p7 p8 p9 p10 p11 = 
  bif decide (p11 < 2) then
    bif inB p11 2 then
      bif inB p7 3 then
        bif inB p7 3 then
          Option.bind (P_box_has ((p0, (p1, (p2, ()))), ((bif decide (p7 = (0 : Int)) then (IntKind.wrap .i64 ((bif decide (p7 = (0 : Int)) then p3 else (bif decide (p7 = (1 : Int)) then p4 else p5)) + (bif decide (p11 = (0 : Int)) then p9 else p10))) else p3), ((bif decide (p7 = (1 : Int)) then (IntKind.wrap .i64 ((bif decide (p7 = (0 : Int)) then p3 else (bif decide (p7 = (1 : Int)) then p4 else p5)) + (bif decide (p11 = (0 : Int)) then p9 else p10))) else p4), ((bif decide (p7 = (2 : Int)) then (IntKind.wrap .i64 ((bif decide (p7 = (0 : Int)) then p3 else (bif decide (p7 = (1 : Int)) then p4 else p5)) + (bif decide (p11 = (0 : Int)) then p9 else p10))) else p5), ()))), ())) fun r4 =>
          bif r4.1 then
            Option.bind (P_box_index ((p0, (p1, (p2, ()))), ((bif decide (p7 = (0 : Int)) then (IntKind.wrap .i64 ((bif decide (p7 = (0 : Int)) then p3 else (bif decide (p7 = (1 : Int)) then p4 else p5)) + (bif decide (p11 = (0 : Int)) then p9 else p10))) else p3), ((bif decide (p7 = (1 : Int)) then (IntKind.wrap .i64 ((bif decide (p7 = (0 : Int)) then p3 else (bif decide (p7 = (1 : Int)) then p4 else p5)) + (bif decide (p11 = (0 : Int)) then p9 else p10))) else p4), ((bif decide (p7 = (2 : Int)) then (IntKind.wrap .i64 ((bif decide (p7 = (0 : Int)) then p3 else (bif decide (p7 = (1 : Int)) then p4 else p5)) + (bif decide (p11 = (0 : Int)) then p9 else p10))) else p5), ()))), ())) fun r6 =>
            bif decide ((0 : Int) ≤ r6.1) then
              l_box_near_6 m0 m1 p0 p1 p2 p3 p4 p5 (intBits .or .u64 p6 (shlI .u64 1 r6.1)) p7 p8 p9 p10 (IntKind.wrap .i64 (p11 + 1))
            else none
          else
            l_box_near_6 m0 m1 p0 p1 p2 p3 p4 p5 p6 p7 p8 p9 p10 (IntKind.wrap .i64 (p11 + 1))
        else none
      else none
    else none
  else
    l_box_near_3 m0 p0 p1 p2 p3 p4 p5 p6 (IntKind.wrap .i64 (p8 + 1)) := by
  rewrite [h_box_near_3, h_box_near_6]
  exact e_box_near_6 N P_box_has P_box_index m0 m1 p0 p1 p2 p3 p4 p5 p6 p7 p8 p9 p10 p11

/- 57: (loop.example/g01166/impl.box).grown -/
abbrev As_box_grown : List ATy := [.data true T_A3, .data false (.int .u64), .data false (.int .u64)]
abbrev R_box_grown : List (Bool × Ty) := [(false, (.int .u64))]
abbrev M_box_grown : List RMode := []
abbrev Ft_box_grown : Type := D_A3 × Int × Int × Unit → Option (Int × Unit)
noncomputable def X_box_grown (n : Nat) (F_set_has : Ft_set_has) (F_box_size : Ft_box_size) (F_box_cell : Ft_box_cell) (F_box_near : Ft_box_near) : Ctx := { types := TT, globals := [], con := [(73, ⟨As_set_has, R_set_has, M_set_has, F_set_has⟩), (92, ⟨As_box_size, R_box_size, M_box_size, F_box_size⟩), (93, ⟨As_box_cell, R_box_cell, M_box_cell, F_box_cell⟩), (94, ⟨As_box_near, R_box_near, M_box_near, F_box_near⟩)], keep := [(1, ⟨[.box 3, .tmp 1, .tmp 2, .tmp 3], []⟩), (3, ⟨[.box 3, .tmp 1, .tmp 2, .tmp 3, .tmp 7, .tmp 11, .tmp 12], []⟩)], results := [.tmp 6], ntmps := 33, n := n }
noncomputable def B_box_grown : Code := (Try.f57.body).getD .skip
noncomputable def L_box_grown_1 (n : Nat) (F_set_has : Ft_set_has) (F_box_size : Ft_box_size) (F_box_cell : Ft_box_cell) (F_box_near : Ft_box_near) (m0 : Nat) (p0 : Int) (p1 : Int) (p2 : Int) (p3 : Int) (p4 : Int) : Option (denL R_box_grown) := loopF (X_box_grown n F_set_has F_box_size F_box_cell F_box_near) B_box_grown R_box_grown M_box_grown 1 [m0] [(.ver, .num 1), (.box 3, .box 0 false [.int .i64 p0, .int .i64 p1, .int .i64 p2]), (.tmp 1, .val false [.int .u64 p3]), (.tmp 2, .val false [.int .u64 p4]), (.tmp 3, .val false [.addr 3 0 0])]
noncomputable def L_box_grown_3 (n : Nat) (F_set_has : Ft_set_has) (F_box_size : Ft_box_size) (F_box_cell : Ft_box_cell) (F_box_near : Ft_box_near) (m0 m1 : Nat) (p0 : Int) (p1 : Int) (p2 : Int) (p3 : Int) (p4 : Int) (p5 : Int) (p6 : Int) (p7 : Int) : Option (denL R_box_grown) := loopF (X_box_grown n F_set_has F_box_size F_box_cell F_box_near) B_box_grown R_box_grown M_box_grown 3 [m0, m1] [(.ver, .num 1), (.box 3, .box 0 false [.int .i64 p0, .int .i64 p1, .int .i64 p2]), (.tmp 1, .val false [.int .u64 p3]), (.tmp 2, .val false [.int .u64 p4]), (.tmp 3, .val false [.addr 3 0 0]), (.tmp 7, .val false [.int .u64 p5]), (.tmp 11, .val false [.int .i64 p6]), (.tmp 12, .val false [.int .i64 p7])]
theorem e_box_grown (n : Nat) (F_set_has : Ft_set_has) (F_box_size : Ft_box_size) (F_box_cell : Ft_box_cell) (F_box_near : Ft_box_near) (a0 : D_A3) (a1 : Int) (a2 : Int) : runF (X_box_grown n F_set_has F_box_size F_box_cell F_box_near) B_box_grown As_box_grown R_box_grown M_box_grown (a0, a1, a2, ()) = 
  L_box_grown_1 n F_set_has F_box_size F_box_cell F_box_near n a0.1 a0.2.1 a0.2.2.1 a1 a2 := by kernel_rfl
theorem e_box_grown_1 (n : Nat) (F_set_has : Ft_set_has) (F_box_size : Ft_box_size) (F_box_cell : Ft_box_cell) (F_box_near : Ft_box_near) (m0 : Nat) (p0 : Int) (p1 : Int) (p2 : Int) (p3 : Int) (p4 : Int) : L_box_grown_1 n F_set_has F_box_size F_box_cell F_box_near (m0 + 1) p0 p1 p2 p3 p4 = 
  Option.bind (F_box_size ((p0, (p1, (p2, ()))), ())) fun r0 =>
  L_box_grown_3 n F_set_has F_box_size F_box_cell F_box_near m0 n p0 p1 p2 p3 p4 p3 r0.1 0 := by kernel_rfl
theorem e_box_grown_3 (n : Nat) (F_set_has : Ft_set_has) (F_box_size : Ft_box_size) (F_box_cell : Ft_box_cell) (F_box_near : Ft_box_near) (m0 m1 : Nat) (p0 : Int) (p1 : Int) (p2 : Int) (p3 : Int) (p4 : Int) (p5 : Int) (p6 : Int) (p7 : Int) : L_box_grown_3 n F_set_has F_box_size F_box_cell F_box_near m0 (m1 + 1) p0 p1 p2 p3 p4 p5 p6 p7 = 
  bif decide (p7 < p6) then
    Option.bind (F_set_has (p3, p7, ())) fun r1 =>
    bif r1.1 then
      Option.bind (F_box_cell ((p0, (p1, (p2, ()))), p7, ())) fun r3 =>
      Option.bind (F_box_near ((p0, (p1, (p2, ()))), r3.1, ())) fun r4 =>
      L_box_grown_3 n F_set_has F_box_size F_box_cell F_box_near m0 m1 p0 p1 p2 p3 p4 (intBits .or .u64 p5 (intBits .and .u64 r4.1 p4)) p6 (IntKind.wrap .i64 (p7 + 1))
    else
      L_box_grown_3 n F_set_has F_box_size F_box_cell F_box_near m0 m1 p0 p1 p2 p3 p4 p5 p6 (IntKind.wrap .i64 (p7 + 1))
  else
    bif decide (p5 = p3) then
      some (p3, ())
    else
      L_box_grown_1 n F_set_has F_box_size F_box_cell F_box_near m0 p0 p1 p2 p5 p4 := by kernel_rfl
noncomputable def P_box_grown : Ft_box_grown := hid (runF (X_box_grown N P_set_has P_box_size P_box_cell P_box_near) B_box_grown As_box_grown R_box_grown M_box_grown)
theorem h_box_grown : P_box_grown = runF (X_box_grown N P_set_has P_box_size P_box_cell P_box_near) B_box_grown As_box_grown R_box_grown M_box_grown := hid_eq _
noncomputable def C_box_grown : Contract := ⟨As_box_grown, R_box_grown, M_box_grown, P_box_grown⟩
theorem s_box_grown : Sound Try.prog GG 57 C_box_grown := by
  unfold C_box_grown; rw [h_box_grown]
  exact sound_of_run (fn := Try.f57) hmix hstable (tyOK_of ttOK) (hglob (X_box_grown N P_set_has P_box_size P_box_cell P_box_near)) (conOK_of (X := X_box_grown N P_set_has P_box_size P_box_cell P_box_near) ⟨s_set_has, s_box_size, s_box_cell, s_box_near, trivial⟩) (mconOK_of (X := X_box_grown N P_set_has P_box_size P_box_cell P_box_near) trivial) (by kernel_rfl) (by kernel_rfl) (by kernel_rfl) (by kernel_rfl) (by kernel_rfl) (of_decide_eq_true (by kernel_rfl))
noncomputable def l_box_grown_1 : Nat → Int → Int → Int → Int → Int → Option (denL R_box_grown) := hid (fun m0 p0 p1 p2 p3 p4 => L_box_grown_1 N P_set_has P_box_size P_box_cell P_box_near m0 p0 p1 p2 p3 p4)
theorem h_box_grown_1 : l_box_grown_1 = fun m0 p0 p1 p2 p3 p4 => L_box_grown_1 N P_set_has P_box_size P_box_cell P_box_near m0 p0 p1 p2 p3 p4 := hid_eq _
noncomputable def l_box_grown_3 : Nat → Nat → Int → Int → Int → Int → Int → Int → Int → Int → Option (denL R_box_grown) := hid (fun m0 m1 p0 p1 p2 p3 p4 p5 p6 p7 => L_box_grown_3 N P_set_has P_box_size P_box_cell P_box_near m0 m1 p0 p1 p2 p3 p4 p5 p6 p7)
theorem h_box_grown_3 : l_box_grown_3 = fun m0 m1 p0 p1 p2 p3 p4 p5 p6 p7 => L_box_grown_3 N P_set_has P_box_size P_box_cell P_box_near m0 m1 p0 p1 p2 p3 p4 p5 p6 p7 := hid_eq _
theorem p_box_grown (a0 : D_A3) (a1 : Int) (a2 : Int) : P_box_grown (a0, a1, a2, ()) = 
  l_box_grown_1 N a0.1 a0.2.1 a0.2.2.1 a1 a2 := by
  rewrite [h_box_grown, h_box_grown_1]
  exact e_box_grown N P_set_has P_box_size P_box_cell P_box_near a0 a1 a2
theorem q_box_grown_1 (m0 : Nat) (p0 : Int) (p1 : Int) (p2 : Int) (p3 : Int) (p4 : Int) : l_box_grown_1 (m0 + 1) p0 p1 p2 p3 p4 = 
  Option.bind (P_box_size ((p0, (p1, (p2, ()))), ())) fun r0 =>
  l_box_grown_3 m0 N p0 p1 p2 p3 p4 p3 r0.1 0 := by
  rewrite [h_box_grown_1, h_box_grown_3]
  exact e_box_grown_1 N P_set_has P_box_size P_box_cell P_box_near m0 p0 p1 p2 p3 p4
theorem q_box_grown_3 (m0 m1 : Nat) (p0 : Int) (p1 : Int) (p2 : Int) (p3 : Int) (p4 : Int) (p5 : Int) (p6 : Int) (p7 : Int) : l_box_grown_3 m0 (m1 + 1) p0 p1 p2 p3 p4 p5 p6 p7 = 
  bif decide (p7 < p6) then
    Option.bind (P_set_has (p3, p7, ())) fun r1 =>
    bif r1.1 then
      Option.bind (P_box_cell ((p0, (p1, (p2, ()))), p7, ())) fun r3 =>
      Option.bind (P_box_near ((p0, (p1, (p2, ()))), r3.1, ())) fun r4 =>
      l_box_grown_3 m0 m1 p0 p1 p2 p3 p4 (intBits .or .u64 p5 (intBits .and .u64 r4.1 p4)) p6 (IntKind.wrap .i64 (p7 + 1))
    else
      l_box_grown_3 m0 m1 p0 p1 p2 p3 p4 p5 p6 (IntKind.wrap .i64 (p7 + 1))
  else
    bif decide (p5 = p3) then
      some (p3, ())
    else
      l_box_grown_1 m0 p0 p1 p2 p5 p4 := by
  rewrite [h_box_grown_1, h_box_grown_3]
  exact e_box_grown_3 N P_set_has P_box_size P_box_cell P_box_near m0 m1 p0 p1 p2 p3 p4 p5 p6 p7

/- 101: (loop.example/g01166/impl.box).full -/
abbrev As_box_full : List ATy := [.data true T_A3]
abbrev R_box_full : List (Bool × Ty) := [(false, (.int .u64))]
abbrev M_box_full : List RMode := []
abbrev Ft_box_full : Type := D_A3 × Unit → Option (Int × Unit)
noncomputable def X_box_full (n : Nat) (F_box_size : Ft_box_size) : Ctx := { types := TT, globals := [], con := [(92, ⟨As_box_size, R_box_size, M_box_size, F_box_size⟩)], keep := [], results := [.tmp 2], ntmps := 7, n := n }
noncomputable def B_box_full : Code := (Try.f101.body).getD .skip
theorem e_box_full (n : Nat) (F_box_size : Ft_box_size) (a0 : D_A3) : runF (X_box_full n F_box_size) B_box_full As_box_full R_box_full M_box_full (a0, ()) = 
  Option.bind (F_box_size (a0, ())) fun r0 =>
  bif decide ((0 : Int) ≤ r0.1) then
    some ((IntKind.wrap .u64 ((shlI .u64 1 r0.1) - 1)), ())
  else none := by kernel_rfl
noncomputable def P_box_full : Ft_box_full := hid (runF (X_box_full N P_box_size) B_box_full As_box_full R_box_full M_box_full)
theorem h_box_full : P_box_full = runF (X_box_full N P_box_size) B_box_full As_box_full R_box_full M_box_full := hid_eq _
noncomputable def C_box_full : Contract := ⟨As_box_full, R_box_full, M_box_full, P_box_full⟩
theorem s_box_full : Sound Try.prog GG 101 C_box_full := by
  unfold C_box_full; rw [h_box_full]
  exact sound_of_run (fn := Try.f101) hmix hstable (tyOK_of ttOK) (hglob (X_box_full N P_box_size)) (conOK_of (X := X_box_full N P_box_size) ⟨s_box_size, trivial⟩) (mconOK_of (X := X_box_full N P_box_size) trivial) (by kernel_rfl) (by kernel_rfl) (by kernel_rfl) (by kernel_rfl) (by kernel_rfl) (of_decide_eq_true (by kernel_rfl))
theorem p_box_full (a0 : D_A3) : P_box_full (a0, ()) = 
  Option.bind (P_box_size (a0, ())) fun r0 =>
  bif decide ((0 : Int) ≤ r0.1) then
    some ((IntKind.wrap .u64 ((shlI .u64 1 r0.1) - 1)), ())
  else none := by
  rewrite [h_box_full]
  exact e_box_full N P_box_size a0

/- 116: math/bits.OnesCount64 -/
abbrev As_math_bits_OnesCount64 : List ATy := [.data false (.int .u64)]
abbrev R_math_bits_OnesCount64 : List (Bool × Ty) := [(false, (.int .i64))]
abbrev M_math_bits_OnesCount64 : List RMode := []
abbrev Ft_math_bits_OnesCount64 : Type := Int × Unit → Option (Int × Unit)
noncomputable def X_math_bits_OnesCount64 (n : Nat) : Ctx := { types := TT, globals := [], con := [], keep := [], results := [.tmp 2], ntmps := 35, n := n }
noncomputable def B_math_bits_OnesCount64 : Code := (Try.f116.body).getD .skip
theorem e_math_bits_OnesCount64 (n : Nat) (a0 : Int) : runF (X_math_bits_OnesCount64 n) B_math_bits_OnesCount64 As_math_bits_OnesCount64 R_math_bits_OnesCount64 M_math_bits_OnesCount64 (a0, ()) = 
  some ((intBits .and .i64 (IntKind.wrap .i64 (IntKind.wrap .u64 ((IntKind.wrap .u64 ((IntKind.wrap .u64 ((intBits .and .u64 (IntKind.wrap .u64 ((shrI .u64 (IntKind.wrap .u64 ((intBits .and .u64 (shrI .u64 (IntKind.wrap .u64 ((intBits .and .u64 (shrI .u64 a0 1) 6148914691236517205) + (intBits .and .u64 a0 6148914691236517205))) 2) 3689348814741910323) + (intBits .and .u64 (IntKind.wrap .u64 ((intBits .and .u64 (shrI .u64 a0 1) 6148914691236517205) + (intBits .and .u64 a0 6148914691236517205))) 3689348814741910323))) 4) + (IntKind.wrap .u64 ((intBits .and .u64 (shrI .u64 (IntKind.wrap .u64 ((intBits .and .u64 (shrI .u64 a0 1) 6148914691236517205) + (intBits .and .u64 a0 6148914691236517205))) 2) 3689348814741910323) + (intBits .and .u64 (IntKind.wrap .u64 ((intBits .and .u64 (shrI .u64 a0 1) 6148914691236517205) + (intBits .and .u64 a0 6148914691236517205))) 3689348814741910323))))) 1085102592571150095) + (shrI .u64 (intBits .and .u64 (IntKind.wrap .u64 ((shrI .u64 (IntKind.wrap .u64 ((intBits .and .u64 (shrI .u64 (IntKind.wrap .u64 ((intBits .and .u64 (shrI .u64 a0 1) 6148914691236517205) + (intBits .and .u64 a0 6148914691236517205))) 2) 3689348814741910323) + (intBits .and .u64 (IntKind.wrap .u64 ((intBits .and .u64 (shrI .u64 a0 1) 6148914691236517205) + (intBits .and .u64 a0 6148914691236517205))) 3689348814741910323))) 4) + (IntKind.wrap .u64 ((intBits .and .u64 (shrI .u64 (IntKind.wrap .u64 ((intBits .and .u64 (shrI .u64 a0 1) 6148914691236517205) + (intBits .and .u64 a0 6148914691236517205))) 2) 3689348814741910323) + (intBits .and .u64 (IntKind.wrap .u64 ((intBits .and .u64 (shrI .u64 a0 1) 6148914691236517205) + (intBits .and .u64 a0 6148914691236517205))) 3689348814741910323))))) 1085102592571150095) 8))) + (shrI .u64 (IntKind.wrap .u64 ((intBits .and .u64 (IntKind.wrap .u64 ((shrI .u64 (IntKind.wrap .u64 ((intBits .and .u64 (shrI .u64 (IntKind.wrap .u64 ((intBits .and .u64 (shrI .u64 a0 1) 6148914691236517205) + (intBits .and .u64 a0 6148914691236517205))) 2) 3689348814741910323) + (intBits .and .u64 (IntKind.wrap .u64 ((intBits .and .u64 (shrI .u64 a0 1) 6148914691236517205) + (intBits .and .u64 a0 6148914691236517205))) 3689348814741910323))) 4) + (IntKind.wrap .u64 ((intBits .and .u64 (shrI .u64 (IntKind.wrap .u64 ((intBits .and .u64 (shrI .u64 a0 1) 6148914691236517205) + (intBits .and .u64 a0 6148914691236517205))) 2) 3689348814741910323) + (intBits .and .u64 (IntKind.wrap .u64 ((intBits .and .u64 (shrI .u64 a0 1) 6148914691236517205) + (intBits .and .u64 a0 6148914691236517205))) 3689348814741910323))))) 1085102592571150095) + (shrI .u64 (intBits .and .u64 (IntKind.wrap .u64 ((shrI .u64 (IntKind.wrap .u64 ((intBits .and .u64 (shrI .u64 (IntKind.wrap .u64 ((intBits .and .u64 (shrI .u64 a0 1) 6148914691236517205) + (intBits .and .u64 a0 6148914691236517205))) 2) 3689348814741910323) + (intBits .and .u64 (IntKind.wrap .u64 ((intBits .and .u64 (shrI .u64 a0 1) 6148914691236517205) + (intBits .and .u64 a0 6148914691236517205))) 3689348814741910323))) 4) + (IntKind.wrap .u64 ((intBits .and .u64 (shrI .u64 (IntKind.wrap .u64 ((intBits .and .u64 (shrI .u64 a0 1) 6148914691236517205) + (intBits .and .u64 a0 6148914691236517205))) 2) 3689348814741910323) + (intBits .and .u64 (IntKind.wrap .u64 ((intBits .and .u64 (shrI .u64 a0 1) 6148914691236517205) + (intBits .and .u64 a0 6148914691236517205))) 3689348814741910323))))) 1085102592571150095) 8))) 16))) + (shrI .u64 (IntKind.wrap .u64 ((IntKind.wrap .u64 ((intBits .and .u64 (IntKind.wrap .u64 ((shrI .u64 (IntKind.wrap .u64 ((intBits .and .u64 (shrI .u64 (IntKind.wrap .u64 ((intBits .and .u64 (shrI .u64 a0 1) 6148914691236517205) + (intBits .and .u64 a0 6148914691236517205))) 2) 3689348814741910323) + (intBits .and .u64 (IntKind.wrap .u64 ((intBits .and .u64 (shrI .u64 a0 1) 6148914691236517205) + (intBits .and .u64 a0 6148914691236517205))) 3689348814741910323))) 4) + (IntKind.wrap .u64 ((intBits .and .u64 (shrI .u64 (IntKind.wrap .u64 ((intBits .and .u64 (shrI .u64 a0 1) 6148914691236517205) + (intBits .and .u64 a0 6148914691236517205))) 2) 3689348814741910323) + (intBits .and .u64 (IntKind.wrap .u64 ((intBits .and .u64 (shrI .u64 a0 1) 6148914691236517205) + (intBits .and .u64 a0 6148914691236517205))) 3689348814741910323))))) 1085102592571150095) + (shrI .u64 (intBits .and .u64 (IntKind.wrap .u64 ((shrI .u64 (IntKind.wrap .u64 ((intBits .and .u64 (shrI .u64 (IntKind.wrap .u64 ((intBits .and .u64 (shrI .u64 a0 1) 6148914691236517205) + (intBits .and .u64 a0 6148914691236517205))) 2) 3689348814741910323) + (intBits .and .u64 (IntKind.wrap .u64 ((intBits .and .u64 (shrI .u64 a0 1) 6148914691236517205) + (intBits .and .u64 a0 6148914691236517205))) 3689348814741910323))) 4) + (IntKind.wrap .u64 ((intBits .and .u64 (shrI .u64 (IntKind.wrap .u64 ((intBits .and .u64 (shrI .u64 a0 1) 6148914691236517205) + (intBits .and .u64 a0 6148914691236517205))) 2) 3689348814741910323) + (intBits .and .u64 (IntKind.wrap .u64 ((intBits .and .u64 (shrI .u64 a0 1) 6148914691236517205) + (intBits .and .u64 a0 6148914691236517205))) 3689348814741910323))))) 1085102592571150095) 8))) + (shrI .u64 (IntKind.wrap .u64 ((intBits .and .u64 (IntKind.wrap .u64 ((shrI .u64 (IntKind.wrap .u64 ((intBits .and .u64 (shrI .u64 (IntKind.wrap .u64 ((intBits .and .u64 (shrI .u64 a0 1) 6148914691236517205) + (intBits .and .u64 a0 6148914691236517205))) 2) 3689348814741910323) + (intBits .and .u64 (IntKind.wrap .u64 ((intBits .and .u64 (shrI .u64 a0 1) 6148914691236517205) + (intBits .and .u64 a0 6148914691236517205))) 3689348814741910323))) 4) + (IntKind.wrap .u64 ((intBits .and .u64 (shrI .u64 (IntKind.wrap .u64 ((intBits .and .u64 (shrI .u64 a0 1) 6148914691236517205) + (intBits .and .u64 a0 6148914691236517205))) 2) 3689348814741910323) + (intBits .and .u64 (IntKind.wrap .u64 ((intBits .and .u64 (shrI .u64 a0 1) 6148914691236517205) + (intBits .and .u64 a0 6148914691236517205))) 3689348814741910323))))) 1085102592571150095) + (shrI .u64 (intBits .and .u64 (IntKind.wrap .u64 ((shrI .u64 (IntKind.wrap .u64 ((intBits .and .u64 (shrI .u64 (IntKind.wrap .u64 ((intBits .and .u64 (shrI .u64 a0 1) 6148914691236517205) + (intBits .and .u64 a0 6148914691236517205))) 2) 3689348814741910323) + (intBits .and .u64 (IntKind.wrap .u64 ((intBits .and .u64 (shrI .u64 a0 1) 6148914691236517205) + (intBits .and .u64 a0 6148914691236517205))) 3689348814741910323))) 4) + (IntKind.wrap .u64 ((intBits .and .u64 (shrI .u64 (IntKind.wrap .u64 ((intBits .and .u64 (shrI .u64 a0 1) 6148914691236517205) + (intBits .and .u64 a0 6148914691236517205))) 2) 3689348814741910323) + (intBits .and .u64 (IntKind.wrap .u64 ((intBits .and .u64 (shrI .u64 a0 1) 6148914691236517205) + (intBits .and .u64 a0 6148914691236517205))) 3689348814741910323))))) 1085102592571150095) 8))) 16))) 32)))) 127), ()) := by kernel_rfl
noncomputable def P_math_bits_OnesCount64 : Ft_math_bits_OnesCount64 := hid (runF (X_math_bits_OnesCount64 N) B_math_bits_OnesCount64 As_math_bits_OnesCount64 R_math_bits_OnesCount64 M_math_bits_OnesCount64)
theorem h_math_bits_OnesCount64 : P_math_bits_OnesCount64 = runF (X_math_bits_OnesCount64 N) B_math_bits_OnesCount64 As_math_bits_OnesCount64 R_math_bits_OnesCount64 M_math_bits_OnesCount64 := hid_eq _
noncomputable def C_math_bits_OnesCount64 : Contract := ⟨As_math_bits_OnesCount64, R_math_bits_OnesCount64, M_math_bits_OnesCount64, P_math_bits_OnesCount64⟩
theorem s_math_bits_OnesCount64 : Sound Try.prog GG 116 C_math_bits_OnesCount64 := by
  unfold C_math_bits_OnesCount64; rw [h_math_bits_OnesCount64]
  exact sound_of_run (fn := Try.f116) hmix hstable (tyOK_of ttOK) (hglob (X_math_bits_OnesCount64 N)) (conOK_of (X := X_math_bits_OnesCount64 N) trivial) (mconOK_of (X := X_math_bits_OnesCount64 N) trivial) (by kernel_rfl) (by kernel_rfl) (by kernel_rfl) (by kernel_rfl) (by kernel_rfl) (of_decide_eq_true (by kernel_rfl))
theorem p_math_bits_OnesCount64 (a0 : Int) : P_math_bits_OnesCount64 (a0, ()) = 
  some ((intBits .and .i64 (IntKind.wrap .i64 (IntKind.wrap .u64 ((IntKind.wrap .u64 ((IntKind.wrap .u64 ((intBits .and .u64 (IntKind.wrap .u64 ((shrI .u64 (IntKind.wrap .u64 ((intBits .and .u64 (shrI .u64 (IntKind.wrap .u64 ((intBits .and .u64 (shrI .u64 a0 1) 6148914691236517205) + (intBits .and .u64 a0 6148914691236517205))) 2) 3689348814741910323) + (intBits .and .u64 (IntKind.wrap .u64 ((intBits .and .u64 (shrI .u64 a0 1) 6148914691236517205) + (intBits .and .u64 a0 6148914691236517205))) 3689348814741910323))) 4) + (IntKind.wrap .u64 ((intBits .and .u64 (shrI .u64 (IntKind.wrap .u64 ((intBits .and .u64 (shrI .u64 a0 1) 6148914691236517205) + (intBits .and .u64 a0 6148914691236517205))) 2) 3689348814741910323) + (intBits .and .u64 (IntKind.wrap .u64 ((intBits .and .u64 (shrI .u64 a0 1) 6148914691236517205) + (intBits .and .u64 a0 6148914691236517205))) 3689348814741910323))))) 1085102592571150095) + (shrI .u64 (intBits .and .u64 (IntKind.wrap .u64 ((shrI .u64 (IntKind.wrap .u64 ((intBits .and .u64 (shrI .u64 (IntKind.wrap .u64 ((intBits .and .u64 (shrI .u64 a0 1) 6148914691236517205) + (intBits .and .u64 a0 6148914691236517205))) 2) 3689348814741910323) + (intBits .and .u64 (IntKind.wrap .u64 ((intBits .and .u64 (shrI .u64 a0 1) 6148914691236517205) + (intBits .and .u64 a0 6148914691236517205))) 3689348814741910323))) 4) + (IntKind.wrap .u64 ((intBits .and .u64 (shrI .u64 (IntKind.wrap .u64 ((intBits .and .u64 (shrI .u64 a0 1) 6148914691236517205) + (intBits .and .u64 a0 6148914691236517205))) 2) 3689348814741910323) + (intBits .and .u64 (IntKind.wrap .u64 ((intBits .and .u64 (shrI .u64 a0 1) 6148914691236517205) + (intBits .and .u64 a0 6148914691236517205))) 3689348814741910323))))) 1085102592571150095) 8))) + (shrI .u64 (IntKind.wrap .u64 ((intBits .and .u64 (IntKind.wrap .u64 ((shrI .u64 (IntKind.wrap .u64 ((intBits .and .u64 (shrI .u64 (IntKind.wrap .u64 ((intBits .and .u64 (shrI .u64 a0 1) 6148914691236517205) + (intBits .and .u64 a0 6148914691236517205))) 2) 3689348814741910323) + (intBits .and .u64 (IntKind.wrap .u64 ((intBits .and .u64 (shrI .u64 a0 1) 6148914691236517205) + (intBits .and .u64 a0 6148914691236517205))) 3689348814741910323))) 4) + (IntKind.wrap .u64 ((intBits .and .u64 (shrI .u64 (IntKind.wrap .u64 ((intBits .and .u64 (shrI .u64 a0 1) 6148914691236517205) + (intBits .and .u64 a0 6148914691236517205))) 2) 3689348814741910323) + (intBits .and .u64 (IntKind.wrap .u64 ((intBits .and .u64 (shrI .u64 a0 1) 6148914691236517205) + (intBits .and .u64 a0 6148914691236517205))) 3689348814741910323))))) 1085102592571150095) + (shrI .u64 (intBits .and .u64 (IntKind.wrap .u64 ((shrI .u64 (IntKind.wrap .u64 ((intBits .and .u64 (shrI .u64 (IntKind.wrap .u64 ((intBits .and .u64 (shrI .u64 a0 1) 6148914691236517205) + (intBits .and .u64 a0 6148914691236517205))) 2) 3689348814741910323) + (intBits .and .u64 (IntKind.wrap .u64 ((intBits .and .u64 (shrI .u64 a0 1) 6148914691236517205) + (intBits .and .u64 a0 6148914691236517205))) 3689348814741910323))) 4) + (IntKind.wrap .u64 ((intBits .and .u64 (shrI .u64 (IntKind.wrap .u64 ((intBits .and .u64 (shrI .u64 a0 1) 6148914691236517205) + (intBits .and .u64 a0 6148914691236517205))) 2) 3689348814741910323) + (intBits .and .u64 (IntKind.wrap .u64 ((intBits .and .u64 (shrI .u64 a0 1) 6148914691236517205) + (intBits .and .u64 a0 6148914691236517205))) 3689348814741910323))))) 1085102592571150095) 8))) 16))) + (shrI .u64 (IntKind.wrap .u64 ((IntKind.wrap .u64 ((intBits .and .u64 (IntKind.wrap .u64 ((shrI .u64 (IntKind.wrap .u64 ((intBits .and .u64 (shrI .u64 (IntKind.wrap .u64 ((intBits .and .u64 (shrI .u64 a0 1) 6148914691236517205) + (intBits .and .u64 a0 6148914691236517205))) 2) 3689348814741910323) + (intBits .and .u64 (IntKind.wrap .u64 ((intBits .and .u64 (shrI .u64 a0 1) 6148914691236517205) + (intBits .and .u64 a0 6148914691236517205))) 3689348814741910323))) 4) + (IntKind.wrap .u64 ((intBits .and .u64 (shrI .u64 (IntKind.wrap .u64 ((intBits .and .u64 (shrI .u64 a0 1) 6148914691236517205) + (intBits .and .u64 a0 6148914691236517205))) 2) 3689348814741910323) + (intBits .and .u64 (IntKind.wrap .u64 ((intBits .and .u64 (shrI .u64 a0 1) 6148914691236517205) + (intBits .and .u64 a0 6148914691236517205))) 3689348814741910323))))) 1085102592571150095) + (shrI .u64 (intBits .and .u64 (IntKind.wrap .u64 ((shrI .u64 (IntKind.wrap .u64 ((intBits .and .u64 (shrI .u64 (IntKind.wrap .u64 ((intBits .and .u64 (shrI .u64 a0 1) 6148914691236517205) + (intBits .and .u64 a0 6148914691236517205))) 2) 3689348814741910323) + (intBits .and .u64 (IntKind.wrap .u64 ((intBits .and .u64 (shrI .u64 a0 1) 6148914691236517205) + (intBits .and .u64 a0 6148914691236517205))) 3689348814741910323))) 4) + (IntKind.wrap .u64 ((intBits .and .u64 (shrI .u64 (IntKind.wrap .u64 ((intBits .and .u64 (shrI .u64 a0 1) 6148914691236517205) + (intBits .and .u64 a0 6148914691236517205))) 2) 3689348814741910323) + (intBits .and .u64 (IntKind.wrap .u64 ((intBits .and .u64 (shrI .u64 a0 1) 6148914691236517205) + (intBits .and .u64 a0 6148914691236517205))) 3689348814741910323))))) 1085102592571150095) 8))) + (shrI .u64 (IntKind.wrap .u64 ((intBits .and .u64 (IntKind.wrap .u64 ((shrI .u64 (IntKind.wrap .u64 ((intBits .and .u64 (shrI .u64 (IntKind.wrap .u64 ((intBits .and .u64 (shrI .u64 a0 1) 6148914691236517205) + (intBits .and .u64 a0 6148914691236517205))) 2) 3689348814741910323) + (intBits .and .u64 (IntKind.wrap .u64 ((intBits .and .u64 (shrI .u64 a0 1) 6148914691236517205) + (intBits .and .u64 a0 6148914691236517205))) 3689348814741910323))) 4) + (IntKind.wrap .u64 ((intBits .and .u64 (shrI .u64 (IntKind.wrap .u64 ((intBits .and .u64 (shrI .u64 a0 1) 6148914691236517205) + (intBits .and .u64 a0 6148914691236517205))) 2) 3689348814741910323) + (intBits .and .u64 (IntKind.wrap .u64 ((intBits .and .u64 (shrI .u64 a0 1) 6148914691236517205) + (intBits .and .u64 a0 6148914691236517205))) 3689348814741910323))))) 1085102592571150095) + (shrI .u64 (intBits .and .u64 (IntKind.wrap .u64 ((shrI .u64 (IntKind.wrap .u64 ((intBits .and .u64 (shrI .u64 (IntKind.wrap .u64 ((intBits .and .u64 (shrI .u64 a0 1) 6148914691236517205) + (intBits .and .u64 a0 6148914691236517205))) 2) 3689348814741910323) + (intBits .and .u64 (IntKind.wrap .u64 ((intBits .and .u64 (shrI .u64 a0 1) 6148914691236517205) + (intBits .and .u64 a0 6148914691236517205))) 3689348814741910323))) 4) + (IntKind.wrap .u64 ((intBits .and .u64 (shrI .u64 (IntKind.wrap .u64 ((intBits .and .u64 (shrI .u64 a0 1) 6148914691236517205) + (intBits .and .u64 a0 6148914691236517205))) 2) 3689348814741910323) + (intBits .and .u64 (IntKind.wrap .u64 ((intBits .and .u64 (shrI .u64 a0 1) 6148914691236517205) + (intBits .and .u64 a0 6148914691236517205))) 3689348814741910323))))) 1085102592571150095) 8))) 16))) 32)))) 127), ()) := by
  rewrite [h_math_bits_OnesCount64]
  exact e_math_bits_OnesCount64 N a0

/- 103: (loop.example/g01166/impl.set).count -/
abbrev As_set_count : List ATy := [.data false (.int .u64)]
abbrev R_set_count : List (Bool × Ty) := [(false, (.int .i64))]
abbrev M_set_count : List RMode := []
abbrev Ft_set_count : Type := Int × Unit → Option (Int × Unit)
noncomputable def X_set_count (n : Nat) (F_math_bits_OnesCount64 : Ft_math_bits_OnesCount64) : Ctx := { types := TT, globals := [], con := [(116, ⟨As_math_bits_OnesCount64, R_math_bits_OnesCount64, M_math_bits_OnesCount64, F_math_bits_OnesCount64⟩)], keep := [], results := [.tmp 2], ntmps := 5, n := n }
noncomputable def B_set_count : Code := (Try.f103.body).getD .skip
theorem e_set_count (n : Nat) (F_math_bits_OnesCount64 : Ft_math_bits_OnesCount64) (a0 : Int) : runF (X_set_count n F_math_bits_OnesCount64) B_set_count As_set_count R_set_count M_set_count (a0, ()) = 
  Option.bind (F_math_bits_OnesCount64 (a0, ())) fun r0 =>
  some (r0.1, ()) := by kernel_rfl
noncomputable def P_set_count : Ft_set_count := hid (runF (X_set_count N P_math_bits_OnesCount64) B_set_count As_set_count R_set_count M_set_count)
theorem h_set_count : P_set_count = runF (X_set_count N P_math_bits_OnesCount64) B_set_count As_set_count R_set_count M_set_count := hid_eq _
noncomputable def C_set_count : Contract := ⟨As_set_count, R_set_count, M_set_count, P_set_count⟩
theorem s_set_count : Sound Try.prog GG 103 C_set_count := by
  unfold C_set_count; rw [h_set_count]
  exact sound_of_run (fn := Try.f103) hmix hstable (tyOK_of ttOK) (hglob (X_set_count N P_math_bits_OnesCount64)) (conOK_of (X := X_set_count N P_math_bits_OnesCount64) ⟨s_math_bits_OnesCount64, trivial⟩) (mconOK_of (X := X_set_count N P_math_bits_OnesCount64) trivial) (by kernel_rfl) (by kernel_rfl) (by kernel_rfl) (by kernel_rfl) (by kernel_rfl) (of_decide_eq_true (by kernel_rfl))
theorem p_set_count (a0 : Int) : P_set_count (a0, ()) = 
  Option.bind (P_math_bits_OnesCount64 (a0, ())) fun r0 =>
  some (r0.1, ()) := by
  rewrite [h_set_count]
  exact e_set_count N P_math_bits_OnesCount64 a0

/- 102: (loop.example/g01166/impl.Heap).enclosed$1 -/
abbrev As_Heap_enclosed_1 : List ATy := [.data true T_A3, .ptr T_A3]
abbrev R_Heap_enclosed_1 : List (Bool × Ty) := [(false, .bool)]
abbrev M_Heap_enclosed_1 : List RMode := []
abbrev Ft_Heap_enclosed_1 : Type := D_A3 × D_A3 × Unit → Option (Bool × Unit)
noncomputable def X_Heap_enclosed_1 (n : Nat) (F_box_near : Ft_box_near) (F_set_count : Ft_set_count) : Ctx := { types := TT, globals := [], con := [(94, ⟨As_box_near, R_box_near, M_box_near, F_box_near⟩), (103, ⟨As_set_count, R_set_count, M_set_count, F_set_count⟩)], keep := [], results := [.tmp 3], ntmps := 9, n := n }
noncomputable def B_Heap_enclosed_1 : Code := (Try.f102.body).getD .skip
theorem e_Heap_enclosed_1 (n : Nat) (F_box_near : Ft_box_near) (F_set_count : Ft_set_count) (a0 : D_A3) (a1 : D_A3) : runF (X_Heap_enclosed_1 n F_box_near F_set_count) B_Heap_enclosed_1 As_Heap_enclosed_1 R_Heap_enclosed_1 M_Heap_enclosed_1 (a0, a1, ()) = 
  Option.bind (F_box_near (a1, a0, ())) fun r0 =>
  Option.bind (F_set_count (r0.1, ())) fun r1 =>
  some (decide (r1.1 < 6), ()) := by kernel_rfl
noncomputable def P_Heap_enclosed_1 : Ft_Heap_enclosed_1 := hid (runF (X_Heap_enclosed_1 N P_box_near P_set_count) B_Heap_enclosed_1 As_Heap_enclosed_1 R_Heap_enclosed_1 M_Heap_enclosed_1)
theorem h_Heap_enclosed_1 : P_Heap_enclosed_1 = runF (X_Heap_enclosed_1 N P_box_near P_set_count) B_Heap_enclosed_1 As_Heap_enclosed_1 R_Heap_enclosed_1 M_Heap_enclosed_1 := hid_eq _
noncomputable def C_Heap_enclosed_1 : Contract := ⟨As_Heap_enclosed_1, R_Heap_enclosed_1, M_Heap_enclosed_1, P_Heap_enclosed_1⟩
theorem s_Heap_enclosed_1 : Sound Try.prog GG 102 C_Heap_enclosed_1 := by
  unfold C_Heap_enclosed_1; rw [h_Heap_enclosed_1]
  exact sound_of_run (fn := Try.f102) hmix hstable (tyOK_of ttOK) (hglob (X_Heap_enclosed_1 N P_box_near P_set_count)) (conOK_of (X := X_Heap_enclosed_1 N P_box_near P_set_count) ⟨s_box_near, s_set_count, trivial⟩) (mconOK_of (X := X_Heap_enclosed_1 N P_box_near P_set_count) trivial) (by kernel_rfl) (by kernel_rfl) (by kernel_rfl) (by kernel_rfl) (by kernel_rfl) (of_decide_eq_true (by kernel_rfl))
theorem p_Heap_enclosed_1 (a0 : D_A3) (a1 : D_A3) : P_Heap_enclosed_1 (a0, a1, ()) = 
  Option.bind (P_box_near (a1, a0, ())) fun r0 =>
  Option.bind (P_set_count (r0.1, ())) fun r1 =>
  some (decide (r1.1 < 6), ()) := by
  rewrite [h_Heap_enclosed_1]
  exact e_Heap_enclosed_1 N P_box_near P_set_count a0 a1

/- 75: (loop.example/g01166/impl.Heap).enclosed -/
abbrev As_Heap_enclosed : List ATy := [.data true T_Heap]
abbrev R_Heap_enclosed : List (Bool × Ty) := [(false, (.int .u64))]
abbrev M_Heap_enclosed : List RMode := []
abbrev Ft_Heap_enclosed : Type := D_Heap × Unit → Option (Int × Unit)
noncomputable def X_Heap_enclosed (n : Nat) (F_Heap_box : Ft_Heap_box) (F_Heap_cubes : Ft_Heap_cubes) (F_box_those : Ft_box_those) (F_box_grown : Ft_box_grown) (F_box_full : Ft_box_full) (F_Heap_enclosed_1 : Ft_Heap_enclosed_1) : Ctx := { types := TT, globals := [], con := [(52, ⟨As_Heap_box, R_Heap_box, M_Heap_box, F_Heap_box⟩), (53, ⟨As_Heap_cubes, R_Heap_cubes, M_Heap_cubes, F_Heap_cubes⟩), (55, ⟨As_box_those, R_box_those, M_box_those, F_box_those⟩), (57, ⟨As_box_grown, R_box_grown, M_box_grown, F_box_grown⟩), (101, ⟨As_box_full, R_box_full, M_box_full, F_box_full⟩), (102, ⟨As_Heap_enclosed_1, R_Heap_enclosed_1, M_Heap_enclosed_1, F_Heap_enclosed_1⟩)], keep := [], results := [.tmp 2], ntmps := 24, n := n }
noncomputable def B_Heap_enclosed : Code := (Try.f75.body).getD .skip
theorem e_Heap_enclosed (n : Nat) (F_Heap_box : Ft_Heap_box) (F_Heap_cubes : Ft_Heap_cubes) (F_box_those : Ft_box_those) (F_box_grown : Ft_box_grown) (F_box_full : Ft_box_full) (F_Heap_enclosed_1 : Ft_Heap_enclosed_1) (a0 : D_Heap) : runF (X_Heap_enclosed n F_Heap_box F_Heap_cubes F_box_those F_box_grown F_box_full F_Heap_enclosed_1) B_Heap_enclosed As_Heap_enclosed R_Heap_enclosed M_Heap_enclosed (a0, ()) = 
  Option.bind (F_Heap_box (a0, ())) fun r0 =>
  Option.bind (F_box_full (r0.1, ())) fun r1 =>
  Option.bind (F_Heap_cubes (a0, ())) fun r2 =>
  Option.bind (F_box_those (r0.1, (fun (y : D_A3 × Unit) => F_Heap_enclosed_1 (y.1, r0.1, ())), ())) fun r3 =>
  Option.bind (F_box_grown (r0.1, (intBits .and .u64 (intBits .andNot .u64 r1.1 r2.1) r3.1), (intBits .andNot .u64 r1.1 r2.1), ())) fun r4 =>
  some ((intBits .andNot .u64 (intBits .andNot .u64 r1.1 r2.1) r4.1), ()) := by kernel_rfl
noncomputable def P_Heap_enclosed : Ft_Heap_enclosed := hid (runF (X_Heap_enclosed N P_Heap_box P_Heap_cubes P_box_those P_box_grown P_box_full P_Heap_enclosed_1) B_Heap_enclosed As_Heap_enclosed R_Heap_enclosed M_Heap_enclosed)
theorem h_Heap_enclosed : P_Heap_enclosed = runF (X_Heap_enclosed N P_Heap_box P_Heap_cubes P_box_those P_box_grown P_box_full P_Heap_enclosed_1) B_Heap_enclosed As_Heap_enclosed R_Heap_enclosed M_Heap_enclosed := hid_eq _
noncomputable def C_Heap_enclosed : Contract := ⟨As_Heap_enclosed, R_Heap_enclosed, M_Heap_enclosed, P_Heap_enclosed⟩
theorem s_Heap_enclosed : Sound Try.prog GG 75 C_Heap_enclosed := by
  unfold C_Heap_enclosed; rw [h_Heap_enclosed]
  exact sound_of_run (fn := Try.f75) hmix hstable (tyOK_of ttOK) (hglob (X_Heap_enclosed N P_Heap_box P_Heap_cubes P_box_those P_box_grown P_box_full P_Heap_enclosed_1)) (conOK_of (X := X_Heap_enclosed N P_Heap_box P_Heap_cubes P_box_those P_box_grown P_box_full P_Heap_enclosed_1) ⟨s_Heap_box, s_Heap_cubes, s_box_those, s_box_grown, s_box_full, s_Heap_enclosed_1, trivial⟩) (mconOK_of (X := X_Heap_enclosed N P_Heap_box P_Heap_cubes P_box_those P_box_grown P_box_full P_Heap_enclosed_1) trivial) (by kernel_rfl) (by kernel_rfl) (by kernel_rfl) (by kernel_rfl) (by kernel_rfl) (of_decide_eq_true (by kernel_rfl))
theorem p_Heap_enclosed (a0 : D_Heap) : P_Heap_enclosed (a0, ()) = 
  Option.bind (P_Heap_box (a0, ())) fun r0 =>
  Option.bind (P_box_full (r0.1, ())) fun r1 =>
  Option.bind (P_Heap_cubes (a0, ())) fun r2 =>
  Option.bind (P_box_those (r0.1, (fun (y : D_A3 × Unit) => P_Heap_enclosed_1 (y.1, r0.1, ())), ())) fun r3 =>
  Option.bind (P_box_grown (r0.1, (intBits .and .u64 (intBits .andNot .u64 r1.1 r2.1) r3.1), (intBits .andNot .u64 r1.1 r2.1), ())) fun r4 =>
  some ((intBits .andNot .u64 (intBits .andNot .u64 r1.1 r2.1) r4.1), ()) := by
  rewrite [h_Heap_enclosed]
  exact e_Heap_enclosed N P_Heap_box P_Heap_cubes P_box_those P_box_grown P_box_full P_Heap_enclosed_1 a0

/- 76: loop.example/g01166/impl.beyond -/
abbrev As_impl_beyond : List ATy := [.data true T_A3, .data false (.int .i64)]
abbrev R_impl_beyond : List (Bool × Ty) := [(true, T_A3)]
abbrev M_impl_beyond : List RMode := []
abbrev Ft_impl_beyond : Type := D_A3 × Int × Unit → Option (D_A3 × Unit)
noncomputable def X_impl_beyond (n : Nat) : Ctx := { types := TT, globals := [], con := [], keep := [], results := [.cell 4 25], ntmps := 16, n := n }
noncomputable def B_impl_beyond : Code := (Try.f76.body).getD .skip
theorem e_impl_beyond (n : Nat) (a0 : D_A3) (a1 : Int) : runF (X_impl_beyond n) B_impl_beyond As_impl_beyond R_impl_beyond M_impl_beyond (a0, a1, ()) = 
  bif inB (IntKind.wrap .i64 (Int.tdiv a1 2)) 3 then
    bif inB (IntKind.wrap .i64 (Int.tdiv a1 2)) 3 then
      some (((bif decide ((IntKind.wrap .i64 (Int.tdiv a1 2)) = (0 : Int)) then (IntKind.wrap .i64 ((bif decide ((IntKind.wrap .i64 (Int.tdiv a1 2)) = (0 : Int)) then a0.1 else (bif decide ((IntKind.wrap .i64 (Int.tdiv a1 2)) = (1 : Int)) then a0.2.1 else a0.2.2.1)) + (IntKind.wrap .i64 ((IntKind.wrap .i64 (2 * (Int.tmod a1 2))) - 1)))) else a0.1), ((bif decide ((IntKind.wrap .i64 (Int.tdiv a1 2)) = (1 : Int)) then (IntKind.wrap .i64 ((bif decide ((IntKind.wrap .i64 (Int.tdiv a1 2)) = (0 : Int)) then a0.1 else (bif decide ((IntKind.wrap .i64 (Int.tdiv a1 2)) = (1 : Int)) then a0.2.1 else a0.2.2.1)) + (IntKind.wrap .i64 ((IntKind.wrap .i64 (2 * (Int.tmod a1 2))) - 1)))) else a0.2.1), ((bif decide ((IntKind.wrap .i64 (Int.tdiv a1 2)) = (2 : Int)) then (IntKind.wrap .i64 ((bif decide ((IntKind.wrap .i64 (Int.tdiv a1 2)) = (0 : Int)) then a0.1 else (bif decide ((IntKind.wrap .i64 (Int.tdiv a1 2)) = (1 : Int)) then a0.2.1 else a0.2.2.1)) + (IntKind.wrap .i64 ((IntKind.wrap .i64 (2 * (Int.tmod a1 2))) - 1)))) else a0.2.2.1), ()))), ())
    else none
  else none := by kernel_rfl
noncomputable def P_impl_beyond : Ft_impl_beyond := hid (runF (X_impl_beyond N) B_impl_beyond As_impl_beyond R_impl_beyond M_impl_beyond)
theorem h_impl_beyond : P_impl_beyond = runF (X_impl_beyond N) B_impl_beyond As_impl_beyond R_impl_beyond M_impl_beyond := hid_eq _
noncomputable def C_impl_beyond : Contract := ⟨As_impl_beyond, R_impl_beyond, M_impl_beyond, P_impl_beyond⟩
theorem s_impl_beyond : Sound Try.prog GG 76 C_impl_beyond := by
  unfold C_impl_beyond; rw [h_impl_beyond]
  exact sound_of_run (fn := Try.f76) hmix hstable (tyOK_of ttOK) (hglob (X_impl_beyond N)) (conOK_of (X := X_impl_beyond N) trivial) (mconOK_of (X := X_impl_beyond N) trivial) (by kernel_rfl) (by kernel_rfl) (by kernel_rfl) (by kernel_rfl) (by kernel_rfl) (of_decide_eq_true (by kernel_rfl))
theorem p_impl_beyond (a0 : D_A3) (a1 : Int) : P_impl_beyond (a0, a1, ()) = 
  bif inB (IntKind.wrap .i64 (Int.tdiv a1 2)) 3 then
    bif inB (IntKind.wrap .i64 (Int.tdiv a1 2)) 3 then
      some (((bif decide ((IntKind.wrap .i64 (Int.tdiv a1 2)) = (0 : Int)) then (IntKind.wrap .i64 ((bif decide ((IntKind.wrap .i64 (Int.tdiv a1 2)) = (0 : Int)) then a0.1 else (bif decide ((IntKind.wrap .i64 (Int.tdiv a1 2)) = (1 : Int)) then a0.2.1 else a0.2.2.1)) + (IntKind.wrap .i64 ((IntKind.wrap .i64 (2 * (Int.tmod a1 2))) - 1)))) else a0.1), ((bif decide ((IntKind.wrap .i64 (Int.tdiv a1 2)) = (1 : Int)) then (IntKind.wrap .i64 ((bif decide ((IntKind.wrap .i64 (Int.tdiv a1 2)) = (0 : Int)) then a0.1 else (bif decide ((IntKind.wrap .i64 (Int.tdiv a1 2)) = (1 : Int)) then a0.2.1 else a0.2.2.1)) + (IntKind.wrap .i64 ((IntKind.wrap .i64 (2 * (Int.tmod a1 2))) - 1)))) else a0.2.1), ((bif decide ((IntKind.wrap .i64 (Int.tdiv a1 2)) = (2 : Int)) then (IntKind.wrap .i64 ((bif decide ((IntKind.wrap .i64 (Int.tdiv a1 2)) = (0 : Int)) then a0.1 else (bif decide ((IntKind.wrap .i64 (Int.tdiv a1 2)) = (1 : Int)) then a0.2.1 else a0.2.2.1)) + (IntKind.wrap .i64 ((IntKind.wrap .i64 (2 * (Int.tmod a1 2))) - 1)))) else a0.2.2.1), ()))), ())
    else none
  else none := by
  rewrite [h_impl_beyond]
  exact e_impl_beyond N a0 a1

/- 77: (loop.example/g01166/impl.Heap).isBare -/
abbrev As_Heap_isBare : List ATy := [.data true T_Heap, .data true T_A3]
abbrev R_Heap_isBare : List (Bool × Ty) := [(false, .bool)]
abbrev M_Heap_isBare : List RMode := []
abbrev Ft_Heap_isBare : Type := D_Heap × D_A3 × Unit → Option (Bool × Unit)
noncomputable def X_Heap_isBare (n : Nat) (F_Heap_hasCube : Ft_Heap_hasCube) (F_Heap_box : Ft_Heap_box) (F_box_has : Ft_box_has) : Ctx := { types := TT, globals := [], con := [(41, ⟨As_Heap_hasCube, R_Heap_hasCube, M_Heap_hasCube, F_Heap_hasCube⟩), (52, ⟨As_Heap_box, R_Heap_box, M_Heap_box, F_Heap_box⟩), (72, ⟨As_box_has, R_box_has, M_box_has, F_box_has⟩)], keep := [], results := [.tmp 4], ntmps := 16, n := n }
noncomputable def B_Heap_isBare : Code := (Try.f77.body).getD .skip
theorem e_Heap_isBare (n : Nat) (F_Heap_hasCube : Ft_Heap_hasCube) (F_Heap_box : Ft_Heap_box) (F_box_has : Ft_box_has) (a0 : D_Heap) (a1 : D_A3) : runF (X_Heap_isBare n F_Heap_hasCube F_Heap_box F_box_has) B_Heap_isBare As_Heap_isBare R_Heap_isBare M_Heap_isBare (a0, a1, ()) = 
  Option.bind (F_Heap_box (a0, ())) fun r0 =>
  Option.bind (F_box_has (r0.1, a1, ())) fun r1 =>
  bif !r1.1 then
    some (true, ())
  else
    Option.bind (F_Heap_hasCube (a0, a1, ())) fun r3 =>
    some (!r3.1, ()) := by kernel_rfl
noncomputable def P_Heap_isBare : Ft_Heap_isBare := hid (runF (X_Heap_isBare N P_Heap_hasCube P_Heap_box P_box_has) B_Heap_isBare As_Heap_isBare R_Heap_isBare M_Heap_isBare)
theorem h_Heap_isBare : P_Heap_isBare = runF (X_Heap_isBare N P_Heap_hasCube P_Heap_box P_box_has) B_Heap_isBare As_Heap_isBare R_Heap_isBare M_Heap_isBare := hid_eq _
noncomputable def C_Heap_isBare : Contract := ⟨As_Heap_isBare, R_Heap_isBare, M_Heap_isBare, P_Heap_isBare⟩
theorem s_Heap_isBare : Sound Try.prog GG 77 C_Heap_isBare := by
  unfold C_Heap_isBare; rw [h_Heap_isBare]
  exact sound_of_run (fn := Try.f77) hmix hstable (tyOK_of ttOK) (hglob (X_Heap_isBare N P_Heap_hasCube P_Heap_box P_box_has)) (conOK_of (X := X_Heap_isBare N P_Heap_hasCube P_Heap_box P_box_has) ⟨s_Heap_hasCube, s_Heap_box, s_box_has, trivial⟩) (mconOK_of (X := X_Heap_isBare N P_Heap_hasCube P_Heap_box P_box_has) trivial) (by kernel_rfl) (by kernel_rfl) (by kernel_rfl) (by kernel_rfl) (by kernel_rfl) (of_decide_eq_true (by kernel_rfl))
theorem p_Heap_isBare (a0 : D_Heap) (a1 : D_A3) : P_Heap_isBare (a0, a1, ()) = 
  Option.bind (P_Heap_box (a0, ())) fun r0 =>
  Option.bind (P_box_has (r0.1, a1, ())) fun r1 =>
  bif !r1.1 then
    some (true, ())
  else
    Option.bind (P_Heap_hasCube (a0, a1, ())) fun r3 =>
    some (!r3.1, ()) := by
  rewrite [h_Heap_isBare]
  exact e_Heap_isBare N P_Heap_hasCube P_Heap_box P_box_has a0 a1

/- 42: (loop.example/g01166/impl.Heap).painted -/
abbrev As_Heap_painted : List ATy := [.data true T_Heap, .data false .bool]
abbrev R_Heap_painted : List (Bool × Ty) := [(false, (.sl (.int .i64)))]
abbrev M_Heap_painted : List RMode := [.own 3]
abbrev Ft_Heap_painted : Type := D_Heap × Bool × Unit → Option ((List Int) × Unit)
noncomputable def X_Heap_painted (n : Nat) (F_Heap_box : Ft_Heap_box) (F_box_has : Ft_box_has) (F_set_has : Ft_set_has) (F_box_index : Ft_box_index) (F_Heap_enclosed : Ft_Heap_enclosed) (F_impl_beyond : Ft_impl_beyond) (F_Heap_isBare : Ft_Heap_isBare) : Ctx := { types := TT, globals := [], con := [(52, ⟨As_Heap_box, R_Heap_box, M_Heap_box, F_Heap_box⟩), (72, ⟨As_box_has, R_box_has, M_box_has, F_box_has⟩), (73, ⟨As_set_has, R_set_has, M_set_has, F_set_has⟩), (74, ⟨As_box_index, R_box_index, M_box_index, F_box_index⟩), (75, ⟨As_Heap_enclosed, R_Heap_enclosed, M_Heap_enclosed, F_Heap_enclosed⟩), (76, ⟨As_impl_beyond, R_impl_beyond, M_impl_beyond, F_impl_beyond⟩), (77, ⟨As_Heap_isBare, R_Heap_isBare, M_Heap_isBare, F_Heap_isBare⟩)], keep := [(5, ⟨[.box 2, .tmp 2, .tmp 5, .tmp 6, .tmp 17, .tmp 18, .tmp 19], []⟩), (9, ⟨[.box 2, .box 8, .tmp 2, .tmp 5, .tmp 6, .tmp 8, .tmp 9, .tmp 17, .tmp 18, .tmp 19, .tmp 23], []⟩)], results := [.tmp 4], ntmps := 57, n := n }
noncomputable def B_Heap_painted : Code := (Try.f42.body).getD .skip
noncomputable def L_Heap_painted_5 (n : Nat) (F_Heap_box : Ft_Heap_box) (F_box_has : Ft_box_has) (F_set_has : Ft_set_has) (F_box_index : Ft_box_index) (F_Heap_enclosed : Ft_Heap_enclosed) (F_impl_beyond : Ft_impl_beyond) (F_Heap_isBare : Ft_Heap_isBare) (m0 : Nat) (p0 : Int) (p1 : Int) (p2 : Int) (p3 : List D_A3) (p4 : List Int) (p5 : Int) (p6 : List D_A3) (p7 : Int) (p8 : Int) : Option (denL R_Heap_painted) := loopF (X_Heap_painted n F_Heap_box F_box_has F_set_has F_box_index F_Heap_enclosed F_impl_beyond F_Heap_isBare) B_Heap_painted R_Heap_painted M_Heap_painted 5 [m0] [(.ver, .num 1), (.box 2, .box 0 false [.int .i64 p0, .int .i64 p1, .int .i64 p2, .imm T_A3 p3 (some 3)]), (.tmp 2, .val false [.addr 2 0 0]), (.tmp 5, .val false [.own 3 (.int .i64) 0 p4]), (.tmp 6, .val false [.int .u64 p5]), (.tmp 17, .val false [.imm T_A3 p6 (some 3)]), (.tmp 18, .val false [.int .i64 p7]), (.tmp 19, .val false [.int .i64 p8])]
noncomputable def L_Heap_painted_9 (n : Nat) (F_Heap_box : Ft_Heap_box) (F_box_has : Ft_box_has) (F_set_has : Ft_set_has) (F_box_index : Ft_box_index) (F_Heap_enclosed : Ft_Heap_enclosed) (F_impl_beyond : Ft_impl_beyond) (F_Heap_isBare : Ft_Heap_isBare) (m0 m1 : Nat) (p0 : Int) (p1 : Int) (p2 : Int) (p3 : List D_A3) (p4 : Int) (p5 : Int) (p6 : Int) (p7 : List Int) (p8 : Int) (p9 : Int) (p10 : List D_A3) (p11 : Int) (p12 : Int) (p13 : Int) : Option (denL R_Heap_painted) := loopF (X_Heap_painted n F_Heap_box F_box_has F_set_has F_box_index F_Heap_enclosed F_impl_beyond F_Heap_isBare) B_Heap_painted R_Heap_painted M_Heap_painted 9 [m0, m1] [(.ver, .num 1), (.box 2, .box 0 false [.int .i64 p0, .int .i64 p1, .int .i64 p2, .imm T_A3 p3 (some 3)]), (.box 8, .box 0 false [.int .i64 p4, .int .i64 p5, .int .i64 p6]), (.tmp 2, .val false [.addr 2 0 0]), (.tmp 5, .val false [.own 3 (.int .i64) 0 p7]), (.tmp 6, .val false [.int .u64 p8]), (.tmp 8, .val false [.addr 8 0 0]), (.tmp 9, .val false [.int .i64 p9]), (.tmp 17, .val false [.imm T_A3 p10 (some 3)]), (.tmp 18, .val false [.int .i64 p11]), (.tmp 19, .val false [.int .i64 p12]), (.tmp 23, .val false [.int .i64 p13])]
theorem e_Heap_painted (n : Nat) (F_Heap_box : Ft_Heap_box) (F_box_has : Ft_box_has) (F_set_has : Ft_set_has) (F_box_index : Ft_box_index) (F_Heap_enclosed : Ft_Heap_enclosed) (F_impl_beyond : Ft_impl_beyond) (F_Heap_isBare : Ft_Heap_isBare) (a0 : D_Heap) (a1 : Bool) : runF (X_Heap_painted n F_Heap_box F_box_has F_set_has F_box_index F_Heap_enclosed F_impl_beyond F_Heap_isBare) B_Heap_painted As_Heap_painted R_Heap_painted M_Heap_painted (a0, a1, ()) = 
  bif a1 then
    Option.bind (F_Heap_enclosed (a0, ())) fun r1 =>
    L_Heap_painted_5 n F_Heap_box F_box_has F_set_has F_box_index F_Heap_enclosed F_impl_beyond F_Heap_isBare n a0.1 a0.2.1 a0.2.2.1 a0.2.2.2.1 ([] : List Int) r1.1 a0.2.2.2.1 (List.length a0.2.2.2.1 : Int) 0
  else
    L_Heap_painted_5 n F_Heap_box F_box_has F_set_has F_box_index F_Heap_enclosed F_impl_beyond F_Heap_isBare n a0.1 a0.2.1 a0.2.2.1 a0.2.2.2.1 ([] : List Int) 0 a0.2.2.2.1 (List.length a0.2.2.2.1 : Int) 0 := by kernel_rfl
theorem e_Heap_painted_5 (n : Nat) (F_Heap_box : Ft_Heap_box) (F_box_has : Ft_box_has) (F_set_has : Ft_set_has) (F_box_index : Ft_box_index) (F_Heap_enclosed : Ft_Heap_enclosed) (F_impl_beyond : Ft_impl_beyond) (F_Heap_isBare : Ft_Heap_isBare) (m0 : Nat) (p0 : Int) (p1 : Int) (p2 : Int) (p3 : List D_A3) (p4 : List Int) (p5 : Int) (p6 : List D_A3) (p7 : Int) (p8 : Int) : L_Heap_painted_5 n F_Heap_box F_box_has F_set_has F_box_index F_Heap_enclosed F_impl_beyond F_Heap_isBare (m0 + 1) p0 p1 p2 p3 p4 p5 p6 p7 p8 = 
  bif decide (p8 < p7) then
    bif inB p8 (List.length p6) then
      L_Heap_painted_9 n F_Heap_box F_box_has F_set_has F_box_index F_Heap_enclosed F_impl_beyond F_Heap_isBare m0 n p0 p1 p2 p3 (((nth T_A3 p6 p8)).1) ((((nth T_A3 p6 p8)).2).1) (((((nth T_A3 p6 p8)).2).2).1) p4 p5 0 p6 p7 p8 0
    else none
  else
    some (p4, ()) := by kernel_rfl
theorem e_Heap_painted_9 (n : Nat) (F_Heap_box : Ft_Heap_box) (F_box_has : Ft_box_has) (F_set_has : Ft_set_has) (F_box_index : Ft_box_index) (F_Heap_enclosed : Ft_Heap_enclosed) (F_impl_beyond : Ft_impl_beyond) (F_Heap_isBare : Ft_Heap_isBare) (m0 m1 : Nat) (p0 : Int) (p1 : Int) (p2 : Int) (p3 : List D_A3) (p4 : Int) (p5 : Int) (p6 : Int) (p7 : List Int) (p8 : Int) (p9 : Int) (p10 : List D_A3) (p11 : Int) (p12 : Int) (p13 : Int) : L_Heap_painted_9 n F_Heap_box F_box_has F_set_has F_box_index F_Heap_enclosed F_impl_beyond F_Heap_isBare m0 (m1 + 1) p0 p1 p2 p3 p4 p5 p6 p7 p8 p9 p10 p11 p12 p13 = 
  bif decide (p13 < 6) then
    Option.bind (F_impl_beyond ((p4, (p5, (p6, ()))), p13, ())) fun r1 =>
    Option.bind (F_Heap_isBare ((p0, (p1, (p2, (p3, ())))), r1.1, ())) fun r2 =>
    bif r2.1 then
      Option.bind (F_Heap_box ((p0, (p1, (p2, (p3, ())))), ())) fun r4 =>
      Option.bind (F_box_has (r4.1, r1.1, ())) fun r5 =>
      bif !r5.1 then
        L_Heap_painted_9 n F_Heap_box F_box_has F_set_has F_box_index F_Heap_enclosed F_impl_beyond F_Heap_isBare m0 m1 p0 p1 p2 p3 p4 p5 p6 p7 p8 (IntKind.wrap .i64 (p9 + 1)) p10 p11 p12 (IntKind.wrap .i64 (p13 + 1))
      else
        Option.bind (F_Heap_box ((p0, (p1, (p2, (p3, ())))), ())) fun r7 =>
        Option.bind (F_box_index (r7.1, r1.1, ())) fun r8 =>
        Option.bind (F_set_has (p8, r8.1, ())) fun r9 =>
        bif !r9.1 then
          L_Heap_painted_9 n F_Heap_box F_box_has F_set_has F_box_index F_Heap_enclosed F_impl_beyond F_Heap_isBare m0 m1 p0 p1 p2 p3 p4 p5 p6 p7 p8 (IntKind.wrap .i64 (p9 + 1)) p10 p11 p12 (IntKind.wrap .i64 (p13 + 1))
        else
          L_Heap_painted_9 n F_Heap_box F_box_has F_set_has F_box_index F_Heap_enclosed F_impl_beyond F_Heap_isBare m0 m1 p0 p1 p2 p3 p4 p5 p6 p7 p8 p9 p10 p11 p12 (IntKind.wrap .i64 (p13 + 1))
    else
      L_Heap_painted_9 n F_Heap_box F_box_has F_set_has F_box_index F_Heap_enclosed F_impl_beyond F_Heap_isBare m0 m1 p0 p1 p2 p3 p4 p5 p6 p7 p8 p9 p10 p11 p12 (IntKind.wrap .i64 (p13 + 1))
  else
    bif (decide (((List.length p7) + (List.length ([p9] : List Int))) * 8 ≤ 140737488355328) && decide (((List.length p7) + (List.length ([p9] : List Int))) ≤ 140737488355328)) then
      L_Heap_painted_5 n F_Heap_box F_box_has F_set_has F_box_index F_Heap_enclosed F_impl_beyond F_Heap_isBare m0 p0 p1 p2 p3 (p7 ++ ([p9] : List Int)) p8 p10 p11 (IntKind.wrap .i64 (p12 + 1))
    else none := by kernel_rfl
noncomputable def P_Heap_painted : Ft_Heap_painted := hid (runF (X_Heap_painted N P_Heap_box P_box_has P_set_has P_box_index P_Heap_enclosed P_impl_beyond P_Heap_isBare) B_Heap_painted As_Heap_painted R_Heap_painted M_Heap_painted)
theorem h_Heap_painted : P_Heap_painted = runF (X_Heap_painted N P_Heap_box P_box_has P_set_has P_box_index P_Heap_enclosed P_impl_beyond P_Heap_isBare) B_Heap_painted As_Heap_painted R_Heap_painted M_Heap_painted := hid_eq _
noncomputable def C_Heap_painted : Contract := ⟨As_Heap_painted, R_Heap_painted, M_Heap_painted, P_Heap_painted⟩
theorem s_Heap_painted : Sound Try.prog GG 42 C_Heap_painted := by
  unfold C_Heap_painted; rw [h_Heap_painted]
  exact sound_of_run (fn := Try.f42) hmix hstable (tyOK_of ttOK) (hglob (X_Heap_painted N P_Heap_box P_box_has P_set_has P_box_index P_Heap_enclosed P_impl_beyond P_Heap_isBare)) (conOK_of (X := X_Heap_painted N P_Heap_box P_box_has P_set_has P_box_index P_Heap_enclosed P_impl_beyond P_Heap_isBare) ⟨s_Heap_box, s_box_has, s_set_has, s_box_index, s_Heap_enclosed, s_impl_beyond, s_Heap_isBare, trivial⟩) (mconOK_of (X := X_Heap_painted N P_Heap_box P_box_has P_set_has P_box_index P_Heap_enclosed P_impl_beyond P_Heap_isBare) trivial) (by kernel_rfl) (by kernel_rfl) (by kernel_rfl) (by kernel_rfl) (by kernel_rfl) (of_decide_eq_true (by kernel_rfl))
noncomputable def l_Heap_painted_5 : Nat → Int → Int → Int → (List D_A3) → (List Int) → Int → (List D_A3) → Int → Int → Option (denL R_Heap_painted) := hid (fun m0 p0 p1 p2 p3 p4 p5 p6 p7 p8 => L_Heap_painted_5 N P_Heap_box P_box_has P_set_has P_box_index P_Heap_enclosed P_impl_beyond P_Heap_isBare m0 p0 p1 p2 p3 p4 p5 p6 p7 p8)
theorem h_Heap_painted_5 : l_Heap_painted_5 = fun m0 p0 p1 p2 p3 p4 p5 p6 p7 p8 => L_Heap_painted_5 N P_Heap_box P_box_has P_set_has P_box_index P_Heap_enclosed P_impl_beyond P_Heap_isBare m0 p0 p1 p2 p3 p4 p5 p6 p7 p8 := hid_eq _
noncomputable def l_Heap_painted_9 : Nat → Nat → Int → Int → Int → (List D_A3) → Int → Int → Int → (List Int) → Int → Int → (List D_A3) → Int → Int → Int → Option (denL R_Heap_painted) := hid (fun m0 m1 p0 p1 p2 p3 p4 p5 p6 p7 p8 p9 p10 p11 p12 p13 => L_Heap_painted_9 N P_Heap_box P_box_has P_set_has P_box_index P_Heap_enclosed P_impl_beyond P_Heap_isBare m0 m1 p0 p1 p2 p3 p4 p5 p6 p7 p8 p9 p10 p11 p12 p13)
theorem h_Heap_painted_9 : l_Heap_painted_9 = fun m0 m1 p0 p1 p2 p3 p4 p5 p6 p7 p8 p9 p10 p11 p12 p13 => L_Heap_painted_9 N P_Heap_box P_box_has P_set_has P_box_index P_Heap_enclosed P_impl_beyond P_Heap_isBare m0 m1 p0 p1 p2 p3 p4 p5 p6 p7 p8 p9 p10 p11 p12 p13 := hid_eq _
theorem p_Heap_painted (a0 : D_Heap) (a1 : Bool) : P_Heap_painted (a0, a1, ()) = 
  bif a1 then
    Option.bind (P_Heap_enclosed (a0, ())) fun r1 =>
    l_Heap_painted_5 N a0.1 a0.2.1 a0.2.2.1 a0.2.2.2.1 ([] : List Int) r1.1 a0.2.2.2.1 (List.length a0.2.2.2.1 : Int) 0
  else
    l_Heap_painted_5 N a0.1 a0.2.1 a0.2.2.1 a0.2.2.2.1 ([] : List Int) 0 a0.2.2.2.1 (List.length a0.2.2.2.1 : Int) 0 := by
  rewrite [h_Heap_painted, h_Heap_painted_5]
  exact e_Heap_painted N P_Heap_box P_box_has P_set_has P_box_index P_Heap_enclosed P_impl_beyond P_Heap_isBare a0 a1
theorem q_Heap_painted_5 (m0 : Nat) (p0 : Int) (p1 : Int) (p2 : Int) (p3 : List D_A3) (p4 : List Int) (p5 : Int) (p6 : List D_A3) (p7 : Int) (p8 : Int) : l_Heap_painted_5 (m0 + 1) p0 p1 p2 p3 p4 p5 p6 p7 p8 = 
  bif decide (p8 < p7) then
    bif inB p8 (List.length p6) then
      l_Heap_painted_9 m0 N p0 p1 p2 p3 (((nth T_A3 p6 p8)).1) ((((nth T_A3 p6 p8)).2).1) (((((nth T_A3 p6 p8)).2).2).1) p4 p5 0 p6 p7 p8 0
    else none
  else
    some (p4, ()) := by
  rewrite [h_Heap_painted_5, h_Heap_painted_9]
  exact e_Heap_painted_5 N P_Heap_box P_box_has P_set_has P_box_index P_Heap_enclosed P_impl_beyond P_Heap_isBare m0 p0 p1 p2 p3 p4 p5 p6 p7 p8
theorem q_Heap_painted_9 (m0 m1 : Nat) (p0 : Int) (p1 : Int) (p2 : Int) (p3 : List D_A3) (p4 : Int) (p5 : Int) (p6 : Int) (p7 : List Int) (p8 : Int) (p9 : Int) (p10 : List D_A3) (p11 : Int) (p12 : Int) (p13 : Int) : l_Heap_painted_9 m0 (m1 + 1) p0 p1 p2 p3 p4 p5 p6 p7 p8 p9 p10 p11 p12 p13 = 
  bif decide (p13 < 6) then
    Option.bind (P_impl_beyond ((p4, (p5, (p6, ()))), p13, ())) fun r1 =>
    Option.bind (P_Heap_isBare ((p0, (p1, (p2, (p3, ())))), r1.1, ())) fun r2 =>
    bif r2.1 then
      Option.bind (P_Heap_box ((p0, (p1, (p2, (p3, ())))), ())) fun r4 =>
      Option.bind (P_box_has (r4.1, r1.1, ())) fun r5 =>
      bif !r5.1 then
        l_Heap_painted_9 m0 m1 p0 p1 p2 p3 p4 p5 p6 p7 p8 (IntKind.wrap .i64 (p9 + 1)) p10 p11 p12 (IntKind.wrap .i64 (p13 + 1))
      else
        Option.bind (P_Heap_box ((p0, (p1, (p2, (p3, ())))), ())) fun r7 =>
        Option.bind (P_box_index (r7.1, r1.1, ())) fun r8 =>
        Option.bind (P_set_has (p8, r8.1, ())) fun r9 =>
        bif !r9.1 then
          l_Heap_painted_9 m0 m1 p0 p1 p2 p3 p4 p5 p6 p7 p8 (IntKind.wrap .i64 (p9 + 1)) p10 p11 p12 (IntKind.wrap .i64 (p13 + 1))
        else
          l_Heap_painted_9 m0 m1 p0 p1 p2 p3 p4 p5 p6 p7 p8 p9 p10 p11 p12 (IntKind.wrap .i64 (p13 + 1))
    else
      l_Heap_painted_9 m0 m1 p0 p1 p2 p3 p4 p5 p6 p7 p8 p9 p10 p11 p12 (IntKind.wrap .i64 (p13 + 1))
  else
    bif (decide (((List.length p7) + (List.length ([p9] : List Int))) * 8 ≤ 140737488355328) && decide (((List.length p7) + (List.length ([p9] : List Int))) ≤ 140737488355328)) then
      l_Heap_painted_5 m0 p0 p1 p2 p3 (p7 ++ ([p9] : List Int)) p8 p10 p11 (IntKind.wrap .i64 (p12 + 1))
    else none := by
  rewrite [h_Heap_painted_5, h_Heap_painted_9]
  exact e_Heap_painted_9 N P_Heap_box P_box_has P_set_has P_box_index P_Heap_enclosed P_impl_beyond P_Heap_isBare m0 m1 p0 p1 p2 p3 p4 p5 p6 p7 p8 p9 p10 p11 p12 p13

/- 43: slices.Index[[][3]int,[3]int] -/
abbrev As_slices_Index_3_int_3_int : List ATy := [.data false (.sl T_A3), .data true T_A3]
abbrev R_slices_Index_3_int_3_int : List (Bool × Ty) := [(false, (.int .i64))]
abbrev M_slices_Index_3_int_3_int : List RMode := []
abbrev Ft_slices_Index_3_int_3_int : Type := (List D_A3) × D_A3 × Unit → Option (Int × Unit)
noncomputable def X_slices_Index_3_int_3_int (n : Nat) : Ctx := { types := TT, globals := [], con := [], keep := [(2, ⟨[.box 3, .tmp 0, .tmp 3, .tmp 7, .tmp 8], []⟩)], results := [.tmp 4], ntmps := 19, n := n }
noncomputable def B_slices_Index_3_int_3_int : Code := (Try.f43.body).getD .skip
noncomputable def L_slices_Index_3_int_3_int_2 (n : Nat) (m0 : Nat) (p0 : Int) (p1 : Int) (p2 : Int) (p3 : List D_A3) (p4 : Int) (p5 : Int) : Option (denL R_slices_Index_3_int_3_int) := loopF (X_slices_Index_3_int_3_int n) B_slices_Index_3_int_3_int R_slices_Index_3_int_3_int M_slices_Index_3_int_3_int 2 [m0] [(.ver, .num 1), (.box 3, .box 0 false [.int .i64 p0, .int .i64 p1, .int .i64 p2]), (.tmp 0, .val false [.imm T_A3 p3 (some 0)]), (.tmp 3, .val false [.addr 3 0 0]), (.tmp 7, .val false [.int .i64 p4]), (.tmp 8, .val false [.int .i64 p5])]
theorem e_slices_Index_3_int_3_int (n : Nat) (a0 : List D_A3) (a1 : D_A3) : runF (X_slices_Index_3_int_3_int n) B_slices_Index_3_int_3_int As_slices_Index_3_int_3_int R_slices_Index_3_int_3_int M_slices_Index_3_int_3_int (a0, a1, ()) = 
  L_slices_Index_3_int_3_int_2 n n a1.1 a1.2.1 a1.2.2.1 a0 (List.length a0 : Int) 0 := by kernel_rfl
theorem e_slices_Index_3_int_3_int_2 (n : Nat) (m0 : Nat) (p0 : Int) (p1 : Int) (p2 : Int) (p3 : List D_A3) (p4 : Int) (p5 : Int) : L_slices_Index_3_int_3_int_2 n (m0 + 1) p0 p1 p2 p3 p4 p5 = 
  bif decide (p5 < p4) then
    bif inB p5 (List.length p3) then
      bif (decide (p0 = ((nth T_A3 p3 p5)).1) && (decide (p1 = (((nth T_A3 p3 p5)).2).1) && (decide (p2 = ((((nth T_A3 p3 p5)).2).2).1) && true))) then
        some (p5, ())
      else
        L_slices_Index_3_int_3_int_2 n m0 p0 p1 p2 p3 p4 (IntKind.wrap .i64 (p5 + 1))
    else none
  else
    some ((-1), ()) := by kernel_rfl
noncomputable def P_slices_Index_3_int_3_int : Ft_slices_Index_3_int_3_int := hid (runF (X_slices_Index_3_int_3_int N) B_slices_Index_3_int_3_int As_slices_Index_3_int_3_int R_slices_Index_3_int_3_int M_slices_Index_3_int_3_int)
theorem h_slices_Index_3_int_3_int : P_slices_Index_3_int_3_int = runF (X_slices_Index_3_int_3_int N) B_slices_Index_3_int_3_int As_slices_Index_3_int_3_int R_slices_Index_3_int_3_int M_slices_Index_3_int_3_int := hid_eq _
noncomputable def C_slices_Index_3_int_3_int : Contract := ⟨As_slices_Index_3_int_3_int, R_slices_Index_3_int_3_int, M_slices_Index_3_int_3_int, P_slices_Index_3_int_3_int⟩
theorem s_slices_Index_3_int_3_int : Sound Try.prog GG 43 C_slices_Index_3_int_3_int := by
  unfold C_slices_Index_3_int_3_int; rw [h_slices_Index_3_int_3_int]
  exact sound_of_run (fn := Try.f43) hmix hstable (tyOK_of ttOK) (hglob (X_slices_Index_3_int_3_int N)) (conOK_of (X := X_slices_Index_3_int_3_int N) trivial) (mconOK_of (X := X_slices_Index_3_int_3_int N) trivial) (by kernel_rfl) (by kernel_rfl) (by kernel_rfl) (by kernel_rfl) (by kernel_rfl) (of_decide_eq_true (by kernel_rfl))
noncomputable def l_slices_Index_3_int_3_int_2 : Nat → Int → Int → Int → (List D_A3) → Int → Int → Option (denL R_slices_Index_3_int_3_int) := hid (fun m0 p0 p1 p2 p3 p4 p5 => L_slices_Index_3_int_3_int_2 N m0 p0 p1 p2 p3 p4 p5)
theorem h_slices_Index_3_int_3_int_2 : l_slices_Index_3_int_3_int_2 = fun m0 p0 p1 p2 p3 p4 p5 => L_slices_Index_3_int_3_int_2 N m0 p0 p1 p2 p3 p4 p5 := hid_eq _
theorem p_slices_Index_3_int_3_int (a0 : List D_A3) (a1 : D_A3) : P_slices_Index_3_int_3_int (a0, a1, ()) = 
  l_slices_Index_3_int_3_int_2 N a1.1 a1.2.1 a1.2.2.1 a0 (List.length a0 : Int) 0 := by
  rewrite [h_slices_Index_3_int_3_int, h_slices_Index_3_int_3_int_2]
  exact e_slices_Index_3_int_3_int N a0 a1
theorem q_slices_Index_3_int_3_int_2 (m0 : Nat) (p0 : Int) (p1 : Int) (p2 : Int) (p3 : List D_A3) (p4 : Int) (p5 : Int) : l_slices_Index_3_int_3_int_2 (m0 + 1) p0 p1 p2 p3 p4 p5 = 
  bif decide (p5 < p4) then
    bif inB p5 (List.length p3) then
      bif (decide (p0 = ((nth T_A3 p3 p5)).1) && (decide (p1 = (((nth T_A3 p3 p5)).2).1) && (decide (p2 = ((((nth T_A3 p3 p5)).2).2).1) && true))) then
        some (p5, ())
      else
        l_slices_Index_3_int_3_int_2 m0 p0 p1 p2 p3 p4 (IntKind.wrap .i64 (p5 + 1))
    else none
  else
    some ((-1), ()) := by
  rewrite [h_slices_Index_3_int_3_int_2]
  exact e_slices_Index_3_int_3_int_2 N m0 p0 p1 p2 p3 p4 p5

/- 12: loop.example/g01166/impl.PaintedFaces -/
abbrev As_impl_PaintedFaces : List ATy := [.data true T_Heap, .data true T_A3, .data false .bool]
abbrev R_impl_PaintedFaces : List (Bool × Ty) := [(false, (.int .i64)), (false, .bool)]
abbrev M_impl_PaintedFaces : List RMode := []
abbrev Ft_impl_PaintedFaces : Type := D_Heap × D_A3 × Bool × Unit → Option (Int × Bool × Unit)
noncomputable def X_impl_PaintedFaces (n : Nat) (F_impl_isCell : Ft_impl_isCell) (F_Heap_hasCube : Ft_Heap_hasCube) (F_Heap_painted : Ft_Heap_painted) (F_slices_Index_3_int_3_int : Ft_slices_Index_3_int_3_int) : Ctx := { types := TT, globals := [], con := [(40, ⟨As_impl_isCell, R_impl_isCell, M_impl_isCell, F_impl_isCell⟩), (41, ⟨As_Heap_hasCube, R_Heap_hasCube, M_Heap_hasCube, F_Heap_hasCube⟩), (42, ⟨As_Heap_painted, R_Heap_painted, M_Heap_painted, F_Heap_painted⟩), (43, ⟨As_slices_Index_3_int_3_int, R_slices_Index_3_int_3_int, M_slices_Index_3_int_3_int, F_slices_Index_3_int_3_int⟩)], keep := [], results := [.tmp 6, .tmp 7], ntmps := 27, n := n }
noncomputable def B_impl_PaintedFaces : Code := (Try.f12.body).getD .skip
theorem e_impl_PaintedFaces (n : Nat) (F_impl_isCell : Ft_impl_isCell) (F_Heap_hasCube : Ft_Heap_hasCube) (F_Heap_painted : Ft_Heap_painted) (F_slices_Index_3_int_3_int : Ft_slices_Index_3_int_3_int) (a0 : D_Heap) (a1 : D_A3) (a2 : Bool) : runF (X_impl_PaintedFaces n F_impl_isCell F_Heap_hasCube F_Heap_painted F_slices_Index_3_int_3_int) B_impl_PaintedFaces As_impl_PaintedFaces R_impl_PaintedFaces M_impl_PaintedFaces (a0, a1, a2, ()) = 
  Option.bind (F_impl_isCell (a0, a1, ())) fun r0 =>
  bif !r0.1 then
    some (0, false, ())
  else
    Option.bind (F_Heap_hasCube (a0, a1, ())) fun r2 =>
    bif !r2.1 then
      some (0, false, ())
    else
      Option.bind (F_Heap_painted (a0, a2, ())) fun r4 =>
      Option.bind (F_slices_Index_3_int_3_int (a0.2.2.2.1, a1, ())) fun r5 =>
      bif inB r5.1 (List.length r4.1) then
        some ((nth ((.int .i64) : Ty) r4.1 r5.1), true, ())
      else none := by kernel_rfl
noncomputable def P_impl_PaintedFaces : Ft_impl_PaintedFaces := hid (runF (X_impl_PaintedFaces N P_impl_isCell P_Heap_hasCube P_Heap_painted P_slices_Index_3_int_3_int) B_impl_PaintedFaces As_impl_PaintedFaces R_impl_PaintedFaces M_impl_PaintedFaces)
theorem h_impl_PaintedFaces : P_impl_PaintedFaces = runF (X_impl_PaintedFaces N P_impl_isCell P_Heap_hasCube P_Heap_painted P_slices_Index_3_int_3_int) B_impl_PaintedFaces As_impl_PaintedFaces R_impl_PaintedFaces M_impl_PaintedFaces := hid_eq _
noncomputable def C_impl_PaintedFaces : Contract := ⟨As_impl_PaintedFaces, R_impl_PaintedFaces, M_impl_PaintedFaces, P_impl_PaintedFaces⟩
theorem s_impl_PaintedFaces : Sound Try.prog GG 12 C_impl_PaintedFaces := by
  unfold C_impl_PaintedFaces; rw [h_impl_PaintedFaces]
  exact sound_of_run (fn := Try.f12) hmix hstable (tyOK_of ttOK) (hglob (X_impl_PaintedFaces N P_impl_isCell P_Heap_hasCube P_Heap_painted P_slices_Index_3_int_3_int)) (conOK_of (X := X_impl_PaintedFaces N P_impl_isCell P_Heap_hasCube P_Heap_painted P_slices_Index_3_int_3_int) ⟨s_impl_isCell, s_Heap_hasCube, s_Heap_painted, s_slices_Index_3_int_3_int, trivial⟩) (mconOK_of (X := X_impl_PaintedFaces N P_impl_isCell P_Heap_hasCube P_Heap_painted P_slices_Index_3_int_3_int) trivial) (by kernel_rfl) (by kernel_rfl) (by kernel_rfl) (by kernel_rfl) (by kernel_rfl) (of_decide_eq_true (by kernel_rfl))
theorem p_impl_PaintedFaces (a0 : D_Heap) (a1 : D_A3) (a2 : Bool) : P_impl_PaintedFaces (a0, a1, a2, ()) = 
  Option.bind (P_impl_isCell (a0, a1, ())) fun r0 =>
  bif !r0.1 then
    some (0, false, ())
  else
    Option.bind (P_Heap_hasCube (a0, a1, ())) fun r2 =>
    bif !r2.1 then
      some (0, false, ())
    else
      Option.bind (P_Heap_painted (a0, a2, ())) fun r4 =>
      Option.bind (P_slices_Index_3_int_3_int (a0.2.2.2.1, a1, ())) fun r5 =>
      bif inB r5.1 (List.length r4.1) then
        some ((nth ((.int .i64) : Ty) r4.1 r5.1), true, ())
      else none := by
  rewrite [h_impl_PaintedFaces]
  exact e_impl_PaintedFaces N P_impl_isCell P_Heap_hasCube P_Heap_painted P_slices_Index_3_int_3_int a0 a1 a2

/- 78: loop.example/g01166/laws.eqIntA3 -/
abbrev As_laws_eqIntA3 : List ATy := [.data true T_A3, .data true T_A3]
abbrev R_laws_eqIntA3 : List (Bool × Ty) := [(false, .bool)]
abbrev M_laws_eqIntA3 : List RMode := []
abbrev Ft_laws_eqIntA3 : Type := D_A3 × D_A3 × Unit → Option (Bool × Unit)
noncomputable def X_laws_eqIntA3 (n : Nat) : Ctx := { types := TT, globals := [], con := [], keep := [(2, ⟨[.box 2, .box 3, .tmp 2, .tmp 3, .tmp 5], []⟩)], results := [.tmp 4], ntmps := 17, n := n }
noncomputable def B_laws_eqIntA3 : Code := (Try.f78.body).getD .skip
noncomputable def L_laws_eqIntA3_2 (n : Nat) (m0 : Nat) (p0 : Int) (p1 : Int) (p2 : Int) (p3 : Int) (p4 : Int) (p5 : Int) (p6 : Int) : Option (denL R_laws_eqIntA3) := loopF (X_laws_eqIntA3 n) B_laws_eqIntA3 R_laws_eqIntA3 M_laws_eqIntA3 2 [m0] [(.ver, .num 1), (.box 2, .box 0 false [.int .i64 p0, .int .i64 p1, .int .i64 p2]), (.box 3, .box 0 false [.int .i64 p3, .int .i64 p4, .int .i64 p5]), (.tmp 2, .val false [.addr 2 0 0]), (.tmp 3, .val false [.addr 3 0 0]), (.tmp 5, .val false [.int .i64 p6])]
theorem e_laws_eqIntA3 (n : Nat) (a0 : D_A3) (a1 : D_A3) : runF (X_laws_eqIntA3 n) B_laws_eqIntA3 As_laws_eqIntA3 R_laws_eqIntA3 M_laws_eqIntA3 (a0, a1, ()) = 
  L_laws_eqIntA3_2 n n a0.1 a0.2.1 a0.2.2.1 a1.1 a1.2.1 a1.2.2.1 0 := by kernel_rfl
theorem e_laws_eqIntA3_2 (n : Nat) (m0 : Nat) (p0 : Int) (p1 : Int) (p2 : Int) (p3 : Int) (p4 : Int) (p5 : Int) (p6 : Int) : L_laws_eqIntA3_2 n (m0 + 1) p0 p1 p2 p3 p4 p5 p6 = 
  bif decide (p6 < 3) then
    bif inB p6 3 then
      bif inB p6 3 then
        bif !decide ((bif decide (p6 = (0 : Int)) then p0 else (bif decide (p6 = (1 : Int)) then p1 else p2)) = (bif decide (p6 = (0 : Int)) then p3 else (bif decide (p6 = (1 : Int)) then p4 else p5))) then
          some (false, ())
        else
          L_laws_eqIntA3_2 n m0 p0 p1 p2 p3 p4 p5 (IntKind.wrap .i64 (p6 + 1))
      else none
    else none
  else
    some (true, ()) := by kernel_rfl
noncomputable def P_laws_eqIntA3 : Ft_laws_eqIntA3 := hid (runF (X_laws_eqIntA3 N) B_laws_eqIntA3 As_laws_eqIntA3 R_laws_eqIntA3 M_laws_eqIntA3)
theorem h_laws_eqIntA3 : P_laws_eqIntA3 = runF (X_laws_eqIntA3 N) B_laws_eqIntA3 As_laws_eqIntA3 R_laws_eqIntA3 M_laws_eqIntA3 := hid_eq _
noncomputable def C_laws_eqIntA3 : Contract := ⟨As_laws_eqIntA3, R_laws_eqIntA3, M_laws_eqIntA3, P_laws_eqIntA3⟩
theorem s_laws_eqIntA3 : Sound Try.prog GG 78 C_laws_eqIntA3 := by
  unfold C_laws_eqIntA3; rw [h_laws_eqIntA3]
  exact sound_of_run (fn := Try.f78) hmix hstable (tyOK_of ttOK) (hglob (X_laws_eqIntA3 N)) (conOK_of (X := X_laws_eqIntA3 N) trivial) (mconOK_of (X := X_laws_eqIntA3 N) trivial) (by kernel_rfl) (by kernel_rfl) (by kernel_rfl) (by kernel_rfl) (by kernel_rfl) (of_decide_eq_true (by kernel_rfl))
noncomputable def l_laws_eqIntA3_2 : Nat → Int → Int → Int → Int → Int → Int → Int → Option (denL R_laws_eqIntA3) := hid (fun m0 p0 p1 p2 p3 p4 p5 p6 => L_laws_eqIntA3_2 N m0 p0 p1 p2 p3 p4 p5 p6)
theorem h_laws_eqIntA3_2 : l_laws_eqIntA3_2 = fun m0 p0 p1 p2 p3 p4 p5 p6 => L_laws_eqIntA3_2 N m0 p0 p1 p2 p3 p4 p5 p6 := hid_eq _
theorem p_laws_eqIntA3 (a0 : D_A3) (a1 : D_A3) : P_laws_eqIntA3 (a0, a1, ()) = 
  l_laws_eqIntA3_2 N a0.1 a0.2.1 a0.2.2.1 a1.1 a1.2.1 a1.2.2.1 0 := by
  rewrite [h_laws_eqIntA3, h_laws_eqIntA3_2]
  exact e_laws_eqIntA3 N a0 a1
theorem q_laws_eqIntA3_2 (m0 : Nat) (p0 : Int) (p1 : Int) (p2 : Int) (p3 : Int) (p4 : Int) (p5 : Int) (p6 : Int) : l_laws_eqIntA3_2 (m0 + 1) p0 p1 p2 p3 p4 p5 p6 = 
  bif decide (p6 < 3) then
    bif inB p6 3 then
      bif inB p6 3 then
        bif !decide ((bif decide (p6 = (0 : Int)) then p0 else (bif decide (p6 = (1 : Int)) then p1 else p2)) = (bif decide (p6 = (0 : Int)) then p3 else (bif decide (p6 = (1 : Int)) then p4 else p5))) then
          some (false, ())
        else
          l_laws_eqIntA3_2 m0 p0 p1 p2 p3 p4 p5 (IntKind.wrap .i64 (p6 + 1))
      else none
    else none
  else
    some (true, ()) := by
  rewrite [h_laws_eqIntA3_2]
  exact e_laws_eqIntA3_2 N m0 p0 p1 p2 p3 p4 p5 p6
end Go.VI
