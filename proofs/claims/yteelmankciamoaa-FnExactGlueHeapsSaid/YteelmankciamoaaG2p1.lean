/- What the functions of the seat compute, as printed by wip/tools. -/
import Derived.Test.YteelmankciamoaaViGen
import Derived.Test.YteelmankciamoaaProg
namespace Go.VI
open Go.Proofs
set_option maxRecDepth 100000
def n0 : Nat := 0
def GG : World → Prop := fun _ => True
theorem hstable : Stable n0 GG := stable_true
theorem hmix : Try.prog.follows .mixedOrders = true := by kernel_rfl
theorem hglob (X : Ctx) (h : X.globals = [] := by rfl) (A : Fix) (_ : A.P = Try.prog) (_ : A.G = GG) : GlobOK A X := globOK_none h A
abbrev T_A2 : Ty := (.pair (.int .i64) (.pair (.int .i64) .unit))
abbrev D_A2 : Type := Int × Int × Unit
abbrev T_A3 : Ty := (.pair (.int .i64) (.pair (.int .i64) (.pair (.int .i64) .unit)))
abbrev D_A3 : Type := Int × Int × Int × Unit
abbrev T_Heap : Ty := (.pair (.int .i64) (.pair (.int .i64) (.pair (.int .i64) (.pair (.sl T_A3) .unit))))
abbrev D_Heap : Type := Int × Int × Int × (List D_A3) × Unit
abbrev T_Bench : Ty := (.pair T_Heap (.pair (.int .i64) (.pair (.int .i64) .unit)))
abbrev D_Bench : Type := D_Heap × Int × Int × Unit
abbrev T_Log : Ty := (.pair .str (.pair .str (.pair (.int .i64) .unit)))
abbrev D_Log : Type := (List UInt8) × (List UInt8) × Int × Unit
abbrev T_Console : Ty := (.pair T_Bench (.pair T_Log .unit))
abbrev D_Console : Type := D_Bench × D_Log × Unit
abbrev T_A4 : Ty := (.pair (.int .i64) (.pair (.int .i64) (.pair (.int .i64) (.pair (.int .i64) .unit))))
abbrev D_A4 : Type := Int × Int × Int × Int × Unit
abbrev T_A5 : Ty := (.pair (.int .i64) (.pair (.int .i64) (.pair (.int .i64) (.pair (.int .i64) (.pair (.int .i64) .unit)))))
abbrev D_A5 : Type := Int × Int × Int × Int × Int × Unit
abbrev T_A6 : Ty := (.pair (.int .i64) (.pair (.int .i64) (.pair (.int .i64) (.pair (.int .i64) (.pair (.int .i64) (.pair (.int .i64) .unit))))))
abbrev D_A6 : Type := Int × Int × Int × Int × Int × Int × Unit
abbrev T_A7 : Ty := (.pair (.int .i64) (.pair (.int .i64) (.pair (.int .i64) (.pair (.int .i64) (.pair (.int .i64) (.pair (.int .i64) (.pair (.int .i64) .unit)))))))
abbrev D_A7 : Type := Int × Int × Int × Int × Int × Int × Int × Unit
noncomputable def TT : List (TypeId × TI) := [(3, ⟨Try.t3.desc, (.int .i64), false, 8, [.int .i64 0]⟩),
  (4, ⟨Try.t4.desc, .bool, false, 1, [.bool false]⟩),
  (9, ⟨Try.t9.desc, .str, false, 16, [.str ([] : List UInt8)]⟩),
  (22, ⟨Try.t22.desc, (.sl T_A3), false, 24, [.nil 66 T_A3]⟩),
  (24, ⟨Try.t23.desc, T_Heap, true, 48, [.int .i64 0, .int .i64 0, .int .i64 0, .nil 66 T_A3]⟩),
  (26, ⟨Try.t25.desc, T_Bench, true, 64, [.int .i64 0, .int .i64 0, .int .i64 0, .nil 66 T_A3, .int .i64 0, .int .i64 0]⟩),
  (29, ⟨Try.t23.desc, T_Heap, true, 48, [.int .i64 0, .int .i64 0, .int .i64 0, .nil 66 T_A3]⟩),
  (31, ⟨Try.t30.desc, T_Bench, true, 64, [.int .i64 0, .int .i64 0, .int .i64 0, .nil 66 T_A3, .int .i64 0, .int .i64 0]⟩),
  (55, ⟨Try.t54.desc, T_Log, true, 40, [.str ([] : List UInt8), .str ([] : List UInt8), .int .i64 0]⟩),
  (57, ⟨Try.t56.desc, T_Console, true, 104, [.int .i64 0, .int .i64 0, .int .i64 0, .nil 66 T_A3, .int .i64 0, .int .i64 0, .str ([] : List UInt8), .str ([] : List UInt8), .int .i64 0]⟩),
  (62, ⟨Try.t62.desc, T_A7, true, 56, [.int .i64 0, .int .i64 0, .int .i64 0, .int .i64 0, .int .i64 0, .int .i64 0, .int .i64 0]⟩),
  (66, ⟨Try.t66.desc, T_A3, true, 24, [.int .i64 0, .int .i64 0, .int .i64 0]⟩),
  (79, ⟨Try.t66.desc, T_A3, true, 24, [.int .i64 0, .int .i64 0, .int .i64 0]⟩),
  (109, ⟨Try.t109.desc, (.sl (.int .i64)), false, 24, [.nil 3 (.int .i64)]⟩),
  (115, ⟨Try.t115.desc, (.pair T_A3 (.pair T_A3 (.pair T_A3 (.pair T_A3 (.pair T_A3 (.pair T_A3 .unit)))))), true, 144, [.int .i64 0, .int .i64 0, .int .i64 0, .int .i64 0, .int .i64 0, .int .i64 0, .int .i64 0, .int .i64 0, .int .i64 0, .int .i64 0, .int .i64 0, .int .i64 0, .int .i64 0, .int .i64 0, .int .i64 0, .int .i64 0, .int .i64 0, .int .i64 0]⟩)]
theorem ttOK : allP (fun q => tiB Try.prog q.1 q.2) TT :=
  ⟨⟨by kernel_rfl, by kernel_rfl, by kernel_rfl, by kernel_rfl, by kernel_rfl⟩, ⟨by kernel_rfl, by kernel_rfl, by kernel_rfl, by kernel_rfl, by kernel_rfl⟩, ⟨by kernel_rfl, by kernel_rfl, by kernel_rfl, by kernel_rfl, by kernel_rfl⟩, ⟨by kernel_rfl, by kernel_rfl, by kernel_rfl, by kernel_rfl, by kernel_rfl⟩, ⟨by kernel_rfl, by kernel_rfl, by kernel_rfl, by kernel_rfl, by kernel_rfl⟩, ⟨by kernel_rfl, by kernel_rfl, by kernel_rfl, by kernel_rfl, by kernel_rfl⟩, ⟨by kernel_rfl, by kernel_rfl, by kernel_rfl, by kernel_rfl, by kernel_rfl⟩, ⟨by kernel_rfl, by kernel_rfl, by kernel_rfl, by kernel_rfl, by kernel_rfl⟩, ⟨by kernel_rfl, by kernel_rfl, by kernel_rfl, by kernel_rfl, by kernel_rfl⟩, ⟨by kernel_rfl, by kernel_rfl, by kernel_rfl, by kernel_rfl, by kernel_rfl⟩, ⟨by kernel_rfl, by kernel_rfl, by kernel_rfl, by kernel_rfl, by kernel_rfl⟩, ⟨by kernel_rfl, by kernel_rfl, by kernel_rfl, by kernel_rfl, by kernel_rfl⟩, ⟨by kernel_rfl, by kernel_rfl, by kernel_rfl, by kernel_rfl, by kernel_rfl⟩, ⟨by kernel_rfl, by kernel_rfl, by kernel_rfl, by kernel_rfl, by kernel_rfl⟩, ⟨by kernel_rfl, by kernel_rfl, by kernel_rfl, by kernel_rfl, by kernel_rfl⟩, trivial⟩

/- 57: loop.example/g01166/laws.szIntA3S -/
abbrev As_laws_szIntA3S : List ATy := [.data false (.sl T_A3), .data false (.int .i64)]
abbrev R_laws_szIntA3S : List (Bool × Ty) := [(false, (.int .i64))]
abbrev M_laws_szIntA3S : List RMode := []
abbrev Ft_laws_szIntA3S : Type := (List D_A3) × Int × Unit → Option (Int × Unit)
noncomputable def X_laws_szIntA3S (n : Nat) : Ctx := { types := TT, globals := [], con := [], keep := [], results := [.tmp 4], ntmps := 12, n := n }
noncomputable def B_laws_szIntA3S : Code := (Try.f57.body).getD .skip
theorem e_laws_szIntA3S (n : Nat) (a0 : List D_A3) (a1 : Int) : runF (X_laws_szIntA3S n) B_laws_szIntA3S As_laws_szIntA3S R_laws_szIntA3S M_laws_szIntA3S (a0, a1, ()) = 
  bif decide ((IntKind.wrap .i64 (a1 - (List.length a0 : Int))) < 0) then
    some ((-1), ())
  else
    some ((IntKind.wrap .i64 (a1 - (List.length a0 : Int))), ()) := by kernel_rfl
noncomputable def P_laws_szIntA3S : Ft_laws_szIntA3S := hid (runF (X_laws_szIntA3S N) B_laws_szIntA3S As_laws_szIntA3S R_laws_szIntA3S M_laws_szIntA3S)
theorem h_laws_szIntA3S : P_laws_szIntA3S = runF (X_laws_szIntA3S N) B_laws_szIntA3S As_laws_szIntA3S R_laws_szIntA3S M_laws_szIntA3S := hid_eq _
noncomputable def C_laws_szIntA3S : Contract := ⟨As_laws_szIntA3S, R_laws_szIntA3S, M_laws_szIntA3S, P_laws_szIntA3S⟩
theorem s_laws_szIntA3S : Sound Try.prog GG 57 C_laws_szIntA3S := by
  unfold C_laws_szIntA3S; rw [h_laws_szIntA3S]
  exact sound_of_run (fn := Try.f57) hmix hstable (tyOK_of ttOK) (hglob (X_laws_szIntA3S N)) (conOK_of (X := X_laws_szIntA3S N) trivial) (mconOK_of (X := X_laws_szIntA3S N) trivial) (by kernel_rfl) (by kernel_rfl) (by kernel_rfl) (by kernel_rfl) (by kernel_rfl) (by decide)
theorem p_laws_szIntA3S (a0 : List D_A3) (a1 : Int) : P_laws_szIntA3S (a0, a1, ()) = 
  bif decide ((IntKind.wrap .i64 (a1 - (List.length a0 : Int))) < 0) then
    some ((-1), ())
  else
    some ((IntKind.wrap .i64 (a1 - (List.length a0 : Int))), ()) := by
  rewrite [h_laws_szIntA3S]
  exact e_laws_szIntA3S N a0 a1

/- 20: loop.example/g01166/laws.szHeap -/
abbrev As_laws_szHeap : List ATy := [.data true T_Heap, .data false (.int .i64)]
abbrev R_laws_szHeap : List (Bool × Ty) := [(false, (.int .i64))]
abbrev M_laws_szHeap : List RMode := []
abbrev Ft_laws_szHeap : Type := D_Heap × Int × Unit → Option (Int × Unit)
noncomputable def X_laws_szHeap (n : Nat) (F_laws_szIntA3S : Ft_laws_szIntA3S) : Ctx := { types := TT, globals := [], con := [(57, ⟨As_laws_szIntA3S, R_laws_szIntA3S, M_laws_szIntA3S, F_laws_szIntA3S⟩)], keep := [], results := [.tmp 4], ntmps := 12, n := n }
noncomputable def B_laws_szHeap : Code := (Try.f20.body).getD .skip
theorem e_laws_szHeap (n : Nat) (F_laws_szIntA3S : Ft_laws_szIntA3S) (a0 : D_Heap) (a1 : Int) : runF (X_laws_szHeap n F_laws_szIntA3S) B_laws_szHeap As_laws_szHeap R_laws_szHeap M_laws_szHeap (a0, a1, ()) = 
  Option.bind (F_laws_szIntA3S (a0.2.2.2.1, a1, ())) fun r0 =>
  bif decide (r0.1 < 0) then
    some ((-1), ())
  else
    some (r0.1, ()) := by kernel_rfl
noncomputable def P_laws_szHeap : Ft_laws_szHeap := hid (runF (X_laws_szHeap N P_laws_szIntA3S) B_laws_szHeap As_laws_szHeap R_laws_szHeap M_laws_szHeap)
theorem h_laws_szHeap : P_laws_szHeap = runF (X_laws_szHeap N P_laws_szIntA3S) B_laws_szHeap As_laws_szHeap R_laws_szHeap M_laws_szHeap := hid_eq _
noncomputable def C_laws_szHeap : Contract := ⟨As_laws_szHeap, R_laws_szHeap, M_laws_szHeap, P_laws_szHeap⟩
theorem s_laws_szHeap : Sound Try.prog GG 20 C_laws_szHeap := by
  unfold C_laws_szHeap; rw [h_laws_szHeap]
  exact sound_of_run (fn := Try.f20) hmix hstable (tyOK_of ttOK) (hglob (X_laws_szHeap N P_laws_szIntA3S)) (conOK_of (X := X_laws_szHeap N P_laws_szIntA3S) ⟨s_laws_szIntA3S, trivial⟩) (mconOK_of (X := X_laws_szHeap N P_laws_szIntA3S) trivial) (by kernel_rfl) (by kernel_rfl) (by kernel_rfl) (by kernel_rfl) (by kernel_rfl) (by decide)
theorem p_laws_szHeap (a0 : D_Heap) (a1 : Int) : P_laws_szHeap (a0, a1, ()) = 
  Option.bind (P_laws_szIntA3S (a0.2.2.2.1, a1, ())) fun r0 =>
  bif decide (r0.1 < 0) then
    some ((-1), ())
  else
    some (r0.1, ()) := by
  rewrite [h_laws_szHeap]
  exact e_laws_szHeap N P_laws_szIntA3S a0 a1

/- 15: loop.example/g01166/laws.szBench -/
abbrev As_laws_szBench : List ATy := [.data true T_Bench, .data false (.int .i64)]
abbrev R_laws_szBench : List (Bool × Ty) := [(false, (.int .i64))]
abbrev M_laws_szBench : List RMode := []
abbrev Ft_laws_szBench : Type := D_Bench × Int × Unit → Option (Int × Unit)
noncomputable def X_laws_szBench (n : Nat) (F_laws_szHeap : Ft_laws_szHeap) : Ctx := { types := TT, globals := [], con := [(20, ⟨As_laws_szHeap, R_laws_szHeap, M_laws_szHeap, F_laws_szHeap⟩)], keep := [], results := [.tmp 4], ntmps := 12, n := n }
noncomputable def B_laws_szBench : Code := (Try.f15.body).getD .skip
theorem e_laws_szBench (n : Nat) (F_laws_szHeap : Ft_laws_szHeap) (a0 : D_Bench) (a1 : Int) : runF (X_laws_szBench n F_laws_szHeap) B_laws_szBench As_laws_szBench R_laws_szBench M_laws_szBench (a0, a1, ()) = 
  Option.bind (F_laws_szHeap (a0.1, a1, ())) fun r0 =>
  bif decide (r0.1 < 0) then
    some ((-1), ())
  else
    some (r0.1, ()) := by kernel_rfl
noncomputable def P_laws_szBench : Ft_laws_szBench := hid (runF (X_laws_szBench N P_laws_szHeap) B_laws_szBench As_laws_szBench R_laws_szBench M_laws_szBench)
theorem h_laws_szBench : P_laws_szBench = runF (X_laws_szBench N P_laws_szHeap) B_laws_szBench As_laws_szBench R_laws_szBench M_laws_szBench := hid_eq _
noncomputable def C_laws_szBench : Contract := ⟨As_laws_szBench, R_laws_szBench, M_laws_szBench, P_laws_szBench⟩
theorem s_laws_szBench : Sound Try.prog GG 15 C_laws_szBench := by
  unfold C_laws_szBench; rw [h_laws_szBench]
  exact sound_of_run (fn := Try.f15) hmix hstable (tyOK_of ttOK) (hglob (X_laws_szBench N P_laws_szHeap)) (conOK_of (X := X_laws_szBench N P_laws_szHeap) ⟨s_laws_szHeap, trivial⟩) (mconOK_of (X := X_laws_szBench N P_laws_szHeap) trivial) (by kernel_rfl) (by kernel_rfl) (by kernel_rfl) (by kernel_rfl) (by kernel_rfl) (by decide)
theorem p_laws_szBench (a0 : D_Bench) (a1 : Int) : P_laws_szBench (a0, a1, ()) = 
  Option.bind (P_laws_szHeap (a0.1, a1, ())) fun r0 =>
  bif decide (r0.1 < 0) then
    some ((-1), ())
  else
    some (r0.1, ()) := by
  rewrite [h_laws_szBench]
  exact e_laws_szBench N P_laws_szHeap a0 a1

/- 80: loop.example/g01166/spec.l1In -/
abbrev As_spec_l1In : List ATy := [.data false (.int .i64), .data false (.int .i64), .data false (.int .i64)]
abbrev R_spec_l1In : List (Bool × Ty) := [(false, .bool)]
abbrev M_spec_l1In : List RMode := []
abbrev Ft_spec_l1In : Type := Int × Int × Int × Unit → Option (Bool × Unit)
noncomputable def X_spec_l1In (n : Nat) : Ctx := { types := TT, globals := [], con := [], keep := [], results := [.tmp 6], ntmps := 15, n := n }
noncomputable def B_spec_l1In : Code := (Try.f80.body).getD .skip
theorem e_spec_l1In (n : Nat) (a0 : Int) (a1 : Int) (a2 : Int) : runF (X_spec_l1In n) B_spec_l1In As_spec_l1In R_spec_l1In M_spec_l1In (a0, a1, a2, ()) = 
  bif decide (a0 ≥ a1) then
    some (decide (a0 ≤ a2), ())
  else
    some (false, ()) := by kernel_rfl
noncomputable def P_spec_l1In : Ft_spec_l1In := hid (runF (X_spec_l1In N) B_spec_l1In As_spec_l1In R_spec_l1In M_spec_l1In)
theorem h_spec_l1In : P_spec_l1In = runF (X_spec_l1In N) B_spec_l1In As_spec_l1In R_spec_l1In M_spec_l1In := hid_eq _
noncomputable def C_spec_l1In : Contract := ⟨As_spec_l1In, R_spec_l1In, M_spec_l1In, P_spec_l1In⟩
theorem s_spec_l1In : Sound Try.prog GG 80 C_spec_l1In := by
  unfold C_spec_l1In; rw [h_spec_l1In]
  exact sound_of_run (fn := Try.f80) hmix hstable (tyOK_of ttOK) (hglob (X_spec_l1In N)) (conOK_of (X := X_spec_l1In N) trivial) (mconOK_of (X := X_spec_l1In N) trivial) (by kernel_rfl) (by kernel_rfl) (by kernel_rfl) (by kernel_rfl) (by kernel_rfl) (by decide)
theorem p_spec_l1In (a0 : Int) (a1 : Int) (a2 : Int) : P_spec_l1In (a0, a1, a2, ()) = 
  bif decide (a0 ≥ a1) then
    some (decide (a0 ≤ a2), ())
  else
    some (false, ()) := by
  rewrite [h_spec_l1In]
  exact e_spec_l1In N a0 a1 a2

/- 74: loop.example/g01166/spec.l2Sides -/
abbrev As_spec_l2Sides : List ATy := [.data false (.int .i64), .data false (.int .i64), .data false (.int .i64)]
abbrev R_spec_l2Sides : List (Bool × Ty) := [(false, .bool)]
abbrev M_spec_l2Sides : List RMode := []
abbrev Ft_spec_l2Sides : Type := Int × Int × Int × Unit → Option (Bool × Unit)
noncomputable def X_spec_l2Sides (n : Nat) (F_spec_l1In : Ft_spec_l1In) : Ctx := { types := TT, globals := [], con := [(80, ⟨As_spec_l1In, R_spec_l1In, M_spec_l1In, F_spec_l1In⟩)], keep := [], results := [.tmp 6], ntmps := 17, n := n }
noncomputable def B_spec_l2Sides : Code := (Try.f74.body).getD .skip
theorem e_spec_l2Sides (n : Nat) (F_spec_l1In : Ft_spec_l1In) (a0 : Int) (a1 : Int) (a2 : Int) : runF (X_spec_l2Sides n F_spec_l1In) B_spec_l2Sides As_spec_l2Sides R_spec_l2Sides M_spec_l2Sides (a0, a1, a2, ()) = 
  Option.bind (F_spec_l1In (a0, 1, 4, ())) fun r0 =>
  bif r0.1 then
    Option.bind (F_spec_l1In (a1, 1, 4, ())) fun r2 =>
    bif r2.1 then
      Option.bind (F_spec_l1In (a2, 1, 4, ())) fun r4 =>
      some (r4.1, ())
    else
      some (false, ())
  else
    some (false, ()) := by kernel_rfl
noncomputable def P_spec_l2Sides : Ft_spec_l2Sides := hid (runF (X_spec_l2Sides N P_spec_l1In) B_spec_l2Sides As_spec_l2Sides R_spec_l2Sides M_spec_l2Sides)
theorem h_spec_l2Sides : P_spec_l2Sides = runF (X_spec_l2Sides N P_spec_l1In) B_spec_l2Sides As_spec_l2Sides R_spec_l2Sides M_spec_l2Sides := hid_eq _
noncomputable def C_spec_l2Sides : Contract := ⟨As_spec_l2Sides, R_spec_l2Sides, M_spec_l2Sides, P_spec_l2Sides⟩
theorem s_spec_l2Sides : Sound Try.prog GG 74 C_spec_l2Sides := by
  unfold C_spec_l2Sides; rw [h_spec_l2Sides]
  exact sound_of_run (fn := Try.f74) hmix hstable (tyOK_of ttOK) (hglob (X_spec_l2Sides N P_spec_l1In)) (conOK_of (X := X_spec_l2Sides N P_spec_l1In) ⟨s_spec_l1In, trivial⟩) (mconOK_of (X := X_spec_l2Sides N P_spec_l1In) trivial) (by kernel_rfl) (by kernel_rfl) (by kernel_rfl) (by kernel_rfl) (by kernel_rfl) (by decide)
theorem p_spec_l2Sides (a0 : Int) (a1 : Int) (a2 : Int) : P_spec_l2Sides (a0, a1, a2, ()) = 
  Option.bind (P_spec_l1In (a0, 1, 4, ())) fun r0 =>
  bif r0.1 then
    Option.bind (P_spec_l1In (a1, 1, 4, ())) fun r2 =>
    bif r2.1 then
      Option.bind (P_spec_l1In (a2, 1, 4, ())) fun r4 =>
      some (r4.1, ())
    else
      some (false, ())
  else
    some (false, ()) := by
  rewrite [h_spec_l2Sides]
  exact e_spec_l2Sides N P_spec_l1In a0 a1 a2

/- 97: loop.example/g01166/spec.l2In -/
abbrev As_spec_l2In : List ATy := [.data true T_Heap, .data true T_A3]
abbrev R_spec_l2In : List (Bool × Ty) := [(false, .bool)]
abbrev M_spec_l2In : List RMode := []
abbrev Ft_spec_l2In : Type := D_Heap × D_A3 × Unit → Option (Bool × Unit)
noncomputable def X_spec_l2In (n : Nat) (F_spec_l1In : Ft_spec_l1In) : Ctx := { types := TT, globals := [], con := [(80, ⟨As_spec_l1In, R_spec_l1In, M_spec_l1In, F_spec_l1In⟩)], keep := [], results := [.tmp 4], ntmps := 27, n := n }
noncomputable def B_spec_l2In : Code := (Try.f97.body).getD .skip
theorem e_spec_l2In (n : Nat) (F_spec_l1In : Ft_spec_l1In) (a0 : D_Heap) (a1 : D_A3) : runF (X_spec_l2In n F_spec_l1In) B_spec_l2In As_spec_l2In R_spec_l2In M_spec_l2In (a0, a1, ()) = 
  Option.bind (F_spec_l1In (a1.1, 0, (IntKind.wrap .i64 (a0.1 - 1)), ())) fun r0 =>
  bif r0.1 then
    Option.bind (F_spec_l1In (a1.2.1, 0, (IntKind.wrap .i64 (a0.2.1 - 1)), ())) fun r2 =>
    bif r2.1 then
      Option.bind (F_spec_l1In (a1.2.2.1, 0, (IntKind.wrap .i64 (a0.2.2.1 - 1)), ())) fun r4 =>
      some (r4.1, ())
    else
      some (false, ())
  else
    some (false, ()) := by kernel_rfl
noncomputable def P_spec_l2In : Ft_spec_l2In := hid (runF (X_spec_l2In N P_spec_l1In) B_spec_l2In As_spec_l2In R_spec_l2In M_spec_l2In)
theorem h_spec_l2In : P_spec_l2In = runF (X_spec_l2In N P_spec_l1In) B_spec_l2In As_spec_l2In R_spec_l2In M_spec_l2In := hid_eq _
noncomputable def C_spec_l2In : Contract := ⟨As_spec_l2In, R_spec_l2In, M_spec_l2In, P_spec_l2In⟩
theorem s_spec_l2In : Sound Try.prog GG 97 C_spec_l2In := by
  unfold C_spec_l2In; rw [h_spec_l2In]
  exact sound_of_run (fn := Try.f97) hmix hstable (tyOK_of ttOK) (hglob (X_spec_l2In N P_spec_l1In)) (conOK_of (X := X_spec_l2In N P_spec_l1In) ⟨s_spec_l1In, trivial⟩) (mconOK_of (X := X_spec_l2In N P_spec_l1In) trivial) (by kernel_rfl) (by kernel_rfl) (by kernel_rfl) (by kernel_rfl) (by kernel_rfl) (by decide)
theorem p_spec_l2In (a0 : D_Heap) (a1 : D_A3) : P_spec_l2In (a0, a1, ()) = 
  Option.bind (P_spec_l1In (a1.1, 0, (IntKind.wrap .i64 (a0.1 - 1)), ())) fun r0 =>
  bif r0.1 then
    Option.bind (P_spec_l1In (a1.2.1, 0, (IntKind.wrap .i64 (a0.2.1 - 1)), ())) fun r2 =>
    bif r2.1 then
      Option.bind (P_spec_l1In (a1.2.2.1, 0, (IntKind.wrap .i64 (a0.2.2.1 - 1)), ())) fun r4 =>
      some (r4.1, ())
    else
      some (false, ())
  else
    some (false, ()) := by
  rewrite [h_spec_l2In]
  exact e_spec_l2In N P_spec_l1In a0 a1

/- 98: loop.example/g01166/spec.l2Before -/
abbrev As_spec_l2Before : List ATy := [.data true T_A3, .data true T_A3]
abbrev R_spec_l2Before : List (Bool × Ty) := [(false, .bool)]
abbrev M_spec_l2Before : List RMode := []
abbrev Ft_spec_l2Before : Type := D_A3 × D_A3 × Unit → Option (Bool × Unit)
noncomputable def X_spec_l2Before (n : Nat) : Ctx := { types := TT, globals := [], con := [], keep := [(2, ⟨[.box 2, .box 3, .tmp 2, .tmp 3, .tmp 5], []⟩)], results := [.tmp 4], ntmps := 24, n := n }
noncomputable def B_spec_l2Before : Code := (Try.f98.body).getD .skip
noncomputable def L_spec_l2Before_2 (n : Nat) (m0 : Nat) (p0 : Int) (p1 : Int) (p2 : Int) (p3 : Int) (p4 : Int) (p5 : Int) (p6 : Int) : Option (denL R_spec_l2Before) := loopF (X_spec_l2Before n) B_spec_l2Before R_spec_l2Before M_spec_l2Before 2 [m0] [(.ver, .num 1), (.box 2, .box 0 false [.int .i64 p0, .int .i64 p1, .int .i64 p2]), (.box 3, .box 0 false [.int .i64 p3, .int .i64 p4, .int .i64 p5]), (.tmp 2, .val false [.addr 2 0 0]), (.tmp 3, .val false [.addr 3 0 0]), (.tmp 5, .val false [.int .i64 p6])]
theorem e_spec_l2Before (n : Nat) (a0 : D_A3) (a1 : D_A3) : runF (X_spec_l2Before n) B_spec_l2Before As_spec_l2Before R_spec_l2Before M_spec_l2Before (a0, a1, ()) = 
  L_spec_l2Before_2 n n a0.1 a0.2.1 a0.2.2.1 a1.1 a1.2.1 a1.2.2.1 0 := by kernel_rfl
theorem e_spec_l2Before_2 (n : Nat) (m0 : Nat) (p0 : Int) (p1 : Int) (p2 : Int) (p3 : Int) (p4 : Int) (p5 : Int) (p6 : Int) : L_spec_l2Before_2 n (m0 + 1) p0 p1 p2 p3 p4 p5 p6 = 
  bif decide (p6 < 3) then
    bif inB p6 3 then
      bif inB p6 3 then
        bif !decide ((bif decide (p6 = (0 : Int)) then p0 else (bif decide (p6 = (1 : Int)) then p1 else p2)) = (bif decide (p6 = (0 : Int)) then p3 else (bif decide (p6 = (1 : Int)) then p4 else p5))) then
          bif inB p6 3 then
            bif inB p6 3 then
              some (decide ((bif decide (p6 = (0 : Int)) then p0 else (bif decide (p6 = (1 : Int)) then p1 else p2)) < (bif decide (p6 = (0 : Int)) then p3 else (bif decide (p6 = (1 : Int)) then p4 else p5))), ())
            else none
          else none
        else
          L_spec_l2Before_2 n m0 p0 p1 p2 p3 p4 p5 (IntKind.wrap .i64 (p6 + 1))
      else none
    else none
  else
    some (false, ()) := by kernel_rfl
noncomputable def P_spec_l2Before : Ft_spec_l2Before := hid (runF (X_spec_l2Before N) B_spec_l2Before As_spec_l2Before R_spec_l2Before M_spec_l2Before)
theorem h_spec_l2Before : P_spec_l2Before = runF (X_spec_l2Before N) B_spec_l2Before As_spec_l2Before R_spec_l2Before M_spec_l2Before := hid_eq _
noncomputable def C_spec_l2Before : Contract := ⟨As_spec_l2Before, R_spec_l2Before, M_spec_l2Before, P_spec_l2Before⟩
theorem s_spec_l2Before : Sound Try.prog GG 98 C_spec_l2Before := by
  unfold C_spec_l2Before; rw [h_spec_l2Before]
  exact sound_of_run (fn := Try.f98) hmix hstable (tyOK_of ttOK) (hglob (X_spec_l2Before N)) (conOK_of (X := X_spec_l2Before N) trivial) (mconOK_of (X := X_spec_l2Before N) trivial) (by kernel_rfl) (by kernel_rfl) (by kernel_rfl) (by kernel_rfl) (by kernel_rfl) (by decide)
noncomputable def l_spec_l2Before_2 : Nat → Int → Int → Int → Int → Int → Int → Int → Option (denL R_spec_l2Before) := hid (fun m0 p0 p1 p2 p3 p4 p5 p6 => L_spec_l2Before_2 N m0 p0 p1 p2 p3 p4 p5 p6)
theorem h_spec_l2Before_2 : l_spec_l2Before_2 = fun m0 p0 p1 p2 p3 p4 p5 p6 => L_spec_l2Before_2 N m0 p0 p1 p2 p3 p4 p5 p6 := hid_eq _
theorem p_spec_l2Before (a0 : D_A3) (a1 : D_A3) : P_spec_l2Before (a0, a1, ()) = 
  l_spec_l2Before_2 N a0.1 a0.2.1 a0.2.2.1 a1.1 a1.2.1 a1.2.2.1 0 := by
  rewrite [h_spec_l2Before, h_spec_l2Before_2]
  exact e_spec_l2Before N a0 a1
theorem q_spec_l2Before_2 (m0 : Nat) (p0 : Int) (p1 : Int) (p2 : Int) (p3 : Int) (p4 : Int) (p5 : Int) (p6 : Int) : l_spec_l2Before_2 (m0 + 1) p0 p1 p2 p3 p4 p5 p6 = 
  bif decide (p6 < 3) then
    bif inB p6 3 then
      bif inB p6 3 then
        bif !decide ((bif decide (p6 = (0 : Int)) then p0 else (bif decide (p6 = (1 : Int)) then p1 else p2)) = (bif decide (p6 = (0 : Int)) then p3 else (bif decide (p6 = (1 : Int)) then p4 else p5))) then
          bif inB p6 3 then
            bif inB p6 3 then
              some (decide ((bif decide (p6 = (0 : Int)) then p0 else (bif decide (p6 = (1 : Int)) then p1 else p2)) < (bif decide (p6 = (0 : Int)) then p3 else (bif decide (p6 = (1 : Int)) then p4 else p5))), ())
            else none
          else none
        else
          l_spec_l2Before_2 m0 p0 p1 p2 p3 p4 p5 (IntKind.wrap .i64 (p6 + 1))
      else none
    else none
  else
    some (false, ()) := by
  rewrite [h_spec_l2Before_2]
  exact e_spec_l2Before_2 N m0 p0 p1 p2 p3 p4 p5 p6

/- 64: loop.example/g01166/spec.l2Heap -/
abbrev As_spec_l2Heap : List ATy := [.data true T_Heap]
abbrev R_spec_l2Heap : List (Bool × Ty) := [(false, .bool)]
abbrev M_spec_l2Heap : List RMode := []
abbrev Ft_spec_l2Heap : Type := D_Heap × Unit → Option (Bool × Unit)
noncomputable def X_spec_l2Heap (n : Nat) (F_spec_l2Sides : Ft_spec_l2Sides) (F_spec_l2In : Ft_spec_l2In) (F_spec_l2Before : Ft_spec_l2Before) : Ctx := { types := TT, globals := [], con := [(74, ⟨As_spec_l2Sides, R_spec_l2Sides, M_spec_l2Sides, F_spec_l2Sides⟩), (97, ⟨As_spec_l2In, R_spec_l2In, M_spec_l2In, F_spec_l2In⟩), (98, ⟨As_spec_l2Before, R_spec_l2Before, M_spec_l2Before, F_spec_l2Before⟩)], keep := [(4, ⟨[.box 1, .tmp 1, .tmp 3], []⟩)], results := [.tmp 2], ntmps := 46, n := n }
noncomputable def B_spec_l2Heap : Code := (Try.f64.body).getD .skip
noncomputable def L_spec_l2Heap_4 (n : Nat) (F_spec_l2Sides : Ft_spec_l2Sides) (F_spec_l2In : Ft_spec_l2In) (F_spec_l2Before : Ft_spec_l2Before) (m0 : Nat) (p0 : Int) (p1 : Int) (p2 : Int) (p3 : List D_A3) (p4 : Int) : Option (denL R_spec_l2Heap) := loopF (X_spec_l2Heap n F_spec_l2Sides F_spec_l2In F_spec_l2Before) B_spec_l2Heap R_spec_l2Heap M_spec_l2Heap 4 [m0] [(.ver, .num 1), (.box 1, .box 0 false [.int .i64 p0, .int .i64 p1, .int .i64 p2, .imm T_A3 p3 (some 3)]), (.tmp 1, .val false [.addr 1 0 0]), (.tmp 3, .val false [.int .i64 p4])]
theorem e_spec_l2Heap (n : Nat) (F_spec_l2Sides : Ft_spec_l2Sides) (F_spec_l2In : Ft_spec_l2In) (F_spec_l2Before : Ft_spec_l2Before) (a0 : D_Heap) : runF (X_spec_l2Heap n F_spec_l2Sides F_spec_l2In F_spec_l2Before) B_spec_l2Heap As_spec_l2Heap R_spec_l2Heap M_spec_l2Heap (a0, ()) = 
  Option.bind (F_spec_l2Sides (a0.1, a0.2.1, a0.2.2.1, ())) fun r0 =>
  bif !r0.1 then
    some (false, ())
  else
    L_spec_l2Heap_4 n F_spec_l2Sides F_spec_l2In F_spec_l2Before n a0.1 a0.2.1 a0.2.2.1 a0.2.2.2.1 0 := by kernel_rfl
theorem e_spec_l2Heap_4 (n : Nat) (F_spec_l2Sides : Ft_spec_l2Sides) (F_spec_l2In : Ft_spec_l2In) (F_spec_l2Before : Ft_spec_l2Before) (m0 : Nat) (p0 : Int) (p1 : Int) (p2 : Int) (p3 : List D_A3) (p4 : Int) : L_spec_l2Heap_4 n F_spec_l2Sides F_spec_l2In F_spec_l2Before (m0 + 1) p0 p1 p2 p3 p4 = 
  bif decide (p4 < (List.length p3 : Int)) then
    bif inB p4 (List.length p3) then
      Option.bind (F_spec_l2In ((p0, (p1, (p2, (p3, ())))), (nth T_A3 p3 p4), ())) fun r2 =>
      bif !r2.1 then
        some (false, ())
      else
        bif decide (p4 > 0) then
          bif inB (IntKind.wrap .i64 (p4 - 1)) (List.length p3) then
            bif inB p4 (List.length p3) then
              Option.bind (F_spec_l2Before ((nth T_A3 p3 (IntKind.wrap .i64 (p4 - 1))), (nth T_A3 p3 p4), ())) fun r7 =>
              bif !r7.1 then
                some (false, ())
              else
                L_spec_l2Heap_4 n F_spec_l2Sides F_spec_l2In F_spec_l2Before m0 p0 p1 p2 p3 (IntKind.wrap .i64 (p4 + 1))
            else none
          else none
        else
          L_spec_l2Heap_4 n F_spec_l2Sides F_spec_l2In F_spec_l2Before m0 p0 p1 p2 p3 (IntKind.wrap .i64 (p4 + 1))
    else none
  else
    some (true, ()) := by kernel_rfl
noncomputable def P_spec_l2Heap : Ft_spec_l2Heap := hid (runF (X_spec_l2Heap N P_spec_l2Sides P_spec_l2In P_spec_l2Before) B_spec_l2Heap As_spec_l2Heap R_spec_l2Heap M_spec_l2Heap)
theorem h_spec_l2Heap : P_spec_l2Heap = runF (X_spec_l2Heap N P_spec_l2Sides P_spec_l2In P_spec_l2Before) B_spec_l2Heap As_spec_l2Heap R_spec_l2Heap M_spec_l2Heap := hid_eq _
noncomputable def C_spec_l2Heap : Contract := ⟨As_spec_l2Heap, R_spec_l2Heap, M_spec_l2Heap, P_spec_l2Heap⟩
theorem s_spec_l2Heap : Sound Try.prog GG 64 C_spec_l2Heap := by
  unfold C_spec_l2Heap; rw [h_spec_l2Heap]
  exact sound_of_run (fn := Try.f64) hmix hstable (tyOK_of ttOK) (hglob (X_spec_l2Heap N P_spec_l2Sides P_spec_l2In P_spec_l2Before)) (conOK_of (X := X_spec_l2Heap N P_spec_l2Sides P_spec_l2In P_spec_l2Before) ⟨s_spec_l2Sides, s_spec_l2In, s_spec_l2Before, trivial⟩) (mconOK_of (X := X_spec_l2Heap N P_spec_l2Sides P_spec_l2In P_spec_l2Before) trivial) (by kernel_rfl) (by kernel_rfl) (by kernel_rfl) (by kernel_rfl) (by kernel_rfl) (by decide)
noncomputable def l_spec_l2Heap_4 : Nat → Int → Int → Int → (List D_A3) → Int → Option (denL R_spec_l2Heap) := hid (fun m0 p0 p1 p2 p3 p4 => L_spec_l2Heap_4 N P_spec_l2Sides P_spec_l2In P_spec_l2Before m0 p0 p1 p2 p3 p4)
theorem h_spec_l2Heap_4 : l_spec_l2Heap_4 = fun m0 p0 p1 p2 p3 p4 => L_spec_l2Heap_4 N P_spec_l2Sides P_spec_l2In P_spec_l2Before m0 p0 p1 p2 p3 p4 := hid_eq _
theorem p_spec_l2Heap (a0 : D_Heap) : P_spec_l2Heap (a0, ()) = 
  Option.bind (P_spec_l2Sides (a0.1, a0.2.1, a0.2.2.1, ())) fun r0 =>
  bif !r0.1 then
    some (false, ())
  else
    l_spec_l2Heap_4 N a0.1 a0.2.1 a0.2.2.1 a0.2.2.2.1 0 := by
  rewrite [h_spec_l2Heap, h_spec_l2Heap_4]
  exact e_spec_l2Heap N P_spec_l2Sides P_spec_l2In P_spec_l2Before a0
theorem q_spec_l2Heap_4 (m0 : Nat) (p0 : Int) (p1 : Int) (p2 : Int) (p3 : List D_A3) (p4 : Int) : l_spec_l2Heap_4 (m0 + 1) p0 p1 p2 p3 p4 = 
  bif decide (p4 < (List.length p3 : Int)) then
    bif inB p4 (List.length p3) then
      Option.bind (P_spec_l2In ((p0, (p1, (p2, (p3, ())))), (nth T_A3 p3 p4), ())) fun r2 =>
      bif !r2.1 then
        some (false, ())
      else
        bif decide (p4 > 0) then
          bif inB (IntKind.wrap .i64 (p4 - 1)) (List.length p3) then
            bif inB p4 (List.length p3) then
              Option.bind (P_spec_l2Before ((nth T_A3 p3 (IntKind.wrap .i64 (p4 - 1))), (nth T_A3 p3 p4), ())) fun r7 =>
              bif !r7.1 then
                some (false, ())
              else
                l_spec_l2Heap_4 m0 p0 p1 p2 p3 (IntKind.wrap .i64 (p4 + 1))
            else none
          else none
        else
          l_spec_l2Heap_4 m0 p0 p1 p2 p3 (IntKind.wrap .i64 (p4 + 1))
    else none
  else
    some (true, ()) := by
  rewrite [h_spec_l2Heap_4]
  exact e_spec_l2Heap_4 N P_spec_l2Sides P_spec_l2In P_spec_l2Before m0 p0 p1 p2 p3 p4

/- 54: loop.example/g01166/spec.l12Good -/
abbrev As_spec_l12Good : List ATy := [.data true T_Bench]
abbrev R_spec_l12Good : List (Bool × Ty) := [(false, .bool)]
abbrev M_spec_l12Good : List RMode := []
abbrev Ft_spec_l12Good : Type := D_Bench × Unit → Option (Bool × Unit)
noncomputable def X_spec_l12Good (n : Nat) (F_spec_l2Heap : Ft_spec_l2Heap) (F_spec_l1In : Ft_spec_l1In) : Ctx := { types := TT, globals := [], con := [(64, ⟨As_spec_l2Heap, R_spec_l2Heap, M_spec_l2Heap, F_spec_l2Heap⟩), (80, ⟨As_spec_l1In, R_spec_l1In, M_spec_l1In, F_spec_l1In⟩)], keep := [], results := [.tmp 2], ntmps := 20, n := n }
noncomputable def B_spec_l12Good : Code := (Try.f54.body).getD .skip
theorem e_spec_l12Good (n : Nat) (F_spec_l2Heap : Ft_spec_l2Heap) (F_spec_l1In : Ft_spec_l1In) (a0 : D_Bench) : runF (X_spec_l12Good n F_spec_l2Heap F_spec_l1In) B_spec_l12Good As_spec_l12Good R_spec_l12Good M_spec_l12Good (a0, ()) = 
  Option.bind (F_spec_l2Heap (a0.1, ())) fun r0 =>
  bif r0.1 then
    Option.bind (F_spec_l1In (a0.2.2.1, 0, 1000, ())) fun r2 =>
    bif r2.1 then
      Option.bind (F_spec_l1In (a0.2.1, 0, (List.length a0.1.2.2.2.1 : Int), ())) fun r4 =>
      some (r4.1, ())
    else
      some (false, ())
  else
    some (false, ()) := by kernel_rfl
noncomputable def P_spec_l12Good : Ft_spec_l12Good := hid (runF (X_spec_l12Good N P_spec_l2Heap P_spec_l1In) B_spec_l12Good As_spec_l12Good R_spec_l12Good M_spec_l12Good)
theorem h_spec_l12Good : P_spec_l12Good = runF (X_spec_l12Good N P_spec_l2Heap P_spec_l1In) B_spec_l12Good As_spec_l12Good R_spec_l12Good M_spec_l12Good := hid_eq _
noncomputable def C_spec_l12Good : Contract := ⟨As_spec_l12Good, R_spec_l12Good, M_spec_l12Good, P_spec_l12Good⟩
theorem s_spec_l12Good : Sound Try.prog GG 54 C_spec_l12Good := by
  unfold C_spec_l12Good; rw [h_spec_l12Good]
  exact sound_of_run (fn := Try.f54) hmix hstable (tyOK_of ttOK) (hglob (X_spec_l12Good N P_spec_l2Heap P_spec_l1In)) (conOK_of (X := X_spec_l12Good N P_spec_l2Heap P_spec_l1In) ⟨s_spec_l2Heap, s_spec_l1In, trivial⟩) (mconOK_of (X := X_spec_l12Good N P_spec_l2Heap P_spec_l1In) trivial) (by kernel_rfl) (by kernel_rfl) (by kernel_rfl) (by kernel_rfl) (by kernel_rfl) (by decide)
theorem p_spec_l12Good (a0 : D_Bench) : P_spec_l12Good (a0, ()) = 
  Option.bind (P_spec_l2Heap (a0.1, ())) fun r0 =>
  bif r0.1 then
    Option.bind (P_spec_l1In (a0.2.2.1, 0, 1000, ())) fun r2 =>
    bif r2.1 then
      Option.bind (P_spec_l1In (a0.2.1, 0, (List.length a0.1.2.2.2.1 : Int), ())) fun r4 =>
      some (r4.1, ())
    else
      some (false, ())
  else
    some (false, ()) := by
  rewrite [h_spec_l12Good]
  exact e_spec_l12Good N P_spec_l2Heap P_spec_l1In a0

/- 16: loop.example/g01166/spec.IsBench -/
abbrev As_spec_IsBench : List ATy := [.data true T_Bench]
abbrev R_spec_IsBench : List (Bool × Ty) := [(false, .bool)]
abbrev M_spec_IsBench : List RMode := []
abbrev Ft_spec_IsBench : Type := D_Bench × Unit → Option (Bool × Unit)
noncomputable def X_spec_IsBench (n : Nat) (F_spec_l12Good : Ft_spec_l12Good) : Ctx := { types := TT, globals := [], con := [(54, ⟨As_spec_l12Good, R_spec_l12Good, M_spec_l12Good, F_spec_l12Good⟩)], keep := [], results := [.tmp 2], ntmps := 5, n := n }
noncomputable def B_spec_IsBench : Code := (Try.f16.body).getD .skip
theorem e_spec_IsBench (n : Nat) (F_spec_l12Good : Ft_spec_l12Good) (a0 : D_Bench) : runF (X_spec_IsBench n F_spec_l12Good) B_spec_IsBench As_spec_IsBench R_spec_IsBench M_spec_IsBench (a0, ()) = 
  Option.bind (F_spec_l12Good (a0, ())) fun r0 =>
  some (r0.1, ()) := by kernel_rfl
noncomputable def P_spec_IsBench : Ft_spec_IsBench := hid (runF (X_spec_IsBench N P_spec_l12Good) B_spec_IsBench As_spec_IsBench R_spec_IsBench M_spec_IsBench)
theorem h_spec_IsBench : P_spec_IsBench = runF (X_spec_IsBench N P_spec_l12Good) B_spec_IsBench As_spec_IsBench R_spec_IsBench M_spec_IsBench := hid_eq _
noncomputable def C_spec_IsBench : Contract := ⟨As_spec_IsBench, R_spec_IsBench, M_spec_IsBench, P_spec_IsBench⟩
theorem s_spec_IsBench : Sound Try.prog GG 16 C_spec_IsBench := by
  unfold C_spec_IsBench; rw [h_spec_IsBench]
  exact sound_of_run (fn := Try.f16) hmix hstable (tyOK_of ttOK) (hglob (X_spec_IsBench N P_spec_l12Good)) (conOK_of (X := X_spec_IsBench N P_spec_l12Good) ⟨s_spec_l12Good, trivial⟩) (mconOK_of (X := X_spec_IsBench N P_spec_l12Good) trivial) (by kernel_rfl) (by kernel_rfl) (by kernel_rfl) (by kernel_rfl) (by kernel_rfl) (by decide)
theorem p_spec_IsBench (a0 : D_Bench) : P_spec_IsBench (a0, ()) = 
  Option.bind (P_spec_l12Good (a0, ())) fun r0 =>
  some (r0.1, ()) := by
  rewrite [h_spec_IsBench]
  exact e_spec_IsBench N P_spec_l12Good a0

/- 50: loop.example/g01166/laws.toIntA3 -/
abbrev As_laws_toIntA3 : List ATy := [.data true T_A3]
abbrev R_laws_toIntA3 : List (Bool × Ty) := [(true, T_A3)]
abbrev M_laws_toIntA3 : List RMode := []
abbrev Ft_laws_toIntA3 : Type := D_A3 × Unit → Option (D_A3 × Unit)
noncomputable def X_laws_toIntA3 (n : Nat) : Ctx := { types := TT, globals := [], con := [], keep := [(3, ⟨[.box 1, .box 2, .box 3, .tmp 1, .tmp 2, .tmp 3, .tmp 4], []⟩)], results := [.cell 2 66], ntmps := 15, n := n }
noncomputable def B_laws_toIntA3 : Code := (Try.f50.body).getD .skip
noncomputable def L_laws_toIntA3_3 (n : Nat) (m0 : Nat) (p0 : Int) (p1 : Int) (p2 : Int) (p3 : Int) (p4 : Int) (p5 : Int) (p6 : Int) (p7 : Int) (p8 : Int) (p9 : Int) : Option (denL R_laws_toIntA3) := loopF (X_laws_toIntA3 n) B_laws_toIntA3 R_laws_toIntA3 M_laws_toIntA3 3 [m0] [(.ver, .num 1), (.box 1, .box 0 false [.int .i64 p0, .int .i64 p1, .int .i64 p2]), (.box 2, .box 0 false [.int .i64 p3, .int .i64 p4, .int .i64 p5]), (.box 3, .box 0 false [.int .i64 p6, .int .i64 p7, .int .i64 p8]), (.tmp 1, .val false [.addr 1 0 0]), (.tmp 2, .val false [.addr 2 0 0]), (.tmp 3, .val false [.addr 3 0 0]), (.tmp 4, .val false [.int .i64 p9])]
theorem e_laws_toIntA3 (n : Nat) (a0 : D_A3) : runF (X_laws_toIntA3 n) B_laws_toIntA3 As_laws_toIntA3 R_laws_toIntA3 M_laws_toIntA3 (a0, ()) = 
  L_laws_toIntA3_3 n n a0.1 a0.2.1 a0.2.2.1 0 0 0 0 0 0 0 := by kernel_rfl
theorem e_laws_toIntA3_3 (n : Nat) (m0 : Nat) (p0 : Int) (p1 : Int) (p2 : Int) (p3 : Int) (p4 : Int) (p5 : Int) (p6 : Int) (p7 : Int) (p8 : Int) (p9 : Int) : L_laws_toIntA3_3 n (m0 + 1) p0 p1 p2 p3 p4 p5 p6 p7 p8 p9 = 
  bif decide (p9 < 3) then
    bif inB p9 3 then
      bif inB p9 3 then
        L_laws_toIntA3_3 n m0 p0 p1 p2 p3 p4 p5 (bif decide (p9 = (0 : Int)) then (bif decide (p9 = (0 : Int)) then p0 else (bif decide (p9 = (1 : Int)) then p1 else p2)) else p6) (bif decide (p9 = (1 : Int)) then (bif decide (p9 = (0 : Int)) then p0 else (bif decide (p9 = (1 : Int)) then p1 else p2)) else p7) (bif decide (p9 = (2 : Int)) then (bif decide (p9 = (0 : Int)) then p0 else (bif decide (p9 = (1 : Int)) then p1 else p2)) else p8) (IntKind.wrap .i64 (p9 + 1))
      else none
    else none
  else
    some ((p6, (p7, (p8, ()))), ()) := by kernel_rfl
noncomputable def P_laws_toIntA3 : Ft_laws_toIntA3 := hid (runF (X_laws_toIntA3 N) B_laws_toIntA3 As_laws_toIntA3 R_laws_toIntA3 M_laws_toIntA3)
theorem h_laws_toIntA3 : P_laws_toIntA3 = runF (X_laws_toIntA3 N) B_laws_toIntA3 As_laws_toIntA3 R_laws_toIntA3 M_laws_toIntA3 := hid_eq _
noncomputable def C_laws_toIntA3 : Contract := ⟨As_laws_toIntA3, R_laws_toIntA3, M_laws_toIntA3, P_laws_toIntA3⟩
theorem s_laws_toIntA3 : Sound Try.prog GG 50 C_laws_toIntA3 := by
  unfold C_laws_toIntA3; rw [h_laws_toIntA3]
  exact sound_of_run (fn := Try.f50) hmix hstable (tyOK_of ttOK) (hglob (X_laws_toIntA3 N)) (conOK_of (X := X_laws_toIntA3 N) trivial) (mconOK_of (X := X_laws_toIntA3 N) trivial) (by kernel_rfl) (by kernel_rfl) (by kernel_rfl) (by kernel_rfl) (by kernel_rfl) (by decide)
noncomputable def l_laws_toIntA3_3 : Nat → Int → Int → Int → Int → Int → Int → Int → Int → Int → Int → Option (denL R_laws_toIntA3) := hid (fun m0 p0 p1 p2 p3 p4 p5 p6 p7 p8 p9 => L_laws_toIntA3_3 N m0 p0 p1 p2 p3 p4 p5 p6 p7 p8 p9)
theorem h_laws_toIntA3_3 : l_laws_toIntA3_3 = fun m0 p0 p1 p2 p3 p4 p5 p6 p7 p8 p9 => L_laws_toIntA3_3 N m0 p0 p1 p2 p3 p4 p5 p6 p7 p8 p9 := hid_eq _
theorem p_laws_toIntA3 (a0 : D_A3) : P_laws_toIntA3 (a0, ()) = 
  l_laws_toIntA3_3 N a0.1 a0.2.1 a0.2.2.1 0 0 0 0 0 0 0 := by
  rewrite [h_laws_toIntA3, h_laws_toIntA3_3]
  exact e_laws_toIntA3 N a0
theorem q_laws_toIntA3_3 (m0 : Nat) (p0 : Int) (p1 : Int) (p2 : Int) (p3 : Int) (p4 : Int) (p5 : Int) (p6 : Int) (p7 : Int) (p8 : Int) (p9 : Int) : l_laws_toIntA3_3 (m0 + 1) p0 p1 p2 p3 p4 p5 p6 p7 p8 p9 = 
  bif decide (p9 < 3) then
    bif inB p9 3 then
      bif inB p9 3 then
        l_laws_toIntA3_3 m0 p0 p1 p2 p3 p4 p5 (bif decide (p9 = (0 : Int)) then (bif decide (p9 = (0 : Int)) then p0 else (bif decide (p9 = (1 : Int)) then p1 else p2)) else p6) (bif decide (p9 = (1 : Int)) then (bif decide (p9 = (0 : Int)) then p0 else (bif decide (p9 = (1 : Int)) then p1 else p2)) else p7) (bif decide (p9 = (2 : Int)) then (bif decide (p9 = (0 : Int)) then p0 else (bif decide (p9 = (1 : Int)) then p1 else p2)) else p8) (IntKind.wrap .i64 (p9 + 1))
      else none
    else none
  else
    some ((p6, (p7, (p8, ()))), ()) := by
  rewrite [h_laws_toIntA3_3]
  exact e_laws_toIntA3_3 N m0 p0 p1 p2 p3 p4 p5 p6 p7 p8 p9

/- 60: loop.example/g01166/laws.toIntA3S -/
abbrev As_laws_toIntA3S : List ATy := [.data false (.sl T_A3)]
abbrev R_laws_toIntA3S : List (Bool × Ty) := [(false, (.sl T_A3))]
abbrev M_laws_toIntA3S : List RMode := [.own 66]
abbrev Ft_laws_toIntA3S : Type := (List D_A3) × Unit → Option ((List D_A3) × Unit)
noncomputable def X_laws_toIntA3S (n : Nat) (F_laws_toIntA3 : Ft_laws_toIntA3) : Ctx := { types := TT, globals := [], con := [(50, ⟨As_laws_toIntA3, R_laws_toIntA3, M_laws_toIntA3, F_laws_toIntA3⟩)], keep := [(3, ⟨[.tmp 0, .tmp 3, .tmp 4], []⟩)], results := [.tmp 2], ntmps := 23, n := n }
noncomputable def B_laws_toIntA3S : Code := (Try.f60.body).getD .skip
noncomputable def L_laws_toIntA3S_3 (n : Nat) (F_laws_toIntA3 : Ft_laws_toIntA3) (m0 : Nat) (p0 : List D_A3) (p1 : List D_A3) (p2 : Int) : Option (denL R_laws_toIntA3S) := loopF (X_laws_toIntA3S n F_laws_toIntA3) B_laws_toIntA3S R_laws_toIntA3S M_laws_toIntA3S 3 [m0] [(.ver, .num 1), (.tmp 0, .val false [.imm T_A3 p0 (some 0)]), (.tmp 3, .val false [.own 66 T_A3 0 p1]), (.tmp 4, .val false [.int .i64 p2])]
theorem e_laws_toIntA3S (n : Nat) (F_laws_toIntA3 : Ft_laws_toIntA3) (a0 : List D_A3) : runF (X_laws_toIntA3S n F_laws_toIntA3) B_laws_toIntA3S As_laws_toIntA3S R_laws_toIntA3S M_laws_toIntA3S (a0, ()) = 
  bif (decide ((0 : Int) ≤ (List.length a0 : Int)) && decide (((List.length a0 : Int) : Int) ≤ (List.length a0 : Int)) && decide (((List.length a0 : Int) : Int) * (24 : Nat) ≤ 140737488355328) && decide (((List.length a0 : Int) : Int) ≤ 140737488355328)) then
    L_laws_toIntA3S_3 n F_laws_toIntA3 n a0 (List.replicate (Int.toNat (List.length a0 : Int)) (Ty.dflt T_A3)) 0
  else none := by kernel_rfl
theorem e_laws_toIntA3S_3 (n : Nat) (F_laws_toIntA3 : Ft_laws_toIntA3) (m0 : Nat) (p0 : List D_A3) (p1 : List D_A3) (p2 : Int) : L_laws_toIntA3S_3 n F_laws_toIntA3 (m0 + 1) p0 p1 p2 = 
  bif decide (p2 < (List.length p0 : Int)) then
    bif inB p2 (List.length p0) then
      Option.bind (F_laws_toIntA3 ((nth T_A3 p0 p2), ())) fun r2 =>
      bif inB p2 (List.length p1) then
        L_laws_toIntA3S_3 n F_laws_toIntA3 m0 p0 (List.set p1 (Int.toNat p2) r2.1) (IntKind.wrap .i64 (p2 + 1))
      else none
    else none
  else
    some (p1, ()) := by kernel_rfl
noncomputable def P_laws_toIntA3S : Ft_laws_toIntA3S := hid (runF (X_laws_toIntA3S N P_laws_toIntA3) B_laws_toIntA3S As_laws_toIntA3S R_laws_toIntA3S M_laws_toIntA3S)
theorem h_laws_toIntA3S : P_laws_toIntA3S = runF (X_laws_toIntA3S N P_laws_toIntA3) B_laws_toIntA3S As_laws_toIntA3S R_laws_toIntA3S M_laws_toIntA3S := hid_eq _
noncomputable def C_laws_toIntA3S : Contract := ⟨As_laws_toIntA3S, R_laws_toIntA3S, M_laws_toIntA3S, P_laws_toIntA3S⟩
theorem s_laws_toIntA3S : Sound Try.prog GG 60 C_laws_toIntA3S := by
  unfold C_laws_toIntA3S; rw [h_laws_toIntA3S]
  exact sound_of_run (fn := Try.f60) hmix hstable (tyOK_of ttOK) (hglob (X_laws_toIntA3S N P_laws_toIntA3)) (conOK_of (X := X_laws_toIntA3S N P_laws_toIntA3) ⟨s_laws_toIntA3, trivial⟩) (mconOK_of (X := X_laws_toIntA3S N P_laws_toIntA3) trivial) (by kernel_rfl) (by kernel_rfl) (by kernel_rfl) (by kernel_rfl) (by kernel_rfl) (by decide)
noncomputable def l_laws_toIntA3S_3 : Nat → (List D_A3) → (List D_A3) → Int → Option (denL R_laws_toIntA3S) := hid (fun m0 p0 p1 p2 => L_laws_toIntA3S_3 N P_laws_toIntA3 m0 p0 p1 p2)
theorem h_laws_toIntA3S_3 : l_laws_toIntA3S_3 = fun m0 p0 p1 p2 => L_laws_toIntA3S_3 N P_laws_toIntA3 m0 p0 p1 p2 := hid_eq _
theorem p_laws_toIntA3S (a0 : List D_A3) : P_laws_toIntA3S (a0, ()) = 
  bif (decide ((0 : Int) ≤ (List.length a0 : Int)) && decide (((List.length a0 : Int) : Int) ≤ (List.length a0 : Int)) && decide (((List.length a0 : Int) : Int) * (24 : Nat) ≤ 140737488355328) && decide (((List.length a0 : Int) : Int) ≤ 140737488355328)) then
    l_laws_toIntA3S_3 N a0 (List.replicate (Int.toNat (List.length a0 : Int)) (Ty.dflt T_A3)) 0
  else none := by
  rewrite [h_laws_toIntA3S, h_laws_toIntA3S_3]
  exact e_laws_toIntA3S N P_laws_toIntA3 a0
theorem q_laws_toIntA3S_3 (m0 : Nat) (p0 : List D_A3) (p1 : List D_A3) (p2 : Int) : l_laws_toIntA3S_3 (m0 + 1) p0 p1 p2 = 
  bif decide (p2 < (List.length p0 : Int)) then
    bif inB p2 (List.length p0) then
      Option.bind (P_laws_toIntA3 ((nth T_A3 p0 p2), ())) fun r2 =>
      bif inB p2 (List.length p1) then
        l_laws_toIntA3S_3 m0 p0 (List.set p1 (Int.toNat p2) r2.1) (IntKind.wrap .i64 (p2 + 1))
      else none
    else none
  else
    some (p1, ()) := by
  rewrite [h_laws_toIntA3S_3]
  exact e_laws_toIntA3S_3 N P_laws_toIntA3 m0 p0 p1 p2

/- 22: loop.example/g01166/laws.toHeap -/
abbrev As_laws_toHeap : List ATy := [.data true T_Heap]
abbrev R_laws_toHeap : List (Bool × Ty) := [(true, T_Heap)]
abbrev M_laws_toHeap : List RMode := [.own 66]
abbrev Ft_laws_toHeap : Type := D_Heap × Unit → Option (D_Heap × Unit)
noncomputable def X_laws_toHeap (n : Nat) (F_laws_toIntA3S : Ft_laws_toIntA3S) : Ctx := { types := TT, globals := [], con := [(60, ⟨As_laws_toIntA3S, R_laws_toIntA3S, M_laws_toIntA3S, F_laws_toIntA3S⟩)], keep := [], results := [.cell 2 29], ntmps := 18, n := n }
noncomputable def B_laws_toHeap : Code := (Try.f22.body).getD .skip
theorem e_laws_toHeap (n : Nat) (F_laws_toIntA3S : Ft_laws_toIntA3S) (a0 : D_Heap) : runF (X_laws_toHeap n F_laws_toIntA3S) B_laws_toHeap As_laws_toHeap R_laws_toHeap M_laws_toHeap (a0, ()) = 
  Option.bind (F_laws_toIntA3S (a0.2.2.2.1, ())) fun r0 =>
  some ((a0.1, (a0.2.1, (a0.2.2.1, (r0.1, ())))), ()) := by kernel_rfl
noncomputable def P_laws_toHeap : Ft_laws_toHeap := hid (runF (X_laws_toHeap N P_laws_toIntA3S) B_laws_toHeap As_laws_toHeap R_laws_toHeap M_laws_toHeap)
theorem h_laws_toHeap : P_laws_toHeap = runF (X_laws_toHeap N P_laws_toIntA3S) B_laws_toHeap As_laws_toHeap R_laws_toHeap M_laws_toHeap := hid_eq _
noncomputable def C_laws_toHeap : Contract := ⟨As_laws_toHeap, R_laws_toHeap, M_laws_toHeap, P_laws_toHeap⟩
theorem s_laws_toHeap : Sound Try.prog GG 22 C_laws_toHeap := by
  unfold C_laws_toHeap; rw [h_laws_toHeap]
  exact sound_of_run (fn := Try.f22) hmix hstable (tyOK_of ttOK) (hglob (X_laws_toHeap N P_laws_toIntA3S)) (conOK_of (X := X_laws_toHeap N P_laws_toIntA3S) ⟨s_laws_toIntA3S, trivial⟩) (mconOK_of (X := X_laws_toHeap N P_laws_toIntA3S) trivial) (by kernel_rfl) (by kernel_rfl) (by kernel_rfl) (by kernel_rfl) (by kernel_rfl) (by decide)
theorem p_laws_toHeap (a0 : D_Heap) : P_laws_toHeap (a0, ()) = 
  Option.bind (P_laws_toIntA3S (a0.2.2.2.1, ())) fun r0 =>
  some ((a0.1, (a0.2.1, (a0.2.2.1, (r0.1, ())))), ()) := by
  rewrite [h_laws_toHeap]
  exact e_laws_toHeap N P_laws_toIntA3S a0

/- 17: loop.example/g01166/laws.toBench -/
abbrev As_laws_toBench : List ATy := [.data true T_Bench]
abbrev R_laws_toBench : List (Bool × Ty) := [(true, T_Bench)]
abbrev M_laws_toBench : List RMode := [.own 66]
abbrev Ft_laws_toBench : Type := D_Bench × Unit → Option (D_Bench × Unit)
noncomputable def X_laws_toBench (n : Nat) (F_laws_toHeap : Ft_laws_toHeap) : Ctx := { types := TT, globals := [], con := [(22, ⟨As_laws_toHeap, R_laws_toHeap, M_laws_toHeap, F_laws_toHeap⟩)], keep := [], results := [.cell 2 31], ntmps := 15, n := n }
noncomputable def B_laws_toBench : Code := (Try.f17.body).getD .skip
theorem e_laws_toBench (n : Nat) (F_laws_toHeap : Ft_laws_toHeap) (a0 : D_Bench) : runF (X_laws_toBench n F_laws_toHeap) B_laws_toBench As_laws_toBench R_laws_toBench M_laws_toBench (a0, ()) = 
  Option.bind (F_laws_toHeap (a0.1, ())) fun r0 =>
  some ((r0.1, a0.2), ()) := by kernel_rfl
noncomputable def P_laws_toBench : Ft_laws_toBench := hid (runF (X_laws_toBench N P_laws_toHeap) B_laws_toBench As_laws_toBench R_laws_toBench M_laws_toBench)
theorem h_laws_toBench : P_laws_toBench = runF (X_laws_toBench N P_laws_toHeap) B_laws_toBench As_laws_toBench R_laws_toBench M_laws_toBench := hid_eq _
noncomputable def C_laws_toBench : Contract := ⟨As_laws_toBench, R_laws_toBench, M_laws_toBench, P_laws_toBench⟩
theorem s_laws_toBench : Sound Try.prog GG 17 C_laws_toBench := by
  unfold C_laws_toBench; rw [h_laws_toBench]
  exact sound_of_run (fn := Try.f17) hmix hstable (tyOK_of ttOK) (hglob (X_laws_toBench N P_laws_toHeap)) (conOK_of (X := X_laws_toBench N P_laws_toHeap) ⟨s_laws_toHeap, trivial⟩) (mconOK_of (X := X_laws_toBench N P_laws_toHeap) trivial) (by kernel_rfl) (by kernel_rfl) (by kernel_rfl) (by kernel_rfl) (by kernel_rfl) (by decide)
theorem p_laws_toBench (a0 : D_Bench) : P_laws_toBench (a0, ()) = 
  Option.bind (P_laws_toHeap (a0.1, ())) fun r0 =>
  some ((r0.1, a0.2), ()) := by
  rewrite [h_laws_toBench]
  exact e_laws_toBench N P_laws_toHeap a0

/- 66: (loop.example/g01166/impl.Heap).box -/
abbrev As_Heap_box : List ATy := [.data true T_Heap]
abbrev R_Heap_box : List (Bool × Ty) := [(true, T_A3)]
abbrev M_Heap_box : List RMode := []
abbrev Ft_Heap_box : Type := D_Heap × Unit → Option (D_A3 × Unit)
noncomputable def X_Heap_box (n : Nat) : Ctx := { types := TT, globals := [], con := [], keep := [], results := [.cell 2 79], ntmps := 10, n := n }
noncomputable def B_Heap_box : Code := (Try.f66.body).getD .skip
theorem e_Heap_box (n : Nat) (a0 : D_Heap) : runF (X_Heap_box n) B_Heap_box As_Heap_box R_Heap_box M_Heap_box (a0, ()) = 
  some ((a0.1, (a0.2.1, (a0.2.2.1, ()))), ()) := by kernel_rfl
noncomputable def P_Heap_box : Ft_Heap_box := hid (runF (X_Heap_box N) B_Heap_box As_Heap_box R_Heap_box M_Heap_box)
theorem h_Heap_box : P_Heap_box = runF (X_Heap_box N) B_Heap_box As_Heap_box R_Heap_box M_Heap_box := hid_eq _
noncomputable def C_Heap_box : Contract := ⟨As_Heap_box, R_Heap_box, M_Heap_box, P_Heap_box⟩
theorem s_Heap_box : Sound Try.prog GG 66 C_Heap_box := by
  unfold C_Heap_box; rw [h_Heap_box]
  exact sound_of_run (fn := Try.f66) hmix hstable (tyOK_of ttOK) (hglob (X_Heap_box N)) (conOK_of (X := X_Heap_box N) trivial) (mconOK_of (X := X_Heap_box N) trivial) (by kernel_rfl) (by kernel_rfl) (by kernel_rfl) (by kernel_rfl) (by kernel_rfl) (by decide)
theorem p_Heap_box (a0 : D_Heap) : P_Heap_box (a0, ()) = 
  some ((a0.1, (a0.2.1, (a0.2.2.1, ()))), ()) := by
  rewrite [h_Heap_box]
  exact e_Heap_box N a0

/- 56: loop.example/g01166/impl.within -/
abbrev As_impl_within : List ATy := [.data false (.int .i64), .data false (.int .i64), .data false (.int .i64)]
abbrev R_impl_within : List (Bool × Ty) := [(false, .bool)]
abbrev M_impl_within : List RMode := []
abbrev Ft_impl_within : Type := Int × Int × Int × Unit → Option (Bool × Unit)
noncomputable def X_impl_within (n : Nat) : Ctx := { types := TT, globals := [], con := [], keep := [], results := [.tmp 6], ntmps := 15, n := n }
noncomputable def B_impl_within : Code := (Try.f56.body).getD .skip
theorem e_impl_within (n : Nat) (a0 : Int) (a1 : Int) (a2 : Int) : runF (X_impl_within n) B_impl_within As_impl_within R_impl_within M_impl_within (a0, a1, a2, ()) = 
  bif decide (a0 ≥ a1) then
    some (decide (a0 ≤ a2), ())
  else
    some (false, ()) := by kernel_rfl
noncomputable def P_impl_within : Ft_impl_within := hid (runF (X_impl_within N) B_impl_within As_impl_within R_impl_within M_impl_within)
theorem h_impl_within : P_impl_within = runF (X_impl_within N) B_impl_within As_impl_within R_impl_within M_impl_within := hid_eq _
noncomputable def C_impl_within : Contract := ⟨As_impl_within, R_impl_within, M_impl_within, P_impl_within⟩
theorem s_impl_within : Sound Try.prog GG 56 C_impl_within := by
  unfold C_impl_within; rw [h_impl_within]
  exact sound_of_run (fn := Try.f56) hmix hstable (tyOK_of ttOK) (hglob (X_impl_within N)) (conOK_of (X := X_impl_within N) trivial) (mconOK_of (X := X_impl_within N) trivial) (by kernel_rfl) (by kernel_rfl) (by kernel_rfl) (by kernel_rfl) (by kernel_rfl) (by decide)
theorem p_impl_within (a0 : Int) (a1 : Int) (a2 : Int) : P_impl_within (a0, a1, a2, ()) = 
  bif decide (a0 ≥ a1) then
    some (decide (a0 ≤ a2), ())
  else
    some (false, ()) := by
  rewrite [h_impl_within]
  exact e_impl_within N a0 a1 a2

/- 85: (loop.example/g01166/impl.box).valid -/
abbrev As_box_valid : List ATy := [.data true T_A3]
abbrev R_box_valid : List (Bool × Ty) := [(false, .bool)]
abbrev M_box_valid : List RMode := []
abbrev Ft_box_valid : Type := D_A3 × Unit → Option (Bool × Unit)
noncomputable def X_box_valid (n : Nat) (F_impl_within : Ft_impl_within) : Ctx := { types := TT, globals := [], con := [(56, ⟨As_impl_within, R_impl_within, M_impl_within, F_impl_within⟩)], keep := [], results := [.tmp 2], ntmps := 16, n := n }
noncomputable def B_box_valid : Code := (Try.f85.body).getD .skip
theorem e_box_valid (n : Nat) (F_impl_within : Ft_impl_within) (a0 : D_A3) : runF (X_box_valid n F_impl_within) B_box_valid As_box_valid R_box_valid M_box_valid (a0, ()) = 
  Option.bind (F_impl_within (a0.1, 1, 4, ())) fun r0 =>
  bif r0.1 then
    Option.bind (F_impl_within (a0.2.1, 1, 4, ())) fun r2 =>
    bif r2.1 then
      Option.bind (F_impl_within (a0.2.2.1, 1, 4, ())) fun r4 =>
      some (r4.1, ())
    else
      some (false, ())
  else
    some (false, ()) := by kernel_rfl
noncomputable def P_box_valid : Ft_box_valid := hid (runF (X_box_valid N P_impl_within) B_box_valid As_box_valid R_box_valid M_box_valid)
theorem h_box_valid : P_box_valid = runF (X_box_valid N P_impl_within) B_box_valid As_box_valid R_box_valid M_box_valid := hid_eq _
noncomputable def C_box_valid : Contract := ⟨As_box_valid, R_box_valid, M_box_valid, P_box_valid⟩
theorem s_box_valid : Sound Try.prog GG 85 C_box_valid := by
  unfold C_box_valid; rw [h_box_valid]
  exact sound_of_run (fn := Try.f85) hmix hstable (tyOK_of ttOK) (hglob (X_box_valid N P_impl_within)) (conOK_of (X := X_box_valid N P_impl_within) ⟨s_impl_within, trivial⟩) (mconOK_of (X := X_box_valid N P_impl_within) trivial) (by kernel_rfl) (by kernel_rfl) (by kernel_rfl) (by kernel_rfl) (by kernel_rfl) (by decide)
theorem p_box_valid (a0 : D_A3) : P_box_valid (a0, ()) = 
  Option.bind (P_impl_within (a0.1, 1, 4, ())) fun r0 =>
  bif r0.1 then
    Option.bind (P_impl_within (a0.2.1, 1, 4, ())) fun r2 =>
    bif r2.1 then
      Option.bind (P_impl_within (a0.2.2.1, 1, 4, ())) fun r4 =>
      some (r4.1, ())
    else
      some (false, ())
  else
    some (false, ()) := by
  rewrite [h_box_valid]
  exact e_box_valid N P_impl_within a0

/- 93: (loop.example/g01166/impl.box).has -/
abbrev As_box_has : List ATy := [.data true T_A3, .data true T_A3]
abbrev R_box_has : List (Bool × Ty) := [(false, .bool)]
abbrev M_box_has : List RMode := []
abbrev Ft_box_has : Type := D_A3 × D_A3 × Unit → Option (Bool × Unit)
noncomputable def X_box_has (n : Nat) (F_impl_within : Ft_impl_within) : Ctx := { types := TT, globals := [], con := [(56, ⟨As_impl_within, R_impl_within, M_impl_within, F_impl_within⟩)], keep := [], results := [.tmp 4], ntmps := 27, n := n }
noncomputable def B_box_has : Code := (Try.f93.body).getD .skip
theorem e_box_has (n : Nat) (F_impl_within : Ft_impl_within) (a0 : D_A3) (a1 : D_A3) : runF (X_box_has n F_impl_within) B_box_has As_box_has R_box_has M_box_has (a0, a1, ()) = 
  Option.bind (F_impl_within (a1.1, 0, (IntKind.wrap .i64 (a0.1 - 1)), ())) fun r0 =>
  bif r0.1 then
    Option.bind (F_impl_within (a1.2.1, 0, (IntKind.wrap .i64 (a0.2.1 - 1)), ())) fun r2 =>
    bif r2.1 then
      Option.bind (F_impl_within (a1.2.2.1, 0, (IntKind.wrap .i64 (a0.2.2.1 - 1)), ())) fun r4 =>
      some (r4.1, ())
    else
      some (false, ())
  else
    some (false, ()) := by kernel_rfl
noncomputable def P_box_has : Ft_box_has := hid (runF (X_box_has N P_impl_within) B_box_has As_box_has R_box_has M_box_has)
theorem h_box_has : P_box_has = runF (X_box_has N P_impl_within) B_box_has As_box_has R_box_has M_box_has := hid_eq _
noncomputable def C_box_has : Contract := ⟨As_box_has, R_box_has, M_box_has, P_box_has⟩
theorem s_box_has : Sound Try.prog GG 93 C_box_has := by
  unfold C_box_has; rw [h_box_has]
  exact sound_of_run (fn := Try.f93) hmix hstable (tyOK_of ttOK) (hglob (X_box_has N P_impl_within)) (conOK_of (X := X_box_has N P_impl_within) ⟨s_impl_within, trivial⟩) (mconOK_of (X := X_box_has N P_impl_within) trivial) (by kernel_rfl) (by kernel_rfl) (by kernel_rfl) (by kernel_rfl) (by kernel_rfl) (by decide)
theorem p_box_has (a0 : D_A3) (a1 : D_A3) : P_box_has (a0, a1, ()) = 
  Option.bind (P_impl_within (a1.1, 0, (IntKind.wrap .i64 (a0.1 - 1)), ())) fun r0 =>
  bif r0.1 then
    Option.bind (P_impl_within (a1.2.1, 0, (IntKind.wrap .i64 (a0.2.1 - 1)), ())) fun r2 =>
    bif r2.1 then
      Option.bind (P_impl_within (a1.2.2.1, 0, (IntKind.wrap .i64 (a0.2.2.1 - 1)), ())) fun r4 =>
      some (r4.1, ())
    else
      some (false, ())
  else
    some (false, ()) := by
  rewrite [h_box_has]
  exact e_box_has N P_impl_within a0 a1

/- 123: cmp.isNaN[int] -/
abbrev As_cmp_isNaN_int : List ATy := [.data false (.int .i64)]
abbrev R_cmp_isNaN_int : List (Bool × Ty) := [(false, .bool)]
abbrev M_cmp_isNaN_int : List RMode := []
abbrev Ft_cmp_isNaN_int : Type := Int × Unit → Option (Bool × Unit)
noncomputable def X_cmp_isNaN_int (n : Nat) : Ctx := { types := TT, globals := [], con := [], keep := [], results := [.tmp 2], ntmps := 6, n := n }
noncomputable def B_cmp_isNaN_int : Code := (Try.f123.body).getD .skip
theorem e_cmp_isNaN_int (n : Nat) (a0 : Int) : runF (X_cmp_isNaN_int n) B_cmp_isNaN_int As_cmp_isNaN_int R_cmp_isNaN_int M_cmp_isNaN_int (a0, ()) = 
  some (!decide (a0 = a0), ()) := by kernel_rfl
noncomputable def P_cmp_isNaN_int : Ft_cmp_isNaN_int := hid (runF (X_cmp_isNaN_int N) B_cmp_isNaN_int As_cmp_isNaN_int R_cmp_isNaN_int M_cmp_isNaN_int)
theorem h_cmp_isNaN_int : P_cmp_isNaN_int = runF (X_cmp_isNaN_int N) B_cmp_isNaN_int As_cmp_isNaN_int R_cmp_isNaN_int M_cmp_isNaN_int := hid_eq _
noncomputable def C_cmp_isNaN_int : Contract := ⟨As_cmp_isNaN_int, R_cmp_isNaN_int, M_cmp_isNaN_int, P_cmp_isNaN_int⟩
theorem s_cmp_isNaN_int : Sound Try.prog GG 123 C_cmp_isNaN_int := by
  unfold C_cmp_isNaN_int; rw [h_cmp_isNaN_int]
  exact sound_of_run (fn := Try.f123) hmix hstable (tyOK_of ttOK) (hglob (X_cmp_isNaN_int N)) (conOK_of (X := X_cmp_isNaN_int N) trivial) (mconOK_of (X := X_cmp_isNaN_int N) trivial) (by kernel_rfl) (by kernel_rfl) (by kernel_rfl) (by kernel_rfl) (by kernel_rfl) (by decide)
theorem p_cmp_isNaN_int (a0 : Int) : P_cmp_isNaN_int (a0, ()) = 
  some (!decide (a0 = a0), ()) := by
  rewrite [h_cmp_isNaN_int]
  exact e_cmp_isNaN_int N a0

/- 117: cmp.Compare[int] -/
abbrev As_cmp_Compare_int : List ATy := [.data false (.int .i64), .data false (.int .i64)]
abbrev R_cmp_Compare_int : List (Bool × Ty) := [(false, (.int .i64))]
abbrev M_cmp_Compare_int : List RMode := []
abbrev Ft_cmp_Compare_int : Type := Int × Int × Unit → Option (Int × Unit)
noncomputable def X_cmp_Compare_int (n : Nat) (F_cmp_isNaN_int : Ft_cmp_isNaN_int) : Ctx := { types := TT, globals := [], con := [(123, ⟨As_cmp_isNaN_int, R_cmp_isNaN_int, M_cmp_isNaN_int, F_cmp_isNaN_int⟩)], keep := [], results := [.tmp 4], ntmps := 20, n := n }
noncomputable def B_cmp_Compare_int : Code := (Try.f117.body).getD .skip
theorem e_cmp_Compare_int (n : Nat) (F_cmp_isNaN_int : Ft_cmp_isNaN_int) (a0 : Int) (a1 : Int) : runF (X_cmp_Compare_int n F_cmp_isNaN_int) B_cmp_Compare_int As_cmp_Compare_int R_cmp_Compare_int M_cmp_Compare_int (a0, a1, ()) = 
  Option.bind (F_cmp_isNaN_int (a0, ())) fun r0 =>
  Option.bind (F_cmp_isNaN_int (a1, ())) fun r1 =>
  bif r0.1 then
    bif r1.1 then
      some (0, ())
    else
      some ((-1), ())
  else
    bif r1.1 then
      some (1, ())
    else
      bif decide (a0 < a1) then
        some ((-1), ())
      else
        bif decide (a0 > a1) then
          some (1, ())
        else
          some (0, ()) := by kernel_rfl
noncomputable def P_cmp_Compare_int : Ft_cmp_Compare_int := hid (runF (X_cmp_Compare_int N P_cmp_isNaN_int) B_cmp_Compare_int As_cmp_Compare_int R_cmp_Compare_int M_cmp_Compare_int)
theorem h_cmp_Compare_int : P_cmp_Compare_int = runF (X_cmp_Compare_int N P_cmp_isNaN_int) B_cmp_Compare_int As_cmp_Compare_int R_cmp_Compare_int M_cmp_Compare_int := hid_eq _
noncomputable def C_cmp_Compare_int : Contract := ⟨As_cmp_Compare_int, R_cmp_Compare_int, M_cmp_Compare_int, P_cmp_Compare_int⟩
theorem s_cmp_Compare_int : Sound Try.prog GG 117 C_cmp_Compare_int := by
  unfold C_cmp_Compare_int; rw [h_cmp_Compare_int]
  exact sound_of_run (fn := Try.f117) hmix hstable (tyOK_of ttOK) (hglob (X_cmp_Compare_int N P_cmp_isNaN_int)) (conOK_of (X := X_cmp_Compare_int N P_cmp_isNaN_int) ⟨s_cmp_isNaN_int, trivial⟩) (mconOK_of (X := X_cmp_Compare_int N P_cmp_isNaN_int) trivial) (by kernel_rfl) (by kernel_rfl) (by kernel_rfl) (by kernel_rfl) (by kernel_rfl) (by decide)
theorem p_cmp_Compare_int (a0 : Int) (a1 : Int) : P_cmp_Compare_int (a0, a1, ()) = 
  Option.bind (P_cmp_isNaN_int (a0, ())) fun r0 =>
  Option.bind (P_cmp_isNaN_int (a1, ())) fun r1 =>
  bif r0.1 then
    bif r1.1 then
      some (0, ())
    else
      some ((-1), ())
  else
    bif r1.1 then
      some (1, ())
    else
      bif decide (a0 < a1) then
        some ((-1), ())
      else
        bif decide (a0 > a1) then
          some (1, ())
        else
          some (0, ()) := by
  rewrite [h_cmp_Compare_int]
  exact e_cmp_Compare_int N P_cmp_isNaN_int a0 a1

/- 109: slices.Compare[[]int,int] -/
abbrev As_slices_Compare_int_int : List ATy := [.data false (.sl (.int .i64)), .data false (.sl (.int .i64))]
abbrev R_slices_Compare_int_int : List (Bool × Ty) := [(false, (.int .i64))]
abbrev M_slices_Compare_int_int : List RMode := []
abbrev Ft_slices_Compare_int_int : Type := (List Int) × (List Int) × Unit → Option (Int × Unit)
noncomputable def X_slices_Compare_int_int (n : Nat) (F_cmp_Compare_int : Ft_cmp_Compare_int) : Ctx := { types := TT, globals := [], con := [(117, ⟨As_cmp_Compare_int, R_cmp_Compare_int, M_cmp_Compare_int, F_cmp_Compare_int⟩)], keep := [(2, ⟨[.tmp 0, .tmp 1, .tmp 9, .tmp 10, .tmp 11], []⟩)], results := [.tmp 4], ntmps := 36, n := n }
noncomputable def B_slices_Compare_int_int : Code := (Try.f109.body).getD .skip
noncomputable def L_slices_Compare_int_int_2 (n : Nat) (F_cmp_Compare_int : Ft_cmp_Compare_int) (m0 : Nat) (p0 : List Int) (p1 : List Int) (p2 : List Int) (p3 : Int) (p4 : Int) : Option (denL R_slices_Compare_int_int) := loopF (X_slices_Compare_int_int n F_cmp_Compare_int) B_slices_Compare_int_int R_slices_Compare_int_int M_slices_Compare_int_int 2 [m0] [(.ver, .num 1), (.tmp 0, .val false [.imm (.int .i64) p0 (some 0)]), (.tmp 1, .val false [.imm (.int .i64) p1 (some 1)]), (.tmp 9, .val false [.imm (.int .i64) p2 (some 0)]), (.tmp 10, .val false [.int .i64 p3]), (.tmp 11, .val false [.int .i64 p4])]
theorem e_slices_Compare_int_int (n : Nat) (F_cmp_Compare_int : Ft_cmp_Compare_int) (a0 : List Int) (a1 : List Int) : runF (X_slices_Compare_int_int n F_cmp_Compare_int) B_slices_Compare_int_int As_slices_Compare_int_int R_slices_Compare_int_int M_slices_Compare_int_int (a0, a1, ()) = 
  L_slices_Compare_int_int_2 n F_cmp_Compare_int n a0 a1 a0 (List.length a0 : Int) 0 := by kernel_rfl
theorem e_slices_Compare_int_int_2 (n : Nat) (F_cmp_Compare_int : Ft_cmp_Compare_int) (m0 : Nat) (p0 : List Int) (p1 : List Int) (p2 : List Int) (p3 : Int) (p4 : Int) : L_slices_Compare_int_int_2 n F_cmp_Compare_int (m0 + 1) p0 p1 p2 p3 p4 = 
  bif decide (p4 < p3) then
    bif inB p4 (List.length p2) then
      bif decide (p4 ≥ (List.length p1 : Int)) then
        some (1, ())
      else
        bif inB p4 (List.length p1) then
          Option.bind (F_cmp_Compare_int ((nth ((.int .i64) : Ty) p2 p4), (nth ((.int .i64) : Ty) p1 p4), ())) fun r4 =>
          bif !decide (r4.1 = 0) then
            some (r4.1, ())
          else
            L_slices_Compare_int_int_2 n F_cmp_Compare_int m0 p0 p1 p2 p3 (IntKind.wrap .i64 (p4 + 1))
        else none
    else none
  else
    bif decide ((List.length p0 : Int) < (List.length p1 : Int)) then
      some ((-1), ())
    else
      some (0, ()) := by kernel_rfl
noncomputable def P_slices_Compare_int_int : Ft_slices_Compare_int_int := hid (runF (X_slices_Compare_int_int N P_cmp_Compare_int) B_slices_Compare_int_int As_slices_Compare_int_int R_slices_Compare_int_int M_slices_Compare_int_int)
theorem h_slices_Compare_int_int : P_slices_Compare_int_int = runF (X_slices_Compare_int_int N P_cmp_Compare_int) B_slices_Compare_int_int As_slices_Compare_int_int R_slices_Compare_int_int M_slices_Compare_int_int := hid_eq _
noncomputable def C_slices_Compare_int_int : Contract := ⟨As_slices_Compare_int_int, R_slices_Compare_int_int, M_slices_Compare_int_int, P_slices_Compare_int_int⟩
theorem s_slices_Compare_int_int : Sound Try.prog GG 109 C_slices_Compare_int_int := by
  unfold C_slices_Compare_int_int; rw [h_slices_Compare_int_int]
  exact sound_of_run (fn := Try.f109) hmix hstable (tyOK_of ttOK) (hglob (X_slices_Compare_int_int N P_cmp_Compare_int)) (conOK_of (X := X_slices_Compare_int_int N P_cmp_Compare_int) ⟨s_cmp_Compare_int, trivial⟩) (mconOK_of (X := X_slices_Compare_int_int N P_cmp_Compare_int) trivial) (by kernel_rfl) (by kernel_rfl) (by kernel_rfl) (by kernel_rfl) (by kernel_rfl) (by decide)
noncomputable def l_slices_Compare_int_int_2 : Nat → (List Int) → (List Int) → (List Int) → Int → Int → Option (denL R_slices_Compare_int_int) := hid (fun m0 p0 p1 p2 p3 p4 => L_slices_Compare_int_int_2 N P_cmp_Compare_int m0 p0 p1 p2 p3 p4)
theorem h_slices_Compare_int_int_2 : l_slices_Compare_int_int_2 = fun m0 p0 p1 p2 p3 p4 => L_slices_Compare_int_int_2 N P_cmp_Compare_int m0 p0 p1 p2 p3 p4 := hid_eq _
theorem p_slices_Compare_int_int (a0 : List Int) (a1 : List Int) : P_slices_Compare_int_int (a0, a1, ()) = 
  l_slices_Compare_int_int_2 N a0 a1 a0 (List.length a0 : Int) 0 := by
  rewrite [h_slices_Compare_int_int, h_slices_Compare_int_int_2]
  exact e_slices_Compare_int_int N P_cmp_Compare_int a0 a1
theorem q_slices_Compare_int_int_2 (m0 : Nat) (p0 : List Int) (p1 : List Int) (p2 : List Int) (p3 : Int) (p4 : Int) : l_slices_Compare_int_int_2 (m0 + 1) p0 p1 p2 p3 p4 = 
  bif decide (p4 < p3) then
    bif inB p4 (List.length p2) then
      bif decide (p4 ≥ (List.length p1 : Int)) then
        some (1, ())
      else
        bif inB p4 (List.length p1) then
          Option.bind (P_cmp_Compare_int ((nth ((.int .i64) : Ty) p2 p4), (nth ((.int .i64) : Ty) p1 p4), ())) fun r4 =>
          bif !decide (r4.1 = 0) then
            some (r4.1, ())
          else
            l_slices_Compare_int_int_2 m0 p0 p1 p2 p3 (IntKind.wrap .i64 (p4 + 1))
        else none
    else none
  else
    bif decide ((List.length p0 : Int) < (List.length p1 : Int)) then
      some ((-1), ())
    else
      some (0, ()) := by
  rewrite [h_slices_Compare_int_int_2]
  exact e_slices_Compare_int_int_2 N P_cmp_Compare_int m0 p0 p1 p2 p3 p4

/- 94: loop.example/g01166/impl.compareCells -/
abbrev As_impl_compareCells : List ATy := [.data true T_A3, .data true T_A3]
abbrev R_impl_compareCells : List (Bool × Ty) := [(false, (.int .i64))]
abbrev M_impl_compareCells : List RMode := []
abbrev Ft_impl_compareCells : Type := D_A3 × D_A3 × Unit → Option (Int × Unit)
noncomputable def X_impl_compareCells (n : Nat) (F_slices_Compare_int_int : Ft_slices_Compare_int_int) : Ctx := { types := TT, globals := [], con := [(109, ⟨As_slices_Compare_int_int, R_slices_Compare_int_int, M_slices_Compare_int_int, F_slices_Compare_int_int⟩)], keep := [], results := [.tmp 4], ntmps := 8, n := n }
noncomputable def B_impl_compareCells : Code := (Try.f94.body).getD .skip
theorem e_impl_compareCells (n : Nat) (F_slices_Compare_int_int : Ft_slices_Compare_int_int) (a0 : D_A3) (a1 : D_A3) : runF (X_impl_compareCells n F_slices_Compare_int_int) B_impl_compareCells As_impl_compareCells R_impl_compareCells M_impl_compareCells (a0, a1, ()) = 
  Option.bind (F_slices_Compare_int_int (([a0.1, a0.2.1, a0.2.2.1] : List Int), ([a1.1, a1.2.1, a1.2.2.1] : List Int), ())) fun r0 =>
  some (r0.1, ()) := by kernel_rfl
noncomputable def P_impl_compareCells : Ft_impl_compareCells := hid (runF (X_impl_compareCells N P_slices_Compare_int_int) B_impl_compareCells As_impl_compareCells R_impl_compareCells M_impl_compareCells)
theorem h_impl_compareCells : P_impl_compareCells = runF (X_impl_compareCells N P_slices_Compare_int_int) B_impl_compareCells As_impl_compareCells R_impl_compareCells M_impl_compareCells := hid_eq _
noncomputable def C_impl_compareCells : Contract := ⟨As_impl_compareCells, R_impl_compareCells, M_impl_compareCells, P_impl_compareCells⟩
theorem s_impl_compareCells : Sound Try.prog GG 94 C_impl_compareCells := by
  unfold C_impl_compareCells; rw [h_impl_compareCells]
  exact sound_of_run (fn := Try.f94) hmix hstable (tyOK_of ttOK) (hglob (X_impl_compareCells N P_slices_Compare_int_int)) (conOK_of (X := X_impl_compareCells N P_slices_Compare_int_int) ⟨s_slices_Compare_int_int, trivial⟩) (mconOK_of (X := X_impl_compareCells N P_slices_Compare_int_int) trivial) (by kernel_rfl) (by kernel_rfl) (by kernel_rfl) (by kernel_rfl) (by kernel_rfl) (by decide)
theorem p_impl_compareCells (a0 : D_A3) (a1 : D_A3) : P_impl_compareCells (a0, a1, ()) = 
  Option.bind (P_slices_Compare_int_int (([a0.1, a0.2.1, a0.2.2.1] : List Int), ([a1.1, a1.2.1, a1.2.2.1] : List Int), ())) fun r0 =>
  some (r0.1, ()) := by
  rewrite [h_impl_compareCells]
  exact e_impl_compareCells N P_slices_Compare_int_int a0 a1

/- 55: loop.example/g01166/impl.IsHeap -/
abbrev As_impl_IsHeap : List ATy := [.data true T_Heap]
abbrev R_impl_IsHeap : List (Bool × Ty) := [(false, .bool)]
abbrev M_impl_IsHeap : List RMode := []
abbrev Ft_impl_IsHeap : Type := D_Heap × Unit → Option (Bool × Unit)
noncomputable def X_impl_IsHeap (n : Nat) (F_Heap_box : Ft_Heap_box) (F_box_valid : Ft_box_valid) (F_box_has : Ft_box_has) (F_impl_compareCells : Ft_impl_compareCells) : Ctx := { types := TT, globals := [], con := [(66, ⟨As_Heap_box, R_Heap_box, M_Heap_box, F_Heap_box⟩), (85, ⟨As_box_valid, R_box_valid, M_box_valid, F_box_valid⟩), (93, ⟨As_box_has, R_box_has, M_box_has, F_box_has⟩), (94, ⟨As_impl_compareCells, R_impl_compareCells, M_impl_compareCells, F_impl_compareCells⟩)], keep := [(4, ⟨[.box 1, .tmp 1, .tmp 10, .tmp 11, .tmp 12], []⟩)], results := [.tmp 2], ntmps := 38, n := n }
noncomputable def B_impl_IsHeap : Code := (Try.f55.body).getD .skip
noncomputable def L_impl_IsHeap_4 (n : Nat) (F_Heap_box : Ft_Heap_box) (F_box_valid : Ft_box_valid) (F_box_has : Ft_box_has) (F_impl_compareCells : Ft_impl_compareCells) (m0 : Nat) (p0 : Int) (p1 : Int) (p2 : Int) (p3 : List D_A3) (p4 : List D_A3) (p5 : Int) (p6 : Int) : Option (denL R_impl_IsHeap) := loopF (X_impl_IsHeap n F_Heap_box F_box_valid F_box_has F_impl_compareCells) B_impl_IsHeap R_impl_IsHeap M_impl_IsHeap 4 [m0] [(.ver, .num 1), (.box 1, .box 0 false [.int .i64 p0, .int .i64 p1, .int .i64 p2, .imm T_A3 p3 (some 3)]), (.tmp 1, .val false [.addr 1 0 0]), (.tmp 10, .val false [.imm T_A3 p4 (some 3)]), (.tmp 11, .val false [.int .i64 p5]), (.tmp 12, .val false [.int .i64 p6])]
theorem e_impl_IsHeap (n : Nat) (F_Heap_box : Ft_Heap_box) (F_box_valid : Ft_box_valid) (F_box_has : Ft_box_has) (F_impl_compareCells : Ft_impl_compareCells) (a0 : D_Heap) : runF (X_impl_IsHeap n F_Heap_box F_box_valid F_box_has F_impl_compareCells) B_impl_IsHeap As_impl_IsHeap R_impl_IsHeap M_impl_IsHeap (a0, ()) = 
  Option.bind (F_Heap_box (a0, ())) fun r0 =>
  Option.bind (F_box_valid (r0.1, ())) fun r1 =>
  bif !r1.1 then
    some (false, ())
  else
    L_impl_IsHeap_4 n F_Heap_box F_box_valid F_box_has F_impl_compareCells n a0.1 a0.2.1 a0.2.2.1 a0.2.2.2.1 a0.2.2.2.1 (List.length a0.2.2.2.1 : Int) 0 := by kernel_rfl
theorem e_impl_IsHeap_4 (n : Nat) (F_Heap_box : Ft_Heap_box) (F_box_valid : Ft_box_valid) (F_box_has : Ft_box_has) (F_impl_compareCells : Ft_impl_compareCells) (m0 : Nat) (p0 : Int) (p1 : Int) (p2 : Int) (p3 : List D_A3) (p4 : List D_A3) (p5 : Int) (p6 : Int) : L_impl_IsHeap_4 n F_Heap_box F_box_valid F_box_has F_impl_compareCells (m0 + 1) p0 p1 p2 p3 p4 p5 p6 = 
  bif decide (p6 < p5) then
    bif inB p6 (List.length p4) then
      Option.bind (F_Heap_box ((p0, (p1, (p2, (p3, ())))), ())) fun r2 =>
      Option.bind (F_box_has (r2.1, (nth T_A3 p4 p6), ())) fun r3 =>
      bif !r3.1 then
        some (false, ())
      else
        bif decide (p6 > 0) then
          bif inB (IntKind.wrap .i64 (p6 - 1)) (List.length p3) then
            Option.bind (F_impl_compareCells ((nth T_A3 p3 (IntKind.wrap .i64 (p6 - 1))), (nth T_A3 p4 p6), ())) fun r7 =>
            bif decide (r7.1 ≥ 0) then
              some (false, ())
            else
              L_impl_IsHeap_4 n F_Heap_box F_box_valid F_box_has F_impl_compareCells m0 p0 p1 p2 p3 p4 p5 (IntKind.wrap .i64 (p6 + 1))
          else none
        else
          L_impl_IsHeap_4 n F_Heap_box F_box_valid F_box_has F_impl_compareCells m0 p0 p1 p2 p3 p4 p5 (IntKind.wrap .i64 (p6 + 1))
    else none
  else
    some (true, ()) := by kernel_rfl
noncomputable def P_impl_IsHeap : Ft_impl_IsHeap := hid (runF (X_impl_IsHeap N P_Heap_box P_box_valid P_box_has P_impl_compareCells) B_impl_IsHeap As_impl_IsHeap R_impl_IsHeap M_impl_IsHeap)
theorem h_impl_IsHeap : P_impl_IsHeap = runF (X_impl_IsHeap N P_Heap_box P_box_valid P_box_has P_impl_compareCells) B_impl_IsHeap As_impl_IsHeap R_impl_IsHeap M_impl_IsHeap := hid_eq _
noncomputable def C_impl_IsHeap : Contract := ⟨As_impl_IsHeap, R_impl_IsHeap, M_impl_IsHeap, P_impl_IsHeap⟩
theorem s_impl_IsHeap : Sound Try.prog GG 55 C_impl_IsHeap := by
  unfold C_impl_IsHeap; rw [h_impl_IsHeap]
  exact sound_of_run (fn := Try.f55) hmix hstable (tyOK_of ttOK) (hglob (X_impl_IsHeap N P_Heap_box P_box_valid P_box_has P_impl_compareCells)) (conOK_of (X := X_impl_IsHeap N P_Heap_box P_box_valid P_box_has P_impl_compareCells) ⟨s_Heap_box, s_box_valid, s_box_has, s_impl_compareCells, trivial⟩) (mconOK_of (X := X_impl_IsHeap N P_Heap_box P_box_valid P_box_has P_impl_compareCells) trivial) (by kernel_rfl) (by kernel_rfl) (by kernel_rfl) (by kernel_rfl) (by kernel_rfl) (by decide)
noncomputable def l_impl_IsHeap_4 : Nat → Int → Int → Int → (List D_A3) → (List D_A3) → Int → Int → Option (denL R_impl_IsHeap) := hid (fun m0 p0 p1 p2 p3 p4 p5 p6 => L_impl_IsHeap_4 N P_Heap_box P_box_valid P_box_has P_impl_compareCells m0 p0 p1 p2 p3 p4 p5 p6)
theorem h_impl_IsHeap_4 : l_impl_IsHeap_4 = fun m0 p0 p1 p2 p3 p4 p5 p6 => L_impl_IsHeap_4 N P_Heap_box P_box_valid P_box_has P_impl_compareCells m0 p0 p1 p2 p3 p4 p5 p6 := hid_eq _
theorem p_impl_IsHeap (a0 : D_Heap) : P_impl_IsHeap (a0, ()) = 
  Option.bind (P_Heap_box (a0, ())) fun r0 =>
  Option.bind (P_box_valid (r0.1, ())) fun r1 =>
  bif !r1.1 then
    some (false, ())
  else
    l_impl_IsHeap_4 N a0.1 a0.2.1 a0.2.2.1 a0.2.2.2.1 a0.2.2.2.1 (List.length a0.2.2.2.1 : Int) 0 := by
  rewrite [h_impl_IsHeap, h_impl_IsHeap_4]
  exact e_impl_IsHeap N P_Heap_box P_box_valid P_box_has P_impl_compareCells a0
theorem q_impl_IsHeap_4 (m0 : Nat) (p0 : Int) (p1 : Int) (p2 : Int) (p3 : List D_A3) (p4 : List D_A3) (p5 : Int) (p6 : Int) : l_impl_IsHeap_4 (m0 + 1) p0 p1 p2 p3 p4 p5 p6 = 
  bif decide (p6 < p5) then
    bif inB p6 (List.length p4) then
      Option.bind (P_Heap_box ((p0, (p1, (p2, (p3, ())))), ())) fun r2 =>
      Option.bind (P_box_has (r2.1, (nth T_A3 p4 p6), ())) fun r3 =>
      bif !r3.1 then
        some (false, ())
      else
        bif decide (p6 > 0) then
          bif inB (IntKind.wrap .i64 (p6 - 1)) (List.length p3) then
            Option.bind (P_impl_compareCells ((nth T_A3 p3 (IntKind.wrap .i64 (p6 - 1))), (nth T_A3 p4 p6), ())) fun r7 =>
            bif decide (r7.1 ≥ 0) then
              some (false, ())
            else
              l_impl_IsHeap_4 m0 p0 p1 p2 p3 p4 p5 (IntKind.wrap .i64 (p6 + 1))
          else none
        else
          l_impl_IsHeap_4 m0 p0 p1 p2 p3 p4 p5 (IntKind.wrap .i64 (p6 + 1))
    else none
  else
    some (true, ()) := by
  rewrite [h_impl_IsHeap_4]
  exact e_impl_IsHeap_4 N P_Heap_box P_box_valid P_box_has P_impl_compareCells m0 p0 p1 p2 p3 p4 p5 p6

/- 18: loop.example/g01166/impl.IsBench -/
abbrev As_impl_IsBench : List ATy := [.data true T_Bench]
abbrev R_impl_IsBench : List (Bool × Ty) := [(false, .bool)]
abbrev M_impl_IsBench : List RMode := []
abbrev Ft_impl_IsBench : Type := D_Bench × Unit → Option (Bool × Unit)
noncomputable def X_impl_IsBench (n : Nat) (F_impl_IsHeap : Ft_impl_IsHeap) (F_impl_within : Ft_impl_within) : Ctx := { types := TT, globals := [], con := [(55, ⟨As_impl_IsHeap, R_impl_IsHeap, M_impl_IsHeap, F_impl_IsHeap⟩), (56, ⟨As_impl_within, R_impl_within, M_impl_within, F_impl_within⟩)], keep := [], results := [.tmp 2], ntmps := 20, n := n }
noncomputable def B_impl_IsBench : Code := (Try.f18.body).getD .skip
theorem e_impl_IsBench (n : Nat) (F_impl_IsHeap : Ft_impl_IsHeap) (F_impl_within : Ft_impl_within) (a0 : D_Bench) : runF (X_impl_IsBench n F_impl_IsHeap F_impl_within) B_impl_IsBench As_impl_IsBench R_impl_IsBench M_impl_IsBench (a0, ()) = 
  Option.bind (F_impl_IsHeap (a0.1, ())) fun r0 =>
  bif r0.1 then
    Option.bind (F_impl_within (a0.2.1, 0, (List.length a0.1.2.2.2.1 : Int), ())) fun r2 =>
    bif r2.1 then
      Option.bind (F_impl_within (a0.2.2.1, 0, 1000, ())) fun r4 =>
      some (r4.1, ())
    else
      some (false, ())
  else
    some (false, ()) := by kernel_rfl
noncomputable def P_impl_IsBench : Ft_impl_IsBench := hid (runF (X_impl_IsBench N P_impl_IsHeap P_impl_within) B_impl_IsBench As_impl_IsBench R_impl_IsBench M_impl_IsBench)
theorem h_impl_IsBench : P_impl_IsBench = runF (X_impl_IsBench N P_impl_IsHeap P_impl_within) B_impl_IsBench As_impl_IsBench R_impl_IsBench M_impl_IsBench := hid_eq _
noncomputable def C_impl_IsBench : Contract := ⟨As_impl_IsBench, R_impl_IsBench, M_impl_IsBench, P_impl_IsBench⟩
theorem s_impl_IsBench : Sound Try.prog GG 18 C_impl_IsBench := by
  unfold C_impl_IsBench; rw [h_impl_IsBench]
  exact sound_of_run (fn := Try.f18) hmix hstable (tyOK_of ttOK) (hglob (X_impl_IsBench N P_impl_IsHeap P_impl_within)) (conOK_of (X := X_impl_IsBench N P_impl_IsHeap P_impl_within) ⟨s_impl_IsHeap, s_impl_within, trivial⟩) (mconOK_of (X := X_impl_IsBench N P_impl_IsHeap P_impl_within) trivial) (by kernel_rfl) (by kernel_rfl) (by kernel_rfl) (by kernel_rfl) (by kernel_rfl) (by decide)
theorem p_impl_IsBench (a0 : D_Bench) : P_impl_IsBench (a0, ()) = 
  Option.bind (P_impl_IsHeap (a0.1, ())) fun r0 =>
  bif r0.1 then
    Option.bind (P_impl_within (a0.2.1, 0, (List.length a0.1.2.2.2.1 : Int), ())) fun r2 =>
    bif r2.1 then
      Option.bind (P_impl_within (a0.2.2.1, 0, 1000, ())) fun r4 =>
      some (r4.1, ())
    else
      some (false, ())
  else
    some (false, ()) := by
  rewrite [h_impl_IsBench]
  exact e_impl_IsBench N P_impl_IsHeap P_impl_within a0

/- 96: loop.example/g01166/laws.eqIntA3 -/
abbrev As_laws_eqIntA3 : List ATy := [.data true T_A3, .data true T_A3]
abbrev R_laws_eqIntA3 : List (Bool × Ty) := [(false, .bool)]
abbrev M_laws_eqIntA3 : List RMode := []
abbrev Ft_laws_eqIntA3 : Type := D_A3 × D_A3 × Unit → Option (Bool × Unit)
noncomputable def X_laws_eqIntA3 (n : Nat) : Ctx := { types := TT, globals := [], con := [], keep := [(2, ⟨[.box 2, .box 3, .tmp 2, .tmp 3, .tmp 5], []⟩)], results := [.tmp 4], ntmps := 17, n := n }
noncomputable def B_laws_eqIntA3 : Code := (Try.f96.body).getD .skip
noncomputable def L_laws_eqIntA3_2 (n : Nat) (m0 : Nat) (p0 : Int) (p1 : Int) (p2 : Int) (p3 : Int) (p4 : Int) (p5 : Int) (p6 : Int) : Option (denL R_laws_eqIntA3) := loopF (X_laws_eqIntA3 n) B_laws_eqIntA3 R_laws_eqIntA3 M_laws_eqIntA3 2 [m0] [(.ver, .num 1), (.box 2, .box 0 false [.int .i64 p0, .int .i64 p1, .int .i64 p2]), (.box 3, .box 0 false [.int .i64 p3, .int .i64 p4, .int .i64 p5]), (.tmp 2, .val false [.addr 2 0 0]), (.tmp 3, .val false [.addr 3 0 0]), (.tmp 5, .val false [.int .i64 p6])]
theorem e_laws_eqIntA3 (n : Nat) (a0 : D_A3) (a1 : D_A3) : runF (X_laws_eqIntA3 n) B_laws_eqIntA3 As_laws_eqIntA3 R_laws_eqIntA3 M_laws_eqIntA3 (a0, a1, ()) = 
  L_laws_eqIntA3_2 n n a0.1 a0.2.1 a0.2.2.1 a1.1 a1.2.1 a1.2.2.1 0 := by kernel_rfl
theorem e_laws_eqIntA3_2 (n : Nat) (m0 : Nat) (p0 : Int) (p1 : Int) (p2 : Int) (p3 : Int) (p4 : Int) (p5 : Int) (p6 : Int) : L_laws_eqIntA3_2 n (m0 + 1) p0 p1 p2 p3 p4 p5 p6 = 
  bif decide (p6 < 3) then
    bif inB p6 3 then
      bif inB p6 3 then
        bif !decide ((bif decide (p6 = (0 : Int)) then p0 else (bif decide (p6 = (1 : Int)) then p1 else p2)) = (bif decide (p6 = (0 : Int)) then p3 else (bif decide (p6 = (1 : Int)) then p4 else p5))) then
          some (false, ())
        else
          L_laws_eqIntA3_2 n m0 p0 p1 p2 p3 p4 p5 (IntKind.wrap .i64 (p6 + 1))
      else none
    else none
  else
    some (true, ()) := by kernel_rfl
noncomputable def P_laws_eqIntA3 : Ft_laws_eqIntA3 := hid (runF (X_laws_eqIntA3 N) B_laws_eqIntA3 As_laws_eqIntA3 R_laws_eqIntA3 M_laws_eqIntA3)
theorem h_laws_eqIntA3 : P_laws_eqIntA3 = runF (X_laws_eqIntA3 N) B_laws_eqIntA3 As_laws_eqIntA3 R_laws_eqIntA3 M_laws_eqIntA3 := hid_eq _
noncomputable def C_laws_eqIntA3 : Contract := ⟨As_laws_eqIntA3, R_laws_eqIntA3, M_laws_eqIntA3, P_laws_eqIntA3⟩
theorem s_laws_eqIntA3 : Sound Try.prog GG 96 C_laws_eqIntA3 := by
  unfold C_laws_eqIntA3; rw [h_laws_eqIntA3]
  exact sound_of_run (fn := Try.f96) hmix hstable (tyOK_of ttOK) (hglob (X_laws_eqIntA3 N)) (conOK_of (X := X_laws_eqIntA3 N) trivial) (mconOK_of (X := X_laws_eqIntA3 N) trivial) (by kernel_rfl) (by kernel_rfl) (by kernel_rfl) (by kernel_rfl) (by kernel_rfl) (by decide)
noncomputable def l_laws_eqIntA3_2 : Nat → Int → Int → Int → Int → Int → Int → Int → Option (denL R_laws_eqIntA3) := hid (fun m0 p0 p1 p2 p3 p4 p5 p6 => L_laws_eqIntA3_2 N m0 p0 p1 p2 p3 p4 p5 p6)
theorem h_laws_eqIntA3_2 : l_laws_eqIntA3_2 = fun m0 p0 p1 p2 p3 p4 p5 p6 => L_laws_eqIntA3_2 N m0 p0 p1 p2 p3 p4 p5 p6 := hid_eq _
theorem p_laws_eqIntA3 (a0 : D_A3) (a1 : D_A3) : P_laws_eqIntA3 (a0, a1, ()) = 
  l_laws_eqIntA3_2 N a0.1 a0.2.1 a0.2.2.1 a1.1 a1.2.1 a1.2.2.1 0 := by
  rewrite [h_laws_eqIntA3, h_laws_eqIntA3_2]
  exact e_laws_eqIntA3 N a0 a1
theorem q_laws_eqIntA3_2 (m0 : Nat) (p0 : Int) (p1 : Int) (p2 : Int) (p3 : Int) (p4 : Int) (p5 : Int) (p6 : Int) : l_laws_eqIntA3_2 (m0 + 1) p0 p1 p2 p3 p4 p5 p6 = 
  bif decide (p6 < 3) then
    bif inB p6 3 then
      bif inB p6 3 then
        bif !decide ((bif decide (p6 = (0 : Int)) then p0 else (bif decide (p6 = (1 : Int)) then p1 else p2)) = (bif decide (p6 = (0 : Int)) then p3 else (bif decide (p6 = (1 : Int)) then p4 else p5))) then
          some (false, ())
        else
          l_laws_eqIntA3_2 m0 p0 p1 p2 p3 p4 p5 (IntKind.wrap .i64 (p6 + 1))
      else none
    else none
  else
    some (true, ()) := by
  rewrite [h_laws_eqIntA3_2]
  exact e_laws_eqIntA3_2 N m0 p0 p1 p2 p3 p4 p5 p6

/- 63: loop.example/g01166/laws.eqIntA3S -/
abbrev As_laws_eqIntA3S : List ATy := [.data false (.sl T_A3), .data false (.sl T_A3)]
abbrev R_laws_eqIntA3S : List (Bool × Ty) := [(false, .bool)]
abbrev M_laws_eqIntA3S : List RMode := []
abbrev Ft_laws_eqIntA3S : Type := (List D_A3) × (List D_A3) × Unit → Option (Bool × Unit)
noncomputable def X_laws_eqIntA3S (n : Nat) (F_laws_eqIntA3 : Ft_laws_eqIntA3) : Ctx := { types := TT, globals := [], con := [(96, ⟨As_laws_eqIntA3, R_laws_eqIntA3, M_laws_eqIntA3, F_laws_eqIntA3⟩)], keep := [(4, ⟨[.tmp 0, .tmp 1, .tmp 5], []⟩)], results := [.tmp 4], ntmps := 27, n := n }
noncomputable def B_laws_eqIntA3S : Code := (Try.f63.body).getD .skip
noncomputable def L_laws_eqIntA3S_4 (n : Nat) (F_laws_eqIntA3 : Ft_laws_eqIntA3) (m0 : Nat) (p0 : List D_A3) (p1 : List D_A3) (p2 : Int) : Option (denL R_laws_eqIntA3S) := loopF (X_laws_eqIntA3S n F_laws_eqIntA3) B_laws_eqIntA3S R_laws_eqIntA3S M_laws_eqIntA3S 4 [m0] [(.ver, .num 1), (.tmp 0, .val false [.imm T_A3 p0 (some 0)]), (.tmp 1, .val false [.imm T_A3 p1 (some 1)]), (.tmp 5, .val false [.int .i64 p2])]
theorem e_laws_eqIntA3S (n : Nat) (F_laws_eqIntA3 : Ft_laws_eqIntA3) (a0 : List D_A3) (a1 : List D_A3) : runF (X_laws_eqIntA3S n F_laws_eqIntA3) B_laws_eqIntA3S As_laws_eqIntA3S R_laws_eqIntA3S M_laws_eqIntA3S (a0, a1, ()) = 
  bif !decide ((List.length a0 : Int) = (List.length a1 : Int)) then
    some (false, ())
  else
    L_laws_eqIntA3S_4 n F_laws_eqIntA3 n a0 a1 0 := by kernel_rfl
theorem e_laws_eqIntA3S_4 (n : Nat) (F_laws_eqIntA3 : Ft_laws_eqIntA3) (m0 : Nat) (p0 : List D_A3) (p1 : List D_A3) (p2 : Int) : L_laws_eqIntA3S_4 n F_laws_eqIntA3 (m0 + 1) p0 p1 p2 = 
  bif decide (p2 < (List.length p0 : Int)) then
    bif inB p2 (List.length p0) then
      bif inB p2 (List.length p1) then
        Option.bind (F_laws_eqIntA3 ((nth T_A3 p0 p2), (nth T_A3 p1 p2), ())) fun r3 =>
        bif !r3.1 then
          some (false, ())
        else
          L_laws_eqIntA3S_4 n F_laws_eqIntA3 m0 p0 p1 (IntKind.wrap .i64 (p2 + 1))
      else none
    else none
  else
    some (true, ()) := by kernel_rfl
noncomputable def P_laws_eqIntA3S : Ft_laws_eqIntA3S := hid (runF (X_laws_eqIntA3S N P_laws_eqIntA3) B_laws_eqIntA3S As_laws_eqIntA3S R_laws_eqIntA3S M_laws_eqIntA3S)
theorem h_laws_eqIntA3S : P_laws_eqIntA3S = runF (X_laws_eqIntA3S N P_laws_eqIntA3) B_laws_eqIntA3S As_laws_eqIntA3S R_laws_eqIntA3S M_laws_eqIntA3S := hid_eq _
noncomputable def C_laws_eqIntA3S : Contract := ⟨As_laws_eqIntA3S, R_laws_eqIntA3S, M_laws_eqIntA3S, P_laws_eqIntA3S⟩
theorem s_laws_eqIntA3S : Sound Try.prog GG 63 C_laws_eqIntA3S := by
  unfold C_laws_eqIntA3S; rw [h_laws_eqIntA3S]
  exact sound_of_run (fn := Try.f63) hmix hstable (tyOK_of ttOK) (hglob (X_laws_eqIntA3S N P_laws_eqIntA3)) (conOK_of (X := X_laws_eqIntA3S N P_laws_eqIntA3) ⟨s_laws_eqIntA3, trivial⟩) (mconOK_of (X := X_laws_eqIntA3S N P_laws_eqIntA3) trivial) (by kernel_rfl) (by kernel_rfl) (by kernel_rfl) (by kernel_rfl) (by kernel_rfl) (by decide)
noncomputable def l_laws_eqIntA3S_4 : Nat → (List D_A3) → (List D_A3) → Int → Option (denL R_laws_eqIntA3S) := hid (fun m0 p0 p1 p2 => L_laws_eqIntA3S_4 N P_laws_eqIntA3 m0 p0 p1 p2)
theorem h_laws_eqIntA3S_4 : l_laws_eqIntA3S_4 = fun m0 p0 p1 p2 => L_laws_eqIntA3S_4 N P_laws_eqIntA3 m0 p0 p1 p2 := hid_eq _
theorem p_laws_eqIntA3S (a0 : List D_A3) (a1 : List D_A3) : P_laws_eqIntA3S (a0, a1, ()) = 
  bif !decide ((List.length a0 : Int) = (List.length a1 : Int)) then
    some (false, ())
  else
    l_laws_eqIntA3S_4 N a0 a1 0 := by
  rewrite [h_laws_eqIntA3S, h_laws_eqIntA3S_4]
  exact e_laws_eqIntA3S N P_laws_eqIntA3 a0 a1
theorem q_laws_eqIntA3S_4 (m0 : Nat) (p0 : List D_A3) (p1 : List D_A3) (p2 : Int) : l_laws_eqIntA3S_4 (m0 + 1) p0 p1 p2 = 
  bif decide (p2 < (List.length p0 : Int)) then
    bif inB p2 (List.length p0) then
      bif inB p2 (List.length p1) then
        Option.bind (P_laws_eqIntA3 ((nth T_A3 p0 p2), (nth T_A3 p1 p2), ())) fun r3 =>
        bif !r3.1 then
          some (false, ())
        else
          l_laws_eqIntA3S_4 m0 p0 p1 (IntKind.wrap .i64 (p2 + 1))
      else none
    else none
  else
    some (true, ()) := by
  rewrite [h_laws_eqIntA3S_4]
  exact e_laws_eqIntA3S_4 N P_laws_eqIntA3 m0 p0 p1 p2

/- 24: loop.example/g01166/laws.eqHeap -/
abbrev As_laws_eqHeap : List ATy := [.data true T_Heap, .data true T_Heap]
abbrev R_laws_eqHeap : List (Bool × Ty) := [(false, .bool)]
abbrev M_laws_eqHeap : List RMode := []
abbrev Ft_laws_eqHeap : Type := D_Heap × D_Heap × Unit → Option (Bool × Unit)
noncomputable def X_laws_eqHeap (n : Nat) (F_laws_eqIntA3S : Ft_laws_eqIntA3S) : Ctx := { types := TT, globals := [], con := [(63, ⟨As_laws_eqIntA3S, R_laws_eqIntA3S, M_laws_eqIntA3S, F_laws_eqIntA3S⟩)], keep := [], results := [.tmp 4], ntmps := 26, n := n }
noncomputable def B_laws_eqHeap : Code := (Try.f24.body).getD .skip
theorem e_laws_eqHeap (n : Nat) (F_laws_eqIntA3S : Ft_laws_eqIntA3S) (a0 : D_Heap) (a1 : D_Heap) : runF (X_laws_eqHeap n F_laws_eqIntA3S) B_laws_eqHeap As_laws_eqHeap R_laws_eqHeap M_laws_eqHeap (a0, a1, ()) = 
  bif !decide (a0.1 = a1.1) then
    some (false, ())
  else
    bif !decide (a0.2.1 = a1.2.1) then
      some (false, ())
    else
      bif !decide (a0.2.2.1 = a1.2.2.1) then
        some (false, ())
      else
        Option.bind (F_laws_eqIntA3S (a0.2.2.2.1, a1.2.2.2.1, ())) fun r3 =>
        bif !r3.1 then
          some (false, ())
        else
          some (true, ()) := by kernel_rfl
noncomputable def P_laws_eqHeap : Ft_laws_eqHeap := hid (runF (X_laws_eqHeap N P_laws_eqIntA3S) B_laws_eqHeap As_laws_eqHeap R_laws_eqHeap M_laws_eqHeap)
theorem h_laws_eqHeap : P_laws_eqHeap = runF (X_laws_eqHeap N P_laws_eqIntA3S) B_laws_eqHeap As_laws_eqHeap R_laws_eqHeap M_laws_eqHeap := hid_eq _
noncomputable def C_laws_eqHeap : Contract := ⟨As_laws_eqHeap, R_laws_eqHeap, M_laws_eqHeap, P_laws_eqHeap⟩
theorem s_laws_eqHeap : Sound Try.prog GG 24 C_laws_eqHeap := by
  unfold C_laws_eqHeap; rw [h_laws_eqHeap]
  exact sound_of_run (fn := Try.f24) hmix hstable (tyOK_of ttOK) (hglob (X_laws_eqHeap N P_laws_eqIntA3S)) (conOK_of (X := X_laws_eqHeap N P_laws_eqIntA3S) ⟨s_laws_eqIntA3S, trivial⟩) (mconOK_of (X := X_laws_eqHeap N P_laws_eqIntA3S) trivial) (by kernel_rfl) (by kernel_rfl) (by kernel_rfl) (by kernel_rfl) (by kernel_rfl) (by decide)
theorem p_laws_eqHeap (a0 : D_Heap) (a1 : D_Heap) : P_laws_eqHeap (a0, a1, ()) = 
  bif !decide (a0.1 = a1.1) then
    some (false, ())
  else
    bif !decide (a0.2.1 = a1.2.1) then
      some (false, ())
    else
      bif !decide (a0.2.2.1 = a1.2.2.1) then
        some (false, ())
      else
        Option.bind (P_laws_eqIntA3S (a0.2.2.2.1, a1.2.2.2.1, ())) fun r3 =>
        bif !r3.1 then
          some (false, ())
        else
          some (true, ()) := by
  rewrite [h_laws_eqHeap]
  exact e_laws_eqHeap N P_laws_eqIntA3S a0 a1

/- 19: loop.example/g01166/laws.eqBench -/
abbrev As_laws_eqBench : List ATy := [.data true T_Bench, .data true T_Bench]
abbrev R_laws_eqBench : List (Bool × Ty) := [(false, .bool)]
abbrev M_laws_eqBench : List RMode := []
abbrev Ft_laws_eqBench : Type := D_Bench × D_Bench × Unit → Option (Bool × Unit)
noncomputable def X_laws_eqBench (n : Nat) (F_laws_eqHeap : Ft_laws_eqHeap) : Ctx := { types := TT, globals := [], con := [(24, ⟨As_laws_eqHeap, R_laws_eqHeap, M_laws_eqHeap, F_laws_eqHeap⟩)], keep := [], results := [.tmp 4], ntmps := 21, n := n }
noncomputable def B_laws_eqBench : Code := (Try.f19.body).getD .skip
theorem e_laws_eqBench (n : Nat) (F_laws_eqHeap : Ft_laws_eqHeap) (a0 : D_Bench) (a1 : D_Bench) : runF (X_laws_eqBench n F_laws_eqHeap) B_laws_eqBench As_laws_eqBench R_laws_eqBench M_laws_eqBench (a0, a1, ()) = 
  Option.bind (F_laws_eqHeap (a0.1, a1.1, ())) fun r0 =>
  bif !r0.1 then
    some (false, ())
  else
    bif !decide (a0.2.1 = a1.2.1) then
      some (false, ())
    else
      bif !decide (a0.2.2.1 = a1.2.2.1) then
        some (false, ())
      else
        some (true, ()) := by kernel_rfl
noncomputable def P_laws_eqBench : Ft_laws_eqBench := hid (runF (X_laws_eqBench N P_laws_eqHeap) B_laws_eqBench As_laws_eqBench R_laws_eqBench M_laws_eqBench)
theorem h_laws_eqBench : P_laws_eqBench = runF (X_laws_eqBench N P_laws_eqHeap) B_laws_eqBench As_laws_eqBench R_laws_eqBench M_laws_eqBench := hid_eq _
noncomputable def C_laws_eqBench : Contract := ⟨As_laws_eqBench, R_laws_eqBench, M_laws_eqBench, P_laws_eqBench⟩
theorem s_laws_eqBench : Sound Try.prog GG 19 C_laws_eqBench := by
  unfold C_laws_eqBench; rw [h_laws_eqBench]
  exact sound_of_run (fn := Try.f19) hmix hstable (tyOK_of ttOK) (hglob (X_laws_eqBench N P_laws_eqHeap)) (conOK_of (X := X_laws_eqBench N P_laws_eqHeap) ⟨s_laws_eqHeap, trivial⟩) (mconOK_of (X := X_laws_eqBench N P_laws_eqHeap) trivial) (by kernel_rfl) (by kernel_rfl) (by kernel_rfl) (by kernel_rfl) (by kernel_rfl) (by decide)
theorem p_laws_eqBench (a0 : D_Bench) (a1 : D_Bench) : P_laws_eqBench (a0, a1, ()) = 
  Option.bind (P_laws_eqHeap (a0.1, a1.1, ())) fun r0 =>
  bif !r0.1 then
    some (false, ())
  else
    bif !decide (a0.2.1 = a1.2.1) then
      some (false, ())
    else
      bif !decide (a0.2.2.1 = a1.2.2.1) then
        some (false, ())
      else
        some (true, ()) := by
  rewrite [h_laws_eqBench]
  exact e_laws_eqBench N P_laws_eqHeap a0 a1

/- 3: loop.example/g01166/laws.FnExactIsBench -/
abbrev As_laws_FnExactIsBench : List ATy := [.data true T_Bench]
abbrev R_laws_FnExactIsBench : List (Bool × Ty) := [(false, .bool)]
abbrev M_laws_FnExactIsBench : List RMode := []
abbrev Ft_laws_FnExactIsBench : Type := D_Bench × Unit → Option (Bool × Unit)
noncomputable def X_laws_FnExactIsBench (n : Nat) (F_laws_szBench : Ft_laws_szBench) (F_spec_IsBench : Ft_spec_IsBench) (F_laws_toBench : Ft_laws_toBench) (F_impl_IsBench : Ft_impl_IsBench) (F_laws_eqBench : Ft_laws_eqBench) : Ctx := { types := TT, globals := [], con := [(15, ⟨As_laws_szBench, R_laws_szBench, M_laws_szBench, F_laws_szBench⟩), (16, ⟨As_spec_IsBench, R_spec_IsBench, M_spec_IsBench, F_spec_IsBench⟩), (17, ⟨As_laws_toBench, R_laws_toBench, M_laws_toBench, F_laws_toBench⟩), (18, ⟨As_impl_IsBench, R_impl_IsBench, M_impl_IsBench, F_impl_IsBench⟩), (19, ⟨As_laws_eqBench, R_laws_eqBench, M_laws_eqBench, F_laws_eqBench⟩)], keep := [], results := [.tmp 2], ntmps := 27, n := n }
noncomputable def B_laws_FnExactIsBench : Code := (Try.f3.body).getD .skip
theorem e_laws_FnExactIsBench (n : Nat) (F_laws_szBench : Ft_laws_szBench) (F_spec_IsBench : Ft_spec_IsBench) (F_laws_toBench : Ft_laws_toBench) (F_impl_IsBench : Ft_impl_IsBench) (F_laws_eqBench : Ft_laws_eqBench) (a0 : D_Bench) : runF (X_laws_FnExactIsBench n F_laws_szBench F_spec_IsBench F_laws_toBench F_impl_IsBench F_laws_eqBench) B_laws_FnExactIsBench As_laws_FnExactIsBench R_laws_FnExactIsBench M_laws_FnExactIsBench (a0, ()) = 
  Option.bind (F_laws_szBench (a0, 1048576, ())) fun r0 =>
  bif decide (r0.1 < 0) then
    some (true, ())
  else
    Option.bind (F_laws_toBench (a0, ())) fun r2 =>
    Option.bind (F_spec_IsBench (r2.1, ())) fun r3 =>
    Option.bind (F_laws_toBench (a0, ())) fun r4 =>
    Option.bind (F_impl_IsBench (r4.1, ())) fun r5 =>
    bif !(r5.1 == r3.1) then
      some (false, ())
    else
      Option.bind (F_laws_toBench (a0, ())) fun r7 =>
      Option.bind (F_laws_eqBench (r4.1, r7.1, ())) fun r8 =>
      bif !r8.1 then
        some (false, ())
      else
        some (true, ()) := by kernel_rfl
noncomputable def P_laws_FnExactIsBench : Ft_laws_FnExactIsBench := hid (runF (X_laws_FnExactIsBench N P_laws_szBench P_spec_IsBench P_laws_toBench P_impl_IsBench P_laws_eqBench) B_laws_FnExactIsBench As_laws_FnExactIsBench R_laws_FnExactIsBench M_laws_FnExactIsBench)
theorem h_laws_FnExactIsBench : P_laws_FnExactIsBench = runF (X_laws_FnExactIsBench N P_laws_szBench P_spec_IsBench P_laws_toBench P_impl_IsBench P_laws_eqBench) B_laws_FnExactIsBench As_laws_FnExactIsBench R_laws_FnExactIsBench M_laws_FnExactIsBench := hid_eq _
noncomputable def C_laws_FnExactIsBench : Contract := ⟨As_laws_FnExactIsBench, R_laws_FnExactIsBench, M_laws_FnExactIsBench, P_laws_FnExactIsBench⟩
theorem s_laws_FnExactIsBench : Sound Try.prog GG 3 C_laws_FnExactIsBench := by
  unfold C_laws_FnExactIsBench; rw [h_laws_FnExactIsBench]
  exact sound_of_run (fn := Try.f3) hmix hstable (tyOK_of ttOK) (hglob (X_laws_FnExactIsBench N P_laws_szBench P_spec_IsBench P_laws_toBench P_impl_IsBench P_laws_eqBench)) (conOK_of (X := X_laws_FnExactIsBench N P_laws_szBench P_spec_IsBench P_laws_toBench P_impl_IsBench P_laws_eqBench) ⟨s_laws_szBench, s_spec_IsBench, s_laws_toBench, s_impl_IsBench, s_laws_eqBench, trivial⟩) (mconOK_of (X := X_laws_FnExactIsBench N P_laws_szBench P_spec_IsBench P_laws_toBench P_impl_IsBench P_laws_eqBench) trivial) (by kernel_rfl) (by kernel_rfl) (by kernel_rfl) (by kernel_rfl) (by kernel_rfl) (by decide)
theorem p_laws_FnExactIsBench (a0 : D_Bench) : P_laws_FnExactIsBench (a0, ()) = 
  Option.bind (P_laws_szBench (a0, 1048576, ())) fun r0 =>
  bif decide (r0.1 < 0) then
    some (true, ())
  else
    Option.bind (P_laws_toBench (a0, ())) fun r2 =>
    Option.bind (P_spec_IsBench (r2.1, ())) fun r3 =>
    Option.bind (P_laws_toBench (a0, ())) fun r4 =>
    Option.bind (P_impl_IsBench (r4.1, ())) fun r5 =>
    bif !(r5.1 == r3.1) then
      some (false, ())
    else
      Option.bind (P_laws_toBench (a0, ())) fun r7 =>
      Option.bind (P_laws_eqBench (r4.1, r7.1, ())) fun r8 =>
      bif !r8.1 then
        some (false, ())
      else
        some (true, ()) := by
  rewrite [h_laws_FnExactIsBench]
  exact e_laws_FnExactIsBench N P_laws_szBench P_spec_IsBench P_laws_toBench P_impl_IsBench P_laws_eqBench a0

/- 65: loop.example/g01166/spec.l2Long -/
abbrev As_spec_l2Long : List ATy := [.data true T_Heap, .data false (.int .i64)]
abbrev R_spec_l2Long : List (Bool × Ty) := [(false, (.int .i64))]
abbrev M_spec_l2Long : List RMode := []
abbrev Ft_spec_l2Long : Type := D_Heap × Int × Unit → Option (Int × Unit)
noncomputable def X_spec_l2Long (n : Nat) : Ctx := { types := TT, globals := [], con := [], keep := [], results := [.tmp 4], ntmps := 14, n := n }
noncomputable def B_spec_l2Long : Code := (Try.f65.body).getD .skip
theorem e_spec_l2Long (n : Nat) (a0 : D_Heap) (a1 : Int) : runF (X_spec_l2Long n) B_spec_l2Long As_spec_l2Long R_spec_l2Long M_spec_l2Long (a0, a1, ()) = 
  bif inB a1 3 then
    some ((bif decide (a1 = (0 : Int)) then a0.1 else (bif decide (a1 = (1 : Int)) then a0.2.1 else a0.2.2.1)), ())
  else none := by kernel_rfl
noncomputable def P_spec_l2Long : Ft_spec_l2Long := hid (runF (X_spec_l2Long N) B_spec_l2Long As_spec_l2Long R_spec_l2Long M_spec_l2Long)
theorem h_spec_l2Long : P_spec_l2Long = runF (X_spec_l2Long N) B_spec_l2Long As_spec_l2Long R_spec_l2Long M_spec_l2Long := hid_eq _
noncomputable def C_spec_l2Long : Contract := ⟨As_spec_l2Long, R_spec_l2Long, M_spec_l2Long, P_spec_l2Long⟩
theorem s_spec_l2Long : Sound Try.prog GG 65 C_spec_l2Long := by
  unfold C_spec_l2Long; rw [h_spec_l2Long]
  exact sound_of_run (fn := Try.f65) hmix hstable (tyOK_of ttOK) (hglob (X_spec_l2Long N)) (conOK_of (X := X_spec_l2Long N) trivial) (mconOK_of (X := X_spec_l2Long N) trivial) (by kernel_rfl) (by kernel_rfl) (by kernel_rfl) (by kernel_rfl) (by kernel_rfl) (by decide)
theorem p_spec_l2Long (a0 : D_Heap) (a1 : Int) : P_spec_l2Long (a0, a1, ()) = 
  bif inB a1 3 then
    some ((bif decide (a1 = (0 : Int)) then a0.1 else (bif decide (a1 = (1 : Int)) then a0.2.1 else a0.2.2.1)), ())
  else none := by
  rewrite [h_spec_l2Long]
  exact e_spec_l2Long N a0 a1

/- 58: loop.example/g01166/spec.l11Cut -/
abbrev As_spec_l11Cut : List ATy := [.data true T_Heap, .data false (.int .i64), .data false (.int .i64)]
abbrev R_spec_l11Cut : List (Bool × Ty) := [(false, .bool)]
abbrev M_spec_l11Cut : List RMode := []
abbrev Ft_spec_l11Cut : Type := D_Heap × Int × Int × Unit → Option (Bool × Unit)
noncomputable def X_spec_l11Cut (n : Nat) (F_spec_l2Heap : Ft_spec_l2Heap) (F_spec_l2Long : Ft_spec_l2Long) (F_spec_l1In : Ft_spec_l1In) : Ctx := { types := TT, globals := [], con := [(64, ⟨As_spec_l2Heap, R_spec_l2Heap, M_spec_l2Heap, F_spec_l2Heap⟩), (65, ⟨As_spec_l2Long, R_spec_l2Long, M_spec_l2Long, F_spec_l2Long⟩), (80, ⟨As_spec_l1In, R_spec_l1In, M_spec_l1In, F_spec_l1In⟩)], keep := [], results := [.tmp 6], ntmps := 21, n := n }
noncomputable def B_spec_l11Cut : Code := (Try.f58.body).getD .skip
theorem e_spec_l11Cut (n : Nat) (F_spec_l2Heap : Ft_spec_l2Heap) (F_spec_l2Long : Ft_spec_l2Long) (F_spec_l1In : Ft_spec_l1In) (a0 : D_Heap) (a1 : Int) (a2 : Int) : runF (X_spec_l11Cut n F_spec_l2Heap F_spec_l2Long F_spec_l1In) B_spec_l11Cut As_spec_l11Cut R_spec_l11Cut M_spec_l11Cut (a0, a1, a2, ()) = 
  Option.bind (F_spec_l2Heap (a0, ())) fun r0 =>
  bif r0.1 then
    Option.bind (F_spec_l1In (a1, 0, 2, ())) fun r2 =>
    bif r2.1 then
      Option.bind (F_spec_l2Long (a0, a1, ())) fun r4 =>
      Option.bind (F_spec_l1In (a2, 1, (IntKind.wrap .i64 (r4.1 - 1)), ())) fun r5 =>
      some (r5.1, ())
    else
      some (false, ())
  else
    some (false, ()) := by kernel_rfl
noncomputable def P_spec_l11Cut : Ft_spec_l11Cut := hid (runF (X_spec_l11Cut N P_spec_l2Heap P_spec_l2Long P_spec_l1In) B_spec_l11Cut As_spec_l11Cut R_spec_l11Cut M_spec_l11Cut)
theorem h_spec_l11Cut : P_spec_l11Cut = runF (X_spec_l11Cut N P_spec_l2Heap P_spec_l2Long P_spec_l1In) B_spec_l11Cut As_spec_l11Cut R_spec_l11Cut M_spec_l11Cut := hid_eq _
noncomputable def C_spec_l11Cut : Contract := ⟨As_spec_l11Cut, R_spec_l11Cut, M_spec_l11Cut, P_spec_l11Cut⟩
theorem s_spec_l11Cut : Sound Try.prog GG 58 C_spec_l11Cut := by
  unfold C_spec_l11Cut; rw [h_spec_l11Cut]
  exact sound_of_run (fn := Try.f58) hmix hstable (tyOK_of ttOK) (hglob (X_spec_l11Cut N P_spec_l2Heap P_spec_l2Long P_spec_l1In)) (conOK_of (X := X_spec_l11Cut N P_spec_l2Heap P_spec_l2Long P_spec_l1In) ⟨s_spec_l2Heap, s_spec_l2Long, s_spec_l1In, trivial⟩) (mconOK_of (X := X_spec_l11Cut N P_spec_l2Heap P_spec_l2Long P_spec_l1In) trivial) (by kernel_rfl) (by kernel_rfl) (by kernel_rfl) (by kernel_rfl) (by kernel_rfl) (by decide)
theorem p_spec_l11Cut (a0 : D_Heap) (a1 : Int) (a2 : Int) : P_spec_l11Cut (a0, a1, a2, ()) = 
  Option.bind (P_spec_l2Heap (a0, ())) fun r0 =>
  bif r0.1 then
    Option.bind (P_spec_l1In (a1, 0, 2, ())) fun r2 =>
    bif r2.1 then
      Option.bind (P_spec_l2Long (a0, a1, ())) fun r4 =>
      Option.bind (P_spec_l1In (a2, 1, (IntKind.wrap .i64 (r4.1 - 1)), ())) fun r5 =>
      some (r5.1, ())
    else
      some (false, ())
  else
    some (false, ()) := by
  rewrite [h_spec_l11Cut]
  exact e_spec_l11Cut N P_spec_l2Heap P_spec_l2Long P_spec_l1In a0 a1 a2

/- 90: loop.example/g01166/spec.l2Has -/
abbrev As_spec_l2Has : List ATy := [.data true T_Heap, .data true T_A3]
abbrev R_spec_l2Has : List (Bool × Ty) := [(false, .bool)]
abbrev M_spec_l2Has : List RMode := []
abbrev Ft_spec_l2Has : Type := D_Heap × D_A3 × Unit → Option (Bool × Unit)
noncomputable def X_spec_l2Has (n : Nat) : Ctx := { types := TT, globals := [], con := [], keep := [(2, ⟨[.box 2, .box 3, .tmp 2, .tmp 3, .tmp 5], []⟩)], results := [.tmp 4], ntmps := 20, n := n }
noncomputable def B_spec_l2Has : Code := (Try.f90.body).getD .skip
noncomputable def L_spec_l2Has_2 (n : Nat) (m0 : Nat) (p0 : Int) (p1 : Int) (p2 : Int) (p3 : List D_A3) (p4 : Int) (p5 : Int) (p6 : Int) (p7 : Int) : Option (denL R_spec_l2Has) := loopF (X_spec_l2Has n) B_spec_l2Has R_spec_l2Has M_spec_l2Has 2 [m0] [(.ver, .num 1), (.box 2, .box 0 false [.int .i64 p0, .int .i64 p1, .int .i64 p2, .imm T_A3 p3 (some 3)]), (.box 3, .box 0 false [.int .i64 p4, .int .i64 p5, .int .i64 p6]), (.tmp 2, .val false [.addr 2 0 0]), (.tmp 3, .val false [.addr 3 0 0]), (.tmp 5, .val false [.int .i64 p7])]
theorem e_spec_l2Has (n : Nat) (a0 : D_Heap) (a1 : D_A3) : runF (X_spec_l2Has n) B_spec_l2Has As_spec_l2Has R_spec_l2Has M_spec_l2Has (a0, a1, ()) = 
  L_spec_l2Has_2 n n a0.1 a0.2.1 a0.2.2.1 a0.2.2.2.1 a1.1 a1.2.1 a1.2.2.1 0 := by kernel_rfl
theorem e_spec_l2Has_2 (n : Nat) (m0 : Nat) (p0 : Int) (p1 : Int) (p2 : Int) (p3 : List D_A3) (p4 : Int) (p5 : Int) (p6 : Int) (p7 : Int) : L_spec_l2Has_2 n (m0 + 1) p0 p1 p2 p3 p4 p5 p6 p7 = 
  bif decide (p7 < (List.length p3 : Int)) then
    bif inB p7 (List.length p3) then
      bif (decide (((nth T_A3 p3 p7)).1 = p4) && (decide ((((nth T_A3 p3 p7)).2).1 = p5) && (decide (((((nth T_A3 p3 p7)).2).2).1 = p6) && true))) then
        some (true, ())
      else
        L_spec_l2Has_2 n m0 p0 p1 p2 p3 p4 p5 p6 (IntKind.wrap .i64 (p7 + 1))
    else none
  else
    some (false, ()) := by kernel_rfl
noncomputable def P_spec_l2Has : Ft_spec_l2Has := hid (runF (X_spec_l2Has N) B_spec_l2Has As_spec_l2Has R_spec_l2Has M_spec_l2Has)
theorem h_spec_l2Has : P_spec_l2Has = runF (X_spec_l2Has N) B_spec_l2Has As_spec_l2Has R_spec_l2Has M_spec_l2Has := hid_eq _
noncomputable def C_spec_l2Has : Contract := ⟨As_spec_l2Has, R_spec_l2Has, M_spec_l2Has, P_spec_l2Has⟩
theorem s_spec_l2Has : Sound Try.prog GG 90 C_spec_l2Has := by
  unfold C_spec_l2Has; rw [h_spec_l2Has]
  exact sound_of_run (fn := Try.f90) hmix hstable (tyOK_of ttOK) (hglob (X_spec_l2Has N)) (conOK_of (X := X_spec_l2Has N) trivial) (mconOK_of (X := X_spec_l2Has N) trivial) (by kernel_rfl) (by kernel_rfl) (by kernel_rfl) (by kernel_rfl) (by kernel_rfl) (by decide)
noncomputable def l_spec_l2Has_2 : Nat → Int → Int → Int → (List D_A3) → Int → Int → Int → Int → Option (denL R_spec_l2Has) := hid (fun m0 p0 p1 p2 p3 p4 p5 p6 p7 => L_spec_l2Has_2 N m0 p0 p1 p2 p3 p4 p5 p6 p7)
theorem h_spec_l2Has_2 : l_spec_l2Has_2 = fun m0 p0 p1 p2 p3 p4 p5 p6 p7 => L_spec_l2Has_2 N m0 p0 p1 p2 p3 p4 p5 p6 p7 := hid_eq _
theorem p_spec_l2Has (a0 : D_Heap) (a1 : D_A3) : P_spec_l2Has (a0, a1, ()) = 
  l_spec_l2Has_2 N a0.1 a0.2.1 a0.2.2.1 a0.2.2.2.1 a1.1 a1.2.1 a1.2.2.1 0 := by
  rewrite [h_spec_l2Has, h_spec_l2Has_2]
  exact e_spec_l2Has N a0 a1
theorem q_spec_l2Has_2 (m0 : Nat) (p0 : Int) (p1 : Int) (p2 : Int) (p3 : List D_A3) (p4 : Int) (p5 : Int) (p6 : Int) (p7 : Int) : l_spec_l2Has_2 (m0 + 1) p0 p1 p2 p3 p4 p5 p6 p7 = 
  bif decide (p7 < (List.length p3 : Int)) then
    bif inB p7 (List.length p3) then
      bif (decide (((nth T_A3 p3 p7)).1 = p4) && (decide ((((nth T_A3 p3 p7)).2).1 = p5) && (decide (((((nth T_A3 p3 p7)).2).2).1 = p6) && true))) then
        some (true, ())
      else
        l_spec_l2Has_2 m0 p0 p1 p2 p3 p4 p5 p6 (IntKind.wrap .i64 (p7 + 1))
    else none
  else
    some (false, ()) := by
  rewrite [h_spec_l2Has_2]
  exact e_spec_l2Has_2 N m0 p0 p1 p2 p3 p4 p5 p6 p7

/- 95: loop.example/g01166/spec.l6Beside -/
abbrev As_spec_l6Beside : List ATy := [.data true T_A3, .data true T_A3]
abbrev R_spec_l6Beside : List (Bool × Ty) := [(true, T_A3)]
abbrev M_spec_l6Beside : List RMode := []
abbrev Ft_spec_l6Beside : Type := D_A3 × D_A3 × Unit → Option (D_A3 × Unit)
noncomputable def X_spec_l6Beside (n : Nat) : Ctx := { types := TT, globals := [], con := [], keep := [], results := [.cell 4 66], ntmps := 21, n := n }
noncomputable def B_spec_l6Beside : Code := (Try.f95.body).getD .skip
theorem e_spec_l6Beside (n : Nat) (a0 : D_A3) (a1 : D_A3) : runF (X_spec_l6Beside n) B_spec_l6Beside As_spec_l6Beside R_spec_l6Beside M_spec_l6Beside (a0, a1, ()) = 
  some (((IntKind.wrap .i64 (a0.1 + a1.1)), ((IntKind.wrap .i64 (a0.2.1 + a1.2.1)), ((IntKind.wrap .i64 (a0.2.2.1 + a1.2.2.1)), ()))), ()) := by kernel_rfl
noncomputable def P_spec_l6Beside : Ft_spec_l6Beside := hid (runF (X_spec_l6Beside N) B_spec_l6Beside As_spec_l6Beside R_spec_l6Beside M_spec_l6Beside)
theorem h_spec_l6Beside : P_spec_l6Beside = runF (X_spec_l6Beside N) B_spec_l6Beside As_spec_l6Beside R_spec_l6Beside M_spec_l6Beside := hid_eq _
noncomputable def C_spec_l6Beside : Contract := ⟨As_spec_l6Beside, R_spec_l6Beside, M_spec_l6Beside, P_spec_l6Beside⟩
theorem s_spec_l6Beside : Sound Try.prog GG 95 C_spec_l6Beside := by
  unfold C_spec_l6Beside; rw [h_spec_l6Beside]
  exact sound_of_run (fn := Try.f95) hmix hstable (tyOK_of ttOK) (hglob (X_spec_l6Beside N)) (conOK_of (X := X_spec_l6Beside N) trivial) (mconOK_of (X := X_spec_l6Beside N) trivial) (by kernel_rfl) (by kernel_rfl) (by kernel_rfl) (by kernel_rfl) (by kernel_rfl) (by decide)
theorem p_spec_l6Beside (a0 : D_A3) (a1 : D_A3) : P_spec_l6Beside (a0, a1, ()) = 
  some (((IntKind.wrap .i64 (a0.1 + a1.1)), ((IntKind.wrap .i64 (a0.2.1 + a1.2.1)), ((IntKind.wrap .i64 (a0.2.2.1 + a1.2.2.1)), ()))), ()) := by
  rewrite [h_spec_l6Beside]
  exact e_spec_l6Beside N a0 a1

/- 59: loop.example/g01166/spec.l11Faces -/
abbrev As_spec_l11Faces : List ATy := [.data true T_Heap, .data false (.int .i64), .data false (.int .i64)]
abbrev R_spec_l11Faces : List (Bool × Ty) := [(false, (.int .i64))]
abbrev M_spec_l11Faces : List RMode := []
abbrev Ft_spec_l11Faces : Type := D_Heap × Int × Int × Unit → Option (Int × Unit)
noncomputable def X_spec_l11Faces (n : Nat) (F_spec_l2Has : Ft_spec_l2Has) (F_spec_l6Beside : Ft_spec_l6Beside) : Ctx := { types := TT, globals := [], con := [(90, ⟨As_spec_l2Has, R_spec_l2Has, M_spec_l2Has, F_spec_l2Has⟩), (95, ⟨As_spec_l6Beside, R_spec_l6Beside, M_spec_l6Beside, F_spec_l6Beside⟩)], keep := [(4, ⟨[.box 3, .box 8, .tmp 1, .tmp 2, .tmp 3, .tmp 7, .tmp 8, .tmp 9], []⟩)], results := [.tmp 6], ntmps := 44, n := n }
noncomputable def B_spec_l11Faces : Code := (Try.f59.body).getD .skip
noncomputable def L_spec_l11Faces_4 (n : Nat) (F_spec_l2Has : Ft_spec_l2Has) (F_spec_l6Beside : Ft_spec_l6Beside) (m0 : Nat) (p0 : Int) (p1 : Int) (p2 : Int) (p3 : List D_A3) (p4 : Int) (p5 : Int) (p6 : Int) (p7 : Int) (p8 : Int) (p9 : Int) (p10 : Int) : Option (denL R_spec_l11Faces) := loopF (X_spec_l11Faces n F_spec_l2Has F_spec_l6Beside) B_spec_l11Faces R_spec_l11Faces M_spec_l11Faces 4 [m0] [(.ver, .num 1), (.box 3, .box 0 false [.int .i64 p0, .int .i64 p1, .int .i64 p2, .imm T_A3 p3 (some 3)]), (.box 8, .box 0 false [.int .i64 p4, .int .i64 p5, .int .i64 p6]), (.tmp 1, .val false [.int .i64 p7]), (.tmp 2, .val false [.int .i64 p8]), (.tmp 3, .val false [.addr 3 0 0]), (.tmp 7, .val false [.int .i64 p9]), (.tmp 8, .val false [.addr 8 0 0]), (.tmp 9, .val false [.int .i64 p10])]
theorem e_spec_l11Faces (n : Nat) (F_spec_l2Has : Ft_spec_l2Has) (F_spec_l6Beside : Ft_spec_l6Beside) (a0 : D_Heap) (a1 : Int) (a2 : Int) : runF (X_spec_l11Faces n F_spec_l2Has F_spec_l6Beside) B_spec_l11Faces As_spec_l11Faces R_spec_l11Faces M_spec_l11Faces (a0, a1, a2, ()) = 
  bif inB a1 3 then
    L_spec_l11Faces_4 n F_spec_l2Has F_spec_l6Beside n a0.1 a0.2.1 a0.2.2.1 a0.2.2.2.1 (bif decide (a1 = (0 : Int)) then 1 else 0) (bif decide (a1 = (1 : Int)) then 1 else 0) (bif decide (a1 = (2 : Int)) then 1 else 0) a1 a2 0 0
  else none := by kernel_rfl
theorem e_spec_l11Faces_4 (n : Nat) (F_spec_l2Has : Ft_spec_l2Has) (F_spec_l6Beside : Ft_spec_l6Beside) (m0 : Nat) (p0 : Int) (p1 : Int) (p2 : Int) (p3 : List D_A3) (p4 : Int) (p5 : Int) (p6 : Int) (p7 : Int) (p8 : Int) (p9 : Int) (p10 : Int) : L_spec_l11Faces_4 n F_spec_l2Has F_spec_l6Beside (m0 + 1) p0 p1 p2 p3 p4 p5 p6 p7 p8 p9 p10 = 
  bif decide (p10 < (List.length p3 : Int)) then
    bif inB p10 (List.length p3) then
      bif inB p7 3 then
        bif decide ((bif decide (p7 = (0 : Int)) then ((nth T_A3 p3 p10)).1 else (bif decide (p7 = (1 : Int)) then (((nth T_A3 p3 p10)).2).1 else ((((nth T_A3 p3 p10)).2).2).1)) = (IntKind.wrap .i64 (p8 - 1))) then
          bif inB p10 (List.length p3) then
            Option.bind (F_spec_l6Beside ((nth T_A3 p3 p10), (p4, (p5, (p6, ()))), ())) fun r5 =>
            Option.bind (F_spec_l2Has ((p0, (p1, (p2, (p3, ())))), r5.1, ())) fun r6 =>
            bif r6.1 then
              L_spec_l11Faces_4 n F_spec_l2Has F_spec_l6Beside m0 p0 p1 p2 p3 p4 p5 p6 p7 p8 (IntKind.wrap .i64 (p9 + 1)) (IntKind.wrap .i64 (p10 + 1))
            else
              L_spec_l11Faces_4 n F_spec_l2Has F_spec_l6Beside m0 p0 p1 p2 p3 p4 p5 p6 p7 p8 p9 (IntKind.wrap .i64 (p10 + 1))
          else none
        else
          L_spec_l11Faces_4 n F_spec_l2Has F_spec_l6Beside m0 p0 p1 p2 p3 p4 p5 p6 p7 p8 p9 (IntKind.wrap .i64 (p10 + 1))
      else none
    else none
  else
    some (p9, ()) := by kernel_rfl
noncomputable def P_spec_l11Faces : Ft_spec_l11Faces := hid (runF (X_spec_l11Faces N P_spec_l2Has P_spec_l6Beside) B_spec_l11Faces As_spec_l11Faces R_spec_l11Faces M_spec_l11Faces)
theorem h_spec_l11Faces : P_spec_l11Faces = runF (X_spec_l11Faces N P_spec_l2Has P_spec_l6Beside) B_spec_l11Faces As_spec_l11Faces R_spec_l11Faces M_spec_l11Faces := hid_eq _
noncomputable def C_spec_l11Faces : Contract := ⟨As_spec_l11Faces, R_spec_l11Faces, M_spec_l11Faces, P_spec_l11Faces⟩
theorem s_spec_l11Faces : Sound Try.prog GG 59 C_spec_l11Faces := by
  unfold C_spec_l11Faces; rw [h_spec_l11Faces]
  exact sound_of_run (fn := Try.f59) hmix hstable (tyOK_of ttOK) (hglob (X_spec_l11Faces N P_spec_l2Has P_spec_l6Beside)) (conOK_of (X := X_spec_l11Faces N P_spec_l2Has P_spec_l6Beside) ⟨s_spec_l2Has, s_spec_l6Beside, trivial⟩) (mconOK_of (X := X_spec_l11Faces N P_spec_l2Has P_spec_l6Beside) trivial) (by kernel_rfl) (by kernel_rfl) (by kernel_rfl) (by kernel_rfl) (by kernel_rfl) (by decide)
noncomputable def l_spec_l11Faces_4 : Nat → Int → Int → Int → (List D_A3) → Int → Int → Int → Int → Int → Int → Int → Option (denL R_spec_l11Faces) := hid (fun m0 p0 p1 p2 p3 p4 p5 p6 p7 p8 p9 p10 => L_spec_l11Faces_4 N P_spec_l2Has P_spec_l6Beside m0 p0 p1 p2 p3 p4 p5 p6 p7 p8 p9 p10)
theorem h_spec_l11Faces_4 : l_spec_l11Faces_4 = fun m0 p0 p1 p2 p3 p4 p5 p6 p7 p8 p9 p10 => L_spec_l11Faces_4 N P_spec_l2Has P_spec_l6Beside m0 p0 p1 p2 p3 p4 p5 p6 p7 p8 p9 p10 := hid_eq _
theorem p_spec_l11Faces (a0 : D_Heap) (a1 : Int) (a2 : Int) : P_spec_l11Faces (a0, a1, a2, ()) = 
  bif inB a1 3 then
    l_spec_l11Faces_4 N a0.1 a0.2.1 a0.2.2.1 a0.2.2.2.1 (bif decide (a1 = (0 : Int)) then 1 else 0) (bif decide (a1 = (1 : Int)) then 1 else 0) (bif decide (a1 = (2 : Int)) then 1 else 0) a1 a2 0 0
  else none := by
  rewrite [h_spec_l11Faces, h_spec_l11Faces_4]
  exact e_spec_l11Faces N P_spec_l2Has P_spec_l6Beside a0 a1 a2
theorem q_spec_l11Faces_4 (m0 : Nat) (p0 : Int) (p1 : Int) (p2 : Int) (p3 : List D_A3) (p4 : Int) (p5 : Int) (p6 : Int) (p7 : Int) (p8 : Int) (p9 : Int) (p10 : Int) : l_spec_l11Faces_4 (m0 + 1) p0 p1 p2 p3 p4 p5 p6 p7 p8 p9 p10 = 
  bif decide (p10 < (List.length p3 : Int)) then
    bif inB p10 (List.length p3) then
      bif inB p7 3 then
        bif decide ((bif decide (p7 = (0 : Int)) then ((nth T_A3 p3 p10)).1 else (bif decide (p7 = (1 : Int)) then (((nth T_A3 p3 p10)).2).1 else ((((nth T_A3 p3 p10)).2).2).1)) = (IntKind.wrap .i64 (p8 - 1))) then
          bif inB p10 (List.length p3) then
            Option.bind (P_spec_l6Beside ((nth T_A3 p3 p10), (p4, (p5, (p6, ()))), ())) fun r5 =>
            Option.bind (P_spec_l2Has ((p0, (p1, (p2, (p3, ())))), r5.1, ())) fun r6 =>
            bif r6.1 then
              l_spec_l11Faces_4 m0 p0 p1 p2 p3 p4 p5 p6 p7 p8 (IntKind.wrap .i64 (p9 + 1)) (IntKind.wrap .i64 (p10 + 1))
            else
              l_spec_l11Faces_4 m0 p0 p1 p2 p3 p4 p5 p6 p7 p8 p9 (IntKind.wrap .i64 (p10 + 1))
          else none
        else
          l_spec_l11Faces_4 m0 p0 p1 p2 p3 p4 p5 p6 p7 p8 p9 (IntKind.wrap .i64 (p10 + 1))
      else none
    else none
  else
    some (p9, ()) := by
  rewrite [h_spec_l11Faces_4]
  exact e_spec_l11Faces_4 N P_spec_l2Has P_spec_l6Beside m0 p0 p1 p2 p3 p4 p5 p6 p7 p8 p9 p10

/- 21: loop.example/g01166/spec.CutFaces -/
abbrev As_spec_CutFaces : List ATy := [.data true T_Heap, .data false (.int .i64), .data false (.int .i64)]
abbrev R_spec_CutFaces : List (Bool × Ty) := [(false, (.int .i64)), (false, .bool)]
abbrev M_spec_CutFaces : List RMode := []
abbrev Ft_spec_CutFaces : Type := D_Heap × Int × Int × Unit → Option (Int × Bool × Unit)
noncomputable def X_spec_CutFaces (n : Nat) (F_spec_l11Cut : Ft_spec_l11Cut) (F_spec_l11Faces : Ft_spec_l11Faces) : Ctx := { types := TT, globals := [], con := [(58, ⟨As_spec_l11Cut, R_spec_l11Cut, M_spec_l11Cut, F_spec_l11Cut⟩), (59, ⟨As_spec_l11Faces, R_spec_l11Faces, M_spec_l11Faces, F_spec_l11Faces⟩)], keep := [], results := [.tmp 6, .tmp 7], ntmps := 17, n := n }
noncomputable def B_spec_CutFaces : Code := (Try.f21.body).getD .skip
theorem e_spec_CutFaces (n : Nat) (F_spec_l11Cut : Ft_spec_l11Cut) (F_spec_l11Faces : Ft_spec_l11Faces) (a0 : D_Heap) (a1 : Int) (a2 : Int) : runF (X_spec_CutFaces n F_spec_l11Cut F_spec_l11Faces) B_spec_CutFaces As_spec_CutFaces R_spec_CutFaces M_spec_CutFaces (a0, a1, a2, ()) = 
  Option.bind (F_spec_l11Cut (a0, a1, a2, ())) fun r0 =>
  bif !r0.1 then
    some (0, false, ())
  else
    Option.bind (F_spec_l11Faces (a0, a1, a2, ())) fun r2 =>
    some (r2.1, true, ()) := by kernel_rfl
noncomputable def P_spec_CutFaces : Ft_spec_CutFaces := hid (runF (X_spec_CutFaces N P_spec_l11Cut P_spec_l11Faces) B_spec_CutFaces As_spec_CutFaces R_spec_CutFaces M_spec_CutFaces)
theorem h_spec_CutFaces : P_spec_CutFaces = runF (X_spec_CutFaces N P_spec_l11Cut P_spec_l11Faces) B_spec_CutFaces As_spec_CutFaces R_spec_CutFaces M_spec_CutFaces := hid_eq _
noncomputable def C_spec_CutFaces : Contract := ⟨As_spec_CutFaces, R_spec_CutFaces, M_spec_CutFaces, P_spec_CutFaces⟩
theorem s_spec_CutFaces : Sound Try.prog GG 21 C_spec_CutFaces := by
  unfold C_spec_CutFaces; rw [h_spec_CutFaces]
  exact sound_of_run (fn := Try.f21) hmix hstable (tyOK_of ttOK) (hglob (X_spec_CutFaces N P_spec_l11Cut P_spec_l11Faces)) (conOK_of (X := X_spec_CutFaces N P_spec_l11Cut P_spec_l11Faces) ⟨s_spec_l11Cut, s_spec_l11Faces, trivial⟩) (mconOK_of (X := X_spec_CutFaces N P_spec_l11Cut P_spec_l11Faces) trivial) (by kernel_rfl) (by kernel_rfl) (by kernel_rfl) (by kernel_rfl) (by kernel_rfl) (by decide)
theorem p_spec_CutFaces (a0 : D_Heap) (a1 : Int) (a2 : Int) : P_spec_CutFaces (a0, a1, a2, ()) = 
  Option.bind (P_spec_l11Cut (a0, a1, a2, ())) fun r0 =>
  bif !r0.1 then
    some (0, false, ())
  else
    Option.bind (P_spec_l11Faces (a0, a1, a2, ())) fun r2 =>
    some (r2.1, true, ()) := by
  rewrite [h_spec_CutFaces]
  exact e_spec_CutFaces N P_spec_l11Cut P_spec_l11Faces a0 a1 a2

/- 83: loop.example/g01166/impl.isDirection -/
abbrev As_impl_isDirection : List ATy := [.data false (.int .i64)]
abbrev R_impl_isDirection : List (Bool × Ty) := [(false, .bool)]
abbrev M_impl_isDirection : List RMode := []
abbrev Ft_impl_isDirection : Type := Int × Unit → Option (Bool × Unit)
noncomputable def X_impl_isDirection (n : Nat) (F_impl_within : Ft_impl_within) : Ctx := { types := TT, globals := [], con := [(56, ⟨As_impl_within, R_impl_within, M_impl_within, F_impl_within⟩)], keep := [], results := [.tmp 2], ntmps := 5, n := n }
noncomputable def B_impl_isDirection : Code := (Try.f83.body).getD .skip
theorem e_impl_isDirection (n : Nat) (F_impl_within : Ft_impl_within) (a0 : Int) : runF (X_impl_isDirection n F_impl_within) B_impl_isDirection As_impl_isDirection R_impl_isDirection M_impl_isDirection (a0, ()) = 
  Option.bind (F_impl_within (a0, 0, 2, ())) fun r0 =>
  some (r0.1, ()) := by kernel_rfl
noncomputable def P_impl_isDirection : Ft_impl_isDirection := hid (runF (X_impl_isDirection N P_impl_within) B_impl_isDirection As_impl_isDirection R_impl_isDirection M_impl_isDirection)
theorem h_impl_isDirection : P_impl_isDirection = runF (X_impl_isDirection N P_impl_within) B_impl_isDirection As_impl_isDirection R_impl_isDirection M_impl_isDirection := hid_eq _
noncomputable def C_impl_isDirection : Contract := ⟨As_impl_isDirection, R_impl_isDirection, M_impl_isDirection, P_impl_isDirection⟩
theorem s_impl_isDirection : Sound Try.prog GG 83 C_impl_isDirection := by
  unfold C_impl_isDirection; rw [h_impl_isDirection]
  exact sound_of_run (fn := Try.f83) hmix hstable (tyOK_of ttOK) (hglob (X_impl_isDirection N P_impl_within)) (conOK_of (X := X_impl_isDirection N P_impl_within) ⟨s_impl_within, trivial⟩) (mconOK_of (X := X_impl_isDirection N P_impl_within) trivial) (by kernel_rfl) (by kernel_rfl) (by kernel_rfl) (by kernel_rfl) (by kernel_rfl) (by decide)
theorem p_impl_isDirection (a0 : Int) : P_impl_isDirection (a0, ()) = 
  Option.bind (P_impl_within (a0, 0, 2, ())) fun r0 =>
  some (r0.1, ()) := by
  rewrite [h_impl_isDirection]
  exact e_impl_isDirection N P_impl_within a0

/- 61: (loop.example/g01166/impl.Heap).isCut -/
abbrev As_Heap_isCut : List ATy := [.data true T_Heap, .data false (.int .i64), .data false (.int .i64)]
abbrev R_Heap_isCut : List (Bool × Ty) := [(false, .bool)]
abbrev M_Heap_isCut : List RMode := []
abbrev Ft_Heap_isCut : Type := D_Heap × Int × Int × Unit → Option (Bool × Unit)
noncomputable def X_Heap_isCut (n : Nat) (F_impl_within : Ft_impl_within) (F_Heap_box : Ft_Heap_box) (F_impl_isDirection : Ft_impl_isDirection) : Ctx := { types := TT, globals := [], con := [(56, ⟨As_impl_within, R_impl_within, M_impl_within, F_impl_within⟩), (66, ⟨As_Heap_box, R_Heap_box, M_Heap_box, F_Heap_box⟩), (83, ⟨As_impl_isDirection, R_impl_isDirection, M_impl_isDirection, F_impl_isDirection⟩)], keep := [], results := [.tmp 6], ntmps := 18, n := n }
noncomputable def B_Heap_isCut : Code := (Try.f61.body).getD .skip
theorem e_Heap_isCut (n : Nat) (F_impl_within : Ft_impl_within) (F_Heap_box : Ft_Heap_box) (F_impl_isDirection : Ft_impl_isDirection) (a0 : D_Heap) (a1 : Int) (a2 : Int) : runF (X_Heap_isCut n F_impl_within F_Heap_box F_impl_isDirection) B_Heap_isCut As_Heap_isCut R_Heap_isCut M_Heap_isCut (a0, a1, a2, ()) = 
  Option.bind (F_impl_isDirection (a1, ())) fun r0 =>
  bif r0.1 then
    Option.bind (F_Heap_box (a0, ())) fun r2 =>
    bif inB a1 3 then
      Option.bind (F_impl_within (a2, 1, (IntKind.wrap .i64 ((bif decide (a1 = (0 : Int)) then r2.1.1 else (bif decide (a1 = (1 : Int)) then r2.1.2.1 else r2.1.2.2.1)) - 1)), ())) fun r4 =>
      some (r4.1, ())
    else none
  else
    some (false, ()) := by kernel_rfl
noncomputable def P_Heap_isCut : Ft_Heap_isCut := hid (runF (X_Heap_isCut N P_impl_within P_Heap_box P_impl_isDirection) B_Heap_isCut As_Heap_isCut R_Heap_isCut M_Heap_isCut)
theorem h_Heap_isCut : P_Heap_isCut = runF (X_Heap_isCut N P_impl_within P_Heap_box P_impl_isDirection) B_Heap_isCut As_Heap_isCut R_Heap_isCut M_Heap_isCut := hid_eq _
noncomputable def C_Heap_isCut : Contract := ⟨As_Heap_isCut, R_Heap_isCut, M_Heap_isCut, P_Heap_isCut⟩
theorem s_Heap_isCut : Sound Try.prog GG 61 C_Heap_isCut := by
  unfold C_Heap_isCut; rw [h_Heap_isCut]
  exact sound_of_run (fn := Try.f61) hmix hstable (tyOK_of ttOK) (hglob (X_Heap_isCut N P_impl_within P_Heap_box P_impl_isDirection)) (conOK_of (X := X_Heap_isCut N P_impl_within P_Heap_box P_impl_isDirection) ⟨s_impl_within, s_Heap_box, s_impl_isDirection, trivial⟩) (mconOK_of (X := X_Heap_isCut N P_impl_within P_Heap_box P_impl_isDirection) trivial) (by kernel_rfl) (by kernel_rfl) (by kernel_rfl) (by kernel_rfl) (by kernel_rfl) (by decide)
theorem p_Heap_isCut (a0 : D_Heap) (a1 : Int) (a2 : Int) : P_Heap_isCut (a0, a1, a2, ()) = 
  Option.bind (P_impl_isDirection (a1, ())) fun r0 =>
  bif r0.1 then
    Option.bind (P_Heap_box (a0, ())) fun r2 =>
    bif inB a1 3 then
      Option.bind (P_impl_within (a2, 1, (IntKind.wrap .i64 ((bif decide (a1 = (0 : Int)) then r2.1.1 else (bif decide (a1 = (1 : Int)) then r2.1.2.1 else r2.1.2.2.1)) - 1)), ())) fun r4 =>
      some (r4.1, ())
    else none
  else
    some (false, ()) := by
  rewrite [h_Heap_isCut]
  exact e_Heap_isCut N P_impl_within P_Heap_box P_impl_isDirection a0 a1 a2

/- 71: (loop.example/g01166/impl.box).index -/
abbrev As_box_index : List ATy := [.data true T_A3, .data true T_A3]
abbrev R_box_index : List (Bool × Ty) := [(false, (.int .i64))]
abbrev M_box_index : List RMode := []
abbrev Ft_box_index : Type := D_A3 × D_A3 × Unit → Option (Int × Unit)
noncomputable def X_box_index (n : Nat) : Ctx := { types := TT, globals := [], con := [], keep := [], results := [.tmp 4], ntmps := 19, n := n }
noncomputable def B_box_index : Code := (Try.f71.body).getD .skip
theorem e_box_index (n : Nat) (a0 : D_A3) (a1 : D_A3) : runF (X_box_index n) B_box_index As_box_index R_box_index M_box_index (a0, a1, ()) = 
  some ((IntKind.wrap .i64 ((IntKind.wrap .i64 ((IntKind.wrap .i64 ((IntKind.wrap .i64 (a1.1 * a0.2.1)) + a1.2.1)) * a0.2.2.1)) + a1.2.2.1)), ()) := by kernel_rfl
noncomputable def P_box_index : Ft_box_index := hid (runF (X_box_index N) B_box_index As_box_index R_box_index M_box_index)
theorem h_box_index : P_box_index = runF (X_box_index N) B_box_index As_box_index R_box_index M_box_index := hid_eq _
noncomputable def C_box_index : Contract := ⟨As_box_index, R_box_index, M_box_index, P_box_index⟩
theorem s_box_index : Sound Try.prog GG 71 C_box_index := by
  unfold C_box_index; rw [h_box_index]
  exact sound_of_run (fn := Try.f71) hmix hstable (tyOK_of ttOK) (hglob (X_box_index N)) (conOK_of (X := X_box_index N) trivial) (mconOK_of (X := X_box_index N) trivial) (by kernel_rfl) (by kernel_rfl) (by kernel_rfl) (by kernel_rfl) (by kernel_rfl) (by decide)
theorem p_box_index (a0 : D_A3) (a1 : D_A3) : P_box_index (a0, a1, ()) = 
  some ((IntKind.wrap .i64 ((IntKind.wrap .i64 ((IntKind.wrap .i64 ((IntKind.wrap .i64 (a1.1 * a0.2.1)) + a1.2.1)) * a0.2.2.1)) + a1.2.2.1)), ()) := by
  rewrite [h_box_index]
  exact e_box_index N a0 a1

/- 78: (loop.example/g01166/impl.Heap).cubes -/
abbrev As_Heap_cubes : List ATy := [.data true T_Heap]
abbrev R_Heap_cubes : List (Bool × Ty) := [(false, (.int .u64))]
abbrev M_Heap_cubes : List RMode := []
abbrev Ft_Heap_cubes : Type := D_Heap × Unit → Option (Int × Unit)
noncomputable def X_Heap_cubes (n : Nat) (F_Heap_box : Ft_Heap_box) (F_box_index : Ft_box_index) : Ctx := { types := TT, globals := [], con := [(66, ⟨As_Heap_box, R_Heap_box, M_Heap_box, F_Heap_box⟩), (71, ⟨As_box_index, R_box_index, M_box_index, F_box_index⟩)], keep := [(3, ⟨[.box 1, .tmp 1, .tmp 3, .tmp 7, .tmp 8, .tmp 9], []⟩)], results := [.tmp 2], ntmps := 22, n := n }
noncomputable def B_Heap_cubes : Code := (Try.f78.body).getD .skip
noncomputable def L_Heap_cubes_3 (n : Nat) (F_Heap_box : Ft_Heap_box) (F_box_index : Ft_box_index) (m0 : Nat) (p0 : Int) (p1 : Int) (p2 : Int) (p3 : List D_A3) (p4 : Int) (p5 : List D_A3) (p6 : Int) (p7 : Int) : Option (denL R_Heap_cubes) := loopF (X_Heap_cubes n F_Heap_box F_box_index) B_Heap_cubes R_Heap_cubes M_Heap_cubes 3 [m0] [(.ver, .num 1), (.box 1, .box 0 false [.int .i64 p0, .int .i64 p1, .int .i64 p2, .imm T_A3 p3 (some 3)]), (.tmp 1, .val false [.addr 1 0 0]), (.tmp 3, .val false [.int .u64 p4]), (.tmp 7, .val false [.imm T_A3 p5 (some 3)]), (.tmp 8, .val false [.int .i64 p6]), (.tmp 9, .val false [.int .i64 p7])]
theorem e_Heap_cubes (n : Nat) (F_Heap_box : Ft_Heap_box) (F_box_index : Ft_box_index) (a0 : D_Heap) : runF (X_Heap_cubes n F_Heap_box F_box_index) B_Heap_cubes As_Heap_cubes R_Heap_cubes M_Heap_cubes (a0, ()) = 
  L_Heap_cubes_3 n F_Heap_box F_box_index n a0.1 a0.2.1 a0.2.2.1 a0.2.2.2.1 0 a0.2.2.2.1 (List.length a0.2.2.2.1 : Int) 0 := by kernel_rfl
theorem e_Heap_cubes_3 (n : Nat) (F_Heap_box : Ft_Heap_box) (F_box_index : Ft_box_index) (m0 : Nat) (p0 : Int) (p1 : Int) (p2 : Int) (p3 : List D_A3) (p4 : Int) (p5 : List D_A3) (p6 : Int) (p7 : Int) : L_Heap_cubes_3 n F_Heap_box F_box_index (m0 + 1) p0 p1 p2 p3 p4 p5 p6 p7 = 
  bif decide (p7 < p6) then
    bif inB p7 (List.length p5) then
      Option.bind (F_Heap_box ((p0, (p1, (p2, (p3, ())))), ())) fun r2 =>
      Option.bind (F_box_index (r2.1, (nth T_A3 p5 p7), ())) fun r3 =>
      bif decide ((0 : Int) ≤ r3.1) then
        L_Heap_cubes_3 n F_Heap_box F_box_index m0 p0 p1 p2 p3 (intBits .or .u64 p4 (shlI .u64 1 r3.1)) p5 p6 (IntKind.wrap .i64 (p7 + 1))
      else none
    else none
  else
    some (p4, ()) := by kernel_rfl
noncomputable def P_Heap_cubes : Ft_Heap_cubes := hid (runF (X_Heap_cubes N P_Heap_box P_box_index) B_Heap_cubes As_Heap_cubes R_Heap_cubes M_Heap_cubes)
theorem h_Heap_cubes : P_Heap_cubes = runF (X_Heap_cubes N P_Heap_box P_box_index) B_Heap_cubes As_Heap_cubes R_Heap_cubes M_Heap_cubes := hid_eq _
noncomputable def C_Heap_cubes : Contract := ⟨As_Heap_cubes, R_Heap_cubes, M_Heap_cubes, P_Heap_cubes⟩
theorem s_Heap_cubes : Sound Try.prog GG 78 C_Heap_cubes := by
  unfold C_Heap_cubes; rw [h_Heap_cubes]
  exact sound_of_run (fn := Try.f78) hmix hstable (tyOK_of ttOK) (hglob (X_Heap_cubes N P_Heap_box P_box_index)) (conOK_of (X := X_Heap_cubes N P_Heap_box P_box_index) ⟨s_Heap_box, s_box_index, trivial⟩) (mconOK_of (X := X_Heap_cubes N P_Heap_box P_box_index) trivial) (by kernel_rfl) (by kernel_rfl) (by kernel_rfl) (by kernel_rfl) (by kernel_rfl) (by decide)
noncomputable def l_Heap_cubes_3 : Nat → Int → Int → Int → (List D_A3) → Int → (List D_A3) → Int → Int → Option (denL R_Heap_cubes) := hid (fun m0 p0 p1 p2 p3 p4 p5 p6 p7 => L_Heap_cubes_3 N P_Heap_box P_box_index m0 p0 p1 p2 p3 p4 p5 p6 p7)
theorem h_Heap_cubes_3 : l_Heap_cubes_3 = fun m0 p0 p1 p2 p3 p4 p5 p6 p7 => L_Heap_cubes_3 N P_Heap_box P_box_index m0 p0 p1 p2 p3 p4 p5 p6 p7 := hid_eq _
theorem p_Heap_cubes (a0 : D_Heap) : P_Heap_cubes (a0, ()) = 
  l_Heap_cubes_3 N a0.1 a0.2.1 a0.2.2.1 a0.2.2.2.1 0 a0.2.2.2.1 (List.length a0.2.2.2.1 : Int) 0 := by
  rewrite [h_Heap_cubes, h_Heap_cubes_3]
  exact e_Heap_cubes N P_Heap_box P_box_index a0
theorem q_Heap_cubes_3 (m0 : Nat) (p0 : Int) (p1 : Int) (p2 : Int) (p3 : List D_A3) (p4 : Int) (p5 : List D_A3) (p6 : Int) (p7 : Int) : l_Heap_cubes_3 (m0 + 1) p0 p1 p2 p3 p4 p5 p6 p7 = 
  bif decide (p7 < p6) then
    bif inB p7 (List.length p5) then
      Option.bind (P_Heap_box ((p0, (p1, (p2, (p3, ())))), ())) fun r2 =>
      Option.bind (P_box_index (r2.1, (nth T_A3 p5 p7), ())) fun r3 =>
      bif decide ((0 : Int) ≤ r3.1) then
        l_Heap_cubes_3 m0 p0 p1 p2 p3 (intBits .or .u64 p4 (shlI .u64 1 r3.1)) p5 p6 (IntKind.wrap .i64 (p7 + 1))
      else none
    else none
  else
    some (p4, ()) := by
  rewrite [h_Heap_cubes_3]
  exact e_Heap_cubes_3 N P_Heap_box P_box_index m0 p0 p1 p2 p3 p4 p5 p6 p7

/- 108: (loop.example/g01166/impl.set).has -/
abbrev As_set_has : List ATy := [.data false (.int .u64), .data false (.int .i64)]
abbrev R_set_has : List (Bool × Ty) := [(false, .bool)]
abbrev M_set_has : List RMode := []
abbrev Ft_set_has : Type := Int × Int × Unit → Option (Bool × Unit)
noncomputable def X_set_has (n : Nat) : Ctx := { types := TT, globals := [], con := [], keep := [], results := [.tmp 4], ntmps := 10, n := n }
noncomputable def B_set_has : Code := (Try.f108.body).getD .skip
theorem e_set_has (n : Nat) (a0 : Int) (a1 : Int) : runF (X_set_has n) B_set_has As_set_has R_set_has M_set_has (a0, a1, ()) = 
  bif decide ((0 : Int) ≤ a1) then
    some (decide ((intBits .and .u64 (shrI .u64 a0 a1) 1) = 1), ())
  else none := by kernel_rfl
noncomputable def P_set_has : Ft_set_has := hid (runF (X_set_has N) B_set_has As_set_has R_set_has M_set_has)
theorem h_set_has : P_set_has = runF (X_set_has N) B_set_has As_set_has R_set_has M_set_has := hid_eq _
noncomputable def C_set_has : Contract := ⟨As_set_has, R_set_has, M_set_has, P_set_has⟩
theorem s_set_has : Sound Try.prog GG 108 C_set_has := by
  unfold C_set_has; rw [h_set_has]
  exact sound_of_run (fn := Try.f108) hmix hstable (tyOK_of ttOK) (hglob (X_set_has N)) (conOK_of (X := X_set_has N) trivial) (mconOK_of (X := X_set_has N) trivial) (by kernel_rfl) (by kernel_rfl) (by kernel_rfl) (by kernel_rfl) (by kernel_rfl) (by decide)
theorem p_set_has (a0 : Int) (a1 : Int) : P_set_has (a0, a1, ()) = 
  bif decide ((0 : Int) ≤ a1) then
    some (decide ((intBits .and .u64 (shrI .u64 a0 a1) 1) = 1), ())
  else none := by
  rewrite [h_set_has]
  exact e_set_has N a0 a1

/- 92: (loop.example/g01166/impl.Heap).hasCube -/
abbrev As_Heap_hasCube : List ATy := [.data true T_Heap, .data true T_A3]
abbrev R_Heap_hasCube : List (Bool × Ty) := [(false, .bool)]
abbrev M_Heap_hasCube : List RMode := []
abbrev Ft_Heap_hasCube : Type := D_Heap × D_A3 × Unit → Option (Bool × Unit)
noncomputable def X_Heap_hasCube (n : Nat) (F_Heap_box : Ft_Heap_box) (F_box_index : Ft_box_index) (F_Heap_cubes : Ft_Heap_cubes) (F_set_has : Ft_set_has) : Ctx := { types := TT, globals := [], con := [(66, ⟨As_Heap_box, R_Heap_box, M_Heap_box, F_Heap_box⟩), (71, ⟨As_box_index, R_box_index, M_box_index, F_box_index⟩), (78, ⟨As_Heap_cubes, R_Heap_cubes, M_Heap_cubes, F_Heap_cubes⟩), (108, ⟨As_set_has, R_set_has, M_set_has, F_set_has⟩)], keep := [], results := [.tmp 4], ntmps := 12, n := n }
noncomputable def B_Heap_hasCube : Code := (Try.f92.body).getD .skip
theorem e_Heap_hasCube (n : Nat) (F_Heap_box : Ft_Heap_box) (F_box_index : Ft_box_index) (F_Heap_cubes : Ft_Heap_cubes) (F_set_has : Ft_set_has) (a0 : D_Heap) (a1 : D_A3) : runF (X_Heap_hasCube n F_Heap_box F_box_index F_Heap_cubes F_set_has) B_Heap_hasCube As_Heap_hasCube R_Heap_hasCube M_Heap_hasCube (a0, a1, ()) = 
  Option.bind (F_Heap_cubes (a0, ())) fun r0 =>
  Option.bind (F_Heap_box (a0, ())) fun r1 =>
  Option.bind (F_box_index (r1.1, a1, ())) fun r2 =>
  Option.bind (F_set_has (r0.1, r2.1, ())) fun r3 =>
  some (r3.1, ()) := by kernel_rfl
noncomputable def P_Heap_hasCube : Ft_Heap_hasCube := hid (runF (X_Heap_hasCube N P_Heap_box P_box_index P_Heap_cubes P_set_has) B_Heap_hasCube As_Heap_hasCube R_Heap_hasCube M_Heap_hasCube)
theorem h_Heap_hasCube : P_Heap_hasCube = runF (X_Heap_hasCube N P_Heap_box P_box_index P_Heap_cubes P_set_has) B_Heap_hasCube As_Heap_hasCube R_Heap_hasCube M_Heap_hasCube := hid_eq _
noncomputable def C_Heap_hasCube : Contract := ⟨As_Heap_hasCube, R_Heap_hasCube, M_Heap_hasCube, P_Heap_hasCube⟩
theorem s_Heap_hasCube : Sound Try.prog GG 92 C_Heap_hasCube := by
  unfold C_Heap_hasCube; rw [h_Heap_hasCube]
  exact sound_of_run (fn := Try.f92) hmix hstable (tyOK_of ttOK) (hglob (X_Heap_hasCube N P_Heap_box P_box_index P_Heap_cubes P_set_has)) (conOK_of (X := X_Heap_hasCube N P_Heap_box P_box_index P_Heap_cubes P_set_has) ⟨s_Heap_box, s_box_index, s_Heap_cubes, s_set_has, trivial⟩) (mconOK_of (X := X_Heap_hasCube N P_Heap_box P_box_index P_Heap_cubes P_set_has) trivial) (by kernel_rfl) (by kernel_rfl) (by kernel_rfl) (by kernel_rfl) (by kernel_rfl) (by decide)
theorem p_Heap_hasCube (a0 : D_Heap) (a1 : D_A3) : P_Heap_hasCube (a0, a1, ()) = 
  Option.bind (P_Heap_cubes (a0, ())) fun r0 =>
  Option.bind (P_Heap_box (a0, ())) fun r1 =>
  Option.bind (P_box_index (r1.1, a1, ())) fun r2 =>
  Option.bind (P_set_has (r0.1, r2.1, ())) fun r3 =>
  some (r3.1, ()) := by
  rewrite [h_Heap_hasCube]
  exact e_Heap_hasCube N P_Heap_box P_box_index P_Heap_cubes P_set_has a0 a1

/- 62: (loop.example/g01166/impl.Heap).cutFaces -/
abbrev As_Heap_cutFaces : List ATy := [.data true T_Heap, .data false (.int .i64), .data false (.int .i64)]
abbrev R_Heap_cutFaces : List (Bool × Ty) := [(false, (.int .i64))]
abbrev M_Heap_cutFaces : List RMode := []
abbrev Ft_Heap_cutFaces : Type := D_Heap × Int × Int × Unit → Option (Int × Unit)
noncomputable def X_Heap_cutFaces (n : Nat) (F_Heap_hasCube : Ft_Heap_hasCube) : Ctx := { types := TT, globals := [], con := [(92, ⟨As_Heap_hasCube, R_Heap_hasCube, M_Heap_hasCube, F_Heap_hasCube⟩)], keep := [(3, ⟨[.box 3, .tmp 1, .tmp 2, .tmp 3, .tmp 7, .tmp 12, .tmp 13, .tmp 14], []⟩)], results := [.tmp 6], ntmps := 38, n := n }
noncomputable def B_Heap_cutFaces : Code := (Try.f62.body).getD .skip
noncomputable def L_Heap_cutFaces_3 (n : Nat) (F_Heap_hasCube : Ft_Heap_hasCube) (m0 : Nat) (p0 : Int) (p1 : Int) (p2 : Int) (p3 : List D_A3) (p4 : Int) (p5 : Int) (p6 : Int) (p7 : List D_A3) (p8 : Int) (p9 : Int) : Option (denL R_Heap_cutFaces) := loopF (X_Heap_cutFaces n F_Heap_hasCube) B_Heap_cutFaces R_Heap_cutFaces M_Heap_cutFaces 3 [m0] [(.ver, .num 1), (.box 3, .box 0 false [.int .i64 p0, .int .i64 p1, .int .i64 p2, .imm T_A3 p3 (some 3)]), (.tmp 1, .val false [.int .i64 p4]), (.tmp 2, .val false [.int .i64 p5]), (.tmp 3, .val false [.addr 3 0 0]), (.tmp 7, .val false [.int .i64 p6]), (.tmp 12, .val false [.imm T_A3 p7 (some 3)]), (.tmp 13, .val false [.int .i64 p8]), (.tmp 14, .val false [.int .i64 p9])]
theorem e_Heap_cutFaces (n : Nat) (F_Heap_hasCube : Ft_Heap_hasCube) (a0 : D_Heap) (a1 : Int) (a2 : Int) : runF (X_Heap_cutFaces n F_Heap_hasCube) B_Heap_cutFaces As_Heap_cutFaces R_Heap_cutFaces M_Heap_cutFaces (a0, a1, a2, ()) = 
  L_Heap_cutFaces_3 n F_Heap_hasCube n a0.1 a0.2.1 a0.2.2.1 a0.2.2.2.1 a1 a2 0 a0.2.2.2.1 (List.length a0.2.2.2.1 : Int) 0 := by kernel_rfl
theorem e_Heap_cutFaces_3 (n : Nat) (F_Heap_hasCube : Ft_Heap_hasCube) (m0 : Nat) (p0 : Int) (p1 : Int) (p2 : Int) (p3 : List D_A3) (p4 : Int) (p5 : Int) (p6 : Int) (p7 : List D_A3) (p8 : Int) (p9 : Int) : L_Heap_cutFaces_3 n F_Heap_hasCube (m0 + 1) p0 p1 p2 p3 p4 p5 p6 p7 p8 p9 = 
  bif decide (p9 < p8) then
    bif inB p9 (List.length p7) then
      bif inB p4 3 then
        bif inB p4 3 then
          bif inB p4 3 then
            bif decide ((bif decide (p4 = (0 : Int)) then ((nth T_A3 p7 p9)).1 else (bif decide (p4 = (1 : Int)) then (((nth T_A3 p7 p9)).2).1 else ((((nth T_A3 p7 p9)).2).2).1)) = p5) then
              Option.bind (F_Heap_hasCube ((p0, (p1, (p2, (p3, ())))), ((bif decide (p4 = (0 : Int)) then (IntKind.wrap .i64 ((bif decide (p4 = (0 : Int)) then ((nth T_A3 p7 p9)).1 else (bif decide (p4 = (1 : Int)) then (((nth T_A3 p7 p9)).2).1 else ((((nth T_A3 p7 p9)).2).2).1)) - 1)) else ((nth T_A3 p7 p9)).1), ((bif decide (p4 = (1 : Int)) then (IntKind.wrap .i64 ((bif decide (p4 = (0 : Int)) then ((nth T_A3 p7 p9)).1 else (bif decide (p4 = (1 : Int)) then (((nth T_A3 p7 p9)).2).1 else ((((nth T_A3 p7 p9)).2).2).1)) - 1)) else (((nth T_A3 p7 p9)).2).1), ((bif decide (p4 = (2 : Int)) then (IntKind.wrap .i64 ((bif decide (p4 = (0 : Int)) then ((nth T_A3 p7 p9)).1 else (bif decide (p4 = (1 : Int)) then (((nth T_A3 p7 p9)).2).1 else ((((nth T_A3 p7 p9)).2).2).1)) - 1)) else ((((nth T_A3 p7 p9)).2).2).1), ()))), ())) fun r6 =>
              bif r6.1 then
                L_Heap_cutFaces_3 n F_Heap_hasCube m0 p0 p1 p2 p3 p4 p5 (IntKind.wrap .i64 (p6 + 1)) p7 p8 (IntKind.wrap .i64 (p9 + 1))
              else
                L_Heap_cutFaces_3 n F_Heap_hasCube m0 p0 p1 p2 p3 p4 p5 p6 p7 p8 (IntKind.wrap .i64 (p9 + 1))
            else
              L_Heap_cutFaces_3 n F_Heap_hasCube m0 p0 p1 p2 p3 p4 p5 p6 p7 p8 (IntKind.wrap .i64 (p9 + 1))
          else none
        else none
      else none
    else none
  else
    some (p6, ()) := by kernel_rfl
noncomputable def P_Heap_cutFaces : Ft_Heap_cutFaces := hid (runF (X_Heap_cutFaces N P_Heap_hasCube) B_Heap_cutFaces As_Heap_cutFaces R_Heap_cutFaces M_Heap_cutFaces)
theorem h_Heap_cutFaces : P_Heap_cutFaces = runF (X_Heap_cutFaces N P_Heap_hasCube) B_Heap_cutFaces As_Heap_cutFaces R_Heap_cutFaces M_Heap_cutFaces := hid_eq _
noncomputable def C_Heap_cutFaces : Contract := ⟨As_Heap_cutFaces, R_Heap_cutFaces, M_Heap_cutFaces, P_Heap_cutFaces⟩
theorem s_Heap_cutFaces : Sound Try.prog GG 62 C_Heap_cutFaces := by
  unfold C_Heap_cutFaces; rw [h_Heap_cutFaces]
  exact sound_of_run (fn := Try.f62) hmix hstable (tyOK_of ttOK) (hglob (X_Heap_cutFaces N P_Heap_hasCube)) (conOK_of (X := X_Heap_cutFaces N P_Heap_hasCube) ⟨s_Heap_hasCube, trivial⟩) (mconOK_of (X := X_Heap_cutFaces N P_Heap_hasCube) trivial) (by kernel_rfl) (by kernel_rfl) (by kernel_rfl) (by kernel_rfl) (by kernel_rfl) (by decide)
noncomputable def l_Heap_cutFaces_3 : Nat → Int → Int → Int → (List D_A3) → Int → Int → Int → (List D_A3) → Int → Int → Option (denL R_Heap_cutFaces) := hid (fun m0 p0 p1 p2 p3 p4 p5 p6 p7 p8 p9 => L_Heap_cutFaces_3 N P_Heap_hasCube m0 p0 p1 p2 p3 p4 p5 p6 p7 p8 p9)
theorem h_Heap_cutFaces_3 : l_Heap_cutFaces_3 = fun m0 p0 p1 p2 p3 p4 p5 p6 p7 p8 p9 => L_Heap_cutFaces_3 N P_Heap_hasCube m0 p0 p1 p2 p3 p4 p5 p6 p7 p8 p9 := hid_eq _
theorem p_Heap_cutFaces (a0 : D_Heap) (a1 : Int) (a2 : Int) : P_Heap_cutFaces (a0, a1, a2, ()) = 
  l_Heap_cutFaces_3 N a0.1 a0.2.1 a0.2.2.1 a0.2.2.2.1 a1 a2 0 a0.2.2.2.1 (List.length a0.2.2.2.1 : Int) 0 := by
  rewrite [h_Heap_cutFaces, h_Heap_cutFaces_3]
  exact e_Heap_cutFaces N P_Heap_hasCube a0 a1 a2
theorem q_Heap_cutFaces_3 (m0 : Nat) (p0 : Int) (p1 : Int) (p2 : Int) (p3 : List D_A3) (p4 : Int) (p5 : Int) (p6 : Int) (p7 : List D_A3) (p8 : Int) (p9 : Int) : l_Heap_cutFaces_3 (m0 + 1) p0 p1 p2 p3 p4 p5 p6 p7 p8 p9 = 
  bif decide (p9 < p8) then
    bif inB p9 (List.length p7) then
      bif inB p4 3 then
        bif inB p4 3 then
          bif inB p4 3 then
            bif decide ((bif decide (p4 = (0 : Int)) then ((nth T_A3 p7 p9)).1 else (bif decide (p4 = (1 : Int)) then (((nth T_A3 p7 p9)).2).1 else ((((nth T_A3 p7 p9)).2).2).1)) = p5) then
              Option.bind (P_Heap_hasCube ((p0, (p1, (p2, (p3, ())))), ((bif decide (p4 = (0 : Int)) then (IntKind.wrap .i64 ((bif decide (p4 = (0 : Int)) then ((nth T_A3 p7 p9)).1 else (bif decide (p4 = (1 : Int)) then (((nth T_A3 p7 p9)).2).1 else ((((nth T_A3 p7 p9)).2).2).1)) - 1)) else ((nth T_A3 p7 p9)).1), ((bif decide (p4 = (1 : Int)) then (IntKind.wrap .i64 ((bif decide (p4 = (0 : Int)) then ((nth T_A3 p7 p9)).1 else (bif decide (p4 = (1 : Int)) then (((nth T_A3 p7 p9)).2).1 else ((((nth T_A3 p7 p9)).2).2).1)) - 1)) else (((nth T_A3 p7 p9)).2).1), ((bif decide (p4 = (2 : Int)) then (IntKind.wrap .i64 ((bif decide (p4 = (0 : Int)) then ((nth T_A3 p7 p9)).1 else (bif decide (p4 = (1 : Int)) then (((nth T_A3 p7 p9)).2).1 else ((((nth T_A3 p7 p9)).2).2).1)) - 1)) else ((((nth T_A3 p7 p9)).2).2).1), ()))), ())) fun r6 =>
              bif r6.1 then
                l_Heap_cutFaces_3 m0 p0 p1 p2 p3 p4 p5 (IntKind.wrap .i64 (p6 + 1)) p7 p8 (IntKind.wrap .i64 (p9 + 1))
              else
                l_Heap_cutFaces_3 m0 p0 p1 p2 p3 p4 p5 p6 p7 p8 (IntKind.wrap .i64 (p9 + 1))
            else
              l_Heap_cutFaces_3 m0 p0 p1 p2 p3 p4 p5 p6 p7 p8 (IntKind.wrap .i64 (p9 + 1))
          else none
        else none
      else none
    else none
  else
    some (p6, ()) := by
  rewrite [h_Heap_cutFaces_3]
  exact e_Heap_cutFaces_3 N P_Heap_hasCube m0 p0 p1 p2 p3 p4 p5 p6 p7 p8 p9

/- 23: loop.example/g01166/impl.CutFaces -/
abbrev As_impl_CutFaces : List ATy := [.data true T_Heap, .data false (.int .i64), .data false (.int .i64)]
abbrev R_impl_CutFaces : List (Bool × Ty) := [(false, (.int .i64)), (false, .bool)]
abbrev M_impl_CutFaces : List RMode := []
abbrev Ft_impl_CutFaces : Type := D_Heap × Int × Int × Unit → Option (Int × Bool × Unit)
noncomputable def X_impl_CutFaces (n : Nat) (F_impl_IsHeap : Ft_impl_IsHeap) (F_Heap_isCut : Ft_Heap_isCut) (F_Heap_cutFaces : Ft_Heap_cutFaces) : Ctx := { types := TT, globals := [], con := [(55, ⟨As_impl_IsHeap, R_impl_IsHeap, M_impl_IsHeap, F_impl_IsHeap⟩), (61, ⟨As_Heap_isCut, R_Heap_isCut, M_Heap_isCut, F_Heap_isCut⟩), (62, ⟨As_Heap_cutFaces, R_Heap_cutFaces, M_Heap_cutFaces, F_Heap_cutFaces⟩)], keep := [], results := [.tmp 6, .tmp 7], ntmps := 22, n := n }
noncomputable def B_impl_CutFaces : Code := (Try.f23.body).getD .skip
theorem e_impl_CutFaces (n : Nat) (F_impl_IsHeap : Ft_impl_IsHeap) (F_Heap_isCut : Ft_Heap_isCut) (F_Heap_cutFaces : Ft_Heap_cutFaces) (a0 : D_Heap) (a1 : Int) (a2 : Int) : runF (X_impl_CutFaces n F_impl_IsHeap F_Heap_isCut F_Heap_cutFaces) B_impl_CutFaces As_impl_CutFaces R_impl_CutFaces M_impl_CutFaces (a0, a1, a2, ()) = 
  Option.bind (F_impl_IsHeap (a0, ())) fun r0 =>
  bif !r0.1 then
    some (0, false, ())
  else
    Option.bind (F_Heap_isCut (a0, a1, a2, ())) fun r2 =>
    bif !r2.1 then
      some (0, false, ())
    else
      Option.bind (F_Heap_cutFaces (a0, a1, a2, ())) fun r4 =>
      some (r4.1, true, ()) := by kernel_rfl
noncomputable def P_impl_CutFaces : Ft_impl_CutFaces := hid (runF (X_impl_CutFaces N P_impl_IsHeap P_Heap_isCut P_Heap_cutFaces) B_impl_CutFaces As_impl_CutFaces R_impl_CutFaces M_impl_CutFaces)
theorem h_impl_CutFaces : P_impl_CutFaces = runF (X_impl_CutFaces N P_impl_IsHeap P_Heap_isCut P_Heap_cutFaces) B_impl_CutFaces As_impl_CutFaces R_impl_CutFaces M_impl_CutFaces := hid_eq _
noncomputable def C_impl_CutFaces : Contract := ⟨As_impl_CutFaces, R_impl_CutFaces, M_impl_CutFaces, P_impl_CutFaces⟩
theorem s_impl_CutFaces : Sound Try.prog GG 23 C_impl_CutFaces := by
  unfold C_impl_CutFaces; rw [h_impl_CutFaces]
  exact sound_of_run (fn := Try.f23) hmix hstable (tyOK_of ttOK) (hglob (X_impl_CutFaces N P_impl_IsHeap P_Heap_isCut P_Heap_cutFaces)) (conOK_of (X := X_impl_CutFaces N P_impl_IsHeap P_Heap_isCut P_Heap_cutFaces) ⟨s_impl_IsHeap, s_Heap_isCut, s_Heap_cutFaces, trivial⟩) (mconOK_of (X := X_impl_CutFaces N P_impl_IsHeap P_Heap_isCut P_Heap_cutFaces) trivial) (by kernel_rfl) (by kernel_rfl) (by kernel_rfl) (by kernel_rfl) (by kernel_rfl) (by decide)
theorem p_impl_CutFaces (a0 : D_Heap) (a1 : Int) (a2 : Int) : P_impl_CutFaces (a0, a1, a2, ()) = 
  Option.bind (P_impl_IsHeap (a0, ())) fun r0 =>
  bif !r0.1 then
    some (0, false, ())
  else
    Option.bind (P_Heap_isCut (a0, a1, a2, ())) fun r2 =>
    bif !r2.1 then
      some (0, false, ())
    else
      Option.bind (P_Heap_cutFaces (a0, a1, a2, ())) fun r4 =>
      some (r4.1, true, ()) := by
  rewrite [h_impl_CutFaces]
  exact e_impl_CutFaces N P_impl_IsHeap P_Heap_isCut P_Heap_cutFaces a0 a1 a2

/- 4: loop.example/g01166/laws.FnExactCutFaces -/
abbrev As_laws_FnExactCutFaces : List ATy := [.data true T_Heap, .data false (.int .i64), .data false (.int .i64)]
abbrev R_laws_FnExactCutFaces : List (Bool × Ty) := [(false, .bool)]
abbrev M_laws_FnExactCutFaces : List RMode := []
abbrev Ft_laws_FnExactCutFaces : Type := D_Heap × Int × Int × Unit → Option (Bool × Unit)
noncomputable def X_laws_FnExactCutFaces (n : Nat) (F_laws_szHeap : Ft_laws_szHeap) (F_spec_CutFaces : Ft_spec_CutFaces) (F_laws_toHeap : Ft_laws_toHeap) (F_impl_CutFaces : Ft_impl_CutFaces) (F_laws_eqHeap : Ft_laws_eqHeap) : Ctx := { types := TT, globals := [], con := [(20, ⟨As_laws_szHeap, R_laws_szHeap, M_laws_szHeap, F_laws_szHeap⟩), (21, ⟨As_spec_CutFaces, R_spec_CutFaces, M_spec_CutFaces, F_spec_CutFaces⟩), (22, ⟨As_laws_toHeap, R_laws_toHeap, M_laws_toHeap, F_laws_toHeap⟩), (23, ⟨As_impl_CutFaces, R_impl_CutFaces, M_impl_CutFaces, F_impl_CutFaces⟩), (24, ⟨As_laws_eqHeap, R_laws_eqHeap, M_laws_eqHeap, F_laws_eqHeap⟩)], keep := [], results := [.tmp 6], ntmps := 48, n := n }
noncomputable def B_laws_FnExactCutFaces : Code := (Try.f4.body).getD .skip
theorem e_laws_FnExactCutFaces (n : Nat) (F_laws_szHeap : Ft_laws_szHeap) (F_spec_CutFaces : Ft_spec_CutFaces) (F_laws_toHeap : Ft_laws_toHeap) (F_impl_CutFaces : Ft_impl_CutFaces) (F_laws_eqHeap : Ft_laws_eqHeap) (a0 : D_Heap) (a1 : Int) (a2 : Int) : runF (X_laws_FnExactCutFaces n F_laws_szHeap F_spec_CutFaces F_laws_toHeap F_impl_CutFaces F_laws_eqHeap) B_laws_FnExactCutFaces As_laws_FnExactCutFaces R_laws_FnExactCutFaces M_laws_FnExactCutFaces (a0, a1, a2, ()) = 
  Option.bind (F_laws_szHeap (a0, 1048576, ())) fun r0 =>
  bif decide (r0.1 < 0) then
    some (true, ())
  else
    Option.bind (F_laws_toHeap (a0, ())) fun r2 =>
    Option.bind (F_spec_CutFaces (r2.1, a1, a2, ())) fun r3 =>
    Option.bind (F_laws_toHeap (a0, ())) fun r4 =>
    Option.bind (F_impl_CutFaces (r4.1, a1, a2, ())) fun r5 =>
    bif !decide (r5.1 = r3.1) then
      some (false, ())
    else
      bif !(r5.2.1 == r3.2.1) then
        some (false, ())
      else
        Option.bind (F_laws_toHeap (a0, ())) fun r8 =>
        Option.bind (F_laws_eqHeap (r4.1, r8.1, ())) fun r9 =>
        bif !r9.1 then
          some (false, ())
        else
          some (true, ()) := by kernel_rfl
noncomputable def P_laws_FnExactCutFaces : Ft_laws_FnExactCutFaces := hid (runF (X_laws_FnExactCutFaces N P_laws_szHeap P_spec_CutFaces P_laws_toHeap P_impl_CutFaces P_laws_eqHeap) B_laws_FnExactCutFaces As_laws_FnExactCutFaces R_laws_FnExactCutFaces M_laws_FnExactCutFaces)
theorem h_laws_FnExactCutFaces : P_laws_FnExactCutFaces = runF (X_laws_FnExactCutFaces N P_laws_szHeap P_spec_CutFaces P_laws_toHeap P_impl_CutFaces P_laws_eqHeap) B_laws_FnExactCutFaces As_laws_FnExactCutFaces R_laws_FnExactCutFaces M_laws_FnExactCutFaces := hid_eq _
noncomputable def C_laws_FnExactCutFaces : Contract := ⟨As_laws_FnExactCutFaces, R_laws_FnExactCutFaces, M_laws_FnExactCutFaces, P_laws_FnExactCutFaces⟩
theorem s_laws_FnExactCutFaces : Sound Try.prog GG 4 C_laws_FnExactCutFaces := by
  unfold C_laws_FnExactCutFaces; rw [h_laws_FnExactCutFaces]
  exact sound_of_run (fn := Try.f4) hmix hstable (tyOK_of ttOK) (hglob (X_laws_FnExactCutFaces N P_laws_szHeap P_spec_CutFaces P_laws_toHeap P_impl_CutFaces P_laws_eqHeap)) (conOK_of (X := X_laws_FnExactCutFaces N P_laws_szHeap P_spec_CutFaces P_laws_toHeap P_impl_CutFaces P_laws_eqHeap) ⟨s_laws_szHeap, s_spec_CutFaces, s_laws_toHeap, s_impl_CutFaces, s_laws_eqHeap, trivial⟩) (mconOK_of (X := X_laws_FnExactCutFaces N P_laws_szHeap P_spec_CutFaces P_laws_toHeap P_impl_CutFaces P_laws_eqHeap) trivial) (by kernel_rfl) (by kernel_rfl) (by kernel_rfl) (by kernel_rfl) (by kernel_rfl) (by decide)
theorem p_laws_FnExactCutFaces (a0 : D_Heap) (a1 : Int) (a2 : Int) : P_laws_FnExactCutFaces (a0, a1, a2, ()) = 
  Option.bind (P_laws_szHeap (a0, 1048576, ())) fun r0 =>
  bif decide (r0.1 < 0) then
    some (true, ())
  else
    Option.bind (P_laws_toHeap (a0, ())) fun r2 =>
    Option.bind (P_spec_CutFaces (r2.1, a1, a2, ())) fun r3 =>
    Option.bind (P_laws_toHeap (a0, ())) fun r4 =>
    Option.bind (P_impl_CutFaces (r4.1, a1, a2, ())) fun r5 =>
    bif !decide (r5.1 = r3.1) then
      some (false, ())
    else
      bif !(r5.2.1 == r3.2.1) then
        some (false, ())
      else
        Option.bind (P_laws_toHeap (a0, ())) fun r8 =>
        Option.bind (P_laws_eqHeap (r4.1, r8.1, ())) fun r9 =>
        bif !r9.1 then
          some (false, ())
        else
          some (true, ()) := by
  rewrite [h_laws_FnExactCutFaces]
  exact e_laws_FnExactCutFaces N P_laws_szHeap P_spec_CutFaces P_laws_toHeap P_impl_CutFaces P_laws_eqHeap a0 a1 a2

/- 25: loop.example/g01166/spec.FewestCuts -/
abbrev As_spec_FewestCuts : List ATy := [.data true T_Heap]
abbrev R_spec_FewestCuts : List (Bool × Ty) := [(false, (.int .i64)), (false, .bool)]
abbrev M_spec_FewestCuts : List RMode := []
abbrev Ft_spec_FewestCuts : Type := D_Heap × Unit → Option (Int × Bool × Unit)
noncomputable def X_spec_FewestCuts (n : Nat) (F_spec_l11Faces : Ft_spec_l11Faces) (F_spec_l2Heap : Ft_spec_l2Heap) (F_spec_l2Long : Ft_spec_l2Long) : Ctx := { types := TT, globals := [], con := [(59, ⟨As_spec_l11Faces, R_spec_l11Faces, M_spec_l11Faces, F_spec_l11Faces⟩), (64, ⟨As_spec_l2Heap, R_spec_l2Heap, M_spec_l2Heap, F_spec_l2Heap⟩), (65, ⟨As_spec_l2Long, R_spec_l2Long, M_spec_l2Long, F_spec_l2Long⟩)], keep := [(5, ⟨[.box 1, .tmp 1, .tmp 4, .tmp 5], []⟩), (8, ⟨[.box 1, .tmp 1, .tmp 4, .tmp 5, .tmp 6], []⟩)], results := [.tmp 2, .tmp 3], ntmps := 29, n := n }
noncomputable def B_spec_FewestCuts : Code := (Try.f25.body).getD .skip
noncomputable def L_spec_FewestCuts_5 (n : Nat) (F_spec_l11Faces : Ft_spec_l11Faces) (F_spec_l2Heap : Ft_spec_l2Heap) (F_spec_l2Long : Ft_spec_l2Long) (m0 : Nat) (p0 : Int) (p1 : Int) (p2 : Int) (p3 : List D_A3) (p4 : Int) (p5 : Int) : Option (denL R_spec_FewestCuts) := loopF (X_spec_FewestCuts n F_spec_l11Faces F_spec_l2Heap F_spec_l2Long) B_spec_FewestCuts R_spec_FewestCuts M_spec_FewestCuts 5 [m0] [(.ver, .num 1), (.box 1, .box 0 false [.int .i64 p0, .int .i64 p1, .int .i64 p2, .imm T_A3 p3 (some 3)]), (.tmp 1, .val false [.addr 1 0 0]), (.tmp 4, .val false [.int .i64 p4]), (.tmp 5, .val false [.int .i64 p5])]
noncomputable def L_spec_FewestCuts_8 (n : Nat) (F_spec_l11Faces : Ft_spec_l11Faces) (F_spec_l2Heap : Ft_spec_l2Heap) (F_spec_l2Long : Ft_spec_l2Long) (m0 m1 : Nat) (p0 : Int) (p1 : Int) (p2 : Int) (p3 : List D_A3) (p4 : Int) (p5 : Int) (p6 : Int) : Option (denL R_spec_FewestCuts) := loopF (X_spec_FewestCuts n F_spec_l11Faces F_spec_l2Heap F_spec_l2Long) B_spec_FewestCuts R_spec_FewestCuts M_spec_FewestCuts 8 [m0, m1] [(.ver, .num 1), (.box 1, .box 0 false [.int .i64 p0, .int .i64 p1, .int .i64 p2, .imm T_A3 p3 (some 3)]), (.tmp 1, .val false [.addr 1 0 0]), (.tmp 4, .val false [.int .i64 p4]), (.tmp 5, .val false [.int .i64 p5]), (.tmp 6, .val false [.int .i64 p6])]
theorem e_spec_FewestCuts (n : Nat) (F_spec_l11Faces : Ft_spec_l11Faces) (F_spec_l2Heap : Ft_spec_l2Heap) (F_spec_l2Long : Ft_spec_l2Long) (a0 : D_Heap) : runF (X_spec_FewestCuts n F_spec_l11Faces F_spec_l2Heap F_spec_l2Long) B_spec_FewestCuts As_spec_FewestCuts R_spec_FewestCuts M_spec_FewestCuts (a0, ()) = 
  Option.bind (F_spec_l2Heap (a0, ())) fun r0 =>
  bif !r0.1 then
    some (0, false, ())
  else
    L_spec_FewestCuts_5 n F_spec_l11Faces F_spec_l2Heap F_spec_l2Long n a0.1 a0.2.1 a0.2.2.1 a0.2.2.2.1 0 0 := by kernel_rfl
theorem e_spec_FewestCuts_5 (n : Nat) (F_spec_l11Faces : Ft_spec_l11Faces) (F_spec_l2Heap : Ft_spec_l2Heap) (F_spec_l2Long : Ft_spec_l2Long) (m0 : Nat) (p0 : Int) (p1 : Int) (p2 : Int) (p3 : List D_A3) (p4 : Int) (p5 : Int) : L_spec_FewestCuts_5 n F_spec_l11Faces F_spec_l2Heap F_spec_l2Long (m0 + 1) p0 p1 p2 p3 p4 p5 = 
  bif decide (p5 < 3) then
    L_spec_FewestCuts_8 n F_spec_l11Faces F_spec_l2Heap F_spec_l2Long m0 n p0 p1 p2 p3 p4 p5 1
  else
    some (p4, true, ()) := by kernel_rfl
theorem e_spec_FewestCuts_8 (n : Nat) (F_spec_l11Faces : Ft_spec_l11Faces) (F_spec_l2Heap : Ft_spec_l2Heap) (F_spec_l2Long : Ft_spec_l2Long) (m0 m1 : Nat) (p0 : Int) (p1 : Int) (p2 : Int) (p3 : List D_A3) (p4 : Int) (p5 : Int) (p6 : Int) : L_spec_FewestCuts_8 n F_spec_l11Faces F_spec_l2Heap F_spec_l2Long m0 (m1 + 1) p0 p1 p2 p3 p4 p5 p6 = 
  Option.bind (F_spec_l2Long ((p0, (p1, (p2, (p3, ())))), p5, ())) fun r0 =>
  bif decide (p6 < r0.1) then
    Option.bind (F_spec_l11Faces ((p0, (p1, (p2, (p3, ())))), p5, p6, ())) fun r2 =>
    bif decide (r2.1 > 0) then
      L_spec_FewestCuts_8 n F_spec_l11Faces F_spec_l2Heap F_spec_l2Long m0 m1 p0 p1 p2 p3 (IntKind.wrap .i64 (p4 + 1)) p5 (IntKind.wrap .i64 (p6 + 1))
    else
      L_spec_FewestCuts_8 n F_spec_l11Faces F_spec_l2Heap F_spec_l2Long m0 m1 p0 p1 p2 p3 p4 p5 (IntKind.wrap .i64 (p6 + 1))
  else
    L_spec_FewestCuts_5 n F_spec_l11Faces F_spec_l2Heap F_spec_l2Long m0 p0 p1 p2 p3 p4 (IntKind.wrap .i64 (p5 + 1)) := by kernel_rfl
noncomputable def P_spec_FewestCuts : Ft_spec_FewestCuts := hid (runF (X_spec_FewestCuts N P_spec_l11Faces P_spec_l2Heap P_spec_l2Long) B_spec_FewestCuts As_spec_FewestCuts R_spec_FewestCuts M_spec_FewestCuts)
theorem h_spec_FewestCuts : P_spec_FewestCuts = runF (X_spec_FewestCuts N P_spec_l11Faces P_spec_l2Heap P_spec_l2Long) B_spec_FewestCuts As_spec_FewestCuts R_spec_FewestCuts M_spec_FewestCuts := hid_eq _
noncomputable def C_spec_FewestCuts : Contract := ⟨As_spec_FewestCuts, R_spec_FewestCuts, M_spec_FewestCuts, P_spec_FewestCuts⟩
theorem s_spec_FewestCuts : Sound Try.prog GG 25 C_spec_FewestCuts := by
  unfold C_spec_FewestCuts; rw [h_spec_FewestCuts]
  exact sound_of_run (fn := Try.f25) hmix hstable (tyOK_of ttOK) (hglob (X_spec_FewestCuts N P_spec_l11Faces P_spec_l2Heap P_spec_l2Long)) (conOK_of (X := X_spec_FewestCuts N P_spec_l11Faces P_spec_l2Heap P_spec_l2Long) ⟨s_spec_l11Faces, s_spec_l2Heap, s_spec_l2Long, trivial⟩) (mconOK_of (X := X_spec_FewestCuts N P_spec_l11Faces P_spec_l2Heap P_spec_l2Long) trivial) (by kernel_rfl) (by kernel_rfl) (by kernel_rfl) (by kernel_rfl) (by kernel_rfl) (by decide)
noncomputable def l_spec_FewestCuts_5 : Nat → Int → Int → Int → (List D_A3) → Int → Int → Option (denL R_spec_FewestCuts) := hid (fun m0 p0 p1 p2 p3 p4 p5 => L_spec_FewestCuts_5 N P_spec_l11Faces P_spec_l2Heap P_spec_l2Long m0 p0 p1 p2 p3 p4 p5)
theorem h_spec_FewestCuts_5 : l_spec_FewestCuts_5 = fun m0 p0 p1 p2 p3 p4 p5 => L_spec_FewestCuts_5 N P_spec_l11Faces P_spec_l2Heap P_spec_l2Long m0 p0 p1 p2 p3 p4 p5 := hid_eq _
noncomputable def l_spec_FewestCuts_8 : Nat → Nat → Int → Int → Int → (List D_A3) → Int → Int → Int → Option (denL R_spec_FewestCuts) := hid (fun m0 m1 p0 p1 p2 p3 p4 p5 p6 => L_spec_FewestCuts_8 N P_spec_l11Faces P_spec_l2Heap P_spec_l2Long m0 m1 p0 p1 p2 p3 p4 p5 p6)
theorem h_spec_FewestCuts_8 : l_spec_FewestCuts_8 = fun m0 m1 p0 p1 p2 p3 p4 p5 p6 => L_spec_FewestCuts_8 N P_spec_l11Faces P_spec_l2Heap P_spec_l2Long m0 m1 p0 p1 p2 p3 p4 p5 p6 := hid_eq _
theorem p_spec_FewestCuts (a0 : D_Heap) : P_spec_FewestCuts (a0, ()) = 
  Option.bind (P_spec_l2Heap (a0, ())) fun r0 =>
  bif !r0.1 then
    some (0, false, ())
  else
    l_spec_FewestCuts_5 N a0.1 a0.2.1 a0.2.2.1 a0.2.2.2.1 0 0 := by
  rewrite [h_spec_FewestCuts, h_spec_FewestCuts_5]
  exact e_spec_FewestCuts N P_spec_l11Faces P_spec_l2Heap P_spec_l2Long a0
theorem q_spec_FewestCuts_5 (m0 : Nat) (p0 : Int) (p1 : Int) (p2 : Int) (p3 : List D_A3) (p4 : Int) (p5 : Int) : l_spec_FewestCuts_5 (m0 + 1) p0 p1 p2 p3 p4 p5 = 
  bif decide (p5 < 3) then
    l_spec_FewestCuts_8 m0 N p0 p1 p2 p3 p4 p5 1
  else
    some (p4, true, ()) := by
  rewrite [h_spec_FewestCuts_5, h_spec_FewestCuts_8]
  exact e_spec_FewestCuts_5 N P_spec_l11Faces P_spec_l2Heap P_spec_l2Long m0 p0 p1 p2 p3 p4 p5
theorem q_spec_FewestCuts_8 (m0 m1 : Nat) (p0 : Int) (p1 : Int) (p2 : Int) (p3 : List D_A3) (p4 : Int) (p5 : Int) (p6 : Int) : l_spec_FewestCuts_8 m0 (m1 + 1) p0 p1 p2 p3 p4 p5 p6 = 
  Option.bind (P_spec_l2Long ((p0, (p1, (p2, (p3, ())))), p5, ())) fun r0 =>
  bif decide (p6 < r0.1) then
    Option.bind (P_spec_l11Faces ((p0, (p1, (p2, (p3, ())))), p5, p6, ())) fun r2 =>
    bif decide (r2.1 > 0) then
      l_spec_FewestCuts_8 m0 m1 p0 p1 p2 p3 (IntKind.wrap .i64 (p4 + 1)) p5 (IntKind.wrap .i64 (p6 + 1))
    else
      l_spec_FewestCuts_8 m0 m1 p0 p1 p2 p3 p4 p5 (IntKind.wrap .i64 (p6 + 1))
  else
    l_spec_FewestCuts_5 m0 p0 p1 p2 p3 p4 (IntKind.wrap .i64 (p5 + 1)) := by
  rewrite [h_spec_FewestCuts_5, h_spec_FewestCuts_8]
  exact e_spec_FewestCuts_8 N P_spec_l11Faces P_spec_l2Heap P_spec_l2Long m0 m1 p0 p1 p2 p3 p4 p5 p6

/- 26: loop.example/g01166/impl.FewestCuts -/
abbrev As_impl_FewestCuts : List ATy := [.data true T_Heap]
abbrev R_impl_FewestCuts : List (Bool × Ty) := [(false, (.int .i64)), (false, .bool)]
abbrev M_impl_FewestCuts : List RMode := []
abbrev Ft_impl_FewestCuts : Type := D_Heap × Unit → Option (Int × Bool × Unit)
noncomputable def X_impl_FewestCuts (n : Nat) (F_impl_IsHeap : Ft_impl_IsHeap) (F_Heap_cutFaces : Ft_Heap_cutFaces) (F_Heap_box : Ft_Heap_box) : Ctx := { types := TT, globals := [], con := [(55, ⟨As_impl_IsHeap, R_impl_IsHeap, M_impl_IsHeap, F_impl_IsHeap⟩), (62, ⟨As_Heap_cutFaces, R_Heap_cutFaces, M_Heap_cutFaces, F_Heap_cutFaces⟩), (66, ⟨As_Heap_box, R_Heap_box, M_Heap_box, F_Heap_box⟩)], keep := [(5, ⟨[.box 1, .tmp 1, .tmp 4, .tmp 12, .tmp 13], []⟩), (8, ⟨[.box 1, .tmp 1, .tmp 4, .tmp 5, .tmp 6, .tmp 7, .tmp 12, .tmp 13], []⟩)], results := [.tmp 2, .tmp 3], ntmps := 31, n := n }
noncomputable def B_impl_FewestCuts : Code := (Try.f26.body).getD .skip
noncomputable def L_impl_FewestCuts_5 (n : Nat) (F_impl_IsHeap : Ft_impl_IsHeap) (F_Heap_cutFaces : Ft_Heap_cutFaces) (F_Heap_box : Ft_Heap_box) (m0 : Nat) (p0 : Int) (p1 : Int) (p2 : Int) (p3 : List D_A3) (p4 : Int) (p5 : Int) (p6 : Int) (p7 : Int) (p8 : Int) : Option (denL R_impl_FewestCuts) := loopF (X_impl_FewestCuts n F_impl_IsHeap F_Heap_cutFaces F_Heap_box) B_impl_FewestCuts R_impl_FewestCuts M_impl_FewestCuts 5 [m0] [(.ver, .num 1), (.box 1, .box 0 false [.int .i64 p0, .int .i64 p1, .int .i64 p2, .imm T_A3 p3 (some 3)]), (.tmp 1, .val false [.addr 1 0 0]), (.tmp 4, .val false [.int .i64 p4]), (.tmp 12, .val true [.int .i64 p5, .int .i64 p6, .int .i64 p7]), (.tmp 13, .val false [.int .i64 p8])]
noncomputable def L_impl_FewestCuts_8 (n : Nat) (F_impl_IsHeap : Ft_impl_IsHeap) (F_Heap_cutFaces : Ft_Heap_cutFaces) (F_Heap_box : Ft_Heap_box) (m0 m1 : Nat) (p0 : Int) (p1 : Int) (p2 : Int) (p3 : List D_A3) (p4 : Int) (p5 : Int) (p6 : Int) (p7 : Int) (p8 : Int) (p9 : Int) (p10 : Int) (p11 : Int) : Option (denL R_impl_FewestCuts) := loopF (X_impl_FewestCuts n F_impl_IsHeap F_Heap_cutFaces F_Heap_box) B_impl_FewestCuts R_impl_FewestCuts M_impl_FewestCuts 8 [m0, m1] [(.ver, .num 1), (.box 1, .box 0 false [.int .i64 p0, .int .i64 p1, .int .i64 p2, .imm T_A3 p3 (some 3)]), (.tmp 1, .val false [.addr 1 0 0]), (.tmp 4, .val false [.int .i64 p4]), (.tmp 5, .val false [.int .i64 p5]), (.tmp 6, .val false [.int .i64 p6]), (.tmp 7, .val false [.int .i64 p7]), (.tmp 12, .val true [.int .i64 p8, .int .i64 p9, .int .i64 p10]), (.tmp 13, .val false [.int .i64 p11])]
theorem e_impl_FewestCuts (n : Nat) (F_impl_IsHeap : Ft_impl_IsHeap) (F_Heap_cutFaces : Ft_Heap_cutFaces) (F_Heap_box : Ft_Heap_box) (a0 : D_Heap) : runF (X_impl_FewestCuts n F_impl_IsHeap F_Heap_cutFaces F_Heap_box) B_impl_FewestCuts As_impl_FewestCuts R_impl_FewestCuts M_impl_FewestCuts (a0, ()) = 
  Option.bind (F_impl_IsHeap (a0, ())) fun r0 =>
  bif !r0.1 then
    some (0, false, ())
  else
    Option.bind (F_Heap_box (a0, ())) fun r2 =>
    L_impl_FewestCuts_5 n F_impl_IsHeap F_Heap_cutFaces F_Heap_box n a0.1 a0.2.1 a0.2.2.1 a0.2.2.2.1 0 r2.1.1 r2.1.2.1 r2.1.2.2.1 0 := by kernel_rfl
theorem e_impl_FewestCuts_5 (n : Nat) (F_impl_IsHeap : Ft_impl_IsHeap) (F_Heap_cutFaces : Ft_Heap_cutFaces) (F_Heap_box : Ft_Heap_box) (m0 : Nat) (p0 : Int) (p1 : Int) (p2 : Int) (p3 : List D_A3) (p4 : Int) (p5 : Int) (p6 : Int) (p7 : Int) (p8 : Int) : L_impl_FewestCuts_5 n F_impl_IsHeap F_Heap_cutFaces F_Heap_box (m0 + 1) p0 p1 p2 p3 p4 p5 p6 p7 p8 = 
  bif decide (p8 < 3) then
    bif inB p8 3 then
      L_impl_FewestCuts_8 n F_impl_IsHeap F_Heap_cutFaces F_Heap_box m0 n p0 p1 p2 p3 p4 p8 (bif decide (p8 = (0 : Int)) then p5 else (bif decide (p8 = (1 : Int)) then p6 else p7)) 1 p5 p6 p7 p8
    else none
  else
    some (p4, true, ()) := by kernel_rfl
theorem e_impl_FewestCuts_8 (n : Nat) (F_impl_IsHeap : Ft_impl_IsHeap) (F_Heap_cutFaces : Ft_Heap_cutFaces) (F_Heap_box : Ft_Heap_box) (m0 m1 : Nat) (p0 : Int) (p1 : Int) (p2 : Int) (p3 : List D_A3) (p4 : Int) (p5 : Int) (p6 : Int) (p7 : Int) (p8 : Int) (p9 : Int) (p10 : Int) (p11 : Int) : L_impl_FewestCuts_8 n F_impl_IsHeap F_Heap_cutFaces F_Heap_box m0 (m1 + 1) p0 p1 p2 p3 p4 p5 p6 p7 p8 p9 p10 p11 = 
  bif decide (p7 < p6) then
    Option.bind (F_Heap_cutFaces ((p0, (p1, (p2, (p3, ())))), p5, p7, ())) fun r1 =>
    bif decide (r1.1 > 0) then
      L_impl_FewestCuts_8 n F_impl_IsHeap F_Heap_cutFaces F_Heap_box m0 m1 p0 p1 p2 p3 (IntKind.wrap .i64 (p4 + 1)) p5 p6 (IntKind.wrap .i64 (p7 + 1)) p8 p9 p10 p11
    else
      L_impl_FewestCuts_8 n F_impl_IsHeap F_Heap_cutFaces F_Heap_box m0 m1 p0 p1 p2 p3 p4 p5 p6 (IntKind.wrap .i64 (p7 + 1)) p8 p9 p10 p11
  else
    L_impl_FewestCuts_5 n F_impl_IsHeap F_Heap_cutFaces F_Heap_box m0 p0 p1 p2 p3 p4 p8 p9 p10 (IntKind.wrap .i64 (p11 + 1)) := by kernel_rfl
noncomputable def P_impl_FewestCuts : Ft_impl_FewestCuts := hid (runF (X_impl_FewestCuts N P_impl_IsHeap P_Heap_cutFaces P_Heap_box) B_impl_FewestCuts As_impl_FewestCuts R_impl_FewestCuts M_impl_FewestCuts)
theorem h_impl_FewestCuts : P_impl_FewestCuts = runF (X_impl_FewestCuts N P_impl_IsHeap P_Heap_cutFaces P_Heap_box) B_impl_FewestCuts As_impl_FewestCuts R_impl_FewestCuts M_impl_FewestCuts := hid_eq _
noncomputable def C_impl_FewestCuts : Contract := ⟨As_impl_FewestCuts, R_impl_FewestCuts, M_impl_FewestCuts, P_impl_FewestCuts⟩
theorem s_impl_FewestCuts : Sound Try.prog GG 26 C_impl_FewestCuts := by
  unfold C_impl_FewestCuts; rw [h_impl_FewestCuts]
  exact sound_of_run (fn := Try.f26) hmix hstable (tyOK_of ttOK) (hglob (X_impl_FewestCuts N P_impl_IsHeap P_Heap_cutFaces P_Heap_box)) (conOK_of (X := X_impl_FewestCuts N P_impl_IsHeap P_Heap_cutFaces P_Heap_box) ⟨s_impl_IsHeap, s_Heap_cutFaces, s_Heap_box, trivial⟩) (mconOK_of (X := X_impl_FewestCuts N P_impl_IsHeap P_Heap_cutFaces P_Heap_box) trivial) (by kernel_rfl) (by kernel_rfl) (by kernel_rfl) (by kernel_rfl) (by kernel_rfl) (by decide)
noncomputable def l_impl_FewestCuts_5 : Nat → Int → Int → Int → (List D_A3) → Int → Int → Int → Int → Int → Option (denL R_impl_FewestCuts) := hid (fun m0 p0 p1 p2 p3 p4 p5 p6 p7 p8 => L_impl_FewestCuts_5 N P_impl_IsHeap P_Heap_cutFaces P_Heap_box m0 p0 p1 p2 p3 p4 p5 p6 p7 p8)
theorem h_impl_FewestCuts_5 : l_impl_FewestCuts_5 = fun m0 p0 p1 p2 p3 p4 p5 p6 p7 p8 => L_impl_FewestCuts_5 N P_impl_IsHeap P_Heap_cutFaces P_Heap_box m0 p0 p1 p2 p3 p4 p5 p6 p7 p8 := hid_eq _
noncomputable def l_impl_FewestCuts_8 : Nat → Nat → Int → Int → Int → (List D_A3) → Int → Int → Int → Int → Int → Int → Int → Int → Option (denL R_impl_FewestCuts) := hid (fun m0 m1 p0 p1 p2 p3 p4 p5 p6 p7 p8 p9 p10 p11 => L_impl_FewestCuts_8 N P_impl_IsHeap P_Heap_cutFaces P_Heap_box m0 m1 p0 p1 p2 p3 p4 p5 p6 p7 p8 p9 p10 p11)
theorem h_impl_FewestCuts_8 : l_impl_FewestCuts_8 = fun m0 m1 p0 p1 p2 p3 p4 p5 p6 p7 p8 p9 p10 p11 => L_impl_FewestCuts_8 N P_impl_IsHeap P_Heap_cutFaces P_Heap_box m0 m1 p0 p1 p2 p3 p4 p5 p6 p7 p8 p9 p10 p11 := hid_eq _
theorem p_impl_FewestCuts (a0 : D_Heap) : P_impl_FewestCuts (a0, ()) = 
  Option.bind (P_impl_IsHeap (a0, ())) fun r0 =>
  bif !r0.1 then
    some (0, false, ())
  else
    Option.bind (P_Heap_box (a0, ())) fun r2 =>
    l_impl_FewestCuts_5 N a0.1 a0.2.1 a0.2.2.1 a0.2.2.2.1 0 r2.1.1 r2.1.2.1 r2.1.2.2.1 0 := by
  rewrite [h_impl_FewestCuts, h_impl_FewestCuts_5]
  exact e_impl_FewestCuts N P_impl_IsHeap P_Heap_cutFaces P_Heap_box a0
theorem q_impl_FewestCuts_5 (m0 : Nat) (p0 : Int) (p1 : Int) (p2 : Int) (p3 : List D_A3) (p4 : Int) (p5 : Int) (p6 : Int) (p7 : Int) (p8 : Int) : l_impl_FewestCuts_5 (m0 + 1) p0 p1 p2 p3 p4 p5 p6 p7 p8 = 
  bif decide (p8 < 3) then
    bif inB p8 3 then
      l_impl_FewestCuts_8 m0 N p0 p1 p2 p3 p4 p8 (bif decide (p8 = (0 : Int)) then p5 else (bif decide (p8 = (1 : Int)) then p6 else p7)) 1 p5 p6 p7 p8
    else none
  else
    some (p4, true, ()) := by
  rewrite [h_impl_FewestCuts_5, h_impl_FewestCuts_8]
  exact e_impl_FewestCuts_5 N P_impl_IsHeap P_Heap_cutFaces P_Heap_box m0 p0 p1 p2 p3 p4 p5 p6 p7 p8
theorem q_impl_FewestCuts_8 (m0 m1 : Nat) (p0 : Int) (p1 : Int) (p2 : Int) (p3 : List D_A3) (p4 : Int) (p5 : Int) (p6 : Int) (p7 : Int) (p8 : Int) (p9 : Int) (p10 : Int) (p11 : Int) : l_impl_FewestCuts_8 m0 (m1 + 1) p0 p1 p2 p3 p4 p5 p6 p7 p8 p9 p10 p11 = 
  bif decide (p7 < p6) then
    Option.bind (P_Heap_cutFaces ((p0, (p1, (p2, (p3, ())))), p5, p7, ())) fun r1 =>
    bif decide (r1.1 > 0) then
      l_impl_FewestCuts_8 m0 m1 p0 p1 p2 p3 (IntKind.wrap .i64 (p4 + 1)) p5 p6 (IntKind.wrap .i64 (p7 + 1)) p8 p9 p10 p11
    else
      l_impl_FewestCuts_8 m0 m1 p0 p1 p2 p3 p4 p5 p6 (IntKind.wrap .i64 (p7 + 1)) p8 p9 p10 p11
  else
    l_impl_FewestCuts_5 m0 p0 p1 p2 p3 p4 p8 p9 p10 (IntKind.wrap .i64 (p11 + 1)) := by
  rewrite [h_impl_FewestCuts_5, h_impl_FewestCuts_8]
  exact e_impl_FewestCuts_8 N P_impl_IsHeap P_Heap_cutFaces P_Heap_box m0 m1 p0 p1 p2 p3 p4 p5 p6 p7 p8 p9 p10 p11

/- 5: loop.example/g01166/laws.FnExactFewestCuts -/
abbrev As_laws_FnExactFewestCuts : List ATy := [.data true T_Heap]
abbrev R_laws_FnExactFewestCuts : List (Bool × Ty) := [(false, .bool)]
abbrev M_laws_FnExactFewestCuts : List RMode := []
abbrev Ft_laws_FnExactFewestCuts : Type := D_Heap × Unit → Option (Bool × Unit)
noncomputable def X_laws_FnExactFewestCuts (n : Nat) (F_laws_szHeap : Ft_laws_szHeap) (F_laws_toHeap : Ft_laws_toHeap) (F_laws_eqHeap : Ft_laws_eqHeap) (F_spec_FewestCuts : Ft_spec_FewestCuts) (F_impl_FewestCuts : Ft_impl_FewestCuts) : Ctx := { types := TT, globals := [], con := [(20, ⟨As_laws_szHeap, R_laws_szHeap, M_laws_szHeap, F_laws_szHeap⟩), (22, ⟨As_laws_toHeap, R_laws_toHeap, M_laws_toHeap, F_laws_toHeap⟩), (24, ⟨As_laws_eqHeap, R_laws_eqHeap, M_laws_eqHeap, F_laws_eqHeap⟩), (25, ⟨As_spec_FewestCuts, R_spec_FewestCuts, M_spec_FewestCuts, F_spec_FewestCuts⟩), (26, ⟨As_impl_FewestCuts, R_impl_FewestCuts, M_impl_FewestCuts, F_impl_FewestCuts⟩)], keep := [], results := [.tmp 2], ntmps := 40, n := n }
noncomputable def B_laws_FnExactFewestCuts : Code := (Try.f5.body).getD .skip
theorem e_laws_FnExactFewestCuts (n : Nat) (F_laws_szHeap : Ft_laws_szHeap) (F_laws_toHeap : Ft_laws_toHeap) (F_laws_eqHeap : Ft_laws_eqHeap) (F_spec_FewestCuts : Ft_spec_FewestCuts) (F_impl_FewestCuts : Ft_impl_FewestCuts) (a0 : D_Heap) : runF (X_laws_FnExactFewestCuts n F_laws_szHeap F_laws_toHeap F_laws_eqHeap F_spec_FewestCuts F_impl_FewestCuts) B_laws_FnExactFewestCuts As_laws_FnExactFewestCuts R_laws_FnExactFewestCuts M_laws_FnExactFewestCuts (a0, ()) = 
  Option.bind (F_laws_szHeap (a0, 1048576, ())) fun r0 =>
  bif decide (r0.1 < 0) then
    some (true, ())
  else
    Option.bind (F_laws_toHeap (a0, ())) fun r2 =>
    Option.bind (F_spec_FewestCuts (r2.1, ())) fun r3 =>
    Option.bind (F_laws_toHeap (a0, ())) fun r4 =>
    Option.bind (F_impl_FewestCuts (r4.1, ())) fun r5 =>
    bif !decide (r5.1 = r3.1) then
      some (false, ())
    else
      bif !(r5.2.1 == r3.2.1) then
        some (false, ())
      else
        Option.bind (F_laws_toHeap (a0, ())) fun r8 =>
        Option.bind (F_laws_eqHeap (r4.1, r8.1, ())) fun r9 =>
        bif !r9.1 then
          some (false, ())
        else
          some (true, ()) := by kernel_rfl
noncomputable def P_laws_FnExactFewestCuts : Ft_laws_FnExactFewestCuts := hid (runF (X_laws_FnExactFewestCuts N P_laws_szHeap P_laws_toHeap P_laws_eqHeap P_spec_FewestCuts P_impl_FewestCuts) B_laws_FnExactFewestCuts As_laws_FnExactFewestCuts R_laws_FnExactFewestCuts M_laws_FnExactFewestCuts)
theorem h_laws_FnExactFewestCuts : P_laws_FnExactFewestCuts = runF (X_laws_FnExactFewestCuts N P_laws_szHeap P_laws_toHeap P_laws_eqHeap P_spec_FewestCuts P_impl_FewestCuts) B_laws_FnExactFewestCuts As_laws_FnExactFewestCuts R_laws_FnExactFewestCuts M_laws_FnExactFewestCuts := hid_eq _
noncomputable def C_laws_FnExactFewestCuts : Contract := ⟨As_laws_FnExactFewestCuts, R_laws_FnExactFewestCuts, M_laws_FnExactFewestCuts, P_laws_FnExactFewestCuts⟩
theorem s_laws_FnExactFewestCuts : Sound Try.prog GG 5 C_laws_FnExactFewestCuts := by
  unfold C_laws_FnExactFewestCuts; rw [h_laws_FnExactFewestCuts]
  exact sound_of_run (fn := Try.f5) hmix hstable (tyOK_of ttOK) (hglob (X_laws_FnExactFewestCuts N P_laws_szHeap P_laws_toHeap P_laws_eqHeap P_spec_FewestCuts P_impl_FewestCuts)) (conOK_of (X := X_laws_FnExactFewestCuts N P_laws_szHeap P_laws_toHeap P_laws_eqHeap P_spec_FewestCuts P_impl_FewestCuts) ⟨s_laws_szHeap, s_laws_toHeap, s_laws_eqHeap, s_spec_FewestCuts, s_impl_FewestCuts, trivial⟩) (mconOK_of (X := X_laws_FnExactFewestCuts N P_laws_szHeap P_laws_toHeap P_laws_eqHeap P_spec_FewestCuts P_impl_FewestCuts) trivial) (by kernel_rfl) (by kernel_rfl) (by kernel_rfl) (by kernel_rfl) (by kernel_rfl) (by decide)
theorem p_laws_FnExactFewestCuts (a0 : D_Heap) : P_laws_FnExactFewestCuts (a0, ()) = 
  Option.bind (P_laws_szHeap (a0, 1048576, ())) fun r0 =>
  bif decide (r0.1 < 0) then
    some (true, ())
  else
    Option.bind (P_laws_toHeap (a0, ())) fun r2 =>
    Option.bind (P_spec_FewestCuts (r2.1, ())) fun r3 =>
    Option.bind (P_laws_toHeap (a0, ())) fun r4 =>
    Option.bind (P_impl_FewestCuts (r4.1, ())) fun r5 =>
    bif !decide (r5.1 = r3.1) then
      some (false, ())
    else
      bif !(r5.2.1 == r3.2.1) then
        some (false, ())
      else
        Option.bind (P_laws_toHeap (a0, ())) fun r8 =>
        Option.bind (P_laws_eqHeap (r4.1, r8.1, ())) fun r9 =>
        bif !r9.1 then
          some (false, ())
        else
          some (true, ()) := by
  rewrite [h_laws_FnExactFewestCuts]
  exact e_laws_FnExactFewestCuts N P_laws_szHeap P_laws_toHeap P_laws_eqHeap P_spec_FewestCuts P_impl_FewestCuts a0

/- 106: loop.example/g01166/spec.l2Made -/
abbrev As_spec_l2Made : List ATy := [.data true T_Heap, .data false (.sl T_A3)]
abbrev R_spec_l2Made : List (Bool × Ty) := [(true, T_Heap)]
abbrev M_spec_l2Made : List RMode := [.pass 4]
abbrev Ft_spec_l2Made : Type := D_Heap × (List D_A3) × Unit → Option (D_Heap × Unit)
noncomputable def X_spec_l2Made (n : Nat) : Ctx := { types := TT, globals := [], con := [], keep := [], results := [.cell 4 29], ntmps := 13, n := n }
noncomputable def B_spec_l2Made : Code := (Try.f106.body).getD .skip
theorem e_spec_l2Made (n : Nat) (a0 : D_Heap) (a1 : List D_A3) : runF (X_spec_l2Made n) B_spec_l2Made As_spec_l2Made R_spec_l2Made M_spec_l2Made (a0, a1, ()) = 
  some ((a0.1, (a0.2.1, (a0.2.2.1, (a1, ())))), ()) := by kernel_rfl
noncomputable def P_spec_l2Made : Ft_spec_l2Made := hid (runF (X_spec_l2Made N) B_spec_l2Made As_spec_l2Made R_spec_l2Made M_spec_l2Made)
theorem h_spec_l2Made : P_spec_l2Made = runF (X_spec_l2Made N) B_spec_l2Made As_spec_l2Made R_spec_l2Made M_spec_l2Made := hid_eq _
noncomputable def C_spec_l2Made : Contract := ⟨As_spec_l2Made, R_spec_l2Made, M_spec_l2Made, P_spec_l2Made⟩
theorem s_spec_l2Made : Sound Try.prog GG 106 C_spec_l2Made := by
  unfold C_spec_l2Made; rw [h_spec_l2Made]
  exact sound_of_run (fn := Try.f106) hmix hstable (tyOK_of ttOK) (hglob (X_spec_l2Made N)) (conOK_of (X := X_spec_l2Made N) trivial) (mconOK_of (X := X_spec_l2Made N) trivial) (by kernel_rfl) (by kernel_rfl) (by kernel_rfl) (by kernel_rfl) (by kernel_rfl) (by decide)
theorem p_spec_l2Made (a0 : D_Heap) (a1 : List D_A3) : P_spec_l2Made (a0, a1, ()) = 
  some ((a0.1, (a0.2.1, (a0.2.2.1, (a1, ())))), ()) := by
  rewrite [h_spec_l2Made]
  exact e_spec_l2Made N a0 a1

/- 99: loop.example/g01166/spec.l2Own -/
abbrev As_spec_l2Own : List ATy := [.data true T_Heap]
abbrev R_spec_l2Own : List (Bool × Ty) := [(true, T_Heap)]
abbrev M_spec_l2Own : List RMode := [.own 66]
abbrev Ft_spec_l2Own : Type := D_Heap × Unit → Option (D_Heap × Unit)
noncomputable def X_spec_l2Own (n : Nat) (F_spec_l2Made : Ft_spec_l2Made) : Ctx := { types := TT, globals := [], con := [(106, ⟨As_spec_l2Made, R_spec_l2Made, M_spec_l2Made, F_spec_l2Made⟩)], keep := [], results := [.cell 2 29], ntmps := 9, n := n }
noncomputable def B_spec_l2Own : Code := (Try.f99.body).getD .skip
theorem e_spec_l2Own (n : Nat) (F_spec_l2Made : Ft_spec_l2Made) (a0 : D_Heap) : runF (X_spec_l2Own n F_spec_l2Made) B_spec_l2Own As_spec_l2Own R_spec_l2Own M_spec_l2Own (a0, ()) = 
  bif (decide (((List.length ([] : List D_A3)) + (List.length a0.2.2.2.1)) * 24 ≤ 140737488355328) && decide (((List.length ([] : List D_A3)) + (List.length a0.2.2.2.1)) ≤ 140737488355328)) then
    Option.bind (F_spec_l2Made (a0, (([] : List D_A3) ++ a0.2.2.2.1), ())) fun r1 =>
    some ((r1.1.1, (r1.1.2.1, (r1.1.2.2.1, ((([] : List D_A3) ++ a0.2.2.2.1), ())))), ())
  else none := by kernel_rfl
noncomputable def P_spec_l2Own : Ft_spec_l2Own := hid (runF (X_spec_l2Own N P_spec_l2Made) B_spec_l2Own As_spec_l2Own R_spec_l2Own M_spec_l2Own)
theorem h_spec_l2Own : P_spec_l2Own = runF (X_spec_l2Own N P_spec_l2Made) B_spec_l2Own As_spec_l2Own R_spec_l2Own M_spec_l2Own := hid_eq _
noncomputable def C_spec_l2Own : Contract := ⟨As_spec_l2Own, R_spec_l2Own, M_spec_l2Own, P_spec_l2Own⟩
theorem s_spec_l2Own : Sound Try.prog GG 99 C_spec_l2Own := by
  unfold C_spec_l2Own; rw [h_spec_l2Own]
  exact sound_of_run (fn := Try.f99) hmix hstable (tyOK_of ttOK) (hglob (X_spec_l2Own N P_spec_l2Made)) (conOK_of (X := X_spec_l2Own N P_spec_l2Made) ⟨s_spec_l2Made, trivial⟩) (mconOK_of (X := X_spec_l2Own N P_spec_l2Made) trivial) (by kernel_rfl) (by kernel_rfl) (by kernel_rfl) (by kernel_rfl) (by kernel_rfl) (by decide)
theorem p_spec_l2Own (a0 : D_Heap) : P_spec_l2Own (a0, ()) = 
  bif (decide (((List.length ([] : List D_A3)) + (List.length a0.2.2.2.1)) * 24 ≤ 140737488355328) && decide (((List.length ([] : List D_A3)) + (List.length a0.2.2.2.1)) ≤ 140737488355328)) then
    Option.bind (P_spec_l2Made (a0, (([] : List D_A3) ++ a0.2.2.2.1), ())) fun r1 =>
    some ((r1.1.1, (r1.1.2.1, (r1.1.2.2.1, ((([] : List D_A3) ++ a0.2.2.2.1), ())))), ())
  else none := by
  rewrite [h_spec_l2Own]
  exact e_spec_l2Own N P_spec_l2Made a0

/- 67: loop.example/g01166/spec.l12Own -/
abbrev As_spec_l12Own : List ATy := [.data true T_Bench]
abbrev R_spec_l12Own : List (Bool × Ty) := [(true, T_Bench)]
abbrev M_spec_l12Own : List RMode := [.own 66]
abbrev Ft_spec_l12Own : Type := D_Bench × Unit → Option (D_Bench × Unit)
noncomputable def X_spec_l12Own (n : Nat) (F_spec_l2Own : Ft_spec_l2Own) : Ctx := { types := TT, globals := [], con := [(99, ⟨As_spec_l2Own, R_spec_l2Own, M_spec_l2Own, F_spec_l2Own⟩)], keep := [], results := [.cell 2 31], ntmps := 11, n := n }
noncomputable def B_spec_l12Own : Code := (Try.f67.body).getD .skip
theorem e_spec_l12Own (n : Nat) (F_spec_l2Own : Ft_spec_l2Own) (a0 : D_Bench) : runF (X_spec_l12Own n F_spec_l2Own) B_spec_l12Own As_spec_l12Own R_spec_l12Own M_spec_l12Own (a0, ()) = 
  Option.bind (F_spec_l2Own (a0.1, ())) fun r0 =>
  some ((r0.1, a0.2), ()) := by kernel_rfl
noncomputable def P_spec_l12Own : Ft_spec_l12Own := hid (runF (X_spec_l12Own N P_spec_l2Own) B_spec_l12Own As_spec_l12Own R_spec_l12Own M_spec_l12Own)
theorem h_spec_l12Own : P_spec_l12Own = runF (X_spec_l12Own N P_spec_l2Own) B_spec_l12Own As_spec_l12Own R_spec_l12Own M_spec_l12Own := hid_eq _
noncomputable def C_spec_l12Own : Contract := ⟨As_spec_l12Own, R_spec_l12Own, M_spec_l12Own, P_spec_l12Own⟩
theorem s_spec_l12Own : Sound Try.prog GG 67 C_spec_l12Own := by
  unfold C_spec_l12Own; rw [h_spec_l12Own]
  exact sound_of_run (fn := Try.f67) hmix hstable (tyOK_of ttOK) (hglob (X_spec_l12Own N P_spec_l2Own)) (conOK_of (X := X_spec_l12Own N P_spec_l2Own) ⟨s_spec_l2Own, trivial⟩) (mconOK_of (X := X_spec_l12Own N P_spec_l2Own) trivial) (by kernel_rfl) (by kernel_rfl) (by kernel_rfl) (by kernel_rfl) (by kernel_rfl) (by decide)
theorem p_spec_l12Own (a0 : D_Bench) : P_spec_l12Own (a0, ()) = 
  Option.bind (P_spec_l2Own (a0.1, ())) fun r0 =>
  some ((r0.1, a0.2), ()) := by
  rewrite [h_spec_l12Own]
  exact e_spec_l12Own N P_spec_l2Own a0

/- 27: loop.example/g01166/spec.NewBench -/
abbrev As_spec_NewBench : List ATy := [.data true T_Heap]
abbrev R_spec_NewBench : List (Bool × Ty) := [(true, T_Bench), (false, .bool)]
abbrev M_spec_NewBench : List RMode := [.own 66]
abbrev Ft_spec_NewBench : Type := D_Heap × Unit → Option (D_Bench × Bool × Unit)
noncomputable def X_spec_NewBench (n : Nat) (F_spec_l2Heap : Ft_spec_l2Heap) (F_spec_l12Own : Ft_spec_l12Own) : Ctx := { types := TT, globals := [], con := [(64, ⟨As_spec_l2Heap, R_spec_l2Heap, M_spec_l2Heap, F_spec_l2Heap⟩), (67, ⟨As_spec_l12Own, R_spec_l12Own, M_spec_l12Own, F_spec_l12Own⟩)], keep := [], results := [.cell 2 31, .tmp 3], ntmps := 14, n := n }
noncomputable def B_spec_NewBench : Code := (Try.f27.body).getD .skip
theorem e_spec_NewBench (n : Nat) (F_spec_l2Heap : Ft_spec_l2Heap) (F_spec_l12Own : Ft_spec_l12Own) (a0 : D_Heap) : runF (X_spec_NewBench n F_spec_l2Heap F_spec_l12Own) B_spec_NewBench As_spec_NewBench R_spec_NewBench M_spec_NewBench (a0, ()) = 
  Option.bind (F_spec_l2Heap (a0, ())) fun r0 =>
  bif !r0.1 then
    some (((0, (0, (0, (([] : List D_A3), ())))), (0, (0, ()))), false, ())
  else
    Option.bind (F_spec_l12Own ((a0, ((List.length a0.2.2.2.1 : Int), (0, ()))), ())) fun r2 =>
    some (r2.1, true, ()) := by kernel_rfl
noncomputable def P_spec_NewBench : Ft_spec_NewBench := hid (runF (X_spec_NewBench N P_spec_l2Heap P_spec_l12Own) B_spec_NewBench As_spec_NewBench R_spec_NewBench M_spec_NewBench)
theorem h_spec_NewBench : P_spec_NewBench = runF (X_spec_NewBench N P_spec_l2Heap P_spec_l12Own) B_spec_NewBench As_spec_NewBench R_spec_NewBench M_spec_NewBench := hid_eq _
noncomputable def C_spec_NewBench : Contract := ⟨As_spec_NewBench, R_spec_NewBench, M_spec_NewBench, P_spec_NewBench⟩
theorem s_spec_NewBench : Sound Try.prog GG 27 C_spec_NewBench := by
  unfold C_spec_NewBench; rw [h_spec_NewBench]
  exact sound_of_run (fn := Try.f27) hmix hstable (tyOK_of ttOK) (hglob (X_spec_NewBench N P_spec_l2Heap P_spec_l12Own)) (conOK_of (X := X_spec_NewBench N P_spec_l2Heap P_spec_l12Own) ⟨s_spec_l2Heap, s_spec_l12Own, trivial⟩) (mconOK_of (X := X_spec_NewBench N P_spec_l2Heap P_spec_l12Own) trivial) (by kernel_rfl) (by kernel_rfl) (by kernel_rfl) (by kernel_rfl) (by kernel_rfl) (by decide)
theorem p_spec_NewBench (a0 : D_Heap) : P_spec_NewBench (a0, ()) = 
  Option.bind (P_spec_l2Heap (a0, ())) fun r0 =>
  bif !r0.1 then
    some (((0, (0, (0, (([] : List D_A3), ())))), (0, (0, ()))), false, ())
  else
    Option.bind (P_spec_l12Own ((a0, ((List.length a0.2.2.2.1 : Int), (0, ()))), ())) fun r2 =>
    some (r2.1, true, ()) := by
  rewrite [h_spec_NewBench]
  exact e_spec_NewBench N P_spec_l2Heap P_spec_l12Own a0

/- 68: (loop.example/g01166/impl.Bench).own -/
abbrev As_Bench_own : List ATy := [.data true T_Bench]
abbrev R_Bench_own : List (Bool × Ty) := [(true, T_Bench)]
abbrev M_Bench_own : List RMode := [.own 66]
abbrev Ft_Bench_own : Type := D_Bench × Unit → Option (D_Bench × Unit)
noncomputable def X_Bench_own (n : Nat) : Ctx := { types := TT, globals := [], con := [], keep := [], results := [.cell 2 31], ntmps := 11, n := n }
noncomputable def B_Bench_own : Code := (Try.f68.body).getD .skip
theorem e_Bench_own (n : Nat) (a0 : D_Bench) : runF (X_Bench_own n) B_Bench_own As_Bench_own R_Bench_own M_Bench_own (a0, ()) = 
  bif (decide (((List.length ([] : List D_A3)) + (List.length a0.1.2.2.2.1)) * 24 ≤ 140737488355328) && decide (((List.length ([] : List D_A3)) + (List.length a0.1.2.2.2.1)) ≤ 140737488355328)) then
    some (((a0.1.1, (a0.1.2.1, (a0.1.2.2.1, ((([] : List D_A3) ++ a0.1.2.2.2.1), ())))), a0.2), ())
  else none := by kernel_rfl
noncomputable def P_Bench_own : Ft_Bench_own := hid (runF (X_Bench_own N) B_Bench_own As_Bench_own R_Bench_own M_Bench_own)
theorem h_Bench_own : P_Bench_own = runF (X_Bench_own N) B_Bench_own As_Bench_own R_Bench_own M_Bench_own := hid_eq _
noncomputable def C_Bench_own : Contract := ⟨As_Bench_own, R_Bench_own, M_Bench_own, P_Bench_own⟩
theorem s_Bench_own : Sound Try.prog GG 68 C_Bench_own := by
  unfold C_Bench_own; rw [h_Bench_own]
  exact sound_of_run (fn := Try.f68) hmix hstable (tyOK_of ttOK) (hglob (X_Bench_own N)) (conOK_of (X := X_Bench_own N) trivial) (mconOK_of (X := X_Bench_own N) trivial) (by kernel_rfl) (by kernel_rfl) (by kernel_rfl) (by kernel_rfl) (by kernel_rfl) (by decide)
theorem p_Bench_own (a0 : D_Bench) : P_Bench_own (a0, ()) = 
  bif (decide (((List.length ([] : List D_A3)) + (List.length a0.1.2.2.2.1)) * 24 ≤ 140737488355328) && decide (((List.length ([] : List D_A3)) + (List.length a0.1.2.2.2.1)) ≤ 140737488355328)) then
    some (((a0.1.1, (a0.1.2.1, (a0.1.2.2.1, ((([] : List D_A3) ++ a0.1.2.2.2.1), ())))), a0.2), ())
  else none := by
  rewrite [h_Bench_own]
  exact e_Bench_own N a0

/- 28: loop.example/g01166/impl.NewBench -/
abbrev As_impl_NewBench : List ATy := [.data true T_Heap]
abbrev R_impl_NewBench : List (Bool × Ty) := [(true, T_Bench), (false, .bool)]
abbrev M_impl_NewBench : List RMode := [.own 66]
abbrev Ft_impl_NewBench : Type := D_Heap × Unit → Option (D_Bench × Bool × Unit)
noncomputable def X_impl_NewBench (n : Nat) (F_impl_IsHeap : Ft_impl_IsHeap) (F_Bench_own : Ft_Bench_own) : Ctx := { types := TT, globals := [], con := [(55, ⟨As_impl_IsHeap, R_impl_IsHeap, M_impl_IsHeap, F_impl_IsHeap⟩), (68, ⟨As_Bench_own, R_Bench_own, M_Bench_own, F_Bench_own⟩)], keep := [], results := [.cell 2 31, .tmp 3], ntmps := 14, n := n }
noncomputable def B_impl_NewBench : Code := (Try.f28.body).getD .skip
theorem e_impl_NewBench (n : Nat) (F_impl_IsHeap : Ft_impl_IsHeap) (F_Bench_own : Ft_Bench_own) (a0 : D_Heap) : runF (X_impl_NewBench n F_impl_IsHeap F_Bench_own) B_impl_NewBench As_impl_NewBench R_impl_NewBench M_impl_NewBench (a0, ()) = 
  Option.bind (F_impl_IsHeap (a0, ())) fun r0 =>
  bif !r0.1 then
    some (((0, (0, (0, (([] : List D_A3), ())))), (0, (0, ()))), false, ())
  else
    Option.bind (F_Bench_own ((a0, ((List.length a0.2.2.2.1 : Int), (0, ()))), ())) fun r2 =>
    some (r2.1, true, ()) := by kernel_rfl
noncomputable def P_impl_NewBench : Ft_impl_NewBench := hid (runF (X_impl_NewBench N P_impl_IsHeap P_Bench_own) B_impl_NewBench As_impl_NewBench R_impl_NewBench M_impl_NewBench)
theorem h_impl_NewBench : P_impl_NewBench = runF (X_impl_NewBench N P_impl_IsHeap P_Bench_own) B_impl_NewBench As_impl_NewBench R_impl_NewBench M_impl_NewBench := hid_eq _
noncomputable def C_impl_NewBench : Contract := ⟨As_impl_NewBench, R_impl_NewBench, M_impl_NewBench, P_impl_NewBench⟩
theorem s_impl_NewBench : Sound Try.prog GG 28 C_impl_NewBench := by
  unfold C_impl_NewBench; rw [h_impl_NewBench]
  exact sound_of_run (fn := Try.f28) hmix hstable (tyOK_of ttOK) (hglob (X_impl_NewBench N P_impl_IsHeap P_Bench_own)) (conOK_of (X := X_impl_NewBench N P_impl_IsHeap P_Bench_own) ⟨s_impl_IsHeap, s_Bench_own, trivial⟩) (mconOK_of (X := X_impl_NewBench N P_impl_IsHeap P_Bench_own) trivial) (by kernel_rfl) (by kernel_rfl) (by kernel_rfl) (by kernel_rfl) (by kernel_rfl) (by decide)
theorem p_impl_NewBench (a0 : D_Heap) : P_impl_NewBench (a0, ()) = 
  Option.bind (P_impl_IsHeap (a0, ())) fun r0 =>
  bif !r0.1 then
    some (((0, (0, (0, (([] : List D_A3), ())))), (0, (0, ()))), false, ())
  else
    Option.bind (P_Bench_own ((a0, ((List.length a0.2.2.2.1 : Int), (0, ()))), ())) fun r2 =>
    some (r2.1, true, ()) := by
  rewrite [h_impl_NewBench]
  exact e_impl_NewBench N P_impl_IsHeap P_Bench_own a0

/- 69: loop.example/g01166/laws.markIntA3S -/
abbrev As_laws_markIntA3S : List ATy := [.lrow false (.sl T_A3) [66], .data false (.int .i64)]
abbrev R_laws_markIntA3S : List (Bool × Ty) := [(false, (.int .i64))]
abbrev M_laws_markIntA3S : List RMode := []
abbrev Ft_laws_markIntA3S : Type := (List D_A3) × Int × Unit → Option ((Int × Unit) × ((List D_A3) × Unit))
noncomputable def X_laws_markIntA3S (n : Nat) : Ctx := { types := TT, globals := [], con := [], keep := [(2, ⟨[.lent 0, .tmp 0, .tmp 1, .tmp 5], []⟩), (5, ⟨[.lent 0, .tmp 0, .tmp 1, .tmp 5, .tmp 6], []⟩)], results := [.tmp 4], ntmps := 26, n := n }
noncomputable def B_laws_markIntA3S : Code := (Try.f69.body).getD .skip
noncomputable def L_laws_markIntA3S_2 (n : Nat) (m0 : Nat) (p0 : List D_A3) (p1 : Int) (p2 : Int) : Option (denL R_laws_markIntA3S × denM As_laws_markIntA3S) := loopFM (X_laws_markIntA3S n) B_laws_markIntA3S As_laws_markIntA3S R_laws_markIntA3S M_laws_markIntA3S 2 [m0] [(.ver, .num 1), (.lent 0, .val false [.own 66 T_A3 0 p0]), (.tmp 0, .val false [.view ⟨.lent 0, 0, 0⟩ 0]), (.tmp 1, .val false [.int .i64 p1]), (.tmp 5, .val false [.int .i64 p2])]
noncomputable def L_laws_markIntA3S_5 (n : Nat) (m0 m1 : Nat) (p0 : List D_A3) (p1 : Int) (p2 : Int) (p3 : Int) : Option (denL R_laws_markIntA3S × denM As_laws_markIntA3S) := loopFM (X_laws_markIntA3S n) B_laws_markIntA3S As_laws_markIntA3S R_laws_markIntA3S M_laws_markIntA3S 5 [m0, m1] [(.ver, .num 1), (.lent 0, .val false [.own 66 T_A3 0 p0]), (.tmp 0, .val false [.view ⟨.lent 0, 0, 0⟩ 0]), (.tmp 1, .val false [.int .i64 p1]), (.tmp 5, .val false [.int .i64 p2]), (.tmp 6, .val false [.int .i64 p3])]
theorem e_laws_markIntA3S (n : Nat) (a0 : List D_A3) (a1 : Int) : runFM (X_laws_markIntA3S n) B_laws_markIntA3S As_laws_markIntA3S R_laws_markIntA3S M_laws_markIntA3S (a0, a1, ()) = 
  L_laws_markIntA3S_2 n n a0 a1 0 := by kernel_rfl
theorem e_laws_markIntA3S_2 (n : Nat) (m0 : Nat) (p0 : List D_A3) (p1 : Int) (p2 : Int) : L_laws_markIntA3S_2 n (m0 + 1) p0 p1 p2 = 
  bif decide (p2 < (List.length p0 : Int)) then
    L_laws_markIntA3S_5 n m0 n p0 p1 p2 0
  else
    some ((p1, ()), (p0, ())) := by kernel_rfl
theorem e_laws_markIntA3S_5 (n : Nat) (m0 m1 : Nat) (p0 : List D_A3) (p1 : Int) (p2 : Int) (p3 : Int) : L_laws_markIntA3S_5 n m0 (m1 + 1) p0 p1 p2 p3 = 
  bif decide (p3 < 3) then
    bif inB p2 (List.length p0) then
      bif inB p3 3 then
        L_laws_markIntA3S_5 n m0 m1 (List.set p0 (Int.toNat p2) ((bif decide (p3 = (0 : Int)) then p1 else ((nth T_A3 p0 p2)).1), ((bif decide (p3 = (1 : Int)) then p1 else (((nth T_A3 p0 p2)).2).1), ((bif decide (p3 = (2 : Int)) then p1 else ((((nth T_A3 p0 p2)).2).2).1), ())))) (IntKind.wrap .i64 (p1 + 1)) p2 (IntKind.wrap .i64 (p3 + 1))
      else none
    else none
  else
    L_laws_markIntA3S_2 n m0 p0 p1 (IntKind.wrap .i64 (p2 + 1)) := by kernel_rfl
noncomputable def P_laws_markIntA3S : Ft_laws_markIntA3S := hid (runFM (X_laws_markIntA3S N) B_laws_markIntA3S As_laws_markIntA3S R_laws_markIntA3S M_laws_markIntA3S)
theorem h_laws_markIntA3S : P_laws_markIntA3S = runFM (X_laws_markIntA3S N) B_laws_markIntA3S As_laws_markIntA3S R_laws_markIntA3S M_laws_markIntA3S := hid_eq _
noncomputable def C_laws_markIntA3S : MContract := ⟨As_laws_markIntA3S, R_laws_markIntA3S, M_laws_markIntA3S, P_laws_markIntA3S⟩
theorem s_laws_markIntA3S : SoundM Try.prog n0 GG 69 C_laws_markIntA3S := by
  unfold C_laws_markIntA3S; rw [h_laws_markIntA3S]
  exact sound_of_runM (fn := Try.f69) hmix hstable (tyOK_of ttOK) (hglob (X_laws_markIntA3S N)) (conOK_of (X := X_laws_markIntA3S N) trivial) (mconOK_of (X := X_laws_markIntA3S N) trivial) (by kernel_rfl) (by kernel_rfl) (by kernel_rfl) (by kernel_rfl) (by kernel_rfl) (by decide) (by kernel_rfl) (by rfl)
noncomputable def l_laws_markIntA3S_2 : Nat → (List D_A3) → Int → Int → Option (denL R_laws_markIntA3S × denM As_laws_markIntA3S) := hid (fun m0 p0 p1 p2 => L_laws_markIntA3S_2 N m0 p0 p1 p2)
theorem h_laws_markIntA3S_2 : l_laws_markIntA3S_2 = fun m0 p0 p1 p2 => L_laws_markIntA3S_2 N m0 p0 p1 p2 := hid_eq _
noncomputable def l_laws_markIntA3S_5 : Nat → Nat → (List D_A3) → Int → Int → Int → Option (denL R_laws_markIntA3S × denM As_laws_markIntA3S) := hid (fun m0 m1 p0 p1 p2 p3 => L_laws_markIntA3S_5 N m0 m1 p0 p1 p2 p3)
theorem h_laws_markIntA3S_5 : l_laws_markIntA3S_5 = fun m0 m1 p0 p1 p2 p3 => L_laws_markIntA3S_5 N m0 m1 p0 p1 p2 p3 := hid_eq _
theorem p_laws_markIntA3S (a0 : List D_A3) (a1 : Int) : P_laws_markIntA3S (a0, a1, ()) = 
  l_laws_markIntA3S_2 N a0 a1 0 := by
  rewrite [h_laws_markIntA3S, h_laws_markIntA3S_2]
  exact e_laws_markIntA3S N a0 a1
theorem q_laws_markIntA3S_2 (m0 : Nat) (p0 : List D_A3) (p1 : Int) (p2 : Int) : l_laws_markIntA3S_2 (m0 + 1) p0 p1 p2 = 
  bif decide (p2 < (List.length p0 : Int)) then
    l_laws_markIntA3S_5 m0 N p0 p1 p2 0
  else
    some ((p1, ()), (p0, ())) := by
  rewrite [h_laws_markIntA3S_2, h_laws_markIntA3S_5]
  exact e_laws_markIntA3S_2 N m0 p0 p1 p2
theorem q_laws_markIntA3S_5 (m0 m1 : Nat) (p0 : List D_A3) (p1 : Int) (p2 : Int) (p3 : Int) : l_laws_markIntA3S_5 m0 (m1 + 1) p0 p1 p2 p3 = 
  bif decide (p3 < 3) then
    bif inB p2 (List.length p0) then
      bif inB p3 3 then
        l_laws_markIntA3S_5 m0 m1 (List.set p0 (Int.toNat p2) ((bif decide (p3 = (0 : Int)) then p1 else ((nth T_A3 p0 p2)).1), ((bif decide (p3 = (1 : Int)) then p1 else (((nth T_A3 p0 p2)).2).1), ((bif decide (p3 = (2 : Int)) then p1 else ((((nth T_A3 p0 p2)).2).2).1), ())))) (IntKind.wrap .i64 (p1 + 1)) p2 (IntKind.wrap .i64 (p3 + 1))
      else none
    else none
  else
    l_laws_markIntA3S_2 m0 p0 p1 (IntKind.wrap .i64 (p2 + 1)) := by
  rewrite [h_laws_markIntA3S_2, h_laws_markIntA3S_5]
  exact e_laws_markIntA3S_5 N m0 m1 p0 p1 p2 p3

/- 29: loop.example/g01166/laws.markHeap -/
abbrev As_laws_markHeap : List ATy := [.lrow true T_Heap [66], .data false (.int .i64)]
abbrev R_laws_markHeap : List (Bool × Ty) := [(false, (.int .i64))]
abbrev M_laws_markHeap : List RMode := []
abbrev Ft_laws_markHeap : Type := D_Heap × Int × Unit → Option ((Int × Unit) × (D_Heap × Unit))
noncomputable def X_laws_markHeap (n : Nat) (F_laws_markIntA3S : Ft_laws_markIntA3S) : Ctx := { types := TT, globals := [], con := [], mcon := [(69, ⟨As_laws_markIntA3S, R_laws_markIntA3S, M_laws_markIntA3S, F_laws_markIntA3S⟩)], keep := [], results := [.tmp 4], ntmps := 10, n := n }
noncomputable def B_laws_markHeap : Code := (Try.f29.body).getD .skip
theorem e_laws_markHeap (n : Nat) (F_laws_markIntA3S : Ft_laws_markIntA3S) (a0 : D_Heap) (a1 : Int) : runFM (X_laws_markHeap n F_laws_markIntA3S) B_laws_markHeap As_laws_markHeap R_laws_markHeap M_laws_markHeap (a0, a1, ()) = 
  Option.bind (F_laws_markIntA3S (a0.2.2.2.1, a1, ())) fun r0 =>
  some ((r0.1.1, ()), ((0, (0, (0, (r0.2.1, ())))), ())) := by kernel_rfl
noncomputable def P_laws_markHeap : Ft_laws_markHeap := hid (runFM (X_laws_markHeap N P_laws_markIntA3S) B_laws_markHeap As_laws_markHeap R_laws_markHeap M_laws_markHeap)
theorem h_laws_markHeap : P_laws_markHeap = runFM (X_laws_markHeap N P_laws_markIntA3S) B_laws_markHeap As_laws_markHeap R_laws_markHeap M_laws_markHeap := hid_eq _
noncomputable def C_laws_markHeap : MContract := ⟨As_laws_markHeap, R_laws_markHeap, M_laws_markHeap, P_laws_markHeap⟩
theorem s_laws_markHeap : SoundM Try.prog n0 GG 29 C_laws_markHeap := by
  unfold C_laws_markHeap; rw [h_laws_markHeap]
  exact sound_of_runM (fn := Try.f29) hmix hstable (tyOK_of ttOK) (hglob (X_laws_markHeap N P_laws_markIntA3S)) (conOK_of (X := X_laws_markHeap N P_laws_markIntA3S) trivial) (mconOK_of (X := X_laws_markHeap N P_laws_markIntA3S) ⟨s_laws_markIntA3S, trivial⟩) (by kernel_rfl) (by kernel_rfl) (by kernel_rfl) (by kernel_rfl) (by kernel_rfl) (by decide) (by kernel_rfl) (by rfl)
theorem p_laws_markHeap (a0 : D_Heap) (a1 : Int) : P_laws_markHeap (a0, a1, ()) = 
  Option.bind (P_laws_markIntA3S (a0.2.2.2.1, a1, ())) fun r0 =>
  some ((r0.1.1, ()), ((0, (0, (0, (r0.2.1, ())))), ())) := by
  rewrite [h_laws_markHeap]
  exact e_laws_markHeap N P_laws_markIntA3S a0 a1

/- 30: loop.example/g01166/laws.markBench -/
abbrev As_laws_markBench : List ATy := [.lrow true T_Bench [66], .data false (.int .i64)]
abbrev R_laws_markBench : List (Bool × Ty) := [(false, (.int .i64))]
abbrev M_laws_markBench : List RMode := []
abbrev Ft_laws_markBench : Type := D_Bench × Int × Unit → Option ((Int × Unit) × (D_Bench × Unit))
noncomputable def X_laws_markBench (n : Nat) (F_laws_markHeap : Ft_laws_markHeap) : Ctx := { types := TT, globals := [], con := [], mcon := [(29, ⟨As_laws_markHeap, R_laws_markHeap, M_laws_markHeap, F_laws_markHeap⟩)], keep := [], results := [.tmp 4], ntmps := 10, n := n }
noncomputable def B_laws_markBench : Code := (Try.f30.body).getD .skip
theorem e_laws_markBench (n : Nat) (F_laws_markHeap : Ft_laws_markHeap) (a0 : D_Bench) (a1 : Int) : runFM (X_laws_markBench n F_laws_markHeap) B_laws_markBench As_laws_markBench R_laws_markBench M_laws_markBench (a0, a1, ()) = 
  Option.bind (F_laws_markHeap (a0.1, a1, ())) fun r0 =>
  some ((r0.1.1, ()), (((0, (0, (0, (r0.2.1.2.2.2.1, ())))), (0, (0, ()))), ())) := by kernel_rfl
noncomputable def P_laws_markBench : Ft_laws_markBench := hid (runFM (X_laws_markBench N P_laws_markHeap) B_laws_markBench As_laws_markBench R_laws_markBench M_laws_markBench)
theorem h_laws_markBench : P_laws_markBench = runFM (X_laws_markBench N P_laws_markHeap) B_laws_markBench As_laws_markBench R_laws_markBench M_laws_markBench := hid_eq _
noncomputable def C_laws_markBench : MContract := ⟨As_laws_markBench, R_laws_markBench, M_laws_markBench, P_laws_markBench⟩
theorem s_laws_markBench : SoundM Try.prog n0 GG 30 C_laws_markBench := by
  unfold C_laws_markBench; rw [h_laws_markBench]
  exact sound_of_runM (fn := Try.f30) hmix hstable (tyOK_of ttOK) (hglob (X_laws_markBench N P_laws_markHeap)) (conOK_of (X := X_laws_markBench N P_laws_markHeap) trivial) (mconOK_of (X := X_laws_markBench N P_laws_markHeap) ⟨s_laws_markHeap, trivial⟩) (by kernel_rfl) (by kernel_rfl) (by kernel_rfl) (by kernel_rfl) (by kernel_rfl) (by decide) (by kernel_rfl) (by rfl)
theorem p_laws_markBench (a0 : D_Bench) (a1 : Int) : P_laws_markBench (a0, a1, ()) = 
  Option.bind (P_laws_markHeap (a0.1, a1, ())) fun r0 =>
  some ((r0.1.1, ()), (((0, (0, (0, (r0.2.1.2.2.2.1, ())))), (0, (0, ()))), ())) := by
  rewrite [h_laws_markBench]
  exact e_laws_markBench N P_laws_markHeap a0 a1

/- 73: loop.example/g01166/laws.heldIntA3S -/
abbrev As_laws_heldIntA3S : List ATy := [.data false (.sl T_A3), .data false (.int .i64)]
abbrev R_laws_heldIntA3S : List (Bool × Ty) := [(false, (.int .i64))]
abbrev M_laws_heldIntA3S : List RMode := []
abbrev Ft_laws_heldIntA3S : Type := (List D_A3) × Int × Unit → Option (Int × Unit)
noncomputable def X_laws_heldIntA3S (n : Nat) : Ctx := { types := TT, globals := [], con := [], keep := [(2, ⟨[.tmp 0, .tmp 1, .tmp 5], []⟩), (5, ⟨[.tmp 0, .tmp 1, .tmp 5, .tmp 6], []⟩)], results := [.tmp 4], ntmps := 28, n := n }
noncomputable def B_laws_heldIntA3S : Code := (Try.f73.body).getD .skip
noncomputable def L_laws_heldIntA3S_2 (n : Nat) (m0 : Nat) (p0 : List D_A3) (p1 : Int) (p2 : Int) : Option (denL R_laws_heldIntA3S) := loopF (X_laws_heldIntA3S n) B_laws_heldIntA3S R_laws_heldIntA3S M_laws_heldIntA3S 2 [m0] [(.ver, .num 1), (.tmp 0, .val false [.imm T_A3 p0 (some 0)]), (.tmp 1, .val false [.int .i64 p1]), (.tmp 5, .val false [.int .i64 p2])]
noncomputable def L_laws_heldIntA3S_5 (n : Nat) (m0 m1 : Nat) (p0 : List D_A3) (p1 : Int) (p2 : Int) (p3 : Int) : Option (denL R_laws_heldIntA3S) := loopF (X_laws_heldIntA3S n) B_laws_heldIntA3S R_laws_heldIntA3S M_laws_heldIntA3S 5 [m0, m1] [(.ver, .num 1), (.tmp 0, .val false [.imm T_A3 p0 (some 0)]), (.tmp 1, .val false [.int .i64 p1]), (.tmp 5, .val false [.int .i64 p2]), (.tmp 6, .val false [.int .i64 p3])]
theorem e_laws_heldIntA3S (n : Nat) (a0 : List D_A3) (a1 : Int) : runF (X_laws_heldIntA3S n) B_laws_heldIntA3S As_laws_heldIntA3S R_laws_heldIntA3S M_laws_heldIntA3S (a0, a1, ()) = 
  L_laws_heldIntA3S_2 n n a0 a1 0 := by kernel_rfl
theorem e_laws_heldIntA3S_2 (n : Nat) (m0 : Nat) (p0 : List D_A3) (p1 : Int) (p2 : Int) : L_laws_heldIntA3S_2 n (m0 + 1) p0 p1 p2 = 
  bif decide (p2 < (List.length p0 : Int)) then
    L_laws_heldIntA3S_5 n m0 n p0 p1 p2 0
  else
    some (p1, ()) := by kernel_rfl
theorem e_laws_heldIntA3S_5 (n : Nat) (m0 m1 : Nat) (p0 : List D_A3) (p1 : Int) (p2 : Int) (p3 : Int) : L_laws_heldIntA3S_5 n m0 (m1 + 1) p0 p1 p2 p3 = 
  bif decide (p3 < 3) then
    bif inB p2 (List.length p0) then
      bif inB p3 3 then
        bif !decide ((bif decide (p3 = (0 : Int)) then ((nth T_A3 p0 p2)).1 else (bif decide (p3 = (1 : Int)) then (((nth T_A3 p0 p2)).2).1 else ((((nth T_A3 p0 p2)).2).2).1)) = p1) then
          some ((-1), ())
        else
          L_laws_heldIntA3S_5 n m0 m1 p0 (IntKind.wrap .i64 (p1 + 1)) p2 (IntKind.wrap .i64 (p3 + 1))
      else none
    else none
  else
    L_laws_heldIntA3S_2 n m0 p0 p1 (IntKind.wrap .i64 (p2 + 1)) := by kernel_rfl
noncomputable def P_laws_heldIntA3S : Ft_laws_heldIntA3S := hid (runF (X_laws_heldIntA3S N) B_laws_heldIntA3S As_laws_heldIntA3S R_laws_heldIntA3S M_laws_heldIntA3S)
theorem h_laws_heldIntA3S : P_laws_heldIntA3S = runF (X_laws_heldIntA3S N) B_laws_heldIntA3S As_laws_heldIntA3S R_laws_heldIntA3S M_laws_heldIntA3S := hid_eq _
noncomputable def C_laws_heldIntA3S : Contract := ⟨As_laws_heldIntA3S, R_laws_heldIntA3S, M_laws_heldIntA3S, P_laws_heldIntA3S⟩
theorem s_laws_heldIntA3S : Sound Try.prog GG 73 C_laws_heldIntA3S := by
  unfold C_laws_heldIntA3S; rw [h_laws_heldIntA3S]
  exact sound_of_run (fn := Try.f73) hmix hstable (tyOK_of ttOK) (hglob (X_laws_heldIntA3S N)) (conOK_of (X := X_laws_heldIntA3S N) trivial) (mconOK_of (X := X_laws_heldIntA3S N) trivial) (by kernel_rfl) (by kernel_rfl) (by kernel_rfl) (by kernel_rfl) (by kernel_rfl) (by decide)
noncomputable def l_laws_heldIntA3S_2 : Nat → (List D_A3) → Int → Int → Option (denL R_laws_heldIntA3S) := hid (fun m0 p0 p1 p2 => L_laws_heldIntA3S_2 N m0 p0 p1 p2)
theorem h_laws_heldIntA3S_2 : l_laws_heldIntA3S_2 = fun m0 p0 p1 p2 => L_laws_heldIntA3S_2 N m0 p0 p1 p2 := hid_eq _
noncomputable def l_laws_heldIntA3S_5 : Nat → Nat → (List D_A3) → Int → Int → Int → Option (denL R_laws_heldIntA3S) := hid (fun m0 m1 p0 p1 p2 p3 => L_laws_heldIntA3S_5 N m0 m1 p0 p1 p2 p3)
theorem h_laws_heldIntA3S_5 : l_laws_heldIntA3S_5 = fun m0 m1 p0 p1 p2 p3 => L_laws_heldIntA3S_5 N m0 m1 p0 p1 p2 p3 := hid_eq _
theorem p_laws_heldIntA3S (a0 : List D_A3) (a1 : Int) : P_laws_heldIntA3S (a0, a1, ()) = 
  l_laws_heldIntA3S_2 N a0 a1 0 := by
  rewrite [h_laws_heldIntA3S, h_laws_heldIntA3S_2]
  exact e_laws_heldIntA3S N a0 a1
theorem q_laws_heldIntA3S_2 (m0 : Nat) (p0 : List D_A3) (p1 : Int) (p2 : Int) : l_laws_heldIntA3S_2 (m0 + 1) p0 p1 p2 = 
  bif decide (p2 < (List.length p0 : Int)) then
    l_laws_heldIntA3S_5 m0 N p0 p1 p2 0
  else
    some (p1, ()) := by
  rewrite [h_laws_heldIntA3S_2, h_laws_heldIntA3S_5]
  exact e_laws_heldIntA3S_2 N m0 p0 p1 p2
theorem q_laws_heldIntA3S_5 (m0 m1 : Nat) (p0 : List D_A3) (p1 : Int) (p2 : Int) (p3 : Int) : l_laws_heldIntA3S_5 m0 (m1 + 1) p0 p1 p2 p3 = 
  bif decide (p3 < 3) then
    bif inB p2 (List.length p0) then
      bif inB p3 3 then
        bif !decide ((bif decide (p3 = (0 : Int)) then ((nth T_A3 p0 p2)).1 else (bif decide (p3 = (1 : Int)) then (((nth T_A3 p0 p2)).2).1 else ((((nth T_A3 p0 p2)).2).2).1)) = p1) then
          some ((-1), ())
        else
          l_laws_heldIntA3S_5 m0 m1 p0 (IntKind.wrap .i64 (p1 + 1)) p2 (IntKind.wrap .i64 (p3 + 1))
      else none
    else none
  else
    l_laws_heldIntA3S_2 m0 p0 p1 (IntKind.wrap .i64 (p2 + 1)) := by
  rewrite [h_laws_heldIntA3S_2, h_laws_heldIntA3S_5]
  exact e_laws_heldIntA3S_5 N m0 m1 p0 p1 p2 p3

/- 34: loop.example/g01166/laws.heldHeap -/
abbrev As_laws_heldHeap : List ATy := [.data true T_Heap, .data false (.int .i64)]
abbrev R_laws_heldHeap : List (Bool × Ty) := [(false, (.int .i64))]
abbrev M_laws_heldHeap : List RMode := []
abbrev Ft_laws_heldHeap : Type := D_Heap × Int × Unit → Option (Int × Unit)
noncomputable def X_laws_heldHeap (n : Nat) (F_laws_heldIntA3S : Ft_laws_heldIntA3S) : Ctx := { types := TT, globals := [], con := [(73, ⟨As_laws_heldIntA3S, R_laws_heldIntA3S, M_laws_heldIntA3S, F_laws_heldIntA3S⟩)], keep := [], results := [.tmp 4], ntmps := 12, n := n }
noncomputable def B_laws_heldHeap : Code := (Try.f34.body).getD .skip
theorem e_laws_heldHeap (n : Nat) (F_laws_heldIntA3S : Ft_laws_heldIntA3S) (a0 : D_Heap) (a1 : Int) : runF (X_laws_heldHeap n F_laws_heldIntA3S) B_laws_heldHeap As_laws_heldHeap R_laws_heldHeap M_laws_heldHeap (a0, a1, ()) = 
  Option.bind (F_laws_heldIntA3S (a0.2.2.2.1, a1, ())) fun r0 =>
  bif decide (r0.1 < 0) then
    some ((-1), ())
  else
    some (r0.1, ()) := by kernel_rfl
noncomputable def P_laws_heldHeap : Ft_laws_heldHeap := hid (runF (X_laws_heldHeap N P_laws_heldIntA3S) B_laws_heldHeap As_laws_heldHeap R_laws_heldHeap M_laws_heldHeap)
theorem h_laws_heldHeap : P_laws_heldHeap = runF (X_laws_heldHeap N P_laws_heldIntA3S) B_laws_heldHeap As_laws_heldHeap R_laws_heldHeap M_laws_heldHeap := hid_eq _
noncomputable def C_laws_heldHeap : Contract := ⟨As_laws_heldHeap, R_laws_heldHeap, M_laws_heldHeap, P_laws_heldHeap⟩
theorem s_laws_heldHeap : Sound Try.prog GG 34 C_laws_heldHeap := by
  unfold C_laws_heldHeap; rw [h_laws_heldHeap]
  exact sound_of_run (fn := Try.f34) hmix hstable (tyOK_of ttOK) (hglob (X_laws_heldHeap N P_laws_heldIntA3S)) (conOK_of (X := X_laws_heldHeap N P_laws_heldIntA3S) ⟨s_laws_heldIntA3S, trivial⟩) (mconOK_of (X := X_laws_heldHeap N P_laws_heldIntA3S) trivial) (by kernel_rfl) (by kernel_rfl) (by kernel_rfl) (by kernel_rfl) (by kernel_rfl) (by decide)
theorem p_laws_heldHeap (a0 : D_Heap) (a1 : Int) : P_laws_heldHeap (a0, a1, ()) = 
  Option.bind (P_laws_heldIntA3S (a0.2.2.2.1, a1, ())) fun r0 =>
  bif decide (r0.1 < 0) then
    some ((-1), ())
  else
    some (r0.1, ()) := by
  rewrite [h_laws_heldHeap]
  exact e_laws_heldHeap N P_laws_heldIntA3S a0 a1

/- 31: loop.example/g01166/laws.heldBench -/
abbrev As_laws_heldBench : List ATy := [.data true T_Bench, .data false (.int .i64)]
abbrev R_laws_heldBench : List (Bool × Ty) := [(false, (.int .i64))]
abbrev M_laws_heldBench : List RMode := []
abbrev Ft_laws_heldBench : Type := D_Bench × Int × Unit → Option (Int × Unit)
noncomputable def X_laws_heldBench (n : Nat) (F_laws_heldHeap : Ft_laws_heldHeap) : Ctx := { types := TT, globals := [], con := [(34, ⟨As_laws_heldHeap, R_laws_heldHeap, M_laws_heldHeap, F_laws_heldHeap⟩)], keep := [], results := [.tmp 4], ntmps := 12, n := n }
noncomputable def B_laws_heldBench : Code := (Try.f31.body).getD .skip
theorem e_laws_heldBench (n : Nat) (F_laws_heldHeap : Ft_laws_heldHeap) (a0 : D_Bench) (a1 : Int) : runF (X_laws_heldBench n F_laws_heldHeap) B_laws_heldBench As_laws_heldBench R_laws_heldBench M_laws_heldBench (a0, a1, ()) = 
  Option.bind (F_laws_heldHeap (a0.1, a1, ())) fun r0 =>
  bif decide (r0.1 < 0) then
    some ((-1), ())
  else
    some (r0.1, ()) := by kernel_rfl
noncomputable def P_laws_heldBench : Ft_laws_heldBench := hid (runF (X_laws_heldBench N P_laws_heldHeap) B_laws_heldBench As_laws_heldBench R_laws_heldBench M_laws_heldBench)
theorem h_laws_heldBench : P_laws_heldBench = runF (X_laws_heldBench N P_laws_heldHeap) B_laws_heldBench As_laws_heldBench R_laws_heldBench M_laws_heldBench := hid_eq _
noncomputable def C_laws_heldBench : Contract := ⟨As_laws_heldBench, R_laws_heldBench, M_laws_heldBench, P_laws_heldBench⟩
theorem s_laws_heldBench : Sound Try.prog GG 31 C_laws_heldBench := by
  unfold C_laws_heldBench; rw [h_laws_heldBench]
  exact sound_of_run (fn := Try.f31) hmix hstable (tyOK_of ttOK) (hglob (X_laws_heldBench N P_laws_heldHeap)) (conOK_of (X := X_laws_heldBench N P_laws_heldHeap) ⟨s_laws_heldHeap, trivial⟩) (mconOK_of (X := X_laws_heldBench N P_laws_heldHeap) trivial) (by kernel_rfl) (by kernel_rfl) (by kernel_rfl) (by kernel_rfl) (by kernel_rfl) (by decide)
theorem p_laws_heldBench (a0 : D_Bench) (a1 : Int) : P_laws_heldBench (a0, a1, ()) = 
  Option.bind (P_laws_heldHeap (a0.1, a1, ())) fun r0 =>
  bif decide (r0.1 < 0) then
    some ((-1), ())
  else
    some (r0.1, ()) := by
  rewrite [h_laws_heldBench]
  exact e_laws_heldBench N P_laws_heldHeap a0 a1

/- 6: loop.example/g01166/laws.FnExactNewBench -/
abbrev As_laws_FnExactNewBench : List ATy := [.data true T_Heap]
abbrev R_laws_FnExactNewBench : List (Bool × Ty) := [(false, .bool)]
abbrev M_laws_FnExactNewBench : List RMode := []
abbrev Ft_laws_FnExactNewBench : Type := D_Heap × Unit → Option (Bool × Unit)
noncomputable def X_laws_FnExactNewBench (n : Nat) (F_laws_eqBench : Ft_laws_eqBench) (F_laws_szHeap : Ft_laws_szHeap) (F_laws_toHeap : Ft_laws_toHeap) (F_laws_eqHeap : Ft_laws_eqHeap) (F_spec_NewBench : Ft_spec_NewBench) (F_impl_NewBench : Ft_impl_NewBench) (F_laws_markHeap : Ft_laws_markHeap) (F_laws_markBench : Ft_laws_markBench) (F_laws_heldBench : Ft_laws_heldBench) : Ctx := { types := TT, globals := [], con := [(19, ⟨As_laws_eqBench, R_laws_eqBench, M_laws_eqBench, F_laws_eqBench⟩), (20, ⟨As_laws_szHeap, R_laws_szHeap, M_laws_szHeap, F_laws_szHeap⟩), (22, ⟨As_laws_toHeap, R_laws_toHeap, M_laws_toHeap, F_laws_toHeap⟩), (24, ⟨As_laws_eqHeap, R_laws_eqHeap, M_laws_eqHeap, F_laws_eqHeap⟩), (27, ⟨As_spec_NewBench, R_spec_NewBench, M_spec_NewBench, F_spec_NewBench⟩), (28, ⟨As_impl_NewBench, R_impl_NewBench, M_impl_NewBench, F_impl_NewBench⟩), (31, ⟨As_laws_heldBench, R_laws_heldBench, M_laws_heldBench, F_laws_heldBench⟩)], mcon := [(29, ⟨As_laws_markHeap, R_laws_markHeap, M_laws_markHeap, F_laws_markHeap⟩), (30, ⟨As_laws_markBench, R_laws_markBench, M_laws_markBench, F_laws_markBench⟩)], keep := [], results := [.tmp 2], ntmps := 96, n := n }
noncomputable def B_laws_FnExactNewBench : Code := (Try.f6.body).getD .skip
theorem e_laws_FnExactNewBench (n : Nat) (F_laws_eqBench : Ft_laws_eqBench) (F_laws_szHeap : Ft_laws_szHeap) (F_laws_toHeap : Ft_laws_toHeap) (F_laws_eqHeap : Ft_laws_eqHeap) (F_spec_NewBench : Ft_spec_NewBench) (F_impl_NewBench : Ft_impl_NewBench) (F_laws_markHeap : Ft_laws_markHeap) (F_laws_markBench : Ft_laws_markBench) (F_laws_heldBench : Ft_laws_heldBench) (a0 : D_Heap) : runF (X_laws_FnExactNewBench n F_laws_eqBench F_laws_szHeap F_laws_toHeap F_laws_eqHeap F_spec_NewBench F_impl_NewBench F_laws_markHeap F_laws_markBench F_laws_heldBench) B_laws_FnExactNewBench As_laws_FnExactNewBench R_laws_FnExactNewBench M_laws_FnExactNewBench (a0, ()) = 
  Option.bind (F_laws_szHeap (a0, 1048576, ())) fun r0 =>
  bif decide (r0.1 < 0) then
    some (true, ())
  else
    Option.bind (F_laws_toHeap (a0, ())) fun r2 =>
    Option.bind (F_spec_NewBench (r2.1, ())) fun r3 =>
    Option.bind (F_laws_toHeap (a0, ())) fun r4 =>
    Option.bind (F_impl_NewBench (r4.1, ())) fun r5 =>
    Option.bind (F_laws_eqBench (r5.1, r3.1, ())) fun r6 =>
    bif !r6.1 then
      some (false, ())
    else
      bif !(r5.2.1 == r3.2.1) then
        some (false, ())
      else
        Option.bind (F_laws_toHeap (a0, ())) fun r9 =>
        Option.bind (F_laws_eqHeap (r4.1, r9.1, ())) fun r10 =>
        bif !r10.1 then
          some (false, ())
        else
          Option.bind (F_laws_markHeap (r4.1, 1, ())) fun r12 =>
          bif decide (r12.1.1 < 0) then
            some (false, ())
          else
            Option.bind (F_laws_eqBench (r5.1, r3.1, ())) fun r14 =>
            bif !r14.1 then
              some (false, ())
            else
              bif !(r5.2.1 == r3.2.1) then
                some (false, ())
              else
                Option.bind (F_laws_markBench (r5.1, 1, ())) fun r17 =>
                Option.bind (F_laws_heldBench (((r5.1.1.1, (r5.1.1.2.1, (r5.1.1.2.2.1, r17.2.1.1.2.2.2))), r5.1.2), 1, ())) fun r18 =>
                bif decide (r18.1 < 0) then
                  some (false, ())
                else
                  bif !decide (r18.1 = r17.1.1) then
                    some (false, ())
                  else
                    Option.bind (F_laws_toHeap (a0, ())) fun r21 =>
                    Option.bind (F_impl_NewBench (r21.1, ())) fun r22 =>
                    Option.bind (F_laws_eqBench (r22.1, r3.1, ())) fun r23 =>
                    bif !r23.1 then
                      some (false, ())
                    else
                      bif !(r22.2.1 == r3.2.1) then
                        some (false, ())
                      else
                        Option.bind (F_laws_heldBench (((r5.1.1.1, (r5.1.1.2.1, (r5.1.1.2.2.1, r17.2.1.1.2.2.2))), r5.1.2), 1, ())) fun r26 =>
                        bif decide (r26.1 < 0) then
                          some (false, ())
                        else
                          bif !decide (r26.1 = r17.1.1) then
                            some (false, ())
                          else
                            some (true, ()) := by kernel_rfl
noncomputable def P_laws_FnExactNewBench : Ft_laws_FnExactNewBench := hid (runF (X_laws_FnExactNewBench N P_laws_eqBench P_laws_szHeap P_laws_toHeap P_laws_eqHeap P_spec_NewBench P_impl_NewBench P_laws_markHeap P_laws_markBench P_laws_heldBench) B_laws_FnExactNewBench As_laws_FnExactNewBench R_laws_FnExactNewBench M_laws_FnExactNewBench)
theorem h_laws_FnExactNewBench : P_laws_FnExactNewBench = runF (X_laws_FnExactNewBench N P_laws_eqBench P_laws_szHeap P_laws_toHeap P_laws_eqHeap P_spec_NewBench P_impl_NewBench P_laws_markHeap P_laws_markBench P_laws_heldBench) B_laws_FnExactNewBench As_laws_FnExactNewBench R_laws_FnExactNewBench M_laws_FnExactNewBench := hid_eq _
noncomputable def C_laws_FnExactNewBench : Contract := ⟨As_laws_FnExactNewBench, R_laws_FnExactNewBench, M_laws_FnExactNewBench, P_laws_FnExactNewBench⟩
theorem s_laws_FnExactNewBench : Sound Try.prog GG 6 C_laws_FnExactNewBench := by
  unfold C_laws_FnExactNewBench; rw [h_laws_FnExactNewBench]
  exact sound_of_run (fn := Try.f6) hmix hstable (tyOK_of ttOK) (hglob (X_laws_FnExactNewBench N P_laws_eqBench P_laws_szHeap P_laws_toHeap P_laws_eqHeap P_spec_NewBench P_impl_NewBench P_laws_markHeap P_laws_markBench P_laws_heldBench)) (conOK_of (X := X_laws_FnExactNewBench N P_laws_eqBench P_laws_szHeap P_laws_toHeap P_laws_eqHeap P_spec_NewBench P_impl_NewBench P_laws_markHeap P_laws_markBench P_laws_heldBench) ⟨s_laws_eqBench, s_laws_szHeap, s_laws_toHeap, s_laws_eqHeap, s_spec_NewBench, s_impl_NewBench, s_laws_heldBench, trivial⟩) (mconOK_of (X := X_laws_FnExactNewBench N P_laws_eqBench P_laws_szHeap P_laws_toHeap P_laws_eqHeap P_spec_NewBench P_impl_NewBench P_laws_markHeap P_laws_markBench P_laws_heldBench) ⟨s_laws_markHeap, s_laws_markBench, trivial⟩) (by kernel_rfl) (by kernel_rfl) (by kernel_rfl) (by kernel_rfl) (by kernel_rfl) (by decide)
theorem p_laws_FnExactNewBench (a0 : D_Heap) : P_laws_FnExactNewBench (a0, ()) = 
  Option.bind (P_laws_szHeap (a0, 1048576, ())) fun r0 =>
  bif decide (r0.1 < 0) then
    some (true, ())
  else
    Option.bind (P_laws_toHeap (a0, ())) fun r2 =>
    Option.bind (P_spec_NewBench (r2.1, ())) fun r3 =>
    Option.bind (P_laws_toHeap (a0, ())) fun r4 =>
    Option.bind (P_impl_NewBench (r4.1, ())) fun r5 =>
    Option.bind (P_laws_eqBench (r5.1, r3.1, ())) fun r6 =>
    bif !r6.1 then
      some (false, ())
    else
      bif !(r5.2.1 == r3.2.1) then
        some (false, ())
      else
        Option.bind (P_laws_toHeap (a0, ())) fun r9 =>
        Option.bind (P_laws_eqHeap (r4.1, r9.1, ())) fun r10 =>
        bif !r10.1 then
          some (false, ())
        else
          Option.bind (P_laws_markHeap (r4.1, 1, ())) fun r12 =>
          bif decide (r12.1.1 < 0) then
            some (false, ())
          else
            Option.bind (P_laws_eqBench (r5.1, r3.1, ())) fun r14 =>
            bif !r14.1 then
              some (false, ())
            else
              bif !(r5.2.1 == r3.2.1) then
                some (false, ())
              else
                Option.bind (P_laws_markBench (r5.1, 1, ())) fun r17 =>
                Option.bind (P_laws_heldBench (((r5.1.1.1, (r5.1.1.2.1, (r5.1.1.2.2.1, r17.2.1.1.2.2.2))), r5.1.2), 1, ())) fun r18 =>
                bif decide (r18.1 < 0) then
                  some (false, ())
                else
                  bif !decide (r18.1 = r17.1.1) then
                    some (false, ())
                  else
                    Option.bind (P_laws_toHeap (a0, ())) fun r21 =>
                    Option.bind (P_impl_NewBench (r21.1, ())) fun r22 =>
                    Option.bind (P_laws_eqBench (r22.1, r3.1, ())) fun r23 =>
                    bif !r23.1 then
                      some (false, ())
                    else
                      bif !(r22.2.1 == r3.2.1) then
                        some (false, ())
                      else
                        Option.bind (P_laws_heldBench (((r5.1.1.1, (r5.1.1.2.1, (r5.1.1.2.2.1, r17.2.1.1.2.2.2))), r5.1.2), 1, ())) fun r26 =>
                        bif decide (r26.1 < 0) then
                          some (false, ())
                        else
                          bif !decide (r26.1 = r17.1.1) then
                            some (false, ())
                          else
                            some (true, ()) := by
  rewrite [h_laws_FnExactNewBench]
  exact e_laws_FnExactNewBench N P_laws_eqBench P_laws_szHeap P_laws_toHeap P_laws_eqHeap P_spec_NewBench P_impl_NewBench P_laws_markHeap P_laws_markBench P_laws_heldBench a0

/- 100: loop.example/g01166/spec.l2Empty -/
abbrev As_spec_l2Empty : List ATy := [.data false (.int .i64), .data false (.int .i64), .data false (.int .i64)]
abbrev R_spec_l2Empty : List (Bool × Ty) := [(true, T_Heap)]
abbrev M_spec_l2Empty : List RMode := [.own 66]
abbrev Ft_spec_l2Empty : Type := Int × Int × Int × Unit → Option (D_Heap × Unit)
noncomputable def X_spec_l2Empty (n : Nat) : Ctx := { types := TT, globals := [], con := [], keep := [], results := [.cell 6 29], ntmps := 12, n := n }
noncomputable def B_spec_l2Empty : Code := (Try.f100.body).getD .skip
theorem e_spec_l2Empty (n : Nat) (a0 : Int) (a1 : Int) (a2 : Int) : runF (X_spec_l2Empty n) B_spec_l2Empty As_spec_l2Empty R_spec_l2Empty M_spec_l2Empty (a0, a1, a2, ()) = 
  some ((a0, (a1, (a2, (([] : List D_A3), ())))), ()) := by kernel_rfl
noncomputable def P_spec_l2Empty : Ft_spec_l2Empty := hid (runF (X_spec_l2Empty N) B_spec_l2Empty As_spec_l2Empty R_spec_l2Empty M_spec_l2Empty)
theorem h_spec_l2Empty : P_spec_l2Empty = runF (X_spec_l2Empty N) B_spec_l2Empty As_spec_l2Empty R_spec_l2Empty M_spec_l2Empty := hid_eq _
noncomputable def C_spec_l2Empty : Contract := ⟨As_spec_l2Empty, R_spec_l2Empty, M_spec_l2Empty, P_spec_l2Empty⟩
theorem s_spec_l2Empty : Sound Try.prog GG 100 C_spec_l2Empty := by
  unfold C_spec_l2Empty; rw [h_spec_l2Empty]
  exact sound_of_run (fn := Try.f100) hmix hstable (tyOK_of ttOK) (hglob (X_spec_l2Empty N)) (conOK_of (X := X_spec_l2Empty N) trivial) (mconOK_of (X := X_spec_l2Empty N) trivial) (by kernel_rfl) (by kernel_rfl) (by kernel_rfl) (by kernel_rfl) (by kernel_rfl) (by decide)
theorem p_spec_l2Empty (a0 : Int) (a1 : Int) (a2 : Int) : P_spec_l2Empty (a0, a1, a2, ()) = 
  some ((a0, (a1, (a2, (([] : List D_A3), ())))), ()) := by
  rewrite [h_spec_l2Empty]
  exact e_spec_l2Empty N a0 a1 a2

/- 70: loop.example/g01166/spec.l11Box -/
abbrev As_spec_l11Box : List ATy := [.data true T_Heap, .data false (.int .i64), .data false (.int .i64)]
abbrev R_spec_l11Box : List (Bool × Ty) := [(true, T_Heap)]
abbrev M_spec_l11Box : List RMode := [.own 66]
abbrev Ft_spec_l11Box : Type := D_Heap × Int × Int × Unit → Option (D_Heap × Unit)
noncomputable def X_spec_l11Box (n : Nat) (F_spec_l2Empty : Ft_spec_l2Empty) : Ctx := { types := TT, globals := [], con := [(100, ⟨As_spec_l2Empty, R_spec_l2Empty, M_spec_l2Empty, F_spec_l2Empty⟩)], keep := [], results := [.cell 6 29], ntmps := 25, n := n }
noncomputable def B_spec_l11Box : Code := (Try.f70.body).getD .skip
theorem e_spec_l11Box (n : Nat) (F_spec_l2Empty : Ft_spec_l2Empty) (a0 : D_Heap) (a1 : Int) (a2 : Int) : runF (X_spec_l11Box n F_spec_l2Empty) B_spec_l11Box As_spec_l11Box R_spec_l11Box M_spec_l11Box (a0, a1, a2, ()) = 
  bif inB a1 3 then
    Option.bind (F_spec_l2Empty ((bif decide (a1 = (0 : Int)) then a2 else a0.1), (bif decide (a1 = (1 : Int)) then a2 else a0.2.1), (bif decide (a1 = (2 : Int)) then a2 else a0.2.2.1), ())) fun r1 =>
    some (r1.1, ())
  else none := by kernel_rfl
noncomputable def P_spec_l11Box : Ft_spec_l11Box := hid (runF (X_spec_l11Box N P_spec_l2Empty) B_spec_l11Box As_spec_l11Box R_spec_l11Box M_spec_l11Box)
theorem h_spec_l11Box : P_spec_l11Box = runF (X_spec_l11Box N P_spec_l2Empty) B_spec_l11Box As_spec_l11Box R_spec_l11Box M_spec_l11Box := hid_eq _
noncomputable def C_spec_l11Box : Contract := ⟨As_spec_l11Box, R_spec_l11Box, M_spec_l11Box, P_spec_l11Box⟩
theorem s_spec_l11Box : Sound Try.prog GG 70 C_spec_l11Box := by
  unfold C_spec_l11Box; rw [h_spec_l11Box]
  exact sound_of_run (fn := Try.f70) hmix hstable (tyOK_of ttOK) (hglob (X_spec_l11Box N P_spec_l2Empty)) (conOK_of (X := X_spec_l11Box N P_spec_l2Empty) ⟨s_spec_l2Empty, trivial⟩) (mconOK_of (X := X_spec_l11Box N P_spec_l2Empty) trivial) (by kernel_rfl) (by kernel_rfl) (by kernel_rfl) (by kernel_rfl) (by kernel_rfl) (by decide)
theorem p_spec_l11Box (a0 : D_Heap) (a1 : Int) (a2 : Int) : P_spec_l11Box (a0, a1, a2, ()) = 
  bif inB a1 3 then
    Option.bind (P_spec_l2Empty ((bif decide (a1 = (0 : Int)) then a2 else a0.1), (bif decide (a1 = (1 : Int)) then a2 else a0.2.1), (bif decide (a1 = (2 : Int)) then a2 else a0.2.2.1), ())) fun r1 =>
    some (r1.1, ())
  else none := by
  rewrite [h_spec_l11Box]
  exact e_spec_l11Box N P_spec_l2Empty a0 a1 a2

/- 32: loop.example/g01166/spec.CutHeap -/
abbrev As_spec_CutHeap : List ATy := [.data true T_Heap, .data false (.int .i64), .data false (.int .i64)]
abbrev R_spec_CutHeap : List (Bool × Ty) := [(true, T_Heap), (true, T_Heap), (false, .bool)]
abbrev M_spec_CutHeap : List RMode := [.own 66, .own 66]
abbrev Ft_spec_CutHeap : Type := D_Heap × Int × Int × Unit → Option (D_Heap × D_Heap × Bool × Unit)
noncomputable def X_spec_CutHeap (n : Nat) (F_spec_l11Cut : Ft_spec_l11Cut) (F_spec_l2Long : Ft_spec_l2Long) (F_spec_l11Box : Ft_spec_l11Box) : Ctx := { types := TT, globals := [], con := [(58, ⟨As_spec_l11Cut, R_spec_l11Cut, M_spec_l11Cut, F_spec_l11Cut⟩), (65, ⟨As_spec_l2Long, R_spec_l2Long, M_spec_l2Long, F_spec_l2Long⟩), (70, ⟨As_spec_l11Box, R_spec_l11Box, M_spec_l11Box, F_spec_l11Box⟩)], keep := [(5, ⟨[.box 3, .box 6, .box 7, .box 9, .box 10, .tmp 1, .tmp 2, .tmp 3, .tmp 6, .tmp 7, .tmp 9, .tmp 10, .tmp 11], []⟩)], results := [.cell 6 29, .cell 7 29, .tmp 8], ntmps := 70, n := n }
noncomputable def B_spec_CutHeap : Code := (Try.f32.body).getD .skip
noncomputable def L_spec_CutHeap_5 (n : Nat) (F_spec_l11Cut : Ft_spec_l11Cut) (F_spec_l2Long : Ft_spec_l2Long) (F_spec_l11Box : Ft_spec_l11Box) (m0 : Nat) (p0 : Int) (p1 : Int) (p2 : Int) (p3 : List D_A3) (p4 : Int) (p5 : Int) (p6 : Int) (p7 : List D_A3) (p8 : Int) (p9 : Int) (p10 : Int) (p11 : List D_A3) (p12 : Int) (p13 : Int) (p14 : Int) (p15 : List D_A3) (p16 : Int) (p17 : Int) (p18 : Int) (p19 : List D_A3) (p20 : Int) (p21 : Int) (p22 : Int) : Option (denL R_spec_CutHeap) := loopF (X_spec_CutHeap n F_spec_l11Cut F_spec_l2Long F_spec_l11Box) B_spec_CutHeap R_spec_CutHeap M_spec_CutHeap 5 [m0] [(.ver, .num 1), (.box 3, .box 0 false [.int .i64 p0, .int .i64 p1, .int .i64 p2, .imm T_A3 p3 (some 3)]), (.box 6, .box 0 false [.int .i64 p4, .int .i64 p5, .int .i64 p6, .own 66 T_A3 0 p7]), (.box 7, .box 0 false [.int .i64 p8, .int .i64 p9, .int .i64 p10, .own 66 T_A3 0 p11]), (.box 9, .box 0 false [.int .i64 p12, .int .i64 p13, .int .i64 p14, .own 66 T_A3 0 p15]), (.box 10, .box 0 false [.int .i64 p16, .int .i64 p17, .int .i64 p18, .own 66 T_A3 0 p19]), (.tmp 1, .val false [.int .i64 p20]), (.tmp 2, .val false [.int .i64 p21]), (.tmp 3, .val false [.addr 3 0 0]), (.tmp 6, .val false [.addr 6 0 0]), (.tmp 7, .val false [.addr 7 0 0]), (.tmp 9, .val false [.addr 9 0 0]), (.tmp 10, .val false [.addr 10 0 0]), (.tmp 11, .val false [.int .i64 p22])]
theorem e_spec_CutHeap (n : Nat) (F_spec_l11Cut : Ft_spec_l11Cut) (F_spec_l2Long : Ft_spec_l2Long) (F_spec_l11Box : Ft_spec_l11Box) (a0 : D_Heap) (a1 : Int) (a2 : Int) : runF (X_spec_CutHeap n F_spec_l11Cut F_spec_l2Long F_spec_l11Box) B_spec_CutHeap As_spec_CutHeap R_spec_CutHeap M_spec_CutHeap (a0, a1, a2, ()) = 
  Option.bind (F_spec_l11Cut (a0, a1, a2, ())) fun r0 =>
  bif !r0.1 then
    some ((0, (0, (0, (([] : List D_A3), ())))), (0, (0, (0, (([] : List D_A3), ())))), false, ())
  else
    Option.bind (F_spec_l11Box (a0, a1, a2, ())) fun r2 =>
    Option.bind (F_spec_l2Long (a0, a1, ())) fun r3 =>
    Option.bind (F_spec_l11Box (a0, a1, (IntKind.wrap .i64 (r3.1 - a2)), ())) fun r4 =>
    L_spec_CutHeap_5 n F_spec_l11Cut F_spec_l2Long F_spec_l11Box n a0.1 a0.2.1 a0.2.2.1 a0.2.2.2.1 0 0 0 ([] : List D_A3) 0 0 0 ([] : List D_A3) r2.1.1 r2.1.2.1 r2.1.2.2.1 r2.1.2.2.2.1 r4.1.1 r4.1.2.1 r4.1.2.2.1 r4.1.2.2.2.1 a1 a2 0 := by kernel_rfl
theorem e_spec_CutHeap_5 (n : Nat) (F_spec_l11Cut : Ft_spec_l11Cut) (F_spec_l2Long : Ft_spec_l2Long) (F_spec_l11Box : Ft_spec_l11Box) (m0 : Nat) (p0 : Int) (p1 : Int) (p2 : Int) (p3 : List D_A3) (p4 : Int) (p5 : Int) (p6 : Int) (p7 : List D_A3) (p8 : Int) (p9 : Int) (p10 : Int) (p11 : List D_A3) (p12 : Int) (p13 : Int) (p14 : Int) (p15 : List D_A3) (p16 : Int) (p17 : Int) (p18 : Int) (p19 : List D_A3) (p20 : Int) (p21 : Int) (p22 : Int) : L_spec_CutHeap_5 n F_spec_l11Cut F_spec_l2Long F_spec_l11Box (m0 + 1) p0 p1 p2 p3 p4 p5 p6 p7 p8 p9 p10 p11 p12 p13 p14 p15 p16 p17 p18 p19 p20 p21 p22 = 
  bif decide (p22 < (List.length p3 : Int)) then
    bif inB p22 (List.length p3) then
      bif inB p20 3 then
        bif decide ((bif decide (p20 = (0 : Int)) then ((nth T_A3 p3 p22)).1 else (bif decide (p20 = (1 : Int)) then (((nth T_A3 p3 p22)).2).1 else ((((nth T_A3 p3 p22)).2).2).1)) < p21) then
          bif (decide (((List.length p15) + (List.length ([(nth T_A3 p3 p22)] : List D_A3))) * 24 ≤ 140737488355328) && decide (((List.length p15) + (List.length ([(nth T_A3 p3 p22)] : List D_A3))) ≤ 140737488355328)) then
            L_spec_CutHeap_5 n F_spec_l11Cut F_spec_l2Long F_spec_l11Box m0 p0 p1 p2 p3 p4 p5 p6 p7 p8 p9 p10 p11 p12 p13 p14 (p15 ++ ([(nth T_A3 p3 p22)] : List D_A3)) p16 p17 p18 p19 p20 p21 (IntKind.wrap .i64 (p22 + 1))
          else none
        else
          bif inB p20 3 then
            bif inB p20 3 then
              bif (decide (((List.length p19) + (List.length ([((bif decide (p20 = (0 : Int)) then (IntKind.wrap .i64 ((bif decide (p20 = (0 : Int)) then ((nth T_A3 p3 p22)).1 else (bif decide (p20 = (1 : Int)) then (((nth T_A3 p3 p22)).2).1 else ((((nth T_A3 p3 p22)).2).2).1)) - p21)) else ((nth T_A3 p3 p22)).1), ((bif decide (p20 = (1 : Int)) then (IntKind.wrap .i64 ((bif decide (p20 = (0 : Int)) then ((nth T_A3 p3 p22)).1 else (bif decide (p20 = (1 : Int)) then (((nth T_A3 p3 p22)).2).1 else ((((nth T_A3 p3 p22)).2).2).1)) - p21)) else (((nth T_A3 p3 p22)).2).1), ((bif decide (p20 = (2 : Int)) then (IntKind.wrap .i64 ((bif decide (p20 = (0 : Int)) then ((nth T_A3 p3 p22)).1 else (bif decide (p20 = (1 : Int)) then (((nth T_A3 p3 p22)).2).1 else ((((nth T_A3 p3 p22)).2).2).1)) - p21)) else ((((nth T_A3 p3 p22)).2).2).1), ())))] : List D_A3))) * 24 ≤ 140737488355328) && decide (((List.length p19) + (List.length ([((bif decide (p20 = (0 : Int)) then (IntKind.wrap .i64 ((bif decide (p20 = (0 : Int)) then ((nth T_A3 p3 p22)).1 else (bif decide (p20 = (1 : Int)) then (((nth T_A3 p3 p22)).2).1 else ((((nth T_A3 p3 p22)).2).2).1)) - p21)) else ((nth T_A3 p3 p22)).1), ((bif decide (p20 = (1 : Int)) then (IntKind.wrap .i64 ((bif decide (p20 = (0 : Int)) then ((nth T_A3 p3 p22)).1 else (bif decide (p20 = (1 : Int)) then (((nth T_A3 p3 p22)).2).1 else ((((nth T_A3 p3 p22)).2).2).1)) - p21)) else (((nth T_A3 p3 p22)).2).1), ((bif decide (p20 = (2 : Int)) then (IntKind.wrap .i64 ((bif decide (p20 = (0 : Int)) then ((nth T_A3 p3 p22)).1 else (bif decide (p20 = (1 : Int)) then (((nth T_A3 p3 p22)).2).1 else ((((nth T_A3 p3 p22)).2).2).1)) - p21)) else ((((nth T_A3 p3 p22)).2).2).1), ())))] : List D_A3))) ≤ 140737488355328)) then
                L_spec_CutHeap_5 n F_spec_l11Cut F_spec_l2Long F_spec_l11Box m0 p0 p1 p2 p3 p4 p5 p6 p7 p8 p9 p10 p11 p12 p13 p14 p15 p16 p17 p18 (p19 ++ ([((bif decide (p20 = (0 : Int)) then (IntKind.wrap .i64 ((bif decide (p20 = (0 : Int)) then ((nth T_A3 p3 p22)).1 else (bif decide (p20 = (1 : Int)) then (((nth T_A3 p3 p22)).2).1 else ((((nth T_A3 p3 p22)).2).2).1)) - p21)) else ((nth T_A3 p3 p22)).1), ((bif decide (p20 = (1 : Int)) then (IntKind.wrap .i64 ((bif decide (p20 = (0 : Int)) then ((nth T_A3 p3 p22)).1 else (bif decide (p20 = (1 : Int)) then (((nth T_A3 p3 p22)).2).1 else ((((nth T_A3 p3 p22)).2).2).1)) - p21)) else (((nth T_A3 p3 p22)).2).1), ((bif decide (p20 = (2 : Int)) then (IntKind.wrap .i64 ((bif decide (p20 = (0 : Int)) then ((nth T_A3 p3 p22)).1 else (bif decide (p20 = (1 : Int)) then (((nth T_A3 p3 p22)).2).1 else ((((nth T_A3 p3 p22)).2).2).1)) - p21)) else ((((nth T_A3 p3 p22)).2).2).1), ())))] : List D_A3)) p20 p21 (IntKind.wrap .i64 (p22 + 1))
              else none
            else none
          else none
      else none
    else none
  else
    some ((p12, (p13, (p14, (p15, ())))), (p16, (p17, (p18, (p19, ())))), true, ()) := by kernel_rfl
noncomputable def P_spec_CutHeap : Ft_spec_CutHeap := hid (runF (X_spec_CutHeap N P_spec_l11Cut P_spec_l2Long P_spec_l11Box) B_spec_CutHeap As_spec_CutHeap R_spec_CutHeap M_spec_CutHeap)
theorem h_spec_CutHeap : P_spec_CutHeap = runF (X_spec_CutHeap N P_spec_l11Cut P_spec_l2Long P_spec_l11Box) B_spec_CutHeap As_spec_CutHeap R_spec_CutHeap M_spec_CutHeap := hid_eq _
noncomputable def C_spec_CutHeap : Contract := ⟨As_spec_CutHeap, R_spec_CutHeap, M_spec_CutHeap, P_spec_CutHeap⟩
theorem s_spec_CutHeap : Sound Try.prog GG 32 C_spec_CutHeap := by
  unfold C_spec_CutHeap; rw [h_spec_CutHeap]
  exact sound_of_run (fn := Try.f32) hmix hstable (tyOK_of ttOK) (hglob (X_spec_CutHeap N P_spec_l11Cut P_spec_l2Long P_spec_l11Box)) (conOK_of (X := X_spec_CutHeap N P_spec_l11Cut P_spec_l2Long P_spec_l11Box) ⟨s_spec_l11Cut, s_spec_l2Long, s_spec_l11Box, trivial⟩) (mconOK_of (X := X_spec_CutHeap N P_spec_l11Cut P_spec_l2Long P_spec_l11Box) trivial) (by kernel_rfl) (by kernel_rfl) (by kernel_rfl) (by kernel_rfl) (by kernel_rfl) (by decide)
noncomputable def l_spec_CutHeap_5 : Nat → Int → Int → Int → (List D_A3) → Int → Int → Int → (List D_A3) → Int → Int → Int → (List D_A3) → Int → Int → Int → (List D_A3) → Int → Int → Int → (List D_A3) → Int → Int → Int → Option (denL R_spec_CutHeap) := hid (fun m0 p0 p1 p2 p3 p4 p5 p6 p7 p8 p9 p10 p11 p12 p13 p14 p15 p16 p17 p18 p19 p20 p21 p22 => L_spec_CutHeap_5 N P_spec_l11Cut P_spec_l2Long P_spec_l11Box m0 p0 p1 p2 p3 p4 p5 p6 p7 p8 p9 p10 p11 p12 p13 p14 p15 p16 p17 p18 p19 p20 p21 p22)
theorem h_spec_CutHeap_5 : l_spec_CutHeap_5 = fun m0 p0 p1 p2 p3 p4 p5 p6 p7 p8 p9 p10 p11 p12 p13 p14 p15 p16 p17 p18 p19 p20 p21 p22 => L_spec_CutHeap_5 N P_spec_l11Cut P_spec_l2Long P_spec_l11Box m0 p0 p1 p2 p3 p4 p5 p6 p7 p8 p9 p10 p11 p12 p13 p14 p15 p16 p17 p18 p19 p20 p21 p22 := hid_eq _
theorem p_spec_CutHeap (a0 : D_Heap) (a1 : Int) (a2 : Int) : P_spec_CutHeap (a0, a1, a2, ()) = 
  Option.bind (P_spec_l11Cut (a0, a1, a2, ())) fun r0 =>
  bif !r0.1 then
    some ((0, (0, (0, (([] : List D_A3), ())))), (0, (0, (0, (([] : List D_A3), ())))), false, ())
  else
    Option.bind (P_spec_l11Box (a0, a1, a2, ())) fun r2 =>
    Option.bind (P_spec_l2Long (a0, a1, ())) fun r3 =>
    Option.bind (P_spec_l11Box (a0, a1, (IntKind.wrap .i64 (r3.1 - a2)), ())) fun r4 =>
    l_spec_CutHeap_5 N a0.1 a0.2.1 a0.2.2.1 a0.2.2.2.1 0 0 0 ([] : List D_A3) 0 0 0 ([] : List D_A3) r2.1.1 r2.1.2.1 r2.1.2.2.1 r2.1.2.2.2.1 r4.1.1 r4.1.2.1 r4.1.2.2.1 r4.1.2.2.2.1 a1 a2 0 := by
  rewrite [h_spec_CutHeap, h_spec_CutHeap_5]
  exact e_spec_CutHeap N P_spec_l11Cut P_spec_l2Long P_spec_l11Box a0 a1 a2
theorem q_spec_CutHeap_5 (m0 : Nat) (p0 : Int) (p1 : Int) (p2 : Int) (p3 : List D_A3) (p4 : Int) (p5 : Int) (p6 : Int) (p7 : List D_A3) (p8 : Int) (p9 : Int) (p10 : Int) (p11 : List D_A3) (p12 : Int) (p13 : Int) (p14 : Int) (p15 : List D_A3) (p16 : Int) (p17 : Int) (p18 : Int) (p19 : List D_A3) (p20 : Int) (p21 : Int) (p22 : Int) : l_spec_CutHeap_5 (m0 + 1) p0 p1 p2 p3 p4 p5 p6 p7 p8 p9 p10 p11 p12 p13 p14 p15 p16 p17 p18 p19 p20 p21 p22 = 
  bif decide (p22 < (List.length p3 : Int)) then
    bif inB p22 (List.length p3) then
      bif inB p20 3 then
        bif decide ((bif decide (p20 = (0 : Int)) then ((nth T_A3 p3 p22)).1 else (bif decide (p20 = (1 : Int)) then (((nth T_A3 p3 p22)).2).1 else ((((nth T_A3 p3 p22)).2).2).1)) < p21) then
          bif (decide (((List.length p15) + (List.length ([(nth T_A3 p3 p22)] : List D_A3))) * 24 ≤ 140737488355328) && decide (((List.length p15) + (List.length ([(nth T_A3 p3 p22)] : List D_A3))) ≤ 140737488355328)) then
            l_spec_CutHeap_5 m0 p0 p1 p2 p3 p4 p5 p6 p7 p8 p9 p10 p11 p12 p13 p14 (p15 ++ ([(nth T_A3 p3 p22)] : List D_A3)) p16 p17 p18 p19 p20 p21 (IntKind.wrap .i64 (p22 + 1))
          else none
        else
          bif inB p20 3 then
            bif inB p20 3 then
              bif (decide (((List.length p19) + (List.length ([((bif decide (p20 = (0 : Int)) then (IntKind.wrap .i64 ((bif decide (p20 = (0 : Int)) then ((nth T_A3 p3 p22)).1 else (bif decide (p20 = (1 : Int)) then (((nth T_A3 p3 p22)).2).1 else ((((nth T_A3 p3 p22)).2).2).1)) - p21)) else ((nth T_A3 p3 p22)).1), ((bif decide (p20 = (1 : Int)) then (IntKind.wrap .i64 ((bif decide (p20 = (0 : Int)) then ((nth T_A3 p3 p22)).1 else (bif decide (p20 = (1 : Int)) then (((nth T_A3 p3 p22)).2).1 else ((((nth T_A3 p3 p22)).2).2).1)) - p21)) else (((nth T_A3 p3 p22)).2).1), ((bif decide (p20 = (2 : Int)) then (IntKind.wrap .i64 ((bif decide (p20 = (0 : Int)) then ((nth T_A3 p3 p22)).1 else (bif decide (p20 = (1 : Int)) then (((nth T_A3 p3 p22)).2).1 else ((((nth T_A3 p3 p22)).2).2).1)) - p21)) else ((((nth T_A3 p3 p22)).2).2).1), ())))] : List D_A3))) * 24 ≤ 140737488355328) && decide (((List.length p19) + (List.length ([((bif decide (p20 = (0 : Int)) then (IntKind.wrap .i64 ((bif decide (p20 = (0 : Int)) then ((nth T_A3 p3 p22)).1 else (bif decide (p20 = (1 : Int)) then (((nth T_A3 p3 p22)).2).1 else ((((nth T_A3 p3 p22)).2).2).1)) - p21)) else ((nth T_A3 p3 p22)).1), ((bif decide (p20 = (1 : Int)) then (IntKind.wrap .i64 ((bif decide (p20 = (0 : Int)) then ((nth T_A3 p3 p22)).1 else (bif decide (p20 = (1 : Int)) then (((nth T_A3 p3 p22)).2).1 else ((((nth T_A3 p3 p22)).2).2).1)) - p21)) else (((nth T_A3 p3 p22)).2).1), ((bif decide (p20 = (2 : Int)) then (IntKind.wrap .i64 ((bif decide (p20 = (0 : Int)) then ((nth T_A3 p3 p22)).1 else (bif decide (p20 = (1 : Int)) then (((nth T_A3 p3 p22)).2).1 else ((((nth T_A3 p3 p22)).2).2).1)) - p21)) else ((((nth T_A3 p3 p22)).2).2).1), ())))] : List D_A3))) ≤ 140737488355328)) then
                l_spec_CutHeap_5 m0 p0 p1 p2 p3 p4 p5 p6 p7 p8 p9 p10 p11 p12 p13 p14 p15 p16 p17 p18 (p19 ++ ([((bif decide (p20 = (0 : Int)) then (IntKind.wrap .i64 ((bif decide (p20 = (0 : Int)) then ((nth T_A3 p3 p22)).1 else (bif decide (p20 = (1 : Int)) then (((nth T_A3 p3 p22)).2).1 else ((((nth T_A3 p3 p22)).2).2).1)) - p21)) else ((nth T_A3 p3 p22)).1), ((bif decide (p20 = (1 : Int)) then (IntKind.wrap .i64 ((bif decide (p20 = (0 : Int)) then ((nth T_A3 p3 p22)).1 else (bif decide (p20 = (1 : Int)) then (((nth T_A3 p3 p22)).2).1 else ((((nth T_A3 p3 p22)).2).2).1)) - p21)) else (((nth T_A3 p3 p22)).2).1), ((bif decide (p20 = (2 : Int)) then (IntKind.wrap .i64 ((bif decide (p20 = (0 : Int)) then ((nth T_A3 p3 p22)).1 else (bif decide (p20 = (1 : Int)) then (((nth T_A3 p3 p22)).2).1 else ((((nth T_A3 p3 p22)).2).2).1)) - p21)) else ((((nth T_A3 p3 p22)).2).2).1), ())))] : List D_A3)) p20 p21 (IntKind.wrap .i64 (p22 + 1))
              else none
            else none
          else none
      else none
    else none
  else
    some ((p12, (p13, (p14, (p15, ())))), (p16, (p17, (p18, (p19, ())))), true, ()) := by
  rewrite [h_spec_CutHeap_5]
  exact e_spec_CutHeap_5 N P_spec_l11Cut P_spec_l2Long P_spec_l11Box m0 p0 p1 p2 p3 p4 p5 p6 p7 p8 p9 p10 p11 p12 p13 p14 p15 p16 p17 p18 p19 p20 p21 p22

/- 110: (loop.example/g01166/impl.box).size -/
abbrev As_box_size : List ATy := [.data true T_A3]
abbrev R_box_size : List (Bool × Ty) := [(false, (.int .i64))]
abbrev M_box_size : List RMode := []
abbrev Ft_box_size : Type := D_A3 × Unit → Option (Int × Unit)
noncomputable def X_box_size (n : Nat) : Ctx := { types := TT, globals := [], con := [], keep := [], results := [.tmp 2], ntmps := 11, n := n }
noncomputable def B_box_size : Code := (Try.f110.body).getD .skip
theorem e_box_size (n : Nat) (a0 : D_A3) : runF (X_box_size n) B_box_size As_box_size R_box_size M_box_size (a0, ()) = 
  some ((IntKind.wrap .i64 ((IntKind.wrap .i64 (a0.1 * a0.2.1)) * a0.2.2.1)), ()) := by kernel_rfl
noncomputable def P_box_size : Ft_box_size := hid (runF (X_box_size N) B_box_size As_box_size R_box_size M_box_size)
theorem h_box_size : P_box_size = runF (X_box_size N) B_box_size As_box_size R_box_size M_box_size := hid_eq _
noncomputable def C_box_size : Contract := ⟨As_box_size, R_box_size, M_box_size, P_box_size⟩
theorem s_box_size : Sound Try.prog GG 110 C_box_size := by
  unfold C_box_size; rw [h_box_size]
  exact sound_of_run (fn := Try.f110) hmix hstable (tyOK_of ttOK) (hglob (X_box_size N)) (conOK_of (X := X_box_size N) trivial) (mconOK_of (X := X_box_size N) trivial) (by kernel_rfl) (by kernel_rfl) (by kernel_rfl) (by kernel_rfl) (by kernel_rfl) (by decide)
theorem p_box_size (a0 : D_A3) : P_box_size (a0, ()) = 
  some ((IntKind.wrap .i64 ((IntKind.wrap .i64 (a0.1 * a0.2.1)) * a0.2.2.1)), ()) := by
  rewrite [h_box_size]
  exact e_box_size N a0

/- 111: (loop.example/g01166/impl.box).cell -/
abbrev As_box_cell : List ATy := [.data true T_A3, .data false (.int .i64)]
abbrev R_box_cell : List (Bool × Ty) := [(true, T_A3)]
abbrev M_box_cell : List RMode := []
abbrev Ft_box_cell : Type := D_A3 × Int × Unit → Option (D_A3 × Unit)
noncomputable def X_box_cell (n : Nat) : Ctx := { types := TT, globals := [], con := [], keep := [], results := [.cell 4 66], ntmps := 24, n := n }
noncomputable def B_box_cell : Code := (Try.f111.body).getD .skip
theorem e_box_cell (n : Nat) (a0 : D_A3) (a1 : Int) : runF (X_box_cell n) B_box_cell As_box_cell R_box_cell M_box_cell (a0, a1, ()) = 
  bif !decide (a0.2.2.1 = 0) then
    bif !decide (a0.2.1 = 0) then
      bif !decide (a0.2.2.1 = 0) then
        bif !decide (a0.2.1 = 0) then
          bif !decide (a0.2.2.1 = 0) then
            some (((IntKind.wrap .i64 (Int.tdiv (IntKind.wrap .i64 (Int.tdiv a1 a0.2.2.1)) a0.2.1)), ((Int.tmod (IntKind.wrap .i64 (Int.tdiv a1 a0.2.2.1)) a0.2.1), ((Int.tmod a1 a0.2.2.1), ()))), ())
          else none
        else none
      else none
    else none
  else none := by kernel_rfl
noncomputable def P_box_cell : Ft_box_cell := hid (runF (X_box_cell N) B_box_cell As_box_cell R_box_cell M_box_cell)
theorem h_box_cell : P_box_cell = runF (X_box_cell N) B_box_cell As_box_cell R_box_cell M_box_cell := hid_eq _
noncomputable def C_box_cell : Contract := ⟨As_box_cell, R_box_cell, M_box_cell, P_box_cell⟩
theorem s_box_cell : Sound Try.prog GG 111 C_box_cell := by
  unfold C_box_cell; rw [h_box_cell]
  exact sound_of_run (fn := Try.f111) hmix hstable (tyOK_of ttOK) (hglob (X_box_cell N)) (conOK_of (X := X_box_cell N) trivial) (mconOK_of (X := X_box_cell N) trivial) (by kernel_rfl) (by kernel_rfl) (by kernel_rfl) (by kernel_rfl) (by kernel_rfl) (by decide)
theorem p_box_cell (a0 : D_A3) (a1 : Int) : P_box_cell (a0, a1, ()) = 
  bif !decide (a0.2.2.1 = 0) then
    bif !decide (a0.2.1 = 0) then
      bif !decide (a0.2.2.1 = 0) then
        bif !decide (a0.2.1 = 0) then
          bif !decide (a0.2.2.1 = 0) then
            some (((IntKind.wrap .i64 (Int.tdiv (IntKind.wrap .i64 (Int.tdiv a1 a0.2.2.1)) a0.2.1)), ((Int.tmod (IntKind.wrap .i64 (Int.tdiv a1 a0.2.2.1)) a0.2.1), ((Int.tmod a1 a0.2.2.1), ()))), ())
          else none
        else none
      else none
    else none
  else none := by
  rewrite [h_box_cell]
  exact e_box_cell N a0 a1

/- 101: (loop.example/g01166/impl.box).list -/
abbrev As_box_list : List ATy := [.data true T_A3, .data false (.int .u64)]
abbrev R_box_list : List (Bool × Ty) := [(false, (.sl T_A3))]
abbrev M_box_list : List RMode := [.own 66]
abbrev Ft_box_list : Type := D_A3 × Int × Unit → Option ((List D_A3) × Unit)
noncomputable def X_box_list (n : Nat) (F_set_has : Ft_set_has) (F_box_size : Ft_box_size) (F_box_cell : Ft_box_cell) : Ctx := { types := TT, globals := [], con := [(108, ⟨As_set_has, R_set_has, M_set_has, F_set_has⟩), (110, ⟨As_box_size, R_box_size, M_box_size, F_box_size⟩), (111, ⟨As_box_cell, R_box_cell, M_box_cell, F_box_cell⟩)], keep := [(3, ⟨[.box 2, .tmp 1, .tmp 2, .tmp 5, .tmp 9, .tmp 10], []⟩)], results := [.tmp 4], ntmps := 24, n := n }
noncomputable def B_box_list : Code := (Try.f101.body).getD .skip
noncomputable def L_box_list_3 (n : Nat) (F_set_has : Ft_set_has) (F_box_size : Ft_box_size) (F_box_cell : Ft_box_cell) (m0 : Nat) (p0 : Int) (p1 : Int) (p2 : Int) (p3 : Int) (p4 : List D_A3) (p5 : Int) (p6 : Int) : Option (denL R_box_list) := loopF (X_box_list n F_set_has F_box_size F_box_cell) B_box_list R_box_list M_box_list 3 [m0] [(.ver, .num 1), (.box 2, .box 0 false [.int .i64 p0, .int .i64 p1, .int .i64 p2]), (.tmp 1, .val false [.int .u64 p3]), (.tmp 2, .val false [.addr 2 0 0]), (.tmp 5, .val false [.own 66 T_A3 0 p4]), (.tmp 9, .val false [.int .i64 p5]), (.tmp 10, .val false [.int .i64 p6])]
theorem e_box_list (n : Nat) (F_set_has : Ft_set_has) (F_box_size : Ft_box_size) (F_box_cell : Ft_box_cell) (a0 : D_A3) (a1 : Int) : runF (X_box_list n F_set_has F_box_size F_box_cell) B_box_list As_box_list R_box_list M_box_list (a0, a1, ()) = 
  Option.bind (F_box_size (a0, ())) fun r0 =>
  L_box_list_3 n F_set_has F_box_size F_box_cell n a0.1 a0.2.1 a0.2.2.1 a1 ([] : List D_A3) r0.1 0 := by kernel_rfl
theorem e_box_list_3 (n : Nat) (F_set_has : Ft_set_has) (F_box_size : Ft_box_size) (F_box_cell : Ft_box_cell) (m0 : Nat) (p0 : Int) (p1 : Int) (p2 : Int) (p3 : Int) (p4 : List D_A3) (p5 : Int) (p6 : Int) : L_box_list_3 n F_set_has F_box_size F_box_cell (m0 + 1) p0 p1 p2 p3 p4 p5 p6 = 
  bif decide (p6 < p5) then
    Option.bind (F_set_has (p3, p6, ())) fun r1 =>
    bif r1.1 then
      Option.bind (F_box_cell ((p0, (p1, (p2, ()))), p6, ())) fun r3 =>
      bif (decide (((List.length p4) + (List.length ([r3.1] : List D_A3))) * 24 ≤ 140737488355328) && decide (((List.length p4) + (List.length ([r3.1] : List D_A3))) ≤ 140737488355328)) then
        L_box_list_3 n F_set_has F_box_size F_box_cell m0 p0 p1 p2 p3 (p4 ++ ([r3.1] : List D_A3)) p5 (IntKind.wrap .i64 (p6 + 1))
      else none
    else
      L_box_list_3 n F_set_has F_box_size F_box_cell m0 p0 p1 p2 p3 p4 p5 (IntKind.wrap .i64 (p6 + 1))
  else
    some (p4, ()) := by kernel_rfl
noncomputable def P_box_list : Ft_box_list := hid (runF (X_box_list N P_set_has P_box_size P_box_cell) B_box_list As_box_list R_box_list M_box_list)
theorem h_box_list : P_box_list = runF (X_box_list N P_set_has P_box_size P_box_cell) B_box_list As_box_list R_box_list M_box_list := hid_eq _
noncomputable def C_box_list : Contract := ⟨As_box_list, R_box_list, M_box_list, P_box_list⟩
theorem s_box_list : Sound Try.prog GG 101 C_box_list := by
  unfold C_box_list; rw [h_box_list]
  exact sound_of_run (fn := Try.f101) hmix hstable (tyOK_of ttOK) (hglob (X_box_list N P_set_has P_box_size P_box_cell)) (conOK_of (X := X_box_list N P_set_has P_box_size P_box_cell) ⟨s_set_has, s_box_size, s_box_cell, trivial⟩) (mconOK_of (X := X_box_list N P_set_has P_box_size P_box_cell) trivial) (by kernel_rfl) (by kernel_rfl) (by kernel_rfl) (by kernel_rfl) (by kernel_rfl) (by decide)
noncomputable def l_box_list_3 : Nat → Int → Int → Int → Int → (List D_A3) → Int → Int → Option (denL R_box_list) := hid (fun m0 p0 p1 p2 p3 p4 p5 p6 => L_box_list_3 N P_set_has P_box_size P_box_cell m0 p0 p1 p2 p3 p4 p5 p6)
theorem h_box_list_3 : l_box_list_3 = fun m0 p0 p1 p2 p3 p4 p5 p6 => L_box_list_3 N P_set_has P_box_size P_box_cell m0 p0 p1 p2 p3 p4 p5 p6 := hid_eq _
theorem p_box_list (a0 : D_A3) (a1 : Int) : P_box_list (a0, a1, ()) = 
  Option.bind (P_box_size (a0, ())) fun r0 =>
  l_box_list_3 N a0.1 a0.2.1 a0.2.2.1 a1 ([] : List D_A3) r0.1 0 := by
  rewrite [h_box_list, h_box_list_3]
  exact e_box_list N P_set_has P_box_size P_box_cell a0 a1
theorem q_box_list_3 (m0 : Nat) (p0 : Int) (p1 : Int) (p2 : Int) (p3 : Int) (p4 : List D_A3) (p5 : Int) (p6 : Int) : l_box_list_3 (m0 + 1) p0 p1 p2 p3 p4 p5 p6 = 
  bif decide (p6 < p5) then
    Option.bind (P_set_has (p3, p6, ())) fun r1 =>
    bif r1.1 then
      Option.bind (P_box_cell ((p0, (p1, (p2, ()))), p6, ())) fun r3 =>
      bif (decide (((List.length p4) + (List.length ([r3.1] : List D_A3))) * 24 ≤ 140737488355328) && decide (((List.length p4) + (List.length ([r3.1] : List D_A3))) ≤ 140737488355328)) then
        l_box_list_3 m0 p0 p1 p2 p3 (p4 ++ ([r3.1] : List D_A3)) p5 (IntKind.wrap .i64 (p6 + 1))
      else none
    else
      l_box_list_3 m0 p0 p1 p2 p3 p4 p5 (IntKind.wrap .i64 (p6 + 1))
  else
    some (p4, ()) := by
  rewrite [h_box_list_3]
  exact e_box_list_3 N P_set_has P_box_size P_box_cell m0 p0 p1 p2 p3 p4 p5 p6

/- 72: (loop.example/g01166/impl.box).heap -/
abbrev As_box_heap : List ATy := [.data true T_A3, .data false (.int .u64)]
abbrev R_box_heap : List (Bool × Ty) := [(true, T_Heap)]
abbrev M_box_heap : List RMode := [.own 66]
abbrev Ft_box_heap : Type := D_A3 × Int × Unit → Option (D_Heap × Unit)
noncomputable def X_box_heap (n : Nat) (F_box_list : Ft_box_list) : Ctx := { types := TT, globals := [], con := [(101, ⟨As_box_list, R_box_list, M_box_list, F_box_list⟩)], keep := [], results := [.cell 4 29], ntmps := 15, n := n }
noncomputable def B_box_heap : Code := (Try.f72.body).getD .skip
theorem e_box_heap (n : Nat) (F_box_list : Ft_box_list) (a0 : D_A3) (a1 : Int) : runF (X_box_heap n F_box_list) B_box_heap As_box_heap R_box_heap M_box_heap (a0, a1, ()) = 
  Option.bind (F_box_list (a0, a1, ())) fun r0 =>
  some ((a0.1, (a0.2.1, (a0.2.2.1, (r0.1, ())))), ()) := by kernel_rfl
noncomputable def P_box_heap : Ft_box_heap := hid (runF (X_box_heap N P_box_list) B_box_heap As_box_heap R_box_heap M_box_heap)
theorem h_box_heap : P_box_heap = runF (X_box_heap N P_box_list) B_box_heap As_box_heap R_box_heap M_box_heap := hid_eq _
noncomputable def C_box_heap : Contract := ⟨As_box_heap, R_box_heap, M_box_heap, P_box_heap⟩
theorem s_box_heap : Sound Try.prog GG 72 C_box_heap := by
  unfold C_box_heap; rw [h_box_heap]
  exact sound_of_run (fn := Try.f72) hmix hstable (tyOK_of ttOK) (hglob (X_box_heap N P_box_list)) (conOK_of (X := X_box_heap N P_box_list) ⟨s_box_list, trivial⟩) (mconOK_of (X := X_box_heap N P_box_list) trivial) (by kernel_rfl) (by kernel_rfl) (by kernel_rfl) (by kernel_rfl) (by kernel_rfl) (by decide)
theorem p_box_heap (a0 : D_A3) (a1 : Int) : P_box_heap (a0, a1, ()) = 
  Option.bind (P_box_list (a0, a1, ())) fun r0 =>
  some ((a0.1, (a0.2.1, (a0.2.2.1, (r0.1, ())))), ()) := by
  rewrite [h_box_heap]
  exact e_box_heap N P_box_list a0 a1

/- 33: loop.example/g01166/impl.CutHeap -/
abbrev As_impl_CutHeap : List ATy := [.data true T_Heap, .data false (.int .i64), .data false (.int .i64)]
abbrev R_impl_CutHeap : List (Bool × Ty) := [(true, T_Heap), (true, T_Heap), (false, .bool)]
abbrev M_impl_CutHeap : List RMode := [.own 66, .own 66]
abbrev Ft_impl_CutHeap : Type := D_Heap × Int × Int × Unit → Option (D_Heap × D_Heap × Bool × Unit)
noncomputable def X_impl_CutHeap (n : Nat) (F_impl_IsHeap : Ft_impl_IsHeap) (F_Heap_isCut : Ft_Heap_isCut) (F_Heap_box : Ft_Heap_box) (F_box_index : Ft_box_index) (F_box_heap : Ft_box_heap) : Ctx := { types := TT, globals := [], con := [(55, ⟨As_impl_IsHeap, R_impl_IsHeap, M_impl_IsHeap, F_impl_IsHeap⟩), (61, ⟨As_Heap_isCut, R_Heap_isCut, M_Heap_isCut, F_Heap_isCut⟩), (66, ⟨As_Heap_box, R_Heap_box, M_Heap_box, F_Heap_box⟩), (71, ⟨As_box_index, R_box_index, M_box_index, F_box_index⟩), (72, ⟨As_box_heap, R_box_heap, M_box_heap, F_box_heap⟩)], keep := [(7, ⟨[.box 6, .box 7, .box 9, .box 10, .tmp 1, .tmp 2, .tmp 6, .tmp 7, .tmp 9, .tmp 10, .tmp 11, .tmp 12, .tmp 42, .tmp 43, .tmp 44], []⟩)], results := [.cell 6 29, .cell 7 29, .tmp 8], ntmps := 78, n := n }
noncomputable def B_impl_CutHeap : Code := (Try.f33.body).getD .skip
noncomputable def L_impl_CutHeap_7 (n : Nat) (F_impl_IsHeap : Ft_impl_IsHeap) (F_Heap_isCut : Ft_Heap_isCut) (F_Heap_box : Ft_Heap_box) (F_box_index : Ft_box_index) (F_box_heap : Ft_box_heap) (m0 : Nat) (p0 : Int) (p1 : Int) (p2 : Int) (p3 : List D_A3) (p4 : Int) (p5 : Int) (p6 : Int) (p7 : List D_A3) (p8 : Int) (p9 : Int) (p10 : Int) (p11 : Int) (p12 : Int) (p13 : Int) (p14 : Int) (p15 : Int) (p16 : Int) (p17 : Int) (p18 : List D_A3) (p19 : Int) (p20 : Int) : Option (denL R_impl_CutHeap) := loopF (X_impl_CutHeap n F_impl_IsHeap F_Heap_isCut F_Heap_box F_box_index F_box_heap) B_impl_CutHeap R_impl_CutHeap M_impl_CutHeap 7 [m0] [(.ver, .num 1), (.box 6, .box 0 false [.int .i64 p0, .int .i64 p1, .int .i64 p2, .own 66 T_A3 0 p3]), (.box 7, .box 0 false [.int .i64 p4, .int .i64 p5, .int .i64 p6, .own 66 T_A3 0 p7]), (.box 9, .box 0 false [.int .i64 p8, .int .i64 p9, .int .i64 p10]), (.box 10, .box 0 false [.int .i64 p11, .int .i64 p12, .int .i64 p13]), (.tmp 1, .val false [.int .i64 p14]), (.tmp 2, .val false [.int .i64 p15]), (.tmp 6, .val false [.addr 6 0 0]), (.tmp 7, .val false [.addr 7 0 0]), (.tmp 9, .val false [.addr 9 0 0]), (.tmp 10, .val false [.addr 10 0 0]), (.tmp 11, .val false [.int .u64 p16]), (.tmp 12, .val false [.int .u64 p17]), (.tmp 42, .val false [.imm T_A3 p18 (some 3)]), (.tmp 43, .val false [.int .i64 p19]), (.tmp 44, .val false [.int .i64 p20])]
theorem e_impl_CutHeap (n : Nat) (F_impl_IsHeap : Ft_impl_IsHeap) (F_Heap_isCut : Ft_Heap_isCut) (F_Heap_box : Ft_Heap_box) (F_box_index : Ft_box_index) (F_box_heap : Ft_box_heap) (a0 : D_Heap) (a1 : Int) (a2 : Int) : runF (X_impl_CutHeap n F_impl_IsHeap F_Heap_isCut F_Heap_box F_box_index F_box_heap) B_impl_CutHeap As_impl_CutHeap R_impl_CutHeap M_impl_CutHeap (a0, a1, a2, ()) = 
  Option.bind (F_impl_IsHeap (a0, ())) fun r0 =>
  bif !r0.1 then
    some ((0, (0, (0, (([] : List D_A3), ())))), (0, (0, (0, (([] : List D_A3), ())))), false, ())
  else
    Option.bind (F_Heap_isCut (a0, a1, a2, ())) fun r2 =>
    bif !r2.1 then
      some ((0, (0, (0, (([] : List D_A3), ())))), (0, (0, (0, (([] : List D_A3), ())))), false, ())
    else
      Option.bind (F_Heap_box (a0, ())) fun r4 =>
      Option.bind (F_Heap_box (a0, ())) fun r5 =>
      bif inB a1 3 then
        bif inB a1 3 then
          bif inB a1 3 then
            L_impl_CutHeap_7 n F_impl_IsHeap F_Heap_isCut F_Heap_box F_box_index F_box_heap n 0 0 0 ([] : List D_A3) 0 0 0 ([] : List D_A3) (bif decide (a1 = (0 : Int)) then a2 else r4.1.1) (bif decide (a1 = (1 : Int)) then a2 else r4.1.2.1) (bif decide (a1 = (2 : Int)) then a2 else r4.1.2.2.1) (bif decide (a1 = (0 : Int)) then (IntKind.wrap .i64 ((bif decide (a1 = (0 : Int)) then r5.1.1 else (bif decide (a1 = (1 : Int)) then r5.1.2.1 else r5.1.2.2.1)) - a2)) else r5.1.1) (bif decide (a1 = (1 : Int)) then (IntKind.wrap .i64 ((bif decide (a1 = (0 : Int)) then r5.1.1 else (bif decide (a1 = (1 : Int)) then r5.1.2.1 else r5.1.2.2.1)) - a2)) else r5.1.2.1) (bif decide (a1 = (2 : Int)) then (IntKind.wrap .i64 ((bif decide (a1 = (0 : Int)) then r5.1.1 else (bif decide (a1 = (1 : Int)) then r5.1.2.1 else r5.1.2.2.1)) - a2)) else r5.1.2.2.1) a1 a2 0 0 a0.2.2.2.1 (List.length a0.2.2.2.1 : Int) 0
          else none
        else none
      else none := by kernel_rfl
theorem e_impl_CutHeap_7 (n : Nat) (F_impl_IsHeap : Ft_impl_IsHeap) (F_Heap_isCut : Ft_Heap_isCut) (F_Heap_box : Ft_Heap_box) (F_box_index : Ft_box_index) (F_box_heap : Ft_box_heap) (m0 : Nat) (p0 : Int) (p1 : Int) (p2 : Int) (p3 : List D_A3) (p4 : Int) (p5 : Int) (p6 : Int) (p7 : List D_A3) (p8 : Int) (p9 : Int) (p10 : Int) (p11 : Int) (p12 : Int) (p13 : Int) (p14 : Int) (p15 : Int) (p16 : Int) (p17 : Int) (p18 : List D_A3) (p19 : Int) (p20 : Int) : L_impl_CutHeap_7 n F_impl_IsHeap F_Heap_isCut F_Heap_box F_box_index F_box_heap (m0 + 1) p0 p1 p2 p3 p4 p5 p6 p7 p8 p9 p10 p11 p12 p13 p14 p15 p16 p17 p18 p19 p20 = 
  bif decide (p20 < p19) then
    bif inB p20 (List.length p18) then
      bif inB p14 3 then
        bif decide ((bif decide (p14 = (0 : Int)) then ((nth T_A3 p18 p20)).1 else (bif decide (p14 = (1 : Int)) then (((nth T_A3 p18 p20)).2).1 else ((((nth T_A3 p18 p20)).2).2).1)) < p15) then
          Option.bind (F_box_index ((p8, (p9, (p10, ()))), (nth T_A3 p18 p20), ())) fun r4 =>
          bif decide ((0 : Int) ≤ r4.1) then
            L_impl_CutHeap_7 n F_impl_IsHeap F_Heap_isCut F_Heap_box F_box_index F_box_heap m0 p0 p1 p2 p3 p4 p5 p6 p7 p8 p9 p10 p11 p12 p13 p14 p15 (intBits .or .u64 p16 (shlI .u64 1 r4.1)) p17 p18 p19 (IntKind.wrap .i64 (p20 + 1))
          else none
        else
          bif inB p14 3 then
            bif inB p14 3 then
              Option.bind (F_box_index ((p11, (p12, (p13, ()))), ((bif decide (p14 = (0 : Int)) then (IntKind.wrap .i64 ((bif decide (p14 = (0 : Int)) then ((nth T_A3 p18 p20)).1 else (bif decide (p14 = (1 : Int)) then (((nth T_A3 p18 p20)).2).1 else ((((nth T_A3 p18 p20)).2).2).1)) - p15)) else ((nth T_A3 p18 p20)).1), ((bif decide (p14 = (1 : Int)) then (IntKind.wrap .i64 ((bif decide (p14 = (0 : Int)) then ((nth T_A3 p18 p20)).1 else (bif decide (p14 = (1 : Int)) then (((nth T_A3 p18 p20)).2).1 else ((((nth T_A3 p18 p20)).2).2).1)) - p15)) else (((nth T_A3 p18 p20)).2).1), ((bif decide (p14 = (2 : Int)) then (IntKind.wrap .i64 ((bif decide (p14 = (0 : Int)) then ((nth T_A3 p18 p20)).1 else (bif decide (p14 = (1 : Int)) then (((nth T_A3 p18 p20)).2).1 else ((((nth T_A3 p18 p20)).2).2).1)) - p15)) else ((((nth T_A3 p18 p20)).2).2).1), ()))), ())) fun r6 =>
              bif decide ((0 : Int) ≤ r6.1) then
                L_impl_CutHeap_7 n F_impl_IsHeap F_Heap_isCut F_Heap_box F_box_index F_box_heap m0 p0 p1 p2 p3 p4 p5 p6 p7 p8 p9 p10 p11 p12 p13 p14 p15 p16 (intBits .or .u64 p17 (shlI .u64 1 r6.1)) p18 p19 (IntKind.wrap .i64 (p20 + 1))
              else none
            else none
          else none
      else none
    else none
  else
    Option.bind (F_box_heap ((p8, (p9, (p10, ()))), p16, ())) fun r1 =>
    Option.bind (F_box_heap ((p11, (p12, (p13, ()))), p17, ())) fun r2 =>
    some (r1.1, r2.1, true, ()) := by kernel_rfl
noncomputable def P_impl_CutHeap : Ft_impl_CutHeap := hid (runF (X_impl_CutHeap N P_impl_IsHeap P_Heap_isCut P_Heap_box P_box_index P_box_heap) B_impl_CutHeap As_impl_CutHeap R_impl_CutHeap M_impl_CutHeap)
theorem h_impl_CutHeap : P_impl_CutHeap = runF (X_impl_CutHeap N P_impl_IsHeap P_Heap_isCut P_Heap_box P_box_index P_box_heap) B_impl_CutHeap As_impl_CutHeap R_impl_CutHeap M_impl_CutHeap := hid_eq _
noncomputable def C_impl_CutHeap : Contract := ⟨As_impl_CutHeap, R_impl_CutHeap, M_impl_CutHeap, P_impl_CutHeap⟩
theorem s_impl_CutHeap : Sound Try.prog GG 33 C_impl_CutHeap := by
  unfold C_impl_CutHeap; rw [h_impl_CutHeap]
  exact sound_of_run (fn := Try.f33) hmix hstable (tyOK_of ttOK) (hglob (X_impl_CutHeap N P_impl_IsHeap P_Heap_isCut P_Heap_box P_box_index P_box_heap)) (conOK_of (X := X_impl_CutHeap N P_impl_IsHeap P_Heap_isCut P_Heap_box P_box_index P_box_heap) ⟨s_impl_IsHeap, s_Heap_isCut, s_Heap_box, s_box_index, s_box_heap, trivial⟩) (mconOK_of (X := X_impl_CutHeap N P_impl_IsHeap P_Heap_isCut P_Heap_box P_box_index P_box_heap) trivial) (by kernel_rfl) (by kernel_rfl) (by kernel_rfl) (by kernel_rfl) (by kernel_rfl) (by decide)
noncomputable def l_impl_CutHeap_7 : Nat → Int → Int → Int → (List D_A3) → Int → Int → Int → (List D_A3) → Int → Int → Int → Int → Int → Int → Int → Int → Int → Int → (List D_A3) → Int → Int → Option (denL R_impl_CutHeap) := hid (fun m0 p0 p1 p2 p3 p4 p5 p6 p7 p8 p9 p10 p11 p12 p13 p14 p15 p16 p17 p18 p19 p20 => L_impl_CutHeap_7 N P_impl_IsHeap P_Heap_isCut P_Heap_box P_box_index P_box_heap m0 p0 p1 p2 p3 p4 p5 p6 p7 p8 p9 p10 p11 p12 p13 p14 p15 p16 p17 p18 p19 p20)
theorem h_impl_CutHeap_7 : l_impl_CutHeap_7 = fun m0 p0 p1 p2 p3 p4 p5 p6 p7 p8 p9 p10 p11 p12 p13 p14 p15 p16 p17 p18 p19 p20 => L_impl_CutHeap_7 N P_impl_IsHeap P_Heap_isCut P_Heap_box P_box_index P_box_heap m0 p0 p1 p2 p3 p4 p5 p6 p7 p8 p9 p10 p11 p12 p13 p14 p15 p16 p17 p18 p19 p20 := hid_eq _
theorem p_impl_CutHeap (a0 : D_Heap) (a1 : Int) (a2 : Int) : P_impl_CutHeap (a0, a1, a2, ()) = 
  Option.bind (P_impl_IsHeap (a0, ())) fun r0 =>
  bif !r0.1 then
    some ((0, (0, (0, (([] : List D_A3), ())))), (0, (0, (0, (([] : List D_A3), ())))), false, ())
  else
    Option.bind (P_Heap_isCut (a0, a1, a2, ())) fun r2 =>
    bif !r2.1 then
      some ((0, (0, (0, (([] : List D_A3), ())))), (0, (0, (0, (([] : List D_A3), ())))), false, ())
    else
      Option.bind (P_Heap_box (a0, ())) fun r4 =>
      Option.bind (P_Heap_box (a0, ())) fun r5 =>
      bif inB a1 3 then
        bif inB a1 3 then
          bif inB a1 3 then
            l_impl_CutHeap_7 N 0 0 0 ([] : List D_A3) 0 0 0 ([] : List D_A3) (bif decide (a1 = (0 : Int)) then a2 else r4.1.1) (bif decide (a1 = (1 : Int)) then a2 else r4.1.2.1) (bif decide (a1 = (2 : Int)) then a2 else r4.1.2.2.1) (bif decide (a1 = (0 : Int)) then (IntKind.wrap .i64 ((bif decide (a1 = (0 : Int)) then r5.1.1 else (bif decide (a1 = (1 : Int)) then r5.1.2.1 else r5.1.2.2.1)) - a2)) else r5.1.1) (bif decide (a1 = (1 : Int)) then (IntKind.wrap .i64 ((bif decide (a1 = (0 : Int)) then r5.1.1 else (bif decide (a1 = (1 : Int)) then r5.1.2.1 else r5.1.2.2.1)) - a2)) else r5.1.2.1) (bif decide (a1 = (2 : Int)) then (IntKind.wrap .i64 ((bif decide (a1 = (0 : Int)) then r5.1.1 else (bif decide (a1 = (1 : Int)) then r5.1.2.1 else r5.1.2.2.1)) - a2)) else r5.1.2.2.1) a1 a2 0 0 a0.2.2.2.1 (List.length a0.2.2.2.1 : Int) 0
          else none
        else none
      else none := by
  rewrite [h_impl_CutHeap, h_impl_CutHeap_7]
  exact e_impl_CutHeap N P_impl_IsHeap P_Heap_isCut P_Heap_box P_box_index P_box_heap a0 a1 a2
theorem q_impl_CutHeap_7 (m0 : Nat) (p0 : Int) (p1 : Int) (p2 : Int) (p3 : List D_A3) (p4 : Int) (p5 : Int) (p6 : Int) (p7 : List D_A3) (p8 : Int) (p9 : Int) (p10 : Int) (p11 : Int) (p12 : Int) (p13 : Int) (p14 : Int) (p15 : Int) (p16 : Int) (p17 : Int) (p18 : List D_A3) (p19 : Int) (p20 : Int) : l_impl_CutHeap_7 (m0 + 1) p0 p1 p2 p3 p4 p5 p6 p7 p8 p9 p10 p11 p12 p13 p14 p15 p16 p17 p18 p19 p20 = 
  bif decide (p20 < p19) then
    bif inB p20 (List.length p18) then
      bif inB p14 3 then
        bif decide ((bif decide (p14 = (0 : Int)) then ((nth T_A3 p18 p20)).1 else (bif decide (p14 = (1 : Int)) then (((nth T_A3 p18 p20)).2).1 else ((((nth T_A3 p18 p20)).2).2).1)) < p15) then
          Option.bind (P_box_index ((p8, (p9, (p10, ()))), (nth T_A3 p18 p20), ())) fun r4 =>
          bif decide ((0 : Int) ≤ r4.1) then
            l_impl_CutHeap_7 m0 p0 p1 p2 p3 p4 p5 p6 p7 p8 p9 p10 p11 p12 p13 p14 p15 (intBits .or .u64 p16 (shlI .u64 1 r4.1)) p17 p18 p19 (IntKind.wrap .i64 (p20 + 1))
          else none
        else
          bif inB p14 3 then
            bif inB p14 3 then
              Option.bind (P_box_index ((p11, (p12, (p13, ()))), ((bif decide (p14 = (0 : Int)) then (IntKind.wrap .i64 ((bif decide (p14 = (0 : Int)) then ((nth T_A3 p18 p20)).1 else (bif decide (p14 = (1 : Int)) then (((nth T_A3 p18 p20)).2).1 else ((((nth T_A3 p18 p20)).2).2).1)) - p15)) else ((nth T_A3 p18 p20)).1), ((bif decide (p14 = (1 : Int)) then (IntKind.wrap .i64 ((bif decide (p14 = (0 : Int)) then ((nth T_A3 p18 p20)).1 else (bif decide (p14 = (1 : Int)) then (((nth T_A3 p18 p20)).2).1 else ((((nth T_A3 p18 p20)).2).2).1)) - p15)) else (((nth T_A3 p18 p20)).2).1), ((bif decide (p14 = (2 : Int)) then (IntKind.wrap .i64 ((bif decide (p14 = (0 : Int)) then ((nth T_A3 p18 p20)).1 else (bif decide (p14 = (1 : Int)) then (((nth T_A3 p18 p20)).2).1 else ((((nth T_A3 p18 p20)).2).2).1)) - p15)) else ((((nth T_A3 p18 p20)).2).2).1), ()))), ())) fun r6 =>
              bif decide ((0 : Int) ≤ r6.1) then
                l_impl_CutHeap_7 m0 p0 p1 p2 p3 p4 p5 p6 p7 p8 p9 p10 p11 p12 p13 p14 p15 p16 (intBits .or .u64 p17 (shlI .u64 1 r6.1)) p18 p19 (IntKind.wrap .i64 (p20 + 1))
              else none
            else none
          else none
      else none
    else none
  else
    Option.bind (P_box_heap ((p8, (p9, (p10, ()))), p16, ())) fun r1 =>
    Option.bind (P_box_heap ((p11, (p12, (p13, ()))), p17, ())) fun r2 =>
    some (r1.1, r2.1, true, ()) := by
  rewrite [h_impl_CutHeap_7]
  exact e_impl_CutHeap_7 N P_impl_IsHeap P_Heap_isCut P_Heap_box P_box_index P_box_heap m0 p0 p1 p2 p3 p4 p5 p6 p7 p8 p9 p10 p11 p12 p13 p14 p15 p16 p17 p18 p19 p20

/- 7: loop.example/g01166/laws.FnExactCutHeap -/
abbrev As_laws_FnExactCutHeap : List ATy := [.data true T_Heap, .data false (.int .i64), .data false (.int .i64)]
abbrev R_laws_FnExactCutHeap : List (Bool × Ty) := [(false, .bool)]
abbrev M_laws_FnExactCutHeap : List RMode := []
abbrev Ft_laws_FnExactCutHeap : Type := D_Heap × Int × Int × Unit → Option (Bool × Unit)
noncomputable def X_laws_FnExactCutHeap (n : Nat) (F_laws_szHeap : Ft_laws_szHeap) (F_laws_toHeap : Ft_laws_toHeap) (F_laws_eqHeap : Ft_laws_eqHeap) (F_laws_markHeap : Ft_laws_markHeap) (F_spec_CutHeap : Ft_spec_CutHeap) (F_impl_CutHeap : Ft_impl_CutHeap) (F_laws_heldHeap : Ft_laws_heldHeap) : Ctx := { types := TT, globals := [], con := [(20, ⟨As_laws_szHeap, R_laws_szHeap, M_laws_szHeap, F_laws_szHeap⟩), (22, ⟨As_laws_toHeap, R_laws_toHeap, M_laws_toHeap, F_laws_toHeap⟩), (24, ⟨As_laws_eqHeap, R_laws_eqHeap, M_laws_eqHeap, F_laws_eqHeap⟩), (32, ⟨As_spec_CutHeap, R_spec_CutHeap, M_spec_CutHeap, F_spec_CutHeap⟩), (33, ⟨As_impl_CutHeap, R_impl_CutHeap, M_impl_CutHeap, F_impl_CutHeap⟩), (34, ⟨As_laws_heldHeap, R_laws_heldHeap, M_laws_heldHeap, F_laws_heldHeap⟩)], mcon := [(29, ⟨As_laws_markHeap, R_laws_markHeap, M_laws_markHeap, F_laws_markHeap⟩)], keep := [], results := [.tmp 6], ntmps := 143, n := n }
noncomputable def B_laws_FnExactCutHeap : Code := (Try.f7.body).getD .skip
theorem e_laws_FnExactCutHeap (n : Nat) (F_laws_szHeap : Ft_laws_szHeap) (F_laws_toHeap : Ft_laws_toHeap) (F_laws_eqHeap : Ft_laws_eqHeap) (F_laws_markHeap : Ft_laws_markHeap) (F_spec_CutHeap : Ft_spec_CutHeap) (F_impl_CutHeap : Ft_impl_CutHeap) (F_laws_heldHeap : Ft_laws_heldHeap) (a0 : D_Heap) (a1 : Int) (a2 : Int) : runF (X_laws_FnExactCutHeap n F_laws_szHeap F_laws_toHeap F_laws_eqHeap F_laws_markHeap F_spec_CutHeap F_impl_CutHeap F_laws_heldHeap) B_laws_FnExactCutHeap As_laws_FnExactCutHeap R_laws_FnExactCutHeap M_laws_FnExactCutHeap (a0, a1, a2, ()) = 
  Option.bind (F_laws_szHeap (a0, 1048576, ())) fun r0 =>
  bif decide (r0.1 < 0) then
    some (true, ())
  else
    Option.bind (F_laws_toHeap (a0, ())) fun r2 =>
    Option.bind (F_spec_CutHeap (r2.1, a1, a2, ())) fun r3 =>
    Option.bind (F_laws_toHeap (a0, ())) fun r4 =>
    Option.bind (F_impl_CutHeap (r4.1, a1, a2, ())) fun r5 =>
    Option.bind (F_laws_eqHeap (r5.1, r3.1, ())) fun r6 =>
    bif !r6.1 then
      some (false, ())
    else
      Option.bind (F_laws_eqHeap (r5.2.1, r3.2.1, ())) fun r8 =>
      bif !r8.1 then
        some (false, ())
      else
        bif !(r5.2.2.1 == r3.2.2.1) then
          some (false, ())
        else
          Option.bind (F_laws_toHeap (a0, ())) fun r11 =>
          Option.bind (F_laws_eqHeap (r4.1, r11.1, ())) fun r12 =>
          bif !r12.1 then
            some (false, ())
          else
            Option.bind (F_laws_markHeap (r4.1, 1, ())) fun r14 =>
            bif decide (r14.1.1 < 0) then
              some (false, ())
            else
              Option.bind (F_laws_eqHeap (r5.1, r3.1, ())) fun r16 =>
              bif !r16.1 then
                some (false, ())
              else
                Option.bind (F_laws_eqHeap (r5.2.1, r3.2.1, ())) fun r18 =>
                bif !r18.1 then
                  some (false, ())
                else
                  bif !(r5.2.2.1 == r3.2.2.1) then
                    some (false, ())
                  else
                    Option.bind (F_laws_markHeap (r5.1, 1, ())) fun r21 =>
                    Option.bind (F_laws_markHeap (r5.2.1, r21.1.1, ())) fun r22 =>
                    Option.bind (F_laws_heldHeap ((r5.1.1, (r5.1.2.1, (r5.1.2.2.1, r21.2.1.2.2.2))), 1, ())) fun r23 =>
                    bif decide (r23.1 < 0) then
                      some (false, ())
                    else
                      Option.bind (F_laws_heldHeap ((r5.2.1.1, (r5.2.1.2.1, (r5.2.1.2.2.1, r22.2.1.2.2.2))), r23.1, ())) fun r25 =>
                      bif decide (r25.1 < 0) then
                        some (false, ())
                      else
                        bif !decide (r25.1 = r22.1.1) then
                          some (false, ())
                        else
                          Option.bind (F_laws_toHeap (a0, ())) fun r28 =>
                          Option.bind (F_impl_CutHeap (r28.1, a1, a2, ())) fun r29 =>
                          Option.bind (F_laws_eqHeap (r29.1, r3.1, ())) fun r30 =>
                          bif !r30.1 then
                            some (false, ())
                          else
                            Option.bind (F_laws_eqHeap (r29.2.1, r3.2.1, ())) fun r32 =>
                            bif !r32.1 then
                              some (false, ())
                            else
                              bif !(r29.2.2.1 == r3.2.2.1) then
                                some (false, ())
                              else
                                Option.bind (F_laws_heldHeap ((r5.1.1, (r5.1.2.1, (r5.1.2.2.1, r21.2.1.2.2.2))), 1, ())) fun r35 =>
                                bif decide (r35.1 < 0) then
                                  some (false, ())
                                else
                                  Option.bind (F_laws_heldHeap ((r5.2.1.1, (r5.2.1.2.1, (r5.2.1.2.2.1, r22.2.1.2.2.2))), r35.1, ())) fun r37 =>
                                  bif decide (r37.1 < 0) then
                                    some (false, ())
                                  else
                                    bif !decide (r37.1 = r22.1.1) then
                                      some (false, ())
                                    else
                                      some (true, ()) := by kernel_rfl
noncomputable def P_laws_FnExactCutHeap : Ft_laws_FnExactCutHeap := hid (runF (X_laws_FnExactCutHeap N P_laws_szHeap P_laws_toHeap P_laws_eqHeap P_laws_markHeap P_spec_CutHeap P_impl_CutHeap P_laws_heldHeap) B_laws_FnExactCutHeap As_laws_FnExactCutHeap R_laws_FnExactCutHeap M_laws_FnExactCutHeap)
theorem h_laws_FnExactCutHeap : P_laws_FnExactCutHeap = runF (X_laws_FnExactCutHeap N P_laws_szHeap P_laws_toHeap P_laws_eqHeap P_laws_markHeap P_spec_CutHeap P_impl_CutHeap P_laws_heldHeap) B_laws_FnExactCutHeap As_laws_FnExactCutHeap R_laws_FnExactCutHeap M_laws_FnExactCutHeap := hid_eq _
noncomputable def C_laws_FnExactCutHeap : Contract := ⟨As_laws_FnExactCutHeap, R_laws_FnExactCutHeap, M_laws_FnExactCutHeap, P_laws_FnExactCutHeap⟩
theorem s_laws_FnExactCutHeap : Sound Try.prog GG 7 C_laws_FnExactCutHeap := by
  unfold C_laws_FnExactCutHeap; rw [h_laws_FnExactCutHeap]
  exact sound_of_run (fn := Try.f7) hmix hstable (tyOK_of ttOK) (hglob (X_laws_FnExactCutHeap N P_laws_szHeap P_laws_toHeap P_laws_eqHeap P_laws_markHeap P_spec_CutHeap P_impl_CutHeap P_laws_heldHeap)) (conOK_of (X := X_laws_FnExactCutHeap N P_laws_szHeap P_laws_toHeap P_laws_eqHeap P_laws_markHeap P_spec_CutHeap P_impl_CutHeap P_laws_heldHeap) ⟨s_laws_szHeap, s_laws_toHeap, s_laws_eqHeap, s_spec_CutHeap, s_impl_CutHeap, s_laws_heldHeap, trivial⟩) (mconOK_of (X := X_laws_FnExactCutHeap N P_laws_szHeap P_laws_toHeap P_laws_eqHeap P_laws_markHeap P_spec_CutHeap P_impl_CutHeap P_laws_heldHeap) ⟨s_laws_markHeap, trivial⟩) (by kernel_rfl) (by kernel_rfl) (by kernel_rfl) (by kernel_rfl) (by kernel_rfl) (by decide)
theorem p_laws_FnExactCutHeap (a0 : D_Heap) (a1 : Int) (a2 : Int) : P_laws_FnExactCutHeap (a0, a1, a2, ()) = 
  Option.bind (P_laws_szHeap (a0, 1048576, ())) fun r0 =>
  bif decide (r0.1 < 0) then
    some (true, ())
  else
    Option.bind (P_laws_toHeap (a0, ())) fun r2 =>
    Option.bind (P_spec_CutHeap (r2.1, a1, a2, ())) fun r3 =>
    Option.bind (P_laws_toHeap (a0, ())) fun r4 =>
    Option.bind (P_impl_CutHeap (r4.1, a1, a2, ())) fun r5 =>
    Option.bind (P_laws_eqHeap (r5.1, r3.1, ())) fun r6 =>
    bif !r6.1 then
      some (false, ())
    else
      Option.bind (P_laws_eqHeap (r5.2.1, r3.2.1, ())) fun r8 =>
      bif !r8.1 then
        some (false, ())
      else
        bif !(r5.2.2.1 == r3.2.2.1) then
          some (false, ())
        else
          Option.bind (P_laws_toHeap (a0, ())) fun r11 =>
          Option.bind (P_laws_eqHeap (r4.1, r11.1, ())) fun r12 =>
          bif !r12.1 then
            some (false, ())
          else
            Option.bind (P_laws_markHeap (r4.1, 1, ())) fun r14 =>
            bif decide (r14.1.1 < 0) then
              some (false, ())
            else
              Option.bind (P_laws_eqHeap (r5.1, r3.1, ())) fun r16 =>
              bif !r16.1 then
                some (false, ())
              else
                Option.bind (P_laws_eqHeap (r5.2.1, r3.2.1, ())) fun r18 =>
                bif !r18.1 then
                  some (false, ())
                else
                  bif !(r5.2.2.1 == r3.2.2.1) then
                    some (false, ())
                  else
                    Option.bind (P_laws_markHeap (r5.1, 1, ())) fun r21 =>
                    Option.bind (P_laws_markHeap (r5.2.1, r21.1.1, ())) fun r22 =>
                    Option.bind (P_laws_heldHeap ((r5.1.1, (r5.1.2.1, (r5.1.2.2.1, r21.2.1.2.2.2))), 1, ())) fun r23 =>
                    bif decide (r23.1 < 0) then
                      some (false, ())
                    else
                      Option.bind (P_laws_heldHeap ((r5.2.1.1, (r5.2.1.2.1, (r5.2.1.2.2.1, r22.2.1.2.2.2))), r23.1, ())) fun r25 =>
                      bif decide (r25.1 < 0) then
                        some (false, ())
                      else
                        bif !decide (r25.1 = r22.1.1) then
                          some (false, ())
                        else
                          Option.bind (P_laws_toHeap (a0, ())) fun r28 =>
                          Option.bind (P_impl_CutHeap (r28.1, a1, a2, ())) fun r29 =>
                          Option.bind (P_laws_eqHeap (r29.1, r3.1, ())) fun r30 =>
                          bif !r30.1 then
                            some (false, ())
                          else
                            Option.bind (P_laws_eqHeap (r29.2.1, r3.2.1, ())) fun r32 =>
                            bif !r32.1 then
                              some (false, ())
                            else
                              bif !(r29.2.2.1 == r3.2.2.1) then
                                some (false, ())
                              else
                                Option.bind (P_laws_heldHeap ((r5.1.1, (r5.1.2.1, (r5.1.2.2.1, r21.2.1.2.2.2))), 1, ())) fun r35 =>
                                bif decide (r35.1 < 0) then
                                  some (false, ())
                                else
                                  Option.bind (P_laws_heldHeap ((r5.2.1.1, (r5.2.1.2.1, (r5.2.1.2.2.1, r22.2.1.2.2.2))), r35.1, ())) fun r37 =>
                                  bif decide (r37.1 < 0) then
                                    some (false, ())
                                  else
                                    bif !decide (r37.1 = r22.1.1) then
                                      some (false, ())
                                    else
                                      some (true, ()) := by
  rewrite [h_laws_FnExactCutHeap]
  exact e_laws_FnExactCutHeap N P_laws_szHeap P_laws_toHeap P_laws_eqHeap P_laws_markHeap P_spec_CutHeap P_impl_CutHeap P_laws_heldHeap a0 a1 a2

/- 112: loop.example/g01166/spec.l6Steps -/
abbrev As_spec_l6Steps : List ATy := []
abbrev R_spec_l6Steps : List (Bool × Ty) := [(true, (.pair T_A3 (.pair T_A3 (.pair T_A3 (.pair T_A3 (.pair T_A3 (.pair T_A3 .unit)))))))]
abbrev M_spec_l6Steps : List RMode := []
abbrev Ft_spec_l6Steps : Type := Unit → Option ((D_A3 × D_A3 × D_A3 × D_A3 × D_A3 × D_A3 × Unit) × Unit)
noncomputable def X_spec_l6Steps (n : Nat) : Ctx := { types := TT, globals := [], con := [], keep := [], results := [.cell 0 115], ntmps := 8, n := n }
noncomputable def B_spec_l6Steps : Code := (Try.f112.body).getD .skip
theorem e_spec_l6Steps (n : Nat)  : runF (X_spec_l6Steps n) B_spec_l6Steps As_spec_l6Steps R_spec_l6Steps M_spec_l6Steps (()) = 
  some ((((-1), (0, (0, ()))), ((1, (0, (0, ()))), ((0, ((-1), (0, ()))), ((0, (1, (0, ()))), ((0, (0, ((-1), ()))), ((0, (0, (1, ()))), ())))))), ()) := by kernel_rfl
noncomputable def P_spec_l6Steps : Ft_spec_l6Steps := hid (runF (X_spec_l6Steps N) B_spec_l6Steps As_spec_l6Steps R_spec_l6Steps M_spec_l6Steps)
theorem h_spec_l6Steps : P_spec_l6Steps = runF (X_spec_l6Steps N) B_spec_l6Steps As_spec_l6Steps R_spec_l6Steps M_spec_l6Steps := hid_eq _
noncomputable def C_spec_l6Steps : Contract := ⟨As_spec_l6Steps, R_spec_l6Steps, M_spec_l6Steps, P_spec_l6Steps⟩
theorem s_spec_l6Steps : Sound Try.prog GG 112 C_spec_l6Steps := by
  unfold C_spec_l6Steps; rw [h_spec_l6Steps]
  exact sound_of_run (fn := Try.f112) hmix hstable (tyOK_of ttOK) (hglob (X_spec_l6Steps N)) (conOK_of (X := X_spec_l6Steps N) trivial) (mconOK_of (X := X_spec_l6Steps N) trivial) (by kernel_rfl) (by kernel_rfl) (by kernel_rfl) (by kernel_rfl) (by kernel_rfl) (by decide)
theorem p_spec_l6Steps  : P_spec_l6Steps (()) = 
  some ((((-1), (0, (0, ()))), ((1, (0, (0, ()))), ((0, ((-1), (0, ()))), ((0, (1, (0, ()))), ((0, (0, ((-1), ()))), ((0, (0, (1, ()))), ())))))), ()) := by
  rewrite [h_spec_l6Steps]
  exact e_spec_l6Steps N 
end Go.VI
