/- What the functions of the seat compute, as printed by wip/tools. -/
import Derived.Test.YtkiiaoekkppghaaViGen
import Derived.Test.YtkiiaoekkppghaaProg
namespace Go.VI
open Go.Proofs
set_option maxRecDepth 100000
def n0 : Nat := 0
def GG : World → Prop := fun _ => True
theorem hstable : Stable n0 GG := stable_true
theorem hmix : Try.prog.follows .mixedOrders = true := by kernel_rfl
theorem hglob (X : Ctx) (h : X.globals = [] := by rfl) (A : Fix) (_ : A.P = Try.prog) (_ : A.G = GG) : GlobOK A X := globOK_none h A
abbrev T_A2 : Ty := (.pair (.int .i64) (.pair (.int .i64) .unit))
abbrev D_A2 : Type := Int × Int × Unit
abbrev T_A3 : Ty := (.pair (.int .i64) (.pair (.int .i64) (.pair (.int .i64) .unit)))
abbrev D_A3 : Type := Int × Int × Int × Unit
abbrev T_Heap : Ty := (.pair (.int .i64) (.pair (.int .i64) (.pair (.int .i64) (.pair (.sl T_A3) .unit))))
abbrev D_Heap : Type := Int × Int × Int × (List D_A3) × Unit
noncomputable def TT : List (TypeId × TI) := [(3, ⟨Try.t3.desc, (.int .i64), false, 8, [.int .i64 0], false⟩),
  (4, ⟨Try.t4.desc, .bool, false, 1, [.bool false], false⟩),
  (22, ⟨Try.t22.desc, (.sl T_A3), false, 24, [.nil 48 T_A3], false⟩),
  (24, ⟨Try.t23.desc, T_Heap, true, 48, [.int .i64 0, .int .i64 0, .int .i64 0, .nil 48 T_A3], false⟩),
  (25, ⟨Try.t25.desc, (.sl T_A2), false, 24, [.nil 43 T_A2], false⟩),
  (28, ⟨Try.t28.desc, (.sl (.sl T_A3)), false, 24, [.nil 22 (.sl T_A3)], false⟩),
  (31, ⟨Try.t23.desc, T_Heap, true, 48, [.int .i64 0, .int .i64 0, .int .i64 0, .nil 48 T_A3], false⟩),
  (43, ⟨Try.t43.desc, T_A2, true, 16, [.int .i64 0, .int .i64 0], false⟩),
  (48, ⟨Try.t48.desc, T_A3, true, 24, [.int .i64 0, .int .i64 0, .int .i64 0], false⟩),
  (49, ⟨Try.t48.desc, T_A3, true, 24, [.int .i64 0, .int .i64 0, .int .i64 0], false⟩),
  (78, ⟨Try.t78.desc, (.sl (.int .i64)), false, 24, [.nil 3 (.int .i64)], false⟩)]
theorem ttOK : allP (fun q => tiB Try.prog q.1 q.2) TT :=
  ⟨⟨by kernel_rfl, by kernel_rfl, by kernel_rfl, by kernel_rfl, by kernel_rfl, by kernel_rfl⟩, ⟨by kernel_rfl, by kernel_rfl, by kernel_rfl, by kernel_rfl, by kernel_rfl, by kernel_rfl⟩, ⟨by kernel_rfl, by kernel_rfl, by kernel_rfl, by kernel_rfl, by kernel_rfl, by kernel_rfl⟩, ⟨by kernel_rfl, by kernel_rfl, by kernel_rfl, by kernel_rfl, by kernel_rfl, by kernel_rfl⟩, ⟨by kernel_rfl, by kernel_rfl, by kernel_rfl, by kernel_rfl, by kernel_rfl, by kernel_rfl⟩, ⟨by kernel_rfl, by kernel_rfl, by kernel_rfl, by kernel_rfl, by kernel_rfl, by kernel_rfl⟩, ⟨by kernel_rfl, by kernel_rfl, by kernel_rfl, by kernel_rfl, by kernel_rfl, by kernel_rfl⟩, ⟨by kernel_rfl, by kernel_rfl, by kernel_rfl, by kernel_rfl, by kernel_rfl, by kernel_rfl⟩, ⟨by kernel_rfl, by kernel_rfl, by kernel_rfl, by kernel_rfl, by kernel_rfl, by kernel_rfl⟩, ⟨by kernel_rfl, by kernel_rfl, by kernel_rfl, by kernel_rfl, by kernel_rfl, by kernel_rfl⟩, ⟨by kernel_rfl, by kernel_rfl, by kernel_rfl, by kernel_rfl, by kernel_rfl, by kernel_rfl⟩, trivial⟩
theorem mkS {f : FuncId} {c : Code} {X : Ctx} {As : List ATy} {R : List (Bool × Ty)} {M : List RMode} (fn : Func) (hc : allP (fun p => Sound Try.prog GG p.1 p.2) X.con) (hm : allP (fun p => SoundM Try.prog n0 GG p.1 p.2) X.mcon) (hT : X.types = TT := by rfl) (hg : X.globals = [] := by rfl) (hf : Try.prog.funcs[f]? = some fn := by kernel_rfl) (hb : fn.body = some c := by kernel_rfl) (hn : (fn.name == "runtime.NumGoroutine") = false := by kernel_rfl) (hr : X.results = fn.results.toList := by kernel_rfl) (ht : X.ntmps = fn.ntmps := by kernel_rfl) (hA : decide (As.length ≤ X.ntmps ∧ X.ntmps ≤ lentBase) = true := by kernel_rfl) : Sound Try.prog GG f ⟨As, R, M, runF X c As R M⟩ :=
  sound_of_run hmix hstable (tyOK_of (by rw [hT]; exact ttOK)) (hglob X hg) (conOK_of hc) (mconOK_of hm) hf hb hn hr ht (of_decide_eq_true hA)
theorem mkSM {f : FuncId} {c : Code} {X : Ctx} {As : List ATy} {R : List (Bool × Ty)} {M : List RMode} (fn : Func) (hc : allP (fun p => Sound Try.prog GG p.1 p.2) X.con) (hm : allP (fun p => SoundM Try.prog n0 GG p.1 p.2) X.mcon) (hT : X.types = TT := by rfl) (hg : X.globals = [] := by rfl) (hf : Try.prog.funcs[f]? = some fn := by kernel_rfl) (hb : fn.body = some c := by kernel_rfl) (hn : (fn.name == "runtime.NumGoroutine") = false := by kernel_rfl) (hr : X.results = fn.results.toList := by kernel_rfl) (ht : X.ntmps = fn.ntmps := by kernel_rfl) (hA : decide (As.length ≤ X.ntmps ∧ X.ntmps ≤ lentBase) = true := by kernel_rfl) (hR : R.length = X.results.length := by kernel_rfl) (hms : (M.all fun | .pass _ => false | _ => true) = true := by rfl) : SoundM Try.prog n0 GG f ⟨As, R, M, runFM X c As R M⟩ :=
  sound_of_runM hmix hstable (tyOK_of (by rw [hT]; exact ttOK)) (hglob X hg) (conOK_of hc) (mconOK_of hm) hf hb hn hr ht (of_decide_eq_true hA) hR hms

/- 17: loop.example/g01166/laws.szIntA3S -/
abbrev As_laws_szIntA3S : List ATy := [.data false (.sl T_A3), .data false (.int .i64)]
abbrev R_laws_szIntA3S : List (Bool × Ty) := [(false, (.int .i64))]
abbrev M_laws_szIntA3S : List RMode := []
abbrev Ft_laws_szIntA3S : Type := (List D_A3) × Int × Unit → Option (Int × Unit)
noncomputable def X_laws_szIntA3S : Ctx := { types := TT, globals := [], con := [], keep := [], results := [.tmp 4], ntmps := 12, n := N }
noncomputable def B_laws_szIntA3S : Code := (Try.f17.body).getD .skip
noncomputable def P_laws_szIntA3S : Ft_laws_szIntA3S := hid (runF X_laws_szIntA3S B_laws_szIntA3S As_laws_szIntA3S R_laws_szIntA3S M_laws_szIntA3S)
theorem h_laws_szIntA3S : P_laws_szIntA3S = runF X_laws_szIntA3S B_laws_szIntA3S As_laws_szIntA3S R_laws_szIntA3S M_laws_szIntA3S := hid_eq _
noncomputable def C_laws_szIntA3S : Contract := ⟨As_laws_szIntA3S, R_laws_szIntA3S, M_laws_szIntA3S, P_laws_szIntA3S⟩
theorem s_laws_szIntA3S : Sound Try.prog GG 17 C_laws_szIntA3S := by
  unfold C_laws_szIntA3S; rw [h_laws_szIntA3S]
  exact mkS Try.f17 trivial trivial
theorem p_laws_szIntA3S (a0 : List D_A3) (a1 : Int) : P_laws_szIntA3S (a0, a1, ()) = 
  bif decide ((IntKind.wrap .i64 (a1 - (List.length a0 : Int))) < 0) then
    some ((-1), ())
  else
    some ((IntKind.wrap .i64 (a1 - (List.length a0 : Int))), ()) := by
  rewrite [h_laws_szIntA3S]
  kernel_rfl

/- 4: loop.example/g01166/laws.szHeap -/
abbrev As_laws_szHeap : List ATy := [.data true T_Heap, .data false (.int .i64)]
abbrev R_laws_szHeap : List (Bool × Ty) := [(false, (.int .i64))]
abbrev M_laws_szHeap : List RMode := []
abbrev Ft_laws_szHeap : Type := D_Heap × Int × Unit → Option (Int × Unit)
noncomputable def X_laws_szHeap : Ctx := { types := TT, globals := [], con := [(17, C_laws_szIntA3S)], keep := [], results := [.tmp 4], ntmps := 12, n := N }
noncomputable def B_laws_szHeap : Code := (Try.f4.body).getD .skip
noncomputable def P_laws_szHeap : Ft_laws_szHeap := hid (runF X_laws_szHeap B_laws_szHeap As_laws_szHeap R_laws_szHeap M_laws_szHeap)
theorem h_laws_szHeap : P_laws_szHeap = runF X_laws_szHeap B_laws_szHeap As_laws_szHeap R_laws_szHeap M_laws_szHeap := hid_eq _
noncomputable def C_laws_szHeap : Contract := ⟨As_laws_szHeap, R_laws_szHeap, M_laws_szHeap, P_laws_szHeap⟩
theorem s_laws_szHeap : Sound Try.prog GG 4 C_laws_szHeap := by
  unfold C_laws_szHeap; rw [h_laws_szHeap]
  exact mkS Try.f4 ⟨s_laws_szIntA3S, trivial⟩ trivial
theorem p_laws_szHeap (a0 : D_Heap) (a1 : Int) : P_laws_szHeap (a0, a1, ()) = 
  Option.bind (P_laws_szIntA3S (a0.2.2.2.1, a1, ())) fun r0 =>
  bif decide (r0.1 < 0) then
    some ((-1), ())
  else
    some (r0.1, ()) := by
  rewrite [h_laws_szHeap]
  kernel_rfl

/- 5: loop.example/g01166/laws.szIntA2S -/
abbrev As_laws_szIntA2S : List ATy := [.data false (.sl T_A2), .data false (.int .i64)]
abbrev R_laws_szIntA2S : List (Bool × Ty) := [(false, (.int .i64))]
abbrev M_laws_szIntA2S : List RMode := []
abbrev Ft_laws_szIntA2S : Type := (List D_A2) × Int × Unit → Option (Int × Unit)
noncomputable def X_laws_szIntA2S : Ctx := { types := TT, globals := [], con := [], keep := [], results := [.tmp 4], ntmps := 12, n := N }
noncomputable def B_laws_szIntA2S : Code := (Try.f5.body).getD .skip
noncomputable def P_laws_szIntA2S : Ft_laws_szIntA2S := hid (runF X_laws_szIntA2S B_laws_szIntA2S As_laws_szIntA2S R_laws_szIntA2S M_laws_szIntA2S)
theorem h_laws_szIntA2S : P_laws_szIntA2S = runF X_laws_szIntA2S B_laws_szIntA2S As_laws_szIntA2S R_laws_szIntA2S M_laws_szIntA2S := hid_eq _
noncomputable def C_laws_szIntA2S : Contract := ⟨As_laws_szIntA2S, R_laws_szIntA2S, M_laws_szIntA2S, P_laws_szIntA2S⟩
theorem s_laws_szIntA2S : Sound Try.prog GG 5 C_laws_szIntA2S := by
  unfold C_laws_szIntA2S; rw [h_laws_szIntA2S]
  exact mkS Try.f5 trivial trivial
theorem p_laws_szIntA2S (a0 : List D_A2) (a1 : Int) : P_laws_szIntA2S (a0, a1, ()) = 
  bif decide ((IntKind.wrap .i64 (a1 - (List.length a0 : Int))) < 0) then
    some ((-1), ())
  else
    some ((IntKind.wrap .i64 (a1 - (List.length a0 : Int))), ()) := by
  rewrite [h_laws_szIntA2S]
  kernel_rfl

/- 38: loop.example/g01166/spec.l1In -/
abbrev As_spec_l1In : List ATy := [.data false (.int .i64), .data false (.int .i64), .data false (.int .i64)]
abbrev R_spec_l1In : List (Bool × Ty) := [(false, .bool)]
abbrev M_spec_l1In : List RMode := []
abbrev Ft_spec_l1In : Type := Int × Int × Int × Unit → Option (Bool × Unit)
noncomputable def X_spec_l1In : Ctx := { types := TT, globals := [], con := [], keep := [], results := [.tmp 6], ntmps := 15, n := N }
noncomputable def B_spec_l1In : Code := (Try.f38.body).getD .skip
noncomputable def P_spec_l1In : Ft_spec_l1In := hid (runF X_spec_l1In B_spec_l1In As_spec_l1In R_spec_l1In M_spec_l1In)
theorem h_spec_l1In : P_spec_l1In = runF X_spec_l1In B_spec_l1In As_spec_l1In R_spec_l1In M_spec_l1In := hid_eq _
noncomputable def C_spec_l1In : Contract := ⟨As_spec_l1In, R_spec_l1In, M_spec_l1In, P_spec_l1In⟩
theorem s_spec_l1In : Sound Try.prog GG 38 C_spec_l1In := by
  unfold C_spec_l1In; rw [h_spec_l1In]
  exact mkS Try.f38 trivial trivial
theorem p_spec_l1In (a0 : Int) (a1 : Int) (a2 : Int) : P_spec_l1In (a0, a1, a2, ()) = 
  bif decide (a0 ≥ a1) then
    some (decide (a0 ≤ a2), ())
  else
    some (false, ()) := by
  rewrite [h_spec_l1In]
  kernel_rfl

/- 35: loop.example/g01166/spec.l2Sides -/
abbrev As_spec_l2Sides : List ATy := [.data false (.int .i64), .data false (.int .i64), .data false (.int .i64)]
abbrev R_spec_l2Sides : List (Bool × Ty) := [(false, .bool)]
abbrev M_spec_l2Sides : List RMode := []
abbrev Ft_spec_l2Sides : Type := Int × Int × Int × Unit → Option (Bool × Unit)
noncomputable def X_spec_l2Sides : Ctx := { types := TT, globals := [], con := [(38, C_spec_l1In)], keep := [], results := [.tmp 6], ntmps := 17, n := N }
noncomputable def B_spec_l2Sides : Code := (Try.f35.body).getD .skip
noncomputable def P_spec_l2Sides : Ft_spec_l2Sides := hid (runF X_spec_l2Sides B_spec_l2Sides As_spec_l2Sides R_spec_l2Sides M_spec_l2Sides)
theorem h_spec_l2Sides : P_spec_l2Sides = runF X_spec_l2Sides B_spec_l2Sides As_spec_l2Sides R_spec_l2Sides M_spec_l2Sides := hid_eq _
noncomputable def C_spec_l2Sides : Contract := ⟨As_spec_l2Sides, R_spec_l2Sides, M_spec_l2Sides, P_spec_l2Sides⟩
theorem s_spec_l2Sides : Sound Try.prog GG 35 C_spec_l2Sides := by
  unfold C_spec_l2Sides; rw [h_spec_l2Sides]
  exact mkS Try.f35 ⟨s_spec_l1In, trivial⟩ trivial
theorem p_spec_l2Sides (a0 : Int) (a1 : Int) (a2 : Int) : P_spec_l2Sides (a0, a1, a2, ()) = 
  Option.bind (P_spec_l1In (a0, 1, 4, ())) fun r0 =>
  bif r0.1 then
    Option.bind (P_spec_l1In (a1, 1, 4, ())) fun r2 =>
    bif r2.1 then
      Option.bind (P_spec_l1In (a2, 1, 4, ())) fun r4 =>
      some (r4.1, ())
    else
      some (false, ())
  else
    some (false, ()) := by
  rewrite [h_spec_l2Sides]
  kernel_rfl

/- 36: loop.example/g01166/spec.l2In -/
abbrev As_spec_l2In : List ATy := [.data true T_Heap, .data true T_A3]
abbrev R_spec_l2In : List (Bool × Ty) := [(false, .bool)]
abbrev M_spec_l2In : List RMode := []
abbrev Ft_spec_l2In : Type := D_Heap × D_A3 × Unit → Option (Bool × Unit)
noncomputable def X_spec_l2In : Ctx := { types := TT, globals := [], con := [(38, C_spec_l1In)], keep := [], results := [.tmp 4], ntmps := 27, n := N }
noncomputable def B_spec_l2In : Code := (Try.f36.body).getD .skip
noncomputable def P_spec_l2In : Ft_spec_l2In := hid (runF X_spec_l2In B_spec_l2In As_spec_l2In R_spec_l2In M_spec_l2In)
theorem h_spec_l2In : P_spec_l2In = runF X_spec_l2In B_spec_l2In As_spec_l2In R_spec_l2In M_spec_l2In := hid_eq _
noncomputable def C_spec_l2In : Contract := ⟨As_spec_l2In, R_spec_l2In, M_spec_l2In, P_spec_l2In⟩
theorem s_spec_l2In : Sound Try.prog GG 36 C_spec_l2In := by
  unfold C_spec_l2In; rw [h_spec_l2In]
  exact mkS Try.f36 ⟨s_spec_l1In, trivial⟩ trivial
theorem p_spec_l2In (a0 : D_Heap) (a1 : D_A3) : P_spec_l2In (a0, a1, ()) = 
  Option.bind (P_spec_l1In (a1.1, 0, (IntKind.wrap .i64 (a0.1 - 1)), ())) fun r0 =>
  bif r0.1 then
    Option.bind (P_spec_l1In (a1.2.1, 0, (IntKind.wrap .i64 (a0.2.1 - 1)), ())) fun r2 =>
    bif r2.1 then
      Option.bind (P_spec_l1In (a1.2.2.1, 0, (IntKind.wrap .i64 (a0.2.2.1 - 1)), ())) fun r4 =>
      some (r4.1, ())
    else
      some (false, ())
  else
    some (false, ()) := by
  rewrite [h_spec_l2In]
  kernel_rfl

/- 37: loop.example/g01166/spec.l2Before -/
abbrev As_spec_l2Before : List ATy := [.data true T_A3, .data true T_A3]
abbrev R_spec_l2Before : List (Bool × Ty) := [(false, .bool)]
abbrev M_spec_l2Before : List RMode := []
abbrev Ft_spec_l2Before : Type := D_A3 × D_A3 × Unit → Option (Bool × Unit)
noncomputable def X_spec_l2Before : Ctx := { types := TT, globals := [], con := [], keep := [(2, ⟨[.box 2, .box 3, .tmp 2, .tmp 3, .tmp 5], []⟩)], results := [.tmp 4], ntmps := 24, n := N }
noncomputable def B_spec_l2Before : Code := (Try.f37.body).getD .skip
noncomputable def L_spec_l2Before_2 (m0 : Nat) (p0 p1 p2 p3 p4 p5 p6 : Int) : Option (denL R_spec_l2Before) := loopF X_spec_l2Before B_spec_l2Before R_spec_l2Before M_spec_l2Before 2 [m0] [(.ver, .num 1), (.box 2, .box 0 false [.int .i64 p0, .int .i64 p1, .int .i64 p2]), (.box 3, .box 0 false [.int .i64 p3, .int .i64 p4, .int .i64 p5]), (.tmp 2, .val false [.addr 2 0 0]), (.tmp 3, .val false [.addr 3 0 0]), (.tmp 5, .val false [.int .i64 p6])]
noncomputable def P_spec_l2Before : Ft_spec_l2Before := hid (runF X_spec_l2Before B_spec_l2Before As_spec_l2Before R_spec_l2Before M_spec_l2Before)
theorem h_spec_l2Before : P_spec_l2Before = runF X_spec_l2Before B_spec_l2Before As_spec_l2Before R_spec_l2Before M_spec_l2Before := hid_eq _
noncomputable def C_spec_l2Before : Contract := ⟨As_spec_l2Before, R_spec_l2Before, M_spec_l2Before, P_spec_l2Before⟩
theorem s_spec_l2Before : Sound Try.prog GG 37 C_spec_l2Before := by
  unfold C_spec_l2Before; rw [h_spec_l2Before]
  exact mkS Try.f37 trivial trivial
noncomputable def l_spec_l2Before_2 := hid (L_spec_l2Before_2)
theorem h_spec_l2Before_2 : l_spec_l2Before_2 = L_spec_l2Before_2 := hid_eq _
theorem p_spec_l2Before (a0 : D_A3) (a1 : D_A3) : P_spec_l2Before (a0, a1, ()) = 
  l_spec_l2Before_2 N a0.1 a0.2.1 a0.2.2.1 a1.1 a1.2.1 a1.2.2.1 0 := by
  rewrite [h_spec_l2Before, h_spec_l2Before_2]
  kernel_rfl
theorem q_spec_l2Before_2 (m0 : Nat) (p0 p1 p2 p3 p4 p5 p6 : Int) : l_spec_l2Before_2 (m0 + 1) p0 p1 p2 p3 p4 p5 p6 = 
  bif decide (p6 < 3) then
    bif inB p6 3 then
      bif inB p6 3 then
        bif !decide ((bif decide (p6 = (0 : Int)) then p0 else (bif decide (p6 = (1 : Int)) then p1 else p2)) = (bif decide (p6 = (0 : Int)) then p3 else (bif decide (p6 = (1 : Int)) then p4 else p5))) then
          bif inB p6 3 then
            bif inB p6 3 then
              some (decide ((bif decide (p6 = (0 : Int)) then p0 else (bif decide (p6 = (1 : Int)) then p1 else p2)) < (bif decide (p6 = (0 : Int)) then p3 else (bif decide (p6 = (1 : Int)) then p4 else p5))), ())
            else none
          else none
        else
          l_spec_l2Before_2 m0 p0 p1 p2 p3 p4 p5 (IntKind.wrap .i64 (p6 + 1))
      else none
    else none
  else
    some (false, ()) := by
  rewrite [h_spec_l2Before_2]
  kernel_rfl

/- 18: loop.example/g01166/spec.l2Heap -/
abbrev As_spec_l2Heap : List ATy := [.data true T_Heap]
abbrev R_spec_l2Heap : List (Bool × Ty) := [(false, .bool)]
abbrev M_spec_l2Heap : List RMode := []
abbrev Ft_spec_l2Heap : Type := D_Heap × Unit → Option (Bool × Unit)
noncomputable def X_spec_l2Heap : Ctx := { types := TT, globals := [], con := [(35, C_spec_l2Sides), (36, C_spec_l2In), (37, C_spec_l2Before)], keep := [(4, ⟨[.box 1, .tmp 1, .tmp 3], []⟩)], results := [.tmp 2], ntmps := 46, n := N }
noncomputable def B_spec_l2Heap : Code := (Try.f18.body).getD .skip
noncomputable def L_spec_l2Heap_4 (m0 : Nat) (p0 p1 p2 : Int) (p3 : List D_A3) (p4 : Int) : Option (denL R_spec_l2Heap) := loopF X_spec_l2Heap B_spec_l2Heap R_spec_l2Heap M_spec_l2Heap 4 [m0] [(.ver, .num 1), (.box 1, .box 0 false [.int .i64 p0, .int .i64 p1, .int .i64 p2, .imm T_A3 p3 (some 3)]), (.tmp 1, .val false [.addr 1 0 0]), (.tmp 3, .val false [.int .i64 p4])]
noncomputable def P_spec_l2Heap : Ft_spec_l2Heap := hid (runF X_spec_l2Heap B_spec_l2Heap As_spec_l2Heap R_spec_l2Heap M_spec_l2Heap)
theorem h_spec_l2Heap : P_spec_l2Heap = runF X_spec_l2Heap B_spec_l2Heap As_spec_l2Heap R_spec_l2Heap M_spec_l2Heap := hid_eq _
noncomputable def C_spec_l2Heap : Contract := ⟨As_spec_l2Heap, R_spec_l2Heap, M_spec_l2Heap, P_spec_l2Heap⟩
theorem s_spec_l2Heap : Sound Try.prog GG 18 C_spec_l2Heap := by
  unfold C_spec_l2Heap; rw [h_spec_l2Heap]
  exact mkS Try.f18 ⟨s_spec_l2Sides, s_spec_l2In, s_spec_l2Before, trivial⟩ trivial
noncomputable def l_spec_l2Heap_4 := hid (L_spec_l2Heap_4)
theorem h_spec_l2Heap_4 : l_spec_l2Heap_4 = L_spec_l2Heap_4 := hid_eq _
theorem p_spec_l2Heap (a0 : D_Heap) : P_spec_l2Heap (a0, ()) = 
  Option.bind (P_spec_l2Sides (a0.1, a0.2.1, a0.2.2.1, ())) fun r0 =>
  bif !r0.1 then
    some (false, ())
  else
    l_spec_l2Heap_4 N a0.1 a0.2.1 a0.2.2.1 a0.2.2.2.1 0 := by
  rewrite [h_spec_l2Heap, h_spec_l2Heap_4]
  kernel_rfl
theorem q_spec_l2Heap_4 (m0 : Nat) (p0 p1 p2 : Int) (p3 : List D_A3) (p4 : Int) : l_spec_l2Heap_4 (m0 + 1) p0 p1 p2 p3 p4 = 
  bif decide (p4 < (List.length p3 : Int)) then
    bif inB p4 (List.length p3) then
      Option.bind (P_spec_l2In ((p0, (p1, (p2, (p3, ())))), (nth T_A3 p3 p4), ())) fun r2 =>
      bif !r2.1 then
        some (false, ())
      else
        bif decide (p4 > 0) then
          bif inB (IntKind.wrap .i64 (p4 - 1)) (List.length p3) then
            bif inB p4 (List.length p3) then
              Option.bind (P_spec_l2Before ((nth T_A3 p3 (IntKind.wrap .i64 (p4 - 1))), (nth T_A3 p3 p4), ())) fun r7 =>
              bif !r7.1 then
                some (false, ())
              else
                l_spec_l2Heap_4 m0 p0 p1 p2 p3 (IntKind.wrap .i64 (p4 + 1))
            else none
          else none
        else
          l_spec_l2Heap_4 m0 p0 p1 p2 p3 (IntKind.wrap .i64 (p4 + 1))
    else none
  else
    some (true, ()) := by
  rewrite [h_spec_l2Heap_4]
  kernel_rfl

/- 39: loop.example/g01166/spec.l2Long -/
abbrev As_spec_l2Long : List ATy := [.data true T_Heap, .data false (.int .i64)]
abbrev R_spec_l2Long : List (Bool × Ty) := [(false, (.int .i64))]
abbrev M_spec_l2Long : List RMode := []
abbrev Ft_spec_l2Long : Type := D_Heap × Int × Unit → Option (Int × Unit)
noncomputable def X_spec_l2Long : Ctx := { types := TT, globals := [], con := [], keep := [], results := [.tmp 4], ntmps := 14, n := N }
noncomputable def B_spec_l2Long : Code := (Try.f39.body).getD .skip
noncomputable def P_spec_l2Long : Ft_spec_l2Long := hid (runF X_spec_l2Long B_spec_l2Long As_spec_l2Long R_spec_l2Long M_spec_l2Long)
theorem h_spec_l2Long : P_spec_l2Long = runF X_spec_l2Long B_spec_l2Long As_spec_l2Long R_spec_l2Long M_spec_l2Long := hid_eq _
noncomputable def C_spec_l2Long : Contract := ⟨As_spec_l2Long, R_spec_l2Long, M_spec_l2Long, P_spec_l2Long⟩
theorem s_spec_l2Long : Sound Try.prog GG 39 C_spec_l2Long := by
  unfold C_spec_l2Long; rw [h_spec_l2Long]
  exact mkS Try.f39 trivial trivial
theorem p_spec_l2Long (a0 : D_Heap) (a1 : Int) : P_spec_l2Long (a0, a1, ()) = 
  bif inB a1 3 then
    some ((bif decide (a1 = (0 : Int)) then a0.1 else (bif decide (a1 = (1 : Int)) then a0.2.1 else a0.2.2.1)), ())
  else none := by
  rewrite [h_spec_l2Long]
  kernel_rfl

/- 19: loop.example/g01166/spec.l11Cut -/
abbrev As_spec_l11Cut : List ATy := [.data true T_Heap, .data false (.int .i64), .data false (.int .i64)]
abbrev R_spec_l11Cut : List (Bool × Ty) := [(false, .bool)]
abbrev M_spec_l11Cut : List RMode := []
abbrev Ft_spec_l11Cut : Type := D_Heap × Int × Int × Unit → Option (Bool × Unit)
noncomputable def X_spec_l11Cut : Ctx := { types := TT, globals := [], con := [(18, C_spec_l2Heap), (38, C_spec_l1In), (39, C_spec_l2Long)], keep := [], results := [.tmp 6], ntmps := 21, n := N }
noncomputable def B_spec_l11Cut : Code := (Try.f19.body).getD .skip
noncomputable def P_spec_l11Cut : Ft_spec_l11Cut := hid (runF X_spec_l11Cut B_spec_l11Cut As_spec_l11Cut R_spec_l11Cut M_spec_l11Cut)
theorem h_spec_l11Cut : P_spec_l11Cut = runF X_spec_l11Cut B_spec_l11Cut As_spec_l11Cut R_spec_l11Cut M_spec_l11Cut := hid_eq _
noncomputable def C_spec_l11Cut : Contract := ⟨As_spec_l11Cut, R_spec_l11Cut, M_spec_l11Cut, P_spec_l11Cut⟩
theorem s_spec_l11Cut : Sound Try.prog GG 19 C_spec_l11Cut := by
  unfold C_spec_l11Cut; rw [h_spec_l11Cut]
  exact mkS Try.f19 ⟨s_spec_l2Heap, s_spec_l1In, s_spec_l2Long, trivial⟩ trivial
theorem p_spec_l11Cut (a0 : D_Heap) (a1 : Int) (a2 : Int) : P_spec_l11Cut (a0, a1, a2, ()) = 
  Option.bind (P_spec_l2Heap (a0, ())) fun r0 =>
  bif r0.1 then
    Option.bind (P_spec_l1In (a1, 0, 2, ())) fun r2 =>
    bif r2.1 then
      Option.bind (P_spec_l2Long (a0, a1, ())) fun r4 =>
      Option.bind (P_spec_l1In (a2, 1, (IntKind.wrap .i64 (r4.1 - 1)), ())) fun r5 =>
      some (r5.1, ())
    else
      some (false, ())
  else
    some (false, ()) := by
  rewrite [h_spec_l11Cut]
  kernel_rfl

/- 58: loop.example/g01166/spec.l2Made -/
abbrev As_spec_l2Made : List ATy := [.data true T_Heap, .data false (.sl T_A3)]
abbrev R_spec_l2Made : List (Bool × Ty) := [(true, T_Heap)]
abbrev M_spec_l2Made : List RMode := [.pass 4]
abbrev Ft_spec_l2Made : Type := D_Heap × (List D_A3) × Unit → Option (D_Heap × Unit)
noncomputable def X_spec_l2Made : Ctx := { types := TT, globals := [], con := [], keep := [], results := [.cell 4 31], ntmps := 13, n := N }
noncomputable def B_spec_l2Made : Code := (Try.f58.body).getD .skip
noncomputable def P_spec_l2Made : Ft_spec_l2Made := hid (runF X_spec_l2Made B_spec_l2Made As_spec_l2Made R_spec_l2Made M_spec_l2Made)
theorem h_spec_l2Made : P_spec_l2Made = runF X_spec_l2Made B_spec_l2Made As_spec_l2Made R_spec_l2Made M_spec_l2Made := hid_eq _
noncomputable def C_spec_l2Made : Contract := ⟨As_spec_l2Made, R_spec_l2Made, M_spec_l2Made, P_spec_l2Made⟩
theorem s_spec_l2Made : Sound Try.prog GG 58 C_spec_l2Made := by
  unfold C_spec_l2Made; rw [h_spec_l2Made]
  exact mkS Try.f58 trivial trivial
theorem p_spec_l2Made (a0 : D_Heap) (a1 : List D_A3) : P_spec_l2Made (a0, a1, ()) = 
  some ((a0.1, (a0.2.1, (a0.2.2.1, (a1, ())))), ()) := by
  rewrite [h_spec_l2Made]
  kernel_rfl

/- 40: loop.example/g01166/spec.l2Own -/
abbrev As_spec_l2Own : List ATy := [.data true T_Heap]
abbrev R_spec_l2Own : List (Bool × Ty) := [(true, T_Heap)]
abbrev M_spec_l2Own : List RMode := [.own 48]
abbrev Ft_spec_l2Own : Type := D_Heap × Unit → Option (D_Heap × Unit)
noncomputable def X_spec_l2Own : Ctx := { types := TT, globals := [], con := [(58, C_spec_l2Made)], keep := [], results := [.cell 2 31], ntmps := 9, n := N }
noncomputable def B_spec_l2Own : Code := (Try.f40.body).getD .skip
noncomputable def P_spec_l2Own : Ft_spec_l2Own := hid (runF X_spec_l2Own B_spec_l2Own As_spec_l2Own R_spec_l2Own M_spec_l2Own)
theorem h_spec_l2Own : P_spec_l2Own = runF X_spec_l2Own B_spec_l2Own As_spec_l2Own R_spec_l2Own M_spec_l2Own := hid_eq _
noncomputable def C_spec_l2Own : Contract := ⟨As_spec_l2Own, R_spec_l2Own, M_spec_l2Own, P_spec_l2Own⟩
theorem s_spec_l2Own : Sound Try.prog GG 40 C_spec_l2Own := by
  unfold C_spec_l2Own; rw [h_spec_l2Own]
  exact mkS Try.f40 ⟨s_spec_l2Made, trivial⟩ trivial
theorem p_spec_l2Own (a0 : D_Heap) : P_spec_l2Own (a0, ()) = 
  bif (decide (((List.length ([] : List D_A3)) + (List.length a0.2.2.2.1)) * 24 ≤ 140737488355328) && decide (((List.length ([] : List D_A3)) + (List.length a0.2.2.2.1)) ≤ 140737488355328)) then
    Option.bind (P_spec_l2Made (a0, (([] : List D_A3) ++ a0.2.2.2.1), ())) fun r1 =>
    some ((r1.1.1, (r1.1.2.1, (r1.1.2.2.1, ((([] : List D_A3) ++ a0.2.2.2.1), ())))), ())
  else none := by
  rewrite [h_spec_l2Own]
  kernel_rfl

/- 41: loop.example/g01166/spec.l2Empty -/
abbrev As_spec_l2Empty : List ATy := [.data false (.int .i64), .data false (.int .i64), .data false (.int .i64)]
abbrev R_spec_l2Empty : List (Bool × Ty) := [(true, T_Heap)]
abbrev M_spec_l2Empty : List RMode := [.own 48]
abbrev Ft_spec_l2Empty : Type := Int × Int × Int × Unit → Option (D_Heap × Unit)
noncomputable def X_spec_l2Empty : Ctx := { types := TT, globals := [], con := [], keep := [], results := [.cell 6 31], ntmps := 12, n := N }
noncomputable def B_spec_l2Empty : Code := (Try.f41.body).getD .skip
noncomputable def P_spec_l2Empty : Ft_spec_l2Empty := hid (runF X_spec_l2Empty B_spec_l2Empty As_spec_l2Empty R_spec_l2Empty M_spec_l2Empty)
theorem h_spec_l2Empty : P_spec_l2Empty = runF X_spec_l2Empty B_spec_l2Empty As_spec_l2Empty R_spec_l2Empty M_spec_l2Empty := hid_eq _
noncomputable def C_spec_l2Empty : Contract := ⟨As_spec_l2Empty, R_spec_l2Empty, M_spec_l2Empty, P_spec_l2Empty⟩
theorem s_spec_l2Empty : Sound Try.prog GG 41 C_spec_l2Empty := by
  unfold C_spec_l2Empty; rw [h_spec_l2Empty]
  exact mkS Try.f41 trivial trivial
theorem p_spec_l2Empty (a0 : Int) (a1 : Int) (a2 : Int) : P_spec_l2Empty (a0, a1, a2, ()) = 
  some ((a0, (a1, (a2, (([] : List D_A3), ())))), ()) := by
  rewrite [h_spec_l2Empty]
  kernel_rfl

/- 42: loop.example/g01166/spec.l2Without -/
abbrev As_spec_l2Without : List ATy := [.data true T_Heap, .data true T_A3]
abbrev R_spec_l2Without : List (Bool × Ty) := [(true, T_Heap)]
abbrev M_spec_l2Without : List RMode := [.own 48]
abbrev Ft_spec_l2Without : Type := D_Heap × D_A3 × Unit → Option (D_Heap × Unit)
noncomputable def X_spec_l2Without : Ctx := { types := TT, globals := [], con := [(41, C_spec_l2Empty)], keep := [(3, ⟨[.box 2, .box 3, .box 4, .box 5, .tmp 2, .tmp 3, .tmp 4, .tmp 5, .tmp 6], []⟩)], results := [.cell 4 31], ntmps := 39, n := N }
noncomputable def B_spec_l2Without : Code := (Try.f42.body).getD .skip
noncomputable def L_spec_l2Without_3 (m0 : Nat) (p0 p1 p2 : Int) (p3 : List D_A3) (p4 p5 p6 p7 p8 p9 : Int) (p10 : List D_A3) (p11 p12 p13 : Int) (p14 : List D_A3) (p15 : Int) : Option (denL R_spec_l2Without) := loopF X_spec_l2Without B_spec_l2Without R_spec_l2Without M_spec_l2Without 3 [m0] [(.ver, .num 1), (.box 2, .box 0 false [.int .i64 p0, .int .i64 p1, .int .i64 p2, .imm T_A3 p3 (some 3)]), (.box 3, .box 0 false [.int .i64 p4, .int .i64 p5, .int .i64 p6]), (.box 4, .box 0 false [.int .i64 p7, .int .i64 p8, .int .i64 p9, .own 48 T_A3 0 p10]), (.box 5, .box 0 false [.int .i64 p11, .int .i64 p12, .int .i64 p13, .own 48 T_A3 0 p14]), (.tmp 2, .val false [.addr 2 0 0]), (.tmp 3, .val false [.addr 3 0 0]), (.tmp 4, .val false [.addr 4 0 0]), (.tmp 5, .val false [.addr 5 0 0]), (.tmp 6, .val false [.int .i64 p15])]
noncomputable def P_spec_l2Without : Ft_spec_l2Without := hid (runF X_spec_l2Without B_spec_l2Without As_spec_l2Without R_spec_l2Without M_spec_l2Without)
theorem h_spec_l2Without : P_spec_l2Without = runF X_spec_l2Without B_spec_l2Without As_spec_l2Without R_spec_l2Without M_spec_l2Without := hid_eq _
noncomputable def C_spec_l2Without : Contract := ⟨As_spec_l2Without, R_spec_l2Without, M_spec_l2Without, P_spec_l2Without⟩
theorem s_spec_l2Without : Sound Try.prog GG 42 C_spec_l2Without := by
  unfold C_spec_l2Without; rw [h_spec_l2Without]
  exact mkS Try.f42 ⟨s_spec_l2Empty, trivial⟩ trivial
noncomputable def l_spec_l2Without_3 := hid (L_spec_l2Without_3)
theorem h_spec_l2Without_3 : l_spec_l2Without_3 = L_spec_l2Without_3 := hid_eq _
theorem p_spec_l2Without (a0 : D_Heap) (a1 : D_A3) : P_spec_l2Without (a0, a1, ()) = 
  Option.bind (P_spec_l2Empty (a0.1, a0.2.1, a0.2.2.1, ())) fun r0 =>
  l_spec_l2Without_3 N a0.1 a0.2.1 a0.2.2.1 a0.2.2.2.1 a1.1 a1.2.1 a1.2.2.1 0 0 0 ([] : List D_A3) r0.1.1 r0.1.2.1 r0.1.2.2.1 r0.1.2.2.2.1 0 := by
  rewrite [h_spec_l2Without, h_spec_l2Without_3]
  kernel_rfl
theorem q_spec_l2Without_3 (m0 : Nat) (p0 p1 p2 : Int) (p3 : List D_A3) (p4 p5 p6 p7 p8 p9 : Int) (p10 : List D_A3) (p11 p12 p13 : Int) (p14 : List D_A3) (p15 : Int) : l_spec_l2Without_3 (m0 + 1) p0 p1 p2 p3 p4 p5 p6 p7 p8 p9 p10 p11 p12 p13 p14 p15 = 
  bif decide (p15 < (List.length p3 : Int)) then
    bif inB p15 (List.length p3) then
      bif !(decide (((nth T_A3 p3 p15)).1 = p4) && (decide ((((nth T_A3 p3 p15)).2).1 = p5) && (decide (((((nth T_A3 p3 p15)).2).2).1 = p6) && true))) then
        bif inB p15 (List.length p3) then
          bif (decide (((List.length p14) + (List.length ([(nth T_A3 p3 p15)] : List D_A3))) * 24 ≤ 140737488355328) && decide (((List.length p14) + (List.length ([(nth T_A3 p3 p15)] : List D_A3))) ≤ 140737488355328)) then
            l_spec_l2Without_3 m0 p0 p1 p2 p3 p4 p5 p6 p7 p8 p9 p10 p11 p12 p13 (p14 ++ ([(nth T_A3 p3 p15)] : List D_A3)) (IntKind.wrap .i64 (p15 + 1))
          else none
        else none
      else
        l_spec_l2Without_3 m0 p0 p1 p2 p3 p4 p5 p6 p7 p8 p9 p10 p11 p12 p13 p14 (IntKind.wrap .i64 (p15 + 1))
    else none
  else
    some ((p11, (p12, (p13, (p14, ())))), ()) := by
  rewrite [h_spec_l2Without_3]
  kernel_rfl

/- 43: loop.example/g01166/spec.l2With -/
abbrev As_spec_l2With : List ATy := [.data true T_Heap, .data true T_A3]
abbrev R_spec_l2With : List (Bool × Ty) := [(true, T_Heap)]
abbrev M_spec_l2With : List RMode := [.own 48]
abbrev Ft_spec_l2With : Type := D_Heap × D_A3 × Unit → Option (D_Heap × Unit)
noncomputable def X_spec_l2With : Ctx := { types := TT, globals := [], con := [(37, C_spec_l2Before), (40, C_spec_l2Own), (58, C_spec_l2Made)], keep := [(2, ⟨[.box 2, .box 3, .box 4, .tmp 2, .tmp 3, .tmp 4, .tmp 5], []⟩)], results := [.cell 4 31], ntmps := 54, n := N }
noncomputable def B_spec_l2With : Code := (Try.f43.body).getD .skip
noncomputable def L_spec_l2With_2 (m0 : Nat) (p0 p1 p2 : Int) (p3 : List D_A3) (p4 p5 p6 p7 p8 p9 : Int) (p10 : List D_A3) (p11 : Int) : Option (denL R_spec_l2With) := loopF X_spec_l2With B_spec_l2With R_spec_l2With M_spec_l2With 2 [m0] [(.ver, .num 1), (.box 2, .box 0 false [.int .i64 p0, .int .i64 p1, .int .i64 p2, .imm T_A3 p3 (some 3)]), (.box 3, .box 0 false [.int .i64 p4, .int .i64 p5, .int .i64 p6]), (.box 4, .box 0 false [.int .i64 p7, .int .i64 p8, .int .i64 p9, .own 48 T_A3 0 p10]), (.tmp 2, .val false [.addr 2 0 0]), (.tmp 3, .val false [.addr 3 0 0]), (.tmp 4, .val false [.addr 4 0 0]), (.tmp 5, .val false [.int .i64 p11])]
noncomputable def P_spec_l2With : Ft_spec_l2With := hid (runF X_spec_l2With B_spec_l2With As_spec_l2With R_spec_l2With M_spec_l2With)
theorem h_spec_l2With : P_spec_l2With = runF X_spec_l2With B_spec_l2With As_spec_l2With R_spec_l2With M_spec_l2With := hid_eq _
noncomputable def C_spec_l2With : Contract := ⟨As_spec_l2With, R_spec_l2With, M_spec_l2With, P_spec_l2With⟩
theorem s_spec_l2With : Sound Try.prog GG 43 C_spec_l2With := by
  unfold C_spec_l2With; rw [h_spec_l2With]
  exact mkS Try.f43 ⟨s_spec_l2Before, s_spec_l2Own, s_spec_l2Made, trivial⟩ trivial
noncomputable def l_spec_l2With_2 := hid (L_spec_l2With_2)
theorem h_spec_l2With_2 : l_spec_l2With_2 = L_spec_l2With_2 := hid_eq _
theorem p_spec_l2With (a0 : D_Heap) (a1 : D_A3) : P_spec_l2With (a0, a1, ()) = 
  l_spec_l2With_2 N a0.1 a0.2.1 a0.2.2.1 a0.2.2.2.1 a1.1 a1.2.1 a1.2.2.1 0 0 0 ([] : List D_A3) 0 := by
  rewrite [h_spec_l2With, h_spec_l2With_2]
  kernel_rfl
theorem q_spec_l2With_2 (m0 : Nat) (p0 p1 p2 : Int) (p3 : List D_A3) (p4 p5 p6 p7 p8 p9 : Int) (p10 : List D_A3) (p11 : Int) : l_spec_l2With_2 (m0 + 1) p0 p1 p2 p3 p4 p5 p6 p7 p8 p9 p10 p11 = 
  bif decide (p11 < (List.length p3 : Int)) then
    bif inB p11 (List.length p3) then
      Option.bind (P_spec_l2Before ((nth T_A3 p3 p11), (p4, (p5, (p6, ()))), ())) fun r2 =>
      bif r2.1 then
        l_spec_l2With_2 m0 p0 p1 p2 p3 p4 p5 p6 p7 p8 p9 p10 (IntKind.wrap .i64 (p11 + 1))
      else
        bif decide (p11 < (List.length p3 : Int)) then
          bif inB p11 (List.length p3) then
            bif (decide (((nth T_A3 p3 p11)).1 = p4) && (decide ((((nth T_A3 p3 p11)).2).1 = p5) && (decide (((((nth T_A3 p3 p11)).2).2).1 = p6) && true))) then
              Option.bind (P_spec_l2Own ((p0, (p1, (p2, (p3, ())))), ())) fun r7 =>
              some (r7.1, ())
            else
              bif (decide ((0 : Int) ≤ 0) && decide ((0 : Int) ≤ p11) && decide (p11 ≤ (List.length p3 : Int))) then
                bif (decide (((List.length ([] : List D_A3)) + (List.length (cut p3 0 p11))) * 24 ≤ 140737488355328) && decide (((List.length ([] : List D_A3)) + (List.length (cut p3 0 p11))) ≤ 140737488355328)) then
                  bif (decide (((List.length (([] : List D_A3) ++ (cut p3 0 p11))) + (List.length ([(p4, (p5, (p6, ())))] : List D_A3))) * 24 ≤ 140737488355328) && decide (((List.length (([] : List D_A3) ++ (cut p3 0 p11))) + (List.length ([(p4, (p5, (p6, ())))] : List D_A3))) ≤ 140737488355328)) then
                    bif (decide ((0 : Int) ≤ p11) && decide (p11 ≤ (List.length p3 : Int)) && decide ((List.length p3 : Int) ≤ (List.length p3 : Int))) then
                      bif (decide (((List.length ((([] : List D_A3) ++ (cut p3 0 p11)) ++ ([(p4, (p5, (p6, ())))] : List D_A3))) + (List.length (cut p3 p11 (List.length p3 : Int)))) * 24 ≤ 140737488355328) && decide (((List.length ((([] : List D_A3) ++ (cut p3 0 p11)) ++ ([(p4, (p5, (p6, ())))] : List D_A3))) + (List.length (cut p3 p11 (List.length p3 : Int)))) ≤ 140737488355328)) then
                        Option.bind (P_spec_l2Made ((p0, (p1, (p2, (p3, ())))), (((([] : List D_A3) ++ (cut p3 0 p11)) ++ ([(p4, (p5, (p6, ())))] : List D_A3)) ++ (cut p3 p11 (List.length p3 : Int))), ())) fun r12 =>
                        some ((r12.1.1, (r12.1.2.1, (r12.1.2.2.1, ((((([] : List D_A3) ++ (cut p3 0 p11)) ++ ([(p4, (p5, (p6, ())))] : List D_A3)) ++ (cut p3 p11 (List.length p3 : Int))), ())))), ())
                      else none
                    else none
                  else none
                else none
              else none
          else none
        else
          bif (decide ((0 : Int) ≤ 0) && decide ((0 : Int) ≤ p11) && decide (p11 ≤ (List.length p3 : Int))) then
            bif (decide (((List.length ([] : List D_A3)) + (List.length (cut p3 0 p11))) * 24 ≤ 140737488355328) && decide (((List.length ([] : List D_A3)) + (List.length (cut p3 0 p11))) ≤ 140737488355328)) then
              bif (decide (((List.length (([] : List D_A3) ++ (cut p3 0 p11))) + (List.length ([(p4, (p5, (p6, ())))] : List D_A3))) * 24 ≤ 140737488355328) && decide (((List.length (([] : List D_A3) ++ (cut p3 0 p11))) + (List.length ([(p4, (p5, (p6, ())))] : List D_A3))) ≤ 140737488355328)) then
                bif (decide ((0 : Int) ≤ p11) && decide (p11 ≤ (List.length p3 : Int)) && decide ((List.length p3 : Int) ≤ (List.length p3 : Int))) then
                  bif (decide (((List.length ((([] : List D_A3) ++ (cut p3 0 p11)) ++ ([(p4, (p5, (p6, ())))] : List D_A3))) + (List.length (cut p3 p11 (List.length p3 : Int)))) * 24 ≤ 140737488355328) && decide (((List.length ((([] : List D_A3) ++ (cut p3 0 p11)) ++ ([(p4, (p5, (p6, ())))] : List D_A3))) + (List.length (cut p3 p11 (List.length p3 : Int)))) ≤ 140737488355328)) then
                    Option.bind (P_spec_l2Made ((p0, (p1, (p2, (p3, ())))), (((([] : List D_A3) ++ (cut p3 0 p11)) ++ ([(p4, (p5, (p6, ())))] : List D_A3)) ++ (cut p3 p11 (List.length p3 : Int))), ())) fun r10 =>
                    some ((r10.1.1, (r10.1.2.1, (r10.1.2.2.1, ((((([] : List D_A3) ++ (cut p3 0 p11)) ++ ([(p4, (p5, (p6, ())))] : List D_A3)) ++ (cut p3 p11 (List.length p3 : Int))), ())))), ())
                  else none
                else none
              else none
            else none
          else none
    else none
  else
    bif decide (p11 < (List.length p3 : Int)) then
      bif inB p11 (List.length p3) then
        bif (decide (((nth T_A3 p3 p11)).1 = p4) && (decide ((((nth T_A3 p3 p11)).2).1 = p5) && (decide (((((nth T_A3 p3 p11)).2).2).1 = p6) && true))) then
          Option.bind (P_spec_l2Own ((p0, (p1, (p2, (p3, ())))), ())) fun r4 =>
          some (r4.1, ())
        else
          bif (decide ((0 : Int) ≤ 0) && decide ((0 : Int) ≤ p11) && decide (p11 ≤ (List.length p3 : Int))) then
            bif (decide (((List.length ([] : List D_A3)) + (List.length (cut p3 0 p11))) * 24 ≤ 140737488355328) && decide (((List.length ([] : List D_A3)) + (List.length (cut p3 0 p11))) ≤ 140737488355328)) then
              bif (decide (((List.length (([] : List D_A3) ++ (cut p3 0 p11))) + (List.length ([(p4, (p5, (p6, ())))] : List D_A3))) * 24 ≤ 140737488355328) && decide (((List.length (([] : List D_A3) ++ (cut p3 0 p11))) + (List.length ([(p4, (p5, (p6, ())))] : List D_A3))) ≤ 140737488355328)) then
                bif (decide ((0 : Int) ≤ p11) && decide (p11 ≤ (List.length p3 : Int)) && decide ((List.length p3 : Int) ≤ (List.length p3 : Int))) then
                  bif (decide (((List.length ((([] : List D_A3) ++ (cut p3 0 p11)) ++ ([(p4, (p5, (p6, ())))] : List D_A3))) + (List.length (cut p3 p11 (List.length p3 : Int)))) * 24 ≤ 140737488355328) && decide (((List.length ((([] : List D_A3) ++ (cut p3 0 p11)) ++ ([(p4, (p5, (p6, ())))] : List D_A3))) + (List.length (cut p3 p11 (List.length p3 : Int)))) ≤ 140737488355328)) then
                    Option.bind (P_spec_l2Made ((p0, (p1, (p2, (p3, ())))), (((([] : List D_A3) ++ (cut p3 0 p11)) ++ ([(p4, (p5, (p6, ())))] : List D_A3)) ++ (cut p3 p11 (List.length p3 : Int))), ())) fun r9 =>
                    some ((r9.1.1, (r9.1.2.1, (r9.1.2.2.1, ((((([] : List D_A3) ++ (cut p3 0 p11)) ++ ([(p4, (p5, (p6, ())))] : List D_A3)) ++ (cut p3 p11 (List.length p3 : Int))), ())))), ())
                  else none
                else none
              else none
            else none
          else none
      else none
    else
      bif (decide ((0 : Int) ≤ 0) && decide ((0 : Int) ≤ p11) && decide (p11 ≤ (List.length p3 : Int))) then
        bif (decide (((List.length ([] : List D_A3)) + (List.length (cut p3 0 p11))) * 24 ≤ 140737488355328) && decide (((List.length ([] : List D_A3)) + (List.length (cut p3 0 p11))) ≤ 140737488355328)) then
          bif (decide (((List.length (([] : List D_A3) ++ (cut p3 0 p11))) + (List.length ([(p4, (p5, (p6, ())))] : List D_A3))) * 24 ≤ 140737488355328) && decide (((List.length (([] : List D_A3) ++ (cut p3 0 p11))) + (List.length ([(p4, (p5, (p6, ())))] : List D_A3))) ≤ 140737488355328)) then
            bif (decide ((0 : Int) ≤ p11) && decide (p11 ≤ (List.length p3 : Int)) && decide ((List.length p3 : Int) ≤ (List.length p3 : Int))) then
              bif (decide (((List.length ((([] : List D_A3) ++ (cut p3 0 p11)) ++ ([(p4, (p5, (p6, ())))] : List D_A3))) + (List.length (cut p3 p11 (List.length p3 : Int)))) * 24 ≤ 140737488355328) && decide (((List.length ((([] : List D_A3) ++ (cut p3 0 p11)) ++ ([(p4, (p5, (p6, ())))] : List D_A3))) + (List.length (cut p3 p11 (List.length p3 : Int)))) ≤ 140737488355328)) then
                Option.bind (P_spec_l2Made ((p0, (p1, (p2, (p3, ())))), (((([] : List D_A3) ++ (cut p3 0 p11)) ++ ([(p4, (p5, (p6, ())))] : List D_A3)) ++ (cut p3 p11 (List.length p3 : Int))), ())) fun r7 =>
                some ((r7.1.1, (r7.1.2.1, (r7.1.2.2.1, ((((([] : List D_A3) ++ (cut p3 0 p11)) ++ ([(p4, (p5, (p6, ())))] : List D_A3)) ++ (cut p3 p11 (List.length p3 : Int))), ())))), ())
              else none
            else none
          else none
        else none
      else none := by
  rewrite [h_spec_l2With_2]
  kernel_rfl

/- 61: loop.example/g01166/spec.l1Most -/
abbrev As_spec_l1Most : List ATy := [.data false (.int .i64), .data false (.int .i64)]
abbrev R_spec_l1Most : List (Bool × Ty) := [(false, (.int .i64))]
abbrev M_spec_l1Most : List RMode := []
abbrev Ft_spec_l1Most : Type := Int × Int × Unit → Option (Int × Unit)
noncomputable def X_spec_l1Most : Ctx := { types := TT, globals := [], con := [], keep := [], results := [.tmp 4], ntmps := 10, n := N }
noncomputable def B_spec_l1Most : Code := (Try.f61.body).getD .skip
noncomputable def P_spec_l1Most : Ft_spec_l1Most := hid (runF X_spec_l1Most B_spec_l1Most As_spec_l1Most R_spec_l1Most M_spec_l1Most)
theorem h_spec_l1Most : P_spec_l1Most = runF X_spec_l1Most B_spec_l1Most As_spec_l1Most R_spec_l1Most M_spec_l1Most := hid_eq _
noncomputable def C_spec_l1Most : Contract := ⟨As_spec_l1Most, R_spec_l1Most, M_spec_l1Most, P_spec_l1Most⟩
theorem s_spec_l1Most : Sound Try.prog GG 61 C_spec_l1Most := by
  unfold C_spec_l1Most; rw [h_spec_l1Most]
  exact mkS Try.f61 trivial trivial
theorem p_spec_l1Most (a0 : Int) (a1 : Int) : P_spec_l1Most (a0, a1, ()) = 
  bif decide (a0 > a1) then
    some (a0, ())
  else
    some (a1, ()) := by
  rewrite [h_spec_l1Most]
  kernel_rfl

/- 59: loop.example/g01166/spec.l2Apart -/
abbrev As_spec_l2Apart : List ATy := [.data true T_A3, .data true T_A3]
abbrev R_spec_l2Apart : List (Bool × Ty) := [(false, (.int .i64))]
abbrev M_spec_l2Apart : List RMode := []
abbrev Ft_spec_l2Apart : Type := D_A3 × D_A3 × Unit → Option (Int × Unit)
noncomputable def X_spec_l2Apart : Ctx := { types := TT, globals := [], con := [(61, C_spec_l1Most)], keep := [(3, ⟨[.box 2, .box 3, .tmp 2, .tmp 3, .tmp 5, .tmp 6], []⟩)], results := [.tmp 4], ntmps := 29, n := N }
noncomputable def B_spec_l2Apart : Code := (Try.f59.body).getD .skip
noncomputable def L_spec_l2Apart_3 (m0 : Nat) (p0 p1 p2 p3 p4 p5 p6 p7 : Int) : Option (denL R_spec_l2Apart) := loopF X_spec_l2Apart B_spec_l2Apart R_spec_l2Apart M_spec_l2Apart 3 [m0] [(.ver, .num 1), (.box 2, .box 0 false [.int .i64 p0, .int .i64 p1, .int .i64 p2]), (.box 3, .box 0 false [.int .i64 p3, .int .i64 p4, .int .i64 p5]), (.tmp 2, .val false [.addr 2 0 0]), (.tmp 3, .val false [.addr 3 0 0]), (.tmp 5, .val false [.int .i64 p6]), (.tmp 6, .val false [.int .i64 p7])]
noncomputable def P_spec_l2Apart : Ft_spec_l2Apart := hid (runF X_spec_l2Apart B_spec_l2Apart As_spec_l2Apart R_spec_l2Apart M_spec_l2Apart)
theorem h_spec_l2Apart : P_spec_l2Apart = runF X_spec_l2Apart B_spec_l2Apart As_spec_l2Apart R_spec_l2Apart M_spec_l2Apart := hid_eq _
noncomputable def C_spec_l2Apart : Contract := ⟨As_spec_l2Apart, R_spec_l2Apart, M_spec_l2Apart, P_spec_l2Apart⟩
theorem s_spec_l2Apart : Sound Try.prog GG 59 C_spec_l2Apart := by
  unfold C_spec_l2Apart; rw [h_spec_l2Apart]
  exact mkS Try.f59 ⟨s_spec_l1Most, trivial⟩ trivial
noncomputable def l_spec_l2Apart_3 := hid (L_spec_l2Apart_3)
theorem h_spec_l2Apart_3 : l_spec_l2Apart_3 = L_spec_l2Apart_3 := hid_eq _
theorem p_spec_l2Apart (a0 : D_A3) (a1 : D_A3) : P_spec_l2Apart (a0, a1, ()) = 
  l_spec_l2Apart_3 N a0.1 a0.2.1 a0.2.2.1 a1.1 a1.2.1 a1.2.2.1 0 0 := by
  rewrite [h_spec_l2Apart, h_spec_l2Apart_3]
  kernel_rfl
theorem q_spec_l2Apart_3 (m0 : Nat) (p0 p1 p2 p3 p4 p5 p6 p7 : Int) : l_spec_l2Apart_3 (m0 + 1) p0 p1 p2 p3 p4 p5 p6 p7 = 
  bif decide (p7 < 3) then
    bif inB p7 3 then
      bif inB p7 3 then
        bif inB p7 3 then
          bif inB p7 3 then
            Option.bind (P_spec_l1Most ((IntKind.wrap .i64 ((bif decide (p7 = (0 : Int)) then p0 else (bif decide (p7 = (1 : Int)) then p1 else p2)) - (bif decide (p7 = (0 : Int)) then p3 else (bif decide (p7 = (1 : Int)) then p4 else p5)))), (IntKind.wrap .i64 ((bif decide (p7 = (0 : Int)) then p3 else (bif decide (p7 = (1 : Int)) then p4 else p5)) - (bif decide (p7 = (0 : Int)) then p0 else (bif decide (p7 = (1 : Int)) then p1 else p2)))), ())) fun r5 =>
            l_spec_l2Apart_3 m0 p0 p1 p2 p3 p4 p5 (IntKind.wrap .i64 (p6 + r5.1)) (IntKind.wrap .i64 (p7 + 1))
          else none
        else none
      else none
    else none
  else
    some (p6, ()) := by
  rewrite [h_spec_l2Apart_3]
  kernel_rfl

/- 44: loop.example/g01166/spec.l2Near -/
abbrev As_spec_l2Near : List ATy := [.data true T_Heap, .data true T_A3]
abbrev R_spec_l2Near : List (Bool × Ty) := [(false, (.sl T_A3))]
abbrev M_spec_l2Near : List RMode := [.own 48]
abbrev Ft_spec_l2Near : Type := D_Heap × D_A3 × Unit → Option ((List D_A3) × Unit)
noncomputable def X_spec_l2Near : Ctx := { types := TT, globals := [], con := [(59, C_spec_l2Apart)], keep := [(3, ⟨[.box 2, .box 3, .tmp 2, .tmp 3, .tmp 5, .tmp 6], []⟩)], results := [.tmp 4], ntmps := 32, n := N }
noncomputable def B_spec_l2Near : Code := (Try.f44.body).getD .skip
noncomputable def L_spec_l2Near_3 (m0 : Nat) (p0 p1 p2 : Int) (p3 : List D_A3) (p4 p5 p6 : Int) (p7 : List D_A3) (p8 : Int) : Option (denL R_spec_l2Near) := loopF X_spec_l2Near B_spec_l2Near R_spec_l2Near M_spec_l2Near 3 [m0] [(.ver, .num 1), (.box 2, .box 0 false [.int .i64 p0, .int .i64 p1, .int .i64 p2, .imm T_A3 p3 (some 3)]), (.box 3, .box 0 false [.int .i64 p4, .int .i64 p5, .int .i64 p6]), (.tmp 2, .val false [.addr 2 0 0]), (.tmp 3, .val false [.addr 3 0 0]), (.tmp 5, .val false [.own 48 T_A3 0 p7]), (.tmp 6, .val false [.int .i64 p8])]
noncomputable def P_spec_l2Near : Ft_spec_l2Near := hid (runF X_spec_l2Near B_spec_l2Near As_spec_l2Near R_spec_l2Near M_spec_l2Near)
theorem h_spec_l2Near : P_spec_l2Near = runF X_spec_l2Near B_spec_l2Near As_spec_l2Near R_spec_l2Near M_spec_l2Near := hid_eq _
noncomputable def C_spec_l2Near : Contract := ⟨As_spec_l2Near, R_spec_l2Near, M_spec_l2Near, P_spec_l2Near⟩
theorem s_spec_l2Near : Sound Try.prog GG 44 C_spec_l2Near := by
  unfold C_spec_l2Near; rw [h_spec_l2Near]
  exact mkS Try.f44 ⟨s_spec_l2Apart, trivial⟩ trivial
noncomputable def l_spec_l2Near_3 := hid (L_spec_l2Near_3)
theorem h_spec_l2Near_3 : l_spec_l2Near_3 = L_spec_l2Near_3 := hid_eq _
theorem p_spec_l2Near (a0 : D_Heap) (a1 : D_A3) : P_spec_l2Near (a0, a1, ()) = 
  l_spec_l2Near_3 N a0.1 a0.2.1 a0.2.2.1 a0.2.2.2.1 a1.1 a1.2.1 a1.2.2.1 ([] : List D_A3) 0 := by
  rewrite [h_spec_l2Near, h_spec_l2Near_3]
  kernel_rfl
theorem q_spec_l2Near_3 (m0 : Nat) (p0 p1 p2 : Int) (p3 : List D_A3) (p4 p5 p6 : Int) (p7 : List D_A3) (p8 : Int) : l_spec_l2Near_3 (m0 + 1) p0 p1 p2 p3 p4 p5 p6 p7 p8 = 
  bif decide (p8 < (List.length p3 : Int)) then
    bif inB p8 (List.length p3) then
      Option.bind (P_spec_l2Apart ((nth T_A3 p3 p8), (p4, (p5, (p6, ()))), ())) fun r2 =>
      bif decide (r2.1 = 1) then
        bif inB p8 (List.length p3) then
          bif (decide (((List.length p7) + (List.length ([(nth T_A3 p3 p8)] : List D_A3))) * 24 ≤ 140737488355328) && decide (((List.length p7) + (List.length ([(nth T_A3 p3 p8)] : List D_A3))) ≤ 140737488355328)) then
            l_spec_l2Near_3 m0 p0 p1 p2 p3 p4 p5 p6 (p7 ++ ([(nth T_A3 p3 p8)] : List D_A3)) (IntKind.wrap .i64 (p8 + 1))
          else none
        else none
      else
        l_spec_l2Near_3 m0 p0 p1 p2 p3 p4 p5 p6 p7 (IntKind.wrap .i64 (p8 + 1))
    else none
  else
    some (p7, ()) := by
  rewrite [h_spec_l2Near_3]
  kernel_rfl

/- 45: loop.example/g01166/spec.l11Parted -/
abbrev As_spec_l11Parted : List ATy := [.data false (.sl T_A2), .data true T_A3, .data true T_A3]
abbrev R_spec_l11Parted : List (Bool × Ty) := [(false, .bool)]
abbrev M_spec_l11Parted : List RMode := []
abbrev Ft_spec_l11Parted : Type := (List D_A2) × D_A3 × D_A3 × Unit → Option (Bool × Unit)
noncomputable def X_spec_l11Parted : Ctx := { types := TT, globals := [], con := [], keep := [(2, ⟨[.box 4, .box 5, .tmp 0, .tmp 4, .tmp 5, .tmp 7], []⟩)], results := [.tmp 6], ntmps := 41, n := N }
noncomputable def B_spec_l11Parted : Code := (Try.f45.body).getD .skip
noncomputable def L_spec_l11Parted_2 (m0 : Nat) (p0 p1 p2 p3 p4 p5 : Int) (p6 : List D_A2) (p7 : Int) : Option (denL R_spec_l11Parted) := loopF X_spec_l11Parted B_spec_l11Parted R_spec_l11Parted M_spec_l11Parted 2 [m0] [(.ver, .num 1), (.box 4, .box 0 false [.int .i64 p0, .int .i64 p1, .int .i64 p2]), (.box 5, .box 0 false [.int .i64 p3, .int .i64 p4, .int .i64 p5]), (.tmp 0, .val false [.imm T_A2 p6 (some 0)]), (.tmp 4, .val false [.addr 4 0 0]), (.tmp 5, .val false [.addr 5 0 0]), (.tmp 7, .val false [.int .i64 p7])]
noncomputable def P_spec_l11Parted : Ft_spec_l11Parted := hid (runF X_spec_l11Parted B_spec_l11Parted As_spec_l11Parted R_spec_l11Parted M_spec_l11Parted)
theorem h_spec_l11Parted : P_spec_l11Parted = runF X_spec_l11Parted B_spec_l11Parted As_spec_l11Parted R_spec_l11Parted M_spec_l11Parted := hid_eq _
noncomputable def C_spec_l11Parted : Contract := ⟨As_spec_l11Parted, R_spec_l11Parted, M_spec_l11Parted, P_spec_l11Parted⟩
theorem s_spec_l11Parted : Sound Try.prog GG 45 C_spec_l11Parted := by
  unfold C_spec_l11Parted; rw [h_spec_l11Parted]
  exact mkS Try.f45 trivial trivial
noncomputable def l_spec_l11Parted_2 := hid (L_spec_l11Parted_2)
theorem h_spec_l11Parted_2 : l_spec_l11Parted_2 = L_spec_l11Parted_2 := hid_eq _
theorem p_spec_l11Parted (a0 : List D_A2) (a1 : D_A3) (a2 : D_A3) : P_spec_l11Parted (a0, a1, a2, ()) = 
  l_spec_l11Parted_2 N a1.1 a1.2.1 a1.2.2.1 a2.1 a2.2.1 a2.2.2.1 a0 0 := by
  rewrite [h_spec_l11Parted, h_spec_l11Parted_2]
  kernel_rfl
theorem q_spec_l11Parted_2 (m0 : Nat) (p0 p1 p2 p3 p4 p5 : Int) (p6 : List D_A2) (p7 : Int) : l_spec_l11Parted_2 (m0 + 1) p0 p1 p2 p3 p4 p5 p6 p7 = 
  bif decide (p7 < (List.length p6 : Int)) then
    bif inB p7 (List.length p6) then
      bif inB ((nth T_A2 p6 p7)).1 3 then
        bif inB p7 (List.length p6) then
          bif inB p7 (List.length p6) then
            bif inB ((nth T_A2 p6 p7)).1 3 then
              bif inB p7 (List.length p6) then
                bif !(decide ((bif decide (((nth T_A2 p6 p7)).1 = (0 : Int)) then p0 else (bif decide (((nth T_A2 p6 p7)).1 = (1 : Int)) then p1 else p2)) < (((nth T_A2 p6 p7)).2).1) == decide ((bif decide (((nth T_A2 p6 p7)).1 = (0 : Int)) then p3 else (bif decide (((nth T_A2 p6 p7)).1 = (1 : Int)) then p4 else p5)) < (((nth T_A2 p6 p7)).2).1)) then
                  some (true, ())
                else
                  l_spec_l11Parted_2 m0 p0 p1 p2 p3 p4 p5 p6 (IntKind.wrap .i64 (p7 + 1))
              else none
            else none
          else none
        else none
      else none
    else none
  else
    some (false, ()) := by
  rewrite [h_spec_l11Parted_2]
  kernel_rfl

/- 20: loop.example/g01166/spec.l11Pieces -/
abbrev As_spec_l11Pieces : List ATy := [.data true T_Heap, .data false (.sl T_A2)]
abbrev R_spec_l11Pieces : List (Bool × Ty) := [(false, (.sl (.sl T_A3)))]
abbrev M_spec_l11Pieces : List RMode := [.own 22]
abbrev Ft_spec_l11Pieces : Type := D_Heap × (List D_A2) × Unit → Option ((List (List D_A3)) × Unit)
noncomputable def X_spec_l11Pieces : Ctx := { types := TT, globals := [], con := [(40, C_spec_l2Own), (41, C_spec_l2Empty), (42, C_spec_l2Without), (43, C_spec_l2With), (44, C_spec_l2Near), (45, C_spec_l11Parted)], keep := [(2, ⟨[.box 2, .box 6, .tmp 1, .tmp 2, .tmp 5, .tmp 6], []⟩), (6, ⟨[.box 2, .box 6, .box 7, .tmp 1, .tmp 2, .tmp 5, .tmp 6, .tmp 7, .tmp 8, .tmp 9], []⟩), (11, ⟨[.box 2, .box 6, .box 7, .tmp 1, .tmp 2, .tmp 5, .tmp 6, .tmp 7, .tmp 8, .tmp 9, .tmp 10, .tmp 11], []⟩)], results := [.tmp 4], ntmps := 90, n := N }
noncomputable def B_spec_l11Pieces : Code := (Try.f20.body).getD .skip
noncomputable def L_spec_l11Pieces_2 (m0 : Nat) (p0 p1 p2 : Int) (p3 : List D_A3) (p4 p5 p6 : Int) (p7 : List D_A3) (p8 : List D_A2) (p9 : List (List D_A3)) : Option (denL R_spec_l11Pieces) := loopF X_spec_l11Pieces B_spec_l11Pieces R_spec_l11Pieces M_spec_l11Pieces 2 [m0] [(.ver, .num 1), (.box 2, .box 0 false [.int .i64 p0, .int .i64 p1, .int .i64 p2, .imm T_A3 p3 (some 3)]), (.box 6, .box 0 false [.int .i64 p4, .int .i64 p5, .int .i64 p6, .own 48 T_A3 0 p7]), (.tmp 1, .val false [.imm T_A2 p8 (some 4)]), (.tmp 2, .val false [.addr 2 0 0]), (.tmp 5, .val false [.own 22 (.sl T_A3) 0 p9]), (.tmp 6, .val false [.addr 6 0 0])]
noncomputable def L_spec_l11Pieces_6 (m0 m1 : Nat) (p0 p1 p2 : Int) (p3 : List D_A3) (p4 p5 p6 : Int) (p7 : List D_A3) (p8 p9 p10 : Int) (p11 : List D_A3) (p12 : List D_A2) (p13 : List (List D_A3)) (p14 : List D_A3) (p15 : Int) : Option (denL R_spec_l11Pieces) := loopF X_spec_l11Pieces B_spec_l11Pieces R_spec_l11Pieces M_spec_l11Pieces 6 [m0, m1] [(.ver, .num 1), (.box 2, .box 0 false [.int .i64 p0, .int .i64 p1, .int .i64 p2, .imm T_A3 p3 (some 3)]), (.box 6, .box 0 false [.int .i64 p4, .int .i64 p5, .int .i64 p6, .own 48 T_A3 0 p7]), (.box 7, .box 0 false [.int .i64 p8, .int .i64 p9, .int .i64 p10, .own 48 T_A3 0 p11]), (.tmp 1, .val false [.imm T_A2 p12 (some 4)]), (.tmp 2, .val false [.addr 2 0 0]), (.tmp 5, .val false [.own 22 (.sl T_A3) 0 p13]), (.tmp 6, .val false [.addr 6 0 0]), (.tmp 7, .val false [.addr 7 0 0]), (.tmp 8, .val false [.own 48 T_A3 0 p14]), (.tmp 9, .val false [.int .i64 p15])]
noncomputable def L_spec_l11Pieces_11 (m0 m1 m2 : Nat) (p0 p1 p2 : Int) (p3 : List D_A3) (p4 p5 p6 : Int) (p7 : List D_A3) (p8 p9 p10 : Int) (p11 : List D_A3) (p12 : List D_A2) (p13 : List (List D_A3)) (p14 : List D_A3) (p15 : Int) (p16 : List D_A3) (p17 : Int) : Option (denL R_spec_l11Pieces) := loopF X_spec_l11Pieces B_spec_l11Pieces R_spec_l11Pieces M_spec_l11Pieces 11 [m0, m1, m2] [(.ver, .num 1), (.box 2, .box 0 false [.int .i64 p0, .int .i64 p1, .int .i64 p2, .imm T_A3 p3 (some 3)]), (.box 6, .box 0 false [.int .i64 p4, .int .i64 p5, .int .i64 p6, .own 48 T_A3 0 p7]), (.box 7, .box 0 false [.int .i64 p8, .int .i64 p9, .int .i64 p10, .own 48 T_A3 0 p11]), (.tmp 1, .val false [.imm T_A2 p12 (some 4)]), (.tmp 2, .val false [.addr 2 0 0]), (.tmp 5, .val false [.own 22 (.sl T_A3) 0 p13]), (.tmp 6, .val false [.addr 6 0 0]), (.tmp 7, .val false [.addr 7 0 0]), (.tmp 8, .val false [.own 48 T_A3 0 p14]), (.tmp 9, .val false [.int .i64 p15]), (.tmp 10, .val false [.own 48 T_A3 0 p16]), (.tmp 11, .val false [.int .i64 p17])]
noncomputable def P_spec_l11Pieces : Ft_spec_l11Pieces := hid (runF X_spec_l11Pieces B_spec_l11Pieces As_spec_l11Pieces R_spec_l11Pieces M_spec_l11Pieces)
theorem h_spec_l11Pieces : P_spec_l11Pieces = runF X_spec_l11Pieces B_spec_l11Pieces As_spec_l11Pieces R_spec_l11Pieces M_spec_l11Pieces := hid_eq _
noncomputable def C_spec_l11Pieces : Contract := ⟨As_spec_l11Pieces, R_spec_l11Pieces, M_spec_l11Pieces, P_spec_l11Pieces⟩
theorem s_spec_l11Pieces : Sound Try.prog GG 20 C_spec_l11Pieces := by
  unfold C_spec_l11Pieces; rw [h_spec_l11Pieces]
  exact mkS Try.f20 ⟨s_spec_l2Own, s_spec_l2Empty, s_spec_l2Without, s_spec_l2With, s_spec_l2Near, s_spec_l11Parted, trivial⟩ trivial
noncomputable def l_spec_l11Pieces_2 := hid (L_spec_l11Pieces_2)
theorem h_spec_l11Pieces_2 : l_spec_l11Pieces_2 = L_spec_l11Pieces_2 := hid_eq _
noncomputable def l_spec_l11Pieces_6 := hid (L_spec_l11Pieces_6)
theorem h_spec_l11Pieces_6 : l_spec_l11Pieces_6 = L_spec_l11Pieces_6 := hid_eq _
noncomputable def l_spec_l11Pieces_11 := hid (L_spec_l11Pieces_11)
theorem h_spec_l11Pieces_11 : l_spec_l11Pieces_11 = L_spec_l11Pieces_11 := hid_eq _
theorem p_spec_l11Pieces (a0 : D_Heap) (a1 : List D_A2) : P_spec_l11Pieces (a0, a1, ()) = 
  Option.bind (P_spec_l2Own (a0, ())) fun r0 =>
  l_spec_l11Pieces_2 N a0.1 a0.2.1 a0.2.2.1 a0.2.2.2.1 r0.1.1 r0.1.2.1 r0.1.2.2.1 r0.1.2.2.2.1 a1 ([] : List (List D_A3)) := by
  rewrite [h_spec_l11Pieces, h_spec_l11Pieces_2]
  kernel_rfl
theorem q_spec_l11Pieces_2 (m0 : Nat) (p0 p1 p2 : Int) (p3 : List D_A3) (p4 p5 p6 : Int) (p7 : List D_A3) (p8 : List D_A2) (p9 : List (List D_A3)) : l_spec_l11Pieces_2 (m0 + 1) p0 p1 p2 p3 p4 p5 p6 p7 p8 p9 = 
  bif decide ((List.length p7 : Int) > 0) then
    Option.bind (P_spec_l2Empty (p0, p1, p2, ())) fun r1 =>
    bif inB 0 (List.length p7) then
      bif inB 0 (List.length ([(nth T_A3 p7 0)] : List D_A3)) then
        Option.bind (P_spec_l2Without ((p4, (p5, (p6, (p7, ())))), (nth T_A3 ([(nth T_A3 p7 0)] : List D_A3) 0), ())) fun r4 =>
        l_spec_l11Pieces_6 m0 N p0 p1 p2 p3 r4.1.1 r4.1.2.1 r4.1.2.2.1 r4.1.2.2.2.1 r1.1.1 r1.1.2.1 r1.1.2.2.1 r1.1.2.2.2.1 p8 p9 ([(nth T_A3 p7 0)] : List D_A3) 0
      else none
    else none
  else
    some (p9, ()) := by
  rewrite [h_spec_l11Pieces_2, h_spec_l11Pieces_6]
  kernel_rfl
theorem q_spec_l11Pieces_6 (m0 m1 : Nat) (p0 p1 p2 : Int) (p3 : List D_A3) (p4 p5 p6 : Int) (p7 : List D_A3) (p8 p9 p10 : Int) (p11 : List D_A3) (p12 : List D_A2) (p13 : List (List D_A3)) (p14 : List D_A3) (p15 : Int) : l_spec_l11Pieces_6 m0 (m1 + 1) p0 p1 p2 p3 p4 p5 p6 p7 p8 p9 p10 p11 p12 p13 p14 p15 = 
  bif decide (p15 < (List.length p14 : Int)) then
    bif inB p15 (List.length p14) then
      Option.bind (P_spec_l2With ((p8, (p9, (p10, (p11, ())))), (nth T_A3 p14 p15), ())) fun r2 =>
      bif inB p15 (List.length p14) then
        Option.bind (P_spec_l2Near ((p4, (p5, (p6, (p7, ())))), (nth T_A3 p14 p15), ())) fun r4 =>
        l_spec_l11Pieces_11 m0 m1 N p0 p1 p2 p3 p4 p5 p6 p7 r2.1.1 r2.1.2.1 r2.1.2.2.1 r2.1.2.2.2.1 p12 p13 p14 p15 r4.1 0
      else none
    else none
  else
    bif (decide (((List.length p13) + (List.length ([p11] : List (List D_A3)))) * 24 ≤ 140737488355328) && decide (((List.length p13) + (List.length ([p11] : List (List D_A3)))) ≤ 140737488355328)) then
      l_spec_l11Pieces_2 m0 p0 p1 p2 p3 p4 p5 p6 p7 p12 (p13 ++ ([p11] : List (List D_A3)))
    else none := by
  rewrite [h_spec_l11Pieces_2, h_spec_l11Pieces_6, h_spec_l11Pieces_11]
  kernel_rfl
theorem q_spec_l11Pieces_11 (m0 m1 m2 : Nat) (p0 p1 p2 : Int) (p3 : List D_A3) (p4 p5 p6 : Int) (p7 : List D_A3) (p8 p9 p10 : Int) (p11 : List D_A3) (p12 : List D_A2) (p13 : List (List D_A3)) (p14 : List D_A3) (p15 : Int) (p16 : List D_A3) (p17 : Int) : l_spec_l11Pieces_11 m0 m1 (m2 + 1) p0 p1 p2 p3 p4 p5 p6 p7 p8 p9 p10 p11 p12 p13 p14 p15 p16 p17 = 
  bif decide (p17 < (List.length p16 : Int)) then
    bif inB p15 (List.length p14) then
      bif inB p17 (List.length p16) then
        Option.bind (P_spec_l11Parted (p12, (nth T_A3 p14 p15), (nth T_A3 p16 p17), ())) fun r3 =>
        bif !r3.1 then
          bif inB p17 (List.length p16) then
            bif (decide (((List.length p14) + (List.length ([(nth T_A3 p16 p17)] : List D_A3))) * 24 ≤ 140737488355328) && decide (((List.length p14) + (List.length ([(nth T_A3 p16 p17)] : List D_A3))) ≤ 140737488355328)) then
              bif inB p17 (List.length p16) then
                Option.bind (P_spec_l2Without ((p4, (p5, (p6, (p7, ())))), (nth T_A3 p16 p17), ())) fun r8 =>
                l_spec_l11Pieces_11 m0 m1 m2 p0 p1 p2 p3 r8.1.1 r8.1.2.1 r8.1.2.2.1 r8.1.2.2.2.1 p8 p9 p10 p11 p12 p13 (p14 ++ ([(nth T_A3 p16 p17)] : List D_A3)) p15 p16 (IntKind.wrap .i64 (p17 + 1))
              else none
            else none
          else none
        else
          l_spec_l11Pieces_11 m0 m1 m2 p0 p1 p2 p3 p4 p5 p6 p7 p8 p9 p10 p11 p12 p13 p14 p15 p16 (IntKind.wrap .i64 (p17 + 1))
      else none
    else none
  else
    l_spec_l11Pieces_6 m0 m1 p0 p1 p2 p3 p4 p5 p6 p7 p8 p9 p10 p11 p12 p13 p14 (IntKind.wrap .i64 (p15 + 1)) := by
  rewrite [h_spec_l11Pieces_6, h_spec_l11Pieces_11]
  kernel_rfl

/- 6: loop.example/g01166/spec.PiecesAfter -/
abbrev As_spec_PiecesAfter : List ATy := [.data true T_Heap, .data false (.sl T_A2)]
abbrev R_spec_PiecesAfter : List (Bool × Ty) := [(false, (.sl (.sl T_A3))), (false, .bool)]
abbrev M_spec_PiecesAfter : List RMode := [.own 22]
abbrev Ft_spec_PiecesAfter : Type := D_Heap × (List D_A2) × Unit → Option ((List (List D_A3)) × Bool × Unit)
noncomputable def X_spec_PiecesAfter : Ctx := { types := TT, globals := [], con := [(18, C_spec_l2Heap), (19, C_spec_l11Cut), (20, C_spec_l11Pieces)], keep := [(4, ⟨[.box 2, .tmp 1, .tmp 2, .tmp 6], []⟩)], results := [.tmp 4, .tmp 5], ntmps := 39, n := N }
noncomputable def B_spec_PiecesAfter : Code := (Try.f6.body).getD .skip
noncomputable def L_spec_PiecesAfter_4 (m0 : Nat) (p0 p1 p2 : Int) (p3 : List D_A3) (p4 : List D_A2) (p5 : Int) : Option (denL R_spec_PiecesAfter) := loopF X_spec_PiecesAfter B_spec_PiecesAfter R_spec_PiecesAfter M_spec_PiecesAfter 4 [m0] [(.ver, .num 1), (.box 2, .box 0 false [.int .i64 p0, .int .i64 p1, .int .i64 p2, .imm T_A3 p3 (some 3)]), (.tmp 1, .val false [.imm T_A2 p4 (some 4)]), (.tmp 2, .val false [.addr 2 0 0]), (.tmp 6, .val false [.int .i64 p5])]
noncomputable def P_spec_PiecesAfter : Ft_spec_PiecesAfter := hid (runF X_spec_PiecesAfter B_spec_PiecesAfter As_spec_PiecesAfter R_spec_PiecesAfter M_spec_PiecesAfter)
theorem h_spec_PiecesAfter : P_spec_PiecesAfter = runF X_spec_PiecesAfter B_spec_PiecesAfter As_spec_PiecesAfter R_spec_PiecesAfter M_spec_PiecesAfter := hid_eq _
noncomputable def C_spec_PiecesAfter : Contract := ⟨As_spec_PiecesAfter, R_spec_PiecesAfter, M_spec_PiecesAfter, P_spec_PiecesAfter⟩
theorem s_spec_PiecesAfter : Sound Try.prog GG 6 C_spec_PiecesAfter := by
  unfold C_spec_PiecesAfter; rw [h_spec_PiecesAfter]
  exact mkS Try.f6 ⟨s_spec_l2Heap, s_spec_l11Cut, s_spec_l11Pieces, trivial⟩ trivial
noncomputable def l_spec_PiecesAfter_4 := hid (L_spec_PiecesAfter_4)
theorem h_spec_PiecesAfter_4 : l_spec_PiecesAfter_4 = L_spec_PiecesAfter_4 := hid_eq _
theorem p_spec_PiecesAfter (a0 : D_Heap) (a1 : List D_A2) : P_spec_PiecesAfter (a0, a1, ()) = 
  Option.bind (P_spec_l2Heap (a0, ())) fun r0 =>
  bif !r0.1 then
    some (([] : List (List D_A3)), false, ())
  else
    bif decide ((List.length a1 : Int) > 12) then
      some (([] : List (List D_A3)), false, ())
    else
      l_spec_PiecesAfter_4 N a0.1 a0.2.1 a0.2.2.1 a0.2.2.2.1 a1 0 := by
  rewrite [h_spec_PiecesAfter, h_spec_PiecesAfter_4]
  kernel_rfl
theorem q_spec_PiecesAfter_4 (m0 : Nat) (p0 p1 p2 : Int) (p3 : List D_A3) (p4 : List D_A2) (p5 : Int) : l_spec_PiecesAfter_4 (m0 + 1) p0 p1 p2 p3 p4 p5 = 
  bif decide (p5 < (List.length p4 : Int)) then
    bif inB p5 (List.length p4) then
      bif inB p5 (List.length p4) then
        Option.bind (P_spec_l11Cut ((p0, (p1, (p2, (p3, ())))), ((nth T_A2 p4 p5)).1, (((nth T_A2 p4 p5)).2).1, ())) fun r3 =>
        bif !r3.1 then
          some (([] : List (List D_A3)), false, ())
        else
          l_spec_PiecesAfter_4 m0 p0 p1 p2 p3 p4 (IntKind.wrap .i64 (p5 + 1))
      else none
    else none
  else
    Option.bind (P_spec_l11Pieces ((p0, (p1, (p2, (p3, ())))), p4, ())) fun r1 =>
    some (r1.1, true, ()) := by
  rewrite [h_spec_PiecesAfter_4]
  kernel_rfl

/- 46: loop.example/g01166/laws.toIntA3 -/
abbrev As_laws_toIntA3 : List ATy := [.data true T_A3]
abbrev R_laws_toIntA3 : List (Bool × Ty) := [(true, T_A3)]
abbrev M_laws_toIntA3 : List RMode := []
abbrev Ft_laws_toIntA3 : Type := D_A3 × Unit → Option (D_A3 × Unit)
noncomputable def X_laws_toIntA3 : Ctx := { types := TT, globals := [], con := [], keep := [(3, ⟨[.box 1, .box 2, .box 3, .tmp 1, .tmp 2, .tmp 3, .tmp 4], []⟩)], results := [.cell 2 48], ntmps := 15, n := N }
noncomputable def B_laws_toIntA3 : Code := (Try.f46.body).getD .skip
noncomputable def L_laws_toIntA3_3 (m0 : Nat) (p0 p1 p2 p3 p4 p5 p6 p7 p8 p9 : Int) : Option (denL R_laws_toIntA3) := loopF X_laws_toIntA3 B_laws_toIntA3 R_laws_toIntA3 M_laws_toIntA3 3 [m0] [(.ver, .num 1), (.box 1, .box 0 false [.int .i64 p0, .int .i64 p1, .int .i64 p2]), (.box 2, .box 0 false [.int .i64 p3, .int .i64 p4, .int .i64 p5]), (.box 3, .box 0 false [.int .i64 p6, .int .i64 p7, .int .i64 p8]), (.tmp 1, .val false [.addr 1 0 0]), (.tmp 2, .val false [.addr 2 0 0]), (.tmp 3, .val false [.addr 3 0 0]), (.tmp 4, .val false [.int .i64 p9])]
noncomputable def P_laws_toIntA3 : Ft_laws_toIntA3 := hid (runF X_laws_toIntA3 B_laws_toIntA3 As_laws_toIntA3 R_laws_toIntA3 M_laws_toIntA3)
theorem h_laws_toIntA3 : P_laws_toIntA3 = runF X_laws_toIntA3 B_laws_toIntA3 As_laws_toIntA3 R_laws_toIntA3 M_laws_toIntA3 := hid_eq _
noncomputable def C_laws_toIntA3 : Contract := ⟨As_laws_toIntA3, R_laws_toIntA3, M_laws_toIntA3, P_laws_toIntA3⟩
theorem s_laws_toIntA3 : Sound Try.prog GG 46 C_laws_toIntA3 := by
  unfold C_laws_toIntA3; rw [h_laws_toIntA3]
  exact mkS Try.f46 trivial trivial
noncomputable def l_laws_toIntA3_3 := hid (L_laws_toIntA3_3)
theorem h_laws_toIntA3_3 : l_laws_toIntA3_3 = L_laws_toIntA3_3 := hid_eq _
theorem p_laws_toIntA3 (a0 : D_A3) : P_laws_toIntA3 (a0, ()) = 
  l_laws_toIntA3_3 N a0.1 a0.2.1 a0.2.2.1 0 0 0 0 0 0 0 := by
  rewrite [h_laws_toIntA3, h_laws_toIntA3_3]
  kernel_rfl
theorem q_laws_toIntA3_3 (m0 : Nat) (p0 p1 p2 p3 p4 p5 p6 p7 p8 p9 : Int) : l_laws_toIntA3_3 (m0 + 1) p0 p1 p2 p3 p4 p5 p6 p7 p8 p9 = 
  bif decide (p9 < 3) then
    bif inB p9 3 then
      bif inB p9 3 then
        l_laws_toIntA3_3 m0 p0 p1 p2 p3 p4 p5 (bif decide (p9 = (0 : Int)) then (bif decide (p9 = (0 : Int)) then p0 else (bif decide (p9 = (1 : Int)) then p1 else p2)) else p6) (bif decide (p9 = (1 : Int)) then (bif decide (p9 = (0 : Int)) then p0 else (bif decide (p9 = (1 : Int)) then p1 else p2)) else p7) (bif decide (p9 = (2 : Int)) then (bif decide (p9 = (0 : Int)) then p0 else (bif decide (p9 = (1 : Int)) then p1 else p2)) else p8) (IntKind.wrap .i64 (p9 + 1))
      else none
    else none
  else
    some ((p6, (p7, (p8, ()))), ()) := by
  rewrite [h_laws_toIntA3_3]
  kernel_rfl

/- 21: loop.example/g01166/laws.toIntA3S -/
abbrev As_laws_toIntA3S : List ATy := [.data false (.sl T_A3)]
abbrev R_laws_toIntA3S : List (Bool × Ty) := [(false, (.sl T_A3))]
abbrev M_laws_toIntA3S : List RMode := [.own 48]
abbrev Ft_laws_toIntA3S : Type := (List D_A3) × Unit → Option ((List D_A3) × Unit)
noncomputable def X_laws_toIntA3S : Ctx := { types := TT, globals := [], con := [(46, C_laws_toIntA3)], keep := [(3, ⟨[.tmp 0, .tmp 3, .tmp 4], []⟩)], results := [.tmp 2], ntmps := 23, n := N }
noncomputable def B_laws_toIntA3S : Code := (Try.f21.body).getD .skip
noncomputable def L_laws_toIntA3S_3 (m0 : Nat) (p0 p1 : List D_A3) (p2 : Int) : Option (denL R_laws_toIntA3S) := loopF X_laws_toIntA3S B_laws_toIntA3S R_laws_toIntA3S M_laws_toIntA3S 3 [m0] [(.ver, .num 1), (.tmp 0, .val false [.imm T_A3 p0 (some 0)]), (.tmp 3, .val false [.own 48 T_A3 0 p1]), (.tmp 4, .val false [.int .i64 p2])]
noncomputable def P_laws_toIntA3S : Ft_laws_toIntA3S := hid (runF X_laws_toIntA3S B_laws_toIntA3S As_laws_toIntA3S R_laws_toIntA3S M_laws_toIntA3S)
theorem h_laws_toIntA3S : P_laws_toIntA3S = runF X_laws_toIntA3S B_laws_toIntA3S As_laws_toIntA3S R_laws_toIntA3S M_laws_toIntA3S := hid_eq _
noncomputable def C_laws_toIntA3S : Contract := ⟨As_laws_toIntA3S, R_laws_toIntA3S, M_laws_toIntA3S, P_laws_toIntA3S⟩
theorem s_laws_toIntA3S : Sound Try.prog GG 21 C_laws_toIntA3S := by
  unfold C_laws_toIntA3S; rw [h_laws_toIntA3S]
  exact mkS Try.f21 ⟨s_laws_toIntA3, trivial⟩ trivial
noncomputable def l_laws_toIntA3S_3 := hid (L_laws_toIntA3S_3)
theorem h_laws_toIntA3S_3 : l_laws_toIntA3S_3 = L_laws_toIntA3S_3 := hid_eq _
theorem p_laws_toIntA3S (a0 : List D_A3) : P_laws_toIntA3S (a0, ()) = 
  bif (decide ((0 : Int) ≤ (List.length a0 : Int)) && decide (((List.length a0 : Int) : Int) ≤ (List.length a0 : Int)) && decide (((List.length a0 : Int) : Int) * (24 : Nat) ≤ 140737488355328) && decide (((List.length a0 : Int) : Int) ≤ 140737488355328)) then
    l_laws_toIntA3S_3 N a0 (List.replicate (Int.toNat (List.length a0 : Int)) (Ty.dflt T_A3)) 0
  else none := by
  rewrite [h_laws_toIntA3S, h_laws_toIntA3S_3]
  kernel_rfl
theorem q_laws_toIntA3S_3 (m0 : Nat) (p0 p1 : List D_A3) (p2 : Int) : l_laws_toIntA3S_3 (m0 + 1) p0 p1 p2 = 
  bif decide (p2 < (List.length p0 : Int)) then
    bif inB p2 (List.length p0) then
      Option.bind (P_laws_toIntA3 ((nth T_A3 p0 p2), ())) fun r2 =>
      bif inB p2 (List.length p1) then
        l_laws_toIntA3S_3 m0 p0 (List.set p1 (Int.toNat p2) r2.1) (IntKind.wrap .i64 (p2 + 1))
      else none
    else none
  else
    some (p1, ()) := by
  rewrite [h_laws_toIntA3S_3]
  kernel_rfl

/- 7: loop.example/g01166/laws.toHeap -/
abbrev As_laws_toHeap : List ATy := [.data true T_Heap]
abbrev R_laws_toHeap : List (Bool × Ty) := [(true, T_Heap)]
abbrev M_laws_toHeap : List RMode := [.own 48]
abbrev Ft_laws_toHeap : Type := D_Heap × Unit → Option (D_Heap × Unit)
noncomputable def X_laws_toHeap : Ctx := { types := TT, globals := [], con := [(21, C_laws_toIntA3S)], keep := [], results := [.cell 2 31], ntmps := 18, n := N }
noncomputable def B_laws_toHeap : Code := (Try.f7.body).getD .skip
noncomputable def P_laws_toHeap : Ft_laws_toHeap := hid (runF X_laws_toHeap B_laws_toHeap As_laws_toHeap R_laws_toHeap M_laws_toHeap)
theorem h_laws_toHeap : P_laws_toHeap = runF X_laws_toHeap B_laws_toHeap As_laws_toHeap R_laws_toHeap M_laws_toHeap := hid_eq _
noncomputable def C_laws_toHeap : Contract := ⟨As_laws_toHeap, R_laws_toHeap, M_laws_toHeap, P_laws_toHeap⟩
theorem s_laws_toHeap : Sound Try.prog GG 7 C_laws_toHeap := by
  unfold C_laws_toHeap; rw [h_laws_toHeap]
  exact mkS Try.f7 ⟨s_laws_toIntA3S, trivial⟩ trivial
theorem p_laws_toHeap (a0 : D_Heap) : P_laws_toHeap (a0, ()) = 
  Option.bind (P_laws_toIntA3S (a0.2.2.2.1, ())) fun r0 =>
  some ((a0.1, (a0.2.1, (a0.2.2.1, (r0.1, ())))), ()) := by
  rewrite [h_laws_toHeap]
  kernel_rfl

/- 22: loop.example/g01166/laws.toIntA2 -/
abbrev As_laws_toIntA2 : List ATy := [.data true T_A2]
abbrev R_laws_toIntA2 : List (Bool × Ty) := [(true, T_A2)]
abbrev M_laws_toIntA2 : List RMode := []
abbrev Ft_laws_toIntA2 : Type := D_A2 × Unit → Option (D_A2 × Unit)
noncomputable def X_laws_toIntA2 : Ctx := { types := TT, globals := [], con := [], keep := [(3, ⟨[.box 1, .box 2, .box 3, .tmp 1, .tmp 2, .tmp 3, .tmp 4], []⟩)], results := [.cell 2 43], ntmps := 15, n := N }
noncomputable def B_laws_toIntA2 : Code := (Try.f22.body).getD .skip
noncomputable def L_laws_toIntA2_3 (m0 : Nat) (p0 p1 p2 p3 p4 p5 p6 : Int) : Option (denL R_laws_toIntA2) := loopF X_laws_toIntA2 B_laws_toIntA2 R_laws_toIntA2 M_laws_toIntA2 3 [m0] [(.ver, .num 1), (.box 1, .box 0 false [.int .i64 p0, .int .i64 p1]), (.box 2, .box 0 false [.int .i64 p2, .int .i64 p3]), (.box 3, .box 0 false [.int .i64 p4, .int .i64 p5]), (.tmp 1, .val false [.addr 1 0 0]), (.tmp 2, .val false [.addr 2 0 0]), (.tmp 3, .val false [.addr 3 0 0]), (.tmp 4, .val false [.int .i64 p6])]
noncomputable def P_laws_toIntA2 : Ft_laws_toIntA2 := hid (runF X_laws_toIntA2 B_laws_toIntA2 As_laws_toIntA2 R_laws_toIntA2 M_laws_toIntA2)
theorem h_laws_toIntA2 : P_laws_toIntA2 = runF X_laws_toIntA2 B_laws_toIntA2 As_laws_toIntA2 R_laws_toIntA2 M_laws_toIntA2 := hid_eq _
noncomputable def C_laws_toIntA2 : Contract := ⟨As_laws_toIntA2, R_laws_toIntA2, M_laws_toIntA2, P_laws_toIntA2⟩
theorem s_laws_toIntA2 : Sound Try.prog GG 22 C_laws_toIntA2 := by
  unfold C_laws_toIntA2; rw [h_laws_toIntA2]
  exact mkS Try.f22 trivial trivial
noncomputable def l_laws_toIntA2_3 := hid (L_laws_toIntA2_3)
theorem h_laws_toIntA2_3 : l_laws_toIntA2_3 = L_laws_toIntA2_3 := hid_eq _
theorem p_laws_toIntA2 (a0 : D_A2) : P_laws_toIntA2 (a0, ()) = 
  l_laws_toIntA2_3 N a0.1 a0.2.1 0 0 0 0 0 := by
  rewrite [h_laws_toIntA2, h_laws_toIntA2_3]
  kernel_rfl
theorem q_laws_toIntA2_3 (m0 : Nat) (p0 p1 p2 p3 p4 p5 p6 : Int) : l_laws_toIntA2_3 (m0 + 1) p0 p1 p2 p3 p4 p5 p6 = 
  bif decide (p6 < 2) then
    bif inB p6 2 then
      bif inB p6 2 then
        l_laws_toIntA2_3 m0 p0 p1 p2 p3 (bif decide (p6 = (0 : Int)) then (bif decide (p6 = (0 : Int)) then p0 else p1) else p4) (bif decide (p6 = (1 : Int)) then (bif decide (p6 = (0 : Int)) then p0 else p1) else p5) (IntKind.wrap .i64 (p6 + 1))
      else none
    else none
  else
    some ((p4, (p5, ())), ()) := by
  rewrite [h_laws_toIntA2_3]
  kernel_rfl

/- 8: loop.example/g01166/laws.toIntA2S -/
abbrev As_laws_toIntA2S : List ATy := [.data false (.sl T_A2)]
abbrev R_laws_toIntA2S : List (Bool × Ty) := [(false, (.sl T_A2))]
abbrev M_laws_toIntA2S : List RMode := [.own 43]
abbrev Ft_laws_toIntA2S : Type := (List D_A2) × Unit → Option ((List D_A2) × Unit)
noncomputable def X_laws_toIntA2S : Ctx := { types := TT, globals := [], con := [(22, C_laws_toIntA2)], keep := [(3, ⟨[.tmp 0, .tmp 3, .tmp 4], []⟩)], results := [.tmp 2], ntmps := 23, n := N }
noncomputable def B_laws_toIntA2S : Code := (Try.f8.body).getD .skip
noncomputable def L_laws_toIntA2S_3 (m0 : Nat) (p0 p1 : List D_A2) (p2 : Int) : Option (denL R_laws_toIntA2S) := loopF X_laws_toIntA2S B_laws_toIntA2S R_laws_toIntA2S M_laws_toIntA2S 3 [m0] [(.ver, .num 1), (.tmp 0, .val false [.imm T_A2 p0 (some 0)]), (.tmp 3, .val false [.own 43 T_A2 0 p1]), (.tmp 4, .val false [.int .i64 p2])]
noncomputable def P_laws_toIntA2S : Ft_laws_toIntA2S := hid (runF X_laws_toIntA2S B_laws_toIntA2S As_laws_toIntA2S R_laws_toIntA2S M_laws_toIntA2S)
theorem h_laws_toIntA2S : P_laws_toIntA2S = runF X_laws_toIntA2S B_laws_toIntA2S As_laws_toIntA2S R_laws_toIntA2S M_laws_toIntA2S := hid_eq _
noncomputable def C_laws_toIntA2S : Contract := ⟨As_laws_toIntA2S, R_laws_toIntA2S, M_laws_toIntA2S, P_laws_toIntA2S⟩
theorem s_laws_toIntA2S : Sound Try.prog GG 8 C_laws_toIntA2S := by
  unfold C_laws_toIntA2S; rw [h_laws_toIntA2S]
  exact mkS Try.f8 ⟨s_laws_toIntA2, trivial⟩ trivial
noncomputable def l_laws_toIntA2S_3 := hid (L_laws_toIntA2S_3)
theorem h_laws_toIntA2S_3 : l_laws_toIntA2S_3 = L_laws_toIntA2S_3 := hid_eq _
theorem p_laws_toIntA2S (a0 : List D_A2) : P_laws_toIntA2S (a0, ()) = 
  bif (decide ((0 : Int) ≤ (List.length a0 : Int)) && decide (((List.length a0 : Int) : Int) ≤ (List.length a0 : Int)) && decide (((List.length a0 : Int) : Int) * (16 : Nat) ≤ 140737488355328) && decide (((List.length a0 : Int) : Int) ≤ 140737488355328)) then
    l_laws_toIntA2S_3 N a0 (List.replicate (Int.toNat (List.length a0 : Int)) (Ty.dflt T_A2)) 0
  else none := by
  rewrite [h_laws_toIntA2S, h_laws_toIntA2S_3]
  kernel_rfl
theorem q_laws_toIntA2S_3 (m0 : Nat) (p0 p1 : List D_A2) (p2 : Int) : l_laws_toIntA2S_3 (m0 + 1) p0 p1 p2 = 
  bif decide (p2 < (List.length p0 : Int)) then
    bif inB p2 (List.length p0) then
      Option.bind (P_laws_toIntA2 ((nth T_A2 p0 p2), ())) fun r2 =>
      bif inB p2 (List.length p1) then
        l_laws_toIntA2S_3 m0 p0 (List.set p1 (Int.toNat p2) r2.1) (IntKind.wrap .i64 (p2 + 1))
      else none
    else none
  else
    some (p1, ()) := by
  rewrite [h_laws_toIntA2S_3]
  kernel_rfl

/- 25: (loop.example/g01166/impl.Heap).box -/
abbrev As_Heap_box : List ATy := [.data true T_Heap]
abbrev R_Heap_box : List (Bool × Ty) := [(true, T_A3)]
abbrev M_Heap_box : List RMode := []
abbrev Ft_Heap_box : Type := D_Heap × Unit → Option (D_A3 × Unit)
noncomputable def X_Heap_box : Ctx := { types := TT, globals := [], con := [], keep := [], results := [.cell 2 49], ntmps := 10, n := N }
noncomputable def B_Heap_box : Code := (Try.f25.body).getD .skip
noncomputable def P_Heap_box : Ft_Heap_box := hid (runF X_Heap_box B_Heap_box As_Heap_box R_Heap_box M_Heap_box)
theorem h_Heap_box : P_Heap_box = runF X_Heap_box B_Heap_box As_Heap_box R_Heap_box M_Heap_box := hid_eq _
noncomputable def C_Heap_box : Contract := ⟨As_Heap_box, R_Heap_box, M_Heap_box, P_Heap_box⟩
theorem s_Heap_box : Sound Try.prog GG 25 C_Heap_box := by
  unfold C_Heap_box; rw [h_Heap_box]
  exact mkS Try.f25 trivial trivial
theorem p_Heap_box (a0 : D_Heap) : P_Heap_box (a0, ()) = 
  some ((a0.1, (a0.2.1, (a0.2.2.1, ()))), ()) := by
  rewrite [h_Heap_box]
  kernel_rfl

/- 51: loop.example/g01166/impl.within -/
abbrev As_impl_within : List ATy := [.data false (.int .i64), .data false (.int .i64), .data false (.int .i64)]
abbrev R_impl_within : List (Bool × Ty) := [(false, .bool)]
abbrev M_impl_within : List RMode := []
abbrev Ft_impl_within : Type := Int × Int × Int × Unit → Option (Bool × Unit)
noncomputable def X_impl_within : Ctx := { types := TT, globals := [], con := [], keep := [], results := [.tmp 6], ntmps := 15, n := N }
noncomputable def B_impl_within : Code := (Try.f51.body).getD .skip
noncomputable def P_impl_within : Ft_impl_within := hid (runF X_impl_within B_impl_within As_impl_within R_impl_within M_impl_within)
theorem h_impl_within : P_impl_within = runF X_impl_within B_impl_within As_impl_within R_impl_within M_impl_within := hid_eq _
noncomputable def C_impl_within : Contract := ⟨As_impl_within, R_impl_within, M_impl_within, P_impl_within⟩
theorem s_impl_within : Sound Try.prog GG 51 C_impl_within := by
  unfold C_impl_within; rw [h_impl_within]
  exact mkS Try.f51 trivial trivial
theorem p_impl_within (a0 : Int) (a1 : Int) (a2 : Int) : P_impl_within (a0, a1, a2, ()) = 
  bif decide (a0 ≥ a1) then
    some (decide (a0 ≤ a2), ())
  else
    some (false, ()) := by
  rewrite [h_impl_within]
  kernel_rfl

/- 47: (loop.example/g01166/impl.box).valid -/
abbrev As_box_valid : List ATy := [.data true T_A3]
abbrev R_box_valid : List (Bool × Ty) := [(false, .bool)]
abbrev M_box_valid : List RMode := []
abbrev Ft_box_valid : Type := D_A3 × Unit → Option (Bool × Unit)
noncomputable def X_box_valid : Ctx := { types := TT, globals := [], con := [(51, C_impl_within)], keep := [], results := [.tmp 2], ntmps := 16, n := N }
noncomputable def B_box_valid : Code := (Try.f47.body).getD .skip
noncomputable def P_box_valid : Ft_box_valid := hid (runF X_box_valid B_box_valid As_box_valid R_box_valid M_box_valid)
theorem h_box_valid : P_box_valid = runF X_box_valid B_box_valid As_box_valid R_box_valid M_box_valid := hid_eq _
noncomputable def C_box_valid : Contract := ⟨As_box_valid, R_box_valid, M_box_valid, P_box_valid⟩
theorem s_box_valid : Sound Try.prog GG 47 C_box_valid := by
  unfold C_box_valid; rw [h_box_valid]
  exact mkS Try.f47 ⟨s_impl_within, trivial⟩ trivial
theorem p_box_valid (a0 : D_A3) : P_box_valid (a0, ()) = 
  Option.bind (P_impl_within (a0.1, 1, 4, ())) fun r0 =>
  bif r0.1 then
    Option.bind (P_impl_within (a0.2.1, 1, 4, ())) fun r2 =>
    bif r2.1 then
      Option.bind (P_impl_within (a0.2.2.1, 1, 4, ())) fun r4 =>
      some (r4.1, ())
    else
      some (false, ())
  else
    some (false, ()) := by
  rewrite [h_box_valid]
  kernel_rfl

/- 48: (loop.example/g01166/impl.box).has -/
abbrev As_box_has : List ATy := [.data true T_A3, .data true T_A3]
abbrev R_box_has : List (Bool × Ty) := [(false, .bool)]
abbrev M_box_has : List RMode := []
abbrev Ft_box_has : Type := D_A3 × D_A3 × Unit → Option (Bool × Unit)
noncomputable def X_box_has : Ctx := { types := TT, globals := [], con := [(51, C_impl_within)], keep := [], results := [.tmp 4], ntmps := 27, n := N }
noncomputable def B_box_has : Code := (Try.f48.body).getD .skip
noncomputable def P_box_has : Ft_box_has := hid (runF X_box_has B_box_has As_box_has R_box_has M_box_has)
theorem h_box_has : P_box_has = runF X_box_has B_box_has As_box_has R_box_has M_box_has := hid_eq _
noncomputable def C_box_has : Contract := ⟨As_box_has, R_box_has, M_box_has, P_box_has⟩
theorem s_box_has : Sound Try.prog GG 48 C_box_has := by
  unfold C_box_has; rw [h_box_has]
  exact mkS Try.f48 ⟨s_impl_within, trivial⟩ trivial
theorem p_box_has (a0 : D_A3) (a1 : D_A3) : P_box_has (a0, a1, ()) = 
  Option.bind (P_impl_within (a1.1, 0, (IntKind.wrap .i64 (a0.1 - 1)), ())) fun r0 =>
  bif r0.1 then
    Option.bind (P_impl_within (a1.2.1, 0, (IntKind.wrap .i64 (a0.2.1 - 1)), ())) fun r2 =>
    bif r2.1 then
      Option.bind (P_impl_within (a1.2.2.1, 0, (IntKind.wrap .i64 (a0.2.2.1 - 1)), ())) fun r4 =>
      some (r4.1, ())
    else
      some (false, ())
  else
    some (false, ()) := by
  rewrite [h_box_has]
  kernel_rfl

/- 63: cmp.isNaN[int] -/
abbrev As_cmp_isNaN_int : List ATy := [.data false (.int .i64)]
abbrev R_cmp_isNaN_int : List (Bool × Ty) := [(false, .bool)]
abbrev M_cmp_isNaN_int : List RMode := []
abbrev Ft_cmp_isNaN_int : Type := Int × Unit → Option (Bool × Unit)
noncomputable def X_cmp_isNaN_int : Ctx := { types := TT, globals := [], con := [], keep := [], results := [.tmp 2], ntmps := 6, n := N }
noncomputable def B_cmp_isNaN_int : Code := (Try.f63.body).getD .skip
noncomputable def P_cmp_isNaN_int : Ft_cmp_isNaN_int := hid (runF X_cmp_isNaN_int B_cmp_isNaN_int As_cmp_isNaN_int R_cmp_isNaN_int M_cmp_isNaN_int)
theorem h_cmp_isNaN_int : P_cmp_isNaN_int = runF X_cmp_isNaN_int B_cmp_isNaN_int As_cmp_isNaN_int R_cmp_isNaN_int M_cmp_isNaN_int := hid_eq _
noncomputable def C_cmp_isNaN_int : Contract := ⟨As_cmp_isNaN_int, R_cmp_isNaN_int, M_cmp_isNaN_int, P_cmp_isNaN_int⟩
theorem s_cmp_isNaN_int : Sound Try.prog GG 63 C_cmp_isNaN_int := by
  unfold C_cmp_isNaN_int; rw [h_cmp_isNaN_int]
  exact mkS Try.f63 trivial trivial
theorem p_cmp_isNaN_int (a0 : Int) : P_cmp_isNaN_int (a0, ()) = 
  some (!decide (a0 = a0), ()) := by
  rewrite [h_cmp_isNaN_int]
  kernel_rfl

/- 62: cmp.Compare[int] -/
abbrev As_cmp_Compare_int : List ATy := [.data false (.int .i64), .data false (.int .i64)]
abbrev R_cmp_Compare_int : List (Bool × Ty) := [(false, (.int .i64))]
abbrev M_cmp_Compare_int : List RMode := []
abbrev Ft_cmp_Compare_int : Type := Int × Int × Unit → Option (Int × Unit)
noncomputable def X_cmp_Compare_int : Ctx := { types := TT, globals := [], con := [(63, C_cmp_isNaN_int)], keep := [], results := [.tmp 4], ntmps := 20, n := N }
noncomputable def B_cmp_Compare_int : Code := (Try.f62.body).getD .skip
noncomputable def P_cmp_Compare_int : Ft_cmp_Compare_int := hid (runF X_cmp_Compare_int B_cmp_Compare_int As_cmp_Compare_int R_cmp_Compare_int M_cmp_Compare_int)
theorem h_cmp_Compare_int : P_cmp_Compare_int = runF X_cmp_Compare_int B_cmp_Compare_int As_cmp_Compare_int R_cmp_Compare_int M_cmp_Compare_int := hid_eq _
noncomputable def C_cmp_Compare_int : Contract := ⟨As_cmp_Compare_int, R_cmp_Compare_int, M_cmp_Compare_int, P_cmp_Compare_int⟩
theorem s_cmp_Compare_int : Sound Try.prog GG 62 C_cmp_Compare_int := by
  unfold C_cmp_Compare_int; rw [h_cmp_Compare_int]
  exact mkS Try.f62 ⟨s_cmp_isNaN_int, trivial⟩ trivial
theorem p_cmp_Compare_int (a0 : Int) (a1 : Int) : P_cmp_Compare_int (a0, a1, ()) = 
  Option.bind (P_cmp_isNaN_int (a0, ())) fun r0 =>
  Option.bind (P_cmp_isNaN_int (a1, ())) fun r1 =>
  bif r0.1 then
    bif r1.1 then
      some (0, ())
    else
      some ((-1), ())
  else
    bif r1.1 then
      some (1, ())
    else
      bif decide (a0 < a1) then
        some ((-1), ())
      else
        bif decide (a0 > a1) then
          some (1, ())
        else
          some (0, ()) := by
  rewrite [h_cmp_Compare_int]
  kernel_rfl

/- 60: slices.Compare[[]int,int] -/
abbrev As_slices_Compare_int_int : List ATy := [.data false (.sl (.int .i64)), .data false (.sl (.int .i64))]
abbrev R_slices_Compare_int_int : List (Bool × Ty) := [(false, (.int .i64))]
abbrev M_slices_Compare_int_int : List RMode := []
abbrev Ft_slices_Compare_int_int : Type := (List Int) × (List Int) × Unit → Option (Int × Unit)
noncomputable def X_slices_Compare_int_int : Ctx := { types := TT, globals := [], con := [(62, C_cmp_Compare_int)], keep := [(2, ⟨[.tmp 0, .tmp 1, .tmp 9, .tmp 10, .tmp 11], []⟩)], results := [.tmp 4], ntmps := 36, n := N }
noncomputable def B_slices_Compare_int_int : Code := (Try.f60.body).getD .skip
noncomputable def L_slices_Compare_int_int_2 (m0 : Nat) (p0 p1 p2 : List Int) (p3 p4 : Int) : Option (denL R_slices_Compare_int_int) := loopF X_slices_Compare_int_int B_slices_Compare_int_int R_slices_Compare_int_int M_slices_Compare_int_int 2 [m0] [(.ver, .num 1), (.tmp 0, .val false [.imm (.int .i64) p0 (some 0)]), (.tmp 1, .val false [.imm (.int .i64) p1 (some 1)]), (.tmp 9, .val false [.imm (.int .i64) p2 (some 0)]), (.tmp 10, .val false [.int .i64 p3]), (.tmp 11, .val false [.int .i64 p4])]
noncomputable def P_slices_Compare_int_int : Ft_slices_Compare_int_int := hid (runF X_slices_Compare_int_int B_slices_Compare_int_int As_slices_Compare_int_int R_slices_Compare_int_int M_slices_Compare_int_int)
theorem h_slices_Compare_int_int : P_slices_Compare_int_int = runF X_slices_Compare_int_int B_slices_Compare_int_int As_slices_Compare_int_int R_slices_Compare_int_int M_slices_Compare_int_int := hid_eq _
noncomputable def C_slices_Compare_int_int : Contract := ⟨As_slices_Compare_int_int, R_slices_Compare_int_int, M_slices_Compare_int_int, P_slices_Compare_int_int⟩
theorem s_slices_Compare_int_int : Sound Try.prog GG 60 C_slices_Compare_int_int := by
  unfold C_slices_Compare_int_int; rw [h_slices_Compare_int_int]
  exact mkS Try.f60 ⟨s_cmp_Compare_int, trivial⟩ trivial
noncomputable def l_slices_Compare_int_int_2 := hid (L_slices_Compare_int_int_2)
theorem h_slices_Compare_int_int_2 : l_slices_Compare_int_int_2 = L_slices_Compare_int_int_2 := hid_eq _
theorem p_slices_Compare_int_int (a0 : List Int) (a1 : List Int) : P_slices_Compare_int_int (a0, a1, ()) = 
  l_slices_Compare_int_int_2 N a0 a1 a0 (List.length a0 : Int) 0 := by
  rewrite [h_slices_Compare_int_int, h_slices_Compare_int_int_2]
  kernel_rfl
theorem q_slices_Compare_int_int_2 (m0 : Nat) (p0 p1 p2 : List Int) (p3 p4 : Int) : l_slices_Compare_int_int_2 (m0 + 1) p0 p1 p2 p3 p4 = 
  bif decide (p4 < p3) then
    bif inB p4 (List.length p2) then
      bif decide (p4 ≥ (List.length p1 : Int)) then
        some (1, ())
      else
        bif inB p4 (List.length p1) then
          Option.bind (P_cmp_Compare_int ((nth ((.int .i64) : Ty) p2 p4), (nth ((.int .i64) : Ty) p1 p4), ())) fun r4 =>
          bif !decide (r4.1 = 0) then
            some (r4.1, ())
          else
            l_slices_Compare_int_int_2 m0 p0 p1 p2 p3 (IntKind.wrap .i64 (p4 + 1))
        else none
    else none
  else
    bif decide ((List.length p0 : Int) < (List.length p1 : Int)) then
      some ((-1), ())
    else
      some (0, ()) := by
  rewrite [h_slices_Compare_int_int_2]
  kernel_rfl

/- 49: loop.example/g01166/impl.compareCells -/
abbrev As_impl_compareCells : List ATy := [.data true T_A3, .data true T_A3]
abbrev R_impl_compareCells : List (Bool × Ty) := [(false, (.int .i64))]
abbrev M_impl_compareCells : List RMode := []
abbrev Ft_impl_compareCells : Type := D_A3 × D_A3 × Unit → Option (Int × Unit)
noncomputable def X_impl_compareCells : Ctx := { types := TT, globals := [], con := [(60, C_slices_Compare_int_int)], keep := [], results := [.tmp 4], ntmps := 8, n := N }
noncomputable def B_impl_compareCells : Code := (Try.f49.body).getD .skip
noncomputable def P_impl_compareCells : Ft_impl_compareCells := hid (runF X_impl_compareCells B_impl_compareCells As_impl_compareCells R_impl_compareCells M_impl_compareCells)
theorem h_impl_compareCells : P_impl_compareCells = runF X_impl_compareCells B_impl_compareCells As_impl_compareCells R_impl_compareCells M_impl_compareCells := hid_eq _
noncomputable def C_impl_compareCells : Contract := ⟨As_impl_compareCells, R_impl_compareCells, M_impl_compareCells, P_impl_compareCells⟩
theorem s_impl_compareCells : Sound Try.prog GG 49 C_impl_compareCells := by
  unfold C_impl_compareCells; rw [h_impl_compareCells]
  exact mkS Try.f49 ⟨s_slices_Compare_int_int, trivial⟩ trivial
theorem p_impl_compareCells (a0 : D_A3) (a1 : D_A3) : P_impl_compareCells (a0, a1, ()) = 
  Option.bind (P_slices_Compare_int_int (([a0.1, a0.2.1, a0.2.2.1] : List Int), ([a1.1, a1.2.1, a1.2.2.1] : List Int), ())) fun r0 =>
  some (r0.1, ()) := by
  rewrite [h_impl_compareCells]
  kernel_rfl

/- 23: loop.example/g01166/impl.IsHeap -/
abbrev As_impl_IsHeap : List ATy := [.data true T_Heap]
abbrev R_impl_IsHeap : List (Bool × Ty) := [(false, .bool)]
abbrev M_impl_IsHeap : List RMode := []
abbrev Ft_impl_IsHeap : Type := D_Heap × Unit → Option (Bool × Unit)
noncomputable def X_impl_IsHeap : Ctx := { types := TT, globals := [], con := [(25, C_Heap_box), (47, C_box_valid), (48, C_box_has), (49, C_impl_compareCells)], keep := [(4, ⟨[.box 1, .tmp 1, .tmp 10, .tmp 11, .tmp 12], []⟩)], results := [.tmp 2], ntmps := 38, n := N }
noncomputable def B_impl_IsHeap : Code := (Try.f23.body).getD .skip
noncomputable def L_impl_IsHeap_4 (m0 : Nat) (p0 p1 p2 : Int) (p3 p4 : List D_A3) (p5 p6 : Int) : Option (denL R_impl_IsHeap) := loopF X_impl_IsHeap B_impl_IsHeap R_impl_IsHeap M_impl_IsHeap 4 [m0] [(.ver, .num 1), (.box 1, .box 0 false [.int .i64 p0, .int .i64 p1, .int .i64 p2, .imm T_A3 p3 (some 3)]), (.tmp 1, .val false [.addr 1 0 0]), (.tmp 10, .val false [.imm T_A3 p4 (some 3)]), (.tmp 11, .val false [.int .i64 p5]), (.tmp 12, .val false [.int .i64 p6])]
noncomputable def P_impl_IsHeap : Ft_impl_IsHeap := hid (runF X_impl_IsHeap B_impl_IsHeap As_impl_IsHeap R_impl_IsHeap M_impl_IsHeap)
theorem h_impl_IsHeap : P_impl_IsHeap = runF X_impl_IsHeap B_impl_IsHeap As_impl_IsHeap R_impl_IsHeap M_impl_IsHeap := hid_eq _
noncomputable def C_impl_IsHeap : Contract := ⟨As_impl_IsHeap, R_impl_IsHeap, M_impl_IsHeap, P_impl_IsHeap⟩
theorem s_impl_IsHeap : Sound Try.prog GG 23 C_impl_IsHeap := by
  unfold C_impl_IsHeap; rw [h_impl_IsHeap]
  exact mkS Try.f23 ⟨s_Heap_box, s_box_valid, s_box_has, s_impl_compareCells, trivial⟩ trivial
noncomputable def l_impl_IsHeap_4 := hid (L_impl_IsHeap_4)
theorem h_impl_IsHeap_4 : l_impl_IsHeap_4 = L_impl_IsHeap_4 := hid_eq _
theorem p_impl_IsHeap (a0 : D_Heap) : P_impl_IsHeap (a0, ()) = 
  Option.bind (P_Heap_box (a0, ())) fun r0 =>
  Option.bind (P_box_valid (r0.1, ())) fun r1 =>
  bif !r1.1 then
    some (false, ())
  else
    l_impl_IsHeap_4 N a0.1 a0.2.1 a0.2.2.1 a0.2.2.2.1 a0.2.2.2.1 (List.length a0.2.2.2.1 : Int) 0 := by
  rewrite [h_impl_IsHeap, h_impl_IsHeap_4]
  kernel_rfl
theorem q_impl_IsHeap_4 (m0 : Nat) (p0 p1 p2 : Int) (p3 p4 : List D_A3) (p5 p6 : Int) : l_impl_IsHeap_4 (m0 + 1) p0 p1 p2 p3 p4 p5 p6 = 
  bif decide (p6 < p5) then
    bif inB p6 (List.length p4) then
      Option.bind (P_Heap_box ((p0, (p1, (p2, (p3, ())))), ())) fun r2 =>
      Option.bind (P_box_has (r2.1, (nth T_A3 p4 p6), ())) fun r3 =>
      bif !r3.1 then
        some (false, ())
      else
        bif decide (p6 > 0) then
          bif inB (IntKind.wrap .i64 (p6 - 1)) (List.length p3) then
            Option.bind (P_impl_compareCells ((nth T_A3 p3 (IntKind.wrap .i64 (p6 - 1))), (nth T_A3 p4 p6), ())) fun r7 =>
            bif decide (r7.1 ≥ 0) then
              some (false, ())
            else
              l_impl_IsHeap_4 m0 p0 p1 p2 p3 p4 p5 (IntKind.wrap .i64 (p6 + 1))
          else none
        else
          l_impl_IsHeap_4 m0 p0 p1 p2 p3 p4 p5 (IntKind.wrap .i64 (p6 + 1))
    else none
  else
    some (true, ()) := by
  rewrite [h_impl_IsHeap_4]
  kernel_rfl

/- 50: loop.example/g01166/impl.isDirection -/
abbrev As_impl_isDirection : List ATy := [.data false (.int .i64)]
abbrev R_impl_isDirection : List (Bool × Ty) := [(false, .bool)]
abbrev M_impl_isDirection : List RMode := []
abbrev Ft_impl_isDirection : Type := Int × Unit → Option (Bool × Unit)
noncomputable def X_impl_isDirection : Ctx := { types := TT, globals := [], con := [(51, C_impl_within)], keep := [], results := [.tmp 2], ntmps := 5, n := N }
noncomputable def B_impl_isDirection : Code := (Try.f50.body).getD .skip
noncomputable def P_impl_isDirection : Ft_impl_isDirection := hid (runF X_impl_isDirection B_impl_isDirection As_impl_isDirection R_impl_isDirection M_impl_isDirection)
theorem h_impl_isDirection : P_impl_isDirection = runF X_impl_isDirection B_impl_isDirection As_impl_isDirection R_impl_isDirection M_impl_isDirection := hid_eq _
noncomputable def C_impl_isDirection : Contract := ⟨As_impl_isDirection, R_impl_isDirection, M_impl_isDirection, P_impl_isDirection⟩
theorem s_impl_isDirection : Sound Try.prog GG 50 C_impl_isDirection := by
  unfold C_impl_isDirection; rw [h_impl_isDirection]
  exact mkS Try.f50 ⟨s_impl_within, trivial⟩ trivial
theorem p_impl_isDirection (a0 : Int) : P_impl_isDirection (a0, ()) = 
  Option.bind (P_impl_within (a0, 0, 2, ())) fun r0 =>
  some (r0.1, ()) := by
  rewrite [h_impl_isDirection]
  kernel_rfl

/- 24: (loop.example/g01166/impl.Heap).isCut -/
abbrev As_Heap_isCut : List ATy := [.data true T_Heap, .data false (.int .i64), .data false (.int .i64)]
abbrev R_Heap_isCut : List (Bool × Ty) := [(false, .bool)]
abbrev M_Heap_isCut : List RMode := []
abbrev Ft_Heap_isCut : Type := D_Heap × Int × Int × Unit → Option (Bool × Unit)
noncomputable def X_Heap_isCut : Ctx := { types := TT, globals := [], con := [(25, C_Heap_box), (50, C_impl_isDirection), (51, C_impl_within)], keep := [], results := [.tmp 6], ntmps := 18, n := N }
noncomputable def B_Heap_isCut : Code := (Try.f24.body).getD .skip
noncomputable def P_Heap_isCut : Ft_Heap_isCut := hid (runF X_Heap_isCut B_Heap_isCut As_Heap_isCut R_Heap_isCut M_Heap_isCut)
theorem h_Heap_isCut : P_Heap_isCut = runF X_Heap_isCut B_Heap_isCut As_Heap_isCut R_Heap_isCut M_Heap_isCut := hid_eq _
noncomputable def C_Heap_isCut : Contract := ⟨As_Heap_isCut, R_Heap_isCut, M_Heap_isCut, P_Heap_isCut⟩
theorem s_Heap_isCut : Sound Try.prog GG 24 C_Heap_isCut := by
  unfold C_Heap_isCut; rw [h_Heap_isCut]
  exact mkS Try.f24 ⟨s_Heap_box, s_impl_isDirection, s_impl_within, trivial⟩ trivial
theorem p_Heap_isCut (a0 : D_Heap) (a1 : Int) (a2 : Int) : P_Heap_isCut (a0, a1, a2, ()) = 
  Option.bind (P_impl_isDirection (a1, ())) fun r0 =>
  bif r0.1 then
    Option.bind (P_Heap_box (a0, ())) fun r2 =>
    bif inB a1 3 then
      Option.bind (P_impl_within (a2, 1, (IntKind.wrap .i64 ((bif decide (a1 = (0 : Int)) then r2.1.1 else (bif decide (a1 = (1 : Int)) then r2.1.2.1 else r2.1.2.2.1)) - 1)), ())) fun r4 =>
      some (r4.1, ())
    else none
  else
    some (false, ()) := by
  rewrite [h_Heap_isCut]
  kernel_rfl

/- 52: (loop.example/g01166/impl.box).index -/
abbrev As_box_index : List ATy := [.data true T_A3, .data true T_A3]
abbrev R_box_index : List (Bool × Ty) := [(false, (.int .i64))]
abbrev M_box_index : List RMode := []
abbrev Ft_box_index : Type := D_A3 × D_A3 × Unit → Option (Int × Unit)
noncomputable def X_box_index : Ctx := { types := TT, globals := [], con := [], keep := [], results := [.tmp 4], ntmps := 19, n := N }
noncomputable def B_box_index : Code := (Try.f52.body).getD .skip
noncomputable def P_box_index : Ft_box_index := hid (runF X_box_index B_box_index As_box_index R_box_index M_box_index)
theorem h_box_index : P_box_index = runF X_box_index B_box_index As_box_index R_box_index M_box_index := hid_eq _
noncomputable def C_box_index : Contract := ⟨As_box_index, R_box_index, M_box_index, P_box_index⟩
theorem s_box_index : Sound Try.prog GG 52 C_box_index := by
  unfold C_box_index; rw [h_box_index]
  exact mkS Try.f52 trivial trivial
theorem p_box_index (a0 : D_A3) (a1 : D_A3) : P_box_index (a0, a1, ()) = 
  some ((IntKind.wrap .i64 ((IntKind.wrap .i64 ((IntKind.wrap .i64 ((IntKind.wrap .i64 (a1.1 * a0.2.1)) + a1.2.1)) * a0.2.2.1)) + a1.2.2.1)), ()) := by
  rewrite [h_box_index]
  kernel_rfl

/- 26: (loop.example/g01166/impl.Heap).cubes -/
abbrev As_Heap_cubes : List ATy := [.data true T_Heap]
abbrev R_Heap_cubes : List (Bool × Ty) := [(false, (.int .u64))]
abbrev M_Heap_cubes : List RMode := []
abbrev Ft_Heap_cubes : Type := D_Heap × Unit → Option (Int × Unit)
noncomputable def X_Heap_cubes : Ctx := { types := TT, globals := [], con := [(25, C_Heap_box), (52, C_box_index)], keep := [(3, ⟨[.box 1, .tmp 1, .tmp 3, .tmp 7, .tmp 8, .tmp 9], []⟩)], results := [.tmp 2], ntmps := 22, n := N }
noncomputable def B_Heap_cubes : Code := (Try.f26.body).getD .skip
noncomputable def L_Heap_cubes_3 (m0 : Nat) (p0 p1 p2 : Int) (p3 : List D_A3) (p4 : Int) (p5 : List D_A3) (p6 p7 : Int) : Option (denL R_Heap_cubes) := loopF X_Heap_cubes B_Heap_cubes R_Heap_cubes M_Heap_cubes 3 [m0] [(.ver, .num 1), (.box 1, .box 0 false [.int .i64 p0, .int .i64 p1, .int .i64 p2, .imm T_A3 p3 (some 3)]), (.tmp 1, .val false [.addr 1 0 0]), (.tmp 3, .val false [.int .u64 p4]), (.tmp 7, .val false [.imm T_A3 p5 (some 3)]), (.tmp 8, .val false [.int .i64 p6]), (.tmp 9, .val false [.int .i64 p7])]
noncomputable def P_Heap_cubes : Ft_Heap_cubes := hid (runF X_Heap_cubes B_Heap_cubes As_Heap_cubes R_Heap_cubes M_Heap_cubes)
theorem h_Heap_cubes : P_Heap_cubes = runF X_Heap_cubes B_Heap_cubes As_Heap_cubes R_Heap_cubes M_Heap_cubes := hid_eq _
noncomputable def C_Heap_cubes : Contract := ⟨As_Heap_cubes, R_Heap_cubes, M_Heap_cubes, P_Heap_cubes⟩
theorem s_Heap_cubes : Sound Try.prog GG 26 C_Heap_cubes := by
  unfold C_Heap_cubes; rw [h_Heap_cubes]
  exact mkS Try.f26 ⟨s_Heap_box, s_box_index, trivial⟩ trivial
noncomputable def l_Heap_cubes_3 := hid (L_Heap_cubes_3)
theorem h_Heap_cubes_3 : l_Heap_cubes_3 = L_Heap_cubes_3 := hid_eq _
theorem p_Heap_cubes (a0 : D_Heap) : P_Heap_cubes (a0, ()) = 
  l_Heap_cubes_3 N a0.1 a0.2.1 a0.2.2.1 a0.2.2.2.1 0 a0.2.2.2.1 (List.length a0.2.2.2.1 : Int) 0 := by
  rewrite [h_Heap_cubes, h_Heap_cubes_3]
  kernel_rfl
theorem q_Heap_cubes_3 (m0 : Nat) (p0 p1 p2 : Int) (p3 : List D_A3) (p4 : Int) (p5 : List D_A3) (p6 p7 : Int) : l_Heap_cubes_3 (m0 + 1) p0 p1 p2 p3 p4 p5 p6 p7 = 
  bif decide (p7 < p6) then
    bif inB p7 (List.length p5) then
      Option.bind (P_Heap_box ((p0, (p1, (p2, (p3, ())))), ())) fun r2 =>
      Option.bind (P_box_index (r2.1, (nth T_A3 p5 p7), ())) fun r3 =>
      bif decide ((0 : Int) ≤ r3.1) then
        l_Heap_cubes_3 m0 p0 p1 p2 p3 (intBits .or .u64 p4 (shlI .u64 1 r3.1)) p5 p6 (IntKind.wrap .i64 (p7 + 1))
      else none
    else none
  else
    some (p4, ()) := by
  rewrite [h_Heap_cubes_3]
  kernel_rfl

/- 53: (loop.example/g01166/impl.box).size -/
abbrev As_box_size : List ATy := [.data true T_A3]
abbrev R_box_size : List (Bool × Ty) := [(false, (.int .i64))]
abbrev M_box_size : List RMode := []
abbrev Ft_box_size : Type := D_A3 × Unit → Option (Int × Unit)
noncomputable def X_box_size : Ctx := { types := TT, globals := [], con := [], keep := [], results := [.tmp 2], ntmps := 11, n := N }
noncomputable def B_box_size : Code := (Try.f53.body).getD .skip
noncomputable def P_box_size : Ft_box_size := hid (runF X_box_size B_box_size As_box_size R_box_size M_box_size)
theorem h_box_size : P_box_size = runF X_box_size B_box_size As_box_size R_box_size M_box_size := hid_eq _
noncomputable def C_box_size : Contract := ⟨As_box_size, R_box_size, M_box_size, P_box_size⟩
theorem s_box_size : Sound Try.prog GG 53 C_box_size := by
  unfold C_box_size; rw [h_box_size]
  exact mkS Try.f53 trivial trivial
theorem p_box_size (a0 : D_A3) : P_box_size (a0, ()) = 
  some ((IntKind.wrap .i64 ((IntKind.wrap .i64 (a0.1 * a0.2.1)) * a0.2.2.1)), ()) := by
  rewrite [h_box_size]
  kernel_rfl

/- 54: (loop.example/g01166/impl.set).has -/
abbrev As_set_has : List ATy := [.data false (.int .u64), .data false (.int .i64)]
abbrev R_set_has : List (Bool × Ty) := [(false, .bool)]
abbrev M_set_has : List RMode := []
abbrev Ft_set_has : Type := Int × Int × Unit → Option (Bool × Unit)
noncomputable def X_set_has : Ctx := { types := TT, globals := [], con := [], keep := [], results := [.tmp 4], ntmps := 10, n := N }
noncomputable def B_set_has : Code := (Try.f54.body).getD .skip
noncomputable def P_set_has : Ft_set_has := hid (runF X_set_has B_set_has As_set_has R_set_has M_set_has)
theorem h_set_has : P_set_has = runF X_set_has B_set_has As_set_has R_set_has M_set_has := hid_eq _
noncomputable def C_set_has : Contract := ⟨As_set_has, R_set_has, M_set_has, P_set_has⟩
theorem s_set_has : Sound Try.prog GG 54 C_set_has := by
  unfold C_set_has; rw [h_set_has]
  exact mkS Try.f54 trivial trivial
theorem p_set_has (a0 : Int) (a1 : Int) : P_set_has (a0, a1, ()) = 
  bif decide ((0 : Int) ≤ a1) then
    some (decide ((intBits .and .u64 (shrI .u64 a0 a1) 1) = 1), ())
  else none := by
  rewrite [h_set_has]
  kernel_rfl

/- 55: (loop.example/g01166/impl.box).cell -/
abbrev As_box_cell : List ATy := [.data true T_A3, .data false (.int .i64)]
abbrev R_box_cell : List (Bool × Ty) := [(true, T_A3)]
abbrev M_box_cell : List RMode := []
abbrev Ft_box_cell : Type := D_A3 × Int × Unit → Option (D_A3 × Unit)
noncomputable def X_box_cell : Ctx := { types := TT, globals := [], con := [], keep := [], results := [.cell 4 48], ntmps := 24, n := N }
noncomputable def B_box_cell : Code := (Try.f55.body).getD .skip
noncomputable def P_box_cell : Ft_box_cell := hid (runF X_box_cell B_box_cell As_box_cell R_box_cell M_box_cell)
theorem h_box_cell : P_box_cell = runF X_box_cell B_box_cell As_box_cell R_box_cell M_box_cell := hid_eq _
noncomputable def C_box_cell : Contract := ⟨As_box_cell, R_box_cell, M_box_cell, P_box_cell⟩
theorem s_box_cell : Sound Try.prog GG 55 C_box_cell := by
  unfold C_box_cell; rw [h_box_cell]
  exact mkS Try.f55 trivial trivial
theorem p_box_cell (a0 : D_A3) (a1 : Int) : P_box_cell (a0, a1, ()) = 
  bif !decide (a0.2.2.1 = 0) then
    bif !decide (a0.2.1 = 0) then
      bif !decide (a0.2.2.1 = 0) then
        bif !decide (a0.2.1 = 0) then
          bif !decide (a0.2.2.1 = 0) then
            some (((IntKind.wrap .i64 (Int.tdiv (IntKind.wrap .i64 (Int.tdiv a1 a0.2.2.1)) a0.2.1)), ((Int.tmod (IntKind.wrap .i64 (Int.tdiv a1 a0.2.2.1)) a0.2.1), ((Int.tmod a1 a0.2.2.1), ()))), ())
          else none
        else none
      else none
    else none
  else none := by
  rewrite [h_box_cell]
  kernel_rfl

/- 27: (loop.example/g01166/impl.box).list -/
abbrev As_box_list : List ATy := [.data true T_A3, .data false (.int .u64)]
abbrev R_box_list : List (Bool × Ty) := [(false, (.sl T_A3))]
abbrev M_box_list : List RMode := [.own 48]
abbrev Ft_box_list : Type := D_A3 × Int × Unit → Option ((List D_A3) × Unit)
noncomputable def X_box_list : Ctx := { types := TT, globals := [], con := [(53, C_box_size), (54, C_set_has), (55, C_box_cell)], keep := [(3, ⟨[.box 2, .tmp 1, .tmp 2, .tmp 5, .tmp 9, .tmp 10], []⟩)], results := [.tmp 4], ntmps := 24, n := N }
noncomputable def B_box_list : Code := (Try.f27.body).getD .skip
noncomputable def L_box_list_3 (m0 : Nat) (p0 p1 p2 p3 : Int) (p4 : List D_A3) (p5 p6 : Int) : Option (denL R_box_list) := loopF X_box_list B_box_list R_box_list M_box_list 3 [m0] [(.ver, .num 1), (.box 2, .box 0 false [.int .i64 p0, .int .i64 p1, .int .i64 p2]), (.tmp 1, .val false [.int .u64 p3]), (.tmp 2, .val false [.addr 2 0 0]), (.tmp 5, .val false [.own 48 T_A3 0 p4]), (.tmp 9, .val false [.int .i64 p5]), (.tmp 10, .val false [.int .i64 p6])]
noncomputable def P_box_list : Ft_box_list := hid (runF X_box_list B_box_list As_box_list R_box_list M_box_list)
theorem h_box_list : P_box_list = runF X_box_list B_box_list As_box_list R_box_list M_box_list := hid_eq _
noncomputable def C_box_list : Contract := ⟨As_box_list, R_box_list, M_box_list, P_box_list⟩
theorem s_box_list : Sound Try.prog GG 27 C_box_list := by
  unfold C_box_list; rw [h_box_list]
  exact mkS Try.f27 ⟨s_box_size, s_set_has, s_box_cell, trivial⟩ trivial
noncomputable def l_box_list_3 := hid (L_box_list_3)
theorem h_box_list_3 : l_box_list_3 = L_box_list_3 := hid_eq _
theorem p_box_list (a0 : D_A3) (a1 : Int) : P_box_list (a0, a1, ()) = 
  Option.bind (P_box_size (a0, ())) fun r0 =>
  l_box_list_3 N a0.1 a0.2.1 a0.2.2.1 a1 ([] : List D_A3) r0.1 0 := by
  rewrite [h_box_list, h_box_list_3]
  kernel_rfl
theorem q_box_list_3 (m0 : Nat) (p0 p1 p2 p3 : Int) (p4 : List D_A3) (p5 p6 : Int) : l_box_list_3 (m0 + 1) p0 p1 p2 p3 p4 p5 p6 = 
  bif decide (p6 < p5) then
    Option.bind (P_set_has (p3, p6, ())) fun r1 =>
    bif r1.1 then
      Option.bind (P_box_cell ((p0, (p1, (p2, ()))), p6, ())) fun r3 =>
      bif (decide (((List.length p4) + (List.length ([r3.1] : List D_A3))) * 24 ≤ 140737488355328) && decide (((List.length p4) + (List.length ([r3.1] : List D_A3))) ≤ 140737488355328)) then
        l_box_list_3 m0 p0 p1 p2 p3 (p4 ++ ([r3.1] : List D_A3)) p5 (IntKind.wrap .i64 (p6 + 1))
      else none
    else
      l_box_list_3 m0 p0 p1 p2 p3 p4 p5 (IntKind.wrap .i64 (p6 + 1))
  else
    some (p4, ()) := by
  rewrite [h_box_list_3]
  kernel_rfl

/- 28: (loop.example/g01166/impl.box).those -/
abbrev As_box_those : List ATy := [.data true T_A3, .clo [(true, T_A3)] [(false, .bool)]]
abbrev R_box_those : List (Bool × Ty) := [(false, (.int .u64))]
abbrev M_box_those : List RMode := []
abbrev Ft_box_those : Type := D_A3 × ((D_A3 × Unit) → Option (Bool × Unit)) × Unit → Option (Int × Unit)
noncomputable def X_box_those : Ctx := { types := TT, globals := [], con := [(53, C_box_size), (55, C_box_cell)], keep := [(3, ⟨[.box 2, .tmp 1, .tmp 2, .tmp 5, .tmp 8, .tmp 9], []⟩)], results := [.tmp 4], ntmps := 23, n := N }
noncomputable def B_box_those : Code := (Try.f28.body).getD .skip
noncomputable def L_box_those_3 (m0 : Nat) (p0 p1 p2 : Int) (p3 : (D_A3 × Unit) → Option (Bool × Unit)) (p4 p5 p6 : Int) : Option (denL R_box_those) := loopF X_box_those B_box_those R_box_those M_box_those 3 [m0] [(.ver, .num 1), (.box 2, .box 0 false [.int .i64 p0, .int .i64 p1, .int .i64 p2]), (.tmp 1, .val false [.clo [(true, T_A3)] [(false, .bool)] p3]), (.tmp 2, .val false [.addr 2 0 0]), (.tmp 5, .val false [.int .u64 p4]), (.tmp 8, .val false [.int .i64 p5]), (.tmp 9, .val false [.int .i64 p6])]
noncomputable def P_box_those : Ft_box_those := hid (runF X_box_those B_box_those As_box_those R_box_those M_box_those)
theorem h_box_those : P_box_those = runF X_box_those B_box_those As_box_those R_box_those M_box_those := hid_eq _
noncomputable def C_box_those : Contract := ⟨As_box_those, R_box_those, M_box_those, P_box_those⟩
theorem s_box_those : Sound Try.prog GG 28 C_box_those := by
  unfold C_box_those; rw [h_box_those]
  exact mkS Try.f28 ⟨s_box_size, s_box_cell, trivial⟩ trivial
noncomputable def l_box_those_3 := hid (L_box_those_3)
theorem h_box_those_3 : l_box_those_3 = L_box_those_3 := hid_eq _
theorem p_box_those (a0 : D_A3) (a1 : (D_A3 × Unit) → Option (Bool × Unit)) : P_box_those (a0, a1, ()) = 
  Option.bind (P_box_size (a0, ())) fun r0 =>
  l_box_those_3 N a0.1 a0.2.1 a0.2.2.1 a1 0 r0.1 0 := by
  rewrite [h_box_those, h_box_those_3]
  kernel_rfl
theorem q_box_those_3 (m0 : Nat) (p0 p1 p2 : Int) (p3 : (D_A3 × Unit) → Option (Bool × Unit)) (p4 p5 p6 : Int) : l_box_those_3 (m0 + 1) p0 p1 p2 p3 p4 p5 p6 = 
  bif decide (p6 < p5) then
    Option.bind (P_box_cell ((p0, (p1, (p2, ()))), p6, ())) fun r1 =>
    Option.bind (p3 (r1.1, ())) fun r2 =>
    bif r2.1 then
      bif decide ((0 : Int) ≤ p6) then
        l_box_those_3 m0 p0 p1 p2 p3 (intBits .or .u64 p4 (shlI .u64 1 p6)) p5 (IntKind.wrap .i64 (p6 + 1))
      else none
    else
      l_box_those_3 m0 p0 p1 p2 p3 p4 p5 (IntKind.wrap .i64 (p6 + 1))
  else
    some (p4, ()) := by
  rewrite [h_box_those_3]
  kernel_rfl

/- 29: loop.example/g01166/impl.PiecesAfter$1 -/
abbrev As_impl_PiecesAfter_1 : List ATy := [.data true T_A3, .ptr T_A2, .ptr T_A3]
abbrev R_impl_PiecesAfter_1 : List (Bool × Ty) := [(false, .bool)]
abbrev M_impl_PiecesAfter_1 : List RMode := []
abbrev Ft_impl_PiecesAfter_1 : Type := D_A3 × D_A2 × D_A3 × Unit → Option (Bool × Unit)
noncomputable def X_impl_PiecesAfter_1 : Ctx := { types := TT, globals := [], con := [], keep := [], results := [.tmp 4], ntmps := 20, n := N }
noncomputable def B_impl_PiecesAfter_1 : Code := (Try.f29.body).getD .skip
noncomputable def P_impl_PiecesAfter_1 : Ft_impl_PiecesAfter_1 := hid (runF X_impl_PiecesAfter_1 B_impl_PiecesAfter_1 As_impl_PiecesAfter_1 R_impl_PiecesAfter_1 M_impl_PiecesAfter_1)
theorem h_impl_PiecesAfter_1 : P_impl_PiecesAfter_1 = runF X_impl_PiecesAfter_1 B_impl_PiecesAfter_1 As_impl_PiecesAfter_1 R_impl_PiecesAfter_1 M_impl_PiecesAfter_1 := hid_eq _
noncomputable def C_impl_PiecesAfter_1 : Contract := ⟨As_impl_PiecesAfter_1, R_impl_PiecesAfter_1, M_impl_PiecesAfter_1, P_impl_PiecesAfter_1⟩
theorem s_impl_PiecesAfter_1 : Sound Try.prog GG 29 C_impl_PiecesAfter_1 := by
  unfold C_impl_PiecesAfter_1; rw [h_impl_PiecesAfter_1]
  exact mkS Try.f29 trivial trivial
theorem p_impl_PiecesAfter_1 (a0 : D_A3) (a1 : D_A2) (a2 : D_A3) : P_impl_PiecesAfter_1 (a0, a1, a2, ()) = 
  bif inB a1.1 3 then
    bif inB a1.1 3 then
      some ((decide ((bif decide (a1.1 = (0 : Int)) then a0.1 else (bif decide (a1.1 = (1 : Int)) then a0.2.1 else a0.2.2.1)) < a1.2.1) == decide ((bif decide (a1.1 = (0 : Int)) then a2.1 else (bif decide (a1.1 = (1 : Int)) then a2.2.1 else a2.2.2.1)) < a1.2.1)), ())
    else none
  else none := by
  rewrite [h_impl_PiecesAfter_1]
  kernel_rfl

/- 56: (loop.example/g01166/impl.box).near -/
abbrev As_box_near : List ATy := [.data true T_A3, .data true T_A3]
abbrev R_box_near : List (Bool × Ty) := [(false, (.int .u64))]
abbrev M_box_near : List RMode := []
abbrev Ft_box_near : Type := D_A3 × D_A3 × Unit → Option (Int × Unit)
noncomputable def X_box_near : Ctx := { types := TT, globals := [], con := [(48, C_box_has), (52, C_box_index)], keep := [(3, ⟨[.box 2, .box 3, .tmp 2, .tmp 3, .tmp 5, .tmp 10], []⟩), (6, ⟨[.box 2, .box 3, .tmp 2, .tmp 3, .tmp 5, .tmp 6, .tmp 10, .tmp 13, .tmp 14], []⟩)], results := [.tmp 4], ntmps := 36, n := N }
noncomputable def B_box_near : Code := (Try.f56.body).getD .skip
noncomputable def L_box_near_3 (m0 : Nat) (p0 p1 p2 p3 p4 p5 p6 p7 : Int) : Option (denL R_box_near) := loopF X_box_near B_box_near R_box_near M_box_near 3 [m0] [(.ver, .num 1), (.box 2, .box 0 false [.int .i64 p0, .int .i64 p1, .int .i64 p2]), (.box 3, .box 0 false [.int .i64 p3, .int .i64 p4, .int .i64 p5]), (.tmp 2, .val false [.addr 2 0 0]), (.tmp 3, .val false [.addr 3 0 0]), (.tmp 5, .val false [.int .u64 p6]), (.tmp 10, .val false [.int .i64 p7])]
noncomputable def L_box_near_6 (m0 m1 : Nat) (p0 p1 p2 p3 p4 p5 p6 p7 p8 p9 p10 p11 : Int) : Option (denL R_box_near) := loopF X_box_near B_box_near R_box_near M_box_near 6 [m0, m1] [(.ver, .num 1), (.box 2, .box 0 false [.int .i64 p0, .int .i64 p1, .int .i64 p2]), (.box 3, .box 0 false [.int .i64 p3, .int .i64 p4, .int .i64 p5]), (.tmp 2, .val false [.addr 2 0 0]), (.tmp 3, .val false [.addr 3 0 0]), (.tmp 5, .val false [.int .u64 p6]), (.tmp 6, .val false [.int .i64 p7]), (.tmp 10, .val false [.int .i64 p8]), (.tmp 13, .val true [.int .i64 p9, .int .i64 p10]), (.tmp 14, .val false [.int .i64 p11])]
noncomputable def P_box_near : Ft_box_near := hid (runF X_box_near B_box_near As_box_near R_box_near M_box_near)
theorem h_box_near : P_box_near = runF X_box_near B_box_near As_box_near R_box_near M_box_near := hid_eq _
noncomputable def C_box_near : Contract := ⟨As_box_near, R_box_near, M_box_near, P_box_near⟩
theorem s_box_near : Sound Try.prog GG 56 C_box_near := by
  unfold C_box_near; rw [h_box_near]
  exact mkS Try.f56 ⟨s_box_has, s_box_index, trivial⟩ trivial
noncomputable def l_box_near_3 := hid (L_box_near_3)
theorem h_box_near_3 : l_box_near_3 = L_box_near_3 := hid_eq _
noncomputable def l_box_near_6 := hid (L_box_near_6)
theorem h_box_near_6 : l_box_near_6 = L_box_near_6 := hid_eq _
theorem p_box_near (a0 : D_A3) (a1 : D_A3) : P_box_near (a0, a1, ()) = 
  l_box_near_3 N a0.1 a0.2.1 a0.2.2.1 a1.1 a1.2.1 a1.2.2.1 0 0 := by
  rewrite [h_box_near, h_box_near_3]
  kernel_rfl
theorem q_box_near_3 (m0 : Nat) (p0 p1 p2 p3 p4 p5 p6 p7 : Int) : l_box_near_3 (m0 + 1) p0 p1 p2 p3 p4 p5 p6 p7 = 
  bif decide (p7 < 3) then
    l_box_near_6 m0 N p0 p1 p2 p3 p4 p5 p6 p7 p7 (-1) 1 0
  else
    some (p6, ()) := by
  rewrite [h_box_near_3, h_box_near_6]
  kernel_rfl
theorem q_box_near_6 (m0 m1 : Nat) (p0 p1 p2 p3 p4 p5 p6 p7 p8 p9 p10 p11 : Int) : l_box_near_6 m0 (m1 + 1) p0 p1 p2 p3 p4 p5 p6 p7 p8 p9 p10 p11 = 
  bif decide (p11 < 2) then
    bif inB p11 2 then
      bif inB p7 3 then
        bif inB p7 3 then
          Option.bind (P_box_has ((p0, (p1, (p2, ()))), ((bif decide (p7 = (0 : Int)) then (IntKind.wrap .i64 ((bif decide (p7 = (0 : Int)) then p3 else (bif decide (p7 = (1 : Int)) then p4 else p5)) + (bif decide (p11 = (0 : Int)) then p9 else p10))) else p3), ((bif decide (p7 = (1 : Int)) then (IntKind.wrap .i64 ((bif decide (p7 = (0 : Int)) then p3 else (bif decide (p7 = (1 : Int)) then p4 else p5)) + (bif decide (p11 = (0 : Int)) then p9 else p10))) else p4), ((bif decide (p7 = (2 : Int)) then (IntKind.wrap .i64 ((bif decide (p7 = (0 : Int)) then p3 else (bif decide (p7 = (1 : Int)) then p4 else p5)) + (bif decide (p11 = (0 : Int)) then p9 else p10))) else p5), ()))), ())) fun r4 =>
          bif r4.1 then
            Option.bind (P_box_index ((p0, (p1, (p2, ()))), ((bif decide (p7 = (0 : Int)) then (IntKind.wrap .i64 ((bif decide (p7 = (0 : Int)) then p3 else (bif decide (p7 = (1 : Int)) then p4 else p5)) + (bif decide (p11 = (0 : Int)) then p9 else p10))) else p3), ((bif decide (p7 = (1 : Int)) then (IntKind.wrap .i64 ((bif decide (p7 = (0 : Int)) then p3 else (bif decide (p7 = (1 : Int)) then p4 else p5)) + (bif decide (p11 = (0 : Int)) then p9 else p10))) else p4), ((bif decide (p7 = (2 : Int)) then (IntKind.wrap .i64 ((bif decide (p7 = (0 : Int)) then p3 else (bif decide (p7 = (1 : Int)) then p4 else p5)) + (bif decide (p11 = (0 : Int)) then p9 else p10))) else p5), ()))), ())) fun r6 =>
            bif decide ((0 : Int) ≤ r6.1) then
              l_box_near_6 m0 m1 p0 p1 p2 p3 p4 p5 (intBits .or .u64 p6 (shlI .u64 1 r6.1)) p7 p8 p9 p10 (IntKind.wrap .i64 (p11 + 1))
            else none
          else
            l_box_near_6 m0 m1 p0 p1 p2 p3 p4 p5 p6 p7 p8 p9 p10 (IntKind.wrap .i64 (p11 + 1))
        else none
      else none
    else none
  else
    l_box_near_3 m0 p0 p1 p2 p3 p4 p5 p6 (IntKind.wrap .i64 (p8 + 1)) := by
  rewrite [h_box_near_3, h_box_near_6]
  kernel_rfl

/- 30: (loop.example/g01166/impl.box).grown -/
abbrev As_box_grown : List ATy := [.data true T_A3, .data false (.int .u64), .data false (.int .u64)]
abbrev R_box_grown : List (Bool × Ty) := [(false, (.int .u64))]
abbrev M_box_grown : List RMode := []
abbrev Ft_box_grown : Type := D_A3 × Int × Int × Unit → Option (Int × Unit)
noncomputable def X_box_grown : Ctx := { types := TT, globals := [], con := [(53, C_box_size), (54, C_set_has), (55, C_box_cell), (56, C_box_near)], keep := [(1, ⟨[.box 3, .tmp 1, .tmp 2, .tmp 3], []⟩), (3, ⟨[.box 3, .tmp 1, .tmp 2, .tmp 3, .tmp 7, .tmp 11, .tmp 12], []⟩)], results := [.tmp 6], ntmps := 33, n := N }
noncomputable def B_box_grown : Code := (Try.f30.body).getD .skip
noncomputable def L_box_grown_1 (m0 : Nat) (p0 p1 p2 p3 p4 : Int) : Option (denL R_box_grown) := loopF X_box_grown B_box_grown R_box_grown M_box_grown 1 [m0] [(.ver, .num 1), (.box 3, .box 0 false [.int .i64 p0, .int .i64 p1, .int .i64 p2]), (.tmp 1, .val false [.int .u64 p3]), (.tmp 2, .val false [.int .u64 p4]), (.tmp 3, .val false [.addr 3 0 0])]
noncomputable def L_box_grown_3 (m0 m1 : Nat) (p0 p1 p2 p3 p4 p5 p6 p7 : Int) : Option (denL R_box_grown) := loopF X_box_grown B_box_grown R_box_grown M_box_grown 3 [m0, m1] [(.ver, .num 1), (.box 3, .box 0 false [.int .i64 p0, .int .i64 p1, .int .i64 p2]), (.tmp 1, .val false [.int .u64 p3]), (.tmp 2, .val false [.int .u64 p4]), (.tmp 3, .val false [.addr 3 0 0]), (.tmp 7, .val false [.int .u64 p5]), (.tmp 11, .val false [.int .i64 p6]), (.tmp 12, .val false [.int .i64 p7])]
noncomputable def P_box_grown : Ft_box_grown := hid (runF X_box_grown B_box_grown As_box_grown R_box_grown M_box_grown)
theorem h_box_grown : P_box_grown = runF X_box_grown B_box_grown As_box_grown R_box_grown M_box_grown := hid_eq _
noncomputable def C_box_grown : Contract := ⟨As_box_grown, R_box_grown, M_box_grown, P_box_grown⟩
theorem s_box_grown : Sound Try.prog GG 30 C_box_grown := by
  unfold C_box_grown; rw [h_box_grown]
  exact mkS Try.f30 ⟨s_box_size, s_set_has, s_box_cell, s_box_near, trivial⟩ trivial
noncomputable def l_box_grown_1 := hid (L_box_grown_1)
theorem h_box_grown_1 : l_box_grown_1 = L_box_grown_1 := hid_eq _
noncomputable def l_box_grown_3 := hid (L_box_grown_3)
theorem h_box_grown_3 : l_box_grown_3 = L_box_grown_3 := hid_eq _
theorem p_box_grown (a0 : D_A3) (a1 : Int) (a2 : Int) : P_box_grown (a0, a1, a2, ()) = 
  l_box_grown_1 N a0.1 a0.2.1 a0.2.2.1 a1 a2 := by
  rewrite [h_box_grown, h_box_grown_1]
  kernel_rfl
theorem q_box_grown_1 (m0 : Nat) (p0 p1 p2 p3 p4 : Int) : l_box_grown_1 (m0 + 1) p0 p1 p2 p3 p4 = 
  Option.bind (P_box_size ((p0, (p1, (p2, ()))), ())) fun r0 =>
  l_box_grown_3 m0 N p0 p1 p2 p3 p4 p3 r0.1 0 := by
  rewrite [h_box_grown_1, h_box_grown_3]
  kernel_rfl
theorem q_box_grown_3 (m0 m1 : Nat) (p0 p1 p2 p3 p4 p5 p6 p7 : Int) : l_box_grown_3 m0 (m1 + 1) p0 p1 p2 p3 p4 p5 p6 p7 = 
  bif decide (p7 < p6) then
    Option.bind (P_set_has (p3, p7, ())) fun r1 =>
    bif r1.1 then
      Option.bind (P_box_cell ((p0, (p1, (p2, ()))), p7, ())) fun r3 =>
      Option.bind (P_box_near ((p0, (p1, (p2, ()))), r3.1, ())) fun r4 =>
      l_box_grown_3 m0 m1 p0 p1 p2 p3 p4 (intBits .or .u64 p5 (intBits .and .u64 r4.1 p4)) p6 (IntKind.wrap .i64 (p7 + 1))
    else
      l_box_grown_3 m0 m1 p0 p1 p2 p3 p4 p5 p6 (IntKind.wrap .i64 (p7 + 1))
  else
    bif decide (p5 = p3) then
      some (p3, ())
    else
      l_box_grown_1 m0 p0 p1 p2 p5 p4 := by
  rewrite [h_box_grown_1, h_box_grown_3]
  kernel_rfl

/- 9: loop.example/g01166/impl.PiecesAfter -/
abbrev As_impl_PiecesAfter : List ATy := [.data true T_Heap, .data false (.sl T_A2)]
abbrev R_impl_PiecesAfter : List (Bool × Ty) := [(false, (.sl (.sl T_A3))), (false, .bool)]
abbrev M_impl_PiecesAfter : List RMode := [.own 22]
abbrev Ft_impl_PiecesAfter : Type := D_Heap × (List D_A2) × Unit → Option ((List (List D_A3)) × Bool × Unit)
noncomputable def X_impl_PiecesAfter : Ctx := { types := TT, globals := [], con := [(23, C_impl_IsHeap), (24, C_Heap_isCut), (25, C_Heap_box), (26, C_Heap_cubes), (27, C_box_list), (28, C_box_those), (29, C_impl_PiecesAfter_1), (30, C_box_grown)], keep := [(4, ⟨[.box 2, .tmp 1, .tmp 2, .tmp 24, .tmp 25, .tmp 26], []⟩), (10, ⟨[.box 9, .tmp 1, .tmp 8, .tmp 9, .tmp 10], []⟩), (14, ⟨[.box 9, .box 12, .tmp 1, .tmp 8, .tmp 9, .tmp 10, .tmp 11, .tmp 12, .tmp 13, .tmp 55, .tmp 56, .tmp 57], [.box 12]⟩)], results := [.tmp 4, .tmp 5], ntmps := 81, n := N }
noncomputable def B_impl_PiecesAfter : Code := (Try.f9.body).getD .skip
noncomputable def L_impl_PiecesAfter_4 (m0 : Nat) (p0 p1 p2 : Int) (p3 : List D_A3) (p4 p5 : List D_A2) (p6 p7 : Int) : Option (denL R_impl_PiecesAfter) := loopF X_impl_PiecesAfter B_impl_PiecesAfter R_impl_PiecesAfter M_impl_PiecesAfter 4 [m0] [(.ver, .num 1), (.box 2, .box 0 false [.int .i64 p0, .int .i64 p1, .int .i64 p2, .imm T_A3 p3 (some 3)]), (.tmp 1, .val false [.imm T_A2 p4 (some 4)]), (.tmp 2, .val false [.addr 2 0 0]), (.tmp 24, .val false [.imm T_A2 p5 (some 4)]), (.tmp 25, .val false [.int .i64 p6]), (.tmp 26, .val false [.int .i64 p7])]
noncomputable def L_impl_PiecesAfter_10 (m0 : Nat) (p0 p1 p2 : Int) (p3 : List D_A2) (p4 : List (List D_A3)) (p5 : Int) : Option (denL R_impl_PiecesAfter) := loopF X_impl_PiecesAfter B_impl_PiecesAfter R_impl_PiecesAfter M_impl_PiecesAfter 10 [m0] [(.ver, .num 1), (.box 9, .box 0 false [.int .i64 p0, .int .i64 p1, .int .i64 p2]), (.tmp 1, .val false [.imm T_A2 p3 (some 4)]), (.tmp 8, .val false [.own 22 (.sl T_A3) 0 p4]), (.tmp 9, .val false [.addr 9 0 0]), (.tmp 10, .val false [.int .u64 p5])]
noncomputable def L_impl_PiecesAfter_14 (m0 m1 : Nat) (p0 p1 p2 p3 p4 p5 : Int) (p6 : List D_A2) (p7 : List (List D_A3)) (p8 p9 p10 : Int) (p11 : List D_A2) (p12 p13 : Int) : Option (denL R_impl_PiecesAfter) := loopF X_impl_PiecesAfter B_impl_PiecesAfter R_impl_PiecesAfter M_impl_PiecesAfter 14 [m0, m1] [(.ver, .num 1), (.box 9, .box 0 false [.int .i64 p0, .int .i64 p1, .int .i64 p2]), (.box 12, .box 0 true [.int .i64 p3, .int .i64 p4, .int .i64 p5]), (.tmp 1, .val false [.imm T_A2 p6 (some 4)]), (.tmp 8, .val false [.own 22 (.sl T_A3) 0 p7]), (.tmp 9, .val false [.addr 9 0 0]), (.tmp 10, .val false [.int .u64 p8]), (.tmp 11, .val false [.int .u64 p9]), (.tmp 12, .val false [.addr 12 0 0]), (.tmp 13, .val false [.int .u64 p10]), (.tmp 55, .val false [.imm T_A2 p11 (some 4)]), (.tmp 56, .val false [.int .i64 p12]), (.tmp 57, .val false [.int .i64 p13])]
noncomputable def P_impl_PiecesAfter : Ft_impl_PiecesAfter := hid (runF X_impl_PiecesAfter B_impl_PiecesAfter As_impl_PiecesAfter R_impl_PiecesAfter M_impl_PiecesAfter)
theorem h_impl_PiecesAfter : P_impl_PiecesAfter = runF X_impl_PiecesAfter B_impl_PiecesAfter As_impl_PiecesAfter R_impl_PiecesAfter M_impl_PiecesAfter := hid_eq _
noncomputable def C_impl_PiecesAfter : Contract := ⟨As_impl_PiecesAfter, R_impl_PiecesAfter, M_impl_PiecesAfter, P_impl_PiecesAfter⟩
theorem s_impl_PiecesAfter : Sound Try.prog GG 9 C_impl_PiecesAfter := by
  unfold C_impl_PiecesAfter; rw [h_impl_PiecesAfter]
  exact mkS Try.f9 ⟨s_impl_IsHeap, s_Heap_isCut, s_Heap_box, s_Heap_cubes, s_box_list, s_box_those, s_impl_PiecesAfter_1, s_box_grown, trivial⟩ trivial
noncomputable def l_impl_PiecesAfter_4 := hid (L_impl_PiecesAfter_4)
theorem h_impl_PiecesAfter_4 : l_impl_PiecesAfter_4 = L_impl_PiecesAfter_4 := hid_eq _
noncomputable def l_impl_PiecesAfter_10 := hid (L_impl_PiecesAfter_10)
theorem h_impl_PiecesAfter_10 : l_impl_PiecesAfter_10 = L_impl_PiecesAfter_10 := hid_eq _
noncomputable def l_impl_PiecesAfter_14 := hid (L_impl_PiecesAfter_14)
theorem h_impl_PiecesAfter_14 : l_impl_PiecesAfter_14 = L_impl_PiecesAfter_14 := hid_eq _
theorem p_impl_PiecesAfter (a0 : D_Heap) (a1 : List D_A2) : P_impl_PiecesAfter (a0, a1, ()) = 
  Option.bind (P_impl_IsHeap (a0, ())) fun r0 =>
  bif !r0.1 then
    some (([] : List (List D_A3)), false, ())
  else
    bif decide ((List.length a1 : Int) > 12) then
      some (([] : List (List D_A3)), false, ())
    else
      l_impl_PiecesAfter_4 N a0.1 a0.2.1 a0.2.2.1 a0.2.2.2.1 a1 a1 (List.length a1 : Int) 0 := by
  rewrite [h_impl_PiecesAfter, h_impl_PiecesAfter_4]
  kernel_rfl
theorem q_impl_PiecesAfter_4 (m0 : Nat) (p0 p1 p2 : Int) (p3 : List D_A3) (p4 p5 : List D_A2) (p6 p7 : Int) : l_impl_PiecesAfter_4 (m0 + 1) p0 p1 p2 p3 p4 p5 p6 p7 = 
  bif decide (p7 < p6) then
    bif inB p7 (List.length p5) then
      Option.bind (P_Heap_isCut ((p0, (p1, (p2, (p3, ())))), ((nth T_A2 p5 p7)).1, (((nth T_A2 p5 p7)).2).1, ())) fun r2 =>
      bif !r2.1 then
        some (([] : List (List D_A3)), false, ())
      else
        l_impl_PiecesAfter_4 m0 p0 p1 p2 p3 p4 p5 p6 (IntKind.wrap .i64 (p7 + 1))
    else none
  else
    Option.bind (P_Heap_box ((p0, (p1, (p2, (p3, ())))), ())) fun r1 =>
    Option.bind (P_Heap_cubes ((p0, (p1, (p2, (p3, ())))), ())) fun r2 =>
    l_impl_PiecesAfter_10 N r1.1.1 r1.1.2.1 r1.1.2.2.1 p4 ([] : List (List D_A3)) r2.1 := by
  rewrite [h_impl_PiecesAfter_4, h_impl_PiecesAfter_10]
  kernel_rfl
theorem q_impl_PiecesAfter_10 (m0 : Nat) (p0 p1 p2 : Int) (p3 : List D_A2) (p4 : List (List D_A3)) (p5 : Int) : l_impl_PiecesAfter_10 (m0 + 1) p0 p1 p2 p3 p4 p5 = 
  bif !decide (p5 = 0) then
    Option.bind (P_box_list ((p0, (p1, (p2, ()))), (intBits .and .u64 p5 (IntKind.wrap .u64 (0 - p5))), ())) fun r1 =>
    bif inB 0 (List.length r1.1) then
      l_impl_PiecesAfter_14 m0 N p0 p1 p2 (((nth T_A3 r1.1 0)).1) ((((nth T_A3 r1.1 0)).2).1) (((((nth T_A3 r1.1 0)).2).2).1) p3 p4 p5 (intBits .and .u64 p5 (IntKind.wrap .u64 (0 - p5))) p5 p3 (List.length p3 : Int) 0
    else none
  else
    some (p4, true, ()) := by
  rewrite [h_impl_PiecesAfter_10, h_impl_PiecesAfter_14]
  kernel_rfl
theorem q_impl_PiecesAfter_14 (m0 m1 : Nat) (p0 p1 p2 p3 p4 p5 : Int) (p6 : List D_A2) (p7 : List (List D_A3)) (p8 p9 p10 : Int) (p11 : List D_A2) (p12 p13 : Int) : l_impl_PiecesAfter_14 m0 (m1 + 1) p0 p1 p2 p3 p4 p5 p6 p7 p8 p9 p10 p11 p12 p13 = 
  bif decide (p13 < p12) then
    bif inB p13 (List.length p11) then
      Option.bind (P_box_those ((p0, (p1, (p2, ()))), (fun (y : D_A3 × Unit) => P_impl_PiecesAfter_1 (y.1, (nth T_A2 p11 p13), (p3, (p4, (p5, ()))), ())), ())) fun r2 =>
      l_impl_PiecesAfter_14 m0 m1 p0 p1 p2 p3 p4 p5 p6 p7 p8 p9 (intBits .and .u64 p10 r2.1) p11 p12 (IntKind.wrap .i64 (p13 + 1))
    else none
  else
    Option.bind (P_box_grown ((p0, (p1, (p2, ()))), p9, p10, ())) fun r1 =>
    Option.bind (P_box_list ((p0, (p1, (p2, ()))), r1.1, ())) fun r2 =>
    bif (decide (((List.length p7) + (List.length ([r2.1] : List (List D_A3)))) * 24 ≤ 140737488355328) && decide (((List.length p7) + (List.length ([r2.1] : List (List D_A3)))) ≤ 140737488355328)) then
      l_impl_PiecesAfter_10 m0 p0 p1 p2 p6 (p7 ++ ([r2.1] : List (List D_A3))) (intBits .andNot .u64 p8 r1.1)
    else none := by
  rewrite [h_impl_PiecesAfter_10, h_impl_PiecesAfter_14]
  kernel_rfl

/- 57: loop.example/g01166/laws.eqIntA3 -/
abbrev As_laws_eqIntA3 : List ATy := [.data true T_A3, .data true T_A3]
abbrev R_laws_eqIntA3 : List (Bool × Ty) := [(false, .bool)]
abbrev M_laws_eqIntA3 : List RMode := []
abbrev Ft_laws_eqIntA3 : Type := D_A3 × D_A3 × Unit → Option (Bool × Unit)
noncomputable def X_laws_eqIntA3 : Ctx := { types := TT, globals := [], con := [], keep := [(2, ⟨[.box 2, .box 3, .tmp 2, .tmp 3, .tmp 5], []⟩)], results := [.tmp 4], ntmps := 17, n := N }
noncomputable def B_laws_eqIntA3 : Code := (Try.f57.body).getD .skip
noncomputable def L_laws_eqIntA3_2 (m0 : Nat) (p0 p1 p2 p3 p4 p5 p6 : Int) : Option (denL R_laws_eqIntA3) := loopF X_laws_eqIntA3 B_laws_eqIntA3 R_laws_eqIntA3 M_laws_eqIntA3 2 [m0] [(.ver, .num 1), (.box 2, .box 0 false [.int .i64 p0, .int .i64 p1, .int .i64 p2]), (.box 3, .box 0 false [.int .i64 p3, .int .i64 p4, .int .i64 p5]), (.tmp 2, .val false [.addr 2 0 0]), (.tmp 3, .val false [.addr 3 0 0]), (.tmp 5, .val false [.int .i64 p6])]
noncomputable def P_laws_eqIntA3 : Ft_laws_eqIntA3 := hid (runF X_laws_eqIntA3 B_laws_eqIntA3 As_laws_eqIntA3 R_laws_eqIntA3 M_laws_eqIntA3)
theorem h_laws_eqIntA3 : P_laws_eqIntA3 = runF X_laws_eqIntA3 B_laws_eqIntA3 As_laws_eqIntA3 R_laws_eqIntA3 M_laws_eqIntA3 := hid_eq _
noncomputable def C_laws_eqIntA3 : Contract := ⟨As_laws_eqIntA3, R_laws_eqIntA3, M_laws_eqIntA3, P_laws_eqIntA3⟩
theorem s_laws_eqIntA3 : Sound Try.prog GG 57 C_laws_eqIntA3 := by
  unfold C_laws_eqIntA3; rw [h_laws_eqIntA3]
  exact mkS Try.f57 trivial trivial
noncomputable def l_laws_eqIntA3_2 := hid (L_laws_eqIntA3_2)
theorem h_laws_eqIntA3_2 : l_laws_eqIntA3_2 = L_laws_eqIntA3_2 := hid_eq _
theorem p_laws_eqIntA3 (a0 : D_A3) (a1 : D_A3) : P_laws_eqIntA3 (a0, a1, ()) = 
  l_laws_eqIntA3_2 N a0.1 a0.2.1 a0.2.2.1 a1.1 a1.2.1 a1.2.2.1 0 := by
  rewrite [h_laws_eqIntA3, h_laws_eqIntA3_2]
  kernel_rfl
theorem q_laws_eqIntA3_2 (m0 : Nat) (p0 p1 p2 p3 p4 p5 p6 : Int) : l_laws_eqIntA3_2 (m0 + 1) p0 p1 p2 p3 p4 p5 p6 = 
  bif decide (p6 < 3) then
    bif inB p6 3 then
      bif inB p6 3 then
        bif !decide ((bif decide (p6 = (0 : Int)) then p0 else (bif decide (p6 = (1 : Int)) then p1 else p2)) = (bif decide (p6 = (0 : Int)) then p3 else (bif decide (p6 = (1 : Int)) then p4 else p5))) then
          some (false, ())
        else
          l_laws_eqIntA3_2 m0 p0 p1 p2 p3 p4 p5 (IntKind.wrap .i64 (p6 + 1))
      else none
    else none
  else
    some (true, ()) := by
  rewrite [h_laws_eqIntA3_2]
  kernel_rfl

/- 31: loop.example/g01166/laws.eqIntA3S -/
abbrev As_laws_eqIntA3S : List ATy := [.data false (.sl T_A3), .data false (.sl T_A3)]
abbrev R_laws_eqIntA3S : List (Bool × Ty) := [(false, .bool)]
abbrev M_laws_eqIntA3S : List RMode := []
abbrev Ft_laws_eqIntA3S : Type := (List D_A3) × (List D_A3) × Unit → Option (Bool × Unit)
noncomputable def X_laws_eqIntA3S : Ctx := { types := TT, globals := [], con := [(57, C_laws_eqIntA3)], keep := [(4, ⟨[.tmp 0, .tmp 1, .tmp 5], []⟩)], results := [.tmp 4], ntmps := 27, n := N }
noncomputable def B_laws_eqIntA3S : Code := (Try.f31.body).getD .skip
noncomputable def L_laws_eqIntA3S_4 (m0 : Nat) (p0 p1 : List D_A3) (p2 : Int) : Option (denL R_laws_eqIntA3S) := loopF X_laws_eqIntA3S B_laws_eqIntA3S R_laws_eqIntA3S M_laws_eqIntA3S 4 [m0] [(.ver, .num 1), (.tmp 0, .val false [.imm T_A3 p0 (some 0)]), (.tmp 1, .val false [.imm T_A3 p1 (some 1)]), (.tmp 5, .val false [.int .i64 p2])]
noncomputable def P_laws_eqIntA3S : Ft_laws_eqIntA3S := hid (runF X_laws_eqIntA3S B_laws_eqIntA3S As_laws_eqIntA3S R_laws_eqIntA3S M_laws_eqIntA3S)
theorem h_laws_eqIntA3S : P_laws_eqIntA3S = runF X_laws_eqIntA3S B_laws_eqIntA3S As_laws_eqIntA3S R_laws_eqIntA3S M_laws_eqIntA3S := hid_eq _
noncomputable def C_laws_eqIntA3S : Contract := ⟨As_laws_eqIntA3S, R_laws_eqIntA3S, M_laws_eqIntA3S, P_laws_eqIntA3S⟩
theorem s_laws_eqIntA3S : Sound Try.prog GG 31 C_laws_eqIntA3S := by
  unfold C_laws_eqIntA3S; rw [h_laws_eqIntA3S]
  exact mkS Try.f31 ⟨s_laws_eqIntA3, trivial⟩ trivial
noncomputable def l_laws_eqIntA3S_4 := hid (L_laws_eqIntA3S_4)
theorem h_laws_eqIntA3S_4 : l_laws_eqIntA3S_4 = L_laws_eqIntA3S_4 := hid_eq _
theorem p_laws_eqIntA3S (a0 : List D_A3) (a1 : List D_A3) : P_laws_eqIntA3S (a0, a1, ()) = 
  bif !decide ((List.length a0 : Int) = (List.length a1 : Int)) then
    some (false, ())
  else
    l_laws_eqIntA3S_4 N a0 a1 0 := by
  rewrite [h_laws_eqIntA3S, h_laws_eqIntA3S_4]
  kernel_rfl
theorem q_laws_eqIntA3S_4 (m0 : Nat) (p0 p1 : List D_A3) (p2 : Int) : l_laws_eqIntA3S_4 (m0 + 1) p0 p1 p2 = 
  bif decide (p2 < (List.length p0 : Int)) then
    bif inB p2 (List.length p0) then
      bif inB p2 (List.length p1) then
        Option.bind (P_laws_eqIntA3 ((nth T_A3 p0 p2), (nth T_A3 p1 p2), ())) fun r3 =>
        bif !r3.1 then
          some (false, ())
        else
          l_laws_eqIntA3S_4 m0 p0 p1 (IntKind.wrap .i64 (p2 + 1))
      else none
    else none
  else
    some (true, ()) := by
  rewrite [h_laws_eqIntA3S_4]
  kernel_rfl

/- 10: loop.example/g01166/laws.eqIntA3SS -/
abbrev As_laws_eqIntA3SS : List ATy := [.data false (.sl (.sl T_A3)), .data false (.sl (.sl T_A3))]
abbrev R_laws_eqIntA3SS : List (Bool × Ty) := [(false, .bool)]
abbrev M_laws_eqIntA3SS : List RMode := []
abbrev Ft_laws_eqIntA3SS : Type := (List (List D_A3)) × (List (List D_A3)) × Unit → Option (Bool × Unit)
noncomputable def X_laws_eqIntA3SS : Ctx := { types := TT, globals := [], con := [(31, C_laws_eqIntA3S)], keep := [(4, ⟨[.tmp 0, .tmp 1, .tmp 5], []⟩)], results := [.tmp 4], ntmps := 27, n := N }
noncomputable def B_laws_eqIntA3SS : Code := (Try.f10.body).getD .skip
noncomputable def L_laws_eqIntA3SS_4 (m0 : Nat) (p0 p1 : List (List D_A3)) (p2 : Int) : Option (denL R_laws_eqIntA3SS) := loopF X_laws_eqIntA3SS B_laws_eqIntA3SS R_laws_eqIntA3SS M_laws_eqIntA3SS 4 [m0] [(.ver, .num 1), (.tmp 0, .val false [.imm (.sl T_A3) p0 (some 0)]), (.tmp 1, .val false [.imm (.sl T_A3) p1 (some 1)]), (.tmp 5, .val false [.int .i64 p2])]
noncomputable def P_laws_eqIntA3SS : Ft_laws_eqIntA3SS := hid (runF X_laws_eqIntA3SS B_laws_eqIntA3SS As_laws_eqIntA3SS R_laws_eqIntA3SS M_laws_eqIntA3SS)
theorem h_laws_eqIntA3SS : P_laws_eqIntA3SS = runF X_laws_eqIntA3SS B_laws_eqIntA3SS As_laws_eqIntA3SS R_laws_eqIntA3SS M_laws_eqIntA3SS := hid_eq _
noncomputable def C_laws_eqIntA3SS : Contract := ⟨As_laws_eqIntA3SS, R_laws_eqIntA3SS, M_laws_eqIntA3SS, P_laws_eqIntA3SS⟩
theorem s_laws_eqIntA3SS : Sound Try.prog GG 10 C_laws_eqIntA3SS := by
  unfold C_laws_eqIntA3SS; rw [h_laws_eqIntA3SS]
  exact mkS Try.f10 ⟨s_laws_eqIntA3S, trivial⟩ trivial
noncomputable def l_laws_eqIntA3SS_4 := hid (L_laws_eqIntA3SS_4)
theorem h_laws_eqIntA3SS_4 : l_laws_eqIntA3SS_4 = L_laws_eqIntA3SS_4 := hid_eq _
theorem p_laws_eqIntA3SS (a0 : List (List D_A3)) (a1 : List (List D_A3)) : P_laws_eqIntA3SS (a0, a1, ()) = 
  bif !decide ((List.length a0 : Int) = (List.length a1 : Int)) then
    some (false, ())
  else
    l_laws_eqIntA3SS_4 N a0 a1 0 := by
  rewrite [h_laws_eqIntA3SS, h_laws_eqIntA3SS_4]
  kernel_rfl
theorem q_laws_eqIntA3SS_4 (m0 : Nat) (p0 p1 : List (List D_A3)) (p2 : Int) : l_laws_eqIntA3SS_4 (m0 + 1) p0 p1 p2 = 
  bif decide (p2 < (List.length p0 : Int)) then
    bif inB p2 (List.length p0) then
      bif inB p2 (List.length p1) then
        Option.bind (P_laws_eqIntA3S ((nth ((.sl T_A3) : Ty) p0 p2), (nth ((.sl T_A3) : Ty) p1 p2), ())) fun r3 =>
        bif !r3.1 then
          some (false, ())
        else
          l_laws_eqIntA3SS_4 m0 p0 p1 (IntKind.wrap .i64 (p2 + 1))
      else none
    else none
  else
    some (true, ()) := by
  rewrite [h_laws_eqIntA3SS_4]
  kernel_rfl

/- 11: loop.example/g01166/laws.eqHeap -/
abbrev As_laws_eqHeap : List ATy := [.data true T_Heap, .data true T_Heap]
abbrev R_laws_eqHeap : List (Bool × Ty) := [(false, .bool)]
abbrev M_laws_eqHeap : List RMode := []
abbrev Ft_laws_eqHeap : Type := D_Heap × D_Heap × Unit → Option (Bool × Unit)
noncomputable def X_laws_eqHeap : Ctx := { types := TT, globals := [], con := [(31, C_laws_eqIntA3S)], keep := [], results := [.tmp 4], ntmps := 26, n := N }
noncomputable def B_laws_eqHeap : Code := (Try.f11.body).getD .skip
noncomputable def P_laws_eqHeap : Ft_laws_eqHeap := hid (runF X_laws_eqHeap B_laws_eqHeap As_laws_eqHeap R_laws_eqHeap M_laws_eqHeap)
theorem h_laws_eqHeap : P_laws_eqHeap = runF X_laws_eqHeap B_laws_eqHeap As_laws_eqHeap R_laws_eqHeap M_laws_eqHeap := hid_eq _
noncomputable def C_laws_eqHeap : Contract := ⟨As_laws_eqHeap, R_laws_eqHeap, M_laws_eqHeap, P_laws_eqHeap⟩
theorem s_laws_eqHeap : Sound Try.prog GG 11 C_laws_eqHeap := by
  unfold C_laws_eqHeap; rw [h_laws_eqHeap]
  exact mkS Try.f11 ⟨s_laws_eqIntA3S, trivial⟩ trivial
theorem p_laws_eqHeap (a0 : D_Heap) (a1 : D_Heap) : P_laws_eqHeap (a0, a1, ()) = 
  bif !decide (a0.1 = a1.1) then
    some (false, ())
  else
    bif !decide (a0.2.1 = a1.2.1) then
      some (false, ())
    else
      bif !decide (a0.2.2.1 = a1.2.2.1) then
        some (false, ())
      else
        Option.bind (P_laws_eqIntA3S (a0.2.2.2.1, a1.2.2.2.1, ())) fun r3 =>
        bif !r3.1 then
          some (false, ())
        else
          some (true, ()) := by
  rewrite [h_laws_eqHeap]
  kernel_rfl

/- 32: loop.example/g01166/laws.eqIntA2 -/
abbrev As_laws_eqIntA2 : List ATy := [.data true T_A2, .data true T_A2]
abbrev R_laws_eqIntA2 : List (Bool × Ty) := [(false, .bool)]
abbrev M_laws_eqIntA2 : List RMode := []
abbrev Ft_laws_eqIntA2 : Type := D_A2 × D_A2 × Unit → Option (Bool × Unit)
noncomputable def X_laws_eqIntA2 : Ctx := { types := TT, globals := [], con := [], keep := [(2, ⟨[.box 2, .box 3, .tmp 2, .tmp 3, .tmp 5], []⟩)], results := [.tmp 4], ntmps := 17, n := N }
noncomputable def B_laws_eqIntA2 : Code := (Try.f32.body).getD .skip
noncomputable def L_laws_eqIntA2_2 (m0 : Nat) (p0 p1 p2 p3 p4 : Int) : Option (denL R_laws_eqIntA2) := loopF X_laws_eqIntA2 B_laws_eqIntA2 R_laws_eqIntA2 M_laws_eqIntA2 2 [m0] [(.ver, .num 1), (.box 2, .box 0 false [.int .i64 p0, .int .i64 p1]), (.box 3, .box 0 false [.int .i64 p2, .int .i64 p3]), (.tmp 2, .val false [.addr 2 0 0]), (.tmp 3, .val false [.addr 3 0 0]), (.tmp 5, .val false [.int .i64 p4])]
noncomputable def P_laws_eqIntA2 : Ft_laws_eqIntA2 := hid (runF X_laws_eqIntA2 B_laws_eqIntA2 As_laws_eqIntA2 R_laws_eqIntA2 M_laws_eqIntA2)
theorem h_laws_eqIntA2 : P_laws_eqIntA2 = runF X_laws_eqIntA2 B_laws_eqIntA2 As_laws_eqIntA2 R_laws_eqIntA2 M_laws_eqIntA2 := hid_eq _
noncomputable def C_laws_eqIntA2 : Contract := ⟨As_laws_eqIntA2, R_laws_eqIntA2, M_laws_eqIntA2, P_laws_eqIntA2⟩
theorem s_laws_eqIntA2 : Sound Try.prog GG 32 C_laws_eqIntA2 := by
  unfold C_laws_eqIntA2; rw [h_laws_eqIntA2]
  exact mkS Try.f32 trivial trivial
noncomputable def l_laws_eqIntA2_2 := hid (L_laws_eqIntA2_2)
theorem h_laws_eqIntA2_2 : l_laws_eqIntA2_2 = L_laws_eqIntA2_2 := hid_eq _
theorem p_laws_eqIntA2 (a0 : D_A2) (a1 : D_A2) : P_laws_eqIntA2 (a0, a1, ()) = 
  l_laws_eqIntA2_2 N a0.1 a0.2.1 a1.1 a1.2.1 0 := by
  rewrite [h_laws_eqIntA2, h_laws_eqIntA2_2]
  kernel_rfl
theorem q_laws_eqIntA2_2 (m0 : Nat) (p0 p1 p2 p3 p4 : Int) : l_laws_eqIntA2_2 (m0 + 1) p0 p1 p2 p3 p4 = 
  bif decide (p4 < 2) then
    bif inB p4 2 then
      bif inB p4 2 then
        bif !decide ((bif decide (p4 = (0 : Int)) then p0 else p1) = (bif decide (p4 = (0 : Int)) then p2 else p3)) then
          some (false, ())
        else
          l_laws_eqIntA2_2 m0 p0 p1 p2 p3 (IntKind.wrap .i64 (p4 + 1))
      else none
    else none
  else
    some (true, ()) := by
  rewrite [h_laws_eqIntA2_2]
  kernel_rfl

/- 12: loop.example/g01166/laws.eqIntA2S -/
abbrev As_laws_eqIntA2S : List ATy := [.data false (.sl T_A2), .data false (.sl T_A2)]
abbrev R_laws_eqIntA2S : List (Bool × Ty) := [(false, .bool)]
abbrev M_laws_eqIntA2S : List RMode := []
abbrev Ft_laws_eqIntA2S : Type := (List D_A2) × (List D_A2) × Unit → Option (Bool × Unit)
noncomputable def X_laws_eqIntA2S : Ctx := { types := TT, globals := [], con := [(32, C_laws_eqIntA2)], keep := [(4, ⟨[.tmp 0, .tmp 1, .tmp 5], []⟩)], results := [.tmp 4], ntmps := 27, n := N }
noncomputable def B_laws_eqIntA2S : Code := (Try.f12.body).getD .skip
noncomputable def L_laws_eqIntA2S_4 (m0 : Nat) (p0 p1 : List D_A2) (p2 : Int) : Option (denL R_laws_eqIntA2S) := loopF X_laws_eqIntA2S B_laws_eqIntA2S R_laws_eqIntA2S M_laws_eqIntA2S 4 [m0] [(.ver, .num 1), (.tmp 0, .val false [.imm T_A2 p0 (some 0)]), (.tmp 1, .val false [.imm T_A2 p1 (some 1)]), (.tmp 5, .val false [.int .i64 p2])]
noncomputable def P_laws_eqIntA2S : Ft_laws_eqIntA2S := hid (runF X_laws_eqIntA2S B_laws_eqIntA2S As_laws_eqIntA2S R_laws_eqIntA2S M_laws_eqIntA2S)
theorem h_laws_eqIntA2S : P_laws_eqIntA2S = runF X_laws_eqIntA2S B_laws_eqIntA2S As_laws_eqIntA2S R_laws_eqIntA2S M_laws_eqIntA2S := hid_eq _
noncomputable def C_laws_eqIntA2S : Contract := ⟨As_laws_eqIntA2S, R_laws_eqIntA2S, M_laws_eqIntA2S, P_laws_eqIntA2S⟩
theorem s_laws_eqIntA2S : Sound Try.prog GG 12 C_laws_eqIntA2S := by
  unfold C_laws_eqIntA2S; rw [h_laws_eqIntA2S]
  exact mkS Try.f12 ⟨s_laws_eqIntA2, trivial⟩ trivial
noncomputable def l_laws_eqIntA2S_4 := hid (L_laws_eqIntA2S_4)
theorem h_laws_eqIntA2S_4 : l_laws_eqIntA2S_4 = L_laws_eqIntA2S_4 := hid_eq _
theorem p_laws_eqIntA2S (a0 : List D_A2) (a1 : List D_A2) : P_laws_eqIntA2S (a0, a1, ()) = 
  bif !decide ((List.length a0 : Int) = (List.length a1 : Int)) then
    some (false, ())
  else
    l_laws_eqIntA2S_4 N a0 a1 0 := by
  rewrite [h_laws_eqIntA2S, h_laws_eqIntA2S_4]
  kernel_rfl
theorem q_laws_eqIntA2S_4 (m0 : Nat) (p0 p1 : List D_A2) (p2 : Int) : l_laws_eqIntA2S_4 (m0 + 1) p0 p1 p2 = 
  bif decide (p2 < (List.length p0 : Int)) then
    bif inB p2 (List.length p0) then
      bif inB p2 (List.length p1) then
        Option.bind (P_laws_eqIntA2 ((nth T_A2 p0 p2), (nth T_A2 p1 p2), ())) fun r3 =>
        bif !r3.1 then
          some (false, ())
        else
          l_laws_eqIntA2S_4 m0 p0 p1 (IntKind.wrap .i64 (p2 + 1))
      else none
    else none
  else
    some (true, ()) := by
  rewrite [h_laws_eqIntA2S_4]
  kernel_rfl

/- 33: loop.example/g01166/laws.markIntA3S -/
abbrev As_laws_markIntA3S : List ATy := [.lrow false (.sl T_A3) [48], .data false (.int .i64)]
abbrev R_laws_markIntA3S : List (Bool × Ty) := [(false, (.int .i64))]
abbrev M_laws_markIntA3S : List RMode := []
abbrev Ft_laws_markIntA3S : Type := (List D_A3) × Int × Unit → Option ((Int × Unit) × ((List D_A3) × Unit))
noncomputable def X_laws_markIntA3S : Ctx := { types := TT, globals := [], con := [], keep := [(2, ⟨[.lent 0, .tmp 0, .tmp 1, .tmp 5], []⟩), (5, ⟨[.lent 0, .tmp 0, .tmp 1, .tmp 5, .tmp 6], []⟩)], results := [.tmp 4], ntmps := 26, n := N }
noncomputable def B_laws_markIntA3S : Code := (Try.f33.body).getD .skip
noncomputable def L_laws_markIntA3S_2 (m0 : Nat) (p0 : List D_A3) (p1 p2 : Int) : Option (denL R_laws_markIntA3S × denM As_laws_markIntA3S) := loopFM X_laws_markIntA3S B_laws_markIntA3S As_laws_markIntA3S R_laws_markIntA3S M_laws_markIntA3S 2 [m0] [(.ver, .num 1), (.lent 0, .val false [.own 48 T_A3 0 p0]), (.tmp 0, .val false [.view ⟨.lent 0, 0, 0⟩ 0]), (.tmp 1, .val false [.int .i64 p1]), (.tmp 5, .val false [.int .i64 p2])]
noncomputable def L_laws_markIntA3S_5 (m0 m1 : Nat) (p0 : List D_A3) (p1 p2 p3 : Int) : Option (denL R_laws_markIntA3S × denM As_laws_markIntA3S) := loopFM X_laws_markIntA3S B_laws_markIntA3S As_laws_markIntA3S R_laws_markIntA3S M_laws_markIntA3S 5 [m0, m1] [(.ver, .num 1), (.lent 0, .val false [.own 48 T_A3 0 p0]), (.tmp 0, .val false [.view ⟨.lent 0, 0, 0⟩ 0]), (.tmp 1, .val false [.int .i64 p1]), (.tmp 5, .val false [.int .i64 p2]), (.tmp 6, .val false [.int .i64 p3])]
noncomputable def P_laws_markIntA3S : Ft_laws_markIntA3S := hid (runFM X_laws_markIntA3S B_laws_markIntA3S As_laws_markIntA3S R_laws_markIntA3S M_laws_markIntA3S)
theorem h_laws_markIntA3S : P_laws_markIntA3S = runFM X_laws_markIntA3S B_laws_markIntA3S As_laws_markIntA3S R_laws_markIntA3S M_laws_markIntA3S := hid_eq _
noncomputable def C_laws_markIntA3S : MContract := ⟨As_laws_markIntA3S, R_laws_markIntA3S, M_laws_markIntA3S, P_laws_markIntA3S⟩
theorem s_laws_markIntA3S : SoundM Try.prog n0 GG 33 C_laws_markIntA3S := by
  unfold C_laws_markIntA3S; rw [h_laws_markIntA3S]
  exact mkSM Try.f33 trivial trivial
noncomputable def l_laws_markIntA3S_2 := hid (L_laws_markIntA3S_2)
theorem h_laws_markIntA3S_2 : l_laws_markIntA3S_2 = L_laws_markIntA3S_2 := hid_eq _
noncomputable def l_laws_markIntA3S_5 := hid (L_laws_markIntA3S_5)
theorem h_laws_markIntA3S_5 : l_laws_markIntA3S_5 = L_laws_markIntA3S_5 := hid_eq _
theorem p_laws_markIntA3S (a0 : List D_A3) (a1 : Int) : P_laws_markIntA3S (a0, a1, ()) = 
  l_laws_markIntA3S_2 N a0 a1 0 := by
  rewrite [h_laws_markIntA3S, h_laws_markIntA3S_2]
  kernel_rfl
theorem q_laws_markIntA3S_2 (m0 : Nat) (p0 : List D_A3) (p1 p2 : Int) : l_laws_markIntA3S_2 (m0 + 1) p0 p1 p2 = 
  bif decide (p2 < (List.length p0 : Int)) then
    l_laws_markIntA3S_5 m0 N p0 p1 p2 0
  else
    some ((p1, ()), (p0, ())) := by
  rewrite [h_laws_markIntA3S_2, h_laws_markIntA3S_5]
  kernel_rfl
theorem q_laws_markIntA3S_5 (m0 m1 : Nat) (p0 : List D_A3) (p1 p2 p3 : Int) : l_laws_markIntA3S_5 m0 (m1 + 1) p0 p1 p2 p3 = 
  bif decide (p3 < 3) then
    bif inB p2 (List.length p0) then
      bif inB p3 3 then
        l_laws_markIntA3S_5 m0 m1 (List.set p0 (Int.toNat p2) ((bif decide (p3 = (0 : Int)) then p1 else ((nth T_A3 p0 p2)).1), ((bif decide (p3 = (1 : Int)) then p1 else (((nth T_A3 p0 p2)).2).1), ((bif decide (p3 = (2 : Int)) then p1 else ((((nth T_A3 p0 p2)).2).2).1), ())))) (IntKind.wrap .i64 (p1 + 1)) p2 (IntKind.wrap .i64 (p3 + 1))
      else none
    else none
  else
    l_laws_markIntA3S_2 m0 p0 p1 (IntKind.wrap .i64 (p2 + 1)) := by
  rewrite [h_laws_markIntA3S_2, h_laws_markIntA3S_5]
  kernel_rfl

/- 13: loop.example/g01166/laws.markHeap -/
abbrev As_laws_markHeap : List ATy := [.lrow true T_Heap [48], .data false (.int .i64)]
abbrev R_laws_markHeap : List (Bool × Ty) := [(false, (.int .i64))]
abbrev M_laws_markHeap : List RMode := []
abbrev Ft_laws_markHeap : Type := D_Heap × Int × Unit → Option ((Int × Unit) × (D_Heap × Unit))
noncomputable def X_laws_markHeap : Ctx := { types := TT, globals := [], con := [], mcon := [(33, C_laws_markIntA3S)], keep := [], results := [.tmp 4], ntmps := 10, n := N }
noncomputable def B_laws_markHeap : Code := (Try.f13.body).getD .skip
noncomputable def P_laws_markHeap : Ft_laws_markHeap := hid (runFM X_laws_markHeap B_laws_markHeap As_laws_markHeap R_laws_markHeap M_laws_markHeap)
theorem h_laws_markHeap : P_laws_markHeap = runFM X_laws_markHeap B_laws_markHeap As_laws_markHeap R_laws_markHeap M_laws_markHeap := hid_eq _
noncomputable def C_laws_markHeap : MContract := ⟨As_laws_markHeap, R_laws_markHeap, M_laws_markHeap, P_laws_markHeap⟩
theorem s_laws_markHeap : SoundM Try.prog n0 GG 13 C_laws_markHeap := by
  unfold C_laws_markHeap; rw [h_laws_markHeap]
  exact mkSM Try.f13 trivial ⟨s_laws_markIntA3S, trivial⟩
theorem p_laws_markHeap (a0 : D_Heap) (a1 : Int) : P_laws_markHeap (a0, a1, ()) = 
  Option.bind (P_laws_markIntA3S (a0.2.2.2.1, a1, ())) fun r0 =>
  some ((r0.1.1, ()), ((0, (0, (0, (r0.2.1, ())))), ())) := by
  rewrite [h_laws_markHeap]
  kernel_rfl

/- 14: loop.example/g01166/laws.markIntA2S -/
abbrev As_laws_markIntA2S : List ATy := [.lrow false (.sl T_A2) [43], .data false (.int .i64)]
abbrev R_laws_markIntA2S : List (Bool × Ty) := [(false, (.int .i64))]
abbrev M_laws_markIntA2S : List RMode := []
abbrev Ft_laws_markIntA2S : Type := (List D_A2) × Int × Unit → Option ((Int × Unit) × ((List D_A2) × Unit))
noncomputable def X_laws_markIntA2S : Ctx := { types := TT, globals := [], con := [], keep := [(2, ⟨[.lent 0, .tmp 0, .tmp 1, .tmp 5], []⟩), (5, ⟨[.lent 0, .tmp 0, .tmp 1, .tmp 5, .tmp 6], []⟩)], results := [.tmp 4], ntmps := 26, n := N }
noncomputable def B_laws_markIntA2S : Code := (Try.f14.body).getD .skip
noncomputable def L_laws_markIntA2S_2 (m0 : Nat) (p0 : List D_A2) (p1 p2 : Int) : Option (denL R_laws_markIntA2S × denM As_laws_markIntA2S) := loopFM X_laws_markIntA2S B_laws_markIntA2S As_laws_markIntA2S R_laws_markIntA2S M_laws_markIntA2S 2 [m0] [(.ver, .num 1), (.lent 0, .val false [.own 43 T_A2 0 p0]), (.tmp 0, .val false [.view ⟨.lent 0, 0, 0⟩ 0]), (.tmp 1, .val false [.int .i64 p1]), (.tmp 5, .val false [.int .i64 p2])]
noncomputable def L_laws_markIntA2S_5 (m0 m1 : Nat) (p0 : List D_A2) (p1 p2 p3 : Int) : Option (denL R_laws_markIntA2S × denM As_laws_markIntA2S) := loopFM X_laws_markIntA2S B_laws_markIntA2S As_laws_markIntA2S R_laws_markIntA2S M_laws_markIntA2S 5 [m0, m1] [(.ver, .num 1), (.lent 0, .val false [.own 43 T_A2 0 p0]), (.tmp 0, .val false [.view ⟨.lent 0, 0, 0⟩ 0]), (.tmp 1, .val false [.int .i64 p1]), (.tmp 5, .val false [.int .i64 p2]), (.tmp 6, .val false [.int .i64 p3])]
noncomputable def P_laws_markIntA2S : Ft_laws_markIntA2S := hid (runFM X_laws_markIntA2S B_laws_markIntA2S As_laws_markIntA2S R_laws_markIntA2S M_laws_markIntA2S)
theorem h_laws_markIntA2S : P_laws_markIntA2S = runFM X_laws_markIntA2S B_laws_markIntA2S As_laws_markIntA2S R_laws_markIntA2S M_laws_markIntA2S := hid_eq _
noncomputable def C_laws_markIntA2S : MContract := ⟨As_laws_markIntA2S, R_laws_markIntA2S, M_laws_markIntA2S, P_laws_markIntA2S⟩
theorem s_laws_markIntA2S : SoundM Try.prog n0 GG 14 C_laws_markIntA2S := by
  unfold C_laws_markIntA2S; rw [h_laws_markIntA2S]
  exact mkSM Try.f14 trivial trivial
noncomputable def l_laws_markIntA2S_2 := hid (L_laws_markIntA2S_2)
theorem h_laws_markIntA2S_2 : l_laws_markIntA2S_2 = L_laws_markIntA2S_2 := hid_eq _
noncomputable def l_laws_markIntA2S_5 := hid (L_laws_markIntA2S_5)
theorem h_laws_markIntA2S_5 : l_laws_markIntA2S_5 = L_laws_markIntA2S_5 := hid_eq _
theorem p_laws_markIntA2S (a0 : List D_A2) (a1 : Int) : P_laws_markIntA2S (a0, a1, ()) = 
  l_laws_markIntA2S_2 N a0 a1 0 := by
  rewrite [h_laws_markIntA2S, h_laws_markIntA2S_2]
  kernel_rfl
theorem q_laws_markIntA2S_2 (m0 : Nat) (p0 : List D_A2) (p1 p2 : Int) : l_laws_markIntA2S_2 (m0 + 1) p0 p1 p2 = 
  bif decide (p2 < (List.length p0 : Int)) then
    l_laws_markIntA2S_5 m0 N p0 p1 p2 0
  else
    some ((p1, ()), (p0, ())) := by
  rewrite [h_laws_markIntA2S_2, h_laws_markIntA2S_5]
  kernel_rfl
theorem q_laws_markIntA2S_5 (m0 m1 : Nat) (p0 : List D_A2) (p1 p2 p3 : Int) : l_laws_markIntA2S_5 m0 (m1 + 1) p0 p1 p2 p3 = 
  bif decide (p3 < 2) then
    bif inB p2 (List.length p0) then
      bif inB p3 2 then
        l_laws_markIntA2S_5 m0 m1 (List.set p0 (Int.toNat p2) ((bif decide (p3 = (0 : Int)) then p1 else ((nth T_A2 p0 p2)).1), ((bif decide (p3 = (1 : Int)) then p1 else (((nth T_A2 p0 p2)).2).1), ()))) (IntKind.wrap .i64 (p1 + 1)) p2 (IntKind.wrap .i64 (p3 + 1))
      else none
    else none
  else
    l_laws_markIntA2S_2 m0 p0 p1 (IntKind.wrap .i64 (p2 + 1)) := by
  rewrite [h_laws_markIntA2S_2, h_laws_markIntA2S_5]
  kernel_rfl

/- 34: loop.example/g01166/laws.heldIntA3S -/
abbrev As_laws_heldIntA3S : List ATy := [.data false (.sl T_A3), .data false (.int .i64)]
abbrev R_laws_heldIntA3S : List (Bool × Ty) := [(false, (.int .i64))]
abbrev M_laws_heldIntA3S : List RMode := []
abbrev Ft_laws_heldIntA3S : Type := (List D_A3) × Int × Unit → Option (Int × Unit)
noncomputable def X_laws_heldIntA3S : Ctx := { types := TT, globals := [], con := [], keep := [(2, ⟨[.tmp 0, .tmp 1, .tmp 5], []⟩), (5, ⟨[.tmp 0, .tmp 1, .tmp 5, .tmp 6], []⟩)], results := [.tmp 4], ntmps := 28, n := N }
noncomputable def B_laws_heldIntA3S : Code := (Try.f34.body).getD .skip
noncomputable def L_laws_heldIntA3S_2 (m0 : Nat) (p0 : List D_A3) (p1 p2 : Int) : Option (denL R_laws_heldIntA3S) := loopF X_laws_heldIntA3S B_laws_heldIntA3S R_laws_heldIntA3S M_laws_heldIntA3S 2 [m0] [(.ver, .num 1), (.tmp 0, .val false [.imm T_A3 p0 (some 0)]), (.tmp 1, .val false [.int .i64 p1]), (.tmp 5, .val false [.int .i64 p2])]
noncomputable def L_laws_heldIntA3S_5 (m0 m1 : Nat) (p0 : List D_A3) (p1 p2 p3 : Int) : Option (denL R_laws_heldIntA3S) := loopF X_laws_heldIntA3S B_laws_heldIntA3S R_laws_heldIntA3S M_laws_heldIntA3S 5 [m0, m1] [(.ver, .num 1), (.tmp 0, .val false [.imm T_A3 p0 (some 0)]), (.tmp 1, .val false [.int .i64 p1]), (.tmp 5, .val false [.int .i64 p2]), (.tmp 6, .val false [.int .i64 p3])]
noncomputable def P_laws_heldIntA3S : Ft_laws_heldIntA3S := hid (runF X_laws_heldIntA3S B_laws_heldIntA3S As_laws_heldIntA3S R_laws_heldIntA3S M_laws_heldIntA3S)
theorem h_laws_heldIntA3S : P_laws_heldIntA3S = runF X_laws_heldIntA3S B_laws_heldIntA3S As_laws_heldIntA3S R_laws_heldIntA3S M_laws_heldIntA3S := hid_eq _
noncomputable def C_laws_heldIntA3S : Contract := ⟨As_laws_heldIntA3S, R_laws_heldIntA3S, M_laws_heldIntA3S, P_laws_heldIntA3S⟩
theorem s_laws_heldIntA3S : Sound Try.prog GG 34 C_laws_heldIntA3S := by
  unfold C_laws_heldIntA3S; rw [h_laws_heldIntA3S]
  exact mkS Try.f34 trivial trivial
noncomputable def l_laws_heldIntA3S_2 := hid (L_laws_heldIntA3S_2)
theorem h_laws_heldIntA3S_2 : l_laws_heldIntA3S_2 = L_laws_heldIntA3S_2 := hid_eq _
noncomputable def l_laws_heldIntA3S_5 := hid (L_laws_heldIntA3S_5)
theorem h_laws_heldIntA3S_5 : l_laws_heldIntA3S_5 = L_laws_heldIntA3S_5 := hid_eq _
theorem p_laws_heldIntA3S (a0 : List D_A3) (a1 : Int) : P_laws_heldIntA3S (a0, a1, ()) = 
  l_laws_heldIntA3S_2 N a0 a1 0 := by
  rewrite [h_laws_heldIntA3S, h_laws_heldIntA3S_2]
  kernel_rfl
theorem q_laws_heldIntA3S_2 (m0 : Nat) (p0 : List D_A3) (p1 p2 : Int) : l_laws_heldIntA3S_2 (m0 + 1) p0 p1 p2 = 
  bif decide (p2 < (List.length p0 : Int)) then
    l_laws_heldIntA3S_5 m0 N p0 p1 p2 0
  else
    some (p1, ()) := by
  rewrite [h_laws_heldIntA3S_2, h_laws_heldIntA3S_5]
  kernel_rfl
theorem q_laws_heldIntA3S_5 (m0 m1 : Nat) (p0 : List D_A3) (p1 p2 p3 : Int) : l_laws_heldIntA3S_5 m0 (m1 + 1) p0 p1 p2 p3 = 
  bif decide (p3 < 3) then
    bif inB p2 (List.length p0) then
      bif inB p3 3 then
        bif !decide ((bif decide (p3 = (0 : Int)) then ((nth T_A3 p0 p2)).1 else (bif decide (p3 = (1 : Int)) then (((nth T_A3 p0 p2)).2).1 else ((((nth T_A3 p0 p2)).2).2).1)) = p1) then
          some ((-1), ())
        else
          l_laws_heldIntA3S_5 m0 m1 p0 (IntKind.wrap .i64 (p1 + 1)) p2 (IntKind.wrap .i64 (p3 + 1))
      else none
    else none
  else
    l_laws_heldIntA3S_2 m0 p0 p1 (IntKind.wrap .i64 (p2 + 1)) := by
  rewrite [h_laws_heldIntA3S_2, h_laws_heldIntA3S_5]
  kernel_rfl

/- 16: loop.example/g01166/laws.heldIntA3SS -/
abbrev As_laws_heldIntA3SS : List ATy := [.data false (.sl (.sl T_A3)), .data false (.int .i64)]
abbrev R_laws_heldIntA3SS : List (Bool × Ty) := [(false, (.int .i64))]
abbrev M_laws_heldIntA3SS : List RMode := []
abbrev Ft_laws_heldIntA3SS : Type := (List (List D_A3)) × Int × Unit → Option (Int × Unit)
noncomputable def X_laws_heldIntA3SS : Ctx := { types := TT, globals := [], con := [(34, C_laws_heldIntA3S)], keep := [(2, ⟨[.tmp 0, .tmp 1, .tmp 5], []⟩)], results := [.tmp 4], ntmps := 21, n := N }
noncomputable def B_laws_heldIntA3SS : Code := (Try.f16.body).getD .skip
noncomputable def L_laws_heldIntA3SS_2 (m0 : Nat) (p0 : List (List D_A3)) (p1 p2 : Int) : Option (denL R_laws_heldIntA3SS) := loopF X_laws_heldIntA3SS B_laws_heldIntA3SS R_laws_heldIntA3SS M_laws_heldIntA3SS 2 [m0] [(.ver, .num 1), (.tmp 0, .val false [.imm (.sl T_A3) p0 (some 0)]), (.tmp 1, .val false [.int .i64 p1]), (.tmp 5, .val false [.int .i64 p2])]
noncomputable def P_laws_heldIntA3SS : Ft_laws_heldIntA3SS := hid (runF X_laws_heldIntA3SS B_laws_heldIntA3SS As_laws_heldIntA3SS R_laws_heldIntA3SS M_laws_heldIntA3SS)
theorem h_laws_heldIntA3SS : P_laws_heldIntA3SS = runF X_laws_heldIntA3SS B_laws_heldIntA3SS As_laws_heldIntA3SS R_laws_heldIntA3SS M_laws_heldIntA3SS := hid_eq _
noncomputable def C_laws_heldIntA3SS : Contract := ⟨As_laws_heldIntA3SS, R_laws_heldIntA3SS, M_laws_heldIntA3SS, P_laws_heldIntA3SS⟩
theorem s_laws_heldIntA3SS : Sound Try.prog GG 16 C_laws_heldIntA3SS := by
  unfold C_laws_heldIntA3SS; rw [h_laws_heldIntA3SS]
  exact mkS Try.f16 ⟨s_laws_heldIntA3S, trivial⟩ trivial
noncomputable def l_laws_heldIntA3SS_2 := hid (L_laws_heldIntA3SS_2)
theorem h_laws_heldIntA3SS_2 : l_laws_heldIntA3SS_2 = L_laws_heldIntA3SS_2 := hid_eq _
theorem p_laws_heldIntA3SS (a0 : List (List D_A3)) (a1 : Int) : P_laws_heldIntA3SS (a0, a1, ()) = 
  l_laws_heldIntA3SS_2 N a0 a1 0 := by
  rewrite [h_laws_heldIntA3SS, h_laws_heldIntA3SS_2]
  kernel_rfl
theorem q_laws_heldIntA3SS_2 (m0 : Nat) (p0 : List (List D_A3)) (p1 p2 : Int) : l_laws_heldIntA3SS_2 (m0 + 1) p0 p1 p2 = 
  bif decide (p2 < (List.length p0 : Int)) then
    bif inB p2 (List.length p0) then
      Option.bind (P_laws_heldIntA3S ((nth ((.sl T_A3) : Ty) p0 p2), p1, ())) fun r2 =>
      bif decide (r2.1 < 0) then
        some ((-1), ())
      else
        l_laws_heldIntA3SS_2 m0 p0 r2.1 (IntKind.wrap .i64 (p2 + 1))
    else none
  else
    some (p1, ()) := by
  rewrite [h_laws_heldIntA3SS_2]
  kernel_rfl
end Go.VI
