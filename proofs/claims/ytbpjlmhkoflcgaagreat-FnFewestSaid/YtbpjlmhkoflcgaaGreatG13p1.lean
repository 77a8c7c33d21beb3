/- What the functions of the seat compute, as printed by wip/tools. -/
import Derived.Test.YtbpjlmhkoflcgaaGreatViGen
import Derived.Test.YtbpjlmhkoflcgaaGreatProg
namespace Go.VI
open Go.Proofs
set_option maxRecDepth 100000
def n0 : Nat := 0
def GG : World → Prop := fun _ => True
theorem hstable : Stable n0 GG := stable_true
theorem hmix : Tryz.prog.follows .mixedOrders = true := by kernel_rfl
theorem hglob (X : Ctx) (h : X.globals = [] := by rfl) (A : Fix) (_ : A.P = Tryz.prog) (_ : A.G = GG) : GlobOK A X := globOK_none h A
abbrev T_Shadow : Ty := (.pair (.int .i64) (.pair (.int .i64) (.pair (.int .i64) (.pair (.sl (.int .i64)) (.pair (.sl (.int .i64)) (.pair (.sl (.int .i64)) .unit))))))
abbrev D_Shadow : Type := Int × Int × Int × (List Int) × (List Int) × (List Int) × Unit
abbrev T_A3 : Ty := (.pair (.int .i64) (.pair (.int .i64) (.pair (.int .i64) .unit)))
abbrev D_A3 : Type := Int × Int × Int × Unit
abbrev T_Heap : Ty := (.pair (.int .i64) (.pair (.int .i64) (.pair (.int .i64) (.pair (.sl T_A3) .unit))))
abbrev D_Heap : Type := Int × Int × Int × (List D_A3) × Unit
abbrev T_l1Cur : Ty := (.pair (.sl (.int .u8)) (.pair (.int .i64) (.pair (.int .u64) .unit)))
abbrev D_l1Cur : Type := (List Int) × Int × Int × Unit
noncomputable def TT : List (TypeId × TI) := [(3, ⟨Tryz.t3.desc, (.int .i64), false, 8, [.int .i64 0], false⟩),
  (4, ⟨Tryz.t4.desc, .bool, false, 1, [.bool false], false⟩),
  (5, ⟨Tryz.t5.desc, (.int .u8), false, 1, [.int .u8 0], false⟩),
  (22, ⟨Tryz.t22.desc, (.sl (.int .u8)), false, 24, [.nil 5 (.int .u8)], false⟩),
  (24, ⟨Tryz.t24.desc, (.sl T_A3), false, 24, [.nil 55 T_A3], false⟩),
  (26, ⟨Tryz.t25.desc, T_Heap, true, 48, [.int .i64 0, .int .i64 0, .int .i64 0, .nil 55 T_A3], false⟩),
  (33, ⟨Tryz.t33.desc, (.sl (.int .i64)), false, 24, [.nil 3 (.int .i64)], false⟩),
  (35, ⟨Tryz.t34.desc, T_Shadow, true, 96, [.int .i64 0, .int .i64 0, .int .i64 0, .nil 3 (.int .i64), .nil 3 (.int .i64), .nil 3 (.int .i64)], false⟩),
  (55, ⟨Tryz.t55.desc, T_A3, true, 24, [.int .i64 0, .int .i64 0, .int .i64 0], false⟩),
  (56, ⟨Tryz.t55.desc, T_A3, true, 24, [.int .i64 0, .int .i64 0, .int .i64 0], false⟩),
  (59, ⟨Tryz.t59.desc, (.int .u64), false, 8, [.int .u64 0], false⟩),
  (60, ⟨Tryz.t59.desc, (.int .u64), false, 8, [.int .u64 0], false⟩),
  (69, ⟨Tryz.t68.desc, T_l1Cur, true, 40, [.nil 5 (.int .u8), .int .i64 0, .int .u64 0], false⟩),
  (74, ⟨Tryz.t74.desc, (.sl (.int .u64)), false, 24, [.nil 60 (.int .u64)], false⟩),
  (81, ⟨Tryz.t81.desc, (.sl .bool), false, 24, [.nil 4 .bool], false⟩),
  (99, ⟨Tryz.t99.desc, (.pair (.sl (.int .i64)) (.pair (.sl (.int .i64)) (.pair (.sl (.int .i64)) .unit))), true, 72, [.nil 3 (.int .i64), .nil 3 (.int .i64), .nil 3 (.int .i64)], false⟩)]
theorem ttOK : allP (fun q => tiB Tryz.prog q.1 q.2) TT :=
  ⟨⟨by kernel_rfl, by kernel_rfl, by kernel_rfl, by kernel_rfl, by kernel_rfl, by kernel_rfl⟩, ⟨by kernel_rfl, by kernel_rfl, by kernel_rfl, by kernel_rfl, by kernel_rfl, by kernel_rfl⟩, ⟨by kernel_rfl, by kernel_rfl, by kernel_rfl, by kernel_rfl, by kernel_rfl, by kernel_rfl⟩, ⟨by kernel_rfl, by kernel_rfl, by kernel_rfl, by kernel_rfl, by kernel_rfl, by kernel_rfl⟩, ⟨by kernel_rfl, by kernel_rfl, by kernel_rfl, by kernel_rfl, by kernel_rfl, by kernel_rfl⟩, ⟨by kernel_rfl, by kernel_rfl, by kernel_rfl, by kernel_rfl, by kernel_rfl, by kernel_rfl⟩, ⟨by kernel_rfl, by kernel_rfl, by kernel_rfl, by kernel_rfl, by kernel_rfl, by kernel_rfl⟩, ⟨by kernel_rfl, by kernel_rfl, by kernel_rfl, by kernel_rfl, by kernel_rfl, by kernel_rfl⟩, ⟨by kernel_rfl, by kernel_rfl, by kernel_rfl, by kernel_rfl, by kernel_rfl, by kernel_rfl⟩, ⟨by kernel_rfl, by kernel_rfl, by kernel_rfl, by kernel_rfl, by kernel_rfl, by kernel_rfl⟩, ⟨by kernel_rfl, by kernel_rfl, by kernel_rfl, by kernel_rfl, by kernel_rfl, by kernel_rfl⟩, ⟨by kernel_rfl, by kernel_rfl, by kernel_rfl, by kernel_rfl, by kernel_rfl, by kernel_rfl⟩, ⟨by kernel_rfl, by kernel_rfl, by kernel_rfl, by kernel_rfl, by kernel_rfl, by kernel_rfl⟩, ⟨by kernel_rfl, by kernel_rfl, by kernel_rfl, by kernel_rfl, by kernel_rfl, by kernel_rfl⟩, ⟨by kernel_rfl, by kernel_rfl, by kernel_rfl, by kernel_rfl, by kernel_rfl, by kernel_rfl⟩, ⟨by kernel_rfl, by kernel_rfl, by kernel_rfl, by kernel_rfl, by kernel_rfl, by kernel_rfl⟩, trivial⟩
theorem mkS {f : FuncId} {c : Code} {X : Ctx} {As : List ATy} {R : List (Bool × Ty)} {M : List RMode} (fn : Func) (hc : allP (fun p => Sound Tryz.prog GG p.1 p.2) X.con) (hm : allP (fun p => SoundM Tryz.prog n0 GG p.1 p.2) X.mcon) (hT : X.types = TT := by rfl) (hg : X.globals = [] := by rfl) (hf : Tryz.prog.funcs[f]? = some fn := by kernel_rfl) (hb : fn.body = some c := by kernel_rfl) (hn : (fn.name == "runtime.NumGoroutine") = false := by kernel_rfl) (hr : X.results = fn.results.toList := by kernel_rfl) (ht : X.ntmps = fn.ntmps := by kernel_rfl) (hA : decide (As.length ≤ X.ntmps ∧ X.ntmps ≤ lentBase) = true := by kernel_rfl) : Sound Tryz.prog GG f ⟨As, R, M, runF X c As R M⟩ :=
  sound_of_run hmix hstable (tyOK_of (by rw [hT]; exact ttOK)) (hglob X hg) (conOK_of hc) (mconOK_of hm) hf hb hn hr ht (of_decide_eq_true hA)
theorem mkSM {f : FuncId} {c : Code} {X : Ctx} {As : List ATy} {R : List (Bool × Ty)} {M : List RMode} (fn : Func) (hc : allP (fun p => Sound Tryz.prog GG p.1 p.2) X.con) (hm : allP (fun p => SoundM Tryz.prog n0 GG p.1 p.2) X.mcon) (hT : X.types = TT := by rfl) (hg : X.globals = [] := by rfl) (hf : Tryz.prog.funcs[f]? = some fn := by kernel_rfl) (hb : fn.body = some c := by kernel_rfl) (hn : (fn.name == "runtime.NumGoroutine") = false := by kernel_rfl) (hr : X.results = fn.results.toList := by kernel_rfl) (ht : X.ntmps = fn.ntmps := by kernel_rfl) (hA : decide (As.length ≤ X.ntmps ∧ X.ntmps ≤ lentBase) = true := by kernel_rfl) (hR : R.length = X.results.length := by kernel_rfl) (hms : (M.all fun | .pass _ => false | _ => true) = true := by rfl) : SoundM Tryz.prog n0 GG f ⟨As, R, M, runFM X c As R M⟩ :=
  sound_of_runM hmix hstable (tyOK_of (by rw [hT]; exact ttOK)) (hglob X hg) (conOK_of hc) (mconOK_of hm) hf hb hn hr ht (of_decide_eq_true hA) hR hms
abbrev As_do : List ATy := [.data false (.sl (.int .u8))]
abbrev R_do : List (Bool × Ty) := [(false, .bool)]
abbrev M_do : List RMode := []
abbrev Ft_do : Type := (List Int) × Unit → Option (Bool × Unit)
noncomputable def X_do : Ctx := { types := TT, globals := [], con := [], keep := [], results := [.tmp 2], ntmps := 6, n := N }
noncomputable def B_do : Code := (Tryz.f5.body).getD .skip
noncomputable def P_do : Ft_do := hid (runF X_do B_do As_do R_do M_do)
theorem h_do : P_do = runF X_do B_do As_do R_do M_do := hid_eq _
noncomputable def C_do : Contract := ⟨As_do, R_do, M_do, P_do⟩
theorem s_do : Sound Tryz.prog GG 5 C_do := by
  unfold C_do; rw [h_do]
  exact mkS Tryz.f5 trivial trivial
theorem p_do (a0 : List Int) : P_do (a0, ()) =
  some (decide ((List.length a0 : Int) > 65536), ()) := by
  rewrite [h_do]
  kernel_rfl
abbrev As_bw : List ATy := [.data true T_Shadow, .data false (.int .i64)]
abbrev R_bw : List (Bool × Ty) := [(false, (.sl (.int .i64)))]
abbrev M_bw : List RMode := [.imm]
abbrev Ft_bw : Type := D_Shadow × Int × Unit → Option ((List Int) × Unit)
noncomputable def X_bw : Ctx := { types := TT, globals := [], con := [], keep := [], results := [.tmp 4], ntmps := 14, n := N }
noncomputable def B_bw : Code := (Tryz.f41.body).getD .skip
noncomputable def P_bw : Ft_bw := hid (runF X_bw B_bw As_bw R_bw M_bw)
theorem h_bw : P_bw = runF X_bw B_bw As_bw R_bw M_bw := hid_eq _
noncomputable def C_bw : Contract := ⟨As_bw, R_bw, M_bw, P_bw⟩
theorem s_bw : Sound Tryz.prog GG 41 C_bw := by
  unfold C_bw; rw [h_bw]
  exact mkS Tryz.f41 trivial trivial
theorem p_bw (a0 : D_Shadow) (a1 : Int) : P_bw (a0, a1, ()) =
  bif inB a1 3 then
    bif decide (a1 = (0 : Int)) then
      some (a0.2.2.2.2.2.1, ())
    else
      bif decide (a1 = (1 : Int)) then
        some (a0.2.2.2.2.1, ())
      else
        some (a0.2.2.2.1, ())
  else none := by
  rewrite [h_bw]
  kernel_rfl
abbrev As_ae : List ATy := [.data true T_Shadow]
abbrev R_ae : List (Bool × Ty) := [(true, T_A3)]
abbrev M_ae : List RMode := []
abbrev Ft_ae : Type := D_Shadow × Unit → Option (D_A3 × Unit)
noncomputable def X_ae : Ctx := { types := TT, globals := [], con := [], keep := [], results := [.cell 2 56], ntmps := 10, n := N }
noncomputable def B_ae : Code := (Tryz.f46.body).getD .skip
noncomputable def P_ae : Ft_ae := hid (runF X_ae B_ae As_ae R_ae M_ae)
theorem h_ae : P_ae = runF X_ae B_ae As_ae R_ae M_ae := hid_eq _
noncomputable def C_ae : Contract := ⟨As_ae, R_ae, M_ae, P_ae⟩
theorem s_ae : Sound Tryz.prog GG 46 C_ae := by
  unfold C_ae; rw [h_ae]
  exact mkS Tryz.f46 trivial trivial
theorem p_ae (a0 : D_Shadow) : P_ae (a0, ()) =
  some ((a0.1, (a0.2.1, (a0.2.2.1, ()))), ()) := by
  rewrite [h_ae]
  kernel_rfl
abbrev As_bl : List ATy := [.data false (.int .i64), .data false (.int .i64), .data false (.int .i64)]
abbrev R_bl : List (Bool × Ty) := [(false, .bool)]
abbrev M_bl : List RMode := []
abbrev Ft_bl : Type := Int × Int × Int × Unit → Option (Bool × Unit)
noncomputable def X_bl : Ctx := { types := TT, globals := [], con := [], keep := [], results := [.tmp 6], ntmps := 15, n := N }
noncomputable def B_bl : Code := (Tryz.f81.body).getD .skip
noncomputable def P_bl : Ft_bl := hid (runF X_bl B_bl As_bl R_bl M_bl)
theorem h_bl : P_bl = runF X_bl B_bl As_bl R_bl M_bl := hid_eq _
noncomputable def C_bl : Contract := ⟨As_bl, R_bl, M_bl, P_bl⟩
theorem s_bl : Sound Tryz.prog GG 81 C_bl := by
  unfold C_bl; rw [h_bl]
  exact mkS Tryz.f81 trivial trivial
theorem p_bl (a0 : Int) (a1 : Int) (a2 : Int) : P_bl (a0, a1, a2, ()) =
  bif decide (a0 ≥ a1) then
    some (decide (a0 ≤ a2), ())
  else
    some (false, ()) := by
  rewrite [h_bl]
  kernel_rfl
abbrev As_ca : List ATy := [.data true T_A3]
abbrev R_ca : List (Bool × Ty) := [(false, .bool)]
abbrev M_ca : List RMode := []
abbrev Ft_ca : Type := D_A3 × Unit → Option (Bool × Unit)
noncomputable def X_ca : Ctx := { types := TT, globals := [], con := [(81, C_bl)], keep := [], results := [.tmp 2], ntmps := 16, n := N }
noncomputable def B_ca : Code := (Tryz.f86.body).getD .skip
noncomputable def P_ca : Ft_ca := hid (runF X_ca B_ca As_ca R_ca M_ca)
theorem h_ca : P_ca = runF X_ca B_ca As_ca R_ca M_ca := hid_eq _
noncomputable def C_ca : Contract := ⟨As_ca, R_ca, M_ca, P_ca⟩
theorem s_ca : Sound Tryz.prog GG 86 C_ca := by
  unfold C_ca; rw [h_ca]
  exact mkS Tryz.f86 ⟨s_bl, trivial⟩ trivial
theorem p_ca (a0 : D_A3) : P_ca (a0, ()) =
  Option.bind (P_bl (a0.1, 1, 4, ())) fun r0 =>
  bif r0.1 then
    Option.bind (P_bl (a0.2.1, 1, 4, ())) fun r2 =>
    bif r2.1 then
      Option.bind (P_bl (a0.2.2.1, 1, 4, ())) fun r4 =>
      some (r4.1, ())
    else
      some (false, ())
  else
    some (false, ()) := by
  rewrite [h_ca]
  kernel_rfl
abbrev As_br : List ATy := [.data true T_A3]
abbrev R_br : List (Bool × Ty) := [(false, (.int .i64))]
abbrev M_br : List RMode := []
abbrev Ft_br : Type := D_A3 × Unit → Option (Int × Unit)
noncomputable def X_br : Ctx := { types := TT, globals := [], con := [], keep := [], results := [.tmp 2], ntmps := 11, n := N }
noncomputable def B_br : Code := (Tryz.f47.body).getD .skip
noncomputable def P_br : Ft_br := hid (runF X_br B_br As_br R_br M_br)
theorem h_br : P_br = runF X_br B_br As_br R_br M_br := hid_eq _
noncomputable def C_br : Contract := ⟨As_br, R_br, M_br, P_br⟩
theorem s_br : Sound Tryz.prog GG 47 C_br := by
  unfold C_br; rw [h_br]
  exact mkS Tryz.f47 trivial trivial
theorem p_br (a0 : D_A3) : P_br (a0, ()) =
  some ((IntKind.wrap .i64 ((IntKind.wrap .i64 (a0.1 * a0.2.1)) * a0.2.2.1)), ()) := by
  rewrite [h_br]
  kernel_rfl
abbrev As_cj : List ATy := [.data true T_A3, .data false (.int .i64)]
abbrev R_cj : List (Bool × Ty) := [(false, (.int .i64))]
abbrev M_cj : List RMode := []
abbrev Ft_cj : Type := D_A3 × Int × Unit → Option (Int × Unit)
noncomputable def X_cj : Ctx := { types := TT, globals := [], con := [(47, C_br)], keep := [], results := [.tmp 4], ntmps := 11, n := N }
noncomputable def B_cj : Code := (Tryz.f89.body).getD .skip
noncomputable def P_cj : Ft_cj := hid (runF X_cj B_cj As_cj R_cj M_cj)
theorem h_cj : P_cj = runF X_cj B_cj As_cj R_cj M_cj := hid_eq _
noncomputable def C_cj : Contract := ⟨As_cj, R_cj, M_cj, P_cj⟩
theorem s_cj : Sound Tryz.prog GG 89 C_cj := by
  unfold C_cj; rw [h_cj]
  exact mkS Tryz.f89 ⟨s_br, trivial⟩ trivial
theorem p_cj (a0 : D_A3) (a1 : Int) : P_cj (a0, a1, ()) =
  Option.bind (P_br (a0, ())) fun r0 =>
  bif inB a1 3 then
    bif !decide ((bif decide (a1 = (0 : Int)) then a0.1 else (bif decide (a1 = (1 : Int)) then a0.2.1 else a0.2.2.1)) = 0) then
      some ((IntKind.wrap .i64 (Int.tdiv r0.1 (bif decide (a1 = (0 : Int)) then a0.1 else (bif decide (a1 = (1 : Int)) then a0.2.1 else a0.2.2.1)))), ())
    else none
  else none := by
  rewrite [h_cj]
  kernel_rfl
abbrev As_bo : List ATy := [.data false (.sl (.int .i64)), .data false (.int .i64), .data false (.int .i64)]
abbrev R_bo : List (Bool × Ty) := [(false, .bool)]
abbrev M_bo : List RMode := []
abbrev Ft_bo : Type := (List Int) × Int × Int × Unit → Option (Bool × Unit)
noncomputable def X_bo : Ctx := { types := TT, globals := [], con := [(81, C_bl)], keep := [(2, ⟨[.tmp 1, .tmp 2, .tmp 9, .tmp 10, .tmp 11], []⟩)], results := [.tmp 6], ntmps := 21, n := N }
noncomputable def B_bo : Code := (Tryz.f90.body).getD .skip
noncomputable def L_bo_2 (m0 : Nat) (p0 p1 : Int) (p2 : List Int) (p3 p4 : Int) : Option (denL R_bo) := loopF X_bo B_bo R_bo M_bo 2 [m0] [(.ver, .num 1), (.tmp 1, .val false [.int .i64 p0]), (.tmp 2, .val false [.int .i64 p1]), (.tmp 9, .val false [.imm (.int .i64) p2 (some 0)]), (.tmp 10, .val false [.int .i64 p3]), (.tmp 11, .val false [.int .i64 p4])]
noncomputable def P_bo : Ft_bo := hid (runF X_bo B_bo As_bo R_bo M_bo)
theorem h_bo : P_bo = runF X_bo B_bo As_bo R_bo M_bo := hid_eq _
noncomputable def C_bo : Contract := ⟨As_bo, R_bo, M_bo, P_bo⟩
theorem s_bo : Sound Tryz.prog GG 90 C_bo := by
  unfold C_bo; rw [h_bo]
  exact mkS Tryz.f90 ⟨s_bl, trivial⟩ trivial
noncomputable def l_bo_2 := hid (L_bo_2)
theorem h_bo_2 : l_bo_2 = L_bo_2 := hid_eq _
theorem p_bo (a0 : List Int) (a1 : Int) (a2 : Int) : P_bo (a0, a1, a2, ()) =
  l_bo_2 N a1 a2 a0 (List.length a0 : Int) 0 := by
  rewrite [h_bo, h_bo_2]
  kernel_rfl
theorem q_bo_2 (m0 : Nat) (p0 p1 : Int) (p2 : List Int) (p3 p4 : Int) : l_bo_2 (m0 + 1) p0 p1 p2 p3 p4 =
  bif decide (p4 < p3) then
    bif inB p4 (List.length p2) then
      Option.bind (P_bl ((nth ((.int .i64) : Ty) p2 p4), p0, p1, ())) fun r2 =>
      bif !r2.1 then
        some (false, ())
      else
        l_bo_2 m0 p0 p1 p2 p3 (IntKind.wrap .i64 (p4 + 1))
    else none
  else
    some (true, ()) := by
  rewrite [h_bo_2]
  kernel_rfl
abbrev As_ao : List ATy := [.data true T_Shadow]
abbrev R_ao : List (Bool × Ty) := [(false, .bool)]
abbrev M_ao : List RMode := []
abbrev Ft_ao : Type := D_Shadow × Unit → Option (Bool × Unit)
noncomputable def X_ao : Ctx := { types := TT, globals := [], con := [(41, C_bw), (46, C_ae), (86, C_ca), (89, C_cj), (90, C_bo)], keep := [(4, ⟨[.box 1, .tmp 1, .tmp 9], []⟩)], results := [.tmp 2], ntmps := 28, n := N }
noncomputable def B_ao : Code := (Tryz.f40.body).getD .skip
noncomputable def L_ao_4 (m0 : Nat) (p0 p1 p2 : Int) (p3 p4 p5 : List Int) (p6 : Int) : Option (denL R_ao) := loopF X_ao B_ao R_ao M_ao 4 [m0] [(.ver, .num 1), (.box 1, .box 0 false [.int .i64 p0, .int .i64 p1, .int .i64 p2, .imm (.int .i64) p3 (some 3), .imm (.int .i64) p4 (some 4), .imm (.int .i64) p5 (some 5)]), (.tmp 1, .val false [.addr 1 0 0]), (.tmp 9, .val false [.int .i64 p6])]
noncomputable def P_ao : Ft_ao := hid (runF X_ao B_ao As_ao R_ao M_ao)
theorem h_ao : P_ao = runF X_ao B_ao As_ao R_ao M_ao := hid_eq _
noncomputable def C_ao : Contract := ⟨As_ao, R_ao, M_ao, P_ao⟩
theorem s_ao : Sound Tryz.prog GG 40 C_ao := by
  unfold C_ao; rw [h_ao]
  exact mkS Tryz.f40 ⟨s_bw, s_ae, s_ca, s_cj, s_bo, trivial⟩ trivial
noncomputable def l_ao_4 := hid (L_ao_4)
theorem h_ao_4 : l_ao_4 = L_ao_4 := hid_eq _
theorem p_ao (a0 : D_Shadow) : P_ao (a0, ()) =
  Option.bind (P_ae (a0, ())) fun r0 =>
  Option.bind (P_ca (r0.1, ())) fun r1 =>
  bif !r1.1 then
    some (false, ())
  else
    l_ao_4 N a0.1 a0.2.1 a0.2.2.1 a0.2.2.2.1 a0.2.2.2.2.1 a0.2.2.2.2.2.1 0 := by
  rewrite [h_ao, h_ao_4]
  kernel_rfl
theorem q_ao_4 (m0 : Nat) (p0 p1 p2 : Int) (p3 p4 p5 : List Int) (p6 : Int) : l_ao_4 (m0 + 1) p0 p1 p2 p3 p4 p5 p6 =
  bif decide (p6 < 3) then
    Option.bind (P_bw ((p0, (p1, (p2, (p3, (p4, (p5, ())))))), p6, ())) fun r1 =>
    Option.bind (P_ae ((p0, (p1, (p2, (p3, (p4, (p5, ())))))), ())) fun r2 =>
    Option.bind (P_cj (r2.1, p6, ())) fun r3 =>
    bif !decide ((List.length r1.1 : Int) = r3.1) then
      some (false, ())
    else
      Option.bind (P_bo (r1.1, 0, 1, ())) fun r5 =>
      bif !r5.1 then
        some (false, ())
      else
        l_ao_4 m0 p0 p1 p2 p3 p4 p5 (IntKind.wrap .i64 (p6 + 1))
  else
    some (true, ()) := by
  rewrite [h_ao_4]
  kernel_rfl
abbrev As_al : List ATy := [.data true T_Shadow]
abbrev R_al : List (Bool × Ty) := [(false, (.int .i64)), (false, .bool)]
abbrev M_al : List RMode := []
abbrev Ft_al : Type := D_Shadow × Unit → Option (Int × Bool × Unit)
noncomputable def X_al : Ctx := { types := TT, globals := [], con := [(40, C_ao), (41, C_bw)], keep := [(5, ⟨[.box 1, .tmp 1, .tmp 4, .tmp 12], []⟩), (9, ⟨[.box 1, .tmp 1, .tmp 4, .tmp 6, .tmp 12, .tmp 17, .tmp 18, .tmp 19], []⟩)], results := [.tmp 2, .tmp 3], ntmps := 32, n := N }
noncomputable def B_al : Code := (Tryz.f11.body).getD .skip
noncomputable def L_al_5 (m0 : Nat) (p0 p1 p2 : Int) (p3 p4 p5 : List Int) (p6 p7 : Int) : Option (denL R_al) := loopF X_al B_al R_al M_al 5 [m0] [(.ver, .num 1), (.box 1, .box 0 false [.int .i64 p0, .int .i64 p1, .int .i64 p2, .imm (.int .i64) p3 (some 3), .imm (.int .i64) p4 (some 4), .imm (.int .i64) p5 (some 5)]), (.tmp 1, .val false [.addr 1 0 0]), (.tmp 4, .val false [.int .i64 p6]), (.tmp 12, .val false [.int .i64 p7])]
noncomputable def L_al_9 (m0 m1 : Nat) (p0 p1 p2 : Int) (p3 p4 p5 : List Int) (p6 p7 p8 : Int) (p9 : List Int) (p10 p11 : Int) : Option (denL R_al) := loopF X_al B_al R_al M_al 9 [m0, m1] [(.ver, .num 1), (.box 1, .box 0 false [.int .i64 p0, .int .i64 p1, .int .i64 p2, .imm (.int .i64) p3 (some 3), .imm (.int .i64) p4 (some 4), .imm (.int .i64) p5 (some 5)]), (.tmp 1, .val false [.addr 1 0 0]), (.tmp 4, .val false [.int .i64 p6]), (.tmp 6, .val false [.int .i64 p7]), (.tmp 12, .val false [.int .i64 p8]), (.tmp 17, .val false [.imm (.int .i64) p9 none]), (.tmp 18, .val false [.int .i64 p10]), (.tmp 19, .val false [.int .i64 p11])]
noncomputable def P_al : Ft_al := hid (runF X_al B_al As_al R_al M_al)
theorem h_al : P_al = runF X_al B_al As_al R_al M_al := hid_eq _
noncomputable def C_al : Contract := ⟨As_al, R_al, M_al, P_al⟩
theorem s_al : Sound Tryz.prog GG 11 C_al := by
  unfold C_al; rw [h_al]
  exact mkS Tryz.f11 ⟨s_ao, s_bw, trivial⟩ trivial
noncomputable def l_al_5 := hid (L_al_5)
theorem h_al_5 : l_al_5 = L_al_5 := hid_eq _
noncomputable def l_al_9 := hid (L_al_9)
theorem h_al_9 : l_al_9 = L_al_9 := hid_eq _
theorem p_al (a0 : D_Shadow) : P_al (a0, ()) =
  Option.bind (P_ao (a0, ())) fun r0 =>
  bif !r0.1 then
    some (0, false, ())
  else
    l_al_5 N a0.1 a0.2.1 a0.2.2.1 a0.2.2.2.1 a0.2.2.2.2.1 a0.2.2.2.2.2.1 0 0 := by
  rewrite [h_al, h_al_5]
  kernel_rfl
theorem q_al_5 (m0 : Nat) (p0 p1 p2 : Int) (p3 p4 p5 : List Int) (p6 p7 : Int) : l_al_5 (m0 + 1) p0 p1 p2 p3 p4 p5 p6 p7 =
  bif decide (p7 < 3) then
    Option.bind (P_bw ((p0, (p1, (p2, (p3, (p4, (p5, ())))))), p7, ())) fun r1 =>
    l_al_9 m0 N p0 p1 p2 p3 p4 p5 p6 0 p7 r1.1 (List.length r1.1 : Int) 0
  else
    some (p6, true, ()) := by
  rewrite [h_al_5, h_al_9]
  kernel_rfl
theorem q_al_9 (m0 m1 : Nat) (p0 p1 p2 : Int) (p3 p4 p5 : List Int) (p6 p7 p8 : Int) (p9 : List Int) (p10 p11 : Int) : l_al_9 m0 (m1 + 1) p0 p1 p2 p3 p4 p5 p6 p7 p8 p9 p10 p11 =
  bif decide (p11 < p10) then
    bif inB p11 (List.length p9) then
      l_al_9 m0 m1 p0 p1 p2 p3 p4 p5 p6 (IntKind.wrap .i64 (p7 + (nth ((.int .i64) : Ty) p9 p11))) p8 p9 p10 (IntKind.wrap .i64 (p11 + 1))
    else none
  else
    l_al_5 m0 p0 p1 p2 p3 p4 p5 (bif decide (p7 > p6) then p7 else p6) (IntKind.wrap .i64 (p8 + 1)) := by
  rewrite [h_al_5, h_al_9]
  kernel_rfl
abbrev As_dj : List ATy := [.data false (.int .u64)]
abbrev R_dj : List (Bool × Ty) := [(false, (.int .i64))]
abbrev M_dj : List RMode := []
abbrev Ft_dj : Type := Int × Unit → Option (Int × Unit)
noncomputable def X_dj : Ctx := { types := TT, globals := [], con := [], keep := [], results := [.tmp 2], ntmps := 35, n := N }
noncomputable def B_dj : Code := (Tryz.f98.body).getD .skip
noncomputable def P_dj : Ft_dj := hid (runF X_dj B_dj As_dj R_dj M_dj)
theorem h_dj : P_dj = runF X_dj B_dj As_dj R_dj M_dj := hid_eq _
noncomputable def C_dj : Contract := ⟨As_dj, R_dj, M_dj, P_dj⟩
theorem s_dj : Sound Tryz.prog GG 98 C_dj := by
  unfold C_dj; rw [h_dj]
  exact mkS Tryz.f98 trivial trivial
theorem p_dj (a0 : Int) : P_dj (a0, ()) =
  some ((intBits .and .i64 (IntKind.wrap .i64 (IntKind.wrap .u64 ((IntKind.wrap .u64 ((IntKind.wrap .u64 ((intBits .and .u64 (IntKind.wrap .u64 ((shrI .u64 (IntKind.wrap .u64 ((intBits .and .u64 (shrI .u64 (IntKind.wrap .u64 ((intBits .and .u64 (shrI .u64 a0 1) 6148914691236517205) + (intBits .and .u64 a0 6148914691236517205))) 2) 3689348814741910323) + (intBits .and .u64 (IntKind.wrap .u64 ((intBits .and .u64 (shrI .u64 a0 1) 6148914691236517205) + (intBits .and .u64 a0 6148914691236517205))) 3689348814741910323))) 4) + (IntKind.wrap .u64 ((intBits .and .u64 (shrI .u64 (IntKind.wrap .u64 ((intBits .and .u64 (shrI .u64 a0 1) 6148914691236517205) + (intBits .and .u64 a0 6148914691236517205))) 2) 3689348814741910323) + (intBits .and .u64 (IntKind.wrap .u64 ((intBits .and .u64 (shrI .u64 a0 1) 6148914691236517205) + (intBits .and .u64 a0 6148914691236517205))) 3689348814741910323))))) 1085102592571150095) + (shrI .u64 (intBits .and .u64 (IntKind.wrap .u64 ((shrI .u64 (IntKind.wrap .u64 ((intBits .and .u64 (shrI .u64 (IntKind.wrap .u64 ((intBits .and .u64 (shrI .u64 a0 1) 6148914691236517205) + (intBits .and .u64 a0 6148914691236517205))) 2) 3689348814741910323) + (intBits .and .u64 (IntKind.wrap .u64 ((intBits .and .u64 (shrI .u64 a0 1) 6148914691236517205) + (intBits .and .u64 a0 6148914691236517205))) 3689348814741910323))) 4) + (IntKind.wrap .u64 ((intBits .and .u64 (shrI .u64 (IntKind.wrap .u64 ((intBits .and .u64 (shrI .u64 a0 1) 6148914691236517205) + (intBits .and .u64 a0 6148914691236517205))) 2) 3689348814741910323) + (intBits .and .u64 (IntKind.wrap .u64 ((intBits .and .u64 (shrI .u64 a0 1) 6148914691236517205) + (intBits .and .u64 a0 6148914691236517205))) 3689348814741910323))))) 1085102592571150095) 8))) + (shrI .u64 (IntKind.wrap .u64 ((intBits .and .u64 (IntKind.wrap .u64 ((shrI .u64 (IntKind.wrap .u64 ((intBits .and .u64 (shrI .u64 (IntKind.wrap .u64 ((intBits .and .u64 (shrI .u64 a0 1) 6148914691236517205) + (intBits .and .u64 a0 6148914691236517205))) 2) 3689348814741910323) + (intBits .and .u64 (IntKind.wrap .u64 ((intBits .and .u64 (shrI .u64 a0 1) 6148914691236517205) + (intBits .and .u64 a0 6148914691236517205))) 3689348814741910323))) 4) + (IntKind.wrap .u64 ((intBits .and .u64 (shrI .u64 (IntKind.wrap .u64 ((intBits .and .u64 (shrI .u64 a0 1) 6148914691236517205) + (intBits .and .u64 a0 6148914691236517205))) 2) 3689348814741910323) + (intBits .and .u64 (IntKind.wrap .u64 ((intBits .and .u64 (shrI .u64 a0 1) 6148914691236517205) + (intBits .and .u64 a0 6148914691236517205))) 3689348814741910323))))) 1085102592571150095) + (shrI .u64 (intBits .and .u64 (IntKind.wrap .u64 ((shrI .u64 (IntKind.wrap .u64 ((intBits .and .u64 (shrI .u64 (IntKind.wrap .u64 ((intBits .and .u64 (shrI .u64 a0 1) 6148914691236517205) + (intBits .and .u64 a0 6148914691236517205))) 2) 3689348814741910323) + (intBits .and .u64 (IntKind.wrap .u64 ((intBits .and .u64 (shrI .u64 a0 1) 6148914691236517205) + (intBits .and .u64 a0 6148914691236517205))) 3689348814741910323))) 4) + (IntKind.wrap .u64 ((intBits .and .u64 (shrI .u64 (IntKind.wrap .u64 ((intBits .and .u64 (shrI .u64 a0 1) 6148914691236517205) + (intBits .and .u64 a0 6148914691236517205))) 2) 3689348814741910323) + (intBits .and .u64 (IntKind.wrap .u64 ((intBits .and .u64 (shrI .u64 a0 1) 6148914691236517205) + (intBits .and .u64 a0 6148914691236517205))) 3689348814741910323))))) 1085102592571150095) 8))) 16))) + (shrI .u64 (IntKind.wrap .u64 ((IntKind.wrap .u64 ((intBits .and .u64 (IntKind.wrap .u64 ((shrI .u64 (IntKind.wrap .u64 ((intBits .and .u64 (shrI .u64 (IntKind.wrap .u64 ((intBits .and .u64 (shrI .u64 a0 1) 6148914691236517205) + (intBits .and .u64 a0 6148914691236517205))) 2) 3689348814741910323) + (intBits .and .u64 (IntKind.wrap .u64 ((intBits .and .u64 (shrI .u64 a0 1) 6148914691236517205) + (intBits .and .u64 a0 6148914691236517205))) 3689348814741910323))) 4) + (IntKind.wrap .u64 ((intBits .and .u64 (shrI .u64 (IntKind.wrap .u64 ((intBits .and .u64 (shrI .u64 a0 1) 6148914691236517205) + (intBits .and .u64 a0 6148914691236517205))) 2) 3689348814741910323) + (intBits .and .u64 (IntKind.wrap .u64 ((intBits .and .u64 (shrI .u64 a0 1) 6148914691236517205) + (intBits .and .u64 a0 6148914691236517205))) 3689348814741910323))))) 1085102592571150095) + (shrI .u64 (intBits .and .u64 (IntKind.wrap .u64 ((shrI .u64 (IntKind.wrap .u64 ((intBits .and .u64 (shrI .u64 (IntKind.wrap .u64 ((intBits .and .u64 (shrI .u64 a0 1) 6148914691236517205) + (intBits .and .u64 a0 6148914691236517205))) 2) 3689348814741910323) + (intBits .and .u64 (IntKind.wrap .u64 ((intBits .and .u64 (shrI .u64 a0 1) 6148914691236517205) + (intBits .and .u64 a0 6148914691236517205))) 3689348814741910323))) 4) + (IntKind.wrap .u64 ((intBits .and .u64 (shrI .u64 (IntKind.wrap .u64 ((intBits .and .u64 (shrI .u64 a0 1) 6148914691236517205) + (intBits .and .u64 a0 6148914691236517205))) 2) 3689348814741910323) + (intBits .and .u64 (IntKind.wrap .u64 ((intBits .and .u64 (shrI .u64 a0 1) 6148914691236517205) + (intBits .and .u64 a0 6148914691236517205))) 3689348814741910323))))) 1085102592571150095) 8))) + (shrI .u64 (IntKind.wrap .u64 ((intBits .and .u64 (IntKind.wrap .u64 ((shrI .u64 (IntKind.wrap .u64 ((intBits .and .u64 (shrI .u64 (IntKind.wrap .u64 ((intBits .and .u64 (shrI .u64 a0 1) 6148914691236517205) + (intBits .and .u64 a0 6148914691236517205))) 2) 3689348814741910323) + (intBits .and .u64 (IntKind.wrap .u64 ((intBits .and .u64 (shrI .u64 a0 1) 6148914691236517205) + (intBits .and .u64 a0 6148914691236517205))) 3689348814741910323))) 4) + (IntKind.wrap .u64 ((intBits .and .u64 (shrI .u64 (IntKind.wrap .u64 ((intBits .and .u64 (shrI .u64 a0 1) 6148914691236517205) + (intBits .and .u64 a0 6148914691236517205))) 2) 3689348814741910323) + (intBits .and .u64 (IntKind.wrap .u64 ((intBits .and .u64 (shrI .u64 a0 1) 6148914691236517205) + (intBits .and .u64 a0 6148914691236517205))) 3689348814741910323))))) 1085102592571150095) + (shrI .u64 (intBits .and .u64 (IntKind.wrap .u64 ((shrI .u64 (IntKind.wrap .u64 ((intBits .and .u64 (shrI .u64 (IntKind.wrap .u64 ((intBits .and .u64 (shrI .u64 a0 1) 6148914691236517205) + (intBits .and .u64 a0 6148914691236517205))) 2) 3689348814741910323) + (intBits .and .u64 (IntKind.wrap .u64 ((intBits .and .u64 (shrI .u64 a0 1) 6148914691236517205) + (intBits .and .u64 a0 6148914691236517205))) 3689348814741910323))) 4) + (IntKind.wrap .u64 ((intBits .and .u64 (shrI .u64 (IntKind.wrap .u64 ((intBits .and .u64 (shrI .u64 a0 1) 6148914691236517205) + (intBits .and .u64 a0 6148914691236517205))) 2) 3689348814741910323) + (intBits .and .u64 (IntKind.wrap .u64 ((intBits .and .u64 (shrI .u64 a0 1) 6148914691236517205) + (intBits .and .u64 a0 6148914691236517205))) 3689348814741910323))))) 1085102592571150095) 8))) 16))) 32)))) 127), ()) := by
  rewrite [h_dj]
  kernel_rfl
abbrev As_bt : List ATy := [.data false (.int .u64)]
abbrev R_bt : List (Bool × Ty) := [(false, (.int .i64))]
abbrev M_bt : List RMode := []
abbrev Ft_bt : Type := Int × Unit → Option (Int × Unit)
noncomputable def X_bt : Ctx := { types := TT, globals := [], con := [(98, C_dj)], keep := [], results := [.tmp 2], ntmps := 5, n := N }
noncomputable def B_bt : Code := (Tryz.f48.body).getD .skip
noncomputable def P_bt : Ft_bt := hid (runF X_bt B_bt As_bt R_bt M_bt)
theorem h_bt : P_bt = runF X_bt B_bt As_bt R_bt M_bt := hid_eq _
noncomputable def C_bt : Contract := ⟨As_bt, R_bt, M_bt, P_bt⟩
theorem s_bt : Sound Tryz.prog GG 48 C_bt := by
  unfold C_bt; rw [h_bt]
  exact mkS Tryz.f48 ⟨s_dj, trivial⟩ trivial
theorem p_bt (a0 : Int) : P_bt (a0, ()) =
  Option.bind (P_dj (a0, ())) fun r0 =>
  some (r0.1, ()) := by
  rewrite [h_bt]
  kernel_rfl
abbrev As_ac : List ATy := [.data false (.sl (.int .u64)), .data false (.int .u64), .data false (.int .u64), .data false (.int .i64)]
abbrev R_ac : List (Bool × Ty) := [(false, .bool)]
abbrev M_ac : List RMode := []
abbrev Ft_ac : Type := (List Int) × Int × Int × Int × Unit → Option (Bool × Unit)
noncomputable def X_ac (F_ac : Ft_ac) : Ctx := { types := TT, globals := [], con := [(48, C_bt), (50, ⟨As_ac, R_ac, M_ac, F_ac⟩)], keep := [(3, ⟨[.tmp 0, .tmp 1, .tmp 2, .tmp 3, .tmp 9, .tmp 10, .tmp 11, .tmp 12, .tmp 17, .tmp 18, .tmp 19], []⟩), (19, ⟨[.tmp 0, .tmp 1, .tmp 2, .tmp 3, .tmp 9], []⟩)], results := [.tmp 8], ntmps := 77, n := N }
noncomputable def B_ac : Code := (Tryz.f50.body).getD .skip
noncomputable def L_ac_3 (F_ac : Ft_ac) (m0 : Nat) (p0 : List Int) (p1 p2 p3 p4 : Int) (p5 : Bool) (p6 p7 : Int) (p8 : List Int) (p9 p10 : Int) : Option (denL R_ac) := loopF (X_ac F_ac) B_ac R_ac M_ac 3 [m0] [(.ver, .num 1), (.tmp 0, .val false [.imm (.int .u64) p0 (some 0)]), (.tmp 1, .val false [.int .u64 p1]), (.tmp 2, .val false [.int .u64 p2]), (.tmp 3, .val false [.int .i64 p3]), (.tmp 9, .val false [.int .u64 p4]), (.tmp 10, .val false [.bool p5]), (.tmp 11, .val false [.int .i64 p6]), (.tmp 12, .val false [.int .u64 p7]), (.tmp 17, .val false [.imm (.int .u64) p8 (some 0)]), (.tmp 18, .val false [.int .i64 p9]), (.tmp 19, .val false [.int .i64 p10])]
noncomputable def L_ac_19 (F_ac : Ft_ac) (m0 : Nat) (p0 : List Int) (p1 p2 p3 p4 : Int) : Option (denL R_ac) := loopF (X_ac F_ac) B_ac R_ac M_ac 19 [m0] [(.ver, .num 1), (.tmp 0, .val false [.imm (.int .u64) p0 (some 0)]), (.tmp 1, .val false [.int .u64 p1]), (.tmp 2, .val false [.int .u64 p2]), (.tmp 3, .val false [.int .i64 p3]), (.tmp 9, .val false [.int .u64 p4])]
noncomputable def Pk_ac : Nat → Ft_ac
  | 0 => fun _ => none
  | k + 1 => runF (X_ac (Pk_ac k)) B_ac As_ac R_ac M_ac
theorem sk_ac : ∀ k, Sound Tryz.prog GG 50 ⟨As_ac, R_ac, M_ac, Pk_ac k⟩
  | 0 => sound_none
  | k + 1 => by
    have ih := sk_ac k
    exact mkS Tryz.f50 ⟨s_bt, ih, trivial⟩ trivial
noncomputable def P_ac : Ft_ac := Pk_ac N
noncomputable def C_ac : Contract := ⟨As_ac, R_ac, M_ac, P_ac⟩
theorem s_ac : Sound Tryz.prog GG 50 C_ac := sk_ac N
noncomputable def l_ac_3 := hid (fun k => L_ac_3 (Pk_ac k))
theorem h_ac_3 : l_ac_3 = fun k => L_ac_3 (Pk_ac k) := hid_eq _
noncomputable def l_ac_19 := hid (fun k => L_ac_19 (Pk_ac k))
theorem h_ac_19 : l_ac_19 = fun k => L_ac_19 (Pk_ac k) := hid_eq _
theorem p_ac (k : Nat) (a0 : List Int) (a1 : Int) (a2 : Int) (a3 : Int) : Pk_ac (k + 1) (a0, a1, a2, a3, ()) =
  l_ac_3 k N a0 a1 a2 a3 0 false 0 0 a0 (List.length a0 : Int) 0 := by
  rewrite [h_ac_3]
  kernel_rfl
theorem q_ac_3 (k : Nat) (m0 : Nat) (p0 : List Int) (p1 p2 p3 p4 : Int) (p5 : Bool) (p6 p7 : Int) (p8 : List Int) (p9 p10 : Int) : l_ac_3 k (m0 + 1) p0 p1 p2 p3 p4 p5 p6 p7 p8 p9 p10 =
  bif decide (p10 < p9) then
    bif inB p10 (List.length p8) then
      bif !decide ((intBits .and .u64 (nth ((.int .u64) : Ty) p8 p10) p1) = 0) then
        l_ac_3 k m0 p0 p1 p2 p3 p4 p5 p6 p7 p8 p9 (IntKind.wrap .i64 (p10 + 1))
      else
        bif decide ((intBits .andNot .u64 (nth ((.int .u64) : Ty) p8 p10) p2) = 0) then
          some (false, ())
        else
          bif !p5 then
            bif decide ((intBits .and .u64 (intBits .andNot .u64 (nth ((.int .u64) : Ty) p8 p10) p2) p7) = 0) then
              l_ac_3 k m0 p0 p1 p2 p3 (intBits .andNot .u64 (nth ((.int .u64) : Ty) p8 p10) p2) true (IntKind.wrap .i64 (p6 + 1)) (intBits .or .u64 p7 (intBits .andNot .u64 (nth ((.int .u64) : Ty) p8 p10) p2)) p8 p9 (IntKind.wrap .i64 (p10 + 1))
            else
              l_ac_3 k m0 p0 p1 p2 p3 (intBits .andNot .u64 (nth ((.int .u64) : Ty) p8 p10) p2) true p6 p7 p8 p9 (IntKind.wrap .i64 (p10 + 1))
          else
            Option.bind (P_bt ((intBits .andNot .u64 (nth ((.int .u64) : Ty) p8 p10) p2), ())) fun r5 =>
            Option.bind (P_bt (p4, ())) fun r6 =>
            bif decide (r5.1 < r6.1) then
              bif decide ((intBits .and .u64 (intBits .andNot .u64 (nth ((.int .u64) : Ty) p8 p10) p2) p7) = 0) then
                l_ac_3 k m0 p0 p1 p2 p3 (intBits .andNot .u64 (nth ((.int .u64) : Ty) p8 p10) p2) true (IntKind.wrap .i64 (p6 + 1)) (intBits .or .u64 p7 (intBits .andNot .u64 (nth ((.int .u64) : Ty) p8 p10) p2)) p8 p9 (IntKind.wrap .i64 (p10 + 1))
              else
                l_ac_3 k m0 p0 p1 p2 p3 (intBits .andNot .u64 (nth ((.int .u64) : Ty) p8 p10) p2) true p6 p7 p8 p9 (IntKind.wrap .i64 (p10 + 1))
            else
              bif decide ((intBits .and .u64 (intBits .andNot .u64 (nth ((.int .u64) : Ty) p8 p10) p2) p7) = 0) then
                l_ac_3 k m0 p0 p1 p2 p3 p4 p5 (IntKind.wrap .i64 (p6 + 1)) (intBits .or .u64 p7 (intBits .andNot .u64 (nth ((.int .u64) : Ty) p8 p10) p2)) p8 p9 (IntKind.wrap .i64 (p10 + 1))
              else
                l_ac_3 k m0 p0 p1 p2 p3 p4 p5 p6 p7 p8 p9 (IntKind.wrap .i64 (p10 + 1))
    else none
  else
    bif !p5 then
      some (true, ())
    else
      bif decide (p6 > p3) then
        some (false, ())
      else
        l_ac_19 k N p0 p1 p2 p3 p4 := by
  rewrite [h_ac_3, h_ac_19]
  kernel_rfl
theorem q_ac_19 (k : Nat) (m0 : Nat) (p0 : List Int) (p1 p2 p3 p4 : Int) : l_ac_19 k (m0 + 1) p0 p1 p2 p3 p4 =
  bif !decide (p4 = 0) then
    Option.bind (Pk_ac k (p0, (intBits .or .u64 p1 (intBits .and .u64 p4 (IntKind.wrap .u64 (0 - p4)))), p2, (IntKind.wrap .i64 (p3 - 1)), ())) fun r1 =>
    bif r1.1 then
      some (true, ())
    else
      l_ac_19 k m0 p0 p1 (intBits .or .u64 p2 (intBits .and .u64 p4 (IntKind.wrap .u64 (0 - p4)))) p3 (intBits .andNot .u64 p4 (intBits .and .u64 p4 (IntKind.wrap .u64 (0 - p4))))
  else
    some (false, ()) := by
  rewrite [h_ac_19]
  kernel_rfl
abbrev As_b2 : List ATy := [.data true T_A3, .data false (.int .i64)]
abbrev R_b2 : List (Bool × Ty) := [(true, T_A3)]
abbrev M_b2 : List RMode := []
abbrev Ft_b2 : Type := D_A3 × Int × Unit → Option (D_A3 × Unit)
noncomputable def X_b2 : Ctx := { types := TT, globals := [], con := [], keep := [], results := [.cell 4 55], ntmps := 24, n := N }
noncomputable def B_b2 : Code := (Tryz.f64.body).getD .skip
noncomputable def P_b2 : Ft_b2 := hid (runF X_b2 B_b2 As_b2 R_b2 M_b2)
theorem h_b2 : P_b2 = runF X_b2 B_b2 As_b2 R_b2 M_b2 := hid_eq _
noncomputable def C_b2 : Contract := ⟨As_b2, R_b2, M_b2, P_b2⟩
theorem s_b2 : Sound Tryz.prog GG 64 C_b2 := by
  unfold C_b2; rw [h_b2]
  exact mkS Tryz.f64 trivial trivial
theorem p_b2 (a0 : D_A3) (a1 : Int) : P_b2 (a0, a1, ()) =
  bif !decide (a0.2.2.1 = 0) then
    bif !decide (a0.2.1 = 0) then
      bif !decide (a0.2.2.1 = 0) then
        bif !decide (a0.2.1 = 0) then
          bif !decide (a0.2.2.1 = 0) then
            some (((IntKind.wrap .i64 (Int.tdiv (IntKind.wrap .i64 (Int.tdiv a1 a0.2.2.1)) a0.2.1)), ((Int.tmod (IntKind.wrap .i64 (Int.tdiv a1 a0.2.2.1)) a0.2.1), ((Int.tmod a1 a0.2.2.1), ()))), ())
          else none
        else none
      else none
    else none
  else none := by
  rewrite [h_b2]
  kernel_rfl
abbrev As_az : List ATy := [.data true T_A3, .clo [(true, T_A3)] [(false, .bool)]]
abbrev R_az : List (Bool × Ty) := [(false, (.int .u64))]
abbrev M_az : List RMode := []
abbrev Ft_az : Type := D_A3 × ((D_A3 × Unit) → Option (Bool × Unit)) × Unit → Option (Int × Unit)
noncomputable def X_az : Ctx := { types := TT, globals := [], con := [(47, C_br), (64, C_b2)], keep := [(3, ⟨[.box 2, .tmp 1, .tmp 2, .tmp 5, .tmp 8, .tmp 9], []⟩)], results := [.tmp 4], ntmps := 23, n := N }
noncomputable def B_az : Code := (Tryz.f99.body).getD .skip
noncomputable def L_az_3 (m0 : Nat) (p0 p1 p2 : Int) (p3 : (D_A3 × Unit) → Option (Bool × Unit)) (p4 p5 p6 : Int) : Option (denL R_az) := loopF X_az B_az R_az M_az 3 [m0] [(.ver, .num 1), (.box 2, .box 0 false [.int .i64 p0, .int .i64 p1, .int .i64 p2]), (.tmp 1, .val false [.clo [(true, T_A3)] [(false, .bool)] p3]), (.tmp 2, .val false [.addr 2 0 0]), (.tmp 5, .val false [.int .u64 p4]), (.tmp 8, .val false [.int .i64 p5]), (.tmp 9, .val false [.int .i64 p6])]
noncomputable def P_az : Ft_az := hid (runF X_az B_az As_az R_az M_az)
theorem h_az : P_az = runF X_az B_az As_az R_az M_az := hid_eq _
noncomputable def C_az : Contract := ⟨As_az, R_az, M_az, P_az⟩
theorem s_az : Sound Tryz.prog GG 99 C_az := by
  unfold C_az; rw [h_az]
  exact mkS Tryz.f99 ⟨s_br, s_b2, trivial⟩ trivial
noncomputable def l_az_3 := hid (L_az_3)
theorem h_az_3 : l_az_3 = L_az_3 := hid_eq _
theorem p_az (a0 : D_A3) (a1 : (D_A3 × Unit) → Option (Bool × Unit)) : P_az (a0, a1, ()) =
  Option.bind (P_br (a0, ())) fun r0 =>
  l_az_3 N a0.1 a0.2.1 a0.2.2.1 a1 0 r0.1 0 := by
  rewrite [h_az, h_az_3]
  kernel_rfl
theorem q_az_3 (m0 : Nat) (p0 p1 p2 : Int) (p3 : (D_A3 × Unit) → Option (Bool × Unit)) (p4 p5 p6 : Int) : l_az_3 (m0 + 1) p0 p1 p2 p3 p4 p5 p6 =
  bif decide (p6 < p5) then
    Option.bind (P_b2 ((p0, (p1, (p2, ()))), p6, ())) fun r1 =>
    Option.bind (p3 (r1.1, ())) fun r2 =>
    bif r2.1 then
      bif decide ((0 : Int) ≤ p6) then
        l_az_3 m0 p0 p1 p2 p3 (intBits .or .u64 p4 (shlI .u64 1 p6)) p5 (IntKind.wrap .i64 (p6 + 1))
      else none
    else
      l_az_3 m0 p0 p1 p2 p3 p4 p5 (IntKind.wrap .i64 (p6 + 1))
  else
    some (p4, ()) := by
  rewrite [h_az_3]
  kernel_rfl
abbrev As_c2 : List ATy := [.data false (.int .i64)]
abbrev R_c2 : List (Bool × Ty) := [(false, (.int .i64)), (false, (.int .i64))]
abbrev M_c2 : List RMode := []
abbrev Ft_c2 : Type := Int × Unit → Option (Int × Int × Unit)
noncomputable def X_c2 : Ctx := { types := TT, globals := [], con := [], keep := [], results := [.tmp 2, .tmp 3], ntmps := 9, n := N }
noncomputable def B_c2 : Code := (Tryz.f110.body).getD .skip
noncomputable def P_c2 : Ft_c2 := hid (runF X_c2 B_c2 As_c2 R_c2 M_c2)
theorem h_c2 : P_c2 = runF X_c2 B_c2 As_c2 R_c2 M_c2 := hid_eq _
noncomputable def C_c2 : Contract := ⟨As_c2, R_c2, M_c2, P_c2⟩
theorem s_c2 : Sound Tryz.prog GG 110 C_c2 := by
  unfold C_c2; rw [h_c2]
  exact mkS Tryz.f110 trivial trivial
theorem p_c2 (a0 : Int) : P_c2 (a0, ()) =
  bif decide (a0 = 0) then
    some (1, 2, ())
  else
    bif decide (a0 = 1) then
      some (0, 2, ())
    else
      some (0, 1, ()) := by
  rewrite [h_c2]
  kernel_rfl
abbrev As_a1 : List ATy := [.data true T_A3, .data true T_A3, .data false (.int .i64)]
abbrev R_a1 : List (Bool × Ty) := [(false, (.int .i64))]
abbrev M_a1 : List RMode := []
abbrev Ft_a1 : Type := D_A3 × D_A3 × Int × Unit → Option (Int × Unit)
noncomputable def X_a1 : Ctx := { types := TT, globals := [], con := [(110, C_c2)], keep := [], results := [.tmp 6], ntmps := 25, n := N }
noncomputable def B_a1 : Code := (Tryz.f65.body).getD .skip
noncomputable def P_a1 : Ft_a1 := hid (runF X_a1 B_a1 As_a1 R_a1 M_a1)
theorem h_a1 : P_a1 = runF X_a1 B_a1 As_a1 R_a1 M_a1 := hid_eq _
noncomputable def C_a1 : Contract := ⟨As_a1, R_a1, M_a1, P_a1⟩
theorem s_a1 : Sound Tryz.prog GG 65 C_a1 := by
  unfold C_a1; rw [h_a1]
  exact mkS Tryz.f65 ⟨s_c2, trivial⟩ trivial
theorem p_a1 (a0 : D_A3) (a1 : D_A3) (a2 : Int) : P_a1 (a0, a1, a2, ()) =
  Option.bind (P_c2 (a2, ())) fun r0 =>
  bif inB r0.1 3 then
    bif inB r0.2.1 3 then
      bif inB r0.2.1 3 then
        some ((IntKind.wrap .i64 ((IntKind.wrap .i64 ((bif decide (r0.1 = (0 : Int)) then a1.1 else (bif decide (r0.1 = (1 : Int)) then a1.2.1 else a1.2.2.1)) * (bif decide (r0.2.1 = (0 : Int)) then a0.1 else (bif decide (r0.2.1 = (1 : Int)) then a0.2.1 else a0.2.2.1)))) + (bif decide (r0.2.1 = (0 : Int)) then a1.1 else (bif decide (r0.2.1 = (1 : Int)) then a1.2.1 else a1.2.2.1)))), ())
      else none
    else none
  else none := by
  rewrite [h_a1]
  kernel_rfl
abbrev As_bb : List ATy := [.data true T_A3, .ptr T_Shadow]
abbrev R_bb : List (Bool × Ty) := [(false, .bool)]
abbrev M_bb : List RMode := []
abbrev Ft_bb : Type := D_A3 × D_Shadow × Unit → Option (Bool × Unit)
noncomputable def X_bb : Ctx := { types := TT, globals := [], con := [(41, C_bw), (46, C_ae), (65, C_a1)], keep := [(2, ⟨[.box 2, .tmp 1, .tmp 2, .tmp 5], []⟩)], results := [.tmp 3], ntmps := 20, n := N }
noncomputable def B_bb : Code := (Tryz.f100.body).getD .skip
noncomputable def L_bb_2 (m0 : Nat) (p0 p1 p2 : Int) (p3 : D_Shadow) (p4 : Int) : Option (denL R_bb) := loopF X_bb B_bb R_bb M_bb 2 [m0] [(.ver, .num 1), (.box 2, .box 0 false [.int .i64 p0, .int .i64 p1, .int .i64 p2]), (.tmp 1, .val false [.iptr T_Shadow p3 0]), (.tmp 2, .val false [.addr 2 0 0]), (.tmp 5, .val false [.int .i64 p4])]
noncomputable def P_bb : Ft_bb := hid (runF X_bb B_bb As_bb R_bb M_bb)
theorem h_bb : P_bb = runF X_bb B_bb As_bb R_bb M_bb := hid_eq _
noncomputable def C_bb : Contract := ⟨As_bb, R_bb, M_bb, P_bb⟩
theorem s_bb : Sound Tryz.prog GG 100 C_bb := by
  unfold C_bb; rw [h_bb]
  exact mkS Tryz.f100 ⟨s_bw, s_ae, s_a1, trivial⟩ trivial
noncomputable def l_bb_2 := hid (L_bb_2)
theorem h_bb_2 : l_bb_2 = L_bb_2 := hid_eq _
theorem p_bb (a0 : D_A3) (a1 : D_Shadow) : P_bb (a0, a1, ()) =
  l_bb_2 N a0.1 a0.2.1 a0.2.2.1 a1 0 := by
  rewrite [h_bb, h_bb_2]
  kernel_rfl
theorem q_bb_2 (m0 : Nat) (p0 p1 p2 : Int) (p3 : D_Shadow) (p4 : Int) : l_bb_2 (m0 + 1) p0 p1 p2 p3 p4 =
  bif decide (p4 < 3) then
    Option.bind (P_bw (p3, p4, ())) fun r1 =>
    Option.bind (P_ae (p3, ())) fun r2 =>
    Option.bind (P_a1 (r2.1, (p0, (p1, (p2, ()))), p4, ())) fun r3 =>
    bif inB r3.1 (List.length r1.1) then
      bif decide ((nth ((.int .i64) : Ty) r1.1 r3.1) = 0) then
        some (false, ())
      else
        l_bb_2 m0 p0 p1 p2 p3 (IntKind.wrap .i64 (p4 + 1))
    else none
  else
    some (true, ()) := by
  rewrite [h_bb_2]
  kernel_rfl
abbrev As_bs : List ATy := [.data true T_Shadow]
abbrev R_bs : List (Bool × Ty) := [(false, (.int .u64))]
abbrev M_bs : List RMode := []
abbrev Ft_bs : Type := D_Shadow × Unit → Option (Int × Unit)
noncomputable def X_bs : Ctx := { types := TT, globals := [], con := [(46, C_ae), (99, C_az), (100, C_bb)], keep := [], results := [.tmp 2], ntmps := 7, n := N }
noncomputable def B_bs : Code := (Tryz.f49.body).getD .skip
noncomputable def P_bs : Ft_bs := hid (runF X_bs B_bs As_bs R_bs M_bs)
theorem h_bs : P_bs = runF X_bs B_bs As_bs R_bs M_bs := hid_eq _
noncomputable def C_bs : Contract := ⟨As_bs, R_bs, M_bs, P_bs⟩
theorem s_bs : Sound Tryz.prog GG 49 C_bs := by
  unfold C_bs; rw [h_bs]
  exact mkS Tryz.f49 ⟨s_ae, s_az, s_bb, trivial⟩ trivial
theorem p_bs (a0 : D_Shadow) : P_bs (a0, ()) =
  Option.bind (P_ae (a0, ())) fun r0 =>
  Option.bind (P_az (r0.1, (fun (y : D_A3 × Unit) => P_bb (y.1, a0, ())), ())) fun r1 =>
  some (r1.1, ()) := by
  rewrite [h_bs]
  kernel_rfl
abbrev As_cy : List ATy := [.data true T_A3, .ptr T_Shadow, .ptr (.int .i64), .ptr (.int .i64)]
abbrev R_cy : List (Bool × Ty) := [(false, .bool)]
abbrev M_cy : List RMode := []
abbrev Ft_cy : Type := D_A3 × D_Shadow × Int × Int × Unit → Option (Bool × Unit)
noncomputable def X_cy : Ctx := { types := TT, globals := [], con := [(46, C_ae), (65, C_a1)], keep := [], results := [.tmp 5], ntmps := 13, n := N }
noncomputable def B_cy : Code := (Tryz.f101.body).getD .skip
noncomputable def P_cy : Ft_cy := hid (runF X_cy B_cy As_cy R_cy M_cy)
theorem h_cy : P_cy = runF X_cy B_cy As_cy R_cy M_cy := hid_eq _
noncomputable def C_cy : Contract := ⟨As_cy, R_cy, M_cy, P_cy⟩
theorem s_cy : Sound Tryz.prog GG 101 C_cy := by
  unfold C_cy; rw [h_cy]
  exact mkS Tryz.f101 ⟨s_ae, s_a1, trivial⟩ trivial
theorem p_cy (a0 : D_A3) (a1 : D_Shadow) (a2 : Int) (a3 : Int) : P_cy (a0, a1, a2, a3, ()) =
  Option.bind (P_ae (a1, ())) fun r0 =>
  Option.bind (P_a1 (r0.1, a0, a2, ())) fun r1 =>
  some (decide (r1.1 = a3), ()) := by
  rewrite [h_cy]
  kernel_rfl
abbrev As_ab : List ATy := [.data true T_Shadow]
abbrev R_ab : List (Bool × Ty) := [(false, (.sl (.int .u64)))]
abbrev M_ab : List RMode := [.own 60]
abbrev Ft_ab : Type := D_Shadow × Unit → Option ((List Int) × Unit)
noncomputable def X_ab : Ctx := { types := TT, globals := [], con := [(41, C_bw), (46, C_ae), (49, C_bs), (99, C_az), (101, C_cy)], keep := [(3, ⟨[.box 1, .tmp 1, .tmp 3, .tmp 4, .tmp 11], [.box 1]⟩), (6, ⟨[.box 1, .box 5, .tmp 1, .tmp 3, .tmp 4, .tmp 5, .tmp 11, .tmp 16, .tmp 17, .tmp 18], [.box 1, .box 5]⟩)], results := [.tmp 2], ntmps := 37, n := N }
noncomputable def B_ab : Code := (Tryz.f51.body).getD .skip
noncomputable def L_ab_3 (m0 : Nat) (p0 p1 p2 : Int) (p3 p4 p5 p6 : List Int) (p7 p8 : Int) : Option (denL R_ab) := loopF X_ab B_ab R_ab M_ab 3 [m0] [(.ver, .num 1), (.box 1, .box 0 false [.int .i64 p0, .int .i64 p1, .int .i64 p2, .imm (.int .i64) p3 none, .imm (.int .i64) p4 none, .imm (.int .i64) p5 none]), (.tmp 1, .val false [.addr 1 0 0]), (.tmp 3, .val false [.own 60 (.int .u64) 0 p6]), (.tmp 4, .val false [.int .u64 p7]), (.tmp 11, .val false [.int .i64 p8])]
noncomputable def L_ab_6 (m0 m1 : Nat) (p0 p1 p2 : Int) (p3 p4 p5 : List Int) (p6 : Int) (p7 : List Int) (p8 p9 : Int) (p10 : List Int) (p11 p12 : Int) : Option (denL R_ab) := loopF X_ab B_ab R_ab M_ab 6 [m0, m1] [(.ver, .num 1), (.box 1, .box 0 false [.int .i64 p0, .int .i64 p1, .int .i64 p2, .imm (.int .i64) p3 none, .imm (.int .i64) p4 none, .imm (.int .i64) p5 none]), (.box 5, .box 0 true [.int .i64 p6]), (.tmp 1, .val false [.addr 1 0 0]), (.tmp 3, .val false [.own 60 (.int .u64) 0 p7]), (.tmp 4, .val false [.int .u64 p8]), (.tmp 5, .val false [.addr 5 0 0]), (.tmp 11, .val false [.int .i64 p9]), (.tmp 16, .val false [.imm (.int .i64) p10 none]), (.tmp 17, .val false [.int .i64 p11]), (.tmp 18, .val false [.int .i64 p12])]
noncomputable def L_ab_1006 (m0 m1 : Nat) (p0 p1 p2 : Int) (p3 p4 p5 : List Int) (p6 : Int) (p7 : List Int) (p8 p9 : Int) (p10 : List Int) (p11 p12 : Int) : Option (denL R_ab) := loopF X_ab B_ab R_ab M_ab 6 [m0, m1] [(.ver, .num 1), (.box 1, .box 0 true [.int .i64 p0, .int .i64 p1, .int .i64 p2, .imm (.int .i64) p3 none, .imm (.int .i64) p4 none, .imm (.int .i64) p5 none]), (.box 5, .box 0 true [.int .i64 p6]), (.tmp 1, .val false [.addr 1 0 0]), (.tmp 3, .val false [.own 60 (.int .u64) 0 p7]), (.tmp 4, .val false [.int .u64 p8]), (.tmp 5, .val false [.addr 5 0 0]), (.tmp 11, .val false [.int .i64 p9]), (.tmp 16, .val false [.imm (.int .i64) p10 none]), (.tmp 17, .val false [.int .i64 p11]), (.tmp 18, .val false [.int .i64 p12])]
noncomputable def L_ab_1003 (m0 : Nat) (p0 p1 p2 : Int) (p3 p4 p5 p6 : List Int) (p7 p8 : Int) : Option (denL R_ab) := loopF X_ab B_ab R_ab M_ab 3 [m0] [(.ver, .num 1), (.box 1, .box 0 true [.int .i64 p0, .int .i64 p1, .int .i64 p2, .imm (.int .i64) p3 none, .imm (.int .i64) p4 none, .imm (.int .i64) p5 none]), (.tmp 1, .val false [.addr 1 0 0]), (.tmp 3, .val false [.own 60 (.int .u64) 0 p6]), (.tmp 4, .val false [.int .u64 p7]), (.tmp 11, .val false [.int .i64 p8])]
noncomputable def P_ab : Ft_ab := hid (runF X_ab B_ab As_ab R_ab M_ab)
theorem h_ab : P_ab = runF X_ab B_ab As_ab R_ab M_ab := hid_eq _
noncomputable def C_ab : Contract := ⟨As_ab, R_ab, M_ab, P_ab⟩
theorem s_ab : Sound Tryz.prog GG 51 C_ab := by
  unfold C_ab; rw [h_ab]
  exact mkS Tryz.f51 ⟨s_bw, s_ae, s_bs, s_az, s_cy, trivial⟩ trivial
noncomputable def l_ab_3 := hid (L_ab_3)
theorem h_ab_3 : l_ab_3 = L_ab_3 := hid_eq _
noncomputable def l_ab_6 := hid (L_ab_6)
theorem h_ab_6 : l_ab_6 = L_ab_6 := hid_eq _
noncomputable def l_ab_1006 := hid (L_ab_1006)
theorem h_ab_1006 : l_ab_1006 = L_ab_1006 := hid_eq _
noncomputable def l_ab_1003 := hid (L_ab_1003)
theorem h_ab_1003 : l_ab_1003 = L_ab_1003 := hid_eq _
theorem p_ab (a0 : D_Shadow) : P_ab (a0, ()) =
  Option.bind (P_bs (a0, ())) fun r0 =>
  l_ab_3 N a0.1 a0.2.1 a0.2.2.1 a0.2.2.2.1 a0.2.2.2.2.1 a0.2.2.2.2.2.1 ([] : List Int) r0.1 0 := by
  rewrite [h_ab, h_ab_3]
  kernel_rfl
theorem q_ab_3 (m0 : Nat) (p0 p1 p2 : Int) (p3 p4 p5 p6 : List Int) (p7 p8 : Int) : l_ab_3 (m0 + 1) p0 p1 p2 p3 p4 p5 p6 p7 p8 =
  bif decide (p8 < 3) then
    Option.bind (P_bw ((p0, (p1, (p2, (p3, (p4, (p5, ())))))), p8, ())) fun r1 =>
    l_ab_6 m0 N p0 p1 p2 p3 p4 p5 p8 p6 p7 p8 r1.1 (List.length r1.1 : Int) 0
  else
    some (p6, ()) := by
  rewrite [h_ab_3, h_ab_6]
  kernel_rfl
theorem q_ab_6 (m0 m1 : Nat) (p0 p1 p2 : Int) (p3 p4 p5 : List Int) (p6 : Int) (p7 : List Int) (p8 p9 : Int) (p10 : List Int) (p11 p12 : Int) : l_ab_6 m0 (m1 + 1) p0 p1 p2 p3 p4 p5 p6 p7 p8 p9 p10 p11 p12 =
  bif decide (p12 < p11) then
    bif inB p12 (List.length p10) then
      bif decide ((nth ((.int .i64) : Ty) p10 p12) = 1) then
        Option.bind (P_ae ((p0, (p1, (p2, (p3, (p4, (p5, ())))))), ())) fun r3 =>
        Option.bind (P_az (r3.1, (fun (y : D_A3 × Unit) => P_cy (y.1, (p0, (p1, (p2, (p3, (p4, (p5, ())))))), p6, p12, ())), ())) fun r4 =>
        bif (decide (((List.length p7) + (List.length ([(intBits .and .u64 p8 r4.1)] : List Int))) * 8 ≤ 140737488355328) && decide (((List.length p7) + (List.length ([(intBits .and .u64 p8 r4.1)] : List Int))) ≤ 140737488355328)) then
          l_ab_1006 m0 m1 p0 p1 p2 p3 p4 p5 p6 (p7 ++ ([(intBits .and .u64 p8 r4.1)] : List Int)) p8 p9 p10 p11 (IntKind.wrap .i64 (p12 + 1))
        else none
      else
        l_ab_6 m0 m1 p0 p1 p2 p3 p4 p5 p6 p7 p8 p9 p10 p11 (IntKind.wrap .i64 (p12 + 1))
    else none
  else
    l_ab_3 m0 p0 p1 p2 p3 p4 p5 p7 p8 (IntKind.wrap .i64 (p9 + 1)) := by
  rewrite [h_ab_3, h_ab_6, h_ab_1006]
  kernel_rfl
theorem q_ab_1006 (m0 m1 : Nat) (p0 p1 p2 : Int) (p3 p4 p5 : List Int) (p6 : Int) (p7 : List Int) (p8 p9 : Int) (p10 : List Int) (p11 p12 : Int) : l_ab_1006 m0 (m1 + 1) p0 p1 p2 p3 p4 p5 p6 p7 p8 p9 p10 p11 p12 =
  bif decide (p12 < p11) then
    bif inB p12 (List.length p10) then
      bif decide ((nth ((.int .i64) : Ty) p10 p12) = 1) then
        Option.bind (P_ae ((p0, (p1, (p2, (p3, (p4, (p5, ())))))), ())) fun r3 =>
        Option.bind (P_az (r3.1, (fun (y : D_A3 × Unit) => P_cy (y.1, (p0, (p1, (p2, (p3, (p4, (p5, ())))))), p6, p12, ())), ())) fun r4 =>
        bif (decide (((List.length p7) + (List.length ([(intBits .and .u64 p8 r4.1)] : List Int))) * 8 ≤ 140737488355328) && decide (((List.length p7) + (List.length ([(intBits .and .u64 p8 r4.1)] : List Int))) ≤ 140737488355328)) then
          l_ab_1006 m0 m1 p0 p1 p2 p3 p4 p5 p6 (p7 ++ ([(intBits .and .u64 p8 r4.1)] : List Int)) p8 p9 p10 p11 (IntKind.wrap .i64 (p12 + 1))
        else none
      else
        l_ab_1006 m0 m1 p0 p1 p2 p3 p4 p5 p6 p7 p8 p9 p10 p11 (IntKind.wrap .i64 (p12 + 1))
    else none
  else
    l_ab_1003 m0 p0 p1 p2 p3 p4 p5 p7 p8 (IntKind.wrap .i64 (p9 + 1)) := by
  rewrite [h_ab_1006, h_ab_1003]
  kernel_rfl
theorem q_ab_1003 (m0 : Nat) (p0 p1 p2 : Int) (p3 p4 p5 p6 : List Int) (p7 p8 : Int) : l_ab_1003 (m0 + 1) p0 p1 p2 p3 p4 p5 p6 p7 p8 =
  bif decide (p8 < 3) then
    Option.bind (P_bw ((p0, (p1, (p2, (p3, (p4, (p5, ())))))), p8, ())) fun r1 =>
    l_ab_1006 m0 N p0 p1 p2 p3 p4 p5 p8 p6 p7 p8 r1.1 (List.length r1.1 : Int) 0
  else
    some (p6, ()) := by
  rewrite [h_ab_1006, h_ab_1003]
  kernel_rfl
abbrev As_ar : List ATy := [.data true T_Shadow]
abbrev R_ar : List (Bool × Ty) := [(false, (.int .u64))]
abbrev M_ar : List RMode := []
abbrev Ft_ar : Type := D_Shadow × Unit → Option (Int × Unit)
noncomputable def X_ar : Ctx := { types := TT, globals := [], con := [(48, C_bt), (51, C_ab)], keep := [(3, ⟨[.tmp 3, .tmp 7, .tmp 8, .tmp 9], []⟩)], results := [.tmp 2], ntmps := 21, n := N }
noncomputable def B_ar : Code := (Tryz.f54.body).getD .skip
noncomputable def L_ar_3 (m0 : Nat) (p0 : Int) (p1 : List Int) (p2 p3 : Int) : Option (denL R_ar) := loopF X_ar B_ar R_ar M_ar 3 [m0] [(.ver, .num 1), (.tmp 3, .val false [.int .u64 p0]), (.tmp 7, .val false [.own 60 (.int .u64) 0 p1]), (.tmp 8, .val false [.int .i64 p2]), (.tmp 9, .val false [.int .i64 p3])]
noncomputable def P_ar : Ft_ar := hid (runF X_ar B_ar As_ar R_ar M_ar)
theorem h_ar : P_ar = runF X_ar B_ar As_ar R_ar M_ar := hid_eq _
noncomputable def C_ar : Contract := ⟨As_ar, R_ar, M_ar, P_ar⟩
theorem s_ar : Sound Tryz.prog GG 54 C_ar := by
  unfold C_ar; rw [h_ar]
  exact mkS Tryz.f54 ⟨s_bt, s_ab, trivial⟩ trivial
noncomputable def l_ar_3 := hid (L_ar_3)
theorem h_ar_3 : l_ar_3 = L_ar_3 := hid_eq _
theorem p_ar (a0 : D_Shadow) : P_ar (a0, ()) =
  Option.bind (P_ab (a0, ())) fun r0 =>
  l_ar_3 N 0 r0.1 (List.length r0.1 : Int) 0 := by
  rewrite [h_ar, h_ar_3]
  kernel_rfl
theorem q_ar_3 (m0 : Nat) (p0 : Int) (p1 : List Int) (p2 p3 : Int) : l_ar_3 (m0 + 1) p0 p1 p2 p3 =
  bif decide (p3 < p2) then
    bif inB p3 (List.length p1) then
      Option.bind (P_bt ((nth ((.int .u64) : Ty) p1 p3), ())) fun r2 =>
      bif decide (r2.1 = 1) then
        l_ar_3 m0 (intBits .or .u64 p0 (nth ((.int .u64) : Ty) p1 p3)) p1 p2 (IntKind.wrap .i64 (p3 + 1))
      else
        l_ar_3 m0 p0 p1 p2 (IntKind.wrap .i64 (p3 + 1))
    else none
  else
    some (p0, ()) := by
  rewrite [h_ar_3]
  kernel_rfl
abbrev As_cc : List ATy := [.data false (.int .u64), .data false (.int .i64)]
abbrev R_cc : List (Bool × Ty) := [(false, .bool)]
abbrev M_cc : List RMode := []
abbrev Ft_cc : Type := Int × Int × Unit → Option (Bool × Unit)
noncomputable def X_cc : Ctx := { types := TT, globals := [], con := [], keep := [], results := [.tmp 4], ntmps := 10, n := N }
noncomputable def B_cc : Code := (Tryz.f112.body).getD .skip
noncomputable def P_cc : Ft_cc := hid (runF X_cc B_cc As_cc R_cc M_cc)
theorem h_cc : P_cc = runF X_cc B_cc As_cc R_cc M_cc := hid_eq _
noncomputable def C_cc : Contract := ⟨As_cc, R_cc, M_cc, P_cc⟩
theorem s_cc : Sound Tryz.prog GG 112 C_cc := by
  unfold C_cc; rw [h_cc]
  exact mkS Tryz.f112 trivial trivial
theorem p_cc (a0 : Int) (a1 : Int) : P_cc (a0, a1, ()) =
  bif decide ((0 : Int) ≤ a1) then
    some (decide ((intBits .and .u64 (shrI .u64 a0 a1) 1) = 1), ())
  else none := by
  rewrite [h_cc]
  kernel_rfl
abbrev As_an : List ATy := [.data true T_A3, .data false (.int .u64)]
abbrev R_an : List (Bool × Ty) := [(false, (.sl T_A3))]
abbrev M_an : List RMode := [.own 55]
abbrev Ft_an : Type := D_A3 × Int × Unit → Option ((List D_A3) × Unit)
noncomputable def X_an : Ctx := { types := TT, globals := [], con := [(47, C_br), (64, C_b2), (112, C_cc)], keep := [(3, ⟨[.box 2, .tmp 1, .tmp 2, .tmp 5, .tmp 9, .tmp 10], []⟩)], results := [.tmp 4], ntmps := 24, n := N }
noncomputable def B_an : Code := (Tryz.f76.body).getD .skip
noncomputable def L_an_3 (m0 : Nat) (p0 p1 p2 p3 : Int) (p4 : List D_A3) (p5 p6 : Int) : Option (denL R_an) := loopF X_an B_an R_an M_an 3 [m0] [(.ver, .num 1), (.box 2, .box 0 false [.int .i64 p0, .int .i64 p1, .int .i64 p2]), (.tmp 1, .val false [.int .u64 p3]), (.tmp 2, .val false [.addr 2 0 0]), (.tmp 5, .val false [.own 55 T_A3 0 p4]), (.tmp 9, .val false [.int .i64 p5]), (.tmp 10, .val false [.int .i64 p6])]
noncomputable def P_an : Ft_an := hid (runF X_an B_an As_an R_an M_an)
theorem h_an : P_an = runF X_an B_an As_an R_an M_an := hid_eq _
noncomputable def C_an : Contract := ⟨As_an, R_an, M_an, P_an⟩
theorem s_an : Sound Tryz.prog GG 76 C_an := by
  unfold C_an; rw [h_an]
  exact mkS Tryz.f76 ⟨s_br, s_b2, s_cc, trivial⟩ trivial
noncomputable def l_an_3 := hid (L_an_3)
theorem h_an_3 : l_an_3 = L_an_3 := hid_eq _
theorem p_an (a0 : D_A3) (a1 : Int) : P_an (a0, a1, ()) =
  Option.bind (P_br (a0, ())) fun r0 =>
  l_an_3 N a0.1 a0.2.1 a0.2.2.1 a1 ([] : List D_A3) r0.1 0 := by
  rewrite [h_an, h_an_3]
  kernel_rfl
theorem q_an_3 (m0 : Nat) (p0 p1 p2 p3 : Int) (p4 : List D_A3) (p5 p6 : Int) : l_an_3 (m0 + 1) p0 p1 p2 p3 p4 p5 p6 =
  bif decide (p6 < p5) then
    Option.bind (P_cc (p3, p6, ())) fun r1 =>
    bif r1.1 then
      Option.bind (P_b2 ((p0, (p1, (p2, ()))), p6, ())) fun r3 =>
      bif (decide (((List.length p4) + (List.length ([r3.1] : List D_A3))) * 24 ≤ 140737488355328) && decide (((List.length p4) + (List.length ([r3.1] : List D_A3))) ≤ 140737488355328)) then
        l_an_3 m0 p0 p1 p2 p3 (p4 ++ ([r3.1] : List D_A3)) p5 (IntKind.wrap .i64 (p6 + 1))
      else none
    else
      l_an_3 m0 p0 p1 p2 p3 p4 p5 (IntKind.wrap .i64 (p6 + 1))
  else
    some (p4, ()) := by
  rewrite [h_an_3]
  kernel_rfl
abbrev As_be : List ATy := [.data true T_A3, .data false (.int .u64), .data false (.int .i64)]
abbrev R_be : List (Bool × Ty) := [(false, (.sl (.int .i64)))]
abbrev M_be : List RMode := [.own 3]
abbrev Ft_be : Type := D_A3 × Int × Int × Unit → Option ((List Int) × Unit)
noncomputable def X_be : Ctx := { types := TT, globals := [], con := [(65, C_a1), (76, C_an), (89, C_cj)], keep := [(3, ⟨[.box 3, .tmp 2, .tmp 3, .tmp 7, .tmp 16, .tmp 17, .tmp 18], []⟩)], results := [.tmp 6], ntmps := 33, n := N }
noncomputable def B_be : Code := (Tryz.f82.body).getD .skip
noncomputable def L_be_3 (m0 : Nat) (p0 p1 p2 p3 : Int) (p4 : List Int) (p5 : List D_A3) (p6 p7 : Int) : Option (denL R_be) := loopF X_be B_be R_be M_be 3 [m0] [(.ver, .num 1), (.box 3, .box 0 false [.int .i64 p0, .int .i64 p1, .int .i64 p2]), (.tmp 2, .val false [.int .i64 p3]), (.tmp 3, .val false [.addr 3 0 0]), (.tmp 7, .val false [.own 3 (.int .i64) 0 p4]), (.tmp 16, .val false [.own 55 T_A3 0 p5]), (.tmp 17, .val false [.int .i64 p6]), (.tmp 18, .val false [.int .i64 p7])]
noncomputable def P_be : Ft_be := hid (runF X_be B_be As_be R_be M_be)
theorem h_be : P_be = runF X_be B_be As_be R_be M_be := hid_eq _
noncomputable def C_be : Contract := ⟨As_be, R_be, M_be, P_be⟩
theorem s_be : Sound Tryz.prog GG 82 C_be := by
  unfold C_be; rw [h_be]
  exact mkS Tryz.f82 ⟨s_a1, s_an, s_cj, trivial⟩ trivial
noncomputable def l_be_3 := hid (L_be_3)
theorem h_be_3 : l_be_3 = L_be_3 := hid_eq _
theorem p_be (a0 : D_A3) (a1 : Int) (a2 : Int) : P_be (a0, a1, a2, ()) =
  Option.bind (P_cj (a0, a2, ())) fun r0 =>
  bif (decide ((0 : Int) ≤ r0.1) && decide ((r0.1 : Int) ≤ r0.1) && decide ((r0.1 : Int) * (8 : Nat) ≤ 140737488355328) && decide ((r0.1 : Int) ≤ 140737488355328)) then
    Option.bind (P_an (a0, a1, ())) fun r2 =>
    l_be_3 N a0.1 a0.2.1 a0.2.2.1 a2 (List.replicate (Int.toNat r0.1) (Ty.dflt ((.int .i64) : Ty))) r2.1 (List.length r2.1 : Int) 0
  else none := by
  rewrite [h_be, h_be_3]
  kernel_rfl
theorem q_be_3 (m0 : Nat) (p0 p1 p2 p3 : Int) (p4 : List Int) (p5 : List D_A3) (p6 p7 : Int) : l_be_3 (m0 + 1) p0 p1 p2 p3 p4 p5 p6 p7 =
  bif decide (p7 < p6) then
    bif inB p7 (List.length p5) then
      Option.bind (P_a1 ((p0, (p1, (p2, ()))), (nth T_A3 p5 p7), p3, ())) fun r2 =>
      bif inB r2.1 (List.length p4) then
        bif inB r2.1 (List.length p4) then
          l_be_3 m0 p0 p1 p2 p3 (List.set p4 (Int.toNat r2.1) (IntKind.wrap .i64 ((nth ((.int .i64) : Ty) p4 r2.1) + 1))) p5 p6 (IntKind.wrap .i64 (p7 + 1))
        else none
      else none
    else none
  else
    some (p4, ()) := by
  rewrite [h_be_3]
  kernel_rfl
abbrev As_aa : List ATy := [.data true T_A3, .data false (.int .u64)]
abbrev R_aa : List (Bool × Ty) := [(true, T_Shadow)]
abbrev M_aa : List RMode := [.own 3, .own 3, .own 3]
abbrev Ft_aa : Type := D_A3 × Int × Unit → Option (D_Shadow × Unit)
noncomputable def X_aa : Ctx := { types := TT, globals := [], con := [(82, C_be)], keep := [(3, ⟨[.box 2, .box 4, .box 5, .tmp 1, .tmp 2, .tmp 4, .tmp 5, .tmp 10], []⟩), (7, ⟨[.box 2, .box 4, .box 5, .tmp 1, .tmp 2, .tmp 4, .tmp 5, .tmp 6, .tmp 10, .tmp 21, .tmp 22, .tmp 23], []⟩)], results := [.cell 4 35], ntmps := 50, n := N }
noncomputable def B_aa : Code := (Tryz.f35.body).getD .skip
noncomputable def L_aa_3 (m0 : Nat) (p0 p1 p2 p3 p4 p5 : Int) (p6 p7 p8 p9 p10 p11 : List Int) (p12 p13 : Int) : Option (denL R_aa) := loopF X_aa B_aa R_aa M_aa 3 [m0] [(.ver, .num 1), (.box 2, .box 0 false [.int .i64 p0, .int .i64 p1, .int .i64 p2]), (.box 4, .box 0 false [.int .i64 p3, .int .i64 p4, .int .i64 p5, .own 3 (.int .i64) 0 p6, .own 3 (.int .i64) 0 p7, .own 3 (.int .i64) 0 p8]), (.box 5, .box 0 false [.own 3 (.int .i64) 0 p9, .own 3 (.int .i64) 0 p10, .own 3 (.int .i64) 0 p11]), (.tmp 1, .val false [.int .u64 p12]), (.tmp 2, .val false [.addr 2 0 0]), (.tmp 4, .val false [.addr 4 0 0]), (.tmp 5, .val false [.addr 5 0 0]), (.tmp 10, .val false [.int .i64 p13])]
noncomputable def L_aa_7 (m0 m1 : Nat) (p0 p1 p2 p3 p4 p5 : Int) (p6 p7 p8 p9 p10 p11 : List Int) (p12 p13 p14 p15 p16 : Int) : Option (denL R_aa) := loopF X_aa B_aa R_aa M_aa 7 [m0, m1] [(.ver, .num 1), (.box 2, .box 0 false [.int .i64 p0, .int .i64 p1, .int .i64 p2]), (.box 4, .box 0 false [.int .i64 p3, .int .i64 p4, .int .i64 p5, .own 3 (.int .i64) 0 p6, .own 3 (.int .i64) 0 p7, .own 3 (.int .i64) 0 p8]), (.box 5, .box 0 false [.own 3 (.int .i64) 0 p9, .own 3 (.int .i64) 0 p10, .own 3 (.int .i64) 0 p11]), (.tmp 1, .val false [.int .u64 p12]), (.tmp 2, .val false [.addr 2 0 0]), (.tmp 4, .val false [.addr 4 0 0]), (.tmp 5, .val false [.addr 5 0 0]), (.tmp 6, .val false [.int .i64 p13]), (.tmp 10, .val false [.int .i64 p14]), (.tmp 21, .val false [.view ⟨.box 5, 0, 0⟩ 0]), (.tmp 22, .val false [.int .i64 p15]), (.tmp 23, .val false [.int .i64 p16])]
noncomputable def L_aa_1007 (m0 m1 : Nat) (p0 p1 p2 p3 p4 p5 : Int) (p6 p7 p8 p9 p10 p11 : List Int) (p12 p13 p14 p15 p16 : Int) : Option (denL R_aa) := loopF X_aa B_aa R_aa M_aa 7 [m0, m1] [(.ver, .num 1), (.box 2, .box 0 false [.int .i64 p0, .int .i64 p1, .int .i64 p2]), (.box 4, .box 0 false [.int .i64 p3, .int .i64 p4, .int .i64 p5, .own 3 (.int .i64) 0 p6, .own 3 (.int .i64) 0 p7, .own 3 (.int .i64) 0 p8]), (.box 5, .box 0 false [.own 3 (.int .i64) 0 p9, .own 3 (.int .i64) 0 p10, .own 3 (.int .i64) 0 p11]), (.tmp 1, .val false [.int .u64 p12]), (.tmp 2, .val false [.addr 2 0 0]), (.tmp 4, .val false [.addr 4 0 0]), (.tmp 5, .val false [.addr 5 0 0]), (.tmp 6, .val false [.int .i64 p13]), (.tmp 10, .val false [.int .i64 p14]), (.tmp 21, .val false [.view ⟨.box 5, 0, 1⟩ 0]), (.tmp 22, .val false [.int .i64 p15]), (.tmp 23, .val false [.int .i64 p16])]
noncomputable def L_aa_2007 (m0 m1 : Nat) (p0 p1 p2 p3 p4 p5 : Int) (p6 p7 p8 p9 p10 p11 : List Int) (p12 p13 p14 p15 p16 : Int) : Option (denL R_aa) := loopF X_aa B_aa R_aa M_aa 7 [m0, m1] [(.ver, .num 1), (.box 2, .box 0 false [.int .i64 p0, .int .i64 p1, .int .i64 p2]), (.box 4, .box 0 false [.int .i64 p3, .int .i64 p4, .int .i64 p5, .own 3 (.int .i64) 0 p6, .own 3 (.int .i64) 0 p7, .own 3 (.int .i64) 0 p8]), (.box 5, .box 0 false [.own 3 (.int .i64) 0 p9, .own 3 (.int .i64) 0 p10, .own 3 (.int .i64) 0 p11]), (.tmp 1, .val false [.int .u64 p12]), (.tmp 2, .val false [.addr 2 0 0]), (.tmp 4, .val false [.addr 4 0 0]), (.tmp 5, .val false [.addr 5 0 0]), (.tmp 6, .val false [.int .i64 p13]), (.tmp 10, .val false [.int .i64 p14]), (.tmp 21, .val false [.view ⟨.box 5, 0, 2⟩ 0]), (.tmp 22, .val false [.int .i64 p15]), (.tmp 23, .val false [.int .i64 p16])]
noncomputable def P_aa : Ft_aa := hid (runF X_aa B_aa As_aa R_aa M_aa)
theorem h_aa : P_aa = runF X_aa B_aa As_aa R_aa M_aa := hid_eq _
noncomputable def C_aa : Contract := ⟨As_aa, R_aa, M_aa, P_aa⟩
theorem s_aa : Sound Tryz.prog GG 35 C_aa := by
  unfold C_aa; rw [h_aa]
  exact mkS Tryz.f35 ⟨s_be, trivial⟩ trivial
noncomputable def l_aa_3 := hid (L_aa_3)
theorem h_aa_3 : l_aa_3 = L_aa_3 := hid_eq _
noncomputable def l_aa_7 := hid (L_aa_7)
theorem h_aa_7 : l_aa_7 = L_aa_7 := hid_eq _
noncomputable def l_aa_1007 := hid (L_aa_1007)
theorem h_aa_1007 : l_aa_1007 = L_aa_1007 := hid_eq _
noncomputable def l_aa_2007 := hid (L_aa_2007)
theorem h_aa_2007 : l_aa_2007 = L_aa_2007 := hid_eq _
theorem p_aa (a0 : D_A3) (a1 : Int) : P_aa (a0, a1, ()) =
  l_aa_3 N a0.1 a0.2.1 a0.2.2.1 0 0 0 ([] : List Int) ([] : List Int) ([] : List Int) ([] : List Int) ([] : List Int) ([] : List Int) a1 0 := by
  rewrite [h_aa, h_aa_3]
  kernel_rfl
theorem q_aa_3 (m0 : Nat) (p0 p1 p2 p3 p4 p5 : Int) (p6 p7 p8 p9 p10 p11 : List Int) (p12 p13 : Int) : l_aa_3 (m0 + 1) p0 p1 p2 p3 p4 p5 p6 p7 p8 p9 p10 p11 p12 p13 =
  bif decide (p13 < 3) then
    Option.bind (P_be ((p0, (p1, (p2, ()))), p12, p13, ())) fun r1 =>
    bif inB p13 3 then
      bif decide (p13 = (0 : Int)) then
        bif inB p13 3 then
          bif decide (p13 = (0 : Int)) then
            l_aa_7 m0 N p0 p1 p2 p3 p4 p5 p6 p7 p8 r1.1 p10 p11 p12 p13 p13 (List.length r1.1 : Int) 0
          else
            bif decide (p13 = (1 : Int)) then
              l_aa_1007 m0 N p0 p1 p2 p3 p4 p5 p6 p7 p8 r1.1 p10 p11 p12 p13 p13 (List.length p10 : Int) 0
            else
              l_aa_2007 m0 N p0 p1 p2 p3 p4 p5 p6 p7 p8 r1.1 p10 p11 p12 p13 p13 (List.length p11 : Int) 0
        else none
      else
        bif decide (p13 = (1 : Int)) then
          bif inB p13 3 then
            bif decide (p13 = (0 : Int)) then
              l_aa_7 m0 N p0 p1 p2 p3 p4 p5 p6 p7 p8 p9 r1.1 p11 p12 p13 p13 (List.length p9 : Int) 0
            else
              bif decide (p13 = (1 : Int)) then
                l_aa_1007 m0 N p0 p1 p2 p3 p4 p5 p6 p7 p8 p9 r1.1 p11 p12 p13 p13 (List.length r1.1 : Int) 0
              else
                l_aa_2007 m0 N p0 p1 p2 p3 p4 p5 p6 p7 p8 p9 r1.1 p11 p12 p13 p13 (List.length p11 : Int) 0
          else none
        else
          bif inB p13 3 then
            bif decide (p13 = (0 : Int)) then
              l_aa_7 m0 N p0 p1 p2 p3 p4 p5 p6 p7 p8 p9 p10 r1.1 p12 p13 p13 (List.length p9 : Int) 0
            else
              bif decide (p13 = (1 : Int)) then
                l_aa_1007 m0 N p0 p1 p2 p3 p4 p5 p6 p7 p8 p9 p10 r1.1 p12 p13 p13 (List.length p10 : Int) 0
              else
                l_aa_2007 m0 N p0 p1 p2 p3 p4 p5 p6 p7 p8 p9 p10 r1.1 p12 p13 p13 (List.length r1.1 : Int) 0
          else none
    else none
  else
    some ((p0, (p1, (p2, (p11, (p10, (p9, ())))))), ()) := by
  rewrite [h_aa_3, h_aa_7, h_aa_1007, h_aa_2007]
  kernel_rfl
theorem q_aa_7 (m0 m1 : Nat) (p0 p1 p2 p3 p4 p5 : Int) (p6 p7 p8 p9 p10 p11 : List Int) (p12 p13 p14 p15 p16 : Int) : l_aa_7 m0 (m1 + 1) p0 p1 p2 p3 p4 p5 p6 p7 p8 p9 p10 p11 p12 p13 p14 p15 p16 =
  bif decide (p16 < p15) then
    bif inB p16 (List.length p9) then
      bif inB p13 3 then
        bif decide (p13 = (0 : Int)) then
          bif inB p16 (List.length p9) then
            l_aa_7 m0 m1 p0 p1 p2 p3 p4 p5 p6 p7 p8 (List.set p9 (Int.toNat p16) (bif decide (1 < (nth ((.int .i64) : Ty) p9 p16)) then 1 else (nth ((.int .i64) : Ty) p9 p16))) p10 p11 p12 p13 p14 p15 (IntKind.wrap .i64 (p16 + 1))
          else none
        else
          bif decide (p13 = (1 : Int)) then
            bif inB p16 (List.length p10) then
              l_aa_7 m0 m1 p0 p1 p2 p3 p4 p5 p6 p7 p8 p9 (List.set p10 (Int.toNat p16) (bif decide (1 < (nth ((.int .i64) : Ty) p9 p16)) then 1 else (nth ((.int .i64) : Ty) p9 p16))) p11 p12 p13 p14 p15 (IntKind.wrap .i64 (p16 + 1))
            else none
          else
            bif inB p16 (List.length p11) then
              l_aa_7 m0 m1 p0 p1 p2 p3 p4 p5 p6 p7 p8 p9 p10 (List.set p11 (Int.toNat p16) (bif decide (1 < (nth ((.int .i64) : Ty) p9 p16)) then 1 else (nth ((.int .i64) : Ty) p9 p16))) p12 p13 p14 p15 (IntKind.wrap .i64 (p16 + 1))
            else none
      else none
    else none
  else
    l_aa_3 m0 p0 p1 p2 p3 p4 p5 p6 p7 p8 p9 p10 p11 p12 (IntKind.wrap .i64 (p14 + 1)) := by
  rewrite [h_aa_3, h_aa_7]
  kernel_rfl
theorem q_aa_1007 (m0 m1 : Nat) (p0 p1 p2 p3 p4 p5 : Int) (p6 p7 p8 p9 p10 p11 : List Int) (p12 p13 p14 p15 p16 : Int) : l_aa_1007 m0 (m1 + 1) p0 p1 p2 p3 p4 p5 p6 p7 p8 p9 p10 p11 p12 p13 p14 p15 p16 =
  bif decide (p16 < p15) then
    bif inB p16 (List.length p10) then
      bif inB p13 3 then
        bif decide (p13 = (0 : Int)) then
          bif inB p16 (List.length p9) then
            l_aa_1007 m0 m1 p0 p1 p2 p3 p4 p5 p6 p7 p8 (List.set p9 (Int.toNat p16) (bif decide (1 < (nth ((.int .i64) : Ty) p10 p16)) then 1 else (nth ((.int .i64) : Ty) p10 p16))) p10 p11 p12 p13 p14 p15 (IntKind.wrap .i64 (p16 + 1))
          else none
        else
          bif decide (p13 = (1 : Int)) then
            bif inB p16 (List.length p10) then
              l_aa_1007 m0 m1 p0 p1 p2 p3 p4 p5 p6 p7 p8 p9 (List.set p10 (Int.toNat p16) (bif decide (1 < (nth ((.int .i64) : Ty) p10 p16)) then 1 else (nth ((.int .i64) : Ty) p10 p16))) p11 p12 p13 p14 p15 (IntKind.wrap .i64 (p16 + 1))
            else none
          else
            bif inB p16 (List.length p11) then
              l_aa_1007 m0 m1 p0 p1 p2 p3 p4 p5 p6 p7 p8 p9 p10 (List.set p11 (Int.toNat p16) (bif decide (1 < (nth ((.int .i64) : Ty) p10 p16)) then 1 else (nth ((.int .i64) : Ty) p10 p16))) p12 p13 p14 p15 (IntKind.wrap .i64 (p16 + 1))
            else none
      else none
    else none
  else
    l_aa_3 m0 p0 p1 p2 p3 p4 p5 p6 p7 p8 p9 p10 p11 p12 (IntKind.wrap .i64 (p14 + 1)) := by
  rewrite [h_aa_3, h_aa_1007]
  kernel_rfl
theorem q_aa_2007 (m0 m1 : Nat) (p0 p1 p2 p3 p4 p5 : Int) (p6 p7 p8 p9 p10 p11 : List Int) (p12 p13 p14 p15 p16 : Int) : l_aa_2007 m0 (m1 + 1) p0 p1 p2 p3 p4 p5 p6 p7 p8 p9 p10 p11 p12 p13 p14 p15 p16 =
  bif decide (p16 < p15) then
    bif inB p16 (List.length p11) then
      bif inB p13 3 then
        bif decide (p13 = (0 : Int)) then
          bif inB p16 (List.length p9) then
            l_aa_2007 m0 m1 p0 p1 p2 p3 p4 p5 p6 p7 p8 (List.set p9 (Int.toNat p16) (bif decide (1 < (nth ((.int .i64) : Ty) p11 p16)) then 1 else (nth ((.int .i64) : Ty) p11 p16))) p10 p11 p12 p13 p14 p15 (IntKind.wrap .i64 (p16 + 1))
          else none
        else
          bif decide (p13 = (1 : Int)) then
            bif inB p16 (List.length p10) then
              l_aa_2007 m0 m1 p0 p1 p2 p3 p4 p5 p6 p7 p8 p9 (List.set p10 (Int.toNat p16) (bif decide (1 < (nth ((.int .i64) : Ty) p11 p16)) then 1 else (nth ((.int .i64) : Ty) p11 p16))) p11 p12 p13 p14 p15 (IntKind.wrap .i64 (p16 + 1))
            else none
          else
            bif inB p16 (List.length p11) then
              l_aa_2007 m0 m1 p0 p1 p2 p3 p4 p5 p6 p7 p8 p9 p10 (List.set p11 (Int.toNat p16) (bif decide (1 < (nth ((.int .i64) : Ty) p11 p16)) then 1 else (nth ((.int .i64) : Ty) p11 p16))) p12 p13 p14 p15 (IntKind.wrap .i64 (p16 + 1))
            else none
      else none
    else none
  else
    l_aa_3 m0 p0 p1 p2 p3 p4 p5 p6 p7 p8 p9 p10 p11 p12 (IntKind.wrap .i64 (p14 + 1)) := by
  rewrite [h_aa_3, h_aa_2007]
  kernel_rfl
abbrev As_a4 : List ATy := [.data false (.sl (.int .i64)), .data false (.sl (.int .i64))]
abbrev R_a4 : List (Bool × Ty) := [(false, .bool)]
abbrev M_a4 : List RMode := []
abbrev Ft_a4 : Type := (List Int) × (List Int) × Unit → Option (Bool × Unit)
noncomputable def X_a4 : Ctx := { types := TT, globals := [], con := [], keep := [(4, ⟨[.tmp 0, .tmp 1, .tmp 12, .tmp 13], []⟩)], results := [.tmp 4], ntmps := 26, n := N }
noncomputable def B_a4 : Code := (Tryz.f135.body).getD .skip
noncomputable def L_a4_4 (m0 : Nat) (p0 p1 : List Int) (p2 p3 : Int) : Option (denL R_a4) := loopF X_a4 B_a4 R_a4 M_a4 4 [m0] [(.ver, .num 1), (.tmp 0, .val false [.imm (.int .i64) p0 (some 0)]), (.tmp 1, .val false [.imm (.int .i64) p1 (some 1)]), (.tmp 12, .val false [.int .i64 p2]), (.tmp 13, .val false [.int .i64 p3])]
noncomputable def P_a4 : Ft_a4 := hid (runF X_a4 B_a4 As_a4 R_a4 M_a4)
theorem h_a4 : P_a4 = runF X_a4 B_a4 As_a4 R_a4 M_a4 := hid_eq _
noncomputable def C_a4 : Contract := ⟨As_a4, R_a4, M_a4, P_a4⟩
theorem s_a4 : Sound Tryz.prog GG 135 C_a4 := by
  unfold C_a4; rw [h_a4]
  exact mkS Tryz.f135 trivial trivial
noncomputable def l_a4_4 := hid (L_a4_4)
theorem h_a4_4 : l_a4_4 = L_a4_4 := hid_eq _
theorem p_a4 (a0 : List Int) (a1 : List Int) : P_a4 (a0, a1, ()) =
  bif !decide ((List.length a0 : Int) = (List.length a1 : Int)) then
    some (false, ())
  else
    l_a4_4 N a0 a1 (List.length a0 : Int) 0 := by
  rewrite [h_a4, h_a4_4]
  kernel_rfl
theorem q_a4_4 (m0 : Nat) (p0 p1 : List Int) (p2 p3 : Int) : l_a4_4 (m0 + 1) p0 p1 p2 p3 =
  bif decide (p3 < p2) then
    bif inB p3 (List.length p0) then
      bif inB p3 (List.length p1) then
        bif !decide ((nth ((.int .i64) : Ty) p0 p3) = (nth ((.int .i64) : Ty) p1 p3)) then
          some (false, ())
        else
          l_a4_4 m0 p0 p1 p2 (IntKind.wrap .i64 (p3 + 1))
      else none
    else none
  else
    some (true, ()) := by
  rewrite [h_a4_4]
  kernel_rfl
abbrev As_dp : List ATy := [.data true T_Shadow, .data true T_Shadow]
abbrev R_dp : List (Bool × Ty) := [(false, .bool)]
abbrev M_dp : List RMode := []
abbrev Ft_dp : Type := D_Shadow × D_Shadow × Unit → Option (Bool × Unit)
noncomputable def X_dp : Ctx := { types := TT, globals := [], con := [(46, C_ae), (135, C_a4)], keep := [], results := [.tmp 4], ntmps := 31, n := N }
noncomputable def B_dp : Code := (Tryz.f111.body).getD .skip
noncomputable def P_dp : Ft_dp := hid (runF X_dp B_dp As_dp R_dp M_dp)
theorem h_dp : P_dp = runF X_dp B_dp As_dp R_dp M_dp := hid_eq _
noncomputable def C_dp : Contract := ⟨As_dp, R_dp, M_dp, P_dp⟩
theorem s_dp : Sound Tryz.prog GG 111 C_dp := by
  unfold C_dp; rw [h_dp]
  exact mkS Tryz.f111 ⟨s_ae, s_a4, trivial⟩ trivial
theorem p_dp (a0 : D_Shadow) (a1 : D_Shadow) : P_dp (a0, a1, ()) =
  Option.bind (P_ae (a0, ())) fun r0 =>
  Option.bind (P_ae (a1, ())) fun r1 =>
  bif (decide (r0.1.1 = r1.1.1) && (decide (r0.1.2.1 = r1.1.2.1) && (decide (r0.1.2.2.1 = r1.1.2.2.1) && true))) then
    Option.bind (P_a4 (a0.2.2.2.1, a1.2.2.2.1, ())) fun r3 =>
    bif r3.1 then
      Option.bind (P_a4 (a0.2.2.2.2.1, a1.2.2.2.2.1, ())) fun r5 =>
      bif r5.1 then
        Option.bind (P_a4 (a0.2.2.2.2.2.1, a1.2.2.2.2.2.1, ())) fun r7 =>
        some (r7.1, ())
      else
        some (false, ())
    else
      some (false, ())
  else
    some (false, ()) := by
  rewrite [h_dp]
  kernel_rfl
abbrev As_cr : List ATy := [.data true T_Shadow, .data false (.int .u64)]
abbrev R_cr : List (Bool × Ty) := [(false, .bool)]
abbrev M_cr : List RMode := []
abbrev Ft_cr : Type := D_Shadow × Int × Unit → Option (Bool × Unit)
noncomputable def X_cr : Ctx := { types := TT, globals := [], con := [(35, C_aa), (46, C_ae), (111, C_dp)], keep := [], results := [.tmp 4], ntmps := 11, n := N }
noncomputable def B_cr : Code := (Tryz.f75.body).getD .skip
noncomputable def P_cr : Ft_cr := hid (runF X_cr B_cr As_cr R_cr M_cr)
theorem h_cr : P_cr = runF X_cr B_cr As_cr R_cr M_cr := hid_eq _
noncomputable def C_cr : Contract := ⟨As_cr, R_cr, M_cr, P_cr⟩
theorem s_cr : Sound Tryz.prog GG 75 C_cr := by
  unfold C_cr; rw [h_cr]
  exact mkS Tryz.f75 ⟨s_aa, s_ae, s_dp, trivial⟩ trivial
theorem p_cr (a0 : D_Shadow) (a1 : Int) : P_cr (a0, a1, ()) =
  Option.bind (P_ae (a0, ())) fun r0 =>
  Option.bind (P_aa (r0.1, a1, ())) fun r1 =>
  Option.bind (P_dp (a0, r1.1, ())) fun r2 =>
  some (r2.1, ()) := by
  rewrite [h_cr]
  kernel_rfl
abbrev As_b8 : List ATy := [.data true T_Shadow]
abbrev R_b8 : List (Bool × Ty) := [(false, .bool)]
abbrev M_b8 : List RMode := []
abbrev Ft_b8 : Type := D_Shadow × Unit → Option (Bool × Unit)
noncomputable def X_b8 : Ctx := { types := TT, globals := [], con := [(49, C_bs), (75, C_cr)], keep := [], results := [.tmp 2], ntmps := 7, n := N }
noncomputable def B_b8 : Code := (Tryz.f53.body).getD .skip
noncomputable def P_b8 : Ft_b8 := hid (runF X_b8 B_b8 As_b8 R_b8 M_b8)
theorem h_b8 : P_b8 = runF X_b8 B_b8 As_b8 R_b8 M_b8 := hid_eq _
noncomputable def C_b8 : Contract := ⟨As_b8, R_b8, M_b8, P_b8⟩
theorem s_b8 : Sound Tryz.prog GG 53 C_b8 := by
  unfold C_b8; rw [h_b8]
  exact mkS Tryz.f53 ⟨s_bs, s_cr, trivial⟩ trivial
theorem p_b8 (a0 : D_Shadow) : P_b8 (a0, ()) =
  Option.bind (P_bs (a0, ())) fun r0 =>
  Option.bind (P_cr (a0, r0.1, ())) fun r1 =>
  some (r1.1, ()) := by
  rewrite [h_b8]
  kernel_rfl
abbrev As_b4 : List ATy := [.data true T_Shadow]
abbrev R_b4 : List (Bool × Ty) := [(false, .bool)]
abbrev M_b4 : List RMode := []
abbrev Ft_b4 : Type := D_Shadow × Unit → Option (Bool × Unit)
noncomputable def X_b4 : Ctx := { types := TT, globals := [], con := [(40, C_ao), (53, C_b8)], keep := [], results := [.tmp 2], ntmps := 9, n := N }
noncomputable def B_b4 : Code := (Tryz.f72.body).getD .skip
noncomputable def P_b4 : Ft_b4 := hid (runF X_b4 B_b4 As_b4 R_b4 M_b4)
theorem h_b4 : P_b4 = runF X_b4 B_b4 As_b4 R_b4 M_b4 := hid_eq _
noncomputable def C_b4 : Contract := ⟨As_b4, R_b4, M_b4, P_b4⟩
theorem s_b4 : Sound Tryz.prog GG 72 C_b4 := by
  unfold C_b4; rw [h_b4]
  exact mkS Tryz.f72 ⟨s_ao, s_b8, trivial⟩ trivial
theorem p_b4 (a0 : D_Shadow) : P_b4 (a0, ()) =
  Option.bind (P_ao (a0, ())) fun r0 =>
  bif r0.1 then
    Option.bind (P_b8 (a0, ())) fun r2 =>
    some (r2.1, ())
  else
    some (false, ()) := by
  rewrite [h_b4]
  kernel_rfl
abbrev As_ay : List ATy := [.data true T_Shadow]
abbrev R_ay : List (Bool × Ty) := [(false, (.int .i64)), (false, .bool)]
abbrev M_ay : List RMode := []
abbrev Ft_ay : Type := D_Shadow × Unit → Option (Int × Bool × Unit)
noncomputable def X_ay : Ctx := { types := TT, globals := [], con := [(46, C_ae), (47, C_br), (48, C_bt), (50, C_ac), (51, C_ab), (54, C_ar), (72, C_b4)], keep := [(4, ⟨[.box 1, .tmp 1, .tmp 4], []⟩)], results := [.tmp 2, .tmp 3], ntmps := 31, n := N }
noncomputable def B_ay : Code := (Tryz.f42.body).getD .skip
noncomputable def L_ay_4 (m0 : Nat) (p0 p1 p2 : Int) (p3 p4 p5 : List Int) (p6 : Int) : Option (denL R_ay) := loopF X_ay B_ay R_ay M_ay 4 [m0] [(.ver, .num 1), (.box 1, .box 0 false [.int .i64 p0, .int .i64 p1, .int .i64 p2, .imm (.int .i64) p3 (some 3), .imm (.int .i64) p4 (some 4), .imm (.int .i64) p5 (some 5)]), (.tmp 1, .val false [.addr 1 0 0]), (.tmp 4, .val false [.int .i64 p6])]
noncomputable def P_ay : Ft_ay := hid (runF X_ay B_ay As_ay R_ay M_ay)
theorem h_ay : P_ay = runF X_ay B_ay As_ay R_ay M_ay := hid_eq _
noncomputable def C_ay : Contract := ⟨As_ay, R_ay, M_ay, P_ay⟩
theorem s_ay : Sound Tryz.prog GG 42 C_ay := by
  unfold C_ay; rw [h_ay]
  exact mkS Tryz.f42 ⟨s_ae, s_br, s_bt, s_ac, s_ab, s_ar, s_b4, trivial⟩ trivial
noncomputable def l_ay_4 := hid (L_ay_4)
theorem h_ay_4 : l_ay_4 = L_ay_4 := hid_eq _
theorem p_ay (a0 : D_Shadow) : P_ay (a0, ()) =
  Option.bind (P_b4 (a0, ())) fun r0 =>
  bif !r0.1 then
    some (0, false, ())
  else
    Option.bind (P_ae (a0, ())) fun r2 =>
    Option.bind (P_br (r2.1, ())) fun r3 =>
    bif decide (r3.1 > 27) then
      some (0, false, ())
    else
      Option.bind (P_ar (a0, ())) fun r5 =>
      Option.bind (P_bt (r5.1, ())) fun r6 =>
      l_ay_4 N a0.1 a0.2.1 a0.2.2.1 a0.2.2.2.1 a0.2.2.2.2.1 a0.2.2.2.2.2.1 r6.1 := by
  rewrite [h_ay, h_ay_4]
  kernel_rfl
theorem q_ay_4 (m0 : Nat) (p0 p1 p2 : Int) (p3 p4 p5 : List Int) (p6 : Int) : l_ay_4 (m0 + 1) p0 p1 p2 p3 p4 p5 p6 =
  Option.bind (P_ab ((p0, (p1, (p2, (p3, (p4, (p5, ())))))), ())) fun r0 =>
  Option.bind (P_ar ((p0, (p1, (p2, (p3, (p4, (p5, ())))))), ())) fun r1 =>
  Option.bind (P_ar ((p0, (p1, (p2, (p3, (p4, (p5, ())))))), ())) fun r2 =>
  Option.bind (P_bt (r2.1, ())) fun r3 =>
  Option.bind (P_ac (r0.1, r1.1, 0, (IntKind.wrap .i64 (p6 - r3.1)), ())) fun r4 =>
  bif !r4.1 then
    l_ay_4 m0 p0 p1 p2 p3 p4 p5 (IntKind.wrap .i64 (p6 + 1))
  else
    some (p6, true, ()) := by
  rewrite [h_ay_4]
  kernel_rfl
abbrev As_ck : List ATy := [.data true T_Shadow]
abbrev R_ck : List (Bool × Ty) := [(false, (.int .i64)), (false, .bool)]
abbrev M_ck : List RMode := []
abbrev Ft_ck : Type := D_Shadow × Unit → Option (Int × Bool × Unit)
noncomputable def X_ck : Ctx := { types := TT, globals := [], con := [(42, C_ay)], keep := [], results := [.tmp 2, .tmp 3], ntmps := 8, n := N }
noncomputable def B_ck : Code := (Tryz.f12.body).getD .skip
noncomputable def P_ck : Ft_ck := hid (runF X_ck B_ck As_ck R_ck M_ck)
theorem h_ck : P_ck = runF X_ck B_ck As_ck R_ck M_ck := hid_eq _
noncomputable def C_ck : Contract := ⟨As_ck, R_ck, M_ck, P_ck⟩
theorem s_ck : Sound Tryz.prog GG 12 C_ck := by
  unfold C_ck; rw [h_ck]
  exact mkS Tryz.f12 ⟨s_ay, trivial⟩ trivial
theorem p_ck (a0 : D_Shadow) : P_ck (a0, ()) =
  Option.bind (P_ay (a0, ())) fun r0 =>
  some (r0.1, r0.2.1, ()) := by
  rewrite [h_ck]
  kernel_rfl
abbrev As_bn : List ATy := [.data false (.int .i64), .data false (.int .i64), .data false (.int .i64)]
abbrev R_bn : List (Bool × Ty) := [(false, .bool)]
abbrev M_bn : List RMode := []
abbrev Ft_bn : Type := Int × Int × Int × Unit → Option (Bool × Unit)
noncomputable def X_bn : Ctx := { types := TT, globals := [], con := [], keep := [], results := [.tmp 6], ntmps := 15, n := N }
noncomputable def B_bn : Code := (Tryz.f67.body).getD .skip
noncomputable def P_bn : Ft_bn := hid (runF X_bn B_bn As_bn R_bn M_bn)
theorem h_bn : P_bn = runF X_bn B_bn As_bn R_bn M_bn := hid_eq _
noncomputable def C_bn : Contract := ⟨As_bn, R_bn, M_bn, P_bn⟩
theorem s_bn : Sound Tryz.prog GG 67 C_bn := by
  unfold C_bn; rw [h_bn]
  exact mkS Tryz.f67 trivial trivial
theorem p_bn (a0 : Int) (a1 : Int) (a2 : Int) : P_bn (a0, a1, a2, ()) =
  bif decide (a0 ≥ a1) then
    some (decide (a0 ≤ a2), ())
  else
    some (false, ()) := by
  rewrite [h_bn]
  kernel_rfl
abbrev As_b0 : List ATy := [.data false (.int .i64), .data false (.int .i64), .data false (.int .i64)]
abbrev R_b0 : List (Bool × Ty) := [(false, .bool)]
abbrev M_b0 : List RMode := []
abbrev Ft_b0 : Type := Int × Int × Int × Unit → Option (Bool × Unit)
noncomputable def X_b0 : Ctx := { types := TT, globals := [], con := [(67, C_bn)], keep := [], results := [.tmp 6], ntmps := 17, n := N }
noncomputable def B_b0 : Code := (Tryz.f103.body).getD .skip
noncomputable def P_b0 : Ft_b0 := hid (runF X_b0 B_b0 As_b0 R_b0 M_b0)
theorem h_b0 : P_b0 = runF X_b0 B_b0 As_b0 R_b0 M_b0 := hid_eq _
noncomputable def C_b0 : Contract := ⟨As_b0, R_b0, M_b0, P_b0⟩
theorem s_b0 : Sound Tryz.prog GG 103 C_b0 := by
  unfold C_b0; rw [h_b0]
  exact mkS Tryz.f103 ⟨s_bn, trivial⟩ trivial
theorem p_b0 (a0 : Int) (a1 : Int) (a2 : Int) : P_b0 (a0, a1, a2, ()) =
  Option.bind (P_bn (a0, 1, 4, ())) fun r0 =>
  bif r0.1 then
    Option.bind (P_bn (a1, 1, 4, ())) fun r2 =>
    bif r2.1 then
      Option.bind (P_bn (a2, 1, 4, ())) fun r4 =>
      some (r4.1, ())
    else
      some (false, ())
  else
    some (false, ()) := by
  rewrite [h_b0]
  kernel_rfl
abbrev As_cv : List ATy := [.data true T_Heap, .data true T_A3]
abbrev R_cv : List (Bool × Ty) := [(false, .bool)]
abbrev M_cv : List RMode := []
abbrev Ft_cv : Type := D_Heap × D_A3 × Unit → Option (Bool × Unit)
noncomputable def X_cv : Ctx := { types := TT, globals := [], con := [(67, C_bn)], keep := [], results := [.tmp 4], ntmps := 27, n := N }
noncomputable def B_cv : Code := (Tryz.f116.body).getD .skip
noncomputable def P_cv : Ft_cv := hid (runF X_cv B_cv As_cv R_cv M_cv)
theorem h_cv : P_cv = runF X_cv B_cv As_cv R_cv M_cv := hid_eq _
noncomputable def C_cv : Contract := ⟨As_cv, R_cv, M_cv, P_cv⟩
theorem s_cv : Sound Tryz.prog GG 116 C_cv := by
  unfold C_cv; rw [h_cv]
  exact mkS Tryz.f116 ⟨s_bn, trivial⟩ trivial
theorem p_cv (a0 : D_Heap) (a1 : D_A3) : P_cv (a0, a1, ()) =
  Option.bind (P_bn (a1.1, 0, (IntKind.wrap .i64 (a0.1 - 1)), ())) fun r0 =>
  bif r0.1 then
    Option.bind (P_bn (a1.2.1, 0, (IntKind.wrap .i64 (a0.2.1 - 1)), ())) fun r2 =>
    bif r2.1 then
      Option.bind (P_bn (a1.2.2.1, 0, (IntKind.wrap .i64 (a0.2.2.1 - 1)), ())) fun r4 =>
      some (r4.1, ())
    else
      some (false, ())
  else
    some (false, ()) := by
  rewrite [h_cv]
  kernel_rfl
abbrev As_a7 : List ATy := [.data true T_A3, .data true T_A3]
abbrev R_a7 : List (Bool × Ty) := [(false, .bool)]
abbrev M_a7 : List RMode := []
abbrev Ft_a7 : Type := D_A3 × D_A3 × Unit → Option (Bool × Unit)
noncomputable def X_a7 : Ctx := { types := TT, globals := [], con := [], keep := [(2, ⟨[.box 2, .box 3, .tmp 2, .tmp 3, .tmp 5], []⟩)], results := [.tmp 4], ntmps := 24, n := N }
noncomputable def B_a7 : Code := (Tryz.f117.body).getD .skip
noncomputable def L_a7_2 (m0 : Nat) (p0 p1 p2 p3 p4 p5 p6 : Int) : Option (denL R_a7) := loopF X_a7 B_a7 R_a7 M_a7 2 [m0] [(.ver, .num 1), (.box 2, .box 0 false [.int .i64 p0, .int .i64 p1, .int .i64 p2]), (.box 3, .box 0 false [.int .i64 p3, .int .i64 p4, .int .i64 p5]), (.tmp 2, .val false [.addr 2 0 0]), (.tmp 3, .val false [.addr 3 0 0]), (.tmp 5, .val false [.int .i64 p6])]
noncomputable def P_a7 : Ft_a7 := hid (runF X_a7 B_a7 As_a7 R_a7 M_a7)
theorem h_a7 : P_a7 = runF X_a7 B_a7 As_a7 R_a7 M_a7 := hid_eq _
noncomputable def C_a7 : Contract := ⟨As_a7, R_a7, M_a7, P_a7⟩
theorem s_a7 : Sound Tryz.prog GG 117 C_a7 := by
  unfold C_a7; rw [h_a7]
  exact mkS Tryz.f117 trivial trivial
noncomputable def l_a7_2 := hid (L_a7_2)
theorem h_a7_2 : l_a7_2 = L_a7_2 := hid_eq _
theorem p_a7 (a0 : D_A3) (a1 : D_A3) : P_a7 (a0, a1, ()) =
  l_a7_2 N a0.1 a0.2.1 a0.2.2.1 a1.1 a1.2.1 a1.2.2.1 0 := by
  rewrite [h_a7, h_a7_2]
  kernel_rfl
theorem q_a7_2 (m0 : Nat) (p0 p1 p2 p3 p4 p5 p6 : Int) : l_a7_2 (m0 + 1) p0 p1 p2 p3 p4 p5 p6 =
  bif decide (p6 < 3) then
    bif inB p6 3 then
      bif inB p6 3 then
        bif !decide ((bif decide (p6 = (0 : Int)) then p0 else (bif decide (p6 = (1 : Int)) then p1 else p2)) = (bif decide (p6 = (0 : Int)) then p3 else (bif decide (p6 = (1 : Int)) then p4 else p5))) then
          bif inB p6 3 then
            bif inB p6 3 then
              some (decide ((bif decide (p6 = (0 : Int)) then p0 else (bif decide (p6 = (1 : Int)) then p1 else p2)) < (bif decide (p6 = (0 : Int)) then p3 else (bif decide (p6 = (1 : Int)) then p4 else p5))), ())
            else none
          else none
        else
          l_a7_2 m0 p0 p1 p2 p3 p4 p5 (IntKind.wrap .i64 (p6 + 1))
      else none
    else none
  else
    some (false, ()) := by
  rewrite [h_a7_2]
  kernel_rfl
abbrev As_at : List ATy := [.data true T_Heap]
abbrev R_at : List (Bool × Ty) := [(false, .bool)]
abbrev M_at : List RMode := []
abbrev Ft_at : Type := D_Heap × Unit → Option (Bool × Unit)
noncomputable def X_at : Ctx := { types := TT, globals := [], con := [(103, C_b0), (116, C_cv), (117, C_a7)], keep := [(4, ⟨[.box 1, .tmp 1, .tmp 3], []⟩)], results := [.tmp 2], ntmps := 46, n := N }
noncomputable def B_at : Code := (Tryz.f83.body).getD .skip
noncomputable def L_at_4 (m0 : Nat) (p0 p1 p2 : Int) (p3 : List D_A3) (p4 : Int) : Option (denL R_at) := loopF X_at B_at R_at M_at 4 [m0] [(.ver, .num 1), (.box 1, .box 0 false [.int .i64 p0, .int .i64 p1, .int .i64 p2, .imm T_A3 p3 (some 3)]), (.tmp 1, .val false [.addr 1 0 0]), (.tmp 3, .val false [.int .i64 p4])]
noncomputable def P_at : Ft_at := hid (runF X_at B_at As_at R_at M_at)
theorem h_at : P_at = runF X_at B_at As_at R_at M_at := hid_eq _
noncomputable def C_at : Contract := ⟨As_at, R_at, M_at, P_at⟩
theorem s_at : Sound Tryz.prog GG 83 C_at := by
  unfold C_at; rw [h_at]
  exact mkS Tryz.f83 ⟨s_b0, s_cv, s_a7, trivial⟩ trivial
noncomputable def l_at_4 := hid (L_at_4)
theorem h_at_4 : l_at_4 = L_at_4 := hid_eq _
theorem p_at (a0 : D_Heap) : P_at (a0, ()) =
  Option.bind (P_b0 (a0.1, a0.2.1, a0.2.2.1, ())) fun r0 =>
  bif !r0.1 then
    some (false, ())
  else
    l_at_4 N a0.1 a0.2.1 a0.2.2.1 a0.2.2.2.1 0 := by
  rewrite [h_at, h_at_4]
  kernel_rfl
theorem q_at_4 (m0 : Nat) (p0 p1 p2 : Int) (p3 : List D_A3) (p4 : Int) : l_at_4 (m0 + 1) p0 p1 p2 p3 p4 =
  bif decide (p4 < (List.length p3 : Int)) then
    bif inB p4 (List.length p3) then
      Option.bind (P_cv ((p0, (p1, (p2, (p3, ())))), (nth T_A3 p3 p4), ())) fun r2 =>
      bif !r2.1 then
        some (false, ())
      else
        bif decide (p4 > 0) then
          bif inB (IntKind.wrap .i64 (p4 - 1)) (List.length p3) then
            bif inB p4 (List.length p3) then
              Option.bind (P_a7 ((nth T_A3 p3 (IntKind.wrap .i64 (p4 - 1))), (nth T_A3 p3 p4), ())) fun r7 =>
              bif !r7.1 then
                some (false, ())
              else
                l_at_4 m0 p0 p1 p2 p3 (IntKind.wrap .i64 (p4 + 1))
            else none
          else none
        else
          l_at_4 m0 p0 p1 p2 p3 (IntKind.wrap .i64 (p4 + 1))
    else none
  else
    some (true, ()) := by
  rewrite [h_at_4]
  kernel_rfl
abbrev As_ci : List ATy := [.data false (.int .i64)]
abbrev R_ci : List (Bool × Ty) := [(false, (.int .i64)), (false, (.int .i64))]
abbrev M_ci : List RMode := []
abbrev Ft_ci : Type := Int × Unit → Option (Int × Int × Unit)
noncomputable def X_ci : Ctx := { types := TT, globals := [], con := [], keep := [], results := [.tmp 2, .tmp 3], ntmps := 9, n := N }
noncomputable def B_ci : Code := (Tryz.f130.body).getD .skip
noncomputable def P_ci : Ft_ci := hid (runF X_ci B_ci As_ci R_ci M_ci)
theorem h_ci : P_ci = runF X_ci B_ci As_ci R_ci M_ci := hid_eq _
noncomputable def C_ci : Contract := ⟨As_ci, R_ci, M_ci, P_ci⟩
theorem s_ci : Sound Tryz.prog GG 130 C_ci := by
  unfold C_ci; rw [h_ci]
  exact mkS Tryz.f130 trivial trivial
theorem p_ci (a0 : Int) : P_ci (a0, ()) =
  bif decide (a0 = 0) then
    some (1, 2, ())
  else
    bif decide (a0 = 1) then
      some (0, 2, ())
    else
      some (0, 1, ()) := by
  rewrite [h_ci]
  kernel_rfl
abbrev As_ce : List ATy := [.data true T_Heap, .data false (.int .i64)]
abbrev R_ce : List (Bool × Ty) := [(false, (.int .i64))]
abbrev M_ce : List RMode := []
abbrev Ft_ce : Type := D_Heap × Int × Unit → Option (Int × Unit)
noncomputable def X_ce : Ctx := { types := TT, globals := [], con := [], keep := [], results := [.tmp 4], ntmps := 14, n := N }
noncomputable def B_ce : Code := (Tryz.f132.body).getD .skip
noncomputable def P_ce : Ft_ce := hid (runF X_ce B_ce As_ce R_ce M_ce)
theorem h_ce : P_ce = runF X_ce B_ce As_ce R_ce M_ce := hid_eq _
noncomputable def C_ce : Contract := ⟨As_ce, R_ce, M_ce, P_ce⟩
theorem s_ce : Sound Tryz.prog GG 132 C_ce := by
  unfold C_ce; rw [h_ce]
  exact mkS Tryz.f132 trivial trivial
theorem p_ce (a0 : D_Heap) (a1 : Int) : P_ce (a0, a1, ()) =
  bif inB a1 3 then
    some ((bif decide (a1 = (0 : Int)) then a0.1 else (bif decide (a1 = (1 : Int)) then a0.2.1 else a0.2.2.1)), ())
  else none := by
  rewrite [h_ce]
  kernel_rfl
abbrev As_ap : List ATy := [.data true T_Heap, .data false (.int .i64)]
abbrev R_ap : List (Bool × Ty) := [(false, (.sl (.int .i64)))]
abbrev M_ap : List RMode := [.own 3]
abbrev Ft_ap : Type := D_Heap × Int × Unit → Option ((List Int) × Unit)
noncomputable def X_ap : Ctx := { types := TT, globals := [], con := [(130, C_ci), (132, C_ce)], keep := [(4, ⟨[.box 2, .tmp 2, .tmp 5, .tmp 6, .tmp 7, .tmp 8], []⟩)], results := [.tmp 4], ntmps := 54, n := N }
noncomputable def B_ap : Code := (Tryz.f131.body).getD .skip
noncomputable def L_ap_4 (m0 : Nat) (p0 p1 p2 : Int) (p3 : List D_A3) (p4 p5 : Int) (p6 : List Int) (p7 : Int) : Option (denL R_ap) := loopF X_ap B_ap R_ap M_ap 4 [m0] [(.ver, .num 1), (.box 2, .box 0 false [.int .i64 p0, .int .i64 p1, .int .i64 p2, .imm T_A3 p3 (some 3)]), (.tmp 2, .val false [.addr 2 0 0]), (.tmp 5, .val false [.int .i64 p4]), (.tmp 6, .val false [.int .i64 p5]), (.tmp 7, .val false [.own 3 (.int .i64) 0 p6]), (.tmp 8, .val false [.int .i64 p7])]
noncomputable def P_ap : Ft_ap := hid (runF X_ap B_ap As_ap R_ap M_ap)
theorem h_ap : P_ap = runF X_ap B_ap As_ap R_ap M_ap := hid_eq _
noncomputable def C_ap : Contract := ⟨As_ap, R_ap, M_ap, P_ap⟩
theorem s_ap : Sound Tryz.prog GG 131 C_ap := by
  unfold C_ap; rw [h_ap]
  exact mkS Tryz.f131 ⟨s_ci, s_ce, trivial⟩ trivial
noncomputable def l_ap_4 := hid (L_ap_4)
theorem h_ap_4 : l_ap_4 = L_ap_4 := hid_eq _
theorem p_ap (a0 : D_Heap) (a1 : Int) : P_ap (a0, a1, ()) =
  Option.bind (P_ci (a1, ())) fun r0 =>
  Option.bind (P_ce (a0, r0.1, ())) fun r1 =>
  Option.bind (P_ce (a0, r0.2.1, ())) fun r2 =>
  bif (decide ((0 : Int) ≤ (IntKind.wrap .i64 (r1.1 * r2.1))) && decide (((IntKind.wrap .i64 (r1.1 * r2.1)) : Int) ≤ (IntKind.wrap .i64 (r1.1 * r2.1))) && decide (((IntKind.wrap .i64 (r1.1 * r2.1)) : Int) * (8 : Nat) ≤ 140737488355328) && decide (((IntKind.wrap .i64 (r1.1 * r2.1)) : Int) ≤ 140737488355328)) then
    l_ap_4 N a0.1 a0.2.1 a0.2.2.1 a0.2.2.2.1 r0.1 r0.2.1 (List.replicate (Int.toNat (IntKind.wrap .i64 (r1.1 * r2.1))) (Ty.dflt ((.int .i64) : Ty))) 0
  else none := by
  rewrite [h_ap, h_ap_4]
  kernel_rfl
theorem q_ap_4 (m0 : Nat) (p0 p1 p2 : Int) (p3 : List D_A3) (p4 p5 : Int) (p6 : List Int) (p7 : Int) : l_ap_4 (m0 + 1) p0 p1 p2 p3 p4 p5 p6 p7 =
  bif decide (p7 < (List.length p3 : Int)) then
    bif inB p7 (List.length p3) then
      bif inB p4 3 then
        Option.bind (P_ce ((p0, (p1, (p2, (p3, ())))), p5, ())) fun r3 =>
        bif inB p7 (List.length p3) then
          bif inB p5 3 then
            bif inB (IntKind.wrap .i64 ((IntKind.wrap .i64 ((bif decide (p4 = (0 : Int)) then ((nth T_A3 p3 p7)).1 else (bif decide (p4 = (1 : Int)) then (((nth T_A3 p3 p7)).2).1 else ((((nth T_A3 p3 p7)).2).2).1)) * r3.1)) + (bif decide (p5 = (0 : Int)) then ((nth T_A3 p3 p7)).1 else (bif decide (p5 = (1 : Int)) then (((nth T_A3 p3 p7)).2).1 else ((((nth T_A3 p3 p7)).2).2).1)))) (List.length p6) then
              bif inB (IntKind.wrap .i64 ((IntKind.wrap .i64 ((bif decide (p4 = (0 : Int)) then ((nth T_A3 p3 p7)).1 else (bif decide (p4 = (1 : Int)) then (((nth T_A3 p3 p7)).2).1 else ((((nth T_A3 p3 p7)).2).2).1)) * r3.1)) + (bif decide (p5 = (0 : Int)) then ((nth T_A3 p3 p7)).1 else (bif decide (p5 = (1 : Int)) then (((nth T_A3 p3 p7)).2).1 else ((((nth T_A3 p3 p7)).2).2).1)))) (List.length p6) then
                l_ap_4 m0 p0 p1 p2 p3 p4 p5 (List.set p6 (Int.toNat (IntKind.wrap .i64 ((IntKind.wrap .i64 ((bif decide (p4 = (0 : Int)) then ((nth T_A3 p3 p7)).1 else (bif decide (p4 = (1 : Int)) then (((nth T_A3 p3 p7)).2).1 else ((((nth T_A3 p3 p7)).2).2).1)) * r3.1)) + (bif decide (p5 = (0 : Int)) then ((nth T_A3 p3 p7)).1 else (bif decide (p5 = (1 : Int)) then (((nth T_A3 p3 p7)).2).1 else ((((nth T_A3 p3 p7)).2).2).1))))) (IntKind.wrap .i64 ((nth ((.int .i64) : Ty) p6 (IntKind.wrap .i64 ((IntKind.wrap .i64 ((bif decide (p4 = (0 : Int)) then ((nth T_A3 p3 p7)).1 else (bif decide (p4 = (1 : Int)) then (((nth T_A3 p3 p7)).2).1 else ((((nth T_A3 p3 p7)).2).2).1)) * r3.1)) + (bif decide (p5 = (0 : Int)) then ((nth T_A3 p3 p7)).1 else (bif decide (p5 = (1 : Int)) then (((nth T_A3 p3 p7)).2).1 else ((((nth T_A3 p3 p7)).2).2).1))))) + 1))) (IntKind.wrap .i64 (p7 + 1))
              else none
            else none
          else none
        else none
      else none
    else none
  else
    some (p6, ()) := by
  rewrite [h_ap_4]
  kernel_rfl
abbrev As_df : List ATy := [.data false (.int .i64), .data false (.int .i64)]
abbrev R_df : List (Bool × Ty) := [(false, (.int .i64))]
abbrev M_df : List RMode := []
abbrev Ft_df : Type := Int × Int × Unit → Option (Int × Unit)
noncomputable def X_df : Ctx := { types := TT, globals := [], con := [], keep := [], results := [.tmp 4], ntmps := 10, n := N }
noncomputable def B_df : Code := (Tryz.f139.body).getD .skip
noncomputable def P_df : Ft_df := hid (runF X_df B_df As_df R_df M_df)
theorem h_df : P_df = runF X_df B_df As_df R_df M_df := hid_eq _
noncomputable def C_df : Contract := ⟨As_df, R_df, M_df, P_df⟩
theorem s_df : Sound Tryz.prog GG 139 C_df := by
  unfold C_df; rw [h_df]
  exact mkS Tryz.f139 trivial trivial
theorem p_df (a0 : Int) (a1 : Int) : P_df (a0, a1, ()) =
  bif decide (a0 < a1) then
    some (a0, ())
  else
    some (a1, ()) := by
  rewrite [h_df]
  kernel_rfl
abbrev As_a0 : List ATy := [.data false (.sl (.int .i64))]
abbrev R_a0 : List (Bool × Ty) := [(false, (.sl (.int .i64)))]
abbrev M_a0 : List RMode := [.own 3]
abbrev Ft_a0 : Type := (List Int) × Unit → Option ((List Int) × Unit)
noncomputable def X_a0 : Ctx := { types := TT, globals := [], con := [(139, C_df)], keep := [(3, ⟨[.tmp 0, .tmp 3, .tmp 4], []⟩)], results := [.tmp 2], ntmps := 21, n := N }
noncomputable def B_a0 : Code := (Tryz.f142.body).getD .skip
noncomputable def L_a0_3 (m0 : Nat) (p0 p1 : List Int) (p2 : Int) : Option (denL R_a0) := loopF X_a0 B_a0 R_a0 M_a0 3 [m0] [(.ver, .num 1), (.tmp 0, .val false [.imm (.int .i64) p0 (some 0)]), (.tmp 3, .val false [.own 3 (.int .i64) 0 p1]), (.tmp 4, .val false [.int .i64 p2])]
noncomputable def P_a0 : Ft_a0 := hid (runF X_a0 B_a0 As_a0 R_a0 M_a0)
theorem h_a0 : P_a0 = runF X_a0 B_a0 As_a0 R_a0 M_a0 := hid_eq _
noncomputable def C_a0 : Contract := ⟨As_a0, R_a0, M_a0, P_a0⟩
theorem s_a0 : Sound Tryz.prog GG 142 C_a0 := by
  unfold C_a0; rw [h_a0]
  exact mkS Tryz.f142 ⟨s_df, trivial⟩ trivial
noncomputable def l_a0_3 := hid (L_a0_3)
theorem h_a0_3 : l_a0_3 = L_a0_3 := hid_eq _
theorem p_a0 (a0 : List Int) : P_a0 (a0, ()) =
  l_a0_3 N a0 ([] : List Int) 0 := by
  rewrite [h_a0, h_a0_3]
  kernel_rfl
theorem q_a0_3 (m0 : Nat) (p0 p1 : List Int) (p2 : Int) : l_a0_3 (m0 + 1) p0 p1 p2 =
  bif decide (p2 < (List.length p0 : Int)) then
    bif inB p2 (List.length p0) then
      Option.bind (P_df ((nth ((.int .i64) : Ty) p0 p2), 1, ())) fun r2 =>
      bif (decide (((List.length p1) + (List.length ([r2.1] : List Int))) * 8 ≤ 140737488355328) && decide (((List.length p1) + (List.length ([r2.1] : List Int))) ≤ 140737488355328)) then
        l_a0_3 m0 p0 (p1 ++ ([r2.1] : List Int)) (IntKind.wrap .i64 (p2 + 1))
      else none
    else none
  else
    some (p1, ()) := by
  rewrite [h_a0_3]
  kernel_rfl
abbrev As_co : List ATy := [.data true T_Heap]
abbrev R_co : List (Bool × Ty) := [(false, (.sl (.int .i64)))]
abbrev M_co : List RMode := [.own 3]
abbrev Ft_co : Type := D_Heap × Unit → Option ((List Int) × Unit)
noncomputable def X_co : Ctx := { types := TT, globals := [], con := [(131, C_ap), (142, C_a0)], keep := [], results := [.tmp 2], ntmps := 6, n := N }
noncomputable def B_co : Code := (Tryz.f120.body).getD .skip
noncomputable def P_co : Ft_co := hid (runF X_co B_co As_co R_co M_co)
theorem h_co : P_co = runF X_co B_co As_co R_co M_co := hid_eq _
noncomputable def C_co : Contract := ⟨As_co, R_co, M_co, P_co⟩
theorem s_co : Sound Tryz.prog GG 120 C_co := by
  unfold C_co; rw [h_co]
  exact mkS Tryz.f120 ⟨s_ap, s_a0, trivial⟩ trivial
theorem p_co (a0 : D_Heap) : P_co (a0, ()) =
  Option.bind (P_ap (a0, 2, ())) fun r0 =>
  Option.bind (P_a0 (r0.1, ())) fun r1 =>
  some (r1.1, ()) := by
  rewrite [h_co]
  kernel_rfl
abbrev As_ct : List ATy := [.data true T_Heap]
abbrev R_ct : List (Bool × Ty) := [(false, (.sl (.int .i64)))]
abbrev M_ct : List RMode := [.own 3]
abbrev Ft_ct : Type := D_Heap × Unit → Option ((List Int) × Unit)
noncomputable def X_ct : Ctx := { types := TT, globals := [], con := [(131, C_ap), (142, C_a0)], keep := [], results := [.tmp 2], ntmps := 6, n := N }
noncomputable def B_ct : Code := (Tryz.f121.body).getD .skip
noncomputable def P_ct : Ft_ct := hid (runF X_ct B_ct As_ct R_ct M_ct)
theorem h_ct : P_ct = runF X_ct B_ct As_ct R_ct M_ct := hid_eq _
noncomputable def C_ct : Contract := ⟨As_ct, R_ct, M_ct, P_ct⟩
theorem s_ct : Sound Tryz.prog GG 121 C_ct := by
  unfold C_ct; rw [h_ct]
  exact mkS Tryz.f121 ⟨s_ap, s_a0, trivial⟩ trivial
theorem p_ct (a0 : D_Heap) : P_ct (a0, ()) =
  Option.bind (P_ap (a0, 1, ())) fun r0 =>
  Option.bind (P_a0 (r0.1, ())) fun r1 =>
  some (r1.1, ()) := by
  rewrite [h_ct]
  kernel_rfl
abbrev As_cl : List ATy := [.data true T_Heap]
abbrev R_cl : List (Bool × Ty) := [(false, (.sl (.int .i64)))]
abbrev M_cl : List RMode := [.own 3]
abbrev Ft_cl : Type := D_Heap × Unit → Option ((List Int) × Unit)
noncomputable def X_cl : Ctx := { types := TT, globals := [], con := [(131, C_ap), (142, C_a0)], keep := [], results := [.tmp 2], ntmps := 6, n := N }
noncomputable def B_cl : Code := (Tryz.f122.body).getD .skip
noncomputable def P_cl : Ft_cl := hid (runF X_cl B_cl As_cl R_cl M_cl)
theorem h_cl : P_cl = runF X_cl B_cl As_cl R_cl M_cl := hid_eq _
noncomputable def C_cl : Contract := ⟨As_cl, R_cl, M_cl, P_cl⟩
theorem s_cl : Sound Tryz.prog GG 122 C_cl := by
  unfold C_cl; rw [h_cl]
  exact mkS Tryz.f122 ⟨s_ap, s_a0, trivial⟩ trivial
theorem p_cl (a0 : D_Heap) : P_cl (a0, ()) =
  Option.bind (P_ap (a0, 0, ())) fun r0 =>
  Option.bind (P_a0 (r0.1, ())) fun r1 =>
  some (r1.1, ()) := by
  rewrite [h_cl]
  kernel_rfl
abbrev As_cf : List ATy := [.data true T_Heap]
abbrev R_cf : List (Bool × Ty) := [(true, T_Shadow)]
abbrev M_cf : List RMode := [.own 3, .own 3, .own 3]
abbrev Ft_cf : Type := D_Heap × Unit → Option (D_Shadow × Unit)
noncomputable def X_cf : Ctx := { types := TT, globals := [], con := [(120, C_co), (121, C_ct), (122, C_cl)], keep := [], results := [.cell 2 35], ntmps := 16, n := N }
noncomputable def B_cf : Code := (Tryz.f85.body).getD .skip
noncomputable def P_cf : Ft_cf := hid (runF X_cf B_cf As_cf R_cf M_cf)
theorem h_cf : P_cf = runF X_cf B_cf As_cf R_cf M_cf := hid_eq _
noncomputable def C_cf : Contract := ⟨As_cf, R_cf, M_cf, P_cf⟩
theorem s_cf : Sound Tryz.prog GG 85 C_cf := by
  unfold C_cf; rw [h_cf]
  exact mkS Tryz.f85 ⟨s_co, s_ct, s_cl, trivial⟩ trivial
theorem p_cf (a0 : D_Heap) : P_cf (a0, ()) =
  Option.bind (P_co (a0, ())) fun r0 =>
  Option.bind (P_ct (a0, ())) fun r1 =>
  Option.bind (P_cl (a0, ())) fun r2 =>
  some ((a0.1, (a0.2.1, (a0.2.2.1, (r0.1, (r1.1, (r2.1, ())))))), ()) := by
  rewrite [h_cf]
  kernel_rfl
abbrev As_c6 : List ATy := [.lptr T_l1Cur]
abbrev R_c6 : List (Bool × Ty) := [(false, (.int .i64))]
abbrev M_c6 : List RMode := []
abbrev Ft_c6 : Type := D_l1Cur × Unit → Option ((Int × Unit) × (D_l1Cur × Unit))
noncomputable def X_c6 : Ctx := { types := TT, globals := [], con := [], keep := [], results := [.tmp 2], ntmps := 62, n := N }
noncomputable def B_c6 : Code := (Tryz.f134.body).getD .skip
noncomputable def P_c6 : Ft_c6 := hid (runFM X_c6 B_c6 As_c6 R_c6 M_c6)
theorem h_c6 : P_c6 = runFM X_c6 B_c6 As_c6 R_c6 M_c6 := hid_eq _
noncomputable def C_c6 : MContract := ⟨As_c6, R_c6, M_c6, P_c6⟩
theorem s_c6 : SoundM Tryz.prog n0 GG 134 C_c6 := by
  unfold C_c6; rw [h_c6]
  exact mkSM Tryz.f134 trivial trivial
theorem p_c6 (a0 : D_l1Cur) : P_c6 (a0, ()) =
  bif decide (a0.2.1 < (List.length a0.1 : Int)) then
    bif inB a0.2.1 (List.length a0.1) then
      bif decide ((IntKind.wrap .i64 (a0.2.1 + 1)) ≤ (List.length a0.1 : Int)) then
        some (((IntKind.wrap .i64 (nth ((.int .u8) : Ty) a0.1 a0.2.1)), ()), ((a0.1, ((IntKind.wrap .i64 (a0.2.1 + 1)), ((IntKind.wrap .u64 ((IntKind.wrap .u64 ((IntKind.wrap .u64 (a0.2.2.1 * 6364136223846793005)) + (IntKind.wrap .u64 (IntKind.wrap .i64 (nth ((.int .u8) : Ty) a0.1 a0.2.1))))) + 462197)), ()))), ()))
      else
        some (((IntKind.wrap .i64 (intBits .and .u64 (shrI .u64 (IntKind.wrap .u64 ((IntKind.wrap .u64 ((IntKind.wrap .u64 (a0.2.2.1 * 6364136223846793005)) + (IntKind.wrap .u64 (IntKind.wrap .i64 (nth ((.int .u8) : Ty) a0.1 a0.2.1))))) + 462197)) 40) 255)), ()), ((a0.1, ((IntKind.wrap .i64 (a0.2.1 + 1)), ((IntKind.wrap .u64 ((IntKind.wrap .u64 ((IntKind.wrap .u64 (a0.2.2.1 * 6364136223846793005)) + (IntKind.wrap .u64 (IntKind.wrap .i64 (nth ((.int .u8) : Ty) a0.1 a0.2.1))))) + 462197)), ()))), ()))
    else none
  else
    bif decide ((IntKind.wrap .i64 (a0.2.1 + 1)) ≤ (List.length a0.1 : Int)) then
      some ((0, ()), ((a0.1, ((IntKind.wrap .i64 (a0.2.1 + 1)), ((IntKind.wrap .u64 ((IntKind.wrap .u64 ((IntKind.wrap .u64 (a0.2.2.1 * 6364136223846793005)) + 0)) + 462197)), ()))), ()))
    else
      some (((IntKind.wrap .i64 (intBits .and .u64 (shrI .u64 (IntKind.wrap .u64 ((IntKind.wrap .u64 ((IntKind.wrap .u64 (a0.2.2.1 * 6364136223846793005)) + 0)) + 462197)) 40) 255)), ()), ((a0.1, ((IntKind.wrap .i64 (a0.2.1 + 1)), ((IntKind.wrap .u64 ((IntKind.wrap .u64 ((IntKind.wrap .u64 (a0.2.2.1 * 6364136223846793005)) + 0)) + 462197)), ()))), ())) := by
  rewrite [h_c6]
  kernel_rfl
abbrev As_av : List ATy := [.lptr T_l1Cur, .data false (.int .i64)]
abbrev R_av : List (Bool × Ty) := [(false, (.int .i64))]
abbrev M_av : List RMode := []
abbrev Ft_av : Type := D_l1Cur × Int × Unit → Option ((Int × Unit) × (D_l1Cur × Unit))
noncomputable def X_av : Ctx := { types := TT, globals := [], con := [], mcon := [(134, C_c6)], keep := [], results := [.tmp 4], ntmps := 20, n := N }
noncomputable def B_av : Code := (Tryz.f109.body).getD .skip
noncomputable def P_av : Ft_av := hid (runFM X_av B_av As_av R_av M_av)
theorem h_av : P_av = runFM X_av B_av As_av R_av M_av := hid_eq _
noncomputable def C_av : MContract := ⟨As_av, R_av, M_av, P_av⟩
theorem s_av : SoundM Tryz.prog n0 GG 109 C_av := by
  unfold C_av; rw [h_av]
  exact mkSM Tryz.f109 trivial ⟨s_c6, trivial⟩
theorem p_av (a0 : D_l1Cur) (a1 : Int) : P_av (a0, a1, ()) =
  bif decide (a1 ≤ 1) then
    some ((0, ()), (a0, ()))
  else
    Option.bind (P_c6 (a0, ())) fun r1 =>
    bif decide (a1 > 200) then
      Option.bind (P_c6 ((a0.1, r1.2.1.2), ())) fun r3 =>
      bif !decide (a1 = 0) then
        some (((Int.tmod (IntKind.wrap .i64 ((IntKind.wrap .i64 (r1.1.1 * 256)) + r3.1.1)) a1), ()), ((a0.1, r3.2.1.2), ()))
      else none
    else
      bif !decide (a1 = 0) then
        some (((Int.tmod r1.1.1 a1), ()), ((a0.1, r1.2.1.2), ()))
      else none := by
  rewrite [h_av]
  kernel_rfl
abbrev As_a5 : List ATy := [.lptr T_l1Cur, .data false (.sl (.int .i64))]
abbrev R_a5 : List (Bool × Ty) := [(false, (.int .i64))]
abbrev M_a5 : List RMode := []
abbrev Ft_a5 : Type := D_l1Cur × (List Int) × Unit → Option ((Int × Unit) × (D_l1Cur × Unit))
noncomputable def X_a5 : Ctx := { types := TT, globals := [], con := [], mcon := [(109, C_av)], keep := [], results := [.tmp 4], ntmps := 12, n := N }
noncomputable def B_a5 : Code := (Tryz.f92.body).getD .skip
noncomputable def P_a5 : Ft_a5 := hid (runFM X_a5 B_a5 As_a5 R_a5 M_a5)
theorem h_a5 : P_a5 = runFM X_a5 B_a5 As_a5 R_a5 M_a5 := hid_eq _
noncomputable def C_a5 : MContract := ⟨As_a5, R_a5, M_a5, P_a5⟩
theorem s_a5 : SoundM Tryz.prog n0 GG 92 C_a5 := by
  unfold C_a5; rw [h_a5]
  exact mkSM Tryz.f92 trivial ⟨s_av, trivial⟩
theorem p_a5 (a0 : D_l1Cur) (a1 : List Int) : P_a5 (a0, a1, ()) =
  Option.bind (P_av (a0, (List.length a1 : Int), ())) fun r0 =>
  bif inB r0.1.1 (List.length a1) then
    some (((nth ((.int .i64) : Ty) a1 r0.1.1), ()), ((a0.1, r0.2.1.2), ()))
  else none := by
  rewrite [h_a5]
  kernel_rfl
abbrev As_b5 : List ATy := [.lptr T_l1Cur, .data false (.int .i64)]
abbrev R_b5 : List (Bool × Ty) := [(false, .bool)]
abbrev M_b5 : List RMode := []
abbrev Ft_b5 : Type := D_l1Cur × Int × Unit → Option ((Bool × Unit) × (D_l1Cur × Unit))
noncomputable def X_b5 : Ctx := { types := TT, globals := [], con := [], mcon := [(109, C_av)], keep := [], results := [.tmp 4], ntmps := 9, n := N }
noncomputable def B_b5 : Code := (Tryz.f91.body).getD .skip
noncomputable def P_b5 : Ft_b5 := hid (runFM X_b5 B_b5 As_b5 R_b5 M_b5)
theorem h_b5 : P_b5 = runFM X_b5 B_b5 As_b5 R_b5 M_b5 := hid_eq _
noncomputable def C_b5 : MContract := ⟨As_b5, R_b5, M_b5, P_b5⟩
theorem s_b5 : SoundM Tryz.prog n0 GG 91 C_b5 := by
  unfold C_b5; rw [h_b5]
  exact mkSM Tryz.f91 trivial ⟨s_av, trivial⟩
theorem p_b5 (a0 : D_l1Cur) (a1 : Int) : P_b5 (a0, a1, ()) =
  Option.bind (P_av (a0, a1, ())) fun r0 =>
  some ((decide (r0.1.1 = 0), ()), ((a0.1, r0.2.1.2), ())) := by
  rewrite [h_b5]
  kernel_rfl
abbrev As_bp : List ATy := [.data false (.int .i64), .data false (.int .i64), .data false (.int .i64)]
abbrev R_bp : List (Bool × Ty) := [(true, T_Heap)]
abbrev M_bp : List RMode := [.own 55]
abbrev Ft_bp : Type := Int × Int × Int × Unit → Option (D_Heap × Unit)
noncomputable def X_bp : Ctx := { types := TT, globals := [], con := [], keep := [], results := [.cell 6 26], ntmps := 12, n := N }
noncomputable def B_bp : Code := (Tryz.f97.body).getD .skip
noncomputable def P_bp : Ft_bp := hid (runF X_bp B_bp As_bp R_bp M_bp)
theorem h_bp : P_bp = runF X_bp B_bp As_bp R_bp M_bp := hid_eq _
noncomputable def C_bp : Contract := ⟨As_bp, R_bp, M_bp, P_bp⟩
theorem s_bp : Sound Tryz.prog GG 97 C_bp := by
  unfold C_bp; rw [h_bp]
  exact mkS Tryz.f97 trivial trivial
theorem p_bp (a0 : Int) (a1 : Int) (a2 : Int) : P_bp (a0, a1, a2, ()) =
  some ((a0, (a1, (a2, (([] : List D_A3), ())))), ()) := by
  rewrite [h_bp]
  kernel_rfl
abbrev As_ad : List ATy := [.data true T_Heap]
abbrev R_ad : List (Bool × Ty) := [(false, (.sl T_A3))]
abbrev M_ad : List RMode := [.own 55]
abbrev Ft_ad : Type := D_Heap × Unit → Option ((List D_A3) × Unit)
noncomputable def X_ad : Ctx := { types := TT, globals := [], con := [], keep := [(3, ⟨[.box 1, .tmp 1, .tmp 3, .tmp 4], []⟩), (6, ⟨[.box 1, .tmp 1, .tmp 3, .tmp 4, .tmp 5], []⟩), (9, ⟨[.box 1, .tmp 1, .tmp 3, .tmp 4, .tmp 5, .tmp 6], []⟩)], results := [.tmp 2], ntmps := 34, n := N }
noncomputable def B_ad : Code := (Tryz.f124.body).getD .skip
noncomputable def L_ad_3 (m0 : Nat) (p0 p1 p2 : Int) (p3 p4 : List D_A3) (p5 : Int) : Option (denL R_ad) := loopF X_ad B_ad R_ad M_ad 3 [m0] [(.ver, .num 1), (.box 1, .box 0 false [.int .i64 p0, .int .i64 p1, .int .i64 p2, .imm T_A3 p3 (some 3)]), (.tmp 1, .val false [.addr 1 0 0]), (.tmp 3, .val false [.own 55 T_A3 0 p4]), (.tmp 4, .val false [.int .i64 p5])]
noncomputable def L_ad_6 (m0 m1 : Nat) (p0 p1 p2 : Int) (p3 p4 : List D_A3) (p5 p6 : Int) : Option (denL R_ad) := loopF X_ad B_ad R_ad M_ad 6 [m0, m1] [(.ver, .num 1), (.box 1, .box 0 false [.int .i64 p0, .int .i64 p1, .int .i64 p2, .imm T_A3 p3 (some 3)]), (.tmp 1, .val false [.addr 1 0 0]), (.tmp 3, .val false [.own 55 T_A3 0 p4]), (.tmp 4, .val false [.int .i64 p5]), (.tmp 5, .val false [.int .i64 p6])]
noncomputable def L_ad_9 (m0 m1 m2 : Nat) (p0 p1 p2 : Int) (p3 p4 : List D_A3) (p5 p6 p7 : Int) : Option (denL R_ad) := loopF X_ad B_ad R_ad M_ad 9 [m0, m1, m2] [(.ver, .num 1), (.box 1, .box 0 false [.int .i64 p0, .int .i64 p1, .int .i64 p2, .imm T_A3 p3 (some 3)]), (.tmp 1, .val false [.addr 1 0 0]), (.tmp 3, .val false [.own 55 T_A3 0 p4]), (.tmp 4, .val false [.int .i64 p5]), (.tmp 5, .val false [.int .i64 p6]), (.tmp 6, .val false [.int .i64 p7])]
noncomputable def P_ad : Ft_ad := hid (runF X_ad B_ad As_ad R_ad M_ad)
theorem h_ad : P_ad = runF X_ad B_ad As_ad R_ad M_ad := hid_eq _
noncomputable def C_ad : Contract := ⟨As_ad, R_ad, M_ad, P_ad⟩
theorem s_ad : Sound Tryz.prog GG 124 C_ad := by
  unfold C_ad; rw [h_ad]
  exact mkS Tryz.f124 trivial trivial
noncomputable def l_ad_3 := hid (L_ad_3)
theorem h_ad_3 : l_ad_3 = L_ad_3 := hid_eq _
noncomputable def l_ad_6 := hid (L_ad_6)
theorem h_ad_6 : l_ad_6 = L_ad_6 := hid_eq _
noncomputable def l_ad_9 := hid (L_ad_9)
theorem h_ad_9 : l_ad_9 = L_ad_9 := hid_eq _
theorem p_ad (a0 : D_Heap) : P_ad (a0, ()) =
  l_ad_3 N a0.1 a0.2.1 a0.2.2.1 a0.2.2.2.1 ([] : List D_A3) 0 := by
  rewrite [h_ad, h_ad_3]
  kernel_rfl
theorem q_ad_3 (m0 : Nat) (p0 p1 p2 : Int) (p3 p4 : List D_A3) (p5 : Int) : l_ad_3 (m0 + 1) p0 p1 p2 p3 p4 p5 =
  bif decide (p5 < p0) then
    l_ad_6 m0 N p0 p1 p2 p3 p4 p5 0
  else
    some (p4, ()) := by
  rewrite [h_ad_3, h_ad_6]
  kernel_rfl
theorem q_ad_6 (m0 m1 : Nat) (p0 p1 p2 : Int) (p3 p4 : List D_A3) (p5 p6 : Int) : l_ad_6 m0 (m1 + 1) p0 p1 p2 p3 p4 p5 p6 =
  bif decide (p6 < p1) then
    l_ad_9 m0 m1 N p0 p1 p2 p3 p4 p5 p6 0
  else
    l_ad_3 m0 p0 p1 p2 p3 p4 (IntKind.wrap .i64 (p5 + 1)) := by
  rewrite [h_ad_3, h_ad_6, h_ad_9]
  kernel_rfl
theorem q_ad_9 (m0 m1 m2 : Nat) (p0 p1 p2 : Int) (p3 p4 : List D_A3) (p5 p6 p7 : Int) : l_ad_9 m0 m1 (m2 + 1) p0 p1 p2 p3 p4 p5 p6 p7 =
  bif decide (p7 < p2) then
    bif (decide (((List.length p4) + (List.length ([(p5, (p6, (p7, ())))] : List D_A3))) * 24 ≤ 140737488355328) && decide (((List.length p4) + (List.length ([(p5, (p6, (p7, ())))] : List D_A3))) ≤ 140737488355328)) then
      l_ad_9 m0 m1 m2 p0 p1 p2 p3 (p4 ++ ([(p5, (p6, (p7, ())))] : List D_A3)) p5 p6 (IntKind.wrap .i64 (p7 + 1))
    else none
  else
    l_ad_6 m0 m1 p0 p1 p2 p3 p4 p5 (IntKind.wrap .i64 (p6 + 1)) := by
  rewrite [h_ad_6, h_ad_9]
  kernel_rfl
abbrev As_bk : List ATy := [.data true T_Heap, .data true T_A3]
abbrev R_bk : List (Bool × Ty) := [(false, .bool)]
abbrev M_bk : List RMode := []
abbrev Ft_bk : Type := D_Heap × D_A3 × Unit → Option (Bool × Unit)
noncomputable def X_bk : Ctx := { types := TT, globals := [], con := [], keep := [(2, ⟨[.box 2, .box 3, .tmp 2, .tmp 3, .tmp 5], []⟩)], results := [.tmp 4], ntmps := 20, n := N }
noncomputable def B_bk : Code := (Tryz.f144.body).getD .skip
noncomputable def L_bk_2 (m0 : Nat) (p0 p1 p2 : Int) (p3 : List D_A3) (p4 p5 p6 p7 : Int) : Option (denL R_bk) := loopF X_bk B_bk R_bk M_bk 2 [m0] [(.ver, .num 1), (.box 2, .box 0 false [.int .i64 p0, .int .i64 p1, .int .i64 p2, .imm T_A3 p3 (some 3)]), (.box 3, .box 0 false [.int .i64 p4, .int .i64 p5, .int .i64 p6]), (.tmp 2, .val false [.addr 2 0 0]), (.tmp 3, .val false [.addr 3 0 0]), (.tmp 5, .val false [.int .i64 p7])]
noncomputable def P_bk : Ft_bk := hid (runF X_bk B_bk As_bk R_bk M_bk)
theorem h_bk : P_bk = runF X_bk B_bk As_bk R_bk M_bk := hid_eq _
noncomputable def C_bk : Contract := ⟨As_bk, R_bk, M_bk, P_bk⟩
theorem s_bk : Sound Tryz.prog GG 144 C_bk := by
  unfold C_bk; rw [h_bk]
  exact mkS Tryz.f144 trivial trivial
noncomputable def l_bk_2 := hid (L_bk_2)
theorem h_bk_2 : l_bk_2 = L_bk_2 := hid_eq _
theorem p_bk (a0 : D_Heap) (a1 : D_A3) : P_bk (a0, a1, ()) =
  l_bk_2 N a0.1 a0.2.1 a0.2.2.1 a0.2.2.2.1 a1.1 a1.2.1 a1.2.2.1 0 := by
  rewrite [h_bk, h_bk_2]
  kernel_rfl
theorem q_bk_2 (m0 : Nat) (p0 p1 p2 : Int) (p3 : List D_A3) (p4 p5 p6 p7 : Int) : l_bk_2 (m0 + 1) p0 p1 p2 p3 p4 p5 p6 p7 =
  bif decide (p7 < (List.length p3 : Int)) then
    bif inB p7 (List.length p3) then
      bif (decide (((nth T_A3 p3 p7)).1 = p4) && (decide ((((nth T_A3 p3 p7)).2).1 = p5) && (decide (((((nth T_A3 p3 p7)).2).2).1 = p6) && true))) then
        some (true, ())
      else
        l_bk_2 m0 p0 p1 p2 p3 p4 p5 p6 (IntKind.wrap .i64 (p7 + 1))
    else none
  else
    some (false, ()) := by
  rewrite [h_bk_2]
  kernel_rfl
abbrev As_a3 : List ATy := [.data true T_Heap]
abbrev R_a3 : List (Bool × Ty) := [(true, T_Heap), (false, .bool)]
abbrev M_a3 : List RMode := [.own 55]
abbrev Ft_a3 : Type := D_Heap × Unit → Option (D_Heap × Bool × Unit)
noncomputable def X_a3 : Ctx := { types := TT, globals := [], con := [(83, C_at), (97, C_bp), (124, C_ad), (144, C_bk)], keep := [(5, ⟨[.box 1, .box 2, .box 4, .tmp 1, .tmp 2, .tmp 4, .tmp 5, .tmp 6], []⟩)], results := [.cell 2 26, .tmp 3], ntmps := 43, n := N }
noncomputable def B_a3 : Code := (Tryz.f125.body).getD .skip
noncomputable def L_a3_5 (m0 : Nat) (p0 p1 p2 : Int) (p3 : List D_A3) (p4 p5 p6 : Int) (p7 : List D_A3) (p8 p9 p10 : Int) (p11 p12 : List D_A3) (p13 : Int) : Option (denL R_a3) := loopF X_a3 B_a3 R_a3 M_a3 5 [m0] [(.ver, .num 1), (.box 1, .box 0 false [.int .i64 p0, .int .i64 p1, .int .i64 p2, .imm T_A3 p3 (some 3)]), (.box 2, .box 0 false [.int .i64 p4, .int .i64 p5, .int .i64 p6, .own 55 T_A3 0 p7]), (.box 4, .box 0 false [.int .i64 p8, .int .i64 p9, .int .i64 p10, .own 55 T_A3 0 p11]), (.tmp 1, .val false [.addr 1 0 0]), (.tmp 2, .val false [.addr 2 0 0]), (.tmp 4, .val false [.addr 4 0 0]), (.tmp 5, .val false [.own 55 T_A3 0 p12]), (.tmp 6, .val false [.int .i64 p13])]
noncomputable def P_a3 : Ft_a3 := hid (runF X_a3 B_a3 As_a3 R_a3 M_a3)
theorem h_a3 : P_a3 = runF X_a3 B_a3 As_a3 R_a3 M_a3 := hid_eq _
noncomputable def C_a3 : Contract := ⟨As_a3, R_a3, M_a3, P_a3⟩
theorem s_a3 : Sound Tryz.prog GG 125 C_a3 := by
  unfold C_a3; rw [h_a3]
  exact mkS Tryz.f125 ⟨s_at, s_bp, s_ad, s_bk, trivial⟩ trivial
noncomputable def l_a3_5 := hid (L_a3_5)
theorem h_a3_5 : l_a3_5 = L_a3_5 := hid_eq _
theorem p_a3 (a0 : D_Heap) : P_a3 (a0, ()) =
  Option.bind (P_at (a0, ())) fun r0 =>
  bif !r0.1 then
    some ((0, (0, (0, (([] : List D_A3), ())))), false, ())
  else
    Option.bind (P_bp (a0.1, a0.2.1, a0.2.2.1, ())) fun r2 =>
    Option.bind (P_ad (a0, ())) fun r3 =>
    l_a3_5 N a0.1 a0.2.1 a0.2.2.1 a0.2.2.2.1 0 0 0 ([] : List D_A3) r2.1.1 r2.1.2.1 r2.1.2.2.1 r2.1.2.2.2.1 r3.1 0 := by
  rewrite [h_a3, h_a3_5]
  kernel_rfl
theorem q_a3_5 (m0 : Nat) (p0 p1 p2 : Int) (p3 : List D_A3) (p4 p5 p6 : Int) (p7 : List D_A3) (p8 p9 p10 : Int) (p11 p12 : List D_A3) (p13 : Int) : l_a3_5 (m0 + 1) p0 p1 p2 p3 p4 p5 p6 p7 p8 p9 p10 p11 p12 p13 =
  bif decide (p13 < (List.length p12 : Int)) then
    bif inB p13 (List.length p12) then
      Option.bind (P_bk ((p0, (p1, (p2, (p3, ())))), (nth T_A3 p12 p13), ())) fun r2 =>
      bif !r2.1 then
        bif inB p13 (List.length p12) then
          bif (decide (((List.length p11) + (List.length ([(nth T_A3 p12 p13)] : List D_A3))) * 24 ≤ 140737488355328) && decide (((List.length p11) + (List.length ([(nth T_A3 p12 p13)] : List D_A3))) ≤ 140737488355328)) then
            l_a3_5 m0 p0 p1 p2 p3 p4 p5 p6 p7 p8 p9 p10 (p11 ++ ([(nth T_A3 p12 p13)] : List D_A3)) p12 (IntKind.wrap .i64 (p13 + 1))
          else none
        else none
      else
        l_a3_5 m0 p0 p1 p2 p3 p4 p5 p6 p7 p8 p9 p10 p11 p12 (IntKind.wrap .i64 (p13 + 1))
    else none
  else
    some ((p8, (p9, (p10, (p11, ())))), true, ()) := by
  rewrite [h_a3_5]
  kernel_rfl
abbrev As_a2 : List ATy := [.data false (.int .i64), .data false (.int .i64), .data false (.int .i64), .data false (.sl (.int .i64))]
abbrev R_a2 : List (Bool × Ty) := [(true, T_Heap)]
abbrev M_a2 : List RMode := [.own 55]
abbrev Ft_a2 : Type := Int × Int × Int × (List Int) × Unit → Option (D_Heap × Unit)
noncomputable def X_a2 : Ctx := { types := TT, globals := [], con := [(97, C_bp), (124, C_ad)], keep := [(4, ⟨[.box 8, .box 9, .tmp 1, .tmp 3, .tmp 8, .tmp 9, .tmp 10, .tmp 11], []⟩)], results := [.cell 8 26], ntmps := 56, n := N }
noncomputable def B_a2 : Code := (Tryz.f126.body).getD .skip
noncomputable def L_a2_4 (m0 : Nat) (p0 p1 p2 : Int) (p3 : List D_A3) (p4 p5 p6 : Int) (p7 : List D_A3) (p8 : Int) (p9 : List Int) (p10 : List D_A3) (p11 : Int) : Option (denL R_a2) := loopF X_a2 B_a2 R_a2 M_a2 4 [m0] [(.ver, .num 1), (.box 8, .box 0 false [.int .i64 p0, .int .i64 p1, .int .i64 p2, .own 55 T_A3 0 p3]), (.box 9, .box 0 false [.int .i64 p4, .int .i64 p5, .int .i64 p6, .own 55 T_A3 0 p7]), (.tmp 1, .val false [.int .i64 p8]), (.tmp 3, .val false [.imm (.int .i64) p9 (some 3)]), (.tmp 8, .val false [.addr 8 0 0]), (.tmp 9, .val false [.addr 9 0 0]), (.tmp 10, .val false [.own 55 T_A3 0 p10]), (.tmp 11, .val false [.int .i64 p11])]
noncomputable def P_a2 : Ft_a2 := hid (runF X_a2 B_a2 As_a2 R_a2 M_a2)
theorem h_a2 : P_a2 = runF X_a2 B_a2 As_a2 R_a2 M_a2 := hid_eq _
noncomputable def C_a2 : Contract := ⟨As_a2, R_a2, M_a2, P_a2⟩
theorem s_a2 : Sound Tryz.prog GG 126 C_a2 := by
  unfold C_a2; rw [h_a2]
  exact mkS Tryz.f126 ⟨s_bp, s_ad, trivial⟩ trivial
noncomputable def l_a2_4 := hid (L_a2_4)
theorem h_a2_4 : l_a2_4 = L_a2_4 := hid_eq _
theorem p_a2 (a0 : Int) (a1 : Int) (a2 : Int) (a3 : List Int) : P_a2 (a0, a1, a2, a3, ()) =
  Option.bind (P_bp (a0, a1, a2, ())) fun r0 =>
  Option.bind (P_ad (r0.1, ())) fun r1 =>
  l_a2_4 N 0 0 0 ([] : List D_A3) r0.1.1 r0.1.2.1 r0.1.2.2.1 r0.1.2.2.2.1 a1 a3 r1.1 0 := by
  rewrite [h_a2, h_a2_4]
  kernel_rfl
theorem q_a2_4 (m0 : Nat) (p0 p1 p2 : Int) (p3 : List D_A3) (p4 p5 p6 : Int) (p7 : List D_A3) (p8 : Int) (p9 : List Int) (p10 : List D_A3) (p11 : Int) : l_a2_4 (m0 + 1) p0 p1 p2 p3 p4 p5 p6 p7 p8 p9 p10 p11 =
  bif decide (p11 < (List.length p10 : Int)) then
    bif inB p11 (List.length p10) then
      bif inB p11 (List.length p10) then
        bif inB p11 (List.length p10) then
          bif inB (IntKind.wrap .i64 ((IntKind.wrap .i64 (((nth T_A3 p10 p11)).1 * p8)) + (((nth T_A3 p10 p11)).2).1)) (List.length p9) then
            bif decide (((((nth T_A3 p10 p11)).2).2).1 < (nth ((.int .i64) : Ty) p9 (IntKind.wrap .i64 ((IntKind.wrap .i64 (((nth T_A3 p10 p11)).1 * p8)) + (((nth T_A3 p10 p11)).2).1)))) then
              bif inB p11 (List.length p10) then
                bif (decide (((List.length p7) + (List.length ([(nth T_A3 p10 p11)] : List D_A3))) * 24 ≤ 140737488355328) && decide (((List.length p7) + (List.length ([(nth T_A3 p10 p11)] : List D_A3))) ≤ 140737488355328)) then
                  l_a2_4 m0 p0 p1 p2 p3 p4 p5 p6 (p7 ++ ([(nth T_A3 p10 p11)] : List D_A3)) p8 p9 p10 (IntKind.wrap .i64 (p11 + 1))
                else none
              else none
            else
              l_a2_4 m0 p0 p1 p2 p3 p4 p5 p6 p7 p8 p9 p10 (IntKind.wrap .i64 (p11 + 1))
          else none
        else none
      else none
    else none
  else
    some ((p4, (p5, (p6, (p7, ())))), ()) := by
  rewrite [h_a2_4]
  kernel_rfl
abbrev As_db : List ATy := [.data true T_Heap]
abbrev R_db : List (Bool × Ty) := [(false, (.sl (.int .i64)))]
abbrev M_db : List RMode := [.own 3]
abbrev Ft_db : Type := D_Heap × Unit → Option ((List Int) × Unit)
noncomputable def X_db : Ctx := { types := TT, globals := [], con := [(131, C_ap)], keep := [], results := [.tmp 2], ntmps := 5, n := N }
noncomputable def B_db : Code := (Tryz.f127.body).getD .skip
noncomputable def P_db : Ft_db := hid (runF X_db B_db As_db R_db M_db)
theorem h_db : P_db = runF X_db B_db As_db R_db M_db := hid_eq _
noncomputable def C_db : Contract := ⟨As_db, R_db, M_db, P_db⟩
theorem s_db : Sound Tryz.prog GG 127 C_db := by
  unfold C_db; rw [h_db]
  exact mkS Tryz.f127 ⟨s_ap, trivial⟩ trivial
theorem p_db (a0 : D_Heap) : P_db (a0, ()) =
  Option.bind (P_ap (a0, 2, ())) fun r0 =>
  some (r0.1, ()) := by
  rewrite [h_db]
  kernel_rfl
abbrev As_aw : List ATy := [.lptr T_l1Cur, .data false (.int .i64), .data false (.int .i64), .data false (.int .i64)]
abbrev R_aw : List (Bool × Ty) := [(true, T_Heap)]
abbrev M_aw : List RMode := [.own 55]
abbrev Ft_aw : Type := D_l1Cur × Int × Int × Int × Unit → Option ((D_Heap × Unit) × (D_l1Cur × Unit))
noncomputable def X_aw : Ctx := { types := TT, globals := [], con := [(97, C_bp), (103, C_b0), (124, C_ad), (125, C_a3), (126, C_a2), (127, C_db)], mcon := [(91, C_b5), (92, C_a5), (109, C_av)], keep := [(6, ⟨[.box 8, .box 9, .box 1000000, .tmp 0, .tmp 1, .tmp 2, .tmp 3, .tmp 8, .tmp 9, .tmp 10, .tmp 11, .tmp 12], []⟩)], results := [.cell 8 26], ntmps := 64, n := N }
noncomputable def B_aw : Code := (Tryz.f93.body).getD .skip
noncomputable def L_aw_6 (m0 : Nat) (p0 p1 p2 : Int) (p3 : List D_A3) (p4 p5 p6 : Int) (p7 : List D_A3) (p8 : List Int) (p9 p10 p11 p12 p13 p14 : Int) (p15 : List D_A3) (p16 : Int) : Option (denL R_aw × denM As_aw) := loopFM X_aw B_aw As_aw R_aw M_aw 6 [m0] [(.ver, .num 1), (.box 8, .box 0 false [.int .i64 p0, .int .i64 p1, .int .i64 p2, .own 55 T_A3 0 p3]), (.box 9, .box 0 false [.int .i64 p4, .int .i64 p5, .int .i64 p6, .own 55 T_A3 0 p7]), (.box 1000000, .box 0 false [.imm (.int .u8) p8 (some 4), .int .i64 p9, .int .u64 p10]), (.tmp 0, .val false [.addr 1000000 0 0]), (.tmp 1, .val false [.int .i64 p11]), (.tmp 2, .val false [.int .i64 p12]), (.tmp 3, .val false [.int .i64 p13]), (.tmp 8, .val false [.addr 8 0 0]), (.tmp 9, .val false [.addr 9 0 0]), (.tmp 10, .val false [.int .i64 p14]), (.tmp 11, .val false [.own 55 T_A3 0 p15]), (.tmp 12, .val false [.int .i64 p16])]
noncomputable def P_aw : Ft_aw := hid (runFM X_aw B_aw As_aw R_aw M_aw)
theorem h_aw : P_aw = runFM X_aw B_aw As_aw R_aw M_aw := hid_eq _
noncomputable def C_aw : MContract := ⟨As_aw, R_aw, M_aw, P_aw⟩
theorem s_aw : SoundM Tryz.prog n0 GG 93 C_aw := by
  unfold C_aw; rw [h_aw]
  exact mkSM Tryz.f93 ⟨s_bp, s_b0, s_ad, s_a3, s_a2, s_db, trivial⟩ ⟨s_b5, s_a5, s_av, trivial⟩
noncomputable def l_aw_6 := hid (L_aw_6)
theorem h_aw_6 : l_aw_6 = L_aw_6 := hid_eq _
theorem p_aw (a0 : D_l1Cur) (a1 : Int) (a2 : Int) (a3 : Int) : P_aw (a0, a1, a2, a3, ()) =
  Option.bind (P_bp (a1, a2, a3, ())) fun r0 =>
  Option.bind (P_a5 (a0, ([2, 3, 2, 4] : List Int), ())) fun r1 =>
  Option.bind (P_b0 (a1, a2, a3, ())) fun r2 =>
  bif !r2.1 then
    some ((r0.1, ()), ((a0.1, r1.2.1.2), ()))
  else
    Option.bind (P_ad (r0.1, ())) fun r4 =>
    l_aw_6 N 0 0 0 ([] : List D_A3) r0.1.1 r0.1.2.1 r0.1.2.2.1 r0.1.2.2.2.1 a0.1 r1.2.1.2.1 r1.2.1.2.2.1 a1 a2 a3 r1.1.1 r4.1 0 := by
  rewrite [h_aw, h_aw_6]
  kernel_rfl
theorem q_aw_6 (m0 : Nat) (p0 p1 p2 : Int) (p3 : List D_A3) (p4 p5 p6 : Int) (p7 : List D_A3) (p8 : List Int) (p9 p10 p11 p12 p13 p14 : Int) (p15 : List D_A3) (p16 : Int) : l_aw_6 (m0 + 1) p0 p1 p2 p3 p4 p5 p6 p7 p8 p9 p10 p11 p12 p13 p14 p15 p16 =
  bif decide (p16 < (List.length p15 : Int)) then
    Option.bind (P_b5 ((p8, (p9, (p10, ()))), p14, ())) fun r1 =>
    bif r1.1.1 then
      bif inB p16 (List.length p15) then
        bif (decide (((List.length p7) + (List.length ([(nth T_A3 p15 p16)] : List D_A3))) * 24 ≤ 140737488355328) && decide (((List.length p7) + (List.length ([(nth T_A3 p15 p16)] : List D_A3))) ≤ 140737488355328)) then
          l_aw_6 m0 p0 p1 p2 p3 p4 p5 p6 (p7 ++ ([(nth T_A3 p15 p16)] : List D_A3)) p8 r1.2.1.2.1 r1.2.1.2.2.1 p11 p12 p13 p14 p15 (IntKind.wrap .i64 (p16 + 1))
        else none
      else none
    else
      l_aw_6 m0 p0 p1 p2 p3 p4 p5 p6 p7 p8 r1.2.1.2.1 r1.2.1.2.2.1 p11 p12 p13 p14 p15 (IntKind.wrap .i64 (p16 + 1))
  else
    Option.bind (P_av ((p8, (p9, (p10, ()))), 12, ())) fun r1 =>
    bif decide (r1.1.1 = 0) then
      Option.bind (P_a3 ((p4, (p5, (p6, (p7, ())))), ())) fun r3 =>
      some ((r3.1, ()), ((p8, r1.2.1.2), ()))
    else
      bif decide (r1.1.1 = 1) then
        Option.bind (P_db ((p4, (p5, (p6, (p7, ())))), ())) fun r4 =>
        Option.bind (P_a2 (p11, p12, p13, r4.1, ())) fun r5 =>
        some ((r5.1, ()), ((p8, r1.2.1.2), ()))
      else
        some (((p4, (p5, (p6, (p7, ())))), ()), ((p8, r1.2.1.2), ())) := by
  rewrite [h_aw_6]
  kernel_rfl
abbrev As_dc : List ATy := [.lptr T_l1Cur]
abbrev R_dc : List (Bool × Ty) := [(false, (.int .i64)), (false, (.int .i64)), (false, (.int .i64))]
abbrev M_dc : List RMode := []
abbrev Ft_dc : Type := D_l1Cur × Unit → Option ((Int × Int × Int × Unit) × (D_l1Cur × Unit))
noncomputable def X_dc : Ctx := { types := TT, globals := [], con := [], mcon := [(92, C_a5), (109, C_av)], keep := [], results := [.tmp 2, .tmp 3, .tmp 4], ntmps := 37, n := N }
noncomputable def B_dc : Code := (Tryz.f133.body).getD .skip
noncomputable def P_dc : Ft_dc := hid (runFM X_dc B_dc As_dc R_dc M_dc)
theorem h_dc : P_dc = runFM X_dc B_dc As_dc R_dc M_dc := hid_eq _
noncomputable def C_dc : MContract := ⟨As_dc, R_dc, M_dc, P_dc⟩
theorem s_dc : SoundM Tryz.prog n0 GG 133 C_dc := by
  unfold C_dc; rw [h_dc]
  exact mkSM Tryz.f133 trivial ⟨s_a5, s_av, trivial⟩
theorem p_dc (a0 : D_l1Cur) : P_dc (a0, ()) =
  Option.bind (P_a5 (a0, ([2, 3, 3, 1, 4] : List Int), ())) fun r0 =>
  Option.bind (P_a5 ((a0.1, r0.2.1.2), ([2, 3, 2, 1, 4] : List Int), ())) fun r1 =>
  Option.bind (P_a5 ((a0.1, r1.2.1.2), ([2, 3, 3, 1, 4] : List Int), ())) fun r2 =>
  Option.bind (P_av ((a0.1, r2.2.1.2), 60, ())) fun r3 =>
  bif decide (r3.1.1 = 0) then
    Option.bind (P_a5 ((a0.1, r3.2.1.2), ([0, 5, (-1), 4611686018427387904] : List Int), ())) fun r5 =>
    some ((r5.1.1, r1.1.1, r2.1.1, ()), ((a0.1, r5.2.1.2), ()))
  else
    bif decide (r3.1.1 = 1) then
      Option.bind (P_a5 ((a0.1, r3.2.1.2), ([0, 5, (-1)] : List Int), ())) fun r6 =>
      some ((r0.1.1, r6.1.1, r2.1.1, ()), ((a0.1, r6.2.1.2), ()))
    else
      bif decide (r3.1.1 = 2) then
        Option.bind (P_a5 ((a0.1, r3.2.1.2), ([0, 5, (-1)] : List Int), ())) fun r7 =>
        some ((r0.1.1, r1.1.1, r7.1.1, ()), ((a0.1, r7.2.1.2), ()))
      else
        some ((r0.1.1, r1.1.1, r2.1.1, ()), ((a0.1, r3.2.1.2), ())) := by
  rewrite [h_dc]
  kernel_rfl
abbrev As_da : List ATy := [.lptr T_l1Cur]
abbrev R_da : List (Bool × Ty) := [(true, T_Heap)]
abbrev M_da : List RMode := [.own 55]
abbrev Ft_da : Type := D_l1Cur × Unit → Option ((D_Heap × Unit) × (D_l1Cur × Unit))
noncomputable def X_da : Ctx := { types := TT, globals := [], con := [], mcon := [(93, C_aw), (109, C_av), (133, C_dc)], keep := [], results := [.cell 2 26], ntmps := 56, n := N }
noncomputable def B_da : Code := (Tryz.f108.body).getD .skip
noncomputable def P_da : Ft_da := hid (runFM X_da B_da As_da R_da M_da)
theorem h_da : P_da = runFM X_da B_da As_da R_da M_da := hid_eq _
noncomputable def C_da : MContract := ⟨As_da, R_da, M_da, P_da⟩
theorem s_da : SoundM Tryz.prog n0 GG 108 C_da := by
  unfold C_da; rw [h_da]
  exact mkSM Tryz.f108 trivial ⟨s_aw, s_av, s_dc, trivial⟩
theorem p_da (a0 : D_l1Cur) : P_da (a0, ()) =
  Option.bind (P_dc (a0, ())) fun r0 =>
  Option.bind (P_aw ((a0.1, r0.2.1.2), r0.1.1, r0.1.2.1, r0.1.2.2.1, ())) fun r1 =>
  Option.bind (P_av ((a0.1, r1.2.1.2), 60, ())) fun r2 =>
  bif decide (r2.1.1 = 0) then
    bif (decide (((List.length r1.1.1.2.2.2.1) + (List.length ([(r0.1.1, (0, (0, ())))] : List D_A3))) * 24 ≤ 140737488355328) && decide (((List.length r1.1.1.2.2.2.1) + (List.length ([(r0.1.1, (0, (0, ())))] : List D_A3))) ≤ 140737488355328)) then
      some (((r1.1.1.1, (r1.1.1.2.1, (r1.1.1.2.2.1, ((r1.1.1.2.2.2.1 ++ ([(r0.1.1, (0, (0, ())))] : List D_A3)), ())))), ()), ((a0.1, r2.2.1.2), ()))
    else none
  else
    bif decide (r2.1.1 = 1) then
      bif (decide (((List.length r1.1.1.2.2.2.1) + (List.length ([((-1), (0, (0, ())))] : List D_A3))) * 24 ≤ 140737488355328) && decide (((List.length r1.1.1.2.2.2.1) + (List.length ([((-1), (0, (0, ())))] : List D_A3))) ≤ 140737488355328)) then
        some (((r1.1.1.1, (r1.1.1.2.1, (r1.1.1.2.2.1, ((r1.1.1.2.2.2.1 ++ ([((-1), (0, (0, ())))] : List D_A3)), ())))), ()), ((a0.1, r2.2.1.2), ()))
      else none
    else
      bif decide (r2.1.1 = 2) then
        bif decide ((List.length r1.1.1.2.2.2.1 : Int) > 0) then
          bif inB 0 (List.length r1.1.1.2.2.2.1) then
            bif (decide (((List.length r1.1.1.2.2.2.1) + (List.length ([(nth T_A3 r1.1.1.2.2.2.1 0)] : List D_A3))) * 24 ≤ 140737488355328) && decide (((List.length r1.1.1.2.2.2.1) + (List.length ([(nth T_A3 r1.1.1.2.2.2.1 0)] : List D_A3))) ≤ 140737488355328)) then
              some (((r1.1.1.1, (r1.1.1.2.1, (r1.1.1.2.2.1, ((r1.1.1.2.2.2.1 ++ ([(nth T_A3 r1.1.1.2.2.2.1 0)] : List D_A3)), ())))), ()), ((a0.1, r2.2.1.2), ()))
            else none
          else none
        else
          some ((r1.1.1, ()), ((a0.1, r2.2.1.2), ()))
      else
        bif decide (r2.1.1 = 3) then
          some (((0, (0, (0, (([] : List D_A3), ())))), ()), ((a0.1, r2.2.1.2), ()))
        else
          some ((r1.1.1, ()), ((a0.1, r2.2.1.2), ())) := by
  rewrite [h_da]
  kernel_rfl
abbrev As_cn : List ATy := [.lptr T_l1Cur]
abbrev R_cn : List (Bool × Ty) := [(true, T_Shadow)]
abbrev M_cn : List RMode := [.own 3, .own 3, .own 3]
abbrev Ft_cn : Type := D_l1Cur × Unit → Option ((D_Shadow × Unit) × (D_l1Cur × Unit))
noncomputable def X_cn : Ctx := { types := TT, globals := [], con := [(83, C_at), (85, C_cf)], mcon := [(92, C_a5), (108, C_da), (109, C_av)], keep := [], results := [.cell 2 35], ntmps := 86, n := N }
noncomputable def B_cn : Code := (Tryz.f61.body).getD .skip
noncomputable def P_cn : Ft_cn := hid (runFM X_cn B_cn As_cn R_cn M_cn)
theorem h_cn : P_cn = runFM X_cn B_cn As_cn R_cn M_cn := hid_eq _
noncomputable def C_cn : MContract := ⟨As_cn, R_cn, M_cn, P_cn⟩
theorem s_cn : SoundM Tryz.prog n0 GG 61 C_cn := by
  unfold C_cn; rw [h_cn]
  exact mkSM Tryz.f61 ⟨s_at, s_cf, trivial⟩ ⟨s_a5, s_da, s_av, trivial⟩
theorem p_cn (a0 : D_l1Cur) : P_cn (a0, ()) =
  Option.bind (P_da (a0, ())) fun r0 =>
  Option.bind (P_at (r0.1.1, ())) fun r1 =>
  bif !r1.1 then
    some (((r0.1.1.1, (r0.1.1.2.1, (r0.1.1.2.2.1, (([1] : List Int), (([] : List Int), (([] : List Int), ())))))), ()), ((a0.1, r0.2.1.2), ()))
  else
    Option.bind (P_cf (r0.1.1, ())) fun r3 =>
    Option.bind (P_av ((a0.1, r0.2.1.2), 16, ())) fun r4 =>
    bif decide (r4.1.1 = 0) then
      Option.bind (P_av ((a0.1, r4.2.1.2), (List.length r3.1.2.2.2.1 : Int), ())) fun r6 =>
      Option.bind (P_av ((a0.1, r6.2.1.2), 2, ())) fun r7 =>
      bif inB r6.1.1 (List.length r3.1.2.2.2.1) then
        Option.bind (P_av ((a0.1, r7.2.1.2), 50, ())) fun r9 =>
        bif decide (r9.1.1 = 0) then
          bif (decide (((List.length (List.set r3.1.2.2.2.1 (Int.toNat r6.1.1) r7.1.1)) + (List.length ([0] : List Int))) * 8 ≤ 140737488355328) && decide (((List.length (List.set r3.1.2.2.2.1 (Int.toNat r6.1.1) r7.1.1)) + (List.length ([0] : List Int))) ≤ 140737488355328)) then
            some (((r3.1.1, (r3.1.2.1, (r3.1.2.2.1, (((List.set r3.1.2.2.2.1 (Int.toNat r6.1.1) r7.1.1) ++ ([0] : List Int)), r3.1.2.2.2.2)))), ()), ((a0.1, r9.2.1.2), ()))
          else none
        else
          bif decide (r9.1.1 = 1) then
            Option.bind (P_a5 ((a0.1, r9.2.1.2), ([2, (-1)] : List Int), ())) fun r12 =>
            bif inB 0 (List.length r3.1.2.2.2.2.1) then
              some (((r3.1.1, (r3.1.2.1, (r3.1.2.2.1, ((List.set r3.1.2.2.2.1 (Int.toNat r6.1.1) r7.1.1), ((List.set r3.1.2.2.2.2.1 (Int.toNat 0) r12.1.1), r3.1.2.2.2.2.2))))), ()), ((a0.1, r12.2.1.2), ()))
            else none
          else
            bif decide (r9.1.1 = 2) then
              some (((r3.1.1, (r3.1.2.1, (r3.1.2.2.1, ((List.set r3.1.2.2.2.1 (Int.toNat r6.1.1) r7.1.1), (r3.1.2.2.2.2.1, (([] : List Int), ())))))), ()), ((a0.1, r9.2.1.2), ()))
            else
              bif decide (r9.1.1 = 3) then
                Option.bind (P_a5 ((a0.1, r9.2.1.2), ([0, 5, 4611686018427387904] : List Int), ())) fun r14 =>
                some (((r3.1.1, (r3.1.2.1, (r14.1.1, ((List.set r3.1.2.2.2.1 (Int.toNat r6.1.1) r7.1.1), r3.1.2.2.2.2)))), ()), ((a0.1, r14.2.1.2), ()))
              else
                some (((r3.1.1, (r3.1.2.1, (r3.1.2.2.1, ((List.set r3.1.2.2.2.1 (Int.toNat r6.1.1) r7.1.1), r3.1.2.2.2.2)))), ()), ((a0.1, r9.2.1.2), ()))
      else none
    else
      bif decide (r4.1.1 = 1) then
        Option.bind (P_av ((a0.1, r4.2.1.2), (List.length r3.1.2.2.2.2.2.1 : Int), ())) fun r7 =>
        Option.bind (P_av ((a0.1, r7.2.1.2), 2, ())) fun r8 =>
        bif inB r7.1.1 (List.length r3.1.2.2.2.2.2.1) then
          Option.bind (P_av ((a0.1, r8.2.1.2), (List.length r3.1.2.2.2.2.1 : Int), ())) fun r10 =>
          Option.bind (P_av ((a0.1, r10.2.1.2), 2, ())) fun r11 =>
          bif inB r10.1.1 (List.length r3.1.2.2.2.2.1) then
            Option.bind (P_av ((a0.1, r11.2.1.2), 50, ())) fun r13 =>
            bif decide (r13.1.1 = 0) then
              bif (decide (((List.length r3.1.2.2.2.1) + (List.length ([0] : List Int))) * 8 ≤ 140737488355328) && decide (((List.length r3.1.2.2.2.1) + (List.length ([0] : List Int))) ≤ 140737488355328)) then
                some (((r3.1.1, (r3.1.2.1, (r3.1.2.2.1, ((r3.1.2.2.2.1 ++ ([0] : List Int)), ((List.set r3.1.2.2.2.2.1 (Int.toNat r10.1.1) r11.1.1), ((List.set r3.1.2.2.2.2.2.1 (Int.toNat r7.1.1) r8.1.1), ())))))), ()), ((a0.1, r13.2.1.2), ()))
              else none
            else
              bif decide (r13.1.1 = 1) then
                Option.bind (P_a5 ((a0.1, r13.2.1.2), ([2, (-1)] : List Int), ())) fun r16 =>
                bif inB 0 (List.length (List.set r3.1.2.2.2.2.1 (Int.toNat r10.1.1) r11.1.1)) then
                  some (((r3.1.1, (r3.1.2.1, (r3.1.2.2.1, (r3.1.2.2.2.1, ((List.set (List.set r3.1.2.2.2.2.1 (Int.toNat r10.1.1) r11.1.1) (Int.toNat 0) r16.1.1), ((List.set r3.1.2.2.2.2.2.1 (Int.toNat r7.1.1) r8.1.1), ())))))), ()), ((a0.1, r16.2.1.2), ()))
                else none
              else
                bif decide (r13.1.1 = 2) then
                  some (((r3.1.1, (r3.1.2.1, (r3.1.2.2.1, (r3.1.2.2.2.1, ((List.set r3.1.2.2.2.2.1 (Int.toNat r10.1.1) r11.1.1), (([] : List Int), ())))))), ()), ((a0.1, r13.2.1.2), ()))
                else
                  bif decide (r13.1.1 = 3) then
                    Option.bind (P_a5 ((a0.1, r13.2.1.2), ([0, 5, 4611686018427387904] : List Int), ())) fun r18 =>
                    some (((r3.1.1, (r3.1.2.1, (r18.1.1, (r3.1.2.2.2.1, ((List.set r3.1.2.2.2.2.1 (Int.toNat r10.1.1) r11.1.1), ((List.set r3.1.2.2.2.2.2.1 (Int.toNat r7.1.1) r8.1.1), ())))))), ()), ((a0.1, r18.2.1.2), ()))
                  else
                    some (((r3.1.1, (r3.1.2.1, (r3.1.2.2.1, (r3.1.2.2.2.1, ((List.set r3.1.2.2.2.2.1 (Int.toNat r10.1.1) r11.1.1), ((List.set r3.1.2.2.2.2.2.1 (Int.toNat r7.1.1) r8.1.1), ())))))), ()), ((a0.1, r13.2.1.2), ()))
          else none
        else none
      else
        Option.bind (P_av ((a0.1, r4.2.1.2), 50, ())) fun r7 =>
        bif decide (r7.1.1 = 0) then
          bif (decide (((List.length r3.1.2.2.2.1) + (List.length ([0] : List Int))) * 8 ≤ 140737488355328) && decide (((List.length r3.1.2.2.2.1) + (List.length ([0] : List Int))) ≤ 140737488355328)) then
            some (((r3.1.1, (r3.1.2.1, (r3.1.2.2.1, ((r3.1.2.2.2.1 ++ ([0] : List Int)), r3.1.2.2.2.2)))), ()), ((a0.1, r7.2.1.2), ()))
          else none
        else
          bif decide (r7.1.1 = 1) then
            Option.bind (P_a5 ((a0.1, r7.2.1.2), ([2, (-1)] : List Int), ())) fun r10 =>
            bif inB 0 (List.length r3.1.2.2.2.2.1) then
              some (((r3.1.1, (r3.1.2.1, (r3.1.2.2.1, (r3.1.2.2.2.1, ((List.set r3.1.2.2.2.2.1 (Int.toNat 0) r10.1.1), r3.1.2.2.2.2.2))))), ()), ((a0.1, r10.2.1.2), ()))
            else none
          else
            bif decide (r7.1.1 = 2) then
              some (((r3.1.1, (r3.1.2.1, (r3.1.2.2.1, (r3.1.2.2.2.1, (r3.1.2.2.2.2.1, (([] : List Int), ())))))), ()), ((a0.1, r7.2.1.2), ()))
            else
              bif decide (r7.1.1 = 3) then
                Option.bind (P_a5 ((a0.1, r7.2.1.2), ([0, 5, 4611686018427387904] : List Int), ())) fun r12 =>
                some (((r3.1.1, (r3.1.2.1, (r12.1.1, r3.1.2.2.2))), ()), ((a0.1, r12.2.1.2), ()))
              else
                some ((r3.1, ()), ((a0.1, r7.2.1.2), ())) := by
  rewrite [h_cn]
  kernel_rfl
abbrev As_dg : List ATy := [.lptr T_l1Cur]
abbrev R_dg : List (Bool × Ty) := [(true, T_Shadow)]
abbrev M_dg : List RMode := [.own 3, .own 3, .own 3]
abbrev Ft_dg : Type := D_l1Cur × Unit → Option ((D_Shadow × Unit) × (D_l1Cur × Unit))
noncomputable def X_dg : Ctx := { types := TT, globals := [], con := [(85, C_cf)], mcon := [(61, C_cn), (91, C_b5), (92, C_a5), (93, C_aw)], keep := [], results := [.cell 2 35], ntmps := 25, n := N }
noncomputable def B_dg : Code := (Tryz.f43.body).getD .skip
noncomputable def P_dg : Ft_dg := hid (runFM X_dg B_dg As_dg R_dg M_dg)
theorem h_dg : P_dg = runFM X_dg B_dg As_dg R_dg M_dg := hid_eq _
noncomputable def C_dg : MContract := ⟨As_dg, R_dg, M_dg, P_dg⟩
theorem s_dg : SoundM Tryz.prog n0 GG 43 C_dg := by
  unfold C_dg; rw [h_dg]
  exact mkSM Tryz.f43 ⟨s_cf, trivial⟩ ⟨s_cn, s_b5, s_a5, s_aw, trivial⟩
theorem p_dg (a0 : D_l1Cur) : P_dg (a0, ()) =
  Option.bind (P_b5 (a0, 10, ())) fun r0 =>
  bif r0.1.1 then
    Option.bind (P_cn ((a0.1, r0.2.1.2), ())) fun r2 =>
    some ((r2.1.1, ()), ((a0.1, r2.2.1.2), ()))
  else
    Option.bind (P_a5 ((a0.1, r0.2.1.2), ([2, 2, 3, 1] : List Int), ())) fun r2 =>
    Option.bind (P_a5 ((a0.1, r2.2.1.2), ([2, 3, 2, 1] : List Int), ())) fun r3 =>
    Option.bind (P_a5 ((a0.1, r3.2.1.2), ([2, 2, 3, 1] : List Int), ())) fun r4 =>
    Option.bind (P_aw ((a0.1, r4.2.1.2), r2.1.1, r3.1.1, r4.1.1, ())) fun r5 =>
    Option.bind (P_cf (r5.1.1, ())) fun r6 =>
    some ((r6.1, ()), ((a0.1, r5.2.1.2), ())) := by
  rewrite [h_dg]
  kernel_rfl
abbrev As_de : List ATy := [.data false (.sl (.int .u8))]
abbrev R_de : List (Bool × Ty) := [(true, T_Shadow)]
abbrev M_de : List RMode := [.own 3, .own 3, .own 3]
abbrev Ft_de : Type := (List Int) × Unit → Option (D_Shadow × Unit)
noncomputable def X_de : Ctx := { types := TT, globals := [], con := [], mcon := [(43, C_dg)], keep := [], results := [.cell 2 35], ntmps := 9, n := N }
noncomputable def B_de : Code := (Tryz.f13.body).getD .skip
noncomputable def P_de : Ft_de := hid (runF X_de B_de As_de R_de M_de)
theorem h_de : P_de = runF X_de B_de As_de R_de M_de := hid_eq _
noncomputable def C_de : Contract := ⟨As_de, R_de, M_de, P_de⟩
theorem s_de : Sound Tryz.prog GG 13 C_de := by
  unfold C_de; rw [h_de]
  exact mkS Tryz.f13 trivial ⟨s_dg, trivial⟩
theorem p_de (a0 : List Int) : P_de (a0, ()) =
  Option.bind (P_dg ((a0, (0, (0, ()))), ())) fun r0 =>
  some (r0.1.1, ()) := by
  rewrite [h_de]
  kernel_rfl
abbrev As_bd : List ATy := [.data false (.sl (.int .i64)), .data false (.int .i64)]
abbrev R_bd : List (Bool × Ty) := [(false, .bool)]
abbrev M_bd : List RMode := []
abbrev Ft_bd : Type := (List Int) × Int × Unit → Option (Bool × Unit)
noncomputable def X_bd : Ctx := { types := TT, globals := [], con := [(67, C_bn)], keep := [(2, ⟨[.tmp 0, .tmp 1, .tmp 5], []⟩)], results := [.tmp 4], ntmps := 22, n := N }
noncomputable def B_bd : Code := (Tryz.f104.body).getD .skip
noncomputable def L_bd_2 (m0 : Nat) (p0 : List Int) (p1 p2 : Int) : Option (denL R_bd) := loopF X_bd B_bd R_bd M_bd 2 [m0] [(.ver, .num 1), (.tmp 0, .val false [.imm (.int .i64) p0 (some 0)]), (.tmp 1, .val false [.int .i64 p1]), (.tmp 5, .val false [.int .i64 p2])]
noncomputable def P_bd : Ft_bd := hid (runF X_bd B_bd As_bd R_bd M_bd)
theorem h_bd : P_bd = runF X_bd B_bd As_bd R_bd M_bd := hid_eq _
noncomputable def C_bd : Contract := ⟨As_bd, R_bd, M_bd, P_bd⟩
theorem s_bd : Sound Tryz.prog GG 104 C_bd := by
  unfold C_bd; rw [h_bd]
  exact mkS Tryz.f104 ⟨s_bn, trivial⟩ trivial
noncomputable def l_bd_2 := hid (L_bd_2)
theorem h_bd_2 : l_bd_2 = L_bd_2 := hid_eq _
theorem p_bd (a0 : List Int) (a1 : Int) : P_bd (a0, a1, ()) =
  l_bd_2 N a0 a1 0 := by
  rewrite [h_bd, h_bd_2]
  kernel_rfl
theorem q_bd_2 (m0 : Nat) (p0 : List Int) (p1 p2 : Int) : l_bd_2 (m0 + 1) p0 p1 p2 =
  bif decide (p2 < (List.length p0 : Int)) then
    bif inB p2 (List.length p0) then
      Option.bind (P_bn ((nth ((.int .i64) : Ty) p0 p2), 0, 1, ())) fun r2 =>
      bif !r2.1 then
        some (false, ())
      else
        l_bd_2 m0 p0 p1 (IntKind.wrap .i64 (p2 + 1))
    else none
  else
    some (decide ((List.length p0 : Int) = p1), ()) := by
  rewrite [h_bd_2]
  kernel_rfl
abbrev As_b9 : List ATy := [.data true T_Shadow]
abbrev R_b9 : List (Bool × Ty) := [(false, .bool)]
abbrev M_b9 : List RMode := []
abbrev Ft_b9 : Type := D_Shadow × Unit → Option (Bool × Unit)
noncomputable def X_b9 : Ctx := { types := TT, globals := [], con := [(103, C_b0), (104, C_bd)], keep := [], results := [.tmp 2], ntmps := 40, n := N }
noncomputable def B_b9 : Code := (Tryz.f57.body).getD .skip
noncomputable def P_b9 : Ft_b9 := hid (runF X_b9 B_b9 As_b9 R_b9 M_b9)
theorem h_b9 : P_b9 = runF X_b9 B_b9 As_b9 R_b9 M_b9 := hid_eq _
noncomputable def C_b9 : Contract := ⟨As_b9, R_b9, M_b9, P_b9⟩
theorem s_b9 : Sound Tryz.prog GG 57 C_b9 := by
  unfold C_b9; rw [h_b9]
  exact mkS Tryz.f57 ⟨s_b0, s_bd, trivial⟩ trivial
theorem p_b9 (a0 : D_Shadow) : P_b9 (a0, ()) =
  Option.bind (P_b0 (a0.1, a0.2.1, a0.2.2.1, ())) fun r0 =>
  bif r0.1 then
    Option.bind (P_bd (a0.2.2.2.1, (IntKind.wrap .i64 (a0.1 * a0.2.1)), ())) fun r2 =>
    bif r2.1 then
      Option.bind (P_bd (a0.2.2.2.2.1, (IntKind.wrap .i64 (a0.1 * a0.2.2.1)), ())) fun r4 =>
      bif r4.1 then
        Option.bind (P_bd (a0.2.2.2.2.2.1, (IntKind.wrap .i64 (a0.2.1 * a0.2.2.1)), ())) fun r6 =>
        some (r6.1, ())
      else
        some (false, ())
    else
      some (false, ())
  else
    some (false, ()) := by
  rewrite [h_b9]
  kernel_rfl
abbrev As_ax : List ATy := [.data true T_Shadow]
abbrev R_ax : List (Bool × Ty) := [(true, T_Heap)]
abbrev M_ax : List RMode := [.own 55]
abbrev Ft_ax : Type := D_Shadow × Unit → Option (D_Heap × Unit)
noncomputable def X_ax : Ctx := { types := TT, globals := [], con := [(97, C_bp), (124, C_ad)], keep := [(4, ⟨[.box 1, .box 2, .box 3, .tmp 1, .tmp 2, .tmp 3, .tmp 4, .tmp 5], []⟩)], results := [.cell 2 26], ntmps := 86, n := N }
noncomputable def B_ax : Code := (Tryz.f94.body).getD .skip
noncomputable def L_ax_4 (m0 : Nat) (p0 p1 p2 : Int) (p3 p4 p5 : List Int) (p6 p7 p8 : Int) (p9 : List D_A3) (p10 p11 p12 : Int) (p13 p14 : List D_A3) (p15 : Int) : Option (denL R_ax) := loopF X_ax B_ax R_ax M_ax 4 [m0] [(.ver, .num 1), (.box 1, .box 0 false [.int .i64 p0, .int .i64 p1, .int .i64 p2, .imm (.int .i64) p3 (some 3), .imm (.int .i64) p4 (some 4), .imm (.int .i64) p5 (some 5)]), (.box 2, .box 0 false [.int .i64 p6, .int .i64 p7, .int .i64 p8, .own 55 T_A3 0 p9]), (.box 3, .box 0 false [.int .i64 p10, .int .i64 p11, .int .i64 p12, .own 55 T_A3 0 p13]), (.tmp 1, .val false [.addr 1 0 0]), (.tmp 2, .val false [.addr 2 0 0]), (.tmp 3, .val false [.addr 3 0 0]), (.tmp 4, .val false [.own 55 T_A3 0 p14]), (.tmp 5, .val false [.int .i64 p15])]
noncomputable def P_ax : Ft_ax := hid (runF X_ax B_ax As_ax R_ax M_ax)
theorem h_ax : P_ax = runF X_ax B_ax As_ax R_ax M_ax := hid_eq _
noncomputable def C_ax : Contract := ⟨As_ax, R_ax, M_ax, P_ax⟩
theorem s_ax : Sound Tryz.prog GG 94 C_ax := by
  unfold C_ax; rw [h_ax]
  exact mkS Tryz.f94 ⟨s_bp, s_ad, trivial⟩ trivial
noncomputable def l_ax_4 := hid (L_ax_4)
theorem h_ax_4 : l_ax_4 = L_ax_4 := hid_eq _
theorem p_ax (a0 : D_Shadow) : P_ax (a0, ()) =
  Option.bind (P_bp (a0.1, a0.2.1, a0.2.2.1, ())) fun r0 =>
  Option.bind (P_ad (r0.1, ())) fun r1 =>
  l_ax_4 N a0.1 a0.2.1 a0.2.2.1 a0.2.2.2.1 a0.2.2.2.2.1 a0.2.2.2.2.2.1 0 0 0 ([] : List D_A3) r0.1.1 r0.1.2.1 r0.1.2.2.1 r0.1.2.2.2.1 r1.1 0 := by
  rewrite [h_ax, h_ax_4]
  kernel_rfl
theorem q_ax_4 (m0 : Nat) (p0 p1 p2 : Int) (p3 p4 p5 : List Int) (p6 p7 p8 : Int) (p9 : List D_A3) (p10 p11 p12 : Int) (p13 p14 : List D_A3) (p15 : Int) : l_ax_4 (m0 + 1) p0 p1 p2 p3 p4 p5 p6 p7 p8 p9 p10 p11 p12 p13 p14 p15 =
  bif decide (p15 < (List.length p14 : Int)) then
    bif inB p15 (List.length p14) then
      bif inB p15 (List.length p14) then
        bif inB p15 (List.length p14) then
          bif inB (IntKind.wrap .i64 ((IntKind.wrap .i64 (((nth T_A3 p14 p15)).1 * p1)) + (((nth T_A3 p14 p15)).2).1)) (List.length p3) then
            bif decide ((nth ((.int .i64) : Ty) p3 (IntKind.wrap .i64 ((IntKind.wrap .i64 (((nth T_A3 p14 p15)).1 * p1)) + (((nth T_A3 p14 p15)).2).1))) = 1) then
              bif inB (IntKind.wrap .i64 ((IntKind.wrap .i64 (((nth T_A3 p14 p15)).1 * p2)) + ((((nth T_A3 p14 p15)).2).2).1)) (List.length p4) then
                bif decide ((nth ((.int .i64) : Ty) p4 (IntKind.wrap .i64 ((IntKind.wrap .i64 (((nth T_A3 p14 p15)).1 * p2)) + ((((nth T_A3 p14 p15)).2).2).1))) = 1) then
                  bif inB (IntKind.wrap .i64 ((IntKind.wrap .i64 ((((nth T_A3 p14 p15)).2).1 * p2)) + ((((nth T_A3 p14 p15)).2).2).1)) (List.length p5) then
                    bif decide ((nth ((.int .i64) : Ty) p5 (IntKind.wrap .i64 ((IntKind.wrap .i64 ((((nth T_A3 p14 p15)).2).1 * p2)) + ((((nth T_A3 p14 p15)).2).2).1))) = 1) then
                      bif inB p15 (List.length p14) then
                        bif (decide (((List.length p13) + (List.length ([(nth T_A3 p14 p15)] : List D_A3))) * 24 ≤ 140737488355328) && decide (((List.length p13) + (List.length ([(nth T_A3 p14 p15)] : List D_A3))) ≤ 140737488355328)) then
                          l_ax_4 m0 p0 p1 p2 p3 p4 p5 p6 p7 p8 p9 p10 p11 p12 (p13 ++ ([(nth T_A3 p14 p15)] : List D_A3)) p14 (IntKind.wrap .i64 (p15 + 1))
                        else none
                      else none
                    else
                      l_ax_4 m0 p0 p1 p2 p3 p4 p5 p6 p7 p8 p9 p10 p11 p12 p13 p14 (IntKind.wrap .i64 (p15 + 1))
                  else none
                else
                  l_ax_4 m0 p0 p1 p2 p3 p4 p5 p6 p7 p8 p9 p10 p11 p12 p13 p14 (IntKind.wrap .i64 (p15 + 1))
              else none
            else
              l_ax_4 m0 p0 p1 p2 p3 p4 p5 p6 p7 p8 p9 p10 p11 p12 p13 p14 (IntKind.wrap .i64 (p15 + 1))
          else none
        else none
      else none
    else none
  else
    some ((p10, (p11, (p12, (p13, ())))), ()) := by
  rewrite [h_ax_4]
  kernel_rfl
abbrev As_bc : List ATy := [.data false (.sl (.int .i64)), .data false (.sl (.int .i64))]
abbrev R_bc : List (Bool × Ty) := [(false, .bool)]
abbrev M_bc : List RMode := []
abbrev Ft_bc : Type := (List Int) × (List Int) × Unit → Option (Bool × Unit)
noncomputable def X_bc : Ctx := { types := TT, globals := [], con := [], keep := [(4, ⟨[.tmp 0, .tmp 1, .tmp 5], []⟩)], results := [.tmp 4], ntmps := 26, n := N }
noncomputable def B_bc : Code := (Tryz.f129.body).getD .skip
noncomputable def L_bc_4 (m0 : Nat) (p0 p1 : List Int) (p2 : Int) : Option (denL R_bc) := loopF X_bc B_bc R_bc M_bc 4 [m0] [(.ver, .num 1), (.tmp 0, .val false [.imm (.int .i64) p0 (some 0)]), (.tmp 1, .val false [.imm (.int .i64) p1 (some 1)]), (.tmp 5, .val false [.int .i64 p2])]
noncomputable def P_bc : Ft_bc := hid (runF X_bc B_bc As_bc R_bc M_bc)
theorem h_bc : P_bc = runF X_bc B_bc As_bc R_bc M_bc := hid_eq _
noncomputable def C_bc : Contract := ⟨As_bc, R_bc, M_bc, P_bc⟩
theorem s_bc : Sound Tryz.prog GG 129 C_bc := by
  unfold C_bc; rw [h_bc]
  exact mkS Tryz.f129 trivial trivial
noncomputable def l_bc_4 := hid (L_bc_4)
theorem h_bc_4 : l_bc_4 = L_bc_4 := hid_eq _
theorem p_bc (a0 : List Int) (a1 : List Int) : P_bc (a0, a1, ()) =
  bif !decide ((List.length a0 : Int) = (List.length a1 : Int)) then
    some (false, ())
  else
    l_bc_4 N a0 a1 0 := by
  rewrite [h_bc, h_bc_4]
  kernel_rfl
theorem q_bc_4 (m0 : Nat) (p0 p1 : List Int) (p2 : Int) : l_bc_4 (m0 + 1) p0 p1 p2 =
  bif decide (p2 < (List.length p0 : Int)) then
    bif inB p2 (List.length p0) then
      bif inB p2 (List.length p1) then
        bif !decide ((nth ((.int .i64) : Ty) p0 p2) = (nth ((.int .i64) : Ty) p1 p2)) then
          some (false, ())
        else
          l_bc_4 m0 p0 p1 (IntKind.wrap .i64 (p2 + 1))
      else none
    else none
  else
    some (true, ()) := by
  rewrite [h_bc_4]
  kernel_rfl
abbrev As_dh : List ATy := [.data true T_Shadow, .data true T_Heap]
abbrev R_dh : List (Bool × Ty) := [(false, .bool)]
abbrev M_dh : List RMode := []
abbrev Ft_dh : Type := D_Shadow × D_Heap × Unit → Option (Bool × Unit)
noncomputable def X_dh : Ctx := { types := TT, globals := [], con := [(120, C_co), (121, C_ct), (122, C_cl), (129, C_bc)], keep := [], results := [.tmp 4], ntmps := 24, n := N }
noncomputable def B_dh : Code := (Tryz.f105.body).getD .skip
noncomputable def P_dh : Ft_dh := hid (runF X_dh B_dh As_dh R_dh M_dh)
theorem h_dh : P_dh = runF X_dh B_dh As_dh R_dh M_dh := hid_eq _
noncomputable def C_dh : Contract := ⟨As_dh, R_dh, M_dh, P_dh⟩
theorem s_dh : Sound Tryz.prog GG 105 C_dh := by
  unfold C_dh; rw [h_dh]
  exact mkS Tryz.f105 ⟨s_co, s_ct, s_cl, s_bc, trivial⟩ trivial
theorem p_dh (a0 : D_Shadow) (a1 : D_Heap) : P_dh (a0, a1, ()) =
  Option.bind (P_co (a1, ())) fun r0 =>
  Option.bind (P_bc (r0.1, a0.2.2.2.1, ())) fun r1 =>
  bif r1.1 then
    Option.bind (P_ct (a1, ())) fun r3 =>
    Option.bind (P_bc (r3.1, a0.2.2.2.2.1, ())) fun r4 =>
    bif r4.1 then
      Option.bind (P_cl (a1, ())) fun r6 =>
      Option.bind (P_bc (r6.1, a0.2.2.2.2.2.1, ())) fun r7 =>
      some (r7.1, ())
    else
      some (false, ())
  else
    some (false, ()) := by
  rewrite [h_dh]
  kernel_rfl
abbrev As_cp : List ATy := [.data true T_Shadow]
abbrev R_cp : List (Bool × Ty) := [(false, .bool)]
abbrev M_cp : List RMode := []
abbrev Ft_cp : Type := D_Shadow × Unit → Option (Bool × Unit)
noncomputable def X_cp : Ctx := { types := TT, globals := [], con := [(57, C_b9), (94, C_ax), (105, C_dh)], keep := [], results := [.tmp 2], ntmps := 11, n := N }
noncomputable def B_cp : Code := (Tryz.f58.body).getD .skip
noncomputable def P_cp : Ft_cp := hid (runF X_cp B_cp As_cp R_cp M_cp)
theorem h_cp : P_cp = runF X_cp B_cp As_cp R_cp M_cp := hid_eq _
noncomputable def C_cp : Contract := ⟨As_cp, R_cp, M_cp, P_cp⟩
theorem s_cp : Sound Tryz.prog GG 58 C_cp := by
  unfold C_cp; rw [h_cp]
  exact mkS Tryz.f58 ⟨s_b9, s_ax, s_dh, trivial⟩ trivial
theorem p_cp (a0 : D_Shadow) : P_cp (a0, ()) =
  Option.bind (P_b9 (a0, ())) fun r0 =>
  bif r0.1 then
    Option.bind (P_ax (a0, ())) fun r2 =>
    Option.bind (P_dh (a0, r2.1, ())) fun r3 =>
    some (r3.1, ())
  else
    some (false, ()) := by
  rewrite [h_cp]
  kernel_rfl
abbrev As_cs : List ATy := [.data true T_Shadow]
abbrev R_cs : List (Bool × Ty) := [(false, .bool)]
abbrev M_cs : List RMode := []
abbrev Ft_cs : Type := D_Shadow × Unit → Option (Bool × Unit)
noncomputable def X_cs : Ctx := { types := TT, globals := [], con := [(58, C_cp)], keep := [], results := [.tmp 2], ntmps := 16, n := N }
noncomputable def B_cs : Code := (Tryz.f44.body).getD .skip
noncomputable def P_cs : Ft_cs := hid (runF X_cs B_cs As_cs R_cs M_cs)
theorem h_cs : P_cs = runF X_cs B_cs As_cs R_cs M_cs := hid_eq _
noncomputable def C_cs : Contract := ⟨As_cs, R_cs, M_cs, P_cs⟩
theorem s_cs : Sound Tryz.prog GG 44 C_cs := by
  unfold C_cs; rw [h_cs]
  exact mkS Tryz.f44 ⟨s_cp, trivial⟩ trivial
theorem p_cs (a0 : D_Shadow) : P_cs (a0, ()) =
  Option.bind (P_cp (a0, ())) fun r0 =>
  bif r0.1 then
    some (decide ((IntKind.wrap .i64 ((IntKind.wrap .i64 (a0.1 * a0.2.1)) * a0.2.2.1)) ≤ 27), ())
  else
    some (false, ()) := by
  rewrite [h_cs]
  kernel_rfl
abbrev As_b7 : List ATy := [.data false (.sl (.int .i64))]
abbrev R_b7 : List (Bool × Ty) := [(false, (.sl (.int .i64)))]
abbrev M_b7 : List RMode := [.own 3]
abbrev Ft_b7 : Type := (List Int) × Unit → Option ((List Int) × Unit)
noncomputable def X_b7 : Ctx := { types := TT, globals := [], con := [], keep := [], results := [.tmp 2], ntmps := 6, n := N }
noncomputable def B_b7 : Code := (Tryz.f68.body).getD .skip
noncomputable def P_b7 : Ft_b7 := hid (runF X_b7 B_b7 As_b7 R_b7 M_b7)
theorem h_b7 : P_b7 = runF X_b7 B_b7 As_b7 R_b7 M_b7 := hid_eq _
noncomputable def C_b7 : Contract := ⟨As_b7, R_b7, M_b7, P_b7⟩
theorem s_b7 : Sound Tryz.prog GG 68 C_b7 := by
  unfold C_b7; rw [h_b7]
  exact mkS Tryz.f68 trivial trivial
theorem p_b7 (a0 : List Int) : P_b7 (a0, ()) =
  bif (decide (((List.length ([] : List Int)) + (List.length a0)) * 8 ≤ 140737488355328) && decide (((List.length ([] : List Int)) + (List.length a0)) ≤ 140737488355328)) then
    some ((([] : List Int) ++ a0), ())
  else none := by
  rewrite [h_b7]
  kernel_rfl
abbrev As_ch : List ATy := [.data true T_Shadow, .data true T_A3]
abbrev R_ch : List (Bool × Ty) := [(true, T_A3)]
abbrev M_ch : List RMode := []
abbrev Ft_ch : Type := D_Shadow × D_A3 × Unit → Option (D_A3 × Unit)
noncomputable def X_ch : Ctx := { types := TT, globals := [], con := [], keep := [], results := [.cell 4 55], ntmps := 48, n := N }
noncomputable def B_ch : Code := (Tryz.f107.body).getD .skip
noncomputable def P_ch : Ft_ch := hid (runF X_ch B_ch As_ch R_ch M_ch)
theorem h_ch : P_ch = runF X_ch B_ch As_ch R_ch M_ch := hid_eq _
noncomputable def C_ch : Contract := ⟨As_ch, R_ch, M_ch, P_ch⟩
theorem s_ch : Sound Tryz.prog GG 107 C_ch := by
  unfold C_ch; rw [h_ch]
  exact mkS Tryz.f107 trivial trivial
theorem p_ch (a0 : D_Shadow) (a1 : D_A3) : P_ch (a0, a1, ()) =
  some (((IntKind.wrap .i64 ((IntKind.wrap .i64 (a1.1 * a0.2.1)) + a1.2.1)), ((IntKind.wrap .i64 ((IntKind.wrap .i64 ((IntKind.wrap .i64 (a0.1 * a0.2.1)) + (IntKind.wrap .i64 (a1.1 * a0.2.2.1)))) + a1.2.2.1)), ((IntKind.wrap .i64 ((IntKind.wrap .i64 ((IntKind.wrap .i64 ((IntKind.wrap .i64 (a0.1 * a0.2.1)) + (IntKind.wrap .i64 (a0.1 * a0.2.2.1)))) + (IntKind.wrap .i64 (a1.2.1 * a0.2.2.1)))) + a1.2.2.1)), ()))), ()) := by
  rewrite [h_ch]
  kernel_rfl
abbrev As_ah : List ATy := [.data true T_Shadow, .data false (.sl T_A3)]
abbrev R_ah : List (Bool × Ty) := [(false, (.sl .bool))]
abbrev M_ah : List RMode := [.own 4]
abbrev Ft_ah : Type := D_Shadow × (List D_A3) × Unit → Option ((List Bool) × Unit)
noncomputable def X_ah : Ctx := { types := TT, globals := [], con := [(68, C_b7), (107, C_ch)], keep := [(4, ⟨[.box 2, .tmp 1, .tmp 2, .tmp 5, .tmp 6, .tmp 7], []⟩), (8, ⟨[.box 2, .tmp 1, .tmp 2, .tmp 5, .tmp 8], []⟩), (12, ⟨[.box 2, .box 9, .tmp 1, .tmp 2, .tmp 5, .tmp 8, .tmp 9, .tmp 10], []⟩)], results := [.tmp 4], ntmps := 57, n := N }
noncomputable def B_ah : Code := (Tryz.f60.body).getD .skip
noncomputable def L_ah_4 (m0 : Nat) (p0 p1 p2 : Int) (p3 p4 p5 : List Int) (p6 : List D_A3) (p7 : List Bool) (p8 : List Int) (p9 : Int) : Option (denL R_ah) := loopF X_ah B_ah R_ah M_ah 4 [m0] [(.ver, .num 1), (.box 2, .box 0 false [.int .i64 p0, .int .i64 p1, .int .i64 p2, .imm (.int .i64) p3 (some 3), .imm (.int .i64) p4 (some 4), .imm (.int .i64) p5 (some 5)]), (.tmp 1, .val false [.imm T_A3 p6 (some 6)]), (.tmp 2, .val false [.addr 2 0 0]), (.tmp 5, .val false [.own 4 .bool 0 p7]), (.tmp 6, .val false [.own 3 (.int .i64) 0 p8]), (.tmp 7, .val false [.int .i64 p9])]
noncomputable def L_ah_8 (m0 : Nat) (p0 p1 p2 : Int) (p3 p4 p5 : List Int) (p6 : List D_A3) (p7 : List Bool) (p8 : Int) : Option (denL R_ah) := loopF X_ah B_ah R_ah M_ah 8 [m0] [(.ver, .num 1), (.box 2, .box 0 false [.int .i64 p0, .int .i64 p1, .int .i64 p2, .imm (.int .i64) p3 (some 3), .imm (.int .i64) p4 (some 4), .imm (.int .i64) p5 (some 5)]), (.tmp 1, .val false [.imm T_A3 p6 (some 6)]), (.tmp 2, .val false [.addr 2 0 0]), (.tmp 5, .val false [.own 4 .bool 0 p7]), (.tmp 8, .val false [.int .i64 p8])]
noncomputable def L_ah_12 (m0 m1 : Nat) (p0 p1 p2 : Int) (p3 p4 p5 : List Int) (p6 p7 p8 : Int) (p9 : List D_A3) (p10 : List Bool) (p11 p12 : Int) : Option (denL R_ah) := loopF X_ah B_ah R_ah M_ah 12 [m0, m1] [(.ver, .num 1), (.box 2, .box 0 false [.int .i64 p0, .int .i64 p1, .int .i64 p2, .imm (.int .i64) p3 (some 3), .imm (.int .i64) p4 (some 4), .imm (.int .i64) p5 (some 5)]), (.box 9, .box 0 false [.int .i64 p6, .int .i64 p7, .int .i64 p8]), (.tmp 1, .val false [.imm T_A3 p9 (some 6)]), (.tmp 2, .val false [.addr 2 0 0]), (.tmp 5, .val false [.own 4 .bool 0 p10]), (.tmp 8, .val false [.int .i64 p11]), (.tmp 9, .val false [.addr 9 0 0]), (.tmp 10, .val false [.int .i64 p12])]
noncomputable def P_ah : Ft_ah := hid (runF X_ah B_ah As_ah R_ah M_ah)
theorem h_ah : P_ah = runF X_ah B_ah As_ah R_ah M_ah := hid_eq _
noncomputable def C_ah : Contract := ⟨As_ah, R_ah, M_ah, P_ah⟩
theorem s_ah : Sound Tryz.prog GG 60 C_ah := by
  unfold C_ah; rw [h_ah]
  exact mkS Tryz.f60 ⟨s_b7, s_ch, trivial⟩ trivial
noncomputable def l_ah_4 := hid (L_ah_4)
theorem h_ah_4 : l_ah_4 = L_ah_4 := hid_eq _
noncomputable def l_ah_8 := hid (L_ah_8)
theorem h_ah_8 : l_ah_8 = L_ah_8 := hid_eq _
noncomputable def l_ah_12 := hid (L_ah_12)
theorem h_ah_12 : l_ah_12 = L_ah_12 := hid_eq _
theorem p_ah (a0 : D_Shadow) (a1 : List D_A3) : P_ah (a0, a1, ()) =
  Option.bind (P_b7 (a0.2.2.2.1, ())) fun r0 =>
  bif (decide (((List.length r0.1) + (List.length a0.2.2.2.2.1)) * 8 ≤ 140737488355328) && decide (((List.length r0.1) + (List.length a0.2.2.2.2.1)) ≤ 140737488355328)) then
    bif (decide (((List.length (r0.1 ++ a0.2.2.2.2.1)) + (List.length a0.2.2.2.2.2.1)) * 8 ≤ 140737488355328) && decide (((List.length (r0.1 ++ a0.2.2.2.2.1)) + (List.length a0.2.2.2.2.2.1)) ≤ 140737488355328)) then
      l_ah_4 N a0.1 a0.2.1 a0.2.2.1 a0.2.2.2.1 a0.2.2.2.2.1 a0.2.2.2.2.2.1 a1 ([] : List Bool) ((r0.1 ++ a0.2.2.2.2.1) ++ a0.2.2.2.2.2.1) 0
    else none
  else none := by
  rewrite [h_ah, h_ah_4]
  kernel_rfl
theorem q_ah_4 (m0 : Nat) (p0 p1 p2 : Int) (p3 p4 p5 : List Int) (p6 : List D_A3) (p7 : List Bool) (p8 : List Int) (p9 : Int) : l_ah_4 (m0 + 1) p0 p1 p2 p3 p4 p5 p6 p7 p8 p9 =
  bif decide (p9 < (List.length p8 : Int)) then
    bif inB p9 (List.length p8) then
      bif (decide (((List.length p7) + (List.length ([decide ((nth ((.int .i64) : Ty) p8 p9) = 1)] : List Bool))) * 1 ≤ 140737488355328) && decide (((List.length p7) + (List.length ([decide ((nth ((.int .i64) : Ty) p8 p9) = 1)] : List Bool))) ≤ 140737488355328)) then
        l_ah_4 m0 p0 p1 p2 p3 p4 p5 p6 (p7 ++ ([decide ((nth ((.int .i64) : Ty) p8 p9) = 1)] : List Bool)) p8 (IntKind.wrap .i64 (p9 + 1))
      else none
    else none
  else
    l_ah_8 N p0 p1 p2 p3 p4 p5 p6 p7 0 := by
  rewrite [h_ah_4, h_ah_8]
  kernel_rfl
theorem q_ah_8 (m0 : Nat) (p0 p1 p2 : Int) (p3 p4 p5 : List Int) (p6 : List D_A3) (p7 : List Bool) (p8 : Int) : l_ah_8 (m0 + 1) p0 p1 p2 p3 p4 p5 p6 p7 p8 =
  bif decide (p8 < (List.length p6 : Int)) then
    bif inB p8 (List.length p6) then
      Option.bind (P_ch ((p0, (p1, (p2, (p3, (p4, (p5, ())))))), (nth T_A3 p6 p8), ())) fun r2 =>
      l_ah_12 m0 N p0 p1 p2 p3 p4 p5 r2.1.1 r2.1.2.1 r2.1.2.2.1 p6 p7 p8 0
    else none
  else
    some (p7, ()) := by
  rewrite [h_ah_8, h_ah_12]
  kernel_rfl
theorem q_ah_12 (m0 m1 : Nat) (p0 p1 p2 : Int) (p3 p4 p5 : List Int) (p6 p7 p8 : Int) (p9 : List D_A3) (p10 : List Bool) (p11 p12 : Int) : l_ah_12 m0 (m1 + 1) p0 p1 p2 p3 p4 p5 p6 p7 p8 p9 p10 p11 p12 =
  bif decide (p12 < 3) then
    bif inB p12 3 then
      bif inB (bif decide (p12 = (0 : Int)) then p6 else (bif decide (p12 = (1 : Int)) then p7 else p8)) (List.length p10) then
        l_ah_12 m0 m1 p0 p1 p2 p3 p4 p5 p6 p7 p8 p9 (List.set p10 (Int.toNat (bif decide (p12 = (0 : Int)) then p6 else (bif decide (p12 = (1 : Int)) then p7 else p8))) false) p11 (IntKind.wrap .i64 (p12 + 1))
      else none
    else none
  else
    l_ah_8 m0 p0 p1 p2 p3 p4 p5 p9 p10 (IntKind.wrap .i64 (p11 + 1)) := by
  rewrite [h_ah_8, h_ah_12]
  kernel_rfl
abbrev As_ag : List ATy := [.data true T_Shadow, .data false (.sl T_A3), .data false (.sl .bool)]
abbrev R_ag : List (Bool × Ty) := [(false, .bool)]
abbrev M_ag : List RMode := []
abbrev Ft_ag : Type := D_Shadow × (List D_A3) × (List Bool) × Unit → Option (Bool × Unit)
noncomputable def X_ag : Ctx := { types := TT, globals := [], con := [(107, C_ch)], keep := [(3, ⟨[.box 3, .tmp 1, .tmp 2, .tmp 3, .tmp 7, .tmp 8], []⟩), (7, ⟨[.box 3, .box 9, .tmp 1, .tmp 2, .tmp 3, .tmp 7, .tmp 8, .tmp 9, .tmp 10], []⟩), (11, ⟨[.tmp 2, .tmp 7, .tmp 11], []⟩)], results := [.tmp 6], ntmps := 53, n := N }
noncomputable def B_ag : Code := (Tryz.f128.body).getD .skip
noncomputable def L_ag_3 (m0 : Nat) (p0 p1 p2 : Int) (p3 p4 p5 : List Int) (p6 : List D_A3) (p7 p8 : List Bool) (p9 : Int) : Option (denL R_ag) := loopF X_ag B_ag R_ag M_ag 3 [m0] [(.ver, .num 1), (.box 3, .box 0 false [.int .i64 p0, .int .i64 p1, .int .i64 p2, .imm (.int .i64) p3 (some 3), .imm (.int .i64) p4 (some 4), .imm (.int .i64) p5 (some 5)]), (.tmp 1, .val false [.imm T_A3 p6 (some 6)]), (.tmp 2, .val false [.imm .bool p7 (some 7)]), (.tmp 3, .val false [.addr 3 0 0]), (.tmp 7, .val false [.own 4 .bool 0 p8]), (.tmp 8, .val false [.int .i64 p9])]
noncomputable def L_ag_7 (m0 m1 : Nat) (p0 p1 p2 : Int) (p3 p4 p5 : List Int) (p6 p7 p8 : Int) (p9 : List D_A3) (p10 p11 : List Bool) (p12 p13 : Int) : Option (denL R_ag) := loopF X_ag B_ag R_ag M_ag 7 [m0, m1] [(.ver, .num 1), (.box 3, .box 0 false [.int .i64 p0, .int .i64 p1, .int .i64 p2, .imm (.int .i64) p3 (some 3), .imm (.int .i64) p4 (some 4), .imm (.int .i64) p5 (some 5)]), (.box 9, .box 0 false [.int .i64 p6, .int .i64 p7, .int .i64 p8]), (.tmp 1, .val false [.imm T_A3 p9 (some 6)]), (.tmp 2, .val false [.imm .bool p10 (some 7)]), (.tmp 3, .val false [.addr 3 0 0]), (.tmp 7, .val false [.own 4 .bool 0 p11]), (.tmp 8, .val false [.int .i64 p12]), (.tmp 9, .val false [.addr 9 0 0]), (.tmp 10, .val false [.int .i64 p13])]
noncomputable def L_ag_11 (m0 : Nat) (p0 p1 : List Bool) (p2 : Int) : Option (denL R_ag) := loopF X_ag B_ag R_ag M_ag 11 [m0] [(.ver, .num 1), (.tmp 2, .val false [.imm .bool p0 (some 7)]), (.tmp 7, .val false [.own 4 .bool 0 p1]), (.tmp 11, .val false [.int .i64 p2])]
noncomputable def P_ag : Ft_ag := hid (runF X_ag B_ag As_ag R_ag M_ag)
theorem h_ag : P_ag = runF X_ag B_ag As_ag R_ag M_ag := hid_eq _
noncomputable def C_ag : Contract := ⟨As_ag, R_ag, M_ag, P_ag⟩
theorem s_ag : Sound Tryz.prog GG 128 C_ag := by
  unfold C_ag; rw [h_ag]
  exact mkS Tryz.f128 ⟨s_ch, trivial⟩ trivial
noncomputable def l_ag_3 := hid (L_ag_3)
theorem h_ag_3 : l_ag_3 = L_ag_3 := hid_eq _
noncomputable def l_ag_7 := hid (L_ag_7)
theorem h_ag_7 : l_ag_7 = L_ag_7 := hid_eq _
noncomputable def l_ag_11 := hid (L_ag_11)
theorem h_ag_11 : l_ag_11 = L_ag_11 := hid_eq _
theorem p_ag (a0 : D_Shadow) (a1 : List D_A3) (a2 : List Bool) : P_ag (a0, a1, a2, ()) =
  bif (decide ((0 : Int) ≤ (List.length a2 : Int)) && decide (((List.length a2 : Int) : Int) ≤ (List.length a2 : Int)) && decide (((List.length a2 : Int) : Int) * (1 : Nat) ≤ 140737488355328) && decide (((List.length a2 : Int) : Int) ≤ 140737488355328)) then
    l_ag_3 N a0.1 a0.2.1 a0.2.2.1 a0.2.2.2.1 a0.2.2.2.2.1 a0.2.2.2.2.2.1 a1 a2 (List.replicate (Int.toNat (List.length a2 : Int)) (Ty.dflt (.bool : Ty))) 0
  else none := by
  rewrite [h_ag, h_ag_3]
  kernel_rfl
theorem q_ag_3 (m0 : Nat) (p0 p1 p2 : Int) (p3 p4 p5 : List Int) (p6 : List D_A3) (p7 p8 : List Bool) (p9 : Int) : l_ag_3 (m0 + 1) p0 p1 p2 p3 p4 p5 p6 p7 p8 p9 =
  bif decide (p9 < (List.length p6 : Int)) then
    bif inB p9 (List.length p6) then
      Option.bind (P_ch ((p0, (p1, (p2, (p3, (p4, (p5, ())))))), (nth T_A3 p6 p9), ())) fun r2 =>
      l_ag_7 m0 N p0 p1 p2 p3 p4 p5 r2.1.1 r2.1.2.1 r2.1.2.2.1 p6 p7 p8 p9 0
    else none
  else
    l_ag_11 N p7 p8 0 := by
  rewrite [h_ag_3, h_ag_7, h_ag_11]
  kernel_rfl
theorem q_ag_7 (m0 m1 : Nat) (p0 p1 p2 : Int) (p3 p4 p5 : List Int) (p6 p7 p8 : Int) (p9 : List D_A3) (p10 p11 : List Bool) (p12 p13 : Int) : l_ag_7 m0 (m1 + 1) p0 p1 p2 p3 p4 p5 p6 p7 p8 p9 p10 p11 p12 p13 =
  bif decide (p13 < 3) then
    bif inB p13 3 then
      bif inB (bif decide (p13 = (0 : Int)) then p6 else (bif decide (p13 = (1 : Int)) then p7 else p8)) (List.length p11) then
        l_ag_7 m0 m1 p0 p1 p2 p3 p4 p5 p6 p7 p8 p9 p10 (List.set p11 (Int.toNat (bif decide (p13 = (0 : Int)) then p6 else (bif decide (p13 = (1 : Int)) then p7 else p8))) true) p12 (IntKind.wrap .i64 (p13 + 1))
      else none
    else none
  else
    l_ag_3 m0 p0 p1 p2 p3 p4 p5 p9 p10 p11 (IntKind.wrap .i64 (p12 + 1)) := by
  rewrite [h_ag_3, h_ag_7]
  kernel_rfl
theorem q_ag_11 (m0 : Nat) (p0 p1 : List Bool) (p2 : Int) : l_ag_11 (m0 + 1) p0 p1 p2 =
  bif decide (p2 < (List.length p0 : Int)) then
    bif inB p2 (List.length p0) then
      bif (nth (.bool : Ty) p0 p2) then
        bif inB p2 (List.length p1) then
          bif !(nth (.bool : Ty) p1 p2) then
            some (false, ())
          else
            l_ag_11 m0 p0 p1 (IntKind.wrap .i64 (p2 + 1))
        else none
      else
        l_ag_11 m0 p0 p1 (IntKind.wrap .i64 (p2 + 1))
    else none
  else
    some (true, ()) := by
  rewrite [h_ag_11]
  kernel_rfl
abbrev As_af : List ATy := [.data true T_Shadow, .data false (.sl T_A3), .data false (.int .i64), .data false (.sl T_A3), .data false (.int .i64)]
abbrev R_af : List (Bool × Ty) := [(false, (.sl T_A3)), (false, .bool)]
abbrev M_af : List RMode := [.imm]
abbrev Ft_af : Type := D_Shadow × (List D_A3) × Int × (List D_A3) × Int × Unit → Option ((List D_A3) × Bool × Unit)
noncomputable def X_af (F_af : Ft_af) : Ctx := { types := TT, globals := [], con := [(60, C_ah), (95, ⟨As_af, R_af, M_af, F_af⟩), (128, C_ag)], keep := [(4, ⟨[.box 5, .tmp 1, .tmp 2, .tmp 3, .tmp 4, .tmp 5, .tmp 12, .tmp 13, .tmp 14], []⟩), (13, ⟨[.box 5, .tmp 1, .tmp 3, .tmp 4, .tmp 5, .tmp 12, .tmp 15], []⟩)], results := [.tmp 10, .tmp 11], ntmps := 107, n := N }
noncomputable def B_af : Code := (Tryz.f95.body).getD .skip
noncomputable def L_af_4 (F_af : Ft_af) (m0 : Nat) (p0 p1 p2 : Int) (p3 p4 p5 : List Int) (p6 : List D_A3) (p7 : Int) (p8 : List D_A3) (p9 : Int) (p10 : List Bool) (p11 p12 : Int) : Option (denL R_af) := loopF (X_af F_af) B_af R_af M_af 4 [m0] [(.ver, .num 1), (.box 5, .box 0 false [.int .i64 p0, .int .i64 p1, .int .i64 p2, .imm (.int .i64) p3 (some 3), .imm (.int .i64) p4 (some 4), .imm (.int .i64) p5 (some 5)]), (.tmp 1, .val false [.imm T_A3 p6 (some 6)]), (.tmp 2, .val false [.int .i64 p7]), (.tmp 3, .val false [.imm T_A3 p8 (some 8)]), (.tmp 4, .val false [.int .i64 p9]), (.tmp 5, .val false [.addr 5 0 0]), (.tmp 12, .val false [.own 4 .bool 0 p10]), (.tmp 13, .val false [.int .i64 p11]), (.tmp 14, .val false [.int .i64 p12])]
noncomputable def L_af_13 (F_af : Ft_af) (m0 : Nat) (p0 p1 p2 : Int) (p3 p4 p5 : List Int) (p6 p7 : List D_A3) (p8 : Int) (p9 : List Bool) (p10 : Int) : Option (denL R_af) := loopF (X_af F_af) B_af R_af M_af 13 [m0] [(.ver, .num 1), (.box 5, .box 0 false [.int .i64 p0, .int .i64 p1, .int .i64 p2, .imm (.int .i64) p3 (some 3), .imm (.int .i64) p4 (some 4), .imm (.int .i64) p5 (some 5)]), (.tmp 1, .val false [.imm T_A3 p6 (some 6)]), (.tmp 3, .val false [.imm T_A3 p7 (some 8)]), (.tmp 4, .val false [.int .i64 p8]), (.tmp 5, .val false [.addr 5 0 0]), (.tmp 12, .val false [.own 4 .bool 0 p9]), (.tmp 15, .val false [.int .i64 p10])]
noncomputable def Pk_af : Nat → Ft_af
  | 0 => fun _ => none
  | k + 1 => runF (X_af (Pk_af k)) B_af As_af R_af M_af
theorem sk_af : ∀ k, Sound Tryz.prog GG 95 ⟨As_af, R_af, M_af, Pk_af k⟩
  | 0 => sound_none
  | k + 1 => by
    have ih := sk_af k
    exact mkS Tryz.f95 ⟨s_ah, ih, s_ag, trivial⟩ trivial
noncomputable def P_af : Ft_af := Pk_af N
noncomputable def C_af : Contract := ⟨As_af, R_af, M_af, P_af⟩
theorem s_af : Sound Tryz.prog GG 95 C_af := sk_af N
noncomputable def l_af_4 := hid (fun k => L_af_4 (Pk_af k))
theorem h_af_4 : l_af_4 = fun k => L_af_4 (Pk_af k) := hid_eq _
noncomputable def l_af_13 := hid (fun k => L_af_13 (Pk_af k))
theorem h_af_13 : l_af_13 = fun k => L_af_13 (Pk_af k) := hid_eq _
theorem p_af (k : Nat) (a0 : D_Shadow) (a1 : List D_A3) (a2 : Int) (a3 : List D_A3) (a4 : Int) : Pk_af (k + 1) (a0, a1, a2, a3, a4, ()) =
  Option.bind (P_ah (a0, a3, ())) fun r0 =>
  l_af_4 k N a0.1 a0.2.1 a0.2.2.1 a0.2.2.2.1 a0.2.2.2.2.1 a0.2.2.2.2.2.1 a1 a2 a3 a4 r0.1 0 0 := by
  rewrite [h_af_4]
  kernel_rfl
theorem q_af_4 (k : Nat) (m0 : Nat) (p0 p1 p2 : Int) (p3 p4 p5 : List Int) (p6 : List D_A3) (p7 : Int) (p8 : List D_A3) (p9 : Int) (p10 : List Bool) (p11 p12 : Int) : l_af_4 k (m0 + 1) p0 p1 p2 p3 p4 p5 p6 p7 p8 p9 p10 p11 p12 =
  bif decide (p12 < (List.length p10 : Int)) then
    bif inB p12 (List.length p10) then
      bif (nth (.bool : Ty) p10 p12) then
        l_af_4 k m0 p0 p1 p2 p3 p4 p5 p6 p7 p8 p9 p10 (IntKind.wrap .i64 (p11 + 1)) (IntKind.wrap .i64 (p12 + 1))
      else
        l_af_4 k m0 p0 p1 p2 p3 p4 p5 p6 p7 p8 p9 p10 p11 (IntKind.wrap .i64 (p12 + 1))
    else none
  else
    bif decide (p11 = 0) then
      bif decide ((List.length p8 : Int) = p9) then
        some (p8, true, ())
      else
        bif decide (p11 > (IntKind.wrap .i64 (3 * (IntKind.wrap .i64 (p9 - (List.length p8 : Int)))))) then
          some (([] : List D_A3), false, ())
        else
          bif decide ((IntKind.wrap .i64 ((List.length p6 : Int) - p7)) < (IntKind.wrap .i64 (p9 - (List.length p8 : Int)))) then
            some (([] : List D_A3), false, ())
          else
            bif (decide ((0 : Int) ≤ p7) && decide (p7 ≤ (List.length p6 : Int)) && decide ((List.length p6 : Int) ≤ (List.length p6 : Int))) then
              Option.bind (P_ag ((p0, (p1, (p2, (p3, (p4, (p5, ())))))), (cut p6 p7 (List.length p6 : Int)), p10, ())) fun r6 =>
              bif !r6.1 then
                some (([] : List D_A3), false, ())
              else
                l_af_13 k N p0 p1 p2 p3 p4 p5 p6 p8 p9 p10 p7
            else none
    else
      bif decide (p11 > (IntKind.wrap .i64 (3 * (IntKind.wrap .i64 (p9 - (List.length p8 : Int)))))) then
        some (([] : List D_A3), false, ())
      else
        bif decide ((IntKind.wrap .i64 ((List.length p6 : Int) - p7)) < (IntKind.wrap .i64 (p9 - (List.length p8 : Int)))) then
          some (([] : List D_A3), false, ())
        else
          bif (decide ((0 : Int) ≤ p7) && decide (p7 ≤ (List.length p6 : Int)) && decide ((List.length p6 : Int) ≤ (List.length p6 : Int))) then
            Option.bind (P_ag ((p0, (p1, (p2, (p3, (p4, (p5, ())))))), (cut p6 p7 (List.length p6 : Int)), p10, ())) fun r5 =>
            bif !r5.1 then
              some (([] : List D_A3), false, ())
            else
              l_af_13 k N p0 p1 p2 p3 p4 p5 p6 p8 p9 p10 p7
          else none := by
  rewrite [h_af_4, h_af_13]
  kernel_rfl
theorem q_af_13 (k : Nat) (m0 : Nat) (p0 p1 p2 : Int) (p3 p4 p5 : List Int) (p6 p7 : List D_A3) (p8 : Int) (p9 : List Bool) (p10 : Int) : l_af_13 k (m0 + 1) p0 p1 p2 p3 p4 p5 p6 p7 p8 p9 p10 =
  bif decide (p10 < (List.length p6 : Int)) then
    bif (decide (((List.length ([] : List D_A3)) + (List.length p7)) * 24 ≤ 140737488355328) && decide (((List.length ([] : List D_A3)) + (List.length p7)) ≤ 140737488355328)) then
      bif inB p10 (List.length p6) then
        bif (decide (((List.length (([] : List D_A3) ++ p7)) + (List.length ([(nth T_A3 p6 p10)] : List D_A3))) * 24 ≤ 140737488355328) && decide (((List.length (([] : List D_A3) ++ p7)) + (List.length ([(nth T_A3 p6 p10)] : List D_A3))) ≤ 140737488355328)) then
          Option.bind (Pk_af k ((p0, (p1, (p2, (p3, (p4, (p5, ())))))), p6, (IntKind.wrap .i64 (p10 + 1)), ((([] : List D_A3) ++ p7) ++ ([(nth T_A3 p6 p10)] : List D_A3)), p8, ())) fun r4 =>
          bif r4.2.1 then
            some (r4.1, true, ())
          else
            bif (decide ((0 : Int) ≤ (IntKind.wrap .i64 (p10 + 1))) && decide ((IntKind.wrap .i64 (p10 + 1)) ≤ (List.length p6 : Int)) && decide ((List.length p6 : Int) ≤ (List.length p6 : Int))) then
              Option.bind (P_ag ((p0, (p1, (p2, (p3, (p4, (p5, ())))))), (cut p6 (IntKind.wrap .i64 (p10 + 1)) (List.length p6 : Int)), p9, ())) fun r7 =>
              bif !r7.1 then
                some (([] : List D_A3), false, ())
              else
                l_af_13 k m0 p0 p1 p2 p3 p4 p5 p6 p7 p8 p9 (IntKind.wrap .i64 (p10 + 1))
            else none
        else none
      else none
    else none
  else
    some (([] : List D_A3), false, ()) := by
  rewrite [h_af_13]
  kernel_rfl
abbrev As_dn : List ATy := [.data true T_Heap, .data false (.sl T_A3)]
abbrev R_dn : List (Bool × Ty) := [(true, T_Heap)]
abbrev M_dn : List RMode := [.pass 4]
abbrev Ft_dn : Type := D_Heap × (List D_A3) × Unit → Option (D_Heap × Unit)
noncomputable def X_dn : Ctx := { types := TT, globals := [], con := [], keep := [], results := [.cell 4 26], ntmps := 13, n := N }
noncomputable def B_dn : Code := (Tryz.f96.body).getD .skip
noncomputable def P_dn : Ft_dn := hid (runF X_dn B_dn As_dn R_dn M_dn)
theorem h_dn : P_dn = runF X_dn B_dn As_dn R_dn M_dn := hid_eq _
noncomputable def C_dn : Contract := ⟨As_dn, R_dn, M_dn, P_dn⟩
theorem s_dn : Sound Tryz.prog GG 96 C_dn := by
  unfold C_dn; rw [h_dn]
  exact mkS Tryz.f96 trivial trivial
theorem p_dn (a0 : D_Heap) (a1 : List D_A3) : P_dn (a0, a1, ()) =
  some ((a0.1, (a0.2.1, (a0.2.2.1, (a1, ())))), ()) := by
  rewrite [h_dn]
  kernel_rfl
abbrev As_a9 : List ATy := [.data true T_Shadow]
abbrev R_a9 : List (Bool × Ty) := [(true, T_Heap)]
abbrev M_a9 : List RMode := [.imm]
abbrev Ft_a9 : Type := D_Shadow × Unit → Option (D_Heap × Unit)
noncomputable def X_a9 : Ctx := { types := TT, globals := [], con := [(94, C_ax), (95, C_af), (96, C_dn), (97, C_bp)], keep := [(3, ⟨[.box 1, .box 2, .tmp 1, .tmp 2, .tmp 3, .tmp 4], [.tmp 3]⟩)], results := [.cell 2 26], ntmps := 36, n := N }
noncomputable def B_a9 : Code := (Tryz.f45.body).getD .skip
noncomputable def L_a9_3 (m0 : Nat) (p0 p1 p2 : Int) (p3 p4 p5 : List Int) (p6 p7 p8 : Int) (p9 p10 : List D_A3) (p11 : Int) : Option (denL R_a9) := loopF X_a9 B_a9 R_a9 M_a9 3 [m0] [(.ver, .num 1), (.box 1, .box 0 false [.int .i64 p0, .int .i64 p1, .int .i64 p2, .imm (.int .i64) p3 (some 3), .imm (.int .i64) p4 (some 4), .imm (.int .i64) p5 (some 5)]), (.box 2, .box 0 false [.int .i64 p6, .int .i64 p7, .int .i64 p8, .own 55 T_A3 0 p9]), (.tmp 1, .val false [.addr 1 0 0]), (.tmp 2, .val false [.addr 2 0 0]), (.tmp 3, .val false [.imm T_A3 p10 none]), (.tmp 4, .val false [.int .i64 p11])]
noncomputable def P_a9 : Ft_a9 := hid (runF X_a9 B_a9 As_a9 R_a9 M_a9)
theorem h_a9 : P_a9 = runF X_a9 B_a9 As_a9 R_a9 M_a9 := hid_eq _
noncomputable def C_a9 : Contract := ⟨As_a9, R_a9, M_a9, P_a9⟩
theorem s_a9 : Sound Tryz.prog GG 45 C_a9 := by
  unfold C_a9; rw [h_a9]
  exact mkS Tryz.f45 ⟨s_ax, s_af, s_dn, s_bp, trivial⟩ trivial
noncomputable def l_a9_3 := hid (L_a9_3)
theorem h_a9_3 : l_a9_3 = L_a9_3 := hid_eq _
theorem p_a9 (a0 : D_Shadow) : P_a9 (a0, ()) =
  Option.bind (P_ax (a0, ())) fun r0 =>
  l_a9_3 N a0.1 a0.2.1 a0.2.2.1 a0.2.2.2.1 a0.2.2.2.2.1 a0.2.2.2.2.2.1 0 0 0 ([] : List D_A3) r0.1.2.2.2.1 0 := by
  rewrite [h_a9, h_a9_3]
  kernel_rfl
theorem q_a9_3 (m0 : Nat) (p0 p1 p2 : Int) (p3 p4 p5 : List Int) (p6 p7 p8 : Int) (p9 p10 : List D_A3) (p11 : Int) : l_a9_3 (m0 + 1) p0 p1 p2 p3 p4 p5 p6 p7 p8 p9 p10 p11 =
  bif decide (p11 ≤ (List.length p10 : Int)) then
    Option.bind (P_af ((p0, (p1, (p2, (p3, (p4, (p5, ())))))), p10, 0, ([] : List D_A3), p11, ())) fun r1 =>
    bif r1.2.1 then
      Option.bind (P_bp (p0, p1, p2, ())) fun r3 =>
      Option.bind (P_dn (r3.1, r1.1, ())) fun r4 =>
      some ((r4.1.1, (r4.1.2.1, (r4.1.2.2.1, (r1.1, ())))), ())
    else
      l_a9_3 m0 p0 p1 p2 p3 p4 p5 p6 p7 p8 p9 p10 (IntKind.wrap .i64 (p11 + 1))
  else
    Option.bind (P_ax ((p0, (p1, (p2, (p3, (p4, (p5, ())))))), ())) fun r1 =>
    some (r1.1, ()) := by
  rewrite [h_a9_3]
  kernel_rfl
abbrev As_c1 : List ATy := [.data true T_Shadow]
abbrev R_c1 : List (Bool × Ty) := [(false, (.int .i64)), (false, .bool)]
abbrev M_c1 : List RMode := []
abbrev Ft_c1 : Type := D_Shadow × Unit → Option (Int × Bool × Unit)
noncomputable def X_c1 : Ctx := { types := TT, globals := [], con := [(44, C_cs), (45, C_a9)], keep := [], results := [.tmp 2, .tmp 3], ntmps := 11, n := N }
noncomputable def B_c1 : Code := (Tryz.f14.body).getD .skip
noncomputable def P_c1 : Ft_c1 := hid (runF X_c1 B_c1 As_c1 R_c1 M_c1)
theorem h_c1 : P_c1 = runF X_c1 B_c1 As_c1 R_c1 M_c1 := hid_eq _
noncomputable def C_c1 : Contract := ⟨As_c1, R_c1, M_c1, P_c1⟩
theorem s_c1 : Sound Tryz.prog GG 14 C_c1 := by
  unfold C_c1; rw [h_c1]
  exact mkS Tryz.f14 ⟨s_cs, s_a9, trivial⟩ trivial
theorem p_c1 (a0 : D_Shadow) : P_c1 (a0, ()) =
  Option.bind (P_cs (a0, ())) fun r0 =>
  bif !r0.1 then
    some (0, false, ())
  else
    Option.bind (P_a9 (a0, ())) fun r2 =>
    some ((List.length r2.1.2.2.2.1 : Int), true, ()) := by
  rewrite [h_c1]
  kernel_rfl
abbrev As_bv : List ATy := [.data true T_A3, .data false (.int .u64)]
abbrev R_bv : List (Bool × Ty) := [(true, T_Heap)]
abbrev M_bv : List RMode := [.own 55]
abbrev Ft_bv : Type := D_A3 × Int × Unit → Option (D_Heap × Unit)
noncomputable def X_bv : Ctx := { types := TT, globals := [], con := [(76, C_an)], keep := [], results := [.cell 4 26], ntmps := 15, n := N }
noncomputable def B_bv : Code := (Tryz.f52.body).getD .skip
noncomputable def P_bv : Ft_bv := hid (runF X_bv B_bv As_bv R_bv M_bv)
theorem h_bv : P_bv = runF X_bv B_bv As_bv R_bv M_bv := hid_eq _
noncomputable def C_bv : Contract := ⟨As_bv, R_bv, M_bv, P_bv⟩
theorem s_bv : Sound Tryz.prog GG 52 C_bv := by
  unfold C_bv; rw [h_bv]
  exact mkS Tryz.f52 ⟨s_an, trivial⟩ trivial
theorem p_bv (a0 : D_A3) (a1 : Int) : P_bv (a0, a1, ()) =
  Option.bind (P_an (a0, a1, ())) fun r0 =>
  some ((a0.1, (a0.2.1, (a0.2.2.1, (r0.1, ())))), ()) := by
  rewrite [h_bv]
  kernel_rfl
abbrev As_a6 : List ATy := [.data true T_Shadow]
abbrev R_a6 : List (Bool × Ty) := [(true, T_Heap), (false, .bool)]
abbrev M_a6 : List RMode := [.own 55]
abbrev Ft_a6 : Type := D_Shadow × Unit → Option (D_Heap × Bool × Unit)
noncomputable def X_a6 : Ctx := { types := TT, globals := [], con := [(42, C_ay), (46, C_ae), (47, C_br), (48, C_bt), (49, C_bs), (50, C_ac), (51, C_ab), (52, C_bv)], keep := [(6, ⟨[.box 1, .box 2, .tmp 1, .tmp 2, .tmp 4, .tmp 6, .tmp 7, .tmp 20, .tmp 21], []⟩)], results := [.cell 2 26, .tmp 3], ntmps := 60, n := N }
noncomputable def B_a6 : Code := (Tryz.f15.body).getD .skip
noncomputable def L_a6_6 (m0 : Nat) (p0 p1 p2 : Int) (p3 p4 p5 : List Int) (p6 p7 p8 : Int) (p9 : List D_A3) (p10 p11 p12 p13 p14 : Int) : Option (denL R_a6) := loopF X_a6 B_a6 R_a6 M_a6 6 [m0] [(.ver, .num 1), (.box 1, .box 0 false [.int .i64 p0, .int .i64 p1, .int .i64 p2, .imm (.int .i64) p3 (some 3), .imm (.int .i64) p4 (some 4), .imm (.int .i64) p5 (some 5)]), (.box 2, .box 0 false [.int .i64 p6, .int .i64 p7, .int .i64 p8, .own 55 T_A3 0 p9]), (.tmp 1, .val false [.addr 1 0 0]), (.tmp 2, .val false [.addr 2 0 0]), (.tmp 4, .val false [.int .i64 p10]), (.tmp 6, .val false [.int .u64 p11]), (.tmp 7, .val false [.int .u64 p12]), (.tmp 20, .val false [.int .i64 p13]), (.tmp 21, .val false [.int .i64 p14])]
noncomputable def P_a6 : Ft_a6 := hid (runF X_a6 B_a6 As_a6 R_a6 M_a6)
theorem h_a6 : P_a6 = runF X_a6 B_a6 As_a6 R_a6 M_a6 := hid_eq _
noncomputable def C_a6 : Contract := ⟨As_a6, R_a6, M_a6, P_a6⟩
theorem s_a6 : Sound Tryz.prog GG 15 C_a6 := by
  unfold C_a6; rw [h_a6]
  exact mkS Tryz.f15 ⟨s_ay, s_ae, s_br, s_bt, s_bs, s_ac, s_ab, s_bv, trivial⟩ trivial
noncomputable def l_a6_6 := hid (L_a6_6)
theorem h_a6_6 : l_a6_6 = L_a6_6 := hid_eq _
theorem p_a6 (a0 : D_Shadow) : P_a6 (a0, ()) =
  Option.bind (P_ay (a0, ())) fun r0 =>
  bif !r0.2.1 then
    some ((0, (0, (0, (([] : List D_A3), ())))), false, ())
  else
    Option.bind (P_ae (a0, ())) fun r2 =>
    Option.bind (P_br (r2.1, ())) fun r3 =>
    l_a6_6 N a0.1 a0.2.1 a0.2.2.1 a0.2.2.2.1 a0.2.2.2.2.1 a0.2.2.2.2.2.1 0 0 0 ([] : List D_A3) r0.1 0 0 r3.1 0 := by
  rewrite [h_a6, h_a6_6]
  kernel_rfl
theorem q_a6_6 (m0 : Nat) (p0 p1 p2 : Int) (p3 p4 p5 : List Int) (p6 p7 p8 : Int) (p9 : List D_A3) (p10 p11 p12 p13 p14 : Int) : l_a6_6 (m0 + 1) p0 p1 p2 p3 p4 p5 p6 p7 p8 p9 p10 p11 p12 p13 p14 =
  bif decide (p14 < p13) then
    bif decide ((0 : Int) ≤ p14) then
      Option.bind (P_bt (p11, ())) fun r2 =>
      bif decide (r2.1 = p10) then
        l_a6_6 m0 p0 p1 p2 p3 p4 p5 p6 p7 p8 p9 p10 p11 p12 p13 (IntKind.wrap .i64 (p14 + 1))
      else
        Option.bind (P_bs ((p0, (p1, (p2, (p3, (p4, (p5, ())))))), ())) fun r4 =>
        bif decide ((intBits .and .u64 r4.1 (shlI .u64 1 p14)) = 0) then
          l_a6_6 m0 p0 p1 p2 p3 p4 p5 p6 p7 p8 p9 p10 p11 p12 p13 (IntKind.wrap .i64 (p14 + 1))
        else
          Option.bind (P_ab ((p0, (p1, (p2, (p3, (p4, (p5, ())))))), ())) fun r6 =>
          Option.bind (P_bt (p11, ())) fun r7 =>
          Option.bind (P_ac (r6.1, (intBits .or .u64 p11 (shlI .u64 1 p14)), p12, (IntKind.wrap .i64 ((IntKind.wrap .i64 (p10 - r7.1)) - 1)), ())) fun r8 =>
          bif r8.1 then
            l_a6_6 m0 p0 p1 p2 p3 p4 p5 p6 p7 p8 p9 p10 (intBits .or .u64 p11 (shlI .u64 1 p14)) p12 p13 (IntKind.wrap .i64 (p14 + 1))
          else
            l_a6_6 m0 p0 p1 p2 p3 p4 p5 p6 p7 p8 p9 p10 p11 (intBits .or .u64 p12 (shlI .u64 1 p14)) p13 (IntKind.wrap .i64 (p14 + 1))
    else none
  else
    Option.bind (P_ae ((p0, (p1, (p2, (p3, (p4, (p5, ())))))), ())) fun r1 =>
    Option.bind (P_bv (r1.1, p11, ())) fun r2 =>
    some (r2.1, true, ()) := by
  rewrite [h_a6_6]
  kernel_rfl
abbrev As_c4 : List ATy := [.data true T_Shadow]
abbrev R_c4 : List (Bool × Ty) := [(true, T_Heap), (false, .bool)]
abbrev M_c4 : List RMode := [.imm]
abbrev Ft_c4 : Type := D_Shadow × Unit → Option (D_Heap × Bool × Unit)
noncomputable def X_c4 : Ctx := { types := TT, globals := [], con := [(44, C_cs), (45, C_a9)], keep := [], results := [.cell 2 26, .tmp 3], ntmps := 10, n := N }
noncomputable def B_c4 : Code := (Tryz.f16.body).getD .skip
noncomputable def P_c4 : Ft_c4 := hid (runF X_c4 B_c4 As_c4 R_c4 M_c4)
theorem h_c4 : P_c4 = runF X_c4 B_c4 As_c4 R_c4 M_c4 := hid_eq _
noncomputable def C_c4 : Contract := ⟨As_c4, R_c4, M_c4, P_c4⟩
theorem s_c4 : Sound Tryz.prog GG 16 C_c4 := by
  unfold C_c4; rw [h_c4]
  exact mkS Tryz.f16 ⟨s_cs, s_a9, trivial⟩ trivial
theorem p_c4 (a0 : D_Shadow) : P_c4 (a0, ()) =
  Option.bind (P_cs (a0, ())) fun r0 =>
  bif !r0.1 then
    some ((0, (0, (0, (([] : List D_A3), ())))), false, ())
  else
    Option.bind (P_a9 (a0, ())) fun r2 =>
    some (r2.1, true, ()) := by
  rewrite [h_c4]
  kernel_rfl
abbrev As_bj : List ATy := [.data false (.sl (.int .u64)), .clo [(false, (.int .u64))] [(false, .bool)]]
abbrev R_bj : List (Bool × Ty) := [(false, (.int .i64))]
abbrev M_bj : List RMode := []
abbrev Ft_bj : Type := (List Int) × ((Int × Unit) → Option (Bool × Unit)) × Unit → Option (Int × Unit)
noncomputable def X_bj : Ctx := { types := TT, globals := [], con := [], keep := [(2, ⟨[.tmp 0, .tmp 1, .tmp 7, .tmp 8], []⟩)], results := [.tmp 4], ntmps := 19, n := N }
noncomputable def B_bj : Code := (Tryz.f102.body).getD .skip
noncomputable def L_bj_2 (m0 : Nat) (p0 : List Int) (p1 : (Int × Unit) → Option (Bool × Unit)) (p2 p3 : Int) : Option (denL R_bj) := loopF X_bj B_bj R_bj M_bj 2 [m0] [(.ver, .num 1), (.tmp 0, .val false [.imm (.int .u64) p0 (some 0)]), (.tmp 1, .val false [.clo [(false, (.int .u64))] [(false, .bool)] p1]), (.tmp 7, .val false [.int .i64 p2]), (.tmp 8, .val false [.int .i64 p3])]
noncomputable def P_bj : Ft_bj := hid (runF X_bj B_bj As_bj R_bj M_bj)
theorem h_bj : P_bj = runF X_bj B_bj As_bj R_bj M_bj := hid_eq _
noncomputable def C_bj : Contract := ⟨As_bj, R_bj, M_bj, P_bj⟩
theorem s_bj : Sound Tryz.prog GG 102 C_bj := by
  unfold C_bj; rw [h_bj]
  exact mkS Tryz.f102 trivial trivial
noncomputable def l_bj_2 := hid (L_bj_2)
theorem h_bj_2 : l_bj_2 = L_bj_2 := hid_eq _
theorem p_bj (a0 : List Int) (a1 : (Int × Unit) → Option (Bool × Unit)) : P_bj (a0, a1, ()) =
  l_bj_2 N a0 a1 (List.length a0 : Int) 0 := by
  rewrite [h_bj, h_bj_2]
  kernel_rfl
theorem q_bj_2 (m0 : Nat) (p0 : List Int) (p1 : (Int × Unit) → Option (Bool × Unit)) (p2 p3 : Int) : l_bj_2 (m0 + 1) p0 p1 p2 p3 =
  bif decide (p3 < p2) then
    bif inB p3 (List.length p0) then
      Option.bind (p1 ((nth ((.int .u64) : Ty) p0 p3), ())) fun r2 =>
      bif r2.1 then
        some (p3, ())
      else
        l_bj_2 m0 p0 p1 p2 (IntKind.wrap .i64 (p3 + 1))
    else none
  else
    some ((-1), ()) := by
  rewrite [h_bj_2]
  kernel_rfl
abbrev As_c9 : List ATy := [.data false (.sl (.int .u64)), .clo [(false, (.int .u64))] [(false, .bool)]]
abbrev R_c9 : List (Bool × Ty) := [(false, .bool)]
abbrev M_c9 : List RMode := []
abbrev Ft_c9 : Type := (List Int) × ((Int × Unit) → Option (Bool × Unit)) × Unit → Option (Bool × Unit)
noncomputable def X_c9 : Ctx := { types := TT, globals := [], con := [(102, C_bj)], keep := [], results := [.tmp 4], ntmps := 9, n := N }
noncomputable def B_c9 : Code := (Tryz.f55.body).getD .skip
noncomputable def P_c9 : Ft_c9 := hid (runF X_c9 B_c9 As_c9 R_c9 M_c9)
theorem h_c9 : P_c9 = runF X_c9 B_c9 As_c9 R_c9 M_c9 := hid_eq _
noncomputable def C_c9 : Contract := ⟨As_c9, R_c9, M_c9, P_c9⟩
theorem s_c9 : Sound Tryz.prog GG 55 C_c9 := by
  unfold C_c9; rw [h_c9]
  exact mkS Tryz.f55 ⟨s_bj, trivial⟩ trivial
theorem p_c9 (a0 : List Int) (a1 : (Int × Unit) → Option (Bool × Unit)) : P_c9 (a0, a1, ()) =
  Option.bind (P_bj (a0, a1, ())) fun r0 =>
  some (decide (r0.1 ≥ 0), ()) := by
  rewrite [h_c9]
  kernel_rfl
abbrev As_cq : List ATy := [.data false (.int .u64), .ptr (.int .u64), .ptr (.int .u64)]
abbrev R_cq : List (Bool × Ty) := [(false, .bool)]
abbrev M_cq : List RMode := []
abbrev Ft_cq : Type := Int × Int × Int × Unit → Option (Bool × Unit)
noncomputable def X_cq : Ctx := { types := TT, globals := [], con := [], keep := [], results := [.tmp 4], ntmps := 11, n := N }
noncomputable def B_cq : Code := (Tryz.f56.body).getD .skip
noncomputable def P_cq : Ft_cq := hid (runF X_cq B_cq As_cq R_cq M_cq)
theorem h_cq : P_cq = runF X_cq B_cq As_cq R_cq M_cq := hid_eq _
noncomputable def C_cq : Contract := ⟨As_cq, R_cq, M_cq, P_cq⟩
theorem s_cq : Sound Tryz.prog GG 56 C_cq := by
  unfold C_cq; rw [h_cq]
  exact mkS Tryz.f56 trivial trivial
theorem p_cq (a0 : Int) (a1 : Int) (a2 : Int) : P_cq (a0, a1, a2, ()) =
  some (decide ((intBits .and .u64 a0 (intBits .or .u64 a1 a2)) = 0), ()) := by
  rewrite [h_cq]
  kernel_rfl
abbrev As_bi : List ATy := [.data true T_Shadow]
abbrev R_bi : List (Bool × Ty) := [(false, (.int .i64)), (false, .bool)]
abbrev M_bi : List RMode := []
abbrev Ft_bi : Type := D_Shadow × Unit → Option (Int × Bool × Unit)
noncomputable def X_bi : Ctx := { types := TT, globals := [], con := [(40, C_ao), (48, C_bt), (49, C_bs), (51, C_ab), (53, C_b8), (54, C_ar), (55, C_c9), (56, C_cq)], keep := [(12, ⟨[.box 4, .box 8, .tmp 4, .tmp 5, .tmp 6, .tmp 7, .tmp 8], [.box 4]⟩)], results := [.tmp 2, .tmp 3], ntmps := 41, n := N }
noncomputable def B_bi : Code := (Tryz.f17.body).getD .skip
noncomputable def L_bi_12 (m0 : Nat) (p0 p1 : Int) (p2 : List Int) (p3 p4 : Int) : Option (denL R_bi) := loopF X_bi B_bi R_bi M_bi 12 [m0] [(.ver, .num 1), (.box 4, .box 0 true [.int .u64 p0]), (.box 8, .box 0 false [.int .u64 p1]), (.tmp 4, .val false [.addr 4 0 0]), (.tmp 5, .val false [.own 60 (.int .u64) 0 p2]), (.tmp 6, .val false [.int .u64 p3]), (.tmp 7, .val false [.int .i64 p4]), (.tmp 8, .val false [.addr 8 0 0])]
noncomputable def P_bi : Ft_bi := hid (runF X_bi B_bi As_bi R_bi M_bi)
theorem h_bi : P_bi = runF X_bi B_bi As_bi R_bi M_bi := hid_eq _
noncomputable def C_bi : Contract := ⟨As_bi, R_bi, M_bi, P_bi⟩
theorem s_bi : Sound Tryz.prog GG 17 C_bi := by
  unfold C_bi; rw [h_bi]
  exact mkS Tryz.f17 ⟨s_ao, s_bt, s_bs, s_ab, s_b8, s_ar, s_c9, s_cq, trivial⟩ trivial
noncomputable def l_bi_12 := hid (L_bi_12)
theorem h_bi_12 : l_bi_12 = L_bi_12 := hid_eq _
theorem p_bi (a0 : D_Shadow) : P_bi (a0, ()) =
  Option.bind (P_ao (a0, ())) fun r0 =>
  bif !r0.1 then
    some (0, false, ())
  else
    Option.bind (P_b8 (a0, ())) fun r2 =>
    bif !r2.1 then
      some (0, true, ())
    else
      Option.bind (P_ar (a0, ())) fun r4 =>
      Option.bind (P_ab (a0, ())) fun r5 =>
      Option.bind (P_bs (a0, ())) fun r6 =>
      Option.bind (P_bt ((intBits .andNot .u64 r6.1 r4.1), ())) fun r7 =>
      bif decide (r7.1 > 14) then
        some (0, false, ())
      else
        l_bi_12 N r4.1 (intBits .andNot .u64 r6.1 r4.1) r5.1 (intBits .andNot .u64 r6.1 r4.1) 0 := by
  rewrite [h_bi, h_bi_12]
  kernel_rfl
theorem q_bi_12 (m0 : Nat) (p0 p1 : Int) (p2 : List Int) (p3 p4 : Int) : l_bi_12 (m0 + 1) p0 p1 p2 p3 p4 =
  Option.bind (P_c9 (p2, (fun (y : Int × Unit) => P_cq (y.1, p1, p0, ())), ())) fun r0 =>
  bif !r0.1 then
    bif decide (p1 = 0) then
      some ((IntKind.wrap .i64 (p4 + 1)), true, ())
    else
      l_bi_12 m0 p0 (intBits .and .u64 (IntKind.wrap .u64 (p1 - 1)) p3) p2 p3 (IntKind.wrap .i64 (p4 + 1))
  else
    bif decide (p1 = 0) then
      some (p4, true, ())
    else
      l_bi_12 m0 p0 (intBits .and .u64 (IntKind.wrap .u64 (p1 - 1)) p3) p2 p3 p4 := by
  rewrite [h_bi_12]
  kernel_rfl
abbrev As_ba : List ATy := [.data true T_Heap, .data true T_A3]
abbrev R_ba : List (Bool × Ty) := [(false, .bool)]
abbrev M_ba : List RMode := []
abbrev Ft_ba : Type := D_Heap × D_A3 × Unit → Option (Bool × Unit)
noncomputable def X_ba : Ctx := { types := TT, globals := [], con := [(130, C_ci), (131, C_ap), (132, C_ce)], keep := [(2, ⟨[.box 2, .box 3, .tmp 2, .tmp 3, .tmp 5], []⟩)], results := [.tmp 4], ntmps := 34, n := N }
noncomputable def B_ba : Code := (Tryz.f106.body).getD .skip
noncomputable def L_ba_2 (m0 : Nat) (p0 p1 p2 : Int) (p3 : List D_A3) (p4 p5 p6 p7 : Int) : Option (denL R_ba) := loopF X_ba B_ba R_ba M_ba 2 [m0] [(.ver, .num 1), (.box 2, .box 0 false [.int .i64 p0, .int .i64 p1, .int .i64 p2, .imm T_A3 p3 (some 3)]), (.box 3, .box 0 false [.int .i64 p4, .int .i64 p5, .int .i64 p6]), (.tmp 2, .val false [.addr 2 0 0]), (.tmp 3, .val false [.addr 3 0 0]), (.tmp 5, .val false [.int .i64 p7])]
noncomputable def P_ba : Ft_ba := hid (runF X_ba B_ba As_ba R_ba M_ba)
theorem h_ba : P_ba = runF X_ba B_ba As_ba R_ba M_ba := hid_eq _
noncomputable def C_ba : Contract := ⟨As_ba, R_ba, M_ba, P_ba⟩
theorem s_ba : Sound Tryz.prog GG 106 C_ba := by
  unfold C_ba; rw [h_ba]
  exact mkS Tryz.f106 ⟨s_ci, s_ap, s_ce, trivial⟩ trivial
noncomputable def l_ba_2 := hid (L_ba_2)
theorem h_ba_2 : l_ba_2 = L_ba_2 := hid_eq _
theorem p_ba (a0 : D_Heap) (a1 : D_A3) : P_ba (a0, a1, ()) =
  l_ba_2 N a0.1 a0.2.1 a0.2.2.1 a0.2.2.2.1 a1.1 a1.2.1 a1.2.2.1 0 := by
  rewrite [h_ba, h_ba_2]
  kernel_rfl
theorem q_ba_2 (m0 : Nat) (p0 p1 p2 : Int) (p3 : List D_A3) (p4 p5 p6 p7 : Int) : l_ba_2 (m0 + 1) p0 p1 p2 p3 p4 p5 p6 p7 =
  bif decide (p7 < 3) then
    Option.bind (P_ci (p7, ())) fun r1 =>
    Option.bind (P_ap ((p0, (p1, (p2, (p3, ())))), p7, ())) fun r2 =>
    bif inB r1.1 3 then
      Option.bind (P_ce ((p0, (p1, (p2, (p3, ())))), r1.2.1, ())) fun r4 =>
      bif inB r1.2.1 3 then
        bif inB (IntKind.wrap .i64 ((IntKind.wrap .i64 ((bif decide (r1.1 = (0 : Int)) then p4 else (bif decide (r1.1 = (1 : Int)) then p5 else p6)) * r4.1)) + (bif decide (r1.2.1 = (0 : Int)) then p4 else (bif decide (r1.2.1 = (1 : Int)) then p5 else p6)))) (List.length r2.1) then
          bif decide ((nth ((.int .i64) : Ty) r2.1 (IntKind.wrap .i64 ((IntKind.wrap .i64 ((bif decide (r1.1 = (0 : Int)) then p4 else (bif decide (r1.1 = (1 : Int)) then p5 else p6)) * r4.1)) + (bif decide (r1.2.1 = (0 : Int)) then p4 else (bif decide (r1.2.1 = (1 : Int)) then p5 else p6))))) = 1) then
            some (true, ())
          else
            l_ba_2 m0 p0 p1 p2 p3 p4 p5 p6 (IntKind.wrap .i64 (p7 + 1))
        else none
      else none
    else none
  else
    some (false, ()) := by
  rewrite [h_ba_2]
  kernel_rfl
abbrev As_a8 : List ATy := [.data true T_Shadow, .data false .bool]
abbrev R_a8 : List (Bool × Ty) := [(false, (.sl T_A3))]
abbrev M_a8 : List RMode := [.own 55]
abbrev Ft_a8 : Type := D_Shadow × Bool × Unit → Option ((List D_A3) × Unit)
noncomputable def X_a8 : Ctx := { types := TT, globals := [], con := [(94, C_ax), (106, C_ba)], keep := [(3, ⟨[.box 6, .tmp 1, .tmp 5, .tmp 6, .tmp 7], []⟩)], results := [.tmp 4], ntmps := 36, n := N }
noncomputable def B_a8 : Code := (Tryz.f59.body).getD .skip
noncomputable def L_a8_3 (m0 : Nat) (p0 p1 p2 : Int) (p3 : List D_A3) (p4 : Bool) (p5 : List D_A3) (p6 : Int) : Option (denL R_a8) := loopF X_a8 B_a8 R_a8 M_a8 3 [m0] [(.ver, .num 1), (.box 6, .box 0 false [.int .i64 p0, .int .i64 p1, .int .i64 p2, .own 55 T_A3 0 p3]), (.tmp 1, .val false [.bool p4]), (.tmp 5, .val false [.own 55 T_A3 0 p5]), (.tmp 6, .val false [.addr 6 0 0]), (.tmp 7, .val false [.int .i64 p6])]
noncomputable def P_a8 : Ft_a8 := hid (runF X_a8 B_a8 As_a8 R_a8 M_a8)
theorem h_a8 : P_a8 = runF X_a8 B_a8 As_a8 R_a8 M_a8 := hid_eq _
noncomputable def C_a8 : Contract := ⟨As_a8, R_a8, M_a8, P_a8⟩
theorem s_a8 : Sound Tryz.prog GG 59 C_a8 := by
  unfold C_a8; rw [h_a8]
  exact mkS Tryz.f59 ⟨s_ax, s_ba, trivial⟩ trivial
noncomputable def l_a8_3 := hid (L_a8_3)
theorem h_a8_3 : l_a8_3 = L_a8_3 := hid_eq _
theorem p_a8 (a0 : D_Shadow) (a1 : Bool) : P_a8 (a0, a1, ()) =
  Option.bind (P_ax (a0, ())) fun r0 =>
  l_a8_3 N r0.1.1 r0.1.2.1 r0.1.2.2.1 r0.1.2.2.2.1 a1 ([] : List D_A3) 0 := by
  rewrite [h_a8, h_a8_3]
  kernel_rfl
theorem q_a8_3 (m0 : Nat) (p0 p1 p2 : Int) (p3 : List D_A3) (p4 : Bool) (p5 : List D_A3) (p6 : Int) : l_a8_3 (m0 + 1) p0 p1 p2 p3 p4 p5 p6 =
  bif decide (p6 < (List.length p3 : Int)) then
    bif inB p6 (List.length p3) then
      Option.bind (P_ba ((p0, (p1, (p2, (p3, ())))), (nth T_A3 p3 p6), ())) fun r2 =>
      bif !(r2.1 == p4) then
        bif inB p6 (List.length p3) then
          bif (decide (((List.length p5) + (List.length ([(nth T_A3 p3 p6)] : List D_A3))) * 24 ≤ 140737488355328) && decide (((List.length p5) + (List.length ([(nth T_A3 p3 p6)] : List D_A3))) ≤ 140737488355328)) then
            l_a8_3 m0 p0 p1 p2 p3 p4 (p5 ++ ([(nth T_A3 p3 p6)] : List D_A3)) (IntKind.wrap .i64 (p6 + 1))
          else none
        else none
      else
        l_a8_3 m0 p0 p1 p2 p3 p4 p5 (IntKind.wrap .i64 (p6 + 1))
    else none
  else
    some (p5, ()) := by
  rewrite [h_a8_3]
  kernel_rfl
abbrev As_ai : List ATy := [.data true T_Shadow]
abbrev R_ai : List (Bool × Ty) := [(false, (.int .i64)), (false, .bool)]
abbrev M_ai : List RMode := []
abbrev Ft_ai : Type := D_Shadow × Unit → Option (Int × Bool × Unit)
noncomputable def X_ai : Ctx := { types := TT, globals := [], con := [(57, C_b9), (58, C_cp), (59, C_a8), (60, C_ah)], keep := [(10, ⟨[.box 1, .tmp 1, .tmp 4, .tmp 5, .tmp 6, .tmp 7], []⟩), (14, ⟨[.box 1, .tmp 1, .tmp 4, .tmp 5, .tmp 6, .tmp 7, .tmp 8, .tmp 9], []⟩), (20, ⟨[.box 1, .tmp 1, .tmp 4, .tmp 5, .tmp 6, .tmp 7, .tmp 10, .tmp 11, .tmp 12], []⟩)], results := [.tmp 2, .tmp 3], ntmps := 75, n := N }
noncomputable def B_ai : Code := (Tryz.f18.body).getD .skip
noncomputable def L_ai_10 (m0 : Nat) (p0 p1 p2 : Int) (p3 p4 p5 : List Int) (p6 p7 : List D_A3) (p8 p9 : Int) : Option (denL R_ai) := loopF X_ai B_ai R_ai M_ai 10 [m0] [(.ver, .num 1), (.box 1, .box 0 false [.int .i64 p0, .int .i64 p1, .int .i64 p2, .imm (.int .i64) p3 (some 3), .imm (.int .i64) p4 (some 4), .imm (.int .i64) p5 (some 5)]), (.tmp 1, .val false [.addr 1 0 0]), (.tmp 4, .val false [.own 55 T_A3 0 p6]), (.tmp 5, .val false [.own 55 T_A3 0 p7]), (.tmp 6, .val false [.int .i64 p8]), (.tmp 7, .val false [.int .i64 p9])]
noncomputable def L_ai_14 (m0 m1 : Nat) (p0 p1 p2 : Int) (p3 p4 p5 : List Int) (p6 p7 : List D_A3) (p8 p9 : Int) (p10 : List D_A3) (p11 : Int) : Option (denL R_ai) := loopF X_ai B_ai R_ai M_ai 14 [m0, m1] [(.ver, .num 1), (.box 1, .box 0 false [.int .i64 p0, .int .i64 p1, .int .i64 p2, .imm (.int .i64) p3 (some 3), .imm (.int .i64) p4 (some 4), .imm (.int .i64) p5 (some 5)]), (.tmp 1, .val false [.addr 1 0 0]), (.tmp 4, .val false [.own 55 T_A3 0 p6]), (.tmp 5, .val false [.own 55 T_A3 0 p7]), (.tmp 6, .val false [.int .i64 p8]), (.tmp 7, .val false [.int .i64 p9]), (.tmp 8, .val false [.own 55 T_A3 0 p10]), (.tmp 9, .val false [.int .i64 p11])]
noncomputable def L_ai_20 (m0 m1 : Nat) (p0 p1 p2 : Int) (p3 p4 p5 : List Int) (p6 p7 : List D_A3) (p8 p9 : Int) (p10 : List Bool) (p11 : Bool) (p12 : Int) : Option (denL R_ai) := loopF X_ai B_ai R_ai M_ai 20 [m0, m1] [(.ver, .num 1), (.box 1, .box 0 false [.int .i64 p0, .int .i64 p1, .int .i64 p2, .imm (.int .i64) p3 (some 3), .imm (.int .i64) p4 (some 4), .imm (.int .i64) p5 (some 5)]), (.tmp 1, .val false [.addr 1 0 0]), (.tmp 4, .val false [.own 55 T_A3 0 p6]), (.tmp 5, .val false [.own 55 T_A3 0 p7]), (.tmp 6, .val false [.int .i64 p8]), (.tmp 7, .val false [.int .i64 p9]), (.tmp 10, .val false [.own 4 .bool 0 p10]), (.tmp 11, .val false [.bool p11]), (.tmp 12, .val false [.int .i64 p12])]
noncomputable def P_ai : Ft_ai := hid (runF X_ai B_ai As_ai R_ai M_ai)
theorem h_ai : P_ai = runF X_ai B_ai As_ai R_ai M_ai := hid_eq _
noncomputable def C_ai : Contract := ⟨As_ai, R_ai, M_ai, P_ai⟩
theorem s_ai : Sound Tryz.prog GG 18 C_ai := by
  unfold C_ai; rw [h_ai]
  exact mkS Tryz.f18 ⟨s_b9, s_cp, s_a8, s_ah, trivial⟩ trivial
noncomputable def l_ai_10 := hid (L_ai_10)
theorem h_ai_10 : l_ai_10 = L_ai_10 := hid_eq _
noncomputable def l_ai_14 := hid (L_ai_14)
theorem h_ai_14 : l_ai_14 = L_ai_14 := hid_eq _
noncomputable def l_ai_20 := hid (L_ai_20)
theorem h_ai_20 : l_ai_20 = L_ai_20 := hid_eq _
theorem p_ai (a0 : D_Shadow) : P_ai (a0, ()) =
  Option.bind (P_b9 (a0, ())) fun r0 =>
  bif !r0.1 then
    some (0, false, ())
  else
    Option.bind (P_cp (a0, ())) fun r2 =>
    bif !r2.1 then
      some (0, true, ())
    else
      Option.bind (P_a8 (a0, true, ())) fun r4 =>
      bif decide ((List.length r4.1 : Int) > 14) then
        some (0, false, ())
      else
        Option.bind (P_a8 (a0, false, ())) fun r6 =>
        l_ai_10 N a0.1 a0.2.1 a0.2.2.1 a0.2.2.2.1 a0.2.2.2.2.1 a0.2.2.2.2.2.1 r4.1 r6.1 0 0 := by
  rewrite [h_ai, h_ai_10]
  kernel_rfl
theorem q_ai_10 (m0 : Nat) (p0 p1 p2 : Int) (p3 p4 p5 : List Int) (p6 p7 : List D_A3) (p8 p9 : Int) : l_ai_10 (m0 + 1) p0 p1 p2 p3 p4 p5 p6 p7 p8 p9 =
  bif decide ((0 : Int) ≤ (List.length p6 : Int)) then
    bif decide (p9 < (shlI .i64 1 (List.length p6 : Int))) then
      bif (decide (((List.length ([] : List D_A3)) + (List.length p7)) * 24 ≤ 140737488355328) && decide (((List.length ([] : List D_A3)) + (List.length p7)) ≤ 140737488355328)) then
        l_ai_14 m0 N p0 p1 p2 p3 p4 p5 p6 p7 p8 p9 (([] : List D_A3) ++ p7) 0
      else none
    else
      some (p8, true, ())
  else none := by
  rewrite [h_ai_10, h_ai_14]
  kernel_rfl
theorem q_ai_14 (m0 m1 : Nat) (p0 p1 p2 : Int) (p3 p4 p5 : List Int) (p6 p7 : List D_A3) (p8 p9 : Int) (p10 : List D_A3) (p11 : Int) : l_ai_14 m0 (m1 + 1) p0 p1 p2 p3 p4 p5 p6 p7 p8 p9 p10 p11 =
  bif decide (p11 < (List.length p6 : Int)) then
    bif decide ((0 : Int) ≤ p11) then
      bif decide ((intBits .and .i64 (shrI .i64 p9 p11) 1) = 1) then
        bif inB p11 (List.length p6) then
          bif (decide (((List.length p10) + (List.length ([(nth T_A3 p6 p11)] : List D_A3))) * 24 ≤ 140737488355328) && decide (((List.length p10) + (List.length ([(nth T_A3 p6 p11)] : List D_A3))) ≤ 140737488355328)) then
            l_ai_14 m0 m1 p0 p1 p2 p3 p4 p5 p6 p7 p8 p9 (p10 ++ ([(nth T_A3 p6 p11)] : List D_A3)) (IntKind.wrap .i64 (p11 + 1))
          else none
        else none
      else
        l_ai_14 m0 m1 p0 p1 p2 p3 p4 p5 p6 p7 p8 p9 p10 (IntKind.wrap .i64 (p11 + 1))
    else none
  else
    Option.bind (P_ah ((p0, (p1, (p2, (p3, (p4, (p5, ())))))), p10, ())) fun r1 =>
    l_ai_20 m0 N p0 p1 p2 p3 p4 p5 p6 p7 p8 p9 r1.1 true 0 := by
  rewrite [h_ai_14, h_ai_20]
  kernel_rfl
theorem q_ai_20 (m0 m1 : Nat) (p0 p1 p2 : Int) (p3 p4 p5 : List Int) (p6 p7 : List D_A3) (p8 p9 : Int) (p10 : List Bool) (p11 : Bool) (p12 : Int) : l_ai_20 m0 (m1 + 1) p0 p1 p2 p3 p4 p5 p6 p7 p8 p9 p10 p11 p12 =
  bif decide (p12 < (List.length p10 : Int)) then
    bif p11 then
      bif inB p12 (List.length p10) then
        l_ai_20 m0 m1 p0 p1 p2 p3 p4 p5 p6 p7 p8 p9 p10 (!(nth (.bool : Ty) p10 p12)) (IntKind.wrap .i64 (p12 + 1))
      else none
    else
      l_ai_20 m0 m1 p0 p1 p2 p3 p4 p5 p6 p7 p8 p9 p10 false (IntKind.wrap .i64 (p12 + 1))
  else
    bif p11 then
      l_ai_10 m0 p0 p1 p2 p3 p4 p5 p6 p7 (IntKind.wrap .i64 (p8 + 1)) (IntKind.wrap .i64 (p9 + 1))
    else
      l_ai_10 m0 p0 p1 p2 p3 p4 p5 p6 p7 p8 (IntKind.wrap .i64 (p9 + 1)) := by
  rewrite [h_ai_10, h_ai_20]
  kernel_rfl
abbrev As_dd : List ATy := [.lptr T_l1Cur]
abbrev R_dd : List (Bool × Ty) := [(false, (.int .i64))]
abbrev M_dd : List RMode := []
abbrev Ft_dd : Type := D_l1Cur × Unit → Option ((Int × Unit) × (D_l1Cur × Unit))
noncomputable def X_dd : Ctx := { types := TT, globals := [], con := [], mcon := [(91, C_b5), (92, C_a5), (109, C_av)], keep := [], results := [.tmp 2], ntmps := 10, n := N }
noncomputable def B_dd : Code := (Tryz.f62.body).getD .skip
noncomputable def P_dd : Ft_dd := hid (runFM X_dd B_dd As_dd R_dd M_dd)
theorem h_dd : P_dd = runFM X_dd B_dd As_dd R_dd M_dd := hid_eq _
noncomputable def C_dd : MContract := ⟨As_dd, R_dd, M_dd, P_dd⟩
theorem s_dd : SoundM Tryz.prog n0 GG 62 C_dd := by
  unfold C_dd; rw [h_dd]
  exact mkSM Tryz.f62 trivial ⟨s_b5, s_a5, s_av, trivial⟩
theorem p_dd (a0 : D_l1Cur) : P_dd (a0, ()) =
  Option.bind (P_b5 (a0, 30, ())) fun r0 =>
  bif r0.1.1 then
    Option.bind (P_a5 ((a0.1, r0.2.1.2), ([(-1), 3, 4611686018427387904] : List Int), ())) fun r2 =>
    some ((r2.1.1, ()), ((a0.1, r2.2.1.2), ()))
  else
    Option.bind (P_av ((a0.1, r0.2.1.2), 3, ())) fun r2 =>
    some ((r2.1.1, ()), ((a0.1, r2.2.1.2), ())) := by
  rewrite [h_dd]
  kernel_rfl
abbrev As_dl : List ATy := [.data false (.sl (.int .u8))]
abbrev R_dl : List (Bool × Ty) := [(true, T_Shadow), (false, (.int .i64))]
abbrev M_dl : List RMode := [.own 3, .own 3, .own 3]
abbrev Ft_dl : Type := (List Int) × Unit → Option (D_Shadow × Int × Unit)
noncomputable def X_dl : Ctx := { types := TT, globals := [], con := [], mcon := [(61, C_cn), (62, C_dd)], keep := [], results := [.cell 2 35, .tmp 3], ntmps := 12, n := N }
noncomputable def B_dl : Code := (Tryz.f19.body).getD .skip
noncomputable def P_dl : Ft_dl := hid (runF X_dl B_dl As_dl R_dl M_dl)
theorem h_dl : P_dl = runF X_dl B_dl As_dl R_dl M_dl := hid_eq _
noncomputable def C_dl : Contract := ⟨As_dl, R_dl, M_dl, P_dl⟩
theorem s_dl : Sound Tryz.prog GG 19 C_dl := by
  unfold C_dl; rw [h_dl]
  exact mkS Tryz.f19 trivial ⟨s_cn, s_dd, trivial⟩
theorem p_dl (a0 : List Int) : P_dl (a0, ()) =
  Option.bind (P_cn ((a0, (0, (0, ()))), ())) fun r0 =>
  Option.bind (P_dd ((a0, r0.2.1.2), ())) fun r1 =>
  some (r0.1.1, r1.1.1, ()) := by
  rewrite [h_dl]
  kernel_rfl
abbrev As_dk : List ATy := [.data false (.sl (.int .u8)), .data false (.int .i64)]
abbrev R_dk : List (Bool × Ty) := [(false, (.sl (.int .u8)))]
abbrev M_dk : List RMode := [.own 5]
abbrev Ft_dk : Type := (List Int) × Int × Unit → Option ((List Int) × Unit)
noncomputable def X_dk : Ctx := { types := TT, globals := [], con := [], keep := [], results := [.tmp 4], ntmps := 20, n := N }
noncomputable def B_dk : Code := (Tryz.f20.body).getD .skip
noncomputable def P_dk : Ft_dk := hid (runF X_dk B_dk As_dk R_dk M_dk)
theorem h_dk : P_dk = runF X_dk B_dk As_dk R_dk M_dk := hid_eq _
noncomputable def C_dk : Contract := ⟨As_dk, R_dk, M_dk, P_dk⟩
theorem s_dk : Sound Tryz.prog GG 20 C_dk := by
  unfold C_dk; rw [h_dk]
  exact mkS Tryz.f20 trivial trivial
theorem p_dk (a0 : List Int) (a1 : Int) : P_dk (a0, a1, ()) =
  bif decide (a1 > (List.length a0 : Int)) then
    bif (decide ((0 : Int) ≤ (List.length a0 : Int)) && decide ((List.length a0 : Int) ≤ (List.length a0 : Int)) && decide ((List.length a0 : Int) ≤ (List.length a0 : Int))) then
      bif (decide (((List.length ([] : List Int)) + (List.length (cut a0 (List.length a0 : Int) (List.length a0 : Int)))) * 1 ≤ 140737488355328) && decide (((List.length ([] : List Int)) + (List.length (cut a0 (List.length a0 : Int) (List.length a0 : Int)))) ≤ 140737488355328)) then
        bif (decide (((List.length (([] : List Int) ++ (cut a0 (List.length a0 : Int) (List.length a0 : Int)))) + (List.length ([(IntKind.wrap .u8 (List.length a0 : Int))] : List Int))) * 1 ≤ 140737488355328) && decide (((List.length (([] : List Int) ++ (cut a0 (List.length a0 : Int) (List.length a0 : Int)))) + (List.length ([(IntKind.wrap .u8 (List.length a0 : Int))] : List Int))) ≤ 140737488355328)) then
          some (((([] : List Int) ++ (cut a0 (List.length a0 : Int) (List.length a0 : Int))) ++ ([(IntKind.wrap .u8 (List.length a0 : Int))] : List Int)), ())
        else none
      else none
    else none
  else
    bif (decide ((0 : Int) ≤ a1) && decide (a1 ≤ (List.length a0 : Int)) && decide ((List.length a0 : Int) ≤ (List.length a0 : Int))) then
      bif (decide (((List.length ([] : List Int)) + (List.length (cut a0 a1 (List.length a0 : Int)))) * 1 ≤ 140737488355328) && decide (((List.length ([] : List Int)) + (List.length (cut a0 a1 (List.length a0 : Int)))) ≤ 140737488355328)) then
        bif (decide (((List.length (([] : List Int) ++ (cut a0 a1 (List.length a0 : Int)))) + (List.length ([(IntKind.wrap .u8 a1)] : List Int))) * 1 ≤ 140737488355328) && decide (((List.length (([] : List Int) ++ (cut a0 a1 (List.length a0 : Int)))) + (List.length ([(IntKind.wrap .u8 a1)] : List Int))) ≤ 140737488355328)) then
          some (((([] : List Int) ++ (cut a0 a1 (List.length a0 : Int))) ++ ([(IntKind.wrap .u8 a1)] : List Int)), ())
        else none
      else none
    else none := by
  rewrite [h_dk]
  kernel_rfl
abbrev As_cg : List ATy := [.data false (.int .i64)]
abbrev R_cg : List (Bool × Ty) := [(false, .bool)]
abbrev M_cg : List RMode := []
abbrev Ft_cg : Type := Int × Unit → Option (Bool × Unit)
noncomputable def X_cg : Ctx := { types := TT, globals := [], con := [(81, C_bl)], keep := [], results := [.tmp 2], ntmps := 5, n := N }
noncomputable def B_cg : Code := (Tryz.f63.body).getD .skip
noncomputable def P_cg : Ft_cg := hid (runF X_cg B_cg As_cg R_cg M_cg)
theorem h_cg : P_cg = runF X_cg B_cg As_cg R_cg M_cg := hid_eq _
noncomputable def C_cg : Contract := ⟨As_cg, R_cg, M_cg, P_cg⟩
theorem s_cg : Sound Tryz.prog GG 63 C_cg := by
  unfold C_cg; rw [h_cg]
  exact mkS Tryz.f63 ⟨s_bl, trivial⟩ trivial
theorem p_cg (a0 : Int) : P_cg (a0, ()) =
  Option.bind (P_bl (a0, 0, 2, ())) fun r0 =>
  some (r0.1, ()) := by
  rewrite [h_cg]
  kernel_rfl
abbrev As_b6 : List ATy := [.data true T_A3, .data true T_A3, .data false (.int .i64)]
abbrev R_b6 : List (Bool × Ty) := [(true, T_A3)]
abbrev M_b6 : List RMode := []
abbrev Ft_b6 : Type := D_A3 × D_A3 × Int × Unit → Option (D_A3 × Unit)
noncomputable def X_b6 : Ctx := { types := TT, globals := [], con := [], keep := [], results := [.cell 6 55], ntmps := 18, n := N }
noncomputable def B_b6 : Code := (Tryz.f66.body).getD .skip
noncomputable def P_b6 : Ft_b6 := hid (runF X_b6 B_b6 As_b6 R_b6 M_b6)
theorem h_b6 : P_b6 = runF X_b6 B_b6 As_b6 R_b6 M_b6 := hid_eq _
noncomputable def C_b6 : Contract := ⟨As_b6, R_b6, M_b6, P_b6⟩
theorem s_b6 : Sound Tryz.prog GG 66 C_b6 := by
  unfold C_b6; rw [h_b6]
  exact mkS Tryz.f66 trivial trivial
theorem p_b6 (a0 : D_A3) (a1 : D_A3) (a2 : Int) : P_b6 (a0, a1, a2, ()) =
  bif inB a2 3 then
    bif inB a2 3 then
      bif inB a2 3 then
        some (((bif decide (a2 = (0 : Int)) then (IntKind.wrap .i64 ((IntKind.wrap .i64 ((bif decide (a2 = (0 : Int)) then a0.1 else (bif decide (a2 = (1 : Int)) then a0.2.1 else a0.2.2.1)) - 1)) - (bif decide (a2 = (0 : Int)) then a1.1 else (bif decide (a2 = (1 : Int)) then a1.2.1 else a1.2.2.1)))) else a1.1), ((bif decide (a2 = (1 : Int)) then (IntKind.wrap .i64 ((IntKind.wrap .i64 ((bif decide (a2 = (0 : Int)) then a0.1 else (bif decide (a2 = (1 : Int)) then a0.2.1 else a0.2.2.1)) - 1)) - (bif decide (a2 = (0 : Int)) then a1.1 else (bif decide (a2 = (1 : Int)) then a1.2.1 else a1.2.2.1)))) else a1.2.1), ((bif decide (a2 = (2 : Int)) then (IntKind.wrap .i64 ((IntKind.wrap .i64 ((bif decide (a2 = (0 : Int)) then a0.1 else (bif decide (a2 = (1 : Int)) then a0.2.1 else a0.2.2.1)) - 1)) - (bif decide (a2 = (0 : Int)) then a1.1 else (bif decide (a2 = (1 : Int)) then a1.2.1 else a1.2.2.1)))) else a1.2.2.1), ()))), ())
      else none
    else none
  else none := by
  rewrite [h_b6]
  kernel_rfl
abbrev As_b1 : List ATy := [.data true T_Shadow, .data false (.int .i64)]
abbrev R_b1 : List (Bool × Ty) := [(false, (.sl (.int .i64)))]
abbrev M_b1 : List RMode := [.pass 5]
abbrev Ft_b1 : Type := D_Shadow × Int × Unit → Option ((List Int) × Unit)
noncomputable def X_b1 : Ctx := { types := TT, globals := [], con := [], keep := [], results := [.tmp 4], ntmps := 14, n := N }
noncomputable def B_b1 : Code := (Tryz.f41.body).getD .skip
noncomputable def P_b1 : Ft_b1 := hid (runF X_b1 B_b1 As_b1 R_b1 M_b1)
theorem h_b1 : P_b1 = runF X_b1 B_b1 As_b1 R_b1 M_b1 := hid_eq _
noncomputable def C_b1 : Contract := ⟨As_b1, R_b1, M_b1, P_b1⟩
theorem s_b1 : Sound Tryz.prog GG 41 C_b1 := by
  unfold C_b1; rw [h_b1]
  exact mkS Tryz.f41 trivial trivial
theorem p_b1 (a0 : D_Shadow) (a1 : Int) : P_b1 (a0, a1, ()) =
  bif inB a1 3 then
    bif decide (a1 = (0 : Int)) then
      some (a0.2.2.2.2.2.1, ())
    else
      bif decide (a1 = (1 : Int)) then
        none
      else
        none
  else none := by
  rewrite [h_b1]
  kernel_rfl
abbrev As_b3 : List ATy := [.data true T_Shadow, .data false (.int .i64)]
abbrev R_b3 : List (Bool × Ty) := [(false, (.sl (.int .i64)))]
abbrev M_b3 : List RMode := [.pass 4]
abbrev Ft_b3 : Type := D_Shadow × Int × Unit → Option ((List Int) × Unit)
noncomputable def X_b3 : Ctx := { types := TT, globals := [], con := [], keep := [], results := [.tmp 4], ntmps := 14, n := N }
noncomputable def B_b3 : Code := (Tryz.f41.body).getD .skip
noncomputable def P_b3 : Ft_b3 := hid (runF X_b3 B_b3 As_b3 R_b3 M_b3)
theorem h_b3 : P_b3 = runF X_b3 B_b3 As_b3 R_b3 M_b3 := hid_eq _
noncomputable def C_b3 : Contract := ⟨As_b3, R_b3, M_b3, P_b3⟩
theorem s_b3 : Sound Tryz.prog GG 41 C_b3 := by
  unfold C_b3; rw [h_b3]
  exact mkS Tryz.f41 trivial trivial
theorem p_b3 (a0 : D_Shadow) (a1 : Int) : P_b3 (a0, a1, ()) =
  bif inB a1 3 then
    bif decide (a1 = (0 : Int)) then
      none
    else
      bif decide (a1 = (1 : Int)) then
        some (a0.2.2.2.2.1, ())
      else
        none
  else none := by
  rewrite [h_b3]
  kernel_rfl
abbrev As_cm : List ATy := [.data true T_Shadow, .data false (.int .i64)]
abbrev R_cm : List (Bool × Ty) := [(false, (.sl (.int .i64)))]
abbrev M_cm : List RMode := [.pass 3]
abbrev Ft_cm : Type := D_Shadow × Int × Unit → Option ((List Int) × Unit)
noncomputable def X_cm : Ctx := { types := TT, globals := [], con := [], keep := [], results := [.tmp 4], ntmps := 14, n := N }
noncomputable def B_cm : Code := (Tryz.f41.body).getD .skip
noncomputable def P_cm : Ft_cm := hid (runF X_cm B_cm As_cm R_cm M_cm)
theorem h_cm : P_cm = runF X_cm B_cm As_cm R_cm M_cm := hid_eq _
noncomputable def C_cm : Contract := ⟨As_cm, R_cm, M_cm, P_cm⟩
theorem s_cm : Sound Tryz.prog GG 41 C_cm := by
  unfold C_cm; rw [h_cm]
  exact mkS Tryz.f41 trivial trivial
theorem p_cm (a0 : D_Shadow) (a1 : Int) : P_cm (a0, a1, ()) =
  bif inB a1 3 then
    bif decide (a1 = (0 : Int)) then
      none
    else
      bif decide (a1 = (1 : Int)) then
        none
      else
        some (a0.2.2.2.1, ())
  else none := by
  rewrite [h_cm]
  kernel_rfl
end Go.VI
