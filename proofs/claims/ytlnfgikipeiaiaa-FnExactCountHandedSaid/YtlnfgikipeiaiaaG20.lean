/- What more functions of the seat compute, as printed by wip/tools. -/
import Derived.Test.YtlnfgikipeiaiaaEvH
namespace Go.VI
open Go.Proofs
set_option maxRecDepth 100000
noncomputable def TTB : List (TypeId × TI) := [(3, ⟨Try.t3.desc, (.int .i64), false, 8, [.int .i64 0], false⟩),
  (4, ⟨Try.t4.desc, .bool, false, 1, [.bool false], false⟩),
  (25, ⟨Try.t25.desc, (.sl T_Heap), false, 24, [.nil 35 T_Heap], false⟩),
  (33, ⟨Try.t33.desc, (.sl T_A3), false, 24, [.nil 42 T_A3], false⟩),
  (35, ⟨Try.t34.desc, T_Heap, true, 48, [.int .i64 0, .int .i64 0, .int .i64 0, .nil 42 T_A3], false⟩),
  (42, ⟨Try.t42.desc, T_A3, true, 24, [.int .i64 0, .int .i64 0, .int .i64 0], false⟩),
  (44, ⟨Try.t44.desc, (.pair T_A3 (.pair T_A3 (.pair T_A3 (.pair T_A3 (.pair T_A3 (.pair T_A3 .unit)))))), true, 144, [.int .i64 0, .int .i64 0, .int .i64 0, .int .i64 0, .int .i64 0, .int .i64 0, .int .i64 0, .int .i64 0, .int .i64 0, .int .i64 0, .int .i64 0, .int .i64 0, .int .i64 0, .int .i64 0, .int .i64 0, .int .i64 0, .int .i64 0, .int .i64 0], false⟩),
  (63, ⟨Try.t63.desc, (.sl T_l8Turn), false, 24, [.nil 67 T_l8Turn], false⟩),
  (67, ⟨Try.t66.desc, T_l8Turn, true, 48, [.int .i64 0, .int .i64 0, .int .i64 0, .int .i64 0, .int .i64 0, .int .i64 0], false⟩),
  (70, ⟨Try.t42.desc, T_A3, true, 24, [.int .i64 0, .int .i64 0, .int .i64 0], false⟩),
  (93, ⟨Try.t93.desc, (.sl (.int .i64)), false, 24, [.nil 3 (.int .i64)], false⟩)]
theorem ttOKB : allP (fun q => tiB Try.prog q.1 q.2) TTB :=
  ⟨⟨by kernel_rfl, by kernel_rfl, by kernel_rfl, by kernel_rfl, by kernel_rfl, by kernel_rfl⟩, ⟨by kernel_rfl, by kernel_rfl, by kernel_rfl, by kernel_rfl, by kernel_rfl, by kernel_rfl⟩, ⟨by kernel_rfl, by kernel_rfl, by kernel_rfl, by kernel_rfl, by kernel_rfl, by kernel_rfl⟩, ⟨by kernel_rfl, by kernel_rfl, by kernel_rfl, by kernel_rfl, by kernel_rfl, by kernel_rfl⟩, ⟨by kernel_rfl, by kernel_rfl, by kernel_rfl, by kernel_rfl, by kernel_rfl, by kernel_rfl⟩, ⟨by kernel_rfl, by kernel_rfl, by kernel_rfl, by kernel_rfl, by kernel_rfl, by kernel_rfl⟩, ⟨by kernel_rfl, by kernel_rfl, by kernel_rfl, by kernel_rfl, by kernel_rfl, by kernel_rfl⟩, ⟨by kernel_rfl, by kernel_rfl, by kernel_rfl, by kernel_rfl, by kernel_rfl, by kernel_rfl⟩, ⟨by kernel_rfl, by kernel_rfl, by kernel_rfl, by kernel_rfl, by kernel_rfl, by kernel_rfl⟩, ⟨by kernel_rfl, by kernel_rfl, by kernel_rfl, by kernel_rfl, by kernel_rfl, by kernel_rfl⟩, ⟨by kernel_rfl, by kernel_rfl, by kernel_rfl, by kernel_rfl, by kernel_rfl, by kernel_rfl⟩, trivial⟩
theorem mkSB {f : FuncId} {c : Code} {X : Ctx} {As : List ATy} {R : List (Bool × Ty)} {M : List RMode} (fn : Func) (hc : allP (fun p => Sound Try.prog GG p.1 p.2) X.con) (hm : allP (fun p => SoundM Try.prog n0 GG p.1 p.2) X.mcon) (hT : X.types = TTB := by rfl) (hg : X.globals = [] := by rfl) (hf : Try.prog.funcs[f]? = some fn := by kernel_rfl) (hb : fn.body = some c := by kernel_rfl) (hn : (fn.name == "runtime.NumGoroutine") = false := by kernel_rfl) (hr : X.results = fn.results.toList := by kernel_rfl) (ht : X.ntmps = fn.ntmps := by kernel_rfl) (hA : decide (As.length ≤ X.ntmps ∧ X.ntmps ≤ lentBase) = true := by kernel_rfl) : Sound Try.prog GG f ⟨As, R, M, runF X c As R M⟩ :=
  sound_of_run hmix hstable (tyOK_of (by rw [hT]; exact ttOKB)) (hglob X hg) (conOK_of hc) (mconOK_of hm) hf hb hn hr ht (of_decide_eq_true hA)
theorem mkSMB {f : FuncId} {c : Code} {X : Ctx} {As : List ATy} {R : List (Bool × Ty)} {M : List RMode} (fn : Func) (hc : allP (fun p => Sound Try.prog GG p.1 p.2) X.con) (hm : allP (fun p => SoundM Try.prog n0 GG p.1 p.2) X.mcon) (hT : X.types = TTB := by rfl) (hg : X.globals = [] := by rfl) (hf : Try.prog.funcs[f]? = some fn := by kernel_rfl) (hb : fn.body = some c := by kernel_rfl) (hn : (fn.name == "runtime.NumGoroutine") = false := by kernel_rfl) (hr : X.results = fn.results.toList := by kernel_rfl) (ht : X.ntmps = fn.ntmps := by kernel_rfl) (hA : decide (As.length ≤ X.ntmps ∧ X.ntmps ≤ lentBase) = true := by kernel_rfl) (hR : R.length = X.results.length := by kernel_rfl) (hms : (M.all fun | .pass _ => false | _ => true) = true := by rfl) : SoundM Try.prog n0 GG f ⟨As, R, M, runFM X c As R M⟩ :=
  sound_of_runM hmix hstable (tyOK_of (by rw [hT]; exact ttOKB)) (hglob X hg) (conOK_of hc) (mconOK_of hm) hf hb hn hr ht (of_decide_eq_true hA) hR hms
abbrev As_Heap_form : List ATy := [.data true T_Heap]
abbrev R_Heap_form : List (Bool × Ty) := [(true, T_Heap)]
abbrev M_Heap_form : List RMode := [.own 42]
abbrev Ft_Heap_form : Type := D_Heap × Unit → Option (D_Heap × Unit)
noncomputable def P_Heap_form : Ft_Heap_form := formF
noncomputable def C_Heap_form : Contract := ⟨As_Heap_form, R_Heap_form, M_Heap_form, P_Heap_form⟩
theorem s_Heap_form : Sound Try.prog GG 30 C_Heap_form := form_sound
abbrev As_Heap_handed : List ATy := [.data true T_Heap]
abbrev R_Heap_handed : List (Bool × Ty) := [(false, .bool)]
abbrev M_Heap_handed : List RMode := []
abbrev Ft_Heap_handed : Type := D_Heap × Unit → Option (Bool × Unit)
noncomputable def X_Heap_handed : Ctx := { types := TTB, globals := [], con := [(29, C_impl_MirrorHeap), (30, C_Heap_form), (31, C_Heap_same)], keep := [], results := [.tmp 2], ntmps := 16, n := N }
noncomputable def B_Heap_handed : Code := (Try.f15.body).getD .skip
noncomputable def P_Heap_handed : Ft_Heap_handed := hid (runF X_Heap_handed B_Heap_handed As_Heap_handed R_Heap_handed M_Heap_handed)
theorem h_Heap_handed : P_Heap_handed = runF X_Heap_handed B_Heap_handed As_Heap_handed R_Heap_handed M_Heap_handed := hid_eq _
noncomputable def C_Heap_handed : Contract := ⟨As_Heap_handed, R_Heap_handed, M_Heap_handed, P_Heap_handed⟩
theorem s_Heap_handed : Sound Try.prog GG 15 C_Heap_handed := by
  unfold C_Heap_handed; rw [h_Heap_handed]
  exact mkSB Try.f15 ⟨s_impl_MirrorHeap, s_Heap_form, s_Heap_same, trivial⟩ trivial
theorem p_Heap_handed (a0 : D_Heap) : P_Heap_handed (a0, ()) =
  Option.bind (P_impl_MirrorHeap (a0, 0, ())) fun r0 =>
  Option.bind (P_Heap_form (r0.1, ())) fun r1 =>
  Option.bind (P_Heap_form (a0, ())) fun r2 =>
  Option.bind (P_Heap_same (r1.1, r2.1, ())) fun r3 =>
  some (!r3.1, ()) := by
  rewrite [h_Heap_handed]
  kernel_rfl
abbrev As_impl_FormsOf : List ATy := [.data false (.int .i64)]
abbrev R_impl_FormsOf : List (Bool × Ty) := [(false, (.sl T_Heap)), (false, .bool)]
abbrev M_impl_FormsOf : List RMode := [.own 35]
abbrev Ft_impl_FormsOf : Type := Int × Unit → Option ((List D_Heap) × Bool × Unit)
noncomputable def P_impl_FormsOf : Ft_impl_FormsOf := formsF
noncomputable def C_impl_FormsOf : Contract := ⟨As_impl_FormsOf, R_impl_FormsOf, M_impl_FormsOf, P_impl_FormsOf⟩
theorem s_impl_FormsOf : Sound Try.prog GG 8 C_impl_FormsOf := forms_sound
abbrev As_impl_CountHanded : List ATy := [.data false (.int .i64)]
abbrev R_impl_CountHanded : List (Bool × Ty) := [(false, (.int .i64)), (false, .bool)]
abbrev M_impl_CountHanded : List RMode := []
abbrev Ft_impl_CountHanded : Type := Int × Unit → Option (Int × Bool × Unit)
noncomputable def X_impl_CountHanded : Ctx := { types := TTB, globals := [], con := [(8, C_impl_FormsOf), (15, C_Heap_handed)], keep := [(4, ⟨[.tmp 4, .tmp 5, .tmp 6, .tmp 14, .tmp 15, .tmp 16], []⟩)], results := [.tmp 2, .tmp 3], ntmps := 27, n := N }
noncomputable def B_impl_CountHanded : Code := (Try.f6.body).getD .skip
noncomputable def L_impl_CountHanded_4 (m0 : Nat) (p0 : List D_Heap) (p1 : Bool) (p2 p3 p4 : Int) : Option (denL R_impl_CountHanded) := loopF X_impl_CountHanded B_impl_CountHanded R_impl_CountHanded M_impl_CountHanded 4 [m0] [(.ver, .num 1), (.tmp 4, .val false [.own 35 T_Heap 0 p0]), (.tmp 5, .val false [.bool p1]), (.tmp 6, .val false [.int .i64 p2]), (.tmp 14, .val false [.view ⟨.tmp 4, 0, 0⟩ 0]), (.tmp 15, .val false [.int .i64 p3]), (.tmp 16, .val false [.int .i64 p4])]
noncomputable def P_impl_CountHanded : Ft_impl_CountHanded := hid (runF X_impl_CountHanded B_impl_CountHanded As_impl_CountHanded R_impl_CountHanded M_impl_CountHanded)
theorem h_impl_CountHanded : P_impl_CountHanded = runF X_impl_CountHanded B_impl_CountHanded As_impl_CountHanded R_impl_CountHanded M_impl_CountHanded := hid_eq _
noncomputable def C_impl_CountHanded : Contract := ⟨As_impl_CountHanded, R_impl_CountHanded, M_impl_CountHanded, P_impl_CountHanded⟩
theorem s_impl_CountHanded : Sound Try.prog GG 6 C_impl_CountHanded := by
  unfold C_impl_CountHanded; rw [h_impl_CountHanded]
  exact mkSB Try.f6 ⟨s_impl_FormsOf, s_Heap_handed, trivial⟩ trivial
noncomputable def l_impl_CountHanded_4 := hid (L_impl_CountHanded_4)
theorem h_impl_CountHanded_4 : l_impl_CountHanded_4 = L_impl_CountHanded_4 := hid_eq _
theorem p_impl_CountHanded (a0 : Int) : P_impl_CountHanded (a0, ()) =
  Option.bind (P_impl_FormsOf (a0, ())) fun r0 =>
  l_impl_CountHanded_4 N r0.1 r0.2.1 0 (List.length r0.1 : Int) 0 := by
  rewrite [h_impl_CountHanded, h_impl_CountHanded_4]
  kernel_rfl
theorem q_impl_CountHanded_4 (m0 : Nat) (p0 : List D_Heap) (p1 : Bool) (p2 p3 p4 : Int) : l_impl_CountHanded_4 (m0 + 1) p0 p1 p2 p3 p4 =
  bif decide (p4 < p3) then
    bif inB p4 (List.length p0) then
      Option.bind (P_Heap_handed ((nth T_Heap p0 p4), ())) fun r2 =>
      bif r2.1 then
        l_impl_CountHanded_4 m0 p0 p1 (IntKind.wrap .i64 (p2 + 1)) p3 (IntKind.wrap .i64 (p4 + 1))
      else
        l_impl_CountHanded_4 m0 p0 p1 p2 p3 (IntKind.wrap .i64 (p4 + 1))
    else none
  else
    some (p2, p1, ()) := by
  rewrite [h_impl_CountHanded_4]
  kernel_rfl
abbrev As_laws_FnExactCountHanded : List ATy := [.data false (.int .i64)]
abbrev R_laws_FnExactCountHanded : List (Bool × Ty) := [(false, .bool)]
abbrev M_laws_FnExactCountHanded : List RMode := []
abbrev Ft_laws_FnExactCountHanded : Type := Int × Unit → Option (Bool × Unit)
noncomputable def X_laws_FnExactCountHanded : Ctx := { types := TTB, globals := [], con := [(5, C_spec_CountHanded), (6, C_impl_CountHanded)], keep := [], results := [.tmp 2], ntmps := 25, n := N }
noncomputable def B_laws_FnExactCountHanded : Code := (Try.f3.body).getD .skip
noncomputable def P_laws_FnExactCountHanded : Ft_laws_FnExactCountHanded := hid (runF X_laws_FnExactCountHanded B_laws_FnExactCountHanded As_laws_FnExactCountHanded R_laws_FnExactCountHanded M_laws_FnExactCountHanded)
theorem h_laws_FnExactCountHanded : P_laws_FnExactCountHanded = runF X_laws_FnExactCountHanded B_laws_FnExactCountHanded As_laws_FnExactCountHanded R_laws_FnExactCountHanded M_laws_FnExactCountHanded := hid_eq _
noncomputable def C_laws_FnExactCountHanded : Contract := ⟨As_laws_FnExactCountHanded, R_laws_FnExactCountHanded, M_laws_FnExactCountHanded, P_laws_FnExactCountHanded⟩
theorem s_laws_FnExactCountHanded : Sound Try.prog GG 3 C_laws_FnExactCountHanded := by
  unfold C_laws_FnExactCountHanded; rw [h_laws_FnExactCountHanded]
  exact mkSB Try.f3 ⟨s_spec_CountHanded, s_impl_CountHanded, trivial⟩ trivial
theorem p_laws_FnExactCountHanded (a0 : Int) : P_laws_FnExactCountHanded (a0, ()) =
  Option.bind (P_spec_CountHanded (a0, ())) fun r0 =>
  Option.bind (P_impl_CountHanded (a0, ())) fun r1 =>
  bif !decide (r1.1 = r0.1) then
    some (false, ())
  else
    bif !(r1.2.1 == r0.2.1) then
      some (false, ())
    else
      some (true, ()) := by
  rewrite [h_laws_FnExactCountHanded]
  kernel_rfl
end Go.VI
