/- What the functions of the seat compute, as printed by wip/tools. -/
import Derived.Test.YtdejhienahdoiaaGreatViFunM
import Derived.Test.YtdejhienahdoiaaGreatProg
namespace Go.VI
open Go.Proofs
set_option maxRecDepth 100000
noncomputable section
def n0 : Nat := 0
def GG : World → Prop := fun _ => True
theorem hstable : Stable n0 GG := stable_true
theorem hmix : Tryz.prog.follows .mixedOrders = true := by kernel_rfl
theorem hglob (X : Ctx) (h : X.globals = [] := by rfl) (A : Fix) (_ : A.P = Tryz.prog) (_ : A.G = GG) : GlobOK A X := globOK_none h A
abbrev T_A2 : Ty := (.pair (.int .i64) (.pair (.int .i64) .unit))
abbrev D_A2 : Type := Int × Int × Unit
abbrev T_A3 : Ty := (.pair (.int .i64) (.pair (.int .i64) (.pair (.int .i64) .unit)))
abbrev D_A3 : Type := Int × Int × Int × Unit
abbrev T_Heap : Ty := (.pair (.int .i64) (.pair (.int .i64) (.pair (.int .i64) (.pair (.sl T_A3) .unit))))
abbrev D_Heap : Type := Int × Int × Int × (List D_A3) × Unit
def TT : List (TypeId × TI) := [(3, ⟨Tryz.t3.desc, (.int .i64), false, 8, [.int .i64 0], false⟩),
 (24, ⟨Tryz.t24.desc, (.sl T_A3), false, 24, [.nil 57 T_A3], false⟩),
 (26, ⟨Tryz.t25.desc, T_Heap, true, 48, [.int .i64 0, .int .i64 0, .int .i64 0, .nil 57 T_A3], false⟩),
 (27, ⟨Tryz.t27.desc, (.sl (.sl T_A3)), false, 24, [.nil 24 (.sl T_A3)], false⟩),
 (32, ⟨Tryz.t32.desc, (.sl (.int .i64)), false, 24, [.nil 3 (.int .i64)], false⟩),
 (57, ⟨Tryz.t57.desc, T_A3, true, 24, [.int .i64 0, .int .i64 0, .int .i64 0], false⟩),
 (58, ⟨Tryz.t57.desc, T_A3, true, 24, [.int .i64 0, .int .i64 0, .int .i64 0], false⟩)]
theorem ttOK : allP (fun q => tiB Tryz.prog q.1 q.2) TT :=
 ⟨⟨by kernel_rfl, by kernel_rfl, by kernel_rfl, by kernel_rfl, by kernel_rfl, by kernel_rfl⟩, ⟨by kernel_rfl, by kernel_rfl, by kernel_rfl, by kernel_rfl, by kernel_rfl, by kernel_rfl⟩, ⟨by kernel_rfl, by kernel_rfl, by kernel_rfl, by kernel_rfl, by kernel_rfl, by kernel_rfl⟩, ⟨by kernel_rfl, by kernel_rfl, by kernel_rfl, by kernel_rfl, by kernel_rfl, by kernel_rfl⟩, ⟨by kernel_rfl, by kernel_rfl, by kernel_rfl, by kernel_rfl, by kernel_rfl, by kernel_rfl⟩, ⟨by kernel_rfl, by kernel_rfl, by kernel_rfl, by kernel_rfl, by kernel_rfl, by kernel_rfl⟩, ⟨by kernel_rfl, by kernel_rfl, by kernel_rfl, by kernel_rfl, by kernel_rfl, by kernel_rfl⟩, trivial⟩
theorem mkS {f : FuncId} {c : Code} {X : Ctx} {As : List ATy} {R : List (Bool × Ty)} {M : List RMode} (fn : Func) (hc : allP (fun p => Sound Tryz.prog GG p.1 p.2) X.con) (hm : allP (fun p => SoundM Tryz.prog n0 GG p.1 p.2) X.mcon) (hT : X.types = TT := by rfl) (hg : X.globals = [] := by rfl) (hf : Tryz.prog.funcs[f]? = some fn := by kernel_rfl) (hb : fn.body = some c := by kernel_rfl) (hn : (fn.name == "runtime.NumGoroutine") = false := by kernel_rfl) (hr : X.results = fn.results.toList := by kernel_rfl) (ht : X.ntmps = fn.ntmps := by kernel_rfl) (hA : decide (As.length ≤ X.ntmps ∧ X.ntmps ≤ lentBase) = true := by kernel_rfl) : Sound Tryz.prog GG f ⟨As, R, M, runF X c As R M⟩ :=
 sound_of_run hmix hstable (tyOK_of (by rw [hT]; exact ttOK)) (hglob X hg) (conOK_of hc) (mconOK_of hm) hf hb hn hr ht (of_decide_eq_true hA)
abbrev As_Heap_box : List ATy := [.data true T_Heap]
abbrev R_Heap_box : List (Bool × Ty) := [(true, T_A3)]
abbrev M_Heap_box : List RMode := []
abbrev Ft_Heap_box : Type := D_Heap × Unit → Option (D_A3 × Unit)
def X_Heap_box : Ctx := { types := TT, globals := [], con := [], keep := [], results := [.cell 2 58], ntmps := 10, n := N }
def B_Heap_box : Code := (Tryz.f31.body).getD .skip
def P_Heap_box : Ft_Heap_box := hid (runF X_Heap_box B_Heap_box As_Heap_box R_Heap_box M_Heap_box)
theorem h_Heap_box : P_Heap_box = runF X_Heap_box B_Heap_box As_Heap_box R_Heap_box M_Heap_box := hid_eq _
def C_Heap_box : Contract := ⟨As_Heap_box, R_Heap_box, M_Heap_box, P_Heap_box⟩
theorem s_Heap_box : Sound Tryz.prog GG 31 C_Heap_box := by
 unfold C_Heap_box; rw [h_Heap_box]
 exact mkS Tryz.f31 trivial trivial
theorem p_Heap_box (a0 : D_Heap) : P_Heap_box (a0, ()) =
 some ((a0.1, (a0.2.1, (a0.2.2.1, ()))), ()) := by
 rewrite [h_Heap_box]
 kernel_rfl
abbrev As_impl_within : List ATy := [.data false (.int .i64), .data false (.int .i64), .data false (.int .i64)]
abbrev R_impl_within : List (Bool × Ty) := [(false, .bool)]
abbrev M_impl_within : List RMode := []
abbrev Ft_impl_within : Type := Int × Int × Int × Unit → Option (Bool × Unit)
def X_impl_within : Ctx := { types := TT, globals := [], con := [], keep := [], results := [.tmp 6], ntmps := 15, n := N }
def B_impl_within : Code := (Tryz.f88.body).getD .skip
def P_impl_within : Ft_impl_within := hid (runF X_impl_within B_impl_within As_impl_within R_impl_within M_impl_within)
theorem h_impl_within : P_impl_within = runF X_impl_within B_impl_within As_impl_within R_impl_within M_impl_within := hid_eq _
def C_impl_within : Contract := ⟨As_impl_within, R_impl_within, M_impl_within, P_impl_within⟩
theorem s_impl_within : Sound Tryz.prog GG 88 C_impl_within := by
 unfold C_impl_within; rw [h_impl_within]
 exact mkS Tryz.f88 trivial trivial
theorem p_impl_within (a0 a1 a2 : Int) : P_impl_within (a0, a1, a2, ()) =
 bif decide (a0 ≥ a1) then
 some (decide (a0 ≤ a2), ())
 else
 some (false, ()) := by
 rewrite [h_impl_within]
 kernel_rfl
abbrev As_box_has : List ATy := [.data true T_A3, .data true T_A3]
abbrev R_box_has : List (Bool × Ty) := [(false, .bool)]
abbrev M_box_has : List RMode := []
abbrev Ft_box_has : Type := D_A3 × D_A3 × Unit → Option (Bool × Unit)
def X_box_has : Ctx := { types := TT, globals := [], con := [(88, C_impl_within)], keep := [], results := [.tmp 4], ntmps := 27, n := N }
def B_box_has : Code := (Tryz.f76.body).getD .skip
def P_box_has : Ft_box_has := hid (runF X_box_has B_box_has As_box_has R_box_has M_box_has)
theorem h_box_has : P_box_has = runF X_box_has B_box_has As_box_has R_box_has M_box_has := hid_eq _
def C_box_has : Contract := ⟨As_box_has, R_box_has, M_box_has, P_box_has⟩
theorem s_box_has : Sound Tryz.prog GG 76 C_box_has := by
 unfold C_box_has; rw [h_box_has]
 exact mkS Tryz.f76 ⟨s_impl_within, trivial⟩ trivial
theorem p_box_has (a0 a1 : D_A3) : P_box_has (a0, a1, ()) =
 Option.bind (P_impl_within (a1.1, 0, (IntKind.wrap .i64 (a0.1 - 1)), ())) fun r0 =>
 bif r0.1 then
 Option.bind (P_impl_within (a1.2.1, 0, (IntKind.wrap .i64 (a0.2.1 - 1)), ())) fun r2 =>
 bif r2.1 then
 Option.bind (P_impl_within (a1.2.2.1, 0, (IntKind.wrap .i64 (a0.2.2.1 - 1)), ())) fun r4 =>
 some (r4.1, ())
 else
 some (false, ())
 else
 some (false, ()) := by
 rewrite [h_box_has]
 kernel_rfl
abbrev As_box_valid : List ATy := [.data true T_A3]
abbrev R_box_valid : List (Bool × Ty) := [(false, .bool)]
abbrev M_box_valid : List RMode := []
abbrev Ft_box_valid : Type := D_A3 × Unit → Option (Bool × Unit)
def X_box_valid : Ctx := { types := TT, globals := [], con := [(88, C_impl_within)], keep := [], results := [.tmp 2], ntmps := 16, n := N }
def B_box_valid : Code := (Tryz.f89.body).getD .skip
def P_box_valid : Ft_box_valid := hid (runF X_box_valid B_box_valid As_box_valid R_box_valid M_box_valid)
theorem h_box_valid : P_box_valid = runF X_box_valid B_box_valid As_box_valid R_box_valid M_box_valid := hid_eq _
def C_box_valid : Contract := ⟨As_box_valid, R_box_valid, M_box_valid, P_box_valid⟩
theorem s_box_valid : Sound Tryz.prog GG 89 C_box_valid := by
 unfold C_box_valid; rw [h_box_valid]
 exact mkS Tryz.f89 ⟨s_impl_within, trivial⟩ trivial
theorem p_box_valid (a0 : D_A3) : P_box_valid (a0, ()) =
 Option.bind (P_impl_within (a0.1, 1, 4, ())) fun r0 =>
 bif r0.1 then
 Option.bind (P_impl_within (a0.2.1, 1, 4, ())) fun r2 =>
 bif r2.1 then
 Option.bind (P_impl_within (a0.2.2.1, 1, 4, ())) fun r4 =>
 some (r4.1, ())
 else
 some (false, ())
 else
 some (false, ()) := by
 rewrite [h_box_valid]
 kernel_rfl
abbrev As_cmp_isNaN_int : List ATy := [.data false (.int .i64)]
abbrev R_cmp_isNaN_int : List (Bool × Ty) := [(false, .bool)]
abbrev M_cmp_isNaN_int : List RMode := []
abbrev Ft_cmp_isNaN_int : Type := Int × Unit → Option (Bool × Unit)
def X_cmp_isNaN_int : Ctx := { types := TT, globals := [], con := [], keep := [], results := [.tmp 2], ntmps := 6, n := N }
def B_cmp_isNaN_int : Code := (Tryz.f100.body).getD .skip
def P_cmp_isNaN_int : Ft_cmp_isNaN_int := hid (runF X_cmp_isNaN_int B_cmp_isNaN_int As_cmp_isNaN_int R_cmp_isNaN_int M_cmp_isNaN_int)
theorem h_cmp_isNaN_int : P_cmp_isNaN_int = runF X_cmp_isNaN_int B_cmp_isNaN_int As_cmp_isNaN_int R_cmp_isNaN_int M_cmp_isNaN_int := hid_eq _
def C_cmp_isNaN_int : Contract := ⟨As_cmp_isNaN_int, R_cmp_isNaN_int, M_cmp_isNaN_int, P_cmp_isNaN_int⟩
theorem s_cmp_isNaN_int : Sound Tryz.prog GG 100 C_cmp_isNaN_int := by
 unfold C_cmp_isNaN_int; rw [h_cmp_isNaN_int]
 exact mkS Tryz.f100 trivial trivial
theorem p_cmp_isNaN_int (a0 : Int) : P_cmp_isNaN_int (a0, ()) =
 some (!decide (a0 = a0), ()) := by
 rewrite [h_cmp_isNaN_int]
 kernel_rfl
abbrev As_cmp_Compare_int : List ATy := [.data false (.int .i64), .data false (.int .i64)]
abbrev R_cmp_Compare_int : List (Bool × Ty) := [(false, (.int .i64))]
abbrev M_cmp_Compare_int : List RMode := []
abbrev Ft_cmp_Compare_int : Type := Int × Int × Unit → Option (Int × Unit)
def X_cmp_Compare_int : Ctx := { types := TT, globals := [], con := [(100, C_cmp_isNaN_int)], keep := [], results := [.tmp 4], ntmps := 20, n := N }
def B_cmp_Compare_int : Code := (Tryz.f98.body).getD .skip
def P_cmp_Compare_int : Ft_cmp_Compare_int := hid (runF X_cmp_Compare_int B_cmp_Compare_int As_cmp_Compare_int R_cmp_Compare_int M_cmp_Compare_int)
theorem h_cmp_Compare_int : P_cmp_Compare_int = runF X_cmp_Compare_int B_cmp_Compare_int As_cmp_Compare_int R_cmp_Compare_int M_cmp_Compare_int := hid_eq _
def C_cmp_Compare_int : Contract := ⟨As_cmp_Compare_int, R_cmp_Compare_int, M_cmp_Compare_int, P_cmp_Compare_int⟩
theorem s_cmp_Compare_int : Sound Tryz.prog GG 98 C_cmp_Compare_int := by
 unfold C_cmp_Compare_int; rw [h_cmp_Compare_int]
 exact mkS Tryz.f98 ⟨s_cmp_isNaN_int, trivial⟩ trivial
theorem p_cmp_Compare_int (a0 a1 : Int) : P_cmp_Compare_int (a0, a1, ()) =
 Option.bind (P_cmp_isNaN_int (a0, ())) fun r0 =>
 Option.bind (P_cmp_isNaN_int (a1, ())) fun r1 =>
 bif r0.1 then
 bif r1.1 then
 some (0, ())
 else
 some ((-1), ())
 else
 bif r1.1 then
 some (1, ())
 else
 bif decide (a0 < a1) then
 some ((-1), ())
 else
 bif decide (a0 > a1) then
 some (1, ())
 else
 some (0, ()) := by
 rewrite [h_cmp_Compare_int]
 kernel_rfl
abbrev As_slices_Compare_int_int : List ATy := [.data false (.sl (.int .i64)), .data false (.sl (.int .i64))]
abbrev R_slices_Compare_int_int : List (Bool × Ty) := [(false, (.int .i64))]
abbrev M_slices_Compare_int_int : List RMode := []
abbrev Ft_slices_Compare_int_int : Type := (List Int) × (List Int) × Unit → Option (Int × Unit)
def X_slices_Compare_int_int : Ctx := { types := TT, globals := [], con := [(98, C_cmp_Compare_int)], keep := [(2, ⟨[.tmp 0, .tmp 1, .tmp 9, .tmp 10, .tmp 11], []⟩)], results := [.tmp 4], ntmps := 36, n := N }
def B_slices_Compare_int_int : Code := (Tryz.f96.body).getD .skip
def L_slices_Compare_int_int_2 (m0 : Nat) (p0 p1 p2 : List Int) (p3 p4 : Int) : Option (denL R_slices_Compare_int_int) := loopF X_slices_Compare_int_int B_slices_Compare_int_int R_slices_Compare_int_int M_slices_Compare_int_int 2 [m0] [(.ver, .num 1), (.tmp 0, .val false [.imm (.int .i64) p0 (some 0)]), (.tmp 1, .val false [.imm (.int .i64) p1 (some 1)]), (.tmp 9, .val false [.imm (.int .i64) p2 (some 0)]), (.tmp 10, .val false [.int .i64 p3]), (.tmp 11, .val false [.int .i64 p4])]
def P_slices_Compare_int_int : Ft_slices_Compare_int_int := hid (runF X_slices_Compare_int_int B_slices_Compare_int_int As_slices_Compare_int_int R_slices_Compare_int_int M_slices_Compare_int_int)
theorem h_slices_Compare_int_int : P_slices_Compare_int_int = runF X_slices_Compare_int_int B_slices_Compare_int_int As_slices_Compare_int_int R_slices_Compare_int_int M_slices_Compare_int_int := hid_eq _
def C_slices_Compare_int_int : Contract := ⟨As_slices_Compare_int_int, R_slices_Compare_int_int, M_slices_Compare_int_int, P_slices_Compare_int_int⟩
theorem s_slices_Compare_int_int : Sound Tryz.prog GG 96 C_slices_Compare_int_int := by
 unfold C_slices_Compare_int_int; rw [h_slices_Compare_int_int]
 exact mkS Tryz.f96 ⟨s_cmp_Compare_int, trivial⟩ trivial
def l_slices_Compare_int_int_2 := hid (L_slices_Compare_int_int_2)
theorem h_slices_Compare_int_int_2 : l_slices_Compare_int_int_2 = L_slices_Compare_int_int_2 := hid_eq _
theorem p_slices_Compare_int_int (a0 a1 : List Int) : P_slices_Compare_int_int (a0, a1, ()) =
 l_slices_Compare_int_int_2 N a0 a1 a0 (List.length a0 : Int) 0 := by
 rewrite [h_slices_Compare_int_int, h_slices_Compare_int_int_2]
 kernel_rfl
theorem q_slices_Compare_int_int_2 (m0 : Nat) (p0 p1 p2 : List Int) (p3 p4 : Int) : l_slices_Compare_int_int_2 (m0 + 1) p0 p1 p2 p3 p4 =
 bif decide (p4 < p3) then
 bif inB p4 (List.length p2) then
 bif decide (p4 ≥ (List.length p1 : Int)) then
 some (1, ())
 else
 bif inB p4 (List.length p1) then
 Option.bind (P_cmp_Compare_int ((nth ((.int .i64) : Ty) p2 p4), (nth ((.int .i64) : Ty) p1 p4), ())) fun r4 =>
 bif !decide (r4.1 = 0) then
 some (r4.1, ())
 else
 l_slices_Compare_int_int_2 m0 p0 p1 p2 p3 (IntKind.wrap .i64 (p4 + 1))
 else none
 else none
 else
 bif decide ((List.length p0 : Int) < (List.length p1 : Int)) then
 some ((-1), ())
 else
 some (0, ()) := by
 rewrite [h_slices_Compare_int_int_2]
 kernel_rfl
abbrev As_impl_compareCells : List ATy := [.data true T_A3, .data true T_A3]
abbrev R_impl_compareCells : List (Bool × Ty) := [(false, (.int .i64))]
abbrev M_impl_compareCells : List RMode := []
abbrev Ft_impl_compareCells : Type := D_A3 × D_A3 × Unit → Option (Int × Unit)
def X_impl_compareCells : Ctx := { types := TT, globals := [], con := [(96, C_slices_Compare_int_int)], keep := [], results := [.tmp 4], ntmps := 8, n := N }
def B_impl_compareCells : Code := (Tryz.f90.body).getD .skip
def P_impl_compareCells : Ft_impl_compareCells := hid (runF X_impl_compareCells B_impl_compareCells As_impl_compareCells R_impl_compareCells M_impl_compareCells)
theorem h_impl_compareCells : P_impl_compareCells = runF X_impl_compareCells B_impl_compareCells As_impl_compareCells R_impl_compareCells M_impl_compareCells := hid_eq _
def C_impl_compareCells : Contract := ⟨As_impl_compareCells, R_impl_compareCells, M_impl_compareCells, P_impl_compareCells⟩
theorem s_impl_compareCells : Sound Tryz.prog GG 90 C_impl_compareCells := by
 unfold C_impl_compareCells; rw [h_impl_compareCells]
 exact mkS Tryz.f90 ⟨s_slices_Compare_int_int, trivial⟩ trivial
theorem p_impl_compareCells (a0 a1 : D_A3) : P_impl_compareCells (a0, a1, ()) =
 Option.bind (P_slices_Compare_int_int (([a0.1, a0.2.1, a0.2.2.1] : List Int), ([a1.1, a1.2.1, a1.2.2.1] : List Int), ())) fun r0 =>
 some (r0.1, ()) := by
 rewrite [h_impl_compareCells]
 kernel_rfl
abbrev As_impl_IsHeap : List ATy := [.data true T_Heap]
abbrev R_impl_IsHeap : List (Bool × Ty) := [(false, .bool)]
abbrev M_impl_IsHeap : List RMode := []
abbrev Ft_impl_IsHeap : Type := D_Heap × Unit → Option (Bool × Unit)
def X_impl_IsHeap : Ctx := { types := TT, globals := [], con := [(31, C_Heap_box), (76, C_box_has), (89, C_box_valid), (90, C_impl_compareCells)], keep := [(4, ⟨[.box 1, .tmp 1, .tmp 10, .tmp 11, .tmp 12], []⟩)], results := [.tmp 2], ntmps := 38, n := N }
def B_impl_IsHeap : Code := (Tryz.f72.body).getD .skip
def L_impl_IsHeap_4 (m0 : Nat) (p0 p1 p2 : Int) (p3 p4 : List D_A3) (p5 p6 : Int) : Option (denL R_impl_IsHeap) := loopF X_impl_IsHeap B_impl_IsHeap R_impl_IsHeap M_impl_IsHeap 4 [m0] [(.ver, .num 1), (.box 1, .box 0 false [.int .i64 p0, .int .i64 p1, .int .i64 p2, .imm T_A3 p3 (some 3)]), (.tmp 1, .val false [.addr 1 0 0]), (.tmp 10, .val false [.imm T_A3 p4 (some 3)]), (.tmp 11, .val false [.int .i64 p5]), (.tmp 12, .val false [.int .i64 p6])]
def P_impl_IsHeap : Ft_impl_IsHeap := hid (runF X_impl_IsHeap B_impl_IsHeap As_impl_IsHeap R_impl_IsHeap M_impl_IsHeap)
theorem h_impl_IsHeap : P_impl_IsHeap = runF X_impl_IsHeap B_impl_IsHeap As_impl_IsHeap R_impl_IsHeap M_impl_IsHeap := hid_eq _
def C_impl_IsHeap : Contract := ⟨As_impl_IsHeap, R_impl_IsHeap, M_impl_IsHeap, P_impl_IsHeap⟩
theorem s_impl_IsHeap : Sound Tryz.prog GG 72 C_impl_IsHeap := by
 unfold C_impl_IsHeap; rw [h_impl_IsHeap]
 exact mkS Tryz.f72 ⟨s_Heap_box, s_box_has, s_box_valid, s_impl_compareCells, trivial⟩ trivial
def l_impl_IsHeap_4 := hid (L_impl_IsHeap_4)
theorem h_impl_IsHeap_4 : l_impl_IsHeap_4 = L_impl_IsHeap_4 := hid_eq _
theorem p_impl_IsHeap (a0 : D_Heap) : P_impl_IsHeap (a0, ()) =
 Option.bind (P_Heap_box (a0, ())) fun r0 =>
 Option.bind (P_box_valid (r0.1, ())) fun r1 =>
 bif !r1.1 then
 some (false, ())
 else
 l_impl_IsHeap_4 N a0.1 a0.2.1 a0.2.2.1 a0.2.2.2.1 a0.2.2.2.1 (List.length a0.2.2.2.1 : Int) 0 := by
 rewrite [h_impl_IsHeap, h_impl_IsHeap_4]
 kernel_rfl
theorem q_impl_IsHeap_4 (m0 : Nat) (p0 p1 p2 : Int) (p3 p4 : List D_A3) (p5 p6 : Int) : l_impl_IsHeap_4 (m0 + 1) p0 p1 p2 p3 p4 p5 p6 =
 bif decide (p6 < p5) then
 bif inB p6 (List.length p4) then
 Option.bind (P_Heap_box ((p0, (p1, (p2, (p3, ())))), ())) fun r2 =>
 Option.bind (P_box_has (r2.1, (nth T_A3 p4 p6), ())) fun r3 =>
 bif !r3.1 then
 some (false, ())
 else
 bif decide (p6 > 0) then
 bif inB (IntKind.wrap .i64 (p6 - 1)) (List.length p3) then
 Option.bind (P_impl_compareCells ((nth T_A3 p3 (IntKind.wrap .i64 (p6 - 1))), (nth T_A3 p4 p6), ())) fun r7 =>
 bif decide (r7.1 ≥ 0) then
 some (false, ())
 else
 l_impl_IsHeap_4 m0 p0 p1 p2 p3 p4 p5 (IntKind.wrap .i64 (p6 + 1))
 else none
 else
 l_impl_IsHeap_4 m0 p0 p1 p2 p3 p4 p5 (IntKind.wrap .i64 (p6 + 1))
 else none
 else
 some (true, ()) := by
 rewrite [h_impl_IsHeap_4]
 kernel_rfl
abbrev As_slices_IndexFunc_3_int_3_int : List ATy := [.data false (.sl (.sl T_A3)), .clo [(false, (.sl T_A3))] [(false, .bool)]]
abbrev R_slices_IndexFunc_3_int_3_int : List (Bool × Ty) := [(false, (.int .i64))]
abbrev M_slices_IndexFunc_3_int_3_int : List RMode := []
abbrev Ft_slices_IndexFunc_3_int_3_int : Type := (List (List D_A3)) × (((List D_A3) × Unit) → Option (Bool × Unit)) × Unit → Option (Int × Unit)
def X_slices_IndexFunc_3_int_3_int : Ctx := { types := TT, globals := [], con := [], keep := [(2, ⟨[.tmp 0, .tmp 1, .tmp 7, .tmp 8], []⟩)], results := [.tmp 4], ntmps := 19, n := N }
def B_slices_IndexFunc_3_int_3_int : Code := (Tryz.f91.body).getD .skip
def L_slices_IndexFunc_3_int_3_int_2 (m0 : Nat) (p0 : List (List D_A3)) (p1 : ((List D_A3) × Unit) → Option (Bool × Unit)) (p2 p3 : Int) : Option (denL R_slices_IndexFunc_3_int_3_int) := loopF X_slices_IndexFunc_3_int_3_int B_slices_IndexFunc_3_int_3_int R_slices_IndexFunc_3_int_3_int M_slices_IndexFunc_3_int_3_int 2 [m0] [(.ver, .num 1), (.tmp 0, .val false [.imm (.sl T_A3) p0 (some 0)]), (.tmp 1, .val false [.clo [(false, (.sl T_A3))] [(false, .bool)] p1]), (.tmp 7, .val false [.int .i64 p2]), (.tmp 8, .val false [.int .i64 p3])]
def P_slices_IndexFunc_3_int_3_int : Ft_slices_IndexFunc_3_int_3_int := hid (runF X_slices_IndexFunc_3_int_3_int B_slices_IndexFunc_3_int_3_int As_slices_IndexFunc_3_int_3_int R_slices_IndexFunc_3_int_3_int M_slices_IndexFunc_3_int_3_int)
theorem h_slices_IndexFunc_3_int_3_int : P_slices_IndexFunc_3_int_3_int = runF X_slices_IndexFunc_3_int_3_int B_slices_IndexFunc_3_int_3_int As_slices_IndexFunc_3_int_3_int R_slices_IndexFunc_3_int_3_int M_slices_IndexFunc_3_int_3_int := hid_eq _
def C_slices_IndexFunc_3_int_3_int : Contract := ⟨As_slices_IndexFunc_3_int_3_int, R_slices_IndexFunc_3_int_3_int, M_slices_IndexFunc_3_int_3_int, P_slices_IndexFunc_3_int_3_int⟩
theorem s_slices_IndexFunc_3_int_3_int : Sound Tryz.prog GG 91 C_slices_IndexFunc_3_int_3_int := by
 unfold C_slices_IndexFunc_3_int_3_int; rw [h_slices_IndexFunc_3_int_3_int]
 exact mkS Tryz.f91 trivial trivial
def l_slices_IndexFunc_3_int_3_int_2 := hid (L_slices_IndexFunc_3_int_3_int_2)
theorem h_slices_IndexFunc_3_int_3_int_2 : l_slices_IndexFunc_3_int_3_int_2 = L_slices_IndexFunc_3_int_3_int_2 := hid_eq _
theorem p_slices_IndexFunc_3_int_3_int (a0 : List (List D_A3)) (a1 : ((List D_A3) × Unit) → Option (Bool × Unit)) : P_slices_IndexFunc_3_int_3_int (a0, a1, ()) =
 l_slices_IndexFunc_3_int_3_int_2 N a0 a1 (List.length a0 : Int) 0 := by
 rewrite [h_slices_IndexFunc_3_int_3_int, h_slices_IndexFunc_3_int_3_int_2]
 kernel_rfl
theorem q_slices_IndexFunc_3_int_3_int_2 (m0 : Nat) (p0 : List (List D_A3)) (p1 : ((List D_A3) × Unit) → Option (Bool × Unit)) (p2 p3 : Int) : l_slices_IndexFunc_3_int_3_int_2 (m0 + 1) p0 p1 p2 p3 =
 bif decide (p3 < p2) then
 bif inB p3 (List.length p0) then
 Option.bind (p1 ((nth ((.sl T_A3) : Ty) p0 p3), ())) fun r2 =>
 bif r2.1 then
 some (p3, ())
 else
 l_slices_IndexFunc_3_int_3_int_2 m0 p0 p1 p2 (IntKind.wrap .i64 (p3 + 1))
 else none
 else
 some ((-1), ()) := by
 rewrite [h_slices_IndexFunc_3_int_3_int_2]
 kernel_rfl
abbrev As_slices_ContainsFunc_3_int_3_int : List ATy := [.data false (.sl (.sl T_A3)), .clo [(false, (.sl T_A3))] [(false, .bool)]]
abbrev R_slices_ContainsFunc_3_int_3_int : List (Bool × Ty) := [(false, .bool)]
abbrev M_slices_ContainsFunc_3_int_3_int : List RMode := []
abbrev Ft_slices_ContainsFunc_3_int_3_int : Type := (List (List D_A3)) × (((List D_A3) × Unit) → Option (Bool × Unit)) × Unit → Option (Bool × Unit)
def X_slices_ContainsFunc_3_int_3_int : Ctx := { types := TT, globals := [], con := [(91, C_slices_IndexFunc_3_int_3_int)], keep := [], results := [.tmp 4], ntmps := 9, n := N }
def B_slices_ContainsFunc_3_int_3_int : Code := (Tryz.f73.body).getD .skip
def P_slices_ContainsFunc_3_int_3_int : Ft_slices_ContainsFunc_3_int_3_int := hid (runF X_slices_ContainsFunc_3_int_3_int B_slices_ContainsFunc_3_int_3_int As_slices_ContainsFunc_3_int_3_int R_slices_ContainsFunc_3_int_3_int M_slices_ContainsFunc_3_int_3_int)
theorem h_slices_ContainsFunc_3_int_3_int : P_slices_ContainsFunc_3_int_3_int = runF X_slices_ContainsFunc_3_int_3_int B_slices_ContainsFunc_3_int_3_int As_slices_ContainsFunc_3_int_3_int R_slices_ContainsFunc_3_int_3_int M_slices_ContainsFunc_3_int_3_int := hid_eq _
def C_slices_ContainsFunc_3_int_3_int : Contract := ⟨As_slices_ContainsFunc_3_int_3_int, R_slices_ContainsFunc_3_int_3_int, M_slices_ContainsFunc_3_int_3_int, P_slices_ContainsFunc_3_int_3_int⟩
theorem s_slices_ContainsFunc_3_int_3_int : Sound Tryz.prog GG 73 C_slices_ContainsFunc_3_int_3_int := by
 unfold C_slices_ContainsFunc_3_int_3_int; rw [h_slices_ContainsFunc_3_int_3_int]
 exact mkS Tryz.f73 ⟨s_slices_IndexFunc_3_int_3_int, trivial⟩ trivial
theorem p_slices_ContainsFunc_3_int_3_int (a0 : List (List D_A3)) (a1 : ((List D_A3) × Unit) → Option (Bool × Unit)) : P_slices_ContainsFunc_3_int_3_int (a0, a1, ()) =
 Option.bind (P_slices_IndexFunc_3_int_3_int (a0, a1, ())) fun r0 =>
 some (decide (r0.1 ≥ 0), ()) := by
 rewrite [h_slices_ContainsFunc_3_int_3_int]
 kernel_rfl
abbrev As_impl_allWithin : List ATy := [.data false (.sl (.int .i64)), .data false (.int .i64), .data false (.int .i64)]
abbrev R_impl_allWithin : List (Bool × Ty) := [(false, .bool)]
abbrev M_impl_allWithin : List RMode := []
abbrev Ft_impl_allWithin : Type := (List Int) × Int × Int × Unit → Option (Bool × Unit)
def X_impl_allWithin : Ctx := { types := TT, globals := [], con := [(88, C_impl_within)], keep := [(2, ⟨[.tmp 1, .tmp 2, .tmp 9, .tmp 10, .tmp 11], []⟩)], results := [.tmp 6], ntmps := 21, n := N }
def B_impl_allWithin : Code := (Tryz.f70.body).getD .skip
def L_impl_allWithin_2 (m0 : Nat) (p0 p1 : Int) (p2 : List Int) (p3 p4 : Int) : Option (denL R_impl_allWithin) := loopF X_impl_allWithin B_impl_allWithin R_impl_allWithin M_impl_allWithin 2 [m0] [(.ver, .num 1), (.tmp 1, .val false [.int .i64 p0]), (.tmp 2, .val false [.int .i64 p1]), (.tmp 9, .val false [.imm (.int .i64) p2 (some 0)]), (.tmp 10, .val false [.int .i64 p3]), (.tmp 11, .val false [.int .i64 p4])]
def P_impl_allWithin : Ft_impl_allWithin := hid (runF X_impl_allWithin B_impl_allWithin As_impl_allWithin R_impl_allWithin M_impl_allWithin)
theorem h_impl_allWithin : P_impl_allWithin = runF X_impl_allWithin B_impl_allWithin As_impl_allWithin R_impl_allWithin M_impl_allWithin := hid_eq _
def C_impl_allWithin : Contract := ⟨As_impl_allWithin, R_impl_allWithin, M_impl_allWithin, P_impl_allWithin⟩
theorem s_impl_allWithin : Sound Tryz.prog GG 70 C_impl_allWithin := by
 unfold C_impl_allWithin; rw [h_impl_allWithin]
 exact mkS Tryz.f70 ⟨s_impl_within, trivial⟩ trivial
def l_impl_allWithin_2 := hid (L_impl_allWithin_2)
theorem h_impl_allWithin_2 : l_impl_allWithin_2 = L_impl_allWithin_2 := hid_eq _
theorem p_impl_allWithin (a0 : List Int) (a1 a2 : Int) : P_impl_allWithin (a0, a1, a2, ()) =
 l_impl_allWithin_2 N a1 a2 a0 (List.length a0 : Int) 0 := by
 rewrite [h_impl_allWithin, h_impl_allWithin_2]
 kernel_rfl
theorem q_impl_allWithin_2 (m0 : Nat) (p0 p1 : Int) (p2 : List Int) (p3 p4 : Int) : l_impl_allWithin_2 (m0 + 1) p0 p1 p2 p3 p4 =
 bif decide (p4 < p3) then
 bif inB p4 (List.length p2) then
 Option.bind (P_impl_within ((nth ((.int .i64) : Ty) p2 p4), p0, p1, ())) fun r2 =>
 bif !r2.1 then
 some (false, ())
 else
 l_impl_allWithin_2 m0 p0 p1 p2 p3 (IntKind.wrap .i64 (p4 + 1))
 else none
 else
 some (true, ()) := by
 rewrite [h_impl_allWithin_2]
 kernel_rfl
abbrev As_impl_IsPiece : List ATy := [.data false (.sl T_A3)]
abbrev R_impl_IsPiece : List (Bool × Ty) := [(false, .bool)]
abbrev M_impl_IsPiece : List RMode := []
abbrev Ft_impl_IsPiece : Type := (List D_A3) × Unit → Option (Bool × Unit)
def X_impl_IsPiece : Ctx := { types := TT, globals := [], con := [(70, C_impl_allWithin), (88, C_impl_within), (90, C_impl_compareCells)], keep := [(5, ⟨[.box 3, .tmp 0, .tmp 3, .tmp 13, .tmp 14, .tmp 15], []⟩)], results := [.tmp 2], ntmps := 57, n := N }
def B_impl_IsPiece : Code := (Tryz.f75.body).getD .skip
def L_impl_IsPiece_5 (m0 : Nat) (p0 p1 p2 : Int) (p3 p4 : List D_A3) (p5 p6 : Int) : Option (denL R_impl_IsPiece) := loopF X_impl_IsPiece B_impl_IsPiece R_impl_IsPiece M_impl_IsPiece 5 [m0] [(.ver, .num 1), (.box 3, .box 0 false [.int .i64 p0, .int .i64 p1, .int .i64 p2]), (.tmp 0, .val false [.imm T_A3 p3 (some 0)]), (.tmp 3, .val false [.addr 3 0 0]), (.tmp 13, .val false [.imm T_A3 p4 (some 0)]), (.tmp 14, .val false [.int .i64 p5]), (.tmp 15, .val false [.int .i64 p6])]
def P_impl_IsPiece : Ft_impl_IsPiece := hid (runF X_impl_IsPiece B_impl_IsPiece As_impl_IsPiece R_impl_IsPiece M_impl_IsPiece)
theorem h_impl_IsPiece : P_impl_IsPiece = runF X_impl_IsPiece B_impl_IsPiece As_impl_IsPiece R_impl_IsPiece M_impl_IsPiece := hid_eq _
def C_impl_IsPiece : Contract := ⟨As_impl_IsPiece, R_impl_IsPiece, M_impl_IsPiece, P_impl_IsPiece⟩
theorem s_impl_IsPiece : Sound Tryz.prog GG 75 C_impl_IsPiece := by
 unfold C_impl_IsPiece; rw [h_impl_IsPiece]
 exact mkS Tryz.f75 ⟨s_impl_allWithin, s_impl_within, s_impl_compareCells, trivial⟩ trivial
def l_impl_IsPiece_5 := hid (L_impl_IsPiece_5)
theorem h_impl_IsPiece_5 : l_impl_IsPiece_5 = L_impl_IsPiece_5 := hid_eq _
theorem p_impl_IsPiece (a0 : List D_A3) : P_impl_IsPiece (a0, ()) =
 Option.bind (P_impl_within ((List.length a0 : Int), 1, 5, ())) fun r0 =>
 bif !r0.1 then
 some (false, ())
 else
 bif inB 0 (List.length a0) then
 l_impl_IsPiece_5 N (((nth T_A3 a0 0)).1) ((((nth T_A3 a0 0)).2).1) (((((nth T_A3 a0 0)).2).2).1) a0 a0 (List.length a0 : Int) 0
 else none := by
 rewrite [h_impl_IsPiece, h_impl_IsPiece_5]
 kernel_rfl
theorem q_impl_IsPiece_5 (m0 : Nat) (p0 p1 p2 : Int) (p3 p4 : List D_A3) (p5 p6 : Int) : l_impl_IsPiece_5 (m0 + 1) p0 p1 p2 p3 p4 p5 p6 =
 bif decide (p6 < p5) then
 bif inB p6 (List.length p4) then
 Option.bind (P_impl_allWithin (([((nth T_A3 p4 p6)).1, (((nth T_A3 p4 p6)).2).1, ((((nth T_A3 p4 p6)).2).2).1] : List Int), 0, 3, ())) fun r2 =>
 bif !r2.1 then
 some (false, ())
 else
 bif decide (p6 > 0) then
 bif inB (IntKind.wrap .i64 (p6 - 1)) (List.length p3) then
 Option.bind (P_impl_compareCells ((nth T_A3 p3 (IntKind.wrap .i64 (p6 - 1))), (nth T_A3 p4 p6), ())) fun r6 =>
 bif decide (r6.1 ≥ 0) then
 some (false, ())
 else
 l_impl_IsPiece_5 m0 (bif decide (((nth T_A3 p4 p6)).1 < p0) then ((nth T_A3 p4 p6)).1 else p0) (bif decide ((((nth T_A3 p4 p6)).2).1 < p1) then (((nth T_A3 p4 p6)).2).1 else p1) (bif decide (((((nth T_A3 p4 p6)).2).2).1 < p2) then ((((nth T_A3 p4 p6)).2).2).1 else p2) p3 p4 p5 (IntKind.wrap .i64 (p6 + 1))
 else none
 else
 l_impl_IsPiece_5 m0 (bif decide (((nth T_A3 p4 p6)).1 < p0) then ((nth T_A3 p4 p6)).1 else p0) (bif decide ((((nth T_A3 p4 p6)).2).1 < p1) then (((nth T_A3 p4 p6)).2).1 else p1) (bif decide (((((nth T_A3 p4 p6)).2).2).1 < p2) then ((((nth T_A3 p4 p6)).2).2).1 else p2) p3 p4 p5 (IntKind.wrap .i64 (p6 + 1))
 else none
 else
 some ((decide (p0 = 0) && (decide (p1 = 0) && (decide (p2 = 0) && true))), ()) := by
 rewrite [h_impl_IsPiece_5]
 kernel_rfl
abbrev As_impl_isPacked_1 : List ATy := [.data false (.sl T_A3)]
abbrev R_impl_isPacked_1 : List (Bool × Ty) := [(false, .bool)]
abbrev M_impl_isPacked_1 : List RMode := []
abbrev Ft_impl_isPacked_1 : Type := (List D_A3) × Unit → Option (Bool × Unit)
def X_impl_isPacked_1 : Ctx := { types := TT, globals := [], con := [(75, C_impl_IsPiece)], keep := [], results := [.tmp 2], ntmps := 6, n := N }
def B_impl_isPacked_1 : Code := (Tryz.f74.body).getD .skip
def P_impl_isPacked_1 : Ft_impl_isPacked_1 := hid (runF X_impl_isPacked_1 B_impl_isPacked_1 As_impl_isPacked_1 R_impl_isPacked_1 M_impl_isPacked_1)
theorem h_impl_isPacked_1 : P_impl_isPacked_1 = runF X_impl_isPacked_1 B_impl_isPacked_1 As_impl_isPacked_1 R_impl_isPacked_1 M_impl_isPacked_1 := hid_eq _
def C_impl_isPacked_1 : Contract := ⟨As_impl_isPacked_1, R_impl_isPacked_1, M_impl_isPacked_1, P_impl_isPacked_1⟩
theorem s_impl_isPacked_1 : Sound Tryz.prog GG 74 C_impl_isPacked_1 := by
 unfold C_impl_isPacked_1; rw [h_impl_isPacked_1]
 exact mkS Tryz.f74 ⟨s_impl_IsPiece, trivial⟩ trivial
theorem p_impl_isPacked_1 (a0 : List D_A3) : P_impl_isPacked_1 (a0, ()) =
 Option.bind (P_impl_IsPiece (a0, ())) fun r0 =>
 some (!r0.1, ()) := by
 rewrite [h_impl_isPacked_1]
 kernel_rfl
abbrev As_impl_isPacked : List ATy := [.data true T_Heap, .data false (.sl (.sl T_A3))]
abbrev R_impl_isPacked : List (Bool × Ty) := [(false, .bool)]
abbrev M_impl_isPacked : List RMode := []
abbrev Ft_impl_isPacked : Type := D_Heap × (List (List D_A3)) × Unit → Option (Bool × Unit)
def X_impl_isPacked : Ctx := { types := TT, globals := [], con := [(72, C_impl_IsHeap), (73, C_slices_ContainsFunc_3_int_3_int), (74, C_impl_isPacked_1)], keep := [], results := [.tmp 4], ntmps := 12, n := N }
def B_impl_isPacked : Code := (Tryz.f46.body).getD .skip
def P_impl_isPacked : Ft_impl_isPacked := hid (runF X_impl_isPacked B_impl_isPacked As_impl_isPacked R_impl_isPacked M_impl_isPacked)
theorem h_impl_isPacked : P_impl_isPacked = runF X_impl_isPacked B_impl_isPacked As_impl_isPacked R_impl_isPacked M_impl_isPacked := hid_eq _
def C_impl_isPacked : Contract := ⟨As_impl_isPacked, R_impl_isPacked, M_impl_isPacked, P_impl_isPacked⟩
theorem s_impl_isPacked : Sound Tryz.prog GG 46 C_impl_isPacked := by
 unfold C_impl_isPacked; rw [h_impl_isPacked]
 exact mkS Tryz.f46 ⟨s_impl_IsHeap, s_slices_ContainsFunc_3_int_3_int, s_impl_isPacked_1, trivial⟩ trivial
theorem p_impl_isPacked (a0 : D_Heap) (a1 : List (List D_A3)) : P_impl_isPacked (a0, a1, ()) =
 Option.bind (P_impl_IsHeap (a0, ())) fun r0 =>
 bif r0.1 then
 Option.bind (P_slices_ContainsFunc_3_int_3_int (a1, (fun (y : (List D_A3) × Unit) => P_impl_isPacked_1 (y.1, ())), ())) fun r2 =>
 some (!r2.1, ())
 else
 some (false, ()) := by
 rewrite [h_impl_isPacked]
 kernel_rfl
abbrev As_impl_arePacked : List ATy := [.data true T_Heap, .data false (.sl (.sl T_A3))]
abbrev R_impl_arePacked : List (Bool × Ty) := [(false, .bool)]
abbrev M_impl_arePacked : List RMode := []
abbrev Ft_impl_arePacked : Type := D_Heap × (List (List D_A3)) × Unit → Option (Bool × Unit)
def X_impl_arePacked : Ctx := { types := TT, globals := [], con := [(46, C_impl_isPacked)], keep := [], results := [.tmp 4], ntmps := 13, n := N }
def B_impl_arePacked : Code := (Tryz.f23.body).getD .skip
def P_impl_arePacked : Ft_impl_arePacked := hid (runF X_impl_arePacked B_impl_arePacked As_impl_arePacked R_impl_arePacked M_impl_arePacked)
theorem h_impl_arePacked : P_impl_arePacked = runF X_impl_arePacked B_impl_arePacked As_impl_arePacked R_impl_arePacked M_impl_arePacked := hid_eq _
def C_impl_arePacked : Contract := ⟨As_impl_arePacked, R_impl_arePacked, M_impl_arePacked, P_impl_arePacked⟩
theorem s_impl_arePacked : Sound Tryz.prog GG 23 C_impl_arePacked := by
 unfold C_impl_arePacked; rw [h_impl_arePacked]
 exact mkS Tryz.f23 ⟨s_impl_isPacked, trivial⟩ trivial
theorem p_impl_arePacked (a0 : D_Heap) (a1 : List (List D_A3)) : P_impl_arePacked (a0, a1, ()) =
 Option.bind (P_impl_isPacked (a0, a1, ())) fun r0 =>
 bif r0.1 then
 some (decide ((List.length a1 : Int) ≤ 8), ())
 else
 some (false, ()) := by
 rewrite [h_impl_arePacked]
 kernel_rfl
abbrev As_box_cell : List ATy := [.data true T_A3, .data false (.int .i64)]
abbrev R_box_cell : List (Bool × Ty) := [(true, T_A3)]
abbrev M_box_cell : List RMode := []
abbrev Ft_box_cell : Type := D_A3 × Int × Unit → Option (D_A3 × Unit)
def X_box_cell : Ctx := { types := TT, globals := [], con := [], keep := [], results := [.cell 4 57], ntmps := 24, n := N }
def B_box_cell : Code := (Tryz.f43.body).getD .skip
def P_box_cell : Ft_box_cell := hid (runF X_box_cell B_box_cell As_box_cell R_box_cell M_box_cell)
theorem h_box_cell : P_box_cell = runF X_box_cell B_box_cell As_box_cell R_box_cell M_box_cell := hid_eq _
def C_box_cell : Contract := ⟨As_box_cell, R_box_cell, M_box_cell, P_box_cell⟩
theorem s_box_cell : Sound Tryz.prog GG 43 C_box_cell := by
 unfold C_box_cell; rw [h_box_cell]
 exact mkS Tryz.f43 trivial trivial
theorem p_box_cell (a0 : D_A3) (a1 : Int) : P_box_cell (a0, a1, ()) =
 bif !decide (a0.2.2.1 = 0) then
 bif !decide (a0.2.1 = 0) then
 bif !decide (a0.2.2.1 = 0) then
 bif !decide (a0.2.1 = 0) then
 bif !decide (a0.2.2.1 = 0) then
 some (((IntKind.wrap .i64 (Int.tdiv (IntKind.wrap .i64 (Int.tdiv a1 a0.2.2.1)) a0.2.1)), ((Int.tmod (IntKind.wrap .i64 (Int.tdiv a1 a0.2.2.1)) a0.2.1), ((Int.tmod a1 a0.2.2.1), ()))), ())
 else none
 else none
 else none
 else none
 else none := by
 rewrite [h_box_cell]
 kernel_rfl
abbrev As_box_size : List ATy := [.data true T_A3]
abbrev R_box_size : List (Bool × Ty) := [(false, (.int .i64))]
abbrev M_box_size : List RMode := []
abbrev Ft_box_size : Type := D_A3 × Unit → Option (Int × Unit)
def X_box_size : Ctx := { types := TT, globals := [], con := [], keep := [], results := [.tmp 2], ntmps := 11, n := N }
def B_box_size : Code := (Tryz.f50.body).getD .skip
def P_box_size : Ft_box_size := hid (runF X_box_size B_box_size As_box_size R_box_size M_box_size)
theorem h_box_size : P_box_size = runF X_box_size B_box_size As_box_size R_box_size M_box_size := hid_eq _
def C_box_size : Contract := ⟨As_box_size, R_box_size, M_box_size, P_box_size⟩
theorem s_box_size : Sound Tryz.prog GG 50 C_box_size := by
 unfold C_box_size; rw [h_box_size]
 exact mkS Tryz.f50 trivial trivial
theorem p_box_size (a0 : D_A3) : P_box_size (a0, ()) =
 some ((IntKind.wrap .i64 ((IntKind.wrap .i64 (a0.1 * a0.2.1)) * a0.2.2.1)), ()) := by
 rewrite [h_box_size]
 kernel_rfl
abbrev As_set_has : List ATy := [.data false (.int .u64), .data false (.int .i64)]
abbrev R_set_has : List (Bool × Ty) := [(false, .bool)]
abbrev M_set_has : List RMode := []
abbrev Ft_set_has : Type := Int × Int × Unit → Option (Bool × Unit)
def X_set_has : Ctx := { types := TT, globals := [], con := [], keep := [], results := [.tmp 4], ntmps := 10, n := N }
def B_set_has : Code := (Tryz.f53.body).getD .skip
def P_set_has : Ft_set_has := hid (runF X_set_has B_set_has As_set_has R_set_has M_set_has)
theorem h_set_has : P_set_has = runF X_set_has B_set_has As_set_has R_set_has M_set_has := hid_eq _
def C_set_has : Contract := ⟨As_set_has, R_set_has, M_set_has, P_set_has⟩
theorem s_set_has : Sound Tryz.prog GG 53 C_set_has := by
 unfold C_set_has; rw [h_set_has]
 exact mkS Tryz.f53 trivial trivial
theorem p_set_has (a0 a1 : Int) : P_set_has (a0, a1, ()) =
 bif decide ((0 : Int) ≤ a1) then
 some (decide ((intBits .and .u64 (shrI .u64 a0 a1) 1) = 1), ())
 else none := by
 rewrite [h_set_has]
 kernel_rfl
abbrev As_box_list : List ATy := [.data true T_A3, .data false (.int .u64)]
abbrev R_box_list : List (Bool × Ty) := [(false, (.sl T_A3))]
abbrev M_box_list : List RMode := [.own 57]
abbrev Ft_box_list : Type := D_A3 × Int × Unit → Option ((List D_A3) × Unit)
def X_box_list : Ctx := { types := TT, globals := [], con := [(43, C_box_cell), (50, C_box_size), (53, C_set_has)], keep := [(3, ⟨[.box 2, .tmp 1, .tmp 2, .tmp 5, .tmp 9, .tmp 10], []⟩)], results := [.tmp 4], ntmps := 24, n := N }
def B_box_list : Code := (Tryz.f32.body).getD .skip
def L_box_list_3 (m0 : Nat) (p0 p1 p2 p3 : Int) (p4 : List D_A3) (p5 p6 : Int) : Option (denL R_box_list) := loopF X_box_list B_box_list R_box_list M_box_list 3 [m0] [(.ver, .num 1), (.box 2, .box 0 false [.int .i64 p0, .int .i64 p1, .int .i64 p2]), (.tmp 1, .val false [.int .u64 p3]), (.tmp 2, .val false [.addr 2 0 0]), (.tmp 5, .val false [.own 57 T_A3 0 p4]), (.tmp 9, .val false [.int .i64 p5]), (.tmp 10, .val false [.int .i64 p6])]
def P_box_list : Ft_box_list := hid (runF X_box_list B_box_list As_box_list R_box_list M_box_list)
theorem h_box_list : P_box_list = runF X_box_list B_box_list As_box_list R_box_list M_box_list := hid_eq _
def C_box_list : Contract := ⟨As_box_list, R_box_list, M_box_list, P_box_list⟩
theorem s_box_list : Sound Tryz.prog GG 32 C_box_list := by
 unfold C_box_list; rw [h_box_list]
 exact mkS Tryz.f32 ⟨s_box_cell, s_box_size, s_set_has, trivial⟩ trivial
def l_box_list_3 := hid (L_box_list_3)
theorem h_box_list_3 : l_box_list_3 = L_box_list_3 := hid_eq _
theorem p_box_list (a0 : D_A3) (a1 : Int) : P_box_list (a0, a1, ()) =
 Option.bind (P_box_size (a0, ())) fun r0 =>
 l_box_list_3 N a0.1 a0.2.1 a0.2.2.1 a1 ([] : List D_A3) r0.1 0 := by
 rewrite [h_box_list, h_box_list_3]
 kernel_rfl
theorem q_box_list_3 (m0 : Nat) (p0 p1 p2 p3 : Int) (p4 : List D_A3) (p5 p6 : Int) : l_box_list_3 (m0 + 1) p0 p1 p2 p3 p4 p5 p6 =
 bif decide (p6 < p5) then
 Option.bind (P_set_has (p3, p6, ())) fun r1 =>
 bif r1.1 then
 Option.bind (P_box_cell ((p0, (p1, (p2, ()))), p6, ())) fun r3 =>
 bif (decide (((List.length p4) + (List.length ([r3.1] : List D_A3))) * 24 ≤ 140737488355328) && decide (((List.length p4) + (List.length ([r3.1] : List D_A3))) ≤ 140737488355328)) then
 l_box_list_3 m0 p0 p1 p2 p3 (p4 ++ ([r3.1] : List D_A3)) p5 (IntKind.wrap .i64 (p6 + 1))
 else none
 else
 l_box_list_3 m0 p0 p1 p2 p3 p4 p5 (IntKind.wrap .i64 (p6 + 1))
 else
 some (p4, ()) := by
 rewrite [h_box_list_3]
 kernel_rfl
abbrev As_box_full : List ATy := [.data true T_A3]
abbrev R_box_full : List (Bool × Ty) := [(false, (.int .u64))]
abbrev M_box_full : List RMode := []
abbrev Ft_box_full : Type := D_A3 × Unit → Option (Int × Unit)
def X_box_full : Ctx := { types := TT, globals := [], con := [(50, C_box_size)], keep := [], results := [.tmp 2], ntmps := 7, n := N }
def B_box_full : Code := (Tryz.f59.body).getD .skip
def P_box_full : Ft_box_full := hid (runF X_box_full B_box_full As_box_full R_box_full M_box_full)
theorem h_box_full : P_box_full = runF X_box_full B_box_full As_box_full R_box_full M_box_full := hid_eq _
def C_box_full : Contract := ⟨As_box_full, R_box_full, M_box_full, P_box_full⟩
theorem s_box_full : Sound Tryz.prog GG 59 C_box_full := by
 unfold C_box_full; rw [h_box_full]
 exact mkS Tryz.f59 ⟨s_box_size, trivial⟩ trivial
theorem p_box_full (a0 : D_A3) : P_box_full (a0, ()) =
 Option.bind (P_box_size (a0, ())) fun r0 =>
 bif decide ((0 : Int) ≤ r0.1) then
 some ((IntKind.wrap .u64 ((shlI .u64 1 r0.1) - 1)), ())
 else none := by
 rewrite [h_box_full]
 kernel_rfl
abbrev As_box_index : List ATy := [.data true T_A3, .data true T_A3]
abbrev R_box_index : List (Bool × Ty) := [(false, (.int .i64))]
abbrev M_box_index : List RMode := []
abbrev Ft_box_index : Type := D_A3 × D_A3 × Unit → Option (Int × Unit)
def X_box_index : Ctx := { types := TT, globals := [], con := [], keep := [], results := [.tmp 4], ntmps := 19, n := N }
def B_box_index : Code := (Tryz.f77.body).getD .skip
def P_box_index : Ft_box_index := hid (runF X_box_index B_box_index As_box_index R_box_index M_box_index)
theorem h_box_index : P_box_index = runF X_box_index B_box_index As_box_index R_box_index M_box_index := hid_eq _
def C_box_index : Contract := ⟨As_box_index, R_box_index, M_box_index, P_box_index⟩
theorem s_box_index : Sound Tryz.prog GG 77 C_box_index := by
 unfold C_box_index; rw [h_box_index]
 exact mkS Tryz.f77 trivial trivial
theorem p_box_index (a0 a1 : D_A3) : P_box_index (a0, a1, ()) =
 some ((IntKind.wrap .i64 ((IntKind.wrap .i64 ((IntKind.wrap .i64 ((IntKind.wrap .i64 (a1.1 * a0.2.1)) + a1.2.1)) * a0.2.2.1)) + a1.2.2.1)), ()) := by
 rewrite [h_box_index]
 kernel_rfl
abbrev As_Heap_cubes : List ATy := [.data true T_Heap]
abbrev R_Heap_cubes : List (Bool × Ty) := [(false, (.int .u64))]
abbrev M_Heap_cubes : List RMode := []
abbrev Ft_Heap_cubes : Type := D_Heap × Unit → Option (Int × Unit)
def X_Heap_cubes : Ctx := { types := TT, globals := [], con := [(31, C_Heap_box), (77, C_box_index)], keep := [(3, ⟨[.box 1, .tmp 1, .tmp 3, .tmp 7, .tmp 8, .tmp 9], []⟩)], results := [.tmp 2], ntmps := 22, n := N }
def B_Heap_cubes : Code := (Tryz.f60.body).getD .skip
def L_Heap_cubes_3 (m0 : Nat) (p0 p1 p2 : Int) (p3 : List D_A3) (p4 : Int) (p5 : List D_A3) (p6 p7 : Int) : Option (denL R_Heap_cubes) := loopF X_Heap_cubes B_Heap_cubes R_Heap_cubes M_Heap_cubes 3 [m0] [(.ver, .num 1), (.box 1, .box 0 false [.int .i64 p0, .int .i64 p1, .int .i64 p2, .imm T_A3 p3 (some 3)]), (.tmp 1, .val false [.addr 1 0 0]), (.tmp 3, .val false [.int .u64 p4]), (.tmp 7, .val false [.imm T_A3 p5 (some 3)]), (.tmp 8, .val false [.int .i64 p6]), (.tmp 9, .val false [.int .i64 p7])]
def P_Heap_cubes : Ft_Heap_cubes := hid (runF X_Heap_cubes B_Heap_cubes As_Heap_cubes R_Heap_cubes M_Heap_cubes)
theorem h_Heap_cubes : P_Heap_cubes = runF X_Heap_cubes B_Heap_cubes As_Heap_cubes R_Heap_cubes M_Heap_cubes := hid_eq _
def C_Heap_cubes : Contract := ⟨As_Heap_cubes, R_Heap_cubes, M_Heap_cubes, P_Heap_cubes⟩
theorem s_Heap_cubes : Sound Tryz.prog GG 60 C_Heap_cubes := by
 unfold C_Heap_cubes; rw [h_Heap_cubes]
 exact mkS Tryz.f60 ⟨s_Heap_box, s_box_index, trivial⟩ trivial
def l_Heap_cubes_3 := hid (L_Heap_cubes_3)
theorem h_Heap_cubes_3 : l_Heap_cubes_3 = L_Heap_cubes_3 := hid_eq _
theorem p_Heap_cubes (a0 : D_Heap) : P_Heap_cubes (a0, ()) =
 l_Heap_cubes_3 N a0.1 a0.2.1 a0.2.2.1 a0.2.2.2.1 0 a0.2.2.2.1 (List.length a0.2.2.2.1 : Int) 0 := by
 rewrite [h_Heap_cubes, h_Heap_cubes_3]
 kernel_rfl
theorem q_Heap_cubes_3 (m0 : Nat) (p0 p1 p2 : Int) (p3 : List D_A3) (p4 : Int) (p5 : List D_A3) (p6 p7 : Int) : l_Heap_cubes_3 (m0 + 1) p0 p1 p2 p3 p4 p5 p6 p7 =
 bif decide (p7 < p6) then
 bif inB p7 (List.length p5) then
 Option.bind (P_Heap_box ((p0, (p1, (p2, (p3, ())))), ())) fun r2 =>
 Option.bind (P_box_index (r2.1, (nth T_A3 p5 p7), ())) fun r3 =>
 bif decide ((0 : Int) ≤ r3.1) then
 l_Heap_cubes_3 m0 p0 p1 p2 p3 (intBits .or .u64 p4 (shlI .u64 1 r3.1)) p5 p6 (IntKind.wrap .i64 (p7 + 1))
 else none
 else none
 else
 some (p4, ()) := by
 rewrite [h_Heap_cubes_3]
 kernel_rfl
abbrev As_Heap_free : List ATy := [.data true T_Heap]
abbrev R_Heap_free : List (Bool × Ty) := [(false, (.int .u64))]
abbrev M_Heap_free : List RMode := []
abbrev Ft_Heap_free : Type := D_Heap × Unit → Option (Int × Unit)
def X_Heap_free : Ctx := { types := TT, globals := [], con := [(31, C_Heap_box), (59, C_box_full), (60, C_Heap_cubes)], keep := [], results := [.tmp 2], ntmps := 9, n := N }
def B_Heap_free : Code := (Tryz.f33.body).getD .skip
def P_Heap_free : Ft_Heap_free := hid (runF X_Heap_free B_Heap_free As_Heap_free R_Heap_free M_Heap_free)
theorem h_Heap_free : P_Heap_free = runF X_Heap_free B_Heap_free As_Heap_free R_Heap_free M_Heap_free := hid_eq _
def C_Heap_free : Contract := ⟨As_Heap_free, R_Heap_free, M_Heap_free, P_Heap_free⟩
theorem s_Heap_free : Sound Tryz.prog GG 33 C_Heap_free := by
 unfold C_Heap_free; rw [h_Heap_free]
 exact mkS Tryz.f33 ⟨s_Heap_box, s_box_full, s_Heap_cubes, trivial⟩ trivial
theorem p_Heap_free (a0 : D_Heap) : P_Heap_free (a0, ()) =
 Option.bind (P_Heap_box (a0, ())) fun r0 =>
 Option.bind (P_box_full (r0.1, ())) fun r1 =>
 Option.bind (P_Heap_cubes (a0, ())) fun r2 =>
 some ((intBits .andNot .u64 r1.1 r2.1), ()) := by
 rewrite [h_Heap_free]
 kernel_rfl
abbrev As_impl_added : List ATy := [.data true T_A3, .data true T_A3]
abbrev R_impl_added : List (Bool × Ty) := [(true, T_A3)]
abbrev M_impl_added : List RMode := []
abbrev Ft_impl_added : Type := D_A3 × D_A3 × Unit → Option (D_A3 × Unit)
def X_impl_added : Ctx := { types := TT, globals := [], con := [], keep := [], results := [.cell 4 57], ntmps := 21, n := N }
def B_impl_added : Code := (Tryz.f52.body).getD .skip
def P_impl_added : Ft_impl_added := hid (runF X_impl_added B_impl_added As_impl_added R_impl_added M_impl_added)
theorem h_impl_added : P_impl_added = runF X_impl_added B_impl_added As_impl_added R_impl_added M_impl_added := hid_eq _
def C_impl_added : Contract := ⟨As_impl_added, R_impl_added, M_impl_added, P_impl_added⟩
theorem s_impl_added : Sound Tryz.prog GG 52 C_impl_added := by
 unfold C_impl_added; rw [h_impl_added]
 exact mkS Tryz.f52 trivial trivial
theorem p_impl_added (a0 a1 : D_A3) : P_impl_added (a0, a1, ()) =
 some (((IntKind.wrap .i64 (a0.1 + a1.1)), ((IntKind.wrap .i64 (a0.2.1 + a1.2.1)), ((IntKind.wrap .i64 (a0.2.2.1 + a1.2.2.1)), ()))), ()) := by
 rewrite [h_impl_added]
 kernel_rfl
abbrev As_box_placed : List ATy := [.data true T_A3, .data false (.int .u64), .data false (.sl T_A3), .data true T_A3]
abbrev R_box_placed : List (Bool × Ty) := [(false, (.int .u64)), (false, .bool)]
abbrev M_box_placed : List RMode := []
abbrev Ft_box_placed : Type := D_A3 × Int × (List D_A3) × D_A3 × Unit → Option (Int × Bool × Unit)
def X_box_placed : Ctx := { types := TT, globals := [], con := [(52, C_impl_added), (53, C_set_has), (70, C_impl_allWithin), (76, C_box_has), (77, C_box_index)], keep := [(5, ⟨[.box 4, .box 7, .tmp 1, .tmp 4, .tmp 7, .tmp 10, .tmp 17, .tmp 18, .tmp 19], []⟩)], results := [.tmp 8, .tmp 9], ntmps := 46, n := N }
def B_box_placed : Code := (Tryz.f49.body).getD .skip
def L_box_placed_5 (m0 : Nat) (p0 p1 p2 p3 p4 p5 p6 p7 : Int) (p8 : List D_A3) (p9 p10 : Int) : Option (denL R_box_placed) := loopF X_box_placed B_box_placed R_box_placed M_box_placed 5 [m0] [(.ver, .num 1), (.box 4, .box 0 false [.int .i64 p0, .int .i64 p1, .int .i64 p2]), (.box 7, .box 0 false [.int .i64 p3, .int .i64 p4, .int .i64 p5]), (.tmp 1, .val false [.int .u64 p6]), (.tmp 4, .val false [.addr 4 0 0]), (.tmp 7, .val false [.addr 7 0 0]), (.tmp 10, .val false [.int .u64 p7]), (.tmp 17, .val false [.imm T_A3 p8 (some 4)]), (.tmp 18, .val false [.int .i64 p9]), (.tmp 19, .val false [.int .i64 p10])]
def P_box_placed : Ft_box_placed := hid (runF X_box_placed B_box_placed As_box_placed R_box_placed M_box_placed)
theorem h_box_placed : P_box_placed = runF X_box_placed B_box_placed As_box_placed R_box_placed M_box_placed := hid_eq _
def C_box_placed : Contract := ⟨As_box_placed, R_box_placed, M_box_placed, P_box_placed⟩
theorem s_box_placed : Sound Tryz.prog GG 49 C_box_placed := by
 unfold C_box_placed; rw [h_box_placed]
 exact mkS Tryz.f49 ⟨s_impl_added, s_set_has, s_impl_allWithin, s_box_has, s_box_index, trivial⟩ trivial
def l_box_placed_5 := hid (L_box_placed_5)
theorem h_box_placed_5 : l_box_placed_5 = L_box_placed_5 := hid_eq _
theorem p_box_placed (a0 : D_A3) (a1 : Int) (a2 : List D_A3) (a3 : D_A3) : P_box_placed (a0, a1, a2, a3, ()) =
 Option.bind (P_impl_allWithin (([a3.1, a3.2.1, a3.2.2.1] : List Int), 0, 4, ())) fun r0 =>
 bif !r0.1 then
 some (0, false, ())
 else
 l_box_placed_5 N a0.1 a0.2.1 a0.2.2.1 a3.1 a3.2.1 a3.2.2.1 a1 0 a2 (List.length a2 : Int) 0 := by
 rewrite [h_box_placed, h_box_placed_5]
 kernel_rfl
theorem q_box_placed_5 (m0 : Nat) (p0 p1 p2 p3 p4 p5 p6 p7 : Int) (p8 : List D_A3) (p9 p10 : Int) : l_box_placed_5 (m0 + 1) p0 p1 p2 p3 p4 p5 p6 p7 p8 p9 p10 =
 bif decide (p10 < p9) then
 bif inB p10 (List.length p8) then
 Option.bind (P_impl_added ((nth T_A3 p8 p10), (p3, (p4, (p5, ()))), ())) fun r2 =>
 Option.bind (P_box_has ((p0, (p1, (p2, ()))), r2.1, ())) fun r3 =>
 bif !r3.1 then
 some (0, false, ())
 else
 Option.bind (P_box_index ((p0, (p1, (p2, ()))), r2.1, ())) fun r5 =>
 Option.bind (P_set_has (p6, r5.1, ())) fun r6 =>
 bif !r6.1 then
 some (0, false, ())
 else
 Option.bind (P_box_index ((p0, (p1, (p2, ()))), r2.1, ())) fun r8 =>
 bif decide ((0 : Int) ≤ r8.1) then
 l_box_placed_5 m0 p0 p1 p2 p3 p4 p5 p6 (intBits .or .u64 p7 (shlI .u64 1 r8.1)) p8 p9 (IntKind.wrap .i64 (p10 + 1))
 else none
 else none
 else
 some (p7, true, ()) := by
 rewrite [h_box_placed_5]
 kernel_rfl
end
end Go.VI

namespace Go.VI
open Go.RowKit
end Go.VI
namespace Go.VI
noncomputable section
open Go.RowKit
def flatTy : Ty → Bool
  | .int _ | .bool | .str => true
  | _ => false
def flatC : (t : Ty) → t.den → Cell
  | .int k, n => .int k n
  | .bool, b => .bool b
  | .str, s => .str s
  | _, _ => .bool false
def resC : (R : List (Bool × Ty)) → denL R → List Cell
  | [], _ => []
  | p :: r, x => flatC p.2 x.1 :: resC r x.2
def flatR (R : List (Bool × Ty)) : Bool := R.all fun p => !p.1 && flatTy p.2
theorem resL_plain : ∀ (R : List (Bool × Ty)) (r : denL R) (ms : List RMode), flatR R = true → resL R r ms = (resC R r).map fun c => (false, [RCell.flat c])
  | [], _, _, _ => rfl
  | (true, t) :: R, r, ms, h => by simp [flatR] at h
  | (false, t) :: R, r, ms, h => by
    have h' : flatTy t = true ∧ flatR R = true := by simpa [flatR] using h
    have ih := resL_plain R r.2
    cases t <;> simp [flatTy] at h' <;> simp [resL, resM, resC, flatC, ih _ h']
end
end Go.VI
