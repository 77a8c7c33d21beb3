/- What the functions of the seat compute: part 2. -/
import Derived.Test.YteflilepheeioaaGreatG5p1
namespace Go.VI
open Go.Proofs
set_option maxRecDepth 100000

/- 71: (loop.example/g01166/impl.box).index -/
abbrev As_box_index : List ATy := [.data true T_A3, .data true T_A3]
abbrev R_box_index : List (Bool × Ty) := [(false, (.int .i64))]
abbrev M_box_index : List RMode := []
abbrev Ft_box_index : Type := D_A3 × D_A3 × Unit → Option (Int × Unit)
noncomputable def X_box_index (n : Nat) : Ctx := { types := TT, globals := [], con := [], keep := [], results := [.tmp 4], ntmps := 19, n := n }
noncomputable def B_box_index : Code := (Tryz.f71.body).getD .skip
theorem e_box_index (n : Nat) (a0 : D_A3) (a1 : D_A3) : runF (X_box_index n) B_box_index As_box_index R_box_index M_box_index (a0, a1, ()) = 
  some ((IntKind.wrap .i64 ((IntKind.wrap .i64 ((IntKind.wrap .i64 ((IntKind.wrap .i64 (a1.1 * a0.2.1)) + a1.2.1)) * a0.2.2.1)) + a1.2.2.1)), ()) := by kernel_rfl
noncomputable def P_box_index : Ft_box_index := hid (runF (X_box_index N) B_box_index As_box_index R_box_index M_box_index)
theorem h_box_index : P_box_index = runF (X_box_index N) B_box_index As_box_index R_box_index M_box_index := hid_eq _
noncomputable def C_box_index : Contract := ⟨As_box_index, R_box_index, M_box_index, P_box_index⟩
theorem s_box_index : Sound Tryz.prog GG 71 C_box_index := by
  unfold C_box_index; rw [h_box_index]
  exact sound_of_run (fn := Tryz.f71) hmix hstable (tyOK_of ttOK) (hglob (X_box_index N)) (conOK_of (X := X_box_index N) trivial) (mconOK_of (X := X_box_index N) trivial) (by kernel_rfl) (by kernel_rfl) (by kernel_rfl) (by kernel_rfl) (by kernel_rfl) (of_decide_eq_true (by kernel_rfl))
theorem p_box_index (a0 : D_A3) (a1 : D_A3) : P_box_index (a0, a1, ()) = 
  some ((IntKind.wrap .i64 ((IntKind.wrap .i64 ((IntKind.wrap .i64 ((IntKind.wrap .i64 (a1.1 * a0.2.1)) + a1.2.1)) * a0.2.2.1)) + a1.2.2.1)), ()) := by
  rewrite [h_box_index]
  exact e_box_index N a0 a1

/- 70: (loop.example/g01166/impl.Heap).cubes -/
abbrev As_Heap_cubes : List ATy := [.data true T_Heap]
abbrev R_Heap_cubes : List (Bool × Ty) := [(false, (.int .u64))]
abbrev M_Heap_cubes : List RMode := []
abbrev Ft_Heap_cubes : Type := D_Heap × Unit → Option (Int × Unit)
noncomputable def X_Heap_cubes (n : Nat) (F_Heap_box : Ft_Heap_box) (F_box_index : Ft_box_index) : Ctx := { types := TT, globals := [], con := [(63, ⟨As_Heap_box, R_Heap_box, M_Heap_box, F_Heap_box⟩), (71, ⟨As_box_index, R_box_index, M_box_index, F_box_index⟩)], keep := [(3, ⟨[.box 1, .tmp 1, .tmp 3, .tmp 7, .tmp 8, .tmp 9], []⟩)], results := [.tmp 2], ntmps := 22, n := n }
noncomputable def B_Heap_cubes : Code := (Tryz.f70.body).getD .skip
noncomputable def L_Heap_cubes_3 (n : Nat) (F_Heap_box : Ft_Heap_box) (F_box_index : Ft_box_index) (m0 : Nat) (p0 : Int) (p1 : Int) (p2 : Int) (p3 : List D_A3) (p4 : Int) (p5 : List D_A3) (p6 : Int) (p7 : Int) : Option (denL R_Heap_cubes) := loopF (X_Heap_cubes n F_Heap_box F_box_index) B_Heap_cubes R_Heap_cubes M_Heap_cubes 3 [m0] [(.ver, .num 1), (.box 1, .box 0 false [.int .i64 p0, .int .i64 p1, .int .i64 p2, .imm T_A3 p3 (some 3)]), (.tmp 1, .val false [.addr 1 0 0]), (.tmp 3, .val false [.int .u64 p4]), (.tmp 7, .val false [.imm T_A3 p5 (some 3)]), (.tmp 8, .val false [.int .i64 p6]), (.tmp 9, .val false [.int .i64 p7])]
theorem e_Heap_cubes (n : Nat) (F_Heap_box : Ft_Heap_box) (F_box_index : Ft_box_index) (a0 : D_Heap) : runF (X_Heap_cubes n F_Heap_box F_box_index) B_Heap_cubes As_Heap_cubes R_Heap_cubes M_Heap_cubes (a0, ()) = 
  L_Heap_cubes_3 n F_Heap_box F_box_index n a0.1 a0.2.1 a0.2.2.1 a0.2.2.2.1 0 a0.2.2.2.1 (List.length a0.2.2.2.1 : Int) 0 := by kernel_rfl
theorem e_Heap_cubes_3 (n : Nat) (F_Heap_box : Ft_Heap_box) (F_box_index : Ft_box_index) (m0 : Nat) (p0 : Int) (p1 : Int) (p2 : Int) (p3 : List D_A3) (p4 : Int) (p5 : List D_A3) (p6 : Int) (p7 : Int) : L_Heap_cubes_3 n F_Heap_box F_box_index (m0 + 1) p0 p1 p2 p3 p4 p5 p6 p7 = 
  bif decide (p7 < p6) then
    bif inB p7 (List.length p5) then
      Option.bind (F_Heap_box ((p0, (p1, (p2, (p3, ())))), ())) fun r2 =>
      Option.bind (F_box_index (r2.1, (nth T_A3 p5 p7), ())) fun r3 =>
      bif decide ((0 : Int) ≤ r3.1) then
        L_Heap_cubes_3 n F_Heap_box F_box_index m0 p0 p1 p2 p3 (intBits .or .u64 p4 (shlI .u64 1 r3.1)) p5 p6 (IntKind.wrap .i64 (p7 + 1))
      else none
    else none
  else
    some (p4, ()) := by kernel_rfl
noncomputable def P_Heap_cubes : Ft_Heap_cubes := hid (runF (X_Heap_cubes N P_Heap_box P_box_index) B_Heap_cubes As_Heap_cubes R_Heap_cubes M_Heap_cubes)
theorem h_Heap_cubes : P_Heap_cubes = runF (X_Heap_cubes N P_Heap_box P_box_index) B_Heap_cubes As_Heap_cubes R_Heap_cubes M_Heap_cubes := hid_eq _
noncomputable def C_Heap_cubes : Contract := ⟨As_Heap_cubes, R_Heap_cubes, M_Heap_cubes, P_Heap_cubes⟩
theorem s_Heap_cubes : Sound Tryz.prog GG 70 C_Heap_cubes := by
  unfold C_Heap_cubes; rw [h_Heap_cubes]
  exact sound_of_run (fn := Tryz.f70) hmix hstable (tyOK_of ttOK) (hglob (X_Heap_cubes N P_Heap_box P_box_index)) (conOK_of (X := X_Heap_cubes N P_Heap_box P_box_index) ⟨s_Heap_box, s_box_index, trivial⟩) (mconOK_of (X := X_Heap_cubes N P_Heap_box P_box_index) trivial) (by kernel_rfl) (by kernel_rfl) (by kernel_rfl) (by kernel_rfl) (by kernel_rfl) (of_decide_eq_true (by kernel_rfl))
noncomputable def l_Heap_cubes_3 : Nat → Int → Int → Int → (List D_A3) → Int → (List D_A3) → Int → Int → Option (denL R_Heap_cubes) := hid (fun m0 p0 p1 p2 p3 p4 p5 p6 p7 => L_Heap_cubes_3 N P_Heap_box P_box_index m0 p0 p1 p2 p3 p4 p5 p6 p7)
theorem h_Heap_cubes_3 : l_Heap_cubes_3 = fun m0 p0 p1 p2 p3 p4 p5 p6 p7 => L_Heap_cubes_3 N P_Heap_box P_box_index m0 p0 p1 p2 p3 p4 p5 p6 p7 := hid_eq _
theorem p_Heap_cubes (a0 : D_Heap) : P_Heap_cubes (a0, ()) = 
  l_Heap_cubes_3 N a0.1 a0.2.1 a0.2.2.1 a0.2.2.2.1 0 a0.2.2.2.1 (List.length a0.2.2.2.1 : Int) 0 := by
  rewrite [h_Heap_cubes, h_Heap_cubes_3]
  exact e_Heap_cubes N P_Heap_box P_box_index a0
theorem q_Heap_cubes_3 (m0 : Nat) (p0 : Int) (p1 : Int) (p2 : Int) (p3 : List D_A3) (p4 : Int) (p5 : List D_A3) (p6 : Int) (p7 : Int) : l_Heap_cubes_3 (m0 + 1) p0 p1 p2 p3 p4 p5 p6 p7 = 
  bif decide (p7 < p6) then
    bif inB p7 (List.length p5) then
      Option.bind (P_Heap_box ((p0, (p1, (p2, (p3, ())))), ())) fun r2 =>
      Option.bind (P_box_index (r2.1, (nth T_A3 p5 p7), ())) fun r3 =>
      bif decide ((0 : Int) ≤ r3.1) then
        l_Heap_cubes_3 m0 p0 p1 p2 p3 (intBits .or .u64 p4 (shlI .u64 1 r3.1)) p5 p6 (IntKind.wrap .i64 (p7 + 1))
      else none
    else none
  else
    some (p4, ()) := by
  rewrite [h_Heap_cubes_3]
  exact e_Heap_cubes_3 N P_Heap_box P_box_index m0 p0 p1 p2 p3 p4 p5 p6 p7

/- 93: (loop.example/g01166/impl.set).has -/
abbrev As_set_has : List ATy := [.data false (.int .u64), .data false (.int .i64)]
abbrev R_set_has : List (Bool × Ty) := [(false, .bool)]
abbrev M_set_has : List RMode := []
abbrev Ft_set_has : Type := Int × Int × Unit → Option (Bool × Unit)
noncomputable def X_set_has (n : Nat) : Ctx := { types := TT, globals := [], con := [], keep := [], results := [.tmp 4], ntmps := 10, n := n }
noncomputable def B_set_has : Code := (Tryz.f93.body).getD .skip
theorem e_set_has (n : Nat) (a0 : Int) (a1 : Int) : runF (X_set_has n) B_set_has As_set_has R_set_has M_set_has (a0, a1, ()) = 
  bif decide ((0 : Int) ≤ a1) then
    some (decide ((intBits .and .u64 (shrI .u64 a0 a1) 1) = 1), ())
  else none := by kernel_rfl
noncomputable def P_set_has : Ft_set_has := hid (runF (X_set_has N) B_set_has As_set_has R_set_has M_set_has)
theorem h_set_has : P_set_has = runF (X_set_has N) B_set_has As_set_has R_set_has M_set_has := hid_eq _
noncomputable def C_set_has : Contract := ⟨As_set_has, R_set_has, M_set_has, P_set_has⟩
theorem s_set_has : Sound Tryz.prog GG 93 C_set_has := by
  unfold C_set_has; rw [h_set_has]
  exact sound_of_run (fn := Tryz.f93) hmix hstable (tyOK_of ttOK) (hglob (X_set_has N)) (conOK_of (X := X_set_has N) trivial) (mconOK_of (X := X_set_has N) trivial) (by kernel_rfl) (by kernel_rfl) (by kernel_rfl) (by kernel_rfl) (by kernel_rfl) (of_decide_eq_true (by kernel_rfl))
theorem p_set_has (a0 : Int) (a1 : Int) : P_set_has (a0, a1, ()) = 
  bif decide ((0 : Int) ≤ a1) then
    some (decide ((intBits .and .u64 (shrI .u64 a0 a1) 1) = 1), ())
  else none := by
  rewrite [h_set_has]
  exact e_set_has N a0 a1

/- 68: (loop.example/g01166/impl.Heap).hasCube -/
abbrev As_Heap_hasCube : List ATy := [.data true T_Heap, .data true T_A3]
abbrev R_Heap_hasCube : List (Bool × Ty) := [(false, .bool)]
abbrev M_Heap_hasCube : List RMode := []
abbrev Ft_Heap_hasCube : Type := D_Heap × D_A3 × Unit → Option (Bool × Unit)
noncomputable def X_Heap_hasCube (n : Nat) (F_Heap_box : Ft_Heap_box) (F_Heap_cubes : Ft_Heap_cubes) (F_box_index : Ft_box_index) (F_set_has : Ft_set_has) : Ctx := { types := TT, globals := [], con := [(63, ⟨As_Heap_box, R_Heap_box, M_Heap_box, F_Heap_box⟩), (70, ⟨As_Heap_cubes, R_Heap_cubes, M_Heap_cubes, F_Heap_cubes⟩), (71, ⟨As_box_index, R_box_index, M_box_index, F_box_index⟩), (93, ⟨As_set_has, R_set_has, M_set_has, F_set_has⟩)], keep := [], results := [.tmp 4], ntmps := 12, n := n }
noncomputable def B_Heap_hasCube : Code := (Tryz.f68.body).getD .skip
theorem e_Heap_hasCube (n : Nat) (F_Heap_box : Ft_Heap_box) (F_Heap_cubes : Ft_Heap_cubes) (F_box_index : Ft_box_index) (F_set_has : Ft_set_has) (a0 : D_Heap) (a1 : D_A3) : runF (X_Heap_hasCube n F_Heap_box F_Heap_cubes F_box_index F_set_has) B_Heap_hasCube As_Heap_hasCube R_Heap_hasCube M_Heap_hasCube (a0, a1, ()) = 
  Option.bind (F_Heap_cubes (a0, ())) fun r0 =>
  Option.bind (F_Heap_box (a0, ())) fun r1 =>
  Option.bind (F_box_index (r1.1, a1, ())) fun r2 =>
  Option.bind (F_set_has (r0.1, r2.1, ())) fun r3 =>
  some (r3.1, ()) := by kernel_rfl
noncomputable def P_Heap_hasCube : Ft_Heap_hasCube := hid (runF (X_Heap_hasCube N P_Heap_box P_Heap_cubes P_box_index P_set_has) B_Heap_hasCube As_Heap_hasCube R_Heap_hasCube M_Heap_hasCube)
theorem h_Heap_hasCube : P_Heap_hasCube = runF (X_Heap_hasCube N P_Heap_box P_Heap_cubes P_box_index P_set_has) B_Heap_hasCube As_Heap_hasCube R_Heap_hasCube M_Heap_hasCube := hid_eq _
noncomputable def C_Heap_hasCube : Contract := ⟨As_Heap_hasCube, R_Heap_hasCube, M_Heap_hasCube, P_Heap_hasCube⟩
theorem s_Heap_hasCube : Sound Tryz.prog GG 68 C_Heap_hasCube := by
  unfold C_Heap_hasCube; rw [h_Heap_hasCube]
  exact sound_of_run (fn := Tryz.f68) hmix hstable (tyOK_of ttOK) (hglob (X_Heap_hasCube N P_Heap_box P_Heap_cubes P_box_index P_set_has)) (conOK_of (X := X_Heap_hasCube N P_Heap_box P_Heap_cubes P_box_index P_set_has) ⟨s_Heap_box, s_Heap_cubes, s_box_index, s_set_has, trivial⟩) (mconOK_of (X := X_Heap_hasCube N P_Heap_box P_Heap_cubes P_box_index P_set_has) trivial) (by kernel_rfl) (by kernel_rfl) (by kernel_rfl) (by kernel_rfl) (by kernel_rfl) (of_decide_eq_true (by kernel_rfl))
theorem p_Heap_hasCube (a0 : D_Heap) (a1 : D_A3) : P_Heap_hasCube (a0, a1, ()) = 
  Option.bind (P_Heap_cubes (a0, ())) fun r0 =>
  Option.bind (P_Heap_box (a0, ())) fun r1 =>
  Option.bind (P_box_index (r1.1, a1, ())) fun r2 =>
  Option.bind (P_set_has (r0.1, r2.1, ())) fun r3 =>
  some (r3.1, ()) := by
  rewrite [h_Heap_hasCube]
  exact e_Heap_hasCube N P_Heap_box P_Heap_cubes P_box_index P_set_has a0 a1

/- 98: (loop.example/g01166/impl.box).size -/
abbrev As_box_size : List ATy := [.data true T_A3]
abbrev R_box_size : List (Bool × Ty) := [(false, (.int .i64))]
abbrev M_box_size : List RMode := []
abbrev Ft_box_size : Type := D_A3 × Unit → Option (Int × Unit)
noncomputable def X_box_size (n : Nat) : Ctx := { types := TT, globals := [], con := [], keep := [], results := [.tmp 2], ntmps := 11, n := n }
noncomputable def B_box_size : Code := (Tryz.f98.body).getD .skip
theorem e_box_size (n : Nat) (a0 : D_A3) : runF (X_box_size n) B_box_size As_box_size R_box_size M_box_size (a0, ()) = 
  some ((IntKind.wrap .i64 ((IntKind.wrap .i64 (a0.1 * a0.2.1)) * a0.2.2.1)), ()) := by kernel_rfl
noncomputable def P_box_size : Ft_box_size := hid (runF (X_box_size N) B_box_size As_box_size R_box_size M_box_size)
theorem h_box_size : P_box_size = runF (X_box_size N) B_box_size As_box_size R_box_size M_box_size := hid_eq _
noncomputable def C_box_size : Contract := ⟨As_box_size, R_box_size, M_box_size, P_box_size⟩
theorem s_box_size : Sound Tryz.prog GG 98 C_box_size := by
  unfold C_box_size; rw [h_box_size]
  exact sound_of_run (fn := Tryz.f98) hmix hstable (tyOK_of ttOK) (hglob (X_box_size N)) (conOK_of (X := X_box_size N) trivial) (mconOK_of (X := X_box_size N) trivial) (by kernel_rfl) (by kernel_rfl) (by kernel_rfl) (by kernel_rfl) (by kernel_rfl) (of_decide_eq_true (by kernel_rfl))
theorem p_box_size (a0 : D_A3) : P_box_size (a0, ()) = 
  some ((IntKind.wrap .i64 ((IntKind.wrap .i64 (a0.1 * a0.2.1)) * a0.2.2.1)), ()) := by
  rewrite [h_box_size]
  exact e_box_size N a0

/- 99: (loop.example/g01166/impl.box).cell -/
abbrev As_box_cell : List ATy := [.data true T_A3, .data false (.int .i64)]
abbrev R_box_cell : List (Bool × Ty) := [(true, T_A3)]
abbrev M_box_cell : List RMode := []
abbrev Ft_box_cell : Type := D_A3 × Int × Unit → Option (D_A3 × Unit)
noncomputable def X_box_cell (n : Nat) : Ctx := { types := TT, globals := [], con := [], keep := [], results := [.cell 4 27], ntmps := 24, n := n }
noncomputable def B_box_cell : Code := (Tryz.f99.body).getD .skip
theorem e_box_cell (n : Nat) (a0 : D_A3) (a1 : Int) : runF (X_box_cell n) B_box_cell As_box_cell R_box_cell M_box_cell (a0, a1, ()) = 
  bif !decide (a0.2.2.1 = 0) then
    bif !decide (a0.2.1 = 0) then
      bif !decide (a0.2.2.1 = 0) then
        bif !decide (a0.2.1 = 0) then
          bif !decide (a0.2.2.1 = 0) then
            some (((IntKind.wrap .i64 (Int.tdiv (IntKind.wrap .i64 (Int.tdiv a1 a0.2.2.1)) a0.2.1)), ((Int.tmod (IntKind.wrap .i64 (Int.tdiv a1 a0.2.2.1)) a0.2.1), ((Int.tmod a1 a0.2.2.1), ()))), ())
          else none
        else none
      else none
    else none
  else none := by kernel_rfl
noncomputable def P_box_cell : Ft_box_cell := hid (runF (X_box_cell N) B_box_cell As_box_cell R_box_cell M_box_cell)
theorem h_box_cell : P_box_cell = runF (X_box_cell N) B_box_cell As_box_cell R_box_cell M_box_cell := hid_eq _
noncomputable def C_box_cell : Contract := ⟨As_box_cell, R_box_cell, M_box_cell, P_box_cell⟩
theorem s_box_cell : Sound Tryz.prog GG 99 C_box_cell := by
  unfold C_box_cell; rw [h_box_cell]
  exact sound_of_run (fn := Tryz.f99) hmix hstable (tyOK_of ttOK) (hglob (X_box_cell N)) (conOK_of (X := X_box_cell N) trivial) (mconOK_of (X := X_box_cell N) trivial) (by kernel_rfl) (by kernel_rfl) (by kernel_rfl) (by kernel_rfl) (by kernel_rfl) (of_decide_eq_true (by kernel_rfl))
theorem p_box_cell (a0 : D_A3) (a1 : Int) : P_box_cell (a0, a1, ()) = 
  bif !decide (a0.2.2.1 = 0) then
    bif !decide (a0.2.1 = 0) then
      bif !decide (a0.2.2.1 = 0) then
        bif !decide (a0.2.1 = 0) then
          bif !decide (a0.2.2.1 = 0) then
            some (((IntKind.wrap .i64 (Int.tdiv (IntKind.wrap .i64 (Int.tdiv a1 a0.2.2.1)) a0.2.1)), ((Int.tmod (IntKind.wrap .i64 (Int.tdiv a1 a0.2.2.1)) a0.2.1), ((Int.tmod a1 a0.2.2.1), ()))), ())
          else none
        else none
      else none
    else none
  else none := by
  rewrite [h_box_cell]
  exact e_box_cell N a0 a1

/- 74: (loop.example/g01166/impl.box).list -/
abbrev As_box_list : List ATy := [.data true T_A3, .data false (.int .u64)]
abbrev R_box_list : List (Bool × Ty) := [(false, (.sl T_A3))]
abbrev M_box_list : List RMode := [.own 27]
abbrev Ft_box_list : Type := D_A3 × Int × Unit → Option ((List D_A3) × Unit)
noncomputable def X_box_list (n : Nat) (F_set_has : Ft_set_has) (F_box_size : Ft_box_size) (F_box_cell : Ft_box_cell) : Ctx := { types := TT, globals := [], con := [(93, ⟨As_set_has, R_set_has, M_set_has, F_set_has⟩), (98, ⟨As_box_size, R_box_size, M_box_size, F_box_size⟩), (99, ⟨As_box_cell, R_box_cell, M_box_cell, F_box_cell⟩)], keep := [(3, ⟨[.box 2, .tmp 1, .tmp 2, .tmp 5, .tmp 9, .tmp 10], []⟩)], results := [.tmp 4], ntmps := 24, n := n }
noncomputable def B_box_list : Code := (Tryz.f74.body).getD .skip
noncomputable def L_box_list_3 (n : Nat) (F_set_has : Ft_set_has) (F_box_size : Ft_box_size) (F_box_cell : Ft_box_cell) (m0 : Nat) (p0 : Int) (p1 : Int) (p2 : Int) (p3 : Int) (p4 : List D_A3) (p5 : Int) (p6 : Int) : Option (denL R_box_list) := loopF (X_box_list n F_set_has F_box_size F_box_cell) B_box_list R_box_list M_box_list 3 [m0] [(.ver, .num 1), (.box 2, .box 0 false [.int .i64 p0, .int .i64 p1, .int .i64 p2]), (.tmp 1, .val false [.int .u64 p3]), (.tmp 2, .val false [.addr 2 0 0]), (.tmp 5, .val false [.own 27 T_A3 0 p4]), (.tmp 9, .val false [.int .i64 p5]), (.tmp 10, .val false [.int .i64 p6])]
theorem e_box_list (n : Nat) (F_set_has : Ft_set_has) (F_box_size : Ft_box_size) (F_box_cell : Ft_box_cell) (a0 : D_A3) (a1 : Int) : runF (X_box_list n F_set_has F_box_size F_box_cell) B_box_list As_box_list R_box_list M_box_list (a0, a1, ()) = 
  Option.bind (F_box_size (a0, ())) fun r0 =>
  L_box_list_3 n F_set_has F_box_size F_box_cell n a0.1 a0.2.1 a0.2.2.1 a1 ([] : List D_A3) r0.1 0 := by kernel_rfl
theorem e_box_list_3 (n : Nat) (F_set_has : Ft_set_has) (F_box_size : Ft_box_size) (F_box_cell : Ft_box_cell) (m0 : Nat) (p0 : Int) (p1 : Int) (p2 : Int) (p3 : Int) (p4 : List D_A3) (p5 : Int) (p6 : Int) : L_box_list_3 n F_set_has F_box_size F_box_cell (m0 + 1) p0 p1 p2 p3 p4 p5 p6 = 
  bif decide (p6 < p5) then
    Option.bind (F_set_has (p3, p6, ())) fun r1 =>
    bif r1.1 then
      Option.bind (F_box_cell ((p0, (p1, (p2, ()))), p6, ())) fun r3 =>
      bif (decide (((List.length p4) + (List.length ([r3.1] : List D_A3))) * 24 ≤ 140737488355328) && decide (((List.length p4) + (List.length ([r3.1] : List D_A3))) ≤ 140737488355328)) then
        L_box_list_3 n F_set_has F_box_size F_box_cell m0 p0 p1 p2 p3 (p4 ++ ([r3.1] : List D_A3)) p5 (IntKind.wrap .i64 (p6 + 1))
      else none
    else
      L_box_list_3 n F_set_has F_box_size F_box_cell m0 p0 p1 p2 p3 p4 p5 (IntKind.wrap .i64 (p6 + 1))
  else
    some (p4, ()) := by kernel_rfl
noncomputable def P_box_list : Ft_box_list := hid (runF (X_box_list N P_set_has P_box_size P_box_cell) B_box_list As_box_list R_box_list M_box_list)
theorem h_box_list : P_box_list = runF (X_box_list N P_set_has P_box_size P_box_cell) B_box_list As_box_list R_box_list M_box_list := hid_eq _
noncomputable def C_box_list : Contract := ⟨As_box_list, R_box_list, M_box_list, P_box_list⟩
theorem s_box_list : Sound Tryz.prog GG 74 C_box_list := by
  unfold C_box_list; rw [h_box_list]
  exact sound_of_run (fn := Tryz.f74) hmix hstable (tyOK_of ttOK) (hglob (X_box_list N P_set_has P_box_size P_box_cell)) (conOK_of (X := X_box_list N P_set_has P_box_size P_box_cell) ⟨s_set_has, s_box_size, s_box_cell, trivial⟩) (mconOK_of (X := X_box_list N P_set_has P_box_size P_box_cell) trivial) (by kernel_rfl) (by kernel_rfl) (by kernel_rfl) (by kernel_rfl) (by kernel_rfl) (of_decide_eq_true (by kernel_rfl))
noncomputable def l_box_list_3 : Nat → Int → Int → Int → Int → (List D_A3) → Int → Int → Option (denL R_box_list) := hid (fun m0 p0 p1 p2 p3 p4 p5 p6 => L_box_list_3 N P_set_has P_box_size P_box_cell m0 p0 p1 p2 p3 p4 p5 p6)
theorem h_box_list_3 : l_box_list_3 = fun m0 p0 p1 p2 p3 p4 p5 p6 => L_box_list_3 N P_set_has P_box_size P_box_cell m0 p0 p1 p2 p3 p4 p5 p6 := hid_eq _
theorem p_box_list (a0 : D_A3) (a1 : Int) : P_box_list (a0, a1, ()) = 
  Option.bind (P_box_size (a0, ())) fun r0 =>
  l_box_list_3 N a0.1 a0.2.1 a0.2.2.1 a1 ([] : List D_A3) r0.1 0 := by
  rewrite [h_box_list, h_box_list_3]
  exact e_box_list N P_set_has P_box_size P_box_cell a0 a1
theorem q_box_list_3 (m0 : Nat) (p0 : Int) (p1 : Int) (p2 : Int) (p3 : Int) (p4 : List D_A3) (p5 : Int) (p6 : Int) : l_box_list_3 (m0 + 1) p0 p1 p2 p3 p4 p5 p6 = 
  bif decide (p6 < p5) then
    Option.bind (P_set_has (p3, p6, ())) fun r1 =>
    bif r1.1 then
      Option.bind (P_box_cell ((p0, (p1, (p2, ()))), p6, ())) fun r3 =>
      bif (decide (((List.length p4) + (List.length ([r3.1] : List D_A3))) * 24 ≤ 140737488355328) && decide (((List.length p4) + (List.length ([r3.1] : List D_A3))) ≤ 140737488355328)) then
        l_box_list_3 m0 p0 p1 p2 p3 (p4 ++ ([r3.1] : List D_A3)) p5 (IntKind.wrap .i64 (p6 + 1))
      else none
    else
      l_box_list_3 m0 p0 p1 p2 p3 p4 p5 (IntKind.wrap .i64 (p6 + 1))
  else
    some (p4, ()) := by
  rewrite [h_box_list_3]
  exact e_box_list_3 N P_set_has P_box_size P_box_cell m0 p0 p1 p2 p3 p4 p5 p6

/- 69: (loop.example/g01166/impl.box).heap -/
abbrev As_box_heap : List ATy := [.data true T_A3, .data false (.int .u64)]
abbrev R_box_heap : List (Bool × Ty) := [(true, T_Heap)]
abbrev M_box_heap : List RMode := [.own 27]
abbrev Ft_box_heap : Type := D_A3 × Int × Unit → Option (D_Heap × Unit)
noncomputable def X_box_heap (n : Nat) (F_box_list : Ft_box_list) : Ctx := { types := TT, globals := [], con := [(74, ⟨As_box_list, R_box_list, M_box_list, F_box_list⟩)], keep := [], results := [.cell 4 31], ntmps := 15, n := n }
noncomputable def B_box_heap : Code := (Tryz.f69.body).getD .skip
theorem e_box_heap (n : Nat) (F_box_list : Ft_box_list) (a0 : D_A3) (a1 : Int) : runF (X_box_heap n F_box_list) B_box_heap As_box_heap R_box_heap M_box_heap (a0, a1, ()) = 
  Option.bind (F_box_list (a0, a1, ())) fun r0 =>
  some ((a0.1, (a0.2.1, (a0.2.2.1, (r0.1, ())))), ()) := by kernel_rfl
noncomputable def P_box_heap : Ft_box_heap := hid (runF (X_box_heap N P_box_list) B_box_heap As_box_heap R_box_heap M_box_heap)
theorem h_box_heap : P_box_heap = runF (X_box_heap N P_box_list) B_box_heap As_box_heap R_box_heap M_box_heap := hid_eq _
noncomputable def C_box_heap : Contract := ⟨As_box_heap, R_box_heap, M_box_heap, P_box_heap⟩
theorem s_box_heap : Sound Tryz.prog GG 69 C_box_heap := by
  unfold C_box_heap; rw [h_box_heap]
  exact sound_of_run (fn := Tryz.f69) hmix hstable (tyOK_of ttOK) (hglob (X_box_heap N P_box_list)) (conOK_of (X := X_box_heap N P_box_list) ⟨s_box_list, trivial⟩) (mconOK_of (X := X_box_heap N P_box_list) trivial) (by kernel_rfl) (by kernel_rfl) (by kernel_rfl) (by kernel_rfl) (by kernel_rfl) (of_decide_eq_true (by kernel_rfl))
theorem p_box_heap (a0 : D_A3) (a1 : Int) : P_box_heap (a0, a1, ()) = 
  Option.bind (P_box_list (a0, a1, ())) fun r0 =>
  some ((a0.1, (a0.2.1, (a0.2.2.1, (r0.1, ())))), ()) := by
  rewrite [h_box_heap]
  exact e_box_heap N P_box_list a0 a1

/- 41: loop.example/g01166/impl.PutCube -/
abbrev As_impl_PutCube : List ATy := [.data true T_Heap, .data true T_A3]
abbrev R_impl_PutCube : List (Bool × Ty) := [(true, T_Heap), (false, .bool)]
abbrev M_impl_PutCube : List RMode := [.own 27]
abbrev Ft_impl_PutCube : Type := D_Heap × D_A3 × Unit → Option (D_Heap × Bool × Unit)
noncomputable def X_impl_PutCube (n : Nat) (F_Heap_box : Ft_Heap_box) (F_impl_isCell : Ft_impl_isCell) (F_Heap_hasCube : Ft_Heap_hasCube) (F_box_heap : Ft_box_heap) (F_Heap_cubes : Ft_Heap_cubes) (F_box_index : Ft_box_index) : Ctx := { types := TT, globals := [], con := [(63, ⟨As_Heap_box, R_Heap_box, M_Heap_box, F_Heap_box⟩), (67, ⟨As_impl_isCell, R_impl_isCell, M_impl_isCell, F_impl_isCell⟩), (68, ⟨As_Heap_hasCube, R_Heap_hasCube, M_Heap_hasCube, F_Heap_hasCube⟩), (69, ⟨As_box_heap, R_box_heap, M_box_heap, F_box_heap⟩), (70, ⟨As_Heap_cubes, R_Heap_cubes, M_Heap_cubes, F_Heap_cubes⟩), (71, ⟨As_box_index, R_box_index, M_box_index, F_box_index⟩)], keep := [], results := [.cell 4 31, .tmp 5], ntmps := 27, n := n }
noncomputable def B_impl_PutCube : Code := (Tryz.f41.body).getD .skip
theorem e_impl_PutCube (n : Nat) (F_Heap_box : Ft_Heap_box) (F_impl_isCell : Ft_impl_isCell) (F_Heap_hasCube : Ft_Heap_hasCube) (F_box_heap : Ft_box_heap) (F_Heap_cubes : Ft_Heap_cubes) (F_box_index : Ft_box_index) (a0 : D_Heap) (a1 : D_A3) : runF (X_impl_PutCube n F_Heap_box F_impl_isCell F_Heap_hasCube F_box_heap F_Heap_cubes F_box_index) B_impl_PutCube As_impl_PutCube R_impl_PutCube M_impl_PutCube (a0, a1, ()) = 
  Option.bind (F_impl_isCell (a0, a1, ())) fun r0 =>
  bif !r0.1 then
    some ((0, (0, (0, (([] : List D_A3), ())))), false, ())
  else
    Option.bind (F_Heap_hasCube (a0, a1, ())) fun r2 =>
    bif r2.1 then
      some ((0, (0, (0, (([] : List D_A3), ())))), false, ())
    else
      Option.bind (F_Heap_box (a0, ())) fun r4 =>
      Option.bind (F_Heap_cubes (a0, ())) fun r5 =>
      Option.bind (F_Heap_box (a0, ())) fun r6 =>
      Option.bind (F_box_index (r6.1, a1, ())) fun r7 =>
      bif decide ((0 : Int) ≤ r7.1) then
        Option.bind (F_box_heap (r4.1, (intBits .or .u64 r5.1 (shlI .u64 1 r7.1)), ())) fun r9 =>
        some (r9.1, true, ())
      else none := by kernel_rfl
noncomputable def P_impl_PutCube : Ft_impl_PutCube := hid (runF (X_impl_PutCube N P_Heap_box P_impl_isCell P_Heap_hasCube P_box_heap P_Heap_cubes P_box_index) B_impl_PutCube As_impl_PutCube R_impl_PutCube M_impl_PutCube)
theorem h_impl_PutCube : P_impl_PutCube = runF (X_impl_PutCube N P_Heap_box P_impl_isCell P_Heap_hasCube P_box_heap P_Heap_cubes P_box_index) B_impl_PutCube As_impl_PutCube R_impl_PutCube M_impl_PutCube := hid_eq _
noncomputable def C_impl_PutCube : Contract := ⟨As_impl_PutCube, R_impl_PutCube, M_impl_PutCube, P_impl_PutCube⟩
theorem s_impl_PutCube : Sound Tryz.prog GG 41 C_impl_PutCube := by
  unfold C_impl_PutCube; rw [h_impl_PutCube]
  exact sound_of_run (fn := Tryz.f41) hmix hstable (tyOK_of ttOK) (hglob (X_impl_PutCube N P_Heap_box P_impl_isCell P_Heap_hasCube P_box_heap P_Heap_cubes P_box_index)) (conOK_of (X := X_impl_PutCube N P_Heap_box P_impl_isCell P_Heap_hasCube P_box_heap P_Heap_cubes P_box_index) ⟨s_Heap_box, s_impl_isCell, s_Heap_hasCube, s_box_heap, s_Heap_cubes, s_box_index, trivial⟩) (mconOK_of (X := X_impl_PutCube N P_Heap_box P_impl_isCell P_Heap_hasCube P_box_heap P_Heap_cubes P_box_index) trivial) (by kernel_rfl) (by kernel_rfl) (by kernel_rfl) (by kernel_rfl) (by kernel_rfl) (of_decide_eq_true (by kernel_rfl))
theorem p_impl_PutCube (a0 : D_Heap) (a1 : D_A3) : P_impl_PutCube (a0, a1, ()) = 
  Option.bind (P_impl_isCell (a0, a1, ())) fun r0 =>
  bif !r0.1 then
    some ((0, (0, (0, (([] : List D_A3), ())))), false, ())
  else
    Option.bind (P_Heap_hasCube (a0, a1, ())) fun r2 =>
    bif r2.1 then
      some ((0, (0, (0, (([] : List D_A3), ())))), false, ())
    else
      Option.bind (P_Heap_box (a0, ())) fun r4 =>
      Option.bind (P_Heap_cubes (a0, ())) fun r5 =>
      Option.bind (P_Heap_box (a0, ())) fun r6 =>
      Option.bind (P_box_index (r6.1, a1, ())) fun r7 =>
      bif decide ((0 : Int) ≤ r7.1) then
        Option.bind (P_box_heap (r4.1, (intBits .or .u64 r5.1 (shlI .u64 1 r7.1)), ())) fun r9 =>
        some (r9.1, true, ())
      else none := by
  rewrite [h_impl_PutCube]
  exact e_impl_PutCube N P_Heap_box P_impl_isCell P_Heap_hasCube P_box_heap P_Heap_cubes P_box_index a0 a1

/- 42: loop.example/g01166/impl.TakeCube -/
abbrev As_impl_TakeCube : List ATy := [.data true T_Heap, .data true T_A3]
abbrev R_impl_TakeCube : List (Bool × Ty) := [(true, T_Heap), (false, .bool)]
abbrev M_impl_TakeCube : List RMode := [.own 27]
abbrev Ft_impl_TakeCube : Type := D_Heap × D_A3 × Unit → Option (D_Heap × Bool × Unit)
noncomputable def X_impl_TakeCube (n : Nat) (F_Heap_box : Ft_Heap_box) (F_impl_isCell : Ft_impl_isCell) (F_Heap_hasCube : Ft_Heap_hasCube) (F_box_heap : Ft_box_heap) (F_Heap_cubes : Ft_Heap_cubes) (F_box_index : Ft_box_index) : Ctx := { types := TT, globals := [], con := [(63, ⟨As_Heap_box, R_Heap_box, M_Heap_box, F_Heap_box⟩), (67, ⟨As_impl_isCell, R_impl_isCell, M_impl_isCell, F_impl_isCell⟩), (68, ⟨As_Heap_hasCube, R_Heap_hasCube, M_Heap_hasCube, F_Heap_hasCube⟩), (69, ⟨As_box_heap, R_box_heap, M_box_heap, F_box_heap⟩), (70, ⟨As_Heap_cubes, R_Heap_cubes, M_Heap_cubes, F_Heap_cubes⟩), (71, ⟨As_box_index, R_box_index, M_box_index, F_box_index⟩)], keep := [], results := [.cell 4 31, .tmp 5], ntmps := 28, n := n }
noncomputable def B_impl_TakeCube : Code := (Tryz.f42.body).getD .skip
theorem e_impl_TakeCube (n : Nat) (F_Heap_box : Ft_Heap_box) (F_impl_isCell : Ft_impl_isCell) (F_Heap_hasCube : Ft_Heap_hasCube) (F_box_heap : Ft_box_heap) (F_Heap_cubes : Ft_Heap_cubes) (F_box_index : Ft_box_index) (a0 : D_Heap) (a1 : D_A3) : runF (X_impl_TakeCube n F_Heap_box F_impl_isCell F_Heap_hasCube F_box_heap F_Heap_cubes F_box_index) B_impl_TakeCube As_impl_TakeCube R_impl_TakeCube M_impl_TakeCube (a0, a1, ()) = 
  Option.bind (F_impl_isCell (a0, a1, ())) fun r0 =>
  bif !r0.1 then
    some ((0, (0, (0, (([] : List D_A3), ())))), false, ())
  else
    Option.bind (F_Heap_hasCube (a0, a1, ())) fun r2 =>
    bif !r2.1 then
      some ((0, (0, (0, (([] : List D_A3), ())))), false, ())
    else
      Option.bind (F_Heap_box (a0, ())) fun r4 =>
      Option.bind (F_Heap_cubes (a0, ())) fun r5 =>
      Option.bind (F_Heap_box (a0, ())) fun r6 =>
      Option.bind (F_box_index (r6.1, a1, ())) fun r7 =>
      bif decide ((0 : Int) ≤ r7.1) then
        Option.bind (F_box_heap (r4.1, (intBits .andNot .u64 r5.1 (shlI .u64 1 r7.1)), ())) fun r9 =>
        some (r9.1, true, ())
      else none := by kernel_rfl
noncomputable def P_impl_TakeCube : Ft_impl_TakeCube := hid (runF (X_impl_TakeCube N P_Heap_box P_impl_isCell P_Heap_hasCube P_box_heap P_Heap_cubes P_box_index) B_impl_TakeCube As_impl_TakeCube R_impl_TakeCube M_impl_TakeCube)
theorem h_impl_TakeCube : P_impl_TakeCube = runF (X_impl_TakeCube N P_Heap_box P_impl_isCell P_Heap_hasCube P_box_heap P_Heap_cubes P_box_index) B_impl_TakeCube As_impl_TakeCube R_impl_TakeCube M_impl_TakeCube := hid_eq _
noncomputable def C_impl_TakeCube : Contract := ⟨As_impl_TakeCube, R_impl_TakeCube, M_impl_TakeCube, P_impl_TakeCube⟩
theorem s_impl_TakeCube : Sound Tryz.prog GG 42 C_impl_TakeCube := by
  unfold C_impl_TakeCube; rw [h_impl_TakeCube]
  exact sound_of_run (fn := Tryz.f42) hmix hstable (tyOK_of ttOK) (hglob (X_impl_TakeCube N P_Heap_box P_impl_isCell P_Heap_hasCube P_box_heap P_Heap_cubes P_box_index)) (conOK_of (X := X_impl_TakeCube N P_Heap_box P_impl_isCell P_Heap_hasCube P_box_heap P_Heap_cubes P_box_index) ⟨s_Heap_box, s_impl_isCell, s_Heap_hasCube, s_box_heap, s_Heap_cubes, s_box_index, trivial⟩) (mconOK_of (X := X_impl_TakeCube N P_Heap_box P_impl_isCell P_Heap_hasCube P_box_heap P_Heap_cubes P_box_index) trivial) (by kernel_rfl) (by kernel_rfl) (by kernel_rfl) (by kernel_rfl) (by kernel_rfl) (of_decide_eq_true (by kernel_rfl))
theorem p_impl_TakeCube (a0 : D_Heap) (a1 : D_A3) : P_impl_TakeCube (a0, a1, ()) = 
  Option.bind (P_impl_isCell (a0, a1, ())) fun r0 =>
  bif !r0.1 then
    some ((0, (0, (0, (([] : List D_A3), ())))), false, ())
  else
    Option.bind (P_Heap_hasCube (a0, a1, ())) fun r2 =>
    bif !r2.1 then
      some ((0, (0, (0, (([] : List D_A3), ())))), false, ())
    else
      Option.bind (P_Heap_box (a0, ())) fun r4 =>
      Option.bind (P_Heap_cubes (a0, ())) fun r5 =>
      Option.bind (P_Heap_box (a0, ())) fun r6 =>
      Option.bind (P_box_index (r6.1, a1, ())) fun r7 =>
      bif decide ((0 : Int) ≤ r7.1) then
        Option.bind (P_box_heap (r4.1, (intBits .andNot .u64 r5.1 (shlI .u64 1 r7.1)), ())) fun r9 =>
        some (r9.1, true, ())
      else none := by
  rewrite [h_impl_TakeCube]
  exact e_impl_TakeCube N P_Heap_box P_impl_isCell P_Heap_hasCube P_box_heap P_Heap_cubes P_box_index a0 a1

/- 105: (loop.example/g01166/impl.box).those -/
abbrev As_box_those : List ATy := [.data true T_A3, .clo [(true, T_A3)] [(false, .bool)]]
abbrev R_box_those : List (Bool × Ty) := [(false, (.int .u64))]
abbrev M_box_those : List RMode := []
abbrev Ft_box_those : Type := D_A3 × ((D_A3 × Unit) → Option (Bool × Unit)) × Unit → Option (Int × Unit)
noncomputable def X_box_those (n : Nat) (F_box_size : Ft_box_size) (F_box_cell : Ft_box_cell) : Ctx := { types := TT, globals := [], con := [(98, ⟨As_box_size, R_box_size, M_box_size, F_box_size⟩), (99, ⟨As_box_cell, R_box_cell, M_box_cell, F_box_cell⟩)], keep := [(3, ⟨[.box 2, .tmp 1, .tmp 2, .tmp 5, .tmp 8, .tmp 9], []⟩)], results := [.tmp 4], ntmps := 23, n := n }
noncomputable def B_box_those : Code := (Tryz.f105.body).getD .skip
noncomputable def L_box_those_3 (n : Nat) (F_box_size : Ft_box_size) (F_box_cell : Ft_box_cell) (m0 : Nat) (p0 : Int) (p1 : Int) (p2 : Int) (p3 : (D_A3 × Unit) → Option (Bool × Unit)) (p4 : Int) (p5 : Int) (p6 : Int) : Option (denL R_box_those) := loopF (X_box_those n F_box_size F_box_cell) B_box_those R_box_those M_box_those 3 [m0] [(.ver, .num 1), (.box 2, .box 0 false [.int .i64 p0, .int .i64 p1, .int .i64 p2]), (.tmp 1, .val false [.clo [(true, T_A3)] [(false, .bool)] p3]), (.tmp 2, .val false [.addr 2 0 0]), (.tmp 5, .val false [.int .u64 p4]), (.tmp 8, .val false [.int .i64 p5]), (.tmp 9, .val false [.int .i64 p6])]
theorem e_box_those (n : Nat) (F_box_size : Ft_box_size) (F_box_cell : Ft_box_cell) (a0 : D_A3) (a1 : (D_A3 × Unit) → Option (Bool × Unit)) : runF (X_box_those n F_box_size F_box_cell) B_box_those As_box_those R_box_those M_box_those (a0, a1, ()) = 
  Option.bind (F_box_size (a0, ())) fun r0 =>
  L_box_those_3 n F_box_size F_box_cell n a0.1 a0.2.1 a0.2.2.1 a1 0 r0.1 0 := by kernel_rfl
theorem e_box_those_3 (n : Nat) (F_box_size : Ft_box_size) (F_box_cell : Ft_box_cell) (m0 : Nat) (p0 : Int) (p1 : Int) (p2 : Int) (p3 : (D_A3 × Unit) → Option (Bool × Unit)) (p4 : Int) (p5 : Int) (p6 : Int) : L_box_those_3 n F_box_size F_box_cell (m0 + 1) p0 p1 p2 p3 p4 p5 p6 = 
  bif decide (p6 < p5) then
    Option.bind (F_box_cell ((p0, (p1, (p2, ()))), p6, ())) fun r1 =>
    Option.bind (p3 (r1.1, ())) fun r2 =>
    bif r2.1 then
      bif decide ((0 : Int) ≤ p6) then
        L_box_those_3 n F_box_size F_box_cell m0 p0 p1 p2 p3 (intBits .or .u64 p4 (shlI .u64 1 p6)) p5 (IntKind.wrap .i64 (p6 + 1))
      else none
    else
      L_box_those_3 n F_box_size F_box_cell m0 p0 p1 p2 p3 p4 p5 (IntKind.wrap .i64 (p6 + 1))
  else
    some (p4, ()) := by kernel_rfl
noncomputable def P_box_those : Ft_box_those := hid (runF (X_box_those N P_box_size P_box_cell) B_box_those As_box_those R_box_those M_box_those)
theorem h_box_those : P_box_those = runF (X_box_those N P_box_size P_box_cell) B_box_those As_box_those R_box_those M_box_those := hid_eq _
noncomputable def C_box_those : Contract := ⟨As_box_those, R_box_those, M_box_those, P_box_those⟩
theorem s_box_those : Sound Tryz.prog GG 105 C_box_those := by
  unfold C_box_those; rw [h_box_those]
  exact sound_of_run (fn := Tryz.f105) hmix hstable (tyOK_of ttOK) (hglob (X_box_those N P_box_size P_box_cell)) (conOK_of (X := X_box_those N P_box_size P_box_cell) ⟨s_box_size, s_box_cell, trivial⟩) (mconOK_of (X := X_box_those N P_box_size P_box_cell) trivial) (by kernel_rfl) (by kernel_rfl) (by kernel_rfl) (by kernel_rfl) (by kernel_rfl) (of_decide_eq_true (by kernel_rfl))
noncomputable def l_box_those_3 : Nat → Int → Int → Int → ((D_A3 × Unit) → Option (Bool × Unit)) → Int → Int → Int → Option (denL R_box_those) := hid (fun m0 p0 p1 p2 p3 p4 p5 p6 => L_box_those_3 N P_box_size P_box_cell m0 p0 p1 p2 p3 p4 p5 p6)
theorem h_box_those_3 : l_box_those_3 = fun m0 p0 p1 p2 p3 p4 p5 p6 => L_box_those_3 N P_box_size P_box_cell m0 p0 p1 p2 p3 p4 p5 p6 := hid_eq _
theorem p_box_those (a0 : D_A3) (a1 : (D_A3 × Unit) → Option (Bool × Unit)) : P_box_those (a0, a1, ()) = 
  Option.bind (P_box_size (a0, ())) fun r0 =>
  l_box_those_3 N a0.1 a0.2.1 a0.2.2.1 a1 0 r0.1 0 := by
  rewrite [h_box_those, h_box_those_3]
  exact e_box_those N P_box_size P_box_cell a0 a1
theorem q_box_those_3 (m0 : Nat) (p0 : Int) (p1 : Int) (p2 : Int) (p3 : (D_A3 × Unit) → Option (Bool × Unit)) (p4 : Int) (p5 : Int) (p6 : Int) : l_box_those_3 (m0 + 1) p0 p1 p2 p3 p4 p5 p6 = 
  bif decide (p6 < p5) then
    Option.bind (P_box_cell ((p0, (p1, (p2, ()))), p6, ())) fun r1 =>
    Option.bind (p3 (r1.1, ())) fun r2 =>
    bif r2.1 then
      bif decide ((0 : Int) ≤ p6) then
        l_box_those_3 m0 p0 p1 p2 p3 (intBits .or .u64 p4 (shlI .u64 1 p6)) p5 (IntKind.wrap .i64 (p6 + 1))
      else none
    else
      l_box_those_3 m0 p0 p1 p2 p3 p4 p5 (IntKind.wrap .i64 (p6 + 1))
  else
    some (p4, ()) := by
  rewrite [h_box_those_3]
  exact e_box_those_3 N P_box_size P_box_cell m0 p0 p1 p2 p3 p4 p5 p6

/- 114: loop.example/g01166/impl.others -/
abbrev As_impl_others : List ATy := [.data false (.int .i64)]
abbrev R_impl_others : List (Bool × Ty) := [(false, (.int .i64)), (false, (.int .i64))]
abbrev M_impl_others : List RMode := []
abbrev Ft_impl_others : Type := Int × Unit → Option (Int × Int × Unit)
noncomputable def X_impl_others (n : Nat) : Ctx := { types := TT, globals := [], con := [], keep := [], results := [.tmp 2, .tmp 3], ntmps := 9, n := n }
noncomputable def B_impl_others : Code := (Tryz.f114.body).getD .skip
theorem e_impl_others (n : Nat) (a0 : Int) : runF (X_impl_others n) B_impl_others As_impl_others R_impl_others M_impl_others (a0, ()) = 
  bif decide (a0 = 0) then
    some (1, 2, ())
  else
    bif decide (a0 = 1) then
      some (0, 2, ())
    else
      some (0, 1, ()) := by kernel_rfl
noncomputable def P_impl_others : Ft_impl_others := hid (runF (X_impl_others N) B_impl_others As_impl_others R_impl_others M_impl_others)
theorem h_impl_others : P_impl_others = runF (X_impl_others N) B_impl_others As_impl_others R_impl_others M_impl_others := hid_eq _
noncomputable def C_impl_others : Contract := ⟨As_impl_others, R_impl_others, M_impl_others, P_impl_others⟩
theorem s_impl_others : Sound Tryz.prog GG 114 C_impl_others := by
  unfold C_impl_others; rw [h_impl_others]
  exact sound_of_run (fn := Tryz.f114) hmix hstable (tyOK_of ttOK) (hglob (X_impl_others N)) (conOK_of (X := X_impl_others N) trivial) (mconOK_of (X := X_impl_others N) trivial) (by kernel_rfl) (by kernel_rfl) (by kernel_rfl) (by kernel_rfl) (by kernel_rfl) (of_decide_eq_true (by kernel_rfl))
theorem p_impl_others (a0 : Int) : P_impl_others (a0, ()) = 
  bif decide (a0 = 0) then
    some (1, 2, ())
  else
    bif decide (a0 = 1) then
      some (0, 2, ())
    else
      some (0, 1, ()) := by
  rewrite [h_impl_others]
  exact e_impl_others N a0

/- 107: (loop.example/g01166/impl.box).line -/
abbrev As_box_line : List ATy := [.data true T_A3, .data true T_A3, .data false (.int .i64)]
abbrev R_box_line : List (Bool × Ty) := [(false, (.int .i64))]
abbrev M_box_line : List RMode := []
abbrev Ft_box_line : Type := D_A3 × D_A3 × Int × Unit → Option (Int × Unit)
noncomputable def X_box_line (n : Nat) (F_impl_others : Ft_impl_others) : Ctx := { types := TT, globals := [], con := [(114, ⟨As_impl_others, R_impl_others, M_impl_others, F_impl_others⟩)], keep := [], results := [.tmp 6], ntmps := 25, n := n }
noncomputable def B_box_line : Code := (Tryz.f107.body).getD .skip
theorem e_box_line (n : Nat) (F_impl_others : Ft_impl_others) (a0 : D_A3) (a1 : D_A3) (a2 : Int) : runF (X_box_line n F_impl_others) B_box_line As_box_line R_box_line M_box_line (a0, a1, a2, ()) = 
  Option.bind (F_impl_others (a2, ())) fun r0 =>
  bif inB r0.1 3 then
    bif inB r0.2.1 3 then
      bif inB r0.2.1 3 then
        some ((IntKind.wrap .i64 ((IntKind.wrap .i64 ((bif decide (r0.1 = (0 : Int)) then a1.1 else (bif decide (r0.1 = (1 : Int)) then a1.2.1 else a1.2.2.1)) * (bif decide (r0.2.1 = (0 : Int)) then a0.1 else (bif decide (r0.2.1 = (1 : Int)) then a0.2.1 else a0.2.2.1)))) + (bif decide (r0.2.1 = (0 : Int)) then a1.1 else (bif decide (r0.2.1 = (1 : Int)) then a1.2.1 else a1.2.2.1)))), ())
      else none
    else none
  else none := by kernel_rfl
noncomputable def P_box_line : Ft_box_line := hid (runF (X_box_line N P_impl_others) B_box_line As_box_line R_box_line M_box_line)
theorem h_box_line : P_box_line = runF (X_box_line N P_impl_others) B_box_line As_box_line R_box_line M_box_line := hid_eq _
noncomputable def C_box_line : Contract := ⟨As_box_line, R_box_line, M_box_line, P_box_line⟩
theorem s_box_line : Sound Tryz.prog GG 107 C_box_line := by
  unfold C_box_line; rw [h_box_line]
  exact sound_of_run (fn := Tryz.f107) hmix hstable (tyOK_of ttOK) (hglob (X_box_line N P_impl_others)) (conOK_of (X := X_box_line N P_impl_others) ⟨s_impl_others, trivial⟩) (mconOK_of (X := X_box_line N P_impl_others) trivial) (by kernel_rfl) (by kernel_rfl) (by kernel_rfl) (by kernel_rfl) (by kernel_rfl) (of_decide_eq_true (by kernel_rfl))
theorem p_box_line (a0 : D_A3) (a1 : D_A3) (a2 : Int) : P_box_line (a0, a1, a2, ()) = 
  Option.bind (P_impl_others (a2, ())) fun r0 =>
  bif inB r0.1 3 then
    bif inB r0.2.1 3 then
      bif inB r0.2.1 3 then
        some ((IntKind.wrap .i64 ((IntKind.wrap .i64 ((bif decide (r0.1 = (0 : Int)) then a1.1 else (bif decide (r0.1 = (1 : Int)) then a1.2.1 else a1.2.2.1)) * (bif decide (r0.2.1 = (0 : Int)) then a0.1 else (bif decide (r0.2.1 = (1 : Int)) then a0.2.1 else a0.2.2.1)))) + (bif decide (r0.2.1 = (0 : Int)) then a1.1 else (bif decide (r0.2.1 = (1 : Int)) then a1.2.1 else a1.2.2.1)))), ())
      else none
    else none
  else none := by
  rewrite [h_box_line]
  exact e_box_line N P_impl_others a0 a1 a2

/- 106: (loop.example/g01166/impl.box).stack$1 -/
abbrev As_box_stack_1 : List ATy := [.data true T_A3, .ptr (.sl (.int .i64)), .ptr T_A3]
abbrev R_box_stack_1 : List (Bool × Ty) := [(false, .bool)]
abbrev M_box_stack_1 : List RMode := []
abbrev Ft_box_stack_1 : Type := D_A3 × (List Int) × D_A3 × Unit → Option (Bool × Unit)
noncomputable def X_box_stack_1 (n : Nat) (F_box_line : Ft_box_line) : Ctx := { types := TT, globals := [], con := [(107, ⟨As_box_line, R_box_line, M_box_line, F_box_line⟩)], keep := [], results := [.tmp 4], ntmps := 14, n := n }
noncomputable def B_box_stack_1 : Code := (Tryz.f106.body).getD .skip
theorem e_box_stack_1 (n : Nat) (F_box_line : Ft_box_line) (a0 : D_A3) (a1 : List Int) (a2 : D_A3) : runF (X_box_stack_1 n F_box_line) B_box_stack_1 As_box_stack_1 R_box_stack_1 M_box_stack_1 (a0, a1, a2, ()) = 
  Option.bind (F_box_line (a2, a0, 2, ())) fun r0 =>
  bif inB r0.1 (List.length a1) then
    some (decide (a0.2.2.1 < (nth ((.int .i64) : Ty) a1 r0.1)), ())
  else none := by kernel_rfl
noncomputable def P_box_stack_1 : Ft_box_stack_1 := hid (runF (X_box_stack_1 N P_box_line) B_box_stack_1 As_box_stack_1 R_box_stack_1 M_box_stack_1)
theorem h_box_stack_1 : P_box_stack_1 = runF (X_box_stack_1 N P_box_line) B_box_stack_1 As_box_stack_1 R_box_stack_1 M_box_stack_1 := hid_eq _
noncomputable def C_box_stack_1 : Contract := ⟨As_box_stack_1, R_box_stack_1, M_box_stack_1, P_box_stack_1⟩
theorem s_box_stack_1 : Sound Tryz.prog GG 106 C_box_stack_1 := by
  unfold C_box_stack_1; rw [h_box_stack_1]
  exact sound_of_run (fn := Tryz.f106) hmix hstable (tyOK_of ttOK) (hglob (X_box_stack_1 N P_box_line)) (conOK_of (X := X_box_stack_1 N P_box_line) ⟨s_box_line, trivial⟩) (mconOK_of (X := X_box_stack_1 N P_box_line) trivial) (by kernel_rfl) (by kernel_rfl) (by kernel_rfl) (by kernel_rfl) (by kernel_rfl) (of_decide_eq_true (by kernel_rfl))
theorem p_box_stack_1 (a0 : D_A3) (a1 : List Int) (a2 : D_A3) : P_box_stack_1 (a0, a1, a2, ()) = 
  Option.bind (P_box_line (a2, a0, 2, ())) fun r0 =>
  bif inB r0.1 (List.length a1) then
    some (decide (a0.2.2.1 < (nth ((.int .i64) : Ty) a1 r0.1)), ())
  else none := by
  rewrite [h_box_stack_1]
  exact e_box_stack_1 N P_box_line a0 a1 a2

/- 94: (loop.example/g01166/impl.box).stack -/
abbrev As_box_stack : List ATy := [.data true T_A3, .data false (.sl (.int .i64))]
abbrev R_box_stack : List (Bool × Ty) := [(false, (.int .u64))]
abbrev M_box_stack : List RMode := []
abbrev Ft_box_stack : Type := D_A3 × (List Int) × Unit → Option (Int × Unit)
noncomputable def X_box_stack (n : Nat) (F_box_those : Ft_box_those) (F_box_stack_1 : Ft_box_stack_1) : Ctx := { types := TT, globals := [], con := [(105, ⟨As_box_those, R_box_those, M_box_those, F_box_those⟩), (106, ⟨As_box_stack_1, R_box_stack_1, M_box_stack_1, F_box_stack_1⟩)], keep := [], results := [.tmp 4], ntmps := 8, n := n }
noncomputable def B_box_stack : Code := (Tryz.f94.body).getD .skip
theorem e_box_stack (n : Nat) (F_box_those : Ft_box_those) (F_box_stack_1 : Ft_box_stack_1) (a0 : D_A3) (a1 : List Int) : runF (X_box_stack n F_box_those F_box_stack_1) B_box_stack As_box_stack R_box_stack M_box_stack (a0, a1, ()) = 
  Option.bind (F_box_those (a0, (fun (y : D_A3 × Unit) => F_box_stack_1 (y.1, a1, a0, ())), ())) fun r0 =>
  some (r0.1, ()) := by kernel_rfl
noncomputable def P_box_stack : Ft_box_stack := hid (runF (X_box_stack N P_box_those P_box_stack_1) B_box_stack As_box_stack R_box_stack M_box_stack)
theorem h_box_stack : P_box_stack = runF (X_box_stack N P_box_those P_box_stack_1) B_box_stack As_box_stack R_box_stack M_box_stack := hid_eq _
noncomputable def C_box_stack : Contract := ⟨As_box_stack, R_box_stack, M_box_stack, P_box_stack⟩
theorem s_box_stack : Sound Tryz.prog GG 94 C_box_stack := by
  unfold C_box_stack; rw [h_box_stack]
  exact sound_of_run (fn := Tryz.f94) hmix hstable (tyOK_of ttOK) (hglob (X_box_stack N P_box_those P_box_stack_1)) (conOK_of (X := X_box_stack N P_box_those P_box_stack_1) ⟨s_box_those, s_box_stack_1, trivial⟩) (mconOK_of (X := X_box_stack N P_box_those P_box_stack_1) trivial) (by kernel_rfl) (by kernel_rfl) (by kernel_rfl) (by kernel_rfl) (by kernel_rfl) (of_decide_eq_true (by kernel_rfl))
theorem p_box_stack (a0 : D_A3) (a1 : List Int) : P_box_stack (a0, a1, ()) = 
  Option.bind (P_box_those (a0, (fun (y : D_A3 × Unit) => P_box_stack_1 (y.1, a1, a0, ())), ())) fun r0 =>
  some (r0.1, ()) := by
  rewrite [h_box_stack]
  exact e_box_stack N P_box_those P_box_stack_1 a0 a1

/- 108: (loop.example/g01166/impl.box).lines -/
abbrev As_box_lines : List ATy := [.data true T_A3, .data false (.int .i64)]
abbrev R_box_lines : List (Bool × Ty) := [(false, (.int .i64))]
abbrev M_box_lines : List RMode := []
abbrev Ft_box_lines : Type := D_A3 × Int × Unit → Option (Int × Unit)
noncomputable def X_box_lines (n : Nat) (F_box_size : Ft_box_size) : Ctx := { types := TT, globals := [], con := [(98, ⟨As_box_size, R_box_size, M_box_size, F_box_size⟩)], keep := [], results := [.tmp 4], ntmps := 11, n := n }
noncomputable def B_box_lines : Code := (Tryz.f108.body).getD .skip
theorem e_box_lines (n : Nat) (F_box_size : Ft_box_size) (a0 : D_A3) (a1 : Int) : runF (X_box_lines n F_box_size) B_box_lines As_box_lines R_box_lines M_box_lines (a0, a1, ()) = 
  Option.bind (F_box_size (a0, ())) fun r0 =>
  bif inB a1 3 then
    bif !decide ((bif decide (a1 = (0 : Int)) then a0.1 else (bif decide (a1 = (1 : Int)) then a0.2.1 else a0.2.2.1)) = 0) then
      some ((IntKind.wrap .i64 (Int.tdiv r0.1 (bif decide (a1 = (0 : Int)) then a0.1 else (bif decide (a1 = (1 : Int)) then a0.2.1 else a0.2.2.1)))), ())
    else none
  else none := by kernel_rfl
noncomputable def P_box_lines : Ft_box_lines := hid (runF (X_box_lines N P_box_size) B_box_lines As_box_lines R_box_lines M_box_lines)
theorem h_box_lines : P_box_lines = runF (X_box_lines N P_box_size) B_box_lines As_box_lines R_box_lines M_box_lines := hid_eq _
noncomputable def C_box_lines : Contract := ⟨As_box_lines, R_box_lines, M_box_lines, P_box_lines⟩
theorem s_box_lines : Sound Tryz.prog GG 108 C_box_lines := by
  unfold C_box_lines; rw [h_box_lines]
  exact sound_of_run (fn := Tryz.f108) hmix hstable (tyOK_of ttOK) (hglob (X_box_lines N P_box_size)) (conOK_of (X := X_box_lines N P_box_size) ⟨s_box_size, trivial⟩) (mconOK_of (X := X_box_lines N P_box_size) trivial) (by kernel_rfl) (by kernel_rfl) (by kernel_rfl) (by kernel_rfl) (by kernel_rfl) (of_decide_eq_true (by kernel_rfl))
theorem p_box_lines (a0 : D_A3) (a1 : Int) : P_box_lines (a0, a1, ()) = 
  Option.bind (P_box_size (a0, ())) fun r0 =>
  bif inB a1 3 then
    bif !decide ((bif decide (a1 = (0 : Int)) then a0.1 else (bif decide (a1 = (1 : Int)) then a0.2.1 else a0.2.2.1)) = 0) then
      some ((IntKind.wrap .i64 (Int.tdiv r0.1 (bif decide (a1 = (0 : Int)) then a0.1 else (bif decide (a1 = (1 : Int)) then a0.2.1 else a0.2.2.1)))), ())
    else none
  else none := by
  rewrite [h_box_lines]
  exact e_box_lines N P_box_size a0 a1

/- 95: (loop.example/g01166/impl.box).view -/
abbrev As_box_view : List ATy := [.data true T_A3, .data false (.int .u64), .data false (.int .i64)]
abbrev R_box_view : List (Bool × Ty) := [(false, (.sl (.int .i64)))]
abbrev M_box_view : List RMode := [.own 3]
abbrev Ft_box_view : Type := D_A3 × Int × Int × Unit → Option ((List Int) × Unit)
noncomputable def X_box_view (n : Nat) (F_box_list : Ft_box_list) (F_box_line : Ft_box_line) (F_box_lines : Ft_box_lines) : Ctx := { types := TT, globals := [], con := [(74, ⟨As_box_list, R_box_list, M_box_list, F_box_list⟩), (107, ⟨As_box_line, R_box_line, M_box_line, F_box_line⟩), (108, ⟨As_box_lines, R_box_lines, M_box_lines, F_box_lines⟩)], keep := [(3, ⟨[.box 3, .tmp 2, .tmp 3, .tmp 7, .tmp 16, .tmp 17, .tmp 18], []⟩)], results := [.tmp 6], ntmps := 33, n := n }
noncomputable def B_box_view : Code := (Tryz.f95.body).getD .skip
noncomputable def L_box_view_3 (n : Nat) (F_box_list : Ft_box_list) (F_box_line : Ft_box_line) (F_box_lines : Ft_box_lines) (m0 : Nat) (p0 : Int) (p1 : Int) (p2 : Int) (p3 : Int) (p4 : List Int) (p5 : List D_A3) (p6 : Int) (p7 : Int) : Option (denL R_box_view) := loopF (X_box_view n F_box_list F_box_line F_box_lines) B_box_view R_box_view M_box_view 3 [m0] [(.ver, .num 1), (.box 3, .box 0 false [.int .i64 p0, .int .i64 p1, .int .i64 p2]), (.tmp 2, .val false [.int .i64 p3]), (.tmp 3, .val false [.addr 3 0 0]), (.tmp 7, .val false [.own 3 (.int .i64) 0 p4]), (.tmp 16, .val false [.own 27 T_A3 0 p5]), (.tmp 17, .val false [.int .i64 p6]), (.tmp 18, .val false [.int .i64 p7])]
theorem e_box_view (n : Nat) (F_box_list : Ft_box_list) (F_box_line : Ft_box_line) (F_box_lines : Ft_box_lines) (a0 : D_A3) (a1 : Int) (a2 : Int) : runF (X_box_view n F_box_list F_box_line F_box_lines) B_box_view As_box_view R_box_view M_box_view (a0, a1, a2, ()) = 
  Option.bind (F_box_lines (a0, a2, ())) fun r0 =>
  bif (decide ((0 : Int) ≤ r0.1) && decide ((r0.1 : Int) ≤ r0.1) && decide ((r0.1 : Int) * (8 : Nat) ≤ 140737488355328) && decide ((r0.1 : Int) ≤ 140737488355328)) then
    Option.bind (F_box_list (a0, a1, ())) fun r2 =>
    L_box_view_3 n F_box_list F_box_line F_box_lines n a0.1 a0.2.1 a0.2.2.1 a2 (List.replicate (Int.toNat r0.1) (Ty.dflt ((.int .i64) : Ty))) r2.1 (List.length r2.1 : Int) 0
  else none := by kernel_rfl
theorem e_box_view_3 (n : Nat) (F_box_list : Ft_box_list) (F_box_line : Ft_box_line) (F_box_lines : Ft_box_lines) (m0 : Nat) (p0 : Int) (p1 : Int) (p2 : Int) (p3 : Int) (p4 : List Int) (p5 : List D_A3) (p6 : Int) (p7 : Int) : L_box_view_3 n F_box_list F_box_line F_box_lines (m0 + 1) p0 p1 p2 p3 p4 p5 p6 p7 = 
  bif decide (p7 < p6) then
    bif inB p7 (List.length p5) then
      Option.bind (F_box_line ((p0, (p1, (p2, ()))), (nth T_A3 p5 p7), p3, ())) fun r2 =>
      bif inB r2.1 (List.length p4) then
        bif inB r2.1 (List.length p4) then
          L_box_view_3 n F_box_list F_box_line F_box_lines m0 p0 p1 p2 p3 (List.set p4 (Int.toNat r2.1) (IntKind.wrap .i64 ((nth ((.int .i64) : Ty) p4 r2.1) + 1))) p5 p6 (IntKind.wrap .i64 (p7 + 1))
        else none
      else none
    else none
  else
    some (p4, ()) := by kernel_rfl
noncomputable def P_box_view : Ft_box_view := hid (runF (X_box_view N P_box_list P_box_line P_box_lines) B_box_view As_box_view R_box_view M_box_view)
theorem h_box_view : P_box_view = runF (X_box_view N P_box_list P_box_line P_box_lines) B_box_view As_box_view R_box_view M_box_view := hid_eq _
noncomputable def C_box_view : Contract := ⟨As_box_view, R_box_view, M_box_view, P_box_view⟩
theorem s_box_view : Sound Tryz.prog GG 95 C_box_view := by
  unfold C_box_view; rw [h_box_view]
  exact sound_of_run (fn := Tryz.f95) hmix hstable (tyOK_of ttOK) (hglob (X_box_view N P_box_list P_box_line P_box_lines)) (conOK_of (X := X_box_view N P_box_list P_box_line P_box_lines) ⟨s_box_list, s_box_line, s_box_lines, trivial⟩) (mconOK_of (X := X_box_view N P_box_list P_box_line P_box_lines) trivial) (by kernel_rfl) (by kernel_rfl) (by kernel_rfl) (by kernel_rfl) (by kernel_rfl) (of_decide_eq_true (by kernel_rfl))
noncomputable def l_box_view_3 : Nat → Int → Int → Int → Int → (List Int) → (List D_A3) → Int → Int → Option (denL R_box_view) := hid (fun m0 p0 p1 p2 p3 p4 p5 p6 p7 => L_box_view_3 N P_box_list P_box_line P_box_lines m0 p0 p1 p2 p3 p4 p5 p6 p7)
theorem h_box_view_3 : l_box_view_3 = fun m0 p0 p1 p2 p3 p4 p5 p6 p7 => L_box_view_3 N P_box_list P_box_line P_box_lines m0 p0 p1 p2 p3 p4 p5 p6 p7 := hid_eq _
theorem p_box_view (a0 : D_A3) (a1 : Int) (a2 : Int) : P_box_view (a0, a1, a2, ()) = 
  Option.bind (P_box_lines (a0, a2, ())) fun r0 =>
  bif (decide ((0 : Int) ≤ r0.1) && decide ((r0.1 : Int) ≤ r0.1) && decide ((r0.1 : Int) * (8 : Nat) ≤ 140737488355328) && decide ((r0.1 : Int) ≤ 140737488355328)) then
    Option.bind (P_box_list (a0, a1, ())) fun r2 =>
    l_box_view_3 N a0.1 a0.2.1 a0.2.2.1 a2 (List.replicate (Int.toNat r0.1) (Ty.dflt ((.int .i64) : Ty))) r2.1 (List.length r2.1 : Int) 0
  else none := by
  rewrite [h_box_view, h_box_view_3]
  exact e_box_view N P_box_list P_box_line P_box_lines a0 a1 a2
theorem q_box_view_3 (m0 : Nat) (p0 : Int) (p1 : Int) (p2 : Int) (p3 : Int) (p4 : List Int) (p5 : List D_A3) (p6 : Int) (p7 : Int) : l_box_view_3 (m0 + 1) p0 p1 p2 p3 p4 p5 p6 p7 = 
  bif decide (p7 < p6) then
    bif inB p7 (List.length p5) then
      Option.bind (P_box_line ((p0, (p1, (p2, ()))), (nth T_A3 p5 p7), p3, ())) fun r2 =>
      bif inB r2.1 (List.length p4) then
        bif inB r2.1 (List.length p4) then
          l_box_view_3 m0 p0 p1 p2 p3 (List.set p4 (Int.toNat r2.1) (IntKind.wrap .i64 ((nth ((.int .i64) : Ty) p4 r2.1) + 1))) p5 p6 (IntKind.wrap .i64 (p7 + 1))
        else none
      else none
    else none
  else
    some (p4, ()) := by
  rewrite [h_box_view_3]
  exact e_box_view_3 N P_box_list P_box_line P_box_lines m0 p0 p1 p2 p3 p4 p5 p6 p7

/- 72: (loop.example/g01166/impl.Heap).dropped -/
abbrev As_Heap_dropped : List ATy := [.data true T_Heap]
abbrev R_Heap_dropped : List (Bool × Ty) := [(false, (.int .u64))]
abbrev M_Heap_dropped : List RMode := []
abbrev Ft_Heap_dropped : Type := D_Heap × Unit → Option (Int × Unit)
noncomputable def X_Heap_dropped (n : Nat) (F_Heap_box : Ft_Heap_box) (F_Heap_cubes : Ft_Heap_cubes) (F_box_stack : Ft_box_stack) (F_box_view : Ft_box_view) : Ctx := { types := TT, globals := [], con := [(63, ⟨As_Heap_box, R_Heap_box, M_Heap_box, F_Heap_box⟩), (70, ⟨As_Heap_cubes, R_Heap_cubes, M_Heap_cubes, F_Heap_cubes⟩), (94, ⟨As_box_stack, R_box_stack, M_box_stack, F_box_stack⟩), (95, ⟨As_box_view, R_box_view, M_box_view, F_box_view⟩)], keep := [], results := [.tmp 2], ntmps := 11, n := n }
noncomputable def B_Heap_dropped : Code := (Tryz.f72.body).getD .skip
theorem e_Heap_dropped (n : Nat) (F_Heap_box : Ft_Heap_box) (F_Heap_cubes : Ft_Heap_cubes) (F_box_stack : Ft_box_stack) (F_box_view : Ft_box_view) (a0 : D_Heap) : runF (X_Heap_dropped n F_Heap_box F_Heap_cubes F_box_stack F_box_view) B_Heap_dropped As_Heap_dropped R_Heap_dropped M_Heap_dropped (a0, ()) = 
  Option.bind (F_Heap_box (a0, ())) fun r0 =>
  Option.bind (F_Heap_box (a0, ())) fun r1 =>
  Option.bind (F_Heap_cubes (a0, ())) fun r2 =>
  Option.bind (F_box_view (r1.1, r2.1, 2, ())) fun r3 =>
  Option.bind (F_box_stack (r0.1, r3.1, ())) fun r4 =>
  some (r4.1, ()) := by kernel_rfl
noncomputable def P_Heap_dropped : Ft_Heap_dropped := hid (runF (X_Heap_dropped N P_Heap_box P_Heap_cubes P_box_stack P_box_view) B_Heap_dropped As_Heap_dropped R_Heap_dropped M_Heap_dropped)
theorem h_Heap_dropped : P_Heap_dropped = runF (X_Heap_dropped N P_Heap_box P_Heap_cubes P_box_stack P_box_view) B_Heap_dropped As_Heap_dropped R_Heap_dropped M_Heap_dropped := hid_eq _
noncomputable def C_Heap_dropped : Contract := ⟨As_Heap_dropped, R_Heap_dropped, M_Heap_dropped, P_Heap_dropped⟩
theorem s_Heap_dropped : Sound Tryz.prog GG 72 C_Heap_dropped := by
  unfold C_Heap_dropped; rw [h_Heap_dropped]
  exact sound_of_run (fn := Tryz.f72) hmix hstable (tyOK_of ttOK) (hglob (X_Heap_dropped N P_Heap_box P_Heap_cubes P_box_stack P_box_view)) (conOK_of (X := X_Heap_dropped N P_Heap_box P_Heap_cubes P_box_stack P_box_view) ⟨s_Heap_box, s_Heap_cubes, s_box_stack, s_box_view, trivial⟩) (mconOK_of (X := X_Heap_dropped N P_Heap_box P_Heap_cubes P_box_stack P_box_view) trivial) (by kernel_rfl) (by kernel_rfl) (by kernel_rfl) (by kernel_rfl) (by kernel_rfl) (of_decide_eq_true (by kernel_rfl))
theorem p_Heap_dropped (a0 : D_Heap) : P_Heap_dropped (a0, ()) = 
  Option.bind (P_Heap_box (a0, ())) fun r0 =>
  Option.bind (P_Heap_box (a0, ())) fun r1 =>
  Option.bind (P_Heap_cubes (a0, ())) fun r2 =>
  Option.bind (P_box_view (r1.1, r2.1, 2, ())) fun r3 =>
  Option.bind (P_box_stack (r0.1, r3.1, ())) fun r4 =>
  some (r4.1, ()) := by
  rewrite [h_Heap_dropped]
  exact e_Heap_dropped N P_Heap_box P_Heap_cubes P_box_stack P_box_view a0

/- 43: loop.example/g01166/impl.DropHeap -/
abbrev As_impl_DropHeap : List ATy := [.data true T_Heap]
abbrev R_impl_DropHeap : List (Bool × Ty) := [(true, T_Heap), (false, .bool)]
abbrev M_impl_DropHeap : List RMode := [.own 27]
abbrev Ft_impl_DropHeap : Type := D_Heap × Unit → Option (D_Heap × Bool × Unit)
noncomputable def X_impl_DropHeap (n : Nat) (F_impl_IsHeap : Ft_impl_IsHeap) (F_Heap_box : Ft_Heap_box) (F_box_heap : Ft_box_heap) (F_Heap_dropped : Ft_Heap_dropped) : Ctx := { types := TT, globals := [], con := [(39, ⟨As_impl_IsHeap, R_impl_IsHeap, M_impl_IsHeap, F_impl_IsHeap⟩), (63, ⟨As_Heap_box, R_Heap_box, M_Heap_box, F_Heap_box⟩), (69, ⟨As_box_heap, R_box_heap, M_box_heap, F_box_heap⟩), (72, ⟨As_Heap_dropped, R_Heap_dropped, M_Heap_dropped, F_Heap_dropped⟩)], keep := [], results := [.cell 2 31, .tmp 3], ntmps := 13, n := n }
noncomputable def B_impl_DropHeap : Code := (Tryz.f43.body).getD .skip
theorem e_impl_DropHeap (n : Nat) (F_impl_IsHeap : Ft_impl_IsHeap) (F_Heap_box : Ft_Heap_box) (F_box_heap : Ft_box_heap) (F_Heap_dropped : Ft_Heap_dropped) (a0 : D_Heap) : runF (X_impl_DropHeap n F_impl_IsHeap F_Heap_box F_box_heap F_Heap_dropped) B_impl_DropHeap As_impl_DropHeap R_impl_DropHeap M_impl_DropHeap (a0, ()) = 
  Option.bind (F_impl_IsHeap (a0, ())) fun r0 =>
  bif !r0.1 then
    some ((0, (0, (0, (([] : List D_A3), ())))), false, ())
  else
    Option.bind (F_Heap_box (a0, ())) fun r2 =>
    Option.bind (F_Heap_dropped (a0, ())) fun r3 =>
    Option.bind (F_box_heap (r2.1, r3.1, ())) fun r4 =>
    some (r4.1, true, ()) := by kernel_rfl
noncomputable def P_impl_DropHeap : Ft_impl_DropHeap := hid (runF (X_impl_DropHeap N P_impl_IsHeap P_Heap_box P_box_heap P_Heap_dropped) B_impl_DropHeap As_impl_DropHeap R_impl_DropHeap M_impl_DropHeap)
theorem h_impl_DropHeap : P_impl_DropHeap = runF (X_impl_DropHeap N P_impl_IsHeap P_Heap_box P_box_heap P_Heap_dropped) B_impl_DropHeap As_impl_DropHeap R_impl_DropHeap M_impl_DropHeap := hid_eq _
noncomputable def C_impl_DropHeap : Contract := ⟨As_impl_DropHeap, R_impl_DropHeap, M_impl_DropHeap, P_impl_DropHeap⟩
theorem s_impl_DropHeap : Sound Tryz.prog GG 43 C_impl_DropHeap := by
  unfold C_impl_DropHeap; rw [h_impl_DropHeap]
  exact sound_of_run (fn := Tryz.f43) hmix hstable (tyOK_of ttOK) (hglob (X_impl_DropHeap N P_impl_IsHeap P_Heap_box P_box_heap P_Heap_dropped)) (conOK_of (X := X_impl_DropHeap N P_impl_IsHeap P_Heap_box P_box_heap P_Heap_dropped) ⟨s_impl_IsHeap, s_Heap_box, s_box_heap, s_Heap_dropped, trivial⟩) (mconOK_of (X := X_impl_DropHeap N P_impl_IsHeap P_Heap_box P_box_heap P_Heap_dropped) trivial) (by kernel_rfl) (by kernel_rfl) (by kernel_rfl) (by kernel_rfl) (by kernel_rfl) (of_decide_eq_true (by kernel_rfl))
theorem p_impl_DropHeap (a0 : D_Heap) : P_impl_DropHeap (a0, ()) = 
  Option.bind (P_impl_IsHeap (a0, ())) fun r0 =>
  bif !r0.1 then
    some ((0, (0, (0, (([] : List D_A3), ())))), false, ())
  else
    Option.bind (P_Heap_box (a0, ())) fun r2 =>
    Option.bind (P_Heap_dropped (a0, ())) fun r3 =>
    Option.bind (P_box_heap (r2.1, r3.1, ())) fun r4 =>
    some (r4.1, true, ()) := by
  rewrite [h_impl_DropHeap]
  exact e_impl_DropHeap N P_impl_IsHeap P_Heap_box P_box_heap P_Heap_dropped a0

/- 109: (loop.example/g01166/impl.box).near -/
abbrev As_box_near : List ATy := [.data true T_A3, .data true T_A3]
abbrev R_box_near : List (Bool × Ty) := [(false, (.int .u64))]
abbrev M_box_near : List RMode := []
abbrev Ft_box_near : Type := D_A3 × D_A3 × Unit → Option (Int × Unit)
noncomputable def X_box_near (n : Nat) (F_box_has : Ft_box_has) (F_box_index : Ft_box_index) : Ctx := { types := TT, globals := [], con := [(65, ⟨As_box_has, R_box_has, M_box_has, F_box_has⟩), (71, ⟨As_box_index, R_box_index, M_box_index, F_box_index⟩)], keep := [(3, ⟨[.box 2, .box 3, .tmp 2, .tmp 3, .tmp 5, .tmp 10], []⟩), (6, ⟨[.box 2, .box 3, .tmp 2, .tmp 3, .tmp 5, .tmp 6, .tmp 10, .tmp 13, .tmp 14], []⟩)], results := [.tmp 4], ntmps := 36, n := n }
noncomputable def B_box_near : Code := (Tryz.f109.body).getD .skip
noncomputable def L_box_near_3 (n : Nat) (F_box_has : Ft_box_has) (F_box_index : Ft_box_index) (m0 : Nat) (p0 : Int) (p1 : Int) (p2 : Int) (p3 : Int) (p4 : Int) (p5 : Int) (p6 : Int) (p7 : Int) : Option (denL R_box_near) := loopF (X_box_near n F_box_has F_box_index) B_box_near R_box_near M_box_near 3 [m0] [(.ver, .num 1), (.box 2, .box 0 false [.int .i64 p0, .int .i64 p1, .int .i64 p2]), (.box 3, .box 0 false [.int .i64 p3, .int .i64 p4, .int .i64 p5]), (.tmp 2, .val false [.addr 2 0 0]), (.tmp 3, .val false [.addr 3 0 0]), (.tmp 5, .val false [.int .u64 p6]), (.tmp 10, .val false [.int .i64 p7])]
noncomputable def L_box_near_6 (n : Nat) (F_box_has : Ft_box_has) (F_box_index : Ft_box_index) (m0 m1 : Nat) (p0 : Int) (p1 : Int) (p2 : Int) (p3 : Int) (p4 : Int) (p5 : Int) (p6 : Int) (p7 : Int) (p8 : Int) (p9 : Int) (p10 : Int) (p11 : Int) : Option (denL R_box_near) := loopF (X_box_near n F_box_has F_box_index) B_box_near R_box_near M_box_near 6 [m0, m1] [(.ver, .num 1), (.box 2, .box 0 false [.int .i64 p0, .int .i64 p1, .int .i64 p2]), (.box 3, .box 0 false [.int .i64 p3, .int .i64 p4, .int .i64 p5]), (.tmp 2, .val false [.addr 2 0 0]), (.tmp 3, .val false [.addr 3 0 0]), (.tmp 5, .val false [.int .u64 p6]), (.tmp 6, .val false [.int .i64 p7]), (.tmp 10, .val false [.int .i64 p8]), (.tmp 13, .val true [.int .i64 p9, .int .i64 p10]), (.tmp 14, .val false [.int .i64 p11])]
theorem e_box_near (n : Nat) (F_box_has : Ft_box_has) (F_box_index : Ft_box_index) (a0 : D_A3) (a1 : D_A3) : runF (X_box_near n F_box_has F_box_index) B_box_near As_box_near R_box_near M_box_near (a0, a1, ()) = 
  L_box_near_3 n F_box_has F_box_index n a0.1 a0.2.1 a0.2.2.1 a1.1 a1.2.1 a1.2.2.1 0 0 := by kernel_rfl
theorem e_box_near_3 (n : Nat) (F_box_has : Ft_box_has) (F_box_index : Ft_box_index) (m0 : Nat) (p0 : Int) (p1 : Int) (p2 : Int) (p3 : Int) (p4 : Int) (p5 : Int) (p6 : Int) (p7 : Int) : L_box_near_3 n F_box_has F_box_index (m0 + 1) p0 p1 p2 p3 p4 p5 p6 p7 = 
  bif decide (p7 < 3) then
    L_box_near_6 n F_box_has F_box_index m0 n p0 p1 p2 p3 p4 p5 p6 p7 p7 (-1) 1 0
  else
    some (p6, ()) := by kernel_rfl
theorem e_box_near_6 (n : Nat) (F_box_has : Ft_box_has) (F_box_index : Ft_box_index) (m0 m1 : Nat) (p0 : Int) (p1 : Int) (p2 : Int) (p3 : Int) (p4 : Int) (p5 : Int) (p6 : Int) (p7 : Int) (p8 : Int) (p9 : Int) (p10 : Int) (p11 : Int) : L_box_near_6 n F_box_has F_box_index m0 (m1 + 1) p0 p1 p2 p3 p4 p5 p6 p7 p8 p9 p10 p11 = 
  bif decide (p11 < 2) then
    bif inB p11 2 then
      bif inB p7 3 then
        bif inB p7 3 then
          Option.bind (F_box_has ((p0, (p1, (p2, ()))), ((bif decide (p7 = (0 : Int)) then (IntKind.wrap .i64 ((bif decide (p7 = (0 : Int)) then p3 else (bif decide (p7 = (1 : Int)) then p4 else p5)) + (bif decide (p11 = (0 : Int)) then p9 else p10))) else p3), ((bif decide (p7 = (1 : Int)) then (IntKind.wrap .i64 ((bif decide (p7 = (0 : Int)) then p3 else (bif decide (p7 = (1 : Int)) then p4 else p5)) + (bif decide (p11 = (0 : Int)) then p9 else p10))) else p4), ((bif decide (p7 = (2 : Int)) then (IntKind.wrap .i64 ((bif decide (p7 = (0 : Int)) then p3 else (bif decide (p7 = (1 : Int)) then p4 else p5)) + (bif decide (p11 = (0 : Int)) then p9 else p10))) else p5), ()))), ())) fun r4 =>
          bif r4.1 then
            Option.bind (F_box_index ((p0, (p1, (p2, ()))), ((bif decide (p7 = (0 : Int)) then (IntKind.wrap .i64 ((bif decide (p7 = (0 : Int)) then p3 else (bif decide (p7 = (1 : Int)) then p4 else p5)) + (bif decide (p11 = (0 : Int)) then p9 else p10))) else p3), ((bif decide (p7 = (1 : Int)) then (IntKind.wrap .i64 ((bif decide (p7 = (0 : Int)) then p3 else (bif decide (p7 = (1 : Int)) then p4 else p5)) + (bif decide (p11 = (0 : Int)) then p9 else p10))) else p4), ((bif decide (p7 = (2 : Int)) then (IntKind.wrap .i64 ((bif decide (p7 = (0 : Int)) then p3 else (bif decide (p7 = (1 : Int)) then p4 else p5)) + (bif decide (p11 = (0 : Int)) then p9 else p10))) else p5), ()))), ())) fun r6 =>
            bif decide ((0 : Int) ≤ r6.1) then
              L_box_near_6 n F_box_has F_box_index m0 m1 p0 p1 p2 p3 p4 p5 (intBits .or .u64 p6 (shlI .u64 1 r6.1)) p7 p8 p9 p10 (IntKind.wrap .i64 (p11 + 1))
            else none
          else
            L_box_near_6 n F_box_has F_box_index m0 m1 p0 p1 p2 p3 p4 p5 p6 p7 p8 p9 p10 (IntKind.wrap .i64 (p11 + 1))
        else none
      else none
    else none
  else
    L_box_near_3 n F_box_has F_box_index m0 p0 p1 p2 p3 p4 p5 p6 (IntKind.wrap .i64 (p8 + 1)) := by kernel_rfl
noncomputable def P_box_near : Ft_box_near := hid (runF (X_box_near N P_box_has P_box_index) B_box_near As_box_near R_box_near M_box_near)
theorem h_box_near : P_box_near = runF (X_box_near N P_box_has P_box_index) B_box_near As_box_near R_box_near M_box_near := hid_eq _
noncomputable def C_box_near : Contract := ⟨As_box_near, R_box_near, M_box_near, P_box_near⟩
theorem s_box_near : Sound Tryz.prog GG 109 C_box_near := by
  unfold C_box_near; rw [h_box_near]
  exact sound_of_run (fn := Tryz.f109) hmix hstable (tyOK_of ttOK) (hglob (X_box_near N P_box_has P_box_index)) (conOK_of (X := X_box_near N P_box_has P_box_index) ⟨s_box_has, s_box_index, trivial⟩) (mconOK_of (X := X_box_near N P_box_has P_box_index) trivial) (by kernel_rfl) (by kernel_rfl) (by kernel_rfl) (by kernel_rfl) (by kernel_rfl) (of_decide_eq_true (by kernel_rfl))
noncomputable def l_box_near_3 : Nat → Int → Int → Int → Int → Int → Int → Int → Int → Option (denL R_box_near) := hid (fun m0 p0 p1 p2 p3 p4 p5 p6 p7 => L_box_near_3 N P_box_has P_box_index m0 p0 p1 p2 p3 p4 p5 p6 p7)
theorem h_box_near_3 : l_box_near_3 = fun m0 p0 p1 p2 p3 p4 p5 p6 p7 => L_box_near_3 N P_box_has P_box_index m0 p0 p1 p2 p3 p4 p5 p6 p7 := hid_eq _
noncomputable def l_box_near_6 : Nat → Nat → Int → Int → Int → Int → Int → Int → Int → Int → Int → Int → Int → Int → Option (denL R_box_near) := hid (fun m0 m1 p0 p1 p2 p3 p4 p5 p6 p7 p8 p9 p10 p11 => L_box_near_6 N P_box_has P_box_index m0 m1 p0 p1 p2 p3 p4 p5 p6 p7 p8 p9 p10 p11)
theorem h_box_near_6 : l_box_near_6 = fun m0 m1 p0 p1 p2 p3 p4 p5 p6 p7 p8 p9 p10 p11 => L_box_near_6 N P_box_has P_box_index m0 m1 p0 p1 p2 p3 p4 p5 p6 p7 p8 p9 p10 p11 := hid_eq _
theorem p_box_near (a0 : D_A3) (a1 : D_A3) : P_box_near (a0, a1, ()) = 
  l_box_near_3 N a0.1 a0.2.1 a0.2.2.1 a1.1 a1.2.1 a1.2.2.1 0 0 := by
  rewrite [h_box_near, h_box_near_3]
  exact e_box_near N P_box_has P_box_index a0 a1
theorem q_box_near_3 (m0 : Nat) (p0 : Int) (p1 : Int) (p2 : Int) (p3 : Int) (p4 : Int) (p5 : Int) (p6 : Int) (p7 : Int) : l_box_near_3 (m0 + 1) p0 p1 p2 p3 p4 p5 p6 p7 = 
  bif decide (p7 < 3) then
    l_box_near_6 m0 N p0 p1 p2 p3 p4 p5 p6 p7 p7 (-1) 1 0
  else
    some (p6, ()) := by
  rewrite [h_box_near_3, h_box_near_6]
  exact e_box_near_3 N P_box_has P_box_index m0 p0 p1 p2 p3 p4 p5 p6 p7
theorem q_box_near_6 (m0 m1 : Nat) (p0 : Int) (p1 : Int) (p2 : Int) (p3 : Int) (p4 : Int) (p5 : Int) (p6 : Int) (p7 : Int) (p8 : Int) (p9 : Int) (p10 : Int) (p11 : Int) : l_box_near_6 m0 (m1 + 1) p0 p1 p2 p3 p4 p5 p6 p7 p8 p9 p10 p11 = 
  bif decide (p11 < 2) then
    bif inB p11 2 then
      bif inB p7 3 then
        bif inB p7 3 then
          Option.bind (P_box_has ((p0, (p1, (p2, ()))), ((bif decide (p7 = (0 : Int)) then (IntKind.wrap .i64 ((bif decide (p7 = (0 : Int)) then p3 else (bif decide (p7 = (1 : Int)) then p4 else p5)) + (bif decide (p11 = (0 : Int)) then p9 else p10))) else p3), ((bif decide (p7 = (1 : Int)) then (IntKind.wrap .i64 ((bif decide (p7 = (0 : Int)) then p3 else (bif decide (p7 = (1 : Int)) then p4 else p5)) + (bif decide (p11 = (0 : Int)) then p9 else p10))) else p4), ((bif decide (p7 = (2 : Int)) then (IntKind.wrap .i64 ((bif decide (p7 = (0 : Int)) then p3 else (bif decide (p7 = (1 : Int)) then p4 else p5)) + (bif decide (p11 = (0 : Int)) then p9 else p10))) else p5), ()))), ())) fun r4 =>
          bif r4.1 then
            Option.bind (P_box_index ((p0, (p1, (p2, ()))), ((bif decide (p7 = (0 : Int)) then (IntKind.wrap .i64 ((bif decide (p7 = (0 : Int)) then p3 else (bif decide (p7 = (1 : Int)) then p4 else p5)) + (bif decide (p11 = (0 : Int)) then p9 else p10))) else p3), ((bif decide (p7 = (1 : Int)) then (IntKind.wrap .i64 ((bif decide (p7 = (0 : Int)) then p3 else (bif decide (p7 = (1 : Int)) then p4 else p5)) + (bif decide (p11 = (0 : Int)) then p9 else p10))) else p4), ((bif decide (p7 = (2 : Int)) then (IntKind.wrap .i64 ((bif decide (p7 = (0 : Int)) then p3 else (bif decide (p7 = (1 : Int)) then p4 else p5)) + (bif decide (p11 = (0 : Int)) then p9 else p10))) else p5), ()))), ())) fun r6 =>
            bif decide ((0 : Int) ≤ r6.1) then
              l_box_near_6 m0 m1 p0 p1 p2 p3 p4 p5 (intBits .or .u64 p6 (shlI .u64 1 r6.1)) p7 p8 p9 p10 (IntKind.wrap .i64 (p11 + 1))
            else none
          else
            l_box_near_6 m0 m1 p0 p1 p2 p3 p4 p5 p6 p7 p8 p9 p10 (IntKind.wrap .i64 (p11 + 1))
        else none
      else none
    else none
  else
    l_box_near_3 m0 p0 p1 p2 p3 p4 p5 p6 (IntKind.wrap .i64 (p8 + 1)) := by
  rewrite [h_box_near_3, h_box_near_6]
  exact e_box_near_6 N P_box_has P_box_index m0 m1 p0 p1 p2 p3 p4 p5 p6 p7 p8 p9 p10 p11

/- 96: (loop.example/g01166/impl.box).grown -/
abbrev As_box_grown : List ATy := [.data true T_A3, .data false (.int .u64), .data false (.int .u64)]
abbrev R_box_grown : List (Bool × Ty) := [(false, (.int .u64))]
abbrev M_box_grown : List RMode := []
abbrev Ft_box_grown : Type := D_A3 × Int × Int × Unit → Option (Int × Unit)
noncomputable def X_box_grown (n : Nat) (F_set_has : Ft_set_has) (F_box_size : Ft_box_size) (F_box_cell : Ft_box_cell) (F_box_near : Ft_box_near) : Ctx := { types := TT, globals := [], con := [(93, ⟨As_set_has, R_set_has, M_set_has, F_set_has⟩), (98, ⟨As_box_size, R_box_size, M_box_size, F_box_size⟩), (99, ⟨As_box_cell, R_box_cell, M_box_cell, F_box_cell⟩), (109, ⟨As_box_near, R_box_near, M_box_near, F_box_near⟩)], keep := [(1, ⟨[.box 3, .tmp 1, .tmp 2, .tmp 3], []⟩), (3, ⟨[.box 3, .tmp 1, .tmp 2, .tmp 3, .tmp 7, .tmp 11, .tmp 12], []⟩)], results := [.tmp 6], ntmps := 33, n := n }
noncomputable def B_box_grown : Code := (Tryz.f96.body).getD .skip
noncomputable def L_box_grown_1 (n : Nat) (F_set_has : Ft_set_has) (F_box_size : Ft_box_size) (F_box_cell : Ft_box_cell) (F_box_near : Ft_box_near) (m0 : Nat) (p0 : Int) (p1 : Int) (p2 : Int) (p3 : Int) (p4 : Int) : Option (denL R_box_grown) := loopF (X_box_grown n F_set_has F_box_size F_box_cell F_box_near) B_box_grown R_box_grown M_box_grown 1 [m0] [(.ver, .num 1), (.box 3, .box 0 false [.int .i64 p0, .int .i64 p1, .int .i64 p2]), (.tmp 1, .val false [.int .u64 p3]), (.tmp 2, .val false [.int .u64 p4]), (.tmp 3, .val false [.addr 3 0 0])]
noncomputable def L_box_grown_3 (n : Nat) (F_set_has : Ft_set_has) (F_box_size : Ft_box_size) (F_box_cell : Ft_box_cell) (F_box_near : Ft_box_near) (m0 m1 : Nat) (p0 : Int) (p1 : Int) (p2 : Int) (p3 : Int) (p4 : Int) (p5 : Int) (p6 : Int) (p7 : Int) : Option (denL R_box_grown) := loopF (X_box_grown n F_set_has F_box_size F_box_cell F_box_near) B_box_grown R_box_grown M_box_grown 3 [m0, m1] [(.ver, .num 1), (.box 3, .box 0 false [.int .i64 p0, .int .i64 p1, .int .i64 p2]), (.tmp 1, .val false [.int .u64 p3]), (.tmp 2, .val false [.int .u64 p4]), (.tmp 3, .val false [.addr 3 0 0]), (.tmp 7, .val false [.int .u64 p5]), (.tmp 11, .val false [.int .i64 p6]), (.tmp 12, .val false [.int .i64 p7])]
theorem e_box_grown (n : Nat) (F_set_has : Ft_set_has) (F_box_size : Ft_box_size) (F_box_cell : Ft_box_cell) (F_box_near : Ft_box_near) (a0 : D_A3) (a1 : Int) (a2 : Int) : runF (X_box_grown n F_set_has F_box_size F_box_cell F_box_near) B_box_grown As_box_grown R_box_grown M_box_grown (a0, a1, a2, ()) = 
  L_box_grown_1 n F_set_has F_box_size F_box_cell F_box_near n a0.1 a0.2.1 a0.2.2.1 a1 a2 := by kernel_rfl
theorem e_box_grown_1 (n : Nat) (F_set_has : Ft_set_has) (F_box_size : Ft_box_size) (F_box_cell : Ft_box_cell) (F_box_near : Ft_box_near) (m0 : Nat) (p0 : Int) (p1 : Int) (p2 : Int) (p3 : Int) (p4 : Int) : L_box_grown_1 n F_set_has F_box_size F_box_cell F_box_near (m0 + 1) p0 p1 p2 p3 p4 = 
  Option.bind (F_box_size ((p0, (p1, (p2, ()))), ())) fun r0 =>
  L_box_grown_3 n F_set_has F_box_size F_box_cell F_box_near m0 n p0 p1 p2 p3 p4 p3 r0.1 0 := by kernel_rfl
theorem e_box_grown_3 (n : Nat) (F_set_has : Ft_set_has) (F_box_size : Ft_box_size) (F_box_cell : Ft_box_cell) (F_box_near : Ft_box_near) (m0 m1 : Nat) (p0 : Int) (p1 : Int) (p2 : Int) (p3 : Int) (p4 : Int) (p5 : Int) (p6 : Int) (p7 : Int) : L_box_grown_3 n F_set_has F_box_size F_box_cell F_box_near m0 (m1 + 1) p0 p1 p2 p3 p4 p5 p6 p7 = 
  bif decide (p7 < p6) then
    Option.bind (F_set_has (p3, p7, ())) fun r1 =>
    bif r1.1 then
      Option.bind (F_box_cell ((p0, (p1, (p2, ()))), p7, ())) fun r3 =>
      Option.bind (F_box_near ((p0, (p1, (p2, ()))), r3.1, ())) fun r4 =>
      L_box_grown_3 n F_set_has F_box_size F_box_cell F_box_near m0 m1 p0 p1 p2 p3 p4 (intBits .or .u64 p5 (intBits .and .u64 r4.1 p4)) p6 (IntKind.wrap .i64 (p7 + 1))
    else
      L_box_grown_3 n F_set_has F_box_size F_box_cell F_box_near m0 m1 p0 p1 p2 p3 p4 p5 p6 (IntKind.wrap .i64 (p7 + 1))
  else
    bif decide (p5 = p3) then
      some (p3, ())
    else
      L_box_grown_1 n F_set_has F_box_size F_box_cell F_box_near m0 p0 p1 p2 p5 p4 := by kernel_rfl
noncomputable def P_box_grown : Ft_box_grown := hid (runF (X_box_grown N P_set_has P_box_size P_box_cell P_box_near) B_box_grown As_box_grown R_box_grown M_box_grown)
theorem h_box_grown : P_box_grown = runF (X_box_grown N P_set_has P_box_size P_box_cell P_box_near) B_box_grown As_box_grown R_box_grown M_box_grown := hid_eq _
noncomputable def C_box_grown : Contract := ⟨As_box_grown, R_box_grown, M_box_grown, P_box_grown⟩
theorem s_box_grown : Sound Tryz.prog GG 96 C_box_grown := by
  unfold C_box_grown; rw [h_box_grown]
  exact sound_of_run (fn := Tryz.f96) hmix hstable (tyOK_of ttOK) (hglob (X_box_grown N P_set_has P_box_size P_box_cell P_box_near)) (conOK_of (X := X_box_grown N P_set_has P_box_size P_box_cell P_box_near) ⟨s_set_has, s_box_size, s_box_cell, s_box_near, trivial⟩) (mconOK_of (X := X_box_grown N P_set_has P_box_size P_box_cell P_box_near) trivial) (by kernel_rfl) (by kernel_rfl) (by kernel_rfl) (by kernel_rfl) (by kernel_rfl) (of_decide_eq_true (by kernel_rfl))
noncomputable def l_box_grown_1 : Nat → Int → Int → Int → Int → Int → Option (denL R_box_grown) := hid (fun m0 p0 p1 p2 p3 p4 => L_box_grown_1 N P_set_has P_box_size P_box_cell P_box_near m0 p0 p1 p2 p3 p4)
theorem h_box_grown_1 : l_box_grown_1 = fun m0 p0 p1 p2 p3 p4 => L_box_grown_1 N P_set_has P_box_size P_box_cell P_box_near m0 p0 p1 p2 p3 p4 := hid_eq _
noncomputable def l_box_grown_3 : Nat → Nat → Int → Int → Int → Int → Int → Int → Int → Int → Option (denL R_box_grown) := hid (fun m0 m1 p0 p1 p2 p3 p4 p5 p6 p7 => L_box_grown_3 N P_set_has P_box_size P_box_cell P_box_near m0 m1 p0 p1 p2 p3 p4 p5 p6 p7)
theorem h_box_grown_3 : l_box_grown_3 = fun m0 m1 p0 p1 p2 p3 p4 p5 p6 p7 => L_box_grown_3 N P_set_has P_box_size P_box_cell P_box_near m0 m1 p0 p1 p2 p3 p4 p5 p6 p7 := hid_eq _
theorem p_box_grown (a0 : D_A3) (a1 : Int) (a2 : Int) : P_box_grown (a0, a1, a2, ()) = 
  l_box_grown_1 N a0.1 a0.2.1 a0.2.2.1 a1 a2 := by
  rewrite [h_box_grown, h_box_grown_1]
  exact e_box_grown N P_set_has P_box_size P_box_cell P_box_near a0 a1 a2
theorem q_box_grown_1 (m0 : Nat) (p0 : Int) (p1 : Int) (p2 : Int) (p3 : Int) (p4 : Int) : l_box_grown_1 (m0 + 1) p0 p1 p2 p3 p4 = 
  Option.bind (P_box_size ((p0, (p1, (p2, ()))), ())) fun r0 =>
  l_box_grown_3 m0 N p0 p1 p2 p3 p4 p3 r0.1 0 := by
  rewrite [h_box_grown_1, h_box_grown_3]
  exact e_box_grown_1 N P_set_has P_box_size P_box_cell P_box_near m0 p0 p1 p2 p3 p4
theorem q_box_grown_3 (m0 m1 : Nat) (p0 : Int) (p1 : Int) (p2 : Int) (p3 : Int) (p4 : Int) (p5 : Int) (p6 : Int) (p7 : Int) : l_box_grown_3 m0 (m1 + 1) p0 p1 p2 p3 p4 p5 p6 p7 = 
  bif decide (p7 < p6) then
    Option.bind (P_set_has (p3, p7, ())) fun r1 =>
    bif r1.1 then
      Option.bind (P_box_cell ((p0, (p1, (p2, ()))), p7, ())) fun r3 =>
      Option.bind (P_box_near ((p0, (p1, (p2, ()))), r3.1, ())) fun r4 =>
      l_box_grown_3 m0 m1 p0 p1 p2 p3 p4 (intBits .or .u64 p5 (intBits .and .u64 r4.1 p4)) p6 (IntKind.wrap .i64 (p7 + 1))
    else
      l_box_grown_3 m0 m1 p0 p1 p2 p3 p4 p5 p6 (IntKind.wrap .i64 (p7 + 1))
  else
    bif decide (p5 = p3) then
      some (p3, ())
    else
      l_box_grown_1 m0 p0 p1 p2 p5 p4 := by
  rewrite [h_box_grown_1, h_box_grown_3]
  exact e_box_grown_3 N P_set_has P_box_size P_box_cell P_box_near m0 m1 p0 p1 p2 p3 p4 p5 p6 p7

/- 110: (loop.example/g01166/impl.box).floor$1 -/
abbrev As_box_floor_1 : List ATy := [.data true T_A3]
abbrev R_box_floor_1 : List (Bool × Ty) := [(false, .bool)]
abbrev M_box_floor_1 : List RMode := []
abbrev Ft_box_floor_1 : Type := D_A3 × Unit → Option (Bool × Unit)
noncomputable def X_box_floor_1 (n : Nat) : Ctx := { types := TT, globals := [], con := [], keep := [], results := [.tmp 2], ntmps := 6, n := n }
noncomputable def B_box_floor_1 : Code := (Tryz.f110.body).getD .skip
theorem e_box_floor_1 (n : Nat) (a0 : D_A3) : runF (X_box_floor_1 n) B_box_floor_1 As_box_floor_1 R_box_floor_1 M_box_floor_1 (a0, ()) = 
  some (decide (a0.2.2.1 = 0), ()) := by kernel_rfl
noncomputable def P_box_floor_1 : Ft_box_floor_1 := hid (runF (X_box_floor_1 N) B_box_floor_1 As_box_floor_1 R_box_floor_1 M_box_floor_1)
theorem h_box_floor_1 : P_box_floor_1 = runF (X_box_floor_1 N) B_box_floor_1 As_box_floor_1 R_box_floor_1 M_box_floor_1 := hid_eq _
noncomputable def C_box_floor_1 : Contract := ⟨As_box_floor_1, R_box_floor_1, M_box_floor_1, P_box_floor_1⟩
theorem s_box_floor_1 : Sound Tryz.prog GG 110 C_box_floor_1 := by
  unfold C_box_floor_1; rw [h_box_floor_1]
  exact sound_of_run (fn := Tryz.f110) hmix hstable (tyOK_of ttOK) (hglob (X_box_floor_1 N)) (conOK_of (X := X_box_floor_1 N) trivial) (mconOK_of (X := X_box_floor_1 N) trivial) (by kernel_rfl) (by kernel_rfl) (by kernel_rfl) (by kernel_rfl) (by kernel_rfl) (of_decide_eq_true (by kernel_rfl))
theorem p_box_floor_1 (a0 : D_A3) : P_box_floor_1 (a0, ()) = 
  some (decide (a0.2.2.1 = 0), ()) := by
  rewrite [h_box_floor_1]
  exact e_box_floor_1 N a0

/- 97: (loop.example/g01166/impl.box).floor -/
abbrev As_box_floor : List ATy := [.data true T_A3]
abbrev R_box_floor : List (Bool × Ty) := [(false, (.int .u64))]
abbrev M_box_floor : List RMode := []
abbrev Ft_box_floor : Type := D_A3 × Unit → Option (Int × Unit)
noncomputable def X_box_floor (n : Nat) (F_box_those : Ft_box_those) (F_box_floor_1 : Ft_box_floor_1) : Ctx := { types := TT, globals := [], con := [(105, ⟨As_box_those, R_box_those, M_box_those, F_box_those⟩), (110, ⟨As_box_floor_1, R_box_floor_1, M_box_floor_1, F_box_floor_1⟩)], keep := [], results := [.tmp 2], ntmps := 5, n := n }
noncomputable def B_box_floor : Code := (Tryz.f97.body).getD .skip
theorem e_box_floor (n : Nat) (F_box_those : Ft_box_those) (F_box_floor_1 : Ft_box_floor_1) (a0 : D_A3) : runF (X_box_floor n F_box_those F_box_floor_1) B_box_floor As_box_floor R_box_floor M_box_floor (a0, ()) = 
  Option.bind (F_box_those (a0, (fun (y : D_A3 × Unit) => F_box_floor_1 (y.1, ())), ())) fun r0 =>
  some (r0.1, ()) := by kernel_rfl
noncomputable def P_box_floor : Ft_box_floor := hid (runF (X_box_floor N P_box_those P_box_floor_1) B_box_floor As_box_floor R_box_floor M_box_floor)
theorem h_box_floor : P_box_floor = runF (X_box_floor N P_box_those P_box_floor_1) B_box_floor As_box_floor R_box_floor M_box_floor := hid_eq _
noncomputable def C_box_floor : Contract := ⟨As_box_floor, R_box_floor, M_box_floor, P_box_floor⟩
theorem s_box_floor : Sound Tryz.prog GG 97 C_box_floor := by
  unfold C_box_floor; rw [h_box_floor]
  exact sound_of_run (fn := Tryz.f97) hmix hstable (tyOK_of ttOK) (hglob (X_box_floor N P_box_those P_box_floor_1)) (conOK_of (X := X_box_floor N P_box_those P_box_floor_1) ⟨s_box_those, s_box_floor_1, trivial⟩) (mconOK_of (X := X_box_floor N P_box_those P_box_floor_1) trivial) (by kernel_rfl) (by kernel_rfl) (by kernel_rfl) (by kernel_rfl) (by kernel_rfl) (of_decide_eq_true (by kernel_rfl))
theorem p_box_floor (a0 : D_A3) : P_box_floor (a0, ()) = 
  Option.bind (P_box_those (a0, (fun (y : D_A3 × Unit) => P_box_floor_1 (y.1, ())), ())) fun r0 =>
  some (r0.1, ()) := by
  rewrite [h_box_floor]
  exact e_box_floor N P_box_those P_box_floor_1 a0

/- 73: (loop.example/g01166/impl.box).standing -/
abbrev As_box_standing : List ATy := [.data true T_A3, .data false (.int .u64)]
abbrev R_box_standing : List (Bool × Ty) := [(false, (.int .u64))]
abbrev M_box_standing : List RMode := []
abbrev Ft_box_standing : Type := D_A3 × Int × Unit → Option (Int × Unit)
noncomputable def X_box_standing (n : Nat) (F_box_grown : Ft_box_grown) (F_box_floor : Ft_box_floor) : Ctx := { types := TT, globals := [], con := [(96, ⟨As_box_grown, R_box_grown, M_box_grown, F_box_grown⟩), (97, ⟨As_box_floor, R_box_floor, M_box_floor, F_box_floor⟩)], keep := [], results := [.tmp 4], ntmps := 12, n := n }
noncomputable def B_box_standing : Code := (Tryz.f73.body).getD .skip
theorem e_box_standing (n : Nat) (F_box_grown : Ft_box_grown) (F_box_floor : Ft_box_floor) (a0 : D_A3) (a1 : Int) : runF (X_box_standing n F_box_grown F_box_floor) B_box_standing As_box_standing R_box_standing M_box_standing (a0, a1, ()) = 
  Option.bind (F_box_floor (a0, ())) fun r0 =>
  Option.bind (F_box_grown (a0, (intBits .and .u64 a1 r0.1), a1, ())) fun r1 =>
  some (r1.1, ()) := by kernel_rfl
noncomputable def P_box_standing : Ft_box_standing := hid (runF (X_box_standing N P_box_grown P_box_floor) B_box_standing As_box_standing R_box_standing M_box_standing)
theorem h_box_standing : P_box_standing = runF (X_box_standing N P_box_grown P_box_floor) B_box_standing As_box_standing R_box_standing M_box_standing := hid_eq _
noncomputable def C_box_standing : Contract := ⟨As_box_standing, R_box_standing, M_box_standing, P_box_standing⟩
theorem s_box_standing : Sound Tryz.prog GG 73 C_box_standing := by
  unfold C_box_standing; rw [h_box_standing]
  exact sound_of_run (fn := Tryz.f73) hmix hstable (tyOK_of ttOK) (hglob (X_box_standing N P_box_grown P_box_floor)) (conOK_of (X := X_box_standing N P_box_grown P_box_floor) ⟨s_box_grown, s_box_floor, trivial⟩) (mconOK_of (X := X_box_standing N P_box_grown P_box_floor) trivial) (by kernel_rfl) (by kernel_rfl) (by kernel_rfl) (by kernel_rfl) (by kernel_rfl) (of_decide_eq_true (by kernel_rfl))
theorem p_box_standing (a0 : D_A3) (a1 : Int) : P_box_standing (a0, a1, ()) = 
  Option.bind (P_box_floor (a0, ())) fun r0 =>
  Option.bind (P_box_grown (a0, (intBits .and .u64 a1 r0.1), a1, ())) fun r1 =>
  some (r1.1, ()) := by
  rewrite [h_box_standing]
  exact e_box_standing N P_box_grown P_box_floor a0 a1

/- 44: loop.example/g01166/impl.SinkHeap -/
abbrev As_impl_SinkHeap : List ATy := [.data true T_Heap]
abbrev R_impl_SinkHeap : List (Bool × Ty) := [(true, T_Heap), (false, (.int .i64)), (false, .bool)]
abbrev M_impl_SinkHeap : List RMode := [.own 27]
abbrev Ft_impl_SinkHeap : Type := D_Heap × Unit → Option (D_Heap × Int × Bool × Unit)
noncomputable def X_impl_SinkHeap (n : Nat) (F_impl_IsHeap : Ft_impl_IsHeap) (F_Heap_box : Ft_Heap_box) (F_box_heap : Ft_box_heap) (F_Heap_cubes : Ft_Heap_cubes) (F_box_index : Ft_box_index) (F_box_standing : Ft_box_standing) (F_box_list : Ft_box_list) : Ctx := { types := TT, globals := [], con := [(39, ⟨As_impl_IsHeap, R_impl_IsHeap, M_impl_IsHeap, F_impl_IsHeap⟩), (63, ⟨As_Heap_box, R_Heap_box, M_Heap_box, F_Heap_box⟩), (69, ⟨As_box_heap, R_box_heap, M_box_heap, F_box_heap⟩), (70, ⟨As_Heap_cubes, R_Heap_cubes, M_Heap_cubes, F_Heap_cubes⟩), (71, ⟨As_box_index, R_box_index, M_box_index, F_box_index⟩), (73, ⟨As_box_standing, R_box_standing, M_box_standing, F_box_standing⟩), (74, ⟨As_box_list, R_box_list, M_box_list, F_box_list⟩)], keep := [(6, ⟨[.box 2, .box 5, .tmp 2, .tmp 5, .tmp 6, .tmp 7], []⟩), (11, ⟨[.box 2, .box 5, .tmp 2, .tmp 5, .tmp 7, .tmp 9, .tmp 37, .tmp 38, .tmp 39], []⟩)], results := [.cell 2 31, .tmp 3, .tmp 4], ntmps := 55, n := n }
noncomputable def B_impl_SinkHeap : Code := (Tryz.f44.body).getD .skip
noncomputable def L_impl_SinkHeap_6 (n : Nat) (F_impl_IsHeap : Ft_impl_IsHeap) (F_Heap_box : Ft_Heap_box) (F_box_heap : Ft_box_heap) (F_Heap_cubes : Ft_Heap_cubes) (F_box_index : Ft_box_index) (F_box_standing : Ft_box_standing) (F_box_list : Ft_box_list) (m0 : Nat) (p0 : Int) (p1 : Int) (p2 : Int) (p3 : List D_A3) (p4 : Int) (p5 : Int) (p6 : Int) (p7 : Int) (p8 : Int) : Option (denL R_impl_SinkHeap) := loopF (X_impl_SinkHeap n F_impl_IsHeap F_Heap_box F_box_heap F_Heap_cubes F_box_index F_box_standing F_box_list) B_impl_SinkHeap R_impl_SinkHeap M_impl_SinkHeap 6 [m0] [(.ver, .num 1), (.box 2, .box 0 false [.int .i64 p0, .int .i64 p1, .int .i64 p2, .own 27 T_A3 0 p3]), (.box 5, .box 0 false [.int .i64 p4, .int .i64 p5, .int .i64 p6]), (.tmp 2, .val false [.addr 2 0 0]), (.tmp 5, .val false [.addr 5 0 0]), (.tmp 6, .val false [.int .u64 p7]), (.tmp 7, .val false [.int .i64 p8])]
noncomputable def L_impl_SinkHeap_11 (n : Nat) (F_impl_IsHeap : Ft_impl_IsHeap) (F_Heap_box : Ft_Heap_box) (F_box_heap : Ft_box_heap) (F_Heap_cubes : Ft_Heap_cubes) (F_box_index : Ft_box_index) (F_box_standing : Ft_box_standing) (F_box_list : Ft_box_list) (m0 m1 : Nat) (p0 : Int) (p1 : Int) (p2 : Int) (p3 : List D_A3) (p4 : Int) (p5 : Int) (p6 : Int) (p7 : Int) (p8 : Int) (p9 : List D_A3) (p10 : Int) (p11 : Int) : Option (denL R_impl_SinkHeap) := loopF (X_impl_SinkHeap n F_impl_IsHeap F_Heap_box F_box_heap F_Heap_cubes F_box_index F_box_standing F_box_list) B_impl_SinkHeap R_impl_SinkHeap M_impl_SinkHeap 11 [m0, m1] [(.ver, .num 1), (.box 2, .box 0 false [.int .i64 p0, .int .i64 p1, .int .i64 p2, .own 27 T_A3 0 p3]), (.box 5, .box 0 false [.int .i64 p4, .int .i64 p5, .int .i64 p6]), (.tmp 2, .val false [.addr 2 0 0]), (.tmp 5, .val false [.addr 5 0 0]), (.tmp 7, .val false [.int .i64 p7]), (.tmp 9, .val false [.int .u64 p8]), (.tmp 37, .val false [.own 27 T_A3 0 p9]), (.tmp 38, .val false [.int .i64 p10]), (.tmp 39, .val false [.int .i64 p11])]
theorem e_impl_SinkHeap (n : Nat) (F_impl_IsHeap : Ft_impl_IsHeap) (F_Heap_box : Ft_Heap_box) (F_box_heap : Ft_box_heap) (F_Heap_cubes : Ft_Heap_cubes) (F_box_index : Ft_box_index) (F_box_standing : Ft_box_standing) (F_box_list : Ft_box_list) (a0 : D_Heap) : runF (X_impl_SinkHeap n F_impl_IsHeap F_Heap_box F_box_heap F_Heap_cubes F_box_index F_box_standing F_box_list) B_impl_SinkHeap As_impl_SinkHeap R_impl_SinkHeap M_impl_SinkHeap (a0, ()) = 
  Option.bind (F_impl_IsHeap (a0, ())) fun r0 =>
  bif !r0.1 then
    some ((0, (0, (0, (([] : List D_A3), ())))), 0, false, ())
  else
    Option.bind (F_Heap_box (a0, ())) fun r2 =>
    Option.bind (F_Heap_cubes (a0, ())) fun r3 =>
    L_impl_SinkHeap_6 n F_impl_IsHeap F_Heap_box F_box_heap F_Heap_cubes F_box_index F_box_standing F_box_list n 0 0 0 ([] : List D_A3) r2.1.1 r2.1.2.1 r2.1.2.2.1 r3.1 0 := by kernel_rfl
theorem e_impl_SinkHeap_6 (n : Nat) (F_impl_IsHeap : Ft_impl_IsHeap) (F_Heap_box : Ft_Heap_box) (F_box_heap : Ft_box_heap) (F_Heap_cubes : Ft_Heap_cubes) (F_box_index : Ft_box_index) (F_box_standing : Ft_box_standing) (F_box_list : Ft_box_list) (m0 : Nat) (p0 : Int) (p1 : Int) (p2 : Int) (p3 : List D_A3) (p4 : Int) (p5 : Int) (p6 : Int) (p7 : Int) (p8 : Int) : L_impl_SinkHeap_6 n F_impl_IsHeap F_Heap_box F_box_heap F_Heap_cubes F_box_index F_box_standing F_box_list (m0 + 1) p0 p1 p2 p3 p4 p5 p6 p7 p8 = 
  Option.bind (F_box_standing ((p4, (p5, (p6, ()))), p7, ())) fun r0 =>
  bif decide (r0.1 = p7) then
    Option.bind (F_box_heap ((p4, (p5, (p6, ()))), p7, ())) fun r2 =>
    some (r2.1, p8, true, ())
  else
    Option.bind (F_box_list ((p4, (p5, (p6, ()))), (intBits .andNot .u64 p7 r0.1), ())) fun r2 =>
    L_impl_SinkHeap_11 n F_impl_IsHeap F_Heap_box F_box_heap F_Heap_cubes F_box_index F_box_standing F_box_list m0 n p0 p1 p2 p3 p4 p5 p6 p8 r0.1 r2.1 (List.length r2.1 : Int) 0 := by kernel_rfl
theorem e_impl_SinkHeap_11 (n : Nat) (F_impl_IsHeap : Ft_impl_IsHeap) (F_Heap_box : Ft_Heap_box) (F_box_heap : Ft_box_heap) (F_Heap_cubes : Ft_Heap_cubes) (F_box_index : Ft_box_index) (F_box_standing : Ft_box_standing) (F_box_list : Ft_box_list) (m0 m1 : Nat) (p0 : Int) (p1 : Int) (p2 : Int) (p3 : List D_A3) (p4 : Int) (p5 : Int) (p6 : Int) (p7 : Int) (p8 : Int) (p9 : List D_A3) (p10 : Int) (p11 : Int) : L_impl_SinkHeap_11 n F_impl_IsHeap F_Heap_box F_box_heap F_Heap_cubes F_box_index F_box_standing F_box_list m0 (m1 + 1) p0 p1 p2 p3 p4 p5 p6 p7 p8 p9 p10 p11 = 
  bif decide (p11 < p10) then
    bif inB p11 (List.length p9) then
      Option.bind (F_box_index ((p4, (p5, (p6, ()))), (((nth T_A3 p9 p11)).1, ((((nth T_A3 p9 p11)).2).1, ((IntKind.wrap .i64 (((((nth T_A3 p9 p11)).2).2).1 - 1)), ()))), ())) fun r2 =>
      bif decide ((0 : Int) ≤ r2.1) then
        L_impl_SinkHeap_11 n F_impl_IsHeap F_Heap_box F_box_heap F_Heap_cubes F_box_index F_box_standing F_box_list m0 m1 p0 p1 p2 p3 p4 p5 p6 p7 (intBits .or .u64 p8 (shlI .u64 1 r2.1)) p9 p10 (IntKind.wrap .i64 (p11 + 1))
      else none
    else none
  else
    L_impl_SinkHeap_6 n F_impl_IsHeap F_Heap_box F_box_heap F_Heap_cubes F_box_index F_box_standing F_box_list m0 p0 p1 p2 p3 p4 p5 p6 p8 (IntKind.wrap .i64 (p7 + 1)) := by kernel_rfl
noncomputable def P_impl_SinkHeap : Ft_impl_SinkHeap := hid (runF (X_impl_SinkHeap N P_impl_IsHeap P_Heap_box P_box_heap P_Heap_cubes P_box_index P_box_standing P_box_list) B_impl_SinkHeap As_impl_SinkHeap R_impl_SinkHeap M_impl_SinkHeap)
theorem h_impl_SinkHeap : P_impl_SinkHeap = runF (X_impl_SinkHeap N P_impl_IsHeap P_Heap_box P_box_heap P_Heap_cubes P_box_index P_box_standing P_box_list) B_impl_SinkHeap As_impl_SinkHeap R_impl_SinkHeap M_impl_SinkHeap := hid_eq _
noncomputable def C_impl_SinkHeap : Contract := ⟨As_impl_SinkHeap, R_impl_SinkHeap, M_impl_SinkHeap, P_impl_SinkHeap⟩
theorem s_impl_SinkHeap : Sound Tryz.prog GG 44 C_impl_SinkHeap := by
  unfold C_impl_SinkHeap; rw [h_impl_SinkHeap]
  exact sound_of_run (fn := Tryz.f44) hmix hstable (tyOK_of ttOK) (hglob (X_impl_SinkHeap N P_impl_IsHeap P_Heap_box P_box_heap P_Heap_cubes P_box_index P_box_standing P_box_list)) (conOK_of (X := X_impl_SinkHeap N P_impl_IsHeap P_Heap_box P_box_heap P_Heap_cubes P_box_index P_box_standing P_box_list) ⟨s_impl_IsHeap, s_Heap_box, s_box_heap, s_Heap_cubes, s_box_index, s_box_standing, s_box_list, trivial⟩) (mconOK_of (X := X_impl_SinkHeap N P_impl_IsHeap P_Heap_box P_box_heap P_Heap_cubes P_box_index P_box_standing P_box_list) trivial) (by kernel_rfl) (by kernel_rfl) (by kernel_rfl) (by kernel_rfl) (by kernel_rfl) (of_decide_eq_true (by kernel_rfl))
noncomputable def l_impl_SinkHeap_6 : Nat → Int → Int → Int → (List D_A3) → Int → Int → Int → Int → Int → Option (denL R_impl_SinkHeap) := hid (fun m0 p0 p1 p2 p3 p4 p5 p6 p7 p8 => L_impl_SinkHeap_6 N P_impl_IsHeap P_Heap_box P_box_heap P_Heap_cubes P_box_index P_box_standing P_box_list m0 p0 p1 p2 p3 p4 p5 p6 p7 p8)
theorem h_impl_SinkHeap_6 : l_impl_SinkHeap_6 = fun m0 p0 p1 p2 p3 p4 p5 p6 p7 p8 => L_impl_SinkHeap_6 N P_impl_IsHeap P_Heap_box P_box_heap P_Heap_cubes P_box_index P_box_standing P_box_list m0 p0 p1 p2 p3 p4 p5 p6 p7 p8 := hid_eq _
noncomputable def l_impl_SinkHeap_11 : Nat → Nat → Int → Int → Int → (List D_A3) → Int → Int → Int → Int → Int → (List D_A3) → Int → Int → Option (denL R_impl_SinkHeap) := hid (fun m0 m1 p0 p1 p2 p3 p4 p5 p6 p7 p8 p9 p10 p11 => L_impl_SinkHeap_11 N P_impl_IsHeap P_Heap_box P_box_heap P_Heap_cubes P_box_index P_box_standing P_box_list m0 m1 p0 p1 p2 p3 p4 p5 p6 p7 p8 p9 p10 p11)
theorem h_impl_SinkHeap_11 : l_impl_SinkHeap_11 = fun m0 m1 p0 p1 p2 p3 p4 p5 p6 p7 p8 p9 p10 p11 => L_impl_SinkHeap_11 N P_impl_IsHeap P_Heap_box P_box_heap P_Heap_cubes P_box_index P_box_standing P_box_list m0 m1 p0 p1 p2 p3 p4 p5 p6 p7 p8 p9 p10 p11 := hid_eq _
theorem p_impl_SinkHeap (a0 : D_Heap) : P_impl_SinkHeap (a0, ()) = 
  Option.bind (P_impl_IsHeap (a0, ())) fun r0 =>
  bif !r0.1 then
    some ((0, (0, (0, (([] : List D_A3), ())))), 0, false, ())
  else
    Option.bind (P_Heap_box (a0, ())) fun r2 =>
    Option.bind (P_Heap_cubes (a0, ())) fun r3 =>
    l_impl_SinkHeap_6 N 0 0 0 ([] : List D_A3) r2.1.1 r2.1.2.1 r2.1.2.2.1 r3.1 0 := by
  rewrite [h_impl_SinkHeap, h_impl_SinkHeap_6]
  exact e_impl_SinkHeap N P_impl_IsHeap P_Heap_box P_box_heap P_Heap_cubes P_box_index P_box_standing P_box_list a0
theorem q_impl_SinkHeap_6 (m0 : Nat) (p0 : Int) (p1 : Int) (p2 : Int) (p3 : List D_A3) (p4 : Int) (p5 : Int) (p6 : Int) (p7 : Int) (p8 : Int) : l_impl_SinkHeap_6 (m0 + 1) p0 p1 p2 p3 p4 p5 p6 p7 p8 = 
  Option.bind (P_box_standing ((p4, (p5, (p6, ()))), p7, ())) fun r0 =>
  bif decide (r0.1 = p7) then
    Option.bind (P_box_heap ((p4, (p5, (p6, ()))), p7, ())) fun r2 =>
    some (r2.1, p8, true, ())
  else
    Option.bind (P_box_list ((p4, (p5, (p6, ()))), (intBits .andNot .u64 p7 r0.1), ())) fun r2 =>
    l_impl_SinkHeap_11 m0 N p0 p1 p2 p3 p4 p5 p6 p8 r0.1 r2.1 (List.length r2.1 : Int) 0 := by
  rewrite [h_impl_SinkHeap_6, h_impl_SinkHeap_11]
  exact e_impl_SinkHeap_6 N P_impl_IsHeap P_Heap_box P_box_heap P_Heap_cubes P_box_index P_box_standing P_box_list m0 p0 p1 p2 p3 p4 p5 p6 p7 p8
theorem q_impl_SinkHeap_11 (m0 m1 : Nat) (p0 : Int) (p1 : Int) (p2 : Int) (p3 : List D_A3) (p4 : Int) (p5 : Int) (p6 : Int) (p7 : Int) (p8 : Int) (p9 : List D_A3) (p10 : Int) (p11 : Int) : l_impl_SinkHeap_11 m0 (m1 + 1) p0 p1 p2 p3 p4 p5 p6 p7 p8 p9 p10 p11 = 
  bif decide (p11 < p10) then
    bif inB p11 (List.length p9) then
      Option.bind (P_box_index ((p4, (p5, (p6, ()))), (((nth T_A3 p9 p11)).1, ((((nth T_A3 p9 p11)).2).1, ((IntKind.wrap .i64 (((((nth T_A3 p9 p11)).2).2).1 - 1)), ()))), ())) fun r2 =>
      bif decide ((0 : Int) ≤ r2.1) then
        l_impl_SinkHeap_11 m0 m1 p0 p1 p2 p3 p4 p5 p6 p7 (intBits .or .u64 p8 (shlI .u64 1 r2.1)) p9 p10 (IntKind.wrap .i64 (p11 + 1))
      else none
    else none
  else
    l_impl_SinkHeap_6 m0 p0 p1 p2 p3 p4 p5 p6 p8 (IntKind.wrap .i64 (p7 + 1)) := by
  rewrite [h_impl_SinkHeap_6, h_impl_SinkHeap_11]
  exact e_impl_SinkHeap_11 N P_impl_IsHeap P_Heap_box P_box_heap P_Heap_cubes P_box_index P_box_standing P_box_list m0 m1 p0 p1 p2 p3 p4 p5 p6 p7 p8 p9 p10 p11

/- 75: loop.example/g01166/impl.isDirection -/
abbrev As_impl_isDirection : List ATy := [.data false (.int .i64)]
abbrev R_impl_isDirection : List (Bool × Ty) := [(false, .bool)]
abbrev M_impl_isDirection : List RMode := []
abbrev Ft_impl_isDirection : Type := Int × Unit → Option (Bool × Unit)
noncomputable def X_impl_isDirection (n : Nat) (F_impl_within : Ft_impl_within) : Ctx := { types := TT, globals := [], con := [(40, ⟨As_impl_within, R_impl_within, M_impl_within, F_impl_within⟩)], keep := [], results := [.tmp 2], ntmps := 5, n := n }
noncomputable def B_impl_isDirection : Code := (Tryz.f75.body).getD .skip
theorem e_impl_isDirection (n : Nat) (F_impl_within : Ft_impl_within) (a0 : Int) : runF (X_impl_isDirection n F_impl_within) B_impl_isDirection As_impl_isDirection R_impl_isDirection M_impl_isDirection (a0, ()) = 
  Option.bind (F_impl_within (a0, 0, 2, ())) fun r0 =>
  some (r0.1, ()) := by kernel_rfl
noncomputable def P_impl_isDirection : Ft_impl_isDirection := hid (runF (X_impl_isDirection N P_impl_within) B_impl_isDirection As_impl_isDirection R_impl_isDirection M_impl_isDirection)
theorem h_impl_isDirection : P_impl_isDirection = runF (X_impl_isDirection N P_impl_within) B_impl_isDirection As_impl_isDirection R_impl_isDirection M_impl_isDirection := hid_eq _
noncomputable def C_impl_isDirection : Contract := ⟨As_impl_isDirection, R_impl_isDirection, M_impl_isDirection, P_impl_isDirection⟩
theorem s_impl_isDirection : Sound Tryz.prog GG 75 C_impl_isDirection := by
  unfold C_impl_isDirection; rw [h_impl_isDirection]
  exact sound_of_run (fn := Tryz.f75) hmix hstable (tyOK_of ttOK) (hglob (X_impl_isDirection N P_impl_within)) (conOK_of (X := X_impl_isDirection N P_impl_within) ⟨s_impl_within, trivial⟩) (mconOK_of (X := X_impl_isDirection N P_impl_within) trivial) (by kernel_rfl) (by kernel_rfl) (by kernel_rfl) (by kernel_rfl) (by kernel_rfl) (of_decide_eq_true (by kernel_rfl))
theorem p_impl_isDirection (a0 : Int) : P_impl_isDirection (a0, ()) = 
  Option.bind (P_impl_within (a0, 0, 2, ())) fun r0 =>
  some (r0.1, ()) := by
  rewrite [h_impl_isDirection]
  exact e_impl_isDirection N P_impl_within a0

/- 76: (loop.example/g01166/impl.Heap).moved -/
abbrev As_Heap_moved : List ATy := [.data true T_Heap, .data true T_A3, .clo [(true, T_A3)] [(true, T_A3)]]
abbrev R_Heap_moved : List (Bool × Ty) := [(true, T_Heap)]
abbrev M_Heap_moved : List RMode := [.own 27]
abbrev Ft_Heap_moved : Type := D_Heap × D_A3 × ((D_A3 × Unit) → Option (D_A3 × Unit)) × Unit → Option (D_Heap × Unit)
noncomputable def X_Heap_moved (n : Nat) (F_box_heap : Ft_box_heap) (F_box_index : Ft_box_index) : Ctx := { types := TT, globals := [], con := [(69, ⟨As_box_heap, R_box_heap, M_box_heap, F_box_heap⟩), (71, ⟨As_box_index, R_box_index, M_box_index, F_box_index⟩)], keep := [(3, ⟨[.box 4, .box 6, .tmp 2, .tmp 4, .tmp 6, .tmp 7, .tmp 11, .tmp 12, .tmp 13], []⟩)], results := [.cell 6 31], ntmps := 29, n := n }
noncomputable def B_Heap_moved : Code := (Tryz.f76.body).getD .skip
noncomputable def L_Heap_moved_3 (n : Nat) (F_box_heap : Ft_box_heap) (F_box_index : Ft_box_index) (m0 : Nat) (p0 : Int) (p1 : Int) (p2 : Int) (p3 : Int) (p4 : Int) (p5 : Int) (p6 : List D_A3) (p7 : (D_A3 × Unit) → Option (D_A3 × Unit)) (p8 : Int) (p9 : List D_A3) (p10 : Int) (p11 : Int) : Option (denL R_Heap_moved) := loopF (X_Heap_moved n F_box_heap F_box_index) B_Heap_moved R_Heap_moved M_Heap_moved 3 [m0] [(.ver, .num 1), (.box 4, .box 0 false [.int .i64 p0, .int .i64 p1, .int .i64 p2]), (.box 6, .box 0 false [.int .i64 p3, .int .i64 p4, .int .i64 p5, .own 27 T_A3 0 p6]), (.tmp 2, .val false [.clo [(true, T_A3)] [(true, T_A3)] p7]), (.tmp 4, .val false [.addr 4 0 0]), (.tmp 6, .val false [.addr 6 0 0]), (.tmp 7, .val false [.int .u64 p8]), (.tmp 11, .val false [.imm T_A3 p9 (some 3)]), (.tmp 12, .val false [.int .i64 p10]), (.tmp 13, .val false [.int .i64 p11])]
theorem e_Heap_moved (n : Nat) (F_box_heap : Ft_box_heap) (F_box_index : Ft_box_index) (a0 : D_Heap) (a1 : D_A3) (a2 : (D_A3 × Unit) → Option (D_A3 × Unit)) : runF (X_Heap_moved n F_box_heap F_box_index) B_Heap_moved As_Heap_moved R_Heap_moved M_Heap_moved (a0, a1, a2, ()) = 
  L_Heap_moved_3 n F_box_heap F_box_index n a1.1 a1.2.1 a1.2.2.1 0 0 0 ([] : List D_A3) a2 0 a0.2.2.2.1 (List.length a0.2.2.2.1 : Int) 0 := by kernel_rfl
theorem e_Heap_moved_3 (n : Nat) (F_box_heap : Ft_box_heap) (F_box_index : Ft_box_index) (m0 : Nat) (p0 : Int) (p1 : Int) (p2 : Int) (p3 : Int) (p4 : Int) (p5 : Int) (p6 : List D_A3) (p7 : (D_A3 × Unit) → Option (D_A3 × Unit)) (p8 : Int) (p9 : List D_A3) (p10 : Int) (p11 : Int) : L_Heap_moved_3 n F_box_heap F_box_index (m0 + 1) p0 p1 p2 p3 p4 p5 p6 p7 p8 p9 p10 p11 = 
  bif decide (p11 < p10) then
    bif inB p11 (List.length p9) then
      Option.bind (p7 ((nth T_A3 p9 p11), ())) fun r2 =>
      Option.bind (F_box_index ((p0, (p1, (p2, ()))), r2.1, ())) fun r3 =>
      bif decide ((0 : Int) ≤ r3.1) then
        L_Heap_moved_3 n F_box_heap F_box_index m0 p0 p1 p2 p3 p4 p5 p6 p7 (intBits .or .u64 p8 (shlI .u64 1 r3.1)) p9 p10 (IntKind.wrap .i64 (p11 + 1))
      else none
    else none
  else
    Option.bind (F_box_heap ((p0, (p1, (p2, ()))), p8, ())) fun r1 =>
    some (r1.1, ()) := by kernel_rfl
noncomputable def P_Heap_moved : Ft_Heap_moved := hid (runF (X_Heap_moved N P_box_heap P_box_index) B_Heap_moved As_Heap_moved R_Heap_moved M_Heap_moved)
theorem h_Heap_moved : P_Heap_moved = runF (X_Heap_moved N P_box_heap P_box_index) B_Heap_moved As_Heap_moved R_Heap_moved M_Heap_moved := hid_eq _
noncomputable def C_Heap_moved : Contract := ⟨As_Heap_moved, R_Heap_moved, M_Heap_moved, P_Heap_moved⟩
theorem s_Heap_moved : Sound Tryz.prog GG 76 C_Heap_moved := by
  unfold C_Heap_moved; rw [h_Heap_moved]
  exact sound_of_run (fn := Tryz.f76) hmix hstable (tyOK_of ttOK) (hglob (X_Heap_moved N P_box_heap P_box_index)) (conOK_of (X := X_Heap_moved N P_box_heap P_box_index) ⟨s_box_heap, s_box_index, trivial⟩) (mconOK_of (X := X_Heap_moved N P_box_heap P_box_index) trivial) (by kernel_rfl) (by kernel_rfl) (by kernel_rfl) (by kernel_rfl) (by kernel_rfl) (of_decide_eq_true (by kernel_rfl))
noncomputable def l_Heap_moved_3 : Nat → Int → Int → Int → Int → Int → Int → (List D_A3) → ((D_A3 × Unit) → Option (D_A3 × Unit)) → Int → (List D_A3) → Int → Int → Option (denL R_Heap_moved) := hid (fun m0 p0 p1 p2 p3 p4 p5 p6 p7 p8 p9 p10 p11 => L_Heap_moved_3 N P_box_heap P_box_index m0 p0 p1 p2 p3 p4 p5 p6 p7 p8 p9 p10 p11)
theorem h_Heap_moved_3 : l_Heap_moved_3 = fun m0 p0 p1 p2 p3 p4 p5 p6 p7 p8 p9 p10 p11 => L_Heap_moved_3 N P_box_heap P_box_index m0 p0 p1 p2 p3 p4 p5 p6 p7 p8 p9 p10 p11 := hid_eq _
theorem p_Heap_moved (a0 : D_Heap) (a1 : D_A3) (a2 : (D_A3 × Unit) → Option (D_A3 × Unit)) : P_Heap_moved (a0, a1, a2, ()) = 
  l_Heap_moved_3 N a1.1 a1.2.1 a1.2.2.1 0 0 0 ([] : List D_A3) a2 0 a0.2.2.2.1 (List.length a0.2.2.2.1 : Int) 0 := by
  rewrite [h_Heap_moved, h_Heap_moved_3]
  exact e_Heap_moved N P_box_heap P_box_index a0 a1 a2
theorem q_Heap_moved_3 (m0 : Nat) (p0 : Int) (p1 : Int) (p2 : Int) (p3 : Int) (p4 : Int) (p5 : Int) (p6 : List D_A3) (p7 : (D_A3 × Unit) → Option (D_A3 × Unit)) (p8 : Int) (p9 : List D_A3) (p10 : Int) (p11 : Int) : l_Heap_moved_3 (m0 + 1) p0 p1 p2 p3 p4 p5 p6 p7 p8 p9 p10 p11 = 
  bif decide (p11 < p10) then
    bif inB p11 (List.length p9) then
      Option.bind (p7 ((nth T_A3 p9 p11), ())) fun r2 =>
      Option.bind (P_box_index ((p0, (p1, (p2, ()))), r2.1, ())) fun r3 =>
      bif decide ((0 : Int) ≤ r3.1) then
        l_Heap_moved_3 m0 p0 p1 p2 p3 p4 p5 p6 p7 (intBits .or .u64 p8 (shlI .u64 1 r3.1)) p9 p10 (IntKind.wrap .i64 (p11 + 1))
      else none
    else none
  else
    Option.bind (P_box_heap ((p0, (p1, (p2, ()))), p8, ())) fun r1 =>
    some (r1.1, ()) := by
  rewrite [h_Heap_moved_3]
  exact e_Heap_moved_3 N P_box_heap P_box_index m0 p0 p1 p2 p3 p4 p5 p6 p7 p8 p9 p10 p11

/- 78: (loop.example/g01166/impl.box).mirror -/
abbrev As_box_mirror : List ATy := [.data true T_A3, .data true T_A3, .data false (.int .i64)]
abbrev R_box_mirror : List (Bool × Ty) := [(true, T_A3)]
abbrev M_box_mirror : List RMode := []
abbrev Ft_box_mirror : Type := D_A3 × D_A3 × Int × Unit → Option (D_A3 × Unit)
noncomputable def X_box_mirror (n : Nat) : Ctx := { types := TT, globals := [], con := [], keep := [], results := [.cell 6 27], ntmps := 18, n := n }
noncomputable def B_box_mirror : Code := (Tryz.f78.body).getD .skip
theorem e_box_mirror (n : Nat) (a0 : D_A3) (a1 : D_A3) (a2 : Int) : runF (X_box_mirror n) B_box_mirror As_box_mirror R_box_mirror M_box_mirror (a0, a1, a2, ()) = 
  bif inB a2 3 then
    bif inB a2 3 then
      bif inB a2 3 then
        some (((bif decide (a2 = (0 : Int)) then (IntKind.wrap .i64 ((IntKind.wrap .i64 ((bif decide (a2 = (0 : Int)) then a0.1 else (bif decide (a2 = (1 : Int)) then a0.2.1 else a0.2.2.1)) - 1)) - (bif decide (a2 = (0 : Int)) then a1.1 else (bif decide (a2 = (1 : Int)) then a1.2.1 else a1.2.2.1)))) else a1.1), ((bif decide (a2 = (1 : Int)) then (IntKind.wrap .i64 ((IntKind.wrap .i64 ((bif decide (a2 = (0 : Int)) then a0.1 else (bif decide (a2 = (1 : Int)) then a0.2.1 else a0.2.2.1)) - 1)) - (bif decide (a2 = (0 : Int)) then a1.1 else (bif decide (a2 = (1 : Int)) then a1.2.1 else a1.2.2.1)))) else a1.2.1), ((bif decide (a2 = (2 : Int)) then (IntKind.wrap .i64 ((IntKind.wrap .i64 ((bif decide (a2 = (0 : Int)) then a0.1 else (bif decide (a2 = (1 : Int)) then a0.2.1 else a0.2.2.1)) - 1)) - (bif decide (a2 = (0 : Int)) then a1.1 else (bif decide (a2 = (1 : Int)) then a1.2.1 else a1.2.2.1)))) else a1.2.2.1), ()))), ())
      else none
    else none
  else none := by kernel_rfl
noncomputable def P_box_mirror : Ft_box_mirror := hid (runF (X_box_mirror N) B_box_mirror As_box_mirror R_box_mirror M_box_mirror)
theorem h_box_mirror : P_box_mirror = runF (X_box_mirror N) B_box_mirror As_box_mirror R_box_mirror M_box_mirror := hid_eq _
noncomputable def C_box_mirror : Contract := ⟨As_box_mirror, R_box_mirror, M_box_mirror, P_box_mirror⟩
theorem s_box_mirror : Sound Tryz.prog GG 78 C_box_mirror := by
  unfold C_box_mirror; rw [h_box_mirror]
  exact sound_of_run (fn := Tryz.f78) hmix hstable (tyOK_of ttOK) (hglob (X_box_mirror N)) (conOK_of (X := X_box_mirror N) trivial) (mconOK_of (X := X_box_mirror N) trivial) (by kernel_rfl) (by kernel_rfl) (by kernel_rfl) (by kernel_rfl) (by kernel_rfl) (of_decide_eq_true (by kernel_rfl))
theorem p_box_mirror (a0 : D_A3) (a1 : D_A3) (a2 : Int) : P_box_mirror (a0, a1, a2, ()) = 
  bif inB a2 3 then
    bif inB a2 3 then
      bif inB a2 3 then
        some (((bif decide (a2 = (0 : Int)) then (IntKind.wrap .i64 ((IntKind.wrap .i64 ((bif decide (a2 = (0 : Int)) then a0.1 else (bif decide (a2 = (1 : Int)) then a0.2.1 else a0.2.2.1)) - 1)) - (bif decide (a2 = (0 : Int)) then a1.1 else (bif decide (a2 = (1 : Int)) then a1.2.1 else a1.2.2.1)))) else a1.1), ((bif decide (a2 = (1 : Int)) then (IntKind.wrap .i64 ((IntKind.wrap .i64 ((bif decide (a2 = (0 : Int)) then a0.1 else (bif decide (a2 = (1 : Int)) then a0.2.1 else a0.2.2.1)) - 1)) - (bif decide (a2 = (0 : Int)) then a1.1 else (bif decide (a2 = (1 : Int)) then a1.2.1 else a1.2.2.1)))) else a1.2.1), ((bif decide (a2 = (2 : Int)) then (IntKind.wrap .i64 ((IntKind.wrap .i64 ((bif decide (a2 = (0 : Int)) then a0.1 else (bif decide (a2 = (1 : Int)) then a0.2.1 else a0.2.2.1)) - 1)) - (bif decide (a2 = (0 : Int)) then a1.1 else (bif decide (a2 = (1 : Int)) then a1.2.1 else a1.2.2.1)))) else a1.2.2.1), ()))), ())
      else none
    else none
  else none := by
  rewrite [h_box_mirror]
  exact e_box_mirror N a0 a1 a2

/- 77: loop.example/g01166/impl.MirrorHeap$1 -/
abbrev As_impl_MirrorHeap_1 : List ATy := [.data true T_A3, .ptr T_Heap, .ptr (.int .i64)]
abbrev R_impl_MirrorHeap_1 : List (Bool × Ty) := [(true, T_A3)]
abbrev M_impl_MirrorHeap_1 : List RMode := []
abbrev Ft_impl_MirrorHeap_1 : Type := D_A3 × D_Heap × Int × Unit → Option (D_A3 × Unit)
noncomputable def X_impl_MirrorHeap_1 (n : Nat) (F_Heap_box : Ft_Heap_box) (F_box_mirror : Ft_box_mirror) : Ctx := { types := TT, globals := [], con := [(63, ⟨As_Heap_box, R_Heap_box, M_Heap_box, F_Heap_box⟩), (78, ⟨As_box_mirror, R_box_mirror, M_box_mirror, F_box_mirror⟩)], keep := [], results := [.cell 4 27], ntmps := 10, n := n }
noncomputable def B_impl_MirrorHeap_1 : Code := (Tryz.f77.body).getD .skip
theorem e_impl_MirrorHeap_1 (n : Nat) (F_Heap_box : Ft_Heap_box) (F_box_mirror : Ft_box_mirror) (a0 : D_A3) (a1 : D_Heap) (a2 : Int) : runF (X_impl_MirrorHeap_1 n F_Heap_box F_box_mirror) B_impl_MirrorHeap_1 As_impl_MirrorHeap_1 R_impl_MirrorHeap_1 M_impl_MirrorHeap_1 (a0, a1, a2, ()) = 
  Option.bind (F_Heap_box (a1, ())) fun r0 =>
  Option.bind (F_box_mirror (r0.1, a0, a2, ())) fun r1 =>
  some (r1.1, ()) := by kernel_rfl
noncomputable def P_impl_MirrorHeap_1 : Ft_impl_MirrorHeap_1 := hid (runF (X_impl_MirrorHeap_1 N P_Heap_box P_box_mirror) B_impl_MirrorHeap_1 As_impl_MirrorHeap_1 R_impl_MirrorHeap_1 M_impl_MirrorHeap_1)
theorem h_impl_MirrorHeap_1 : P_impl_MirrorHeap_1 = runF (X_impl_MirrorHeap_1 N P_Heap_box P_box_mirror) B_impl_MirrorHeap_1 As_impl_MirrorHeap_1 R_impl_MirrorHeap_1 M_impl_MirrorHeap_1 := hid_eq _
noncomputable def C_impl_MirrorHeap_1 : Contract := ⟨As_impl_MirrorHeap_1, R_impl_MirrorHeap_1, M_impl_MirrorHeap_1, P_impl_MirrorHeap_1⟩
theorem s_impl_MirrorHeap_1 : Sound Tryz.prog GG 77 C_impl_MirrorHeap_1 := by
  unfold C_impl_MirrorHeap_1; rw [h_impl_MirrorHeap_1]
  exact sound_of_run (fn := Tryz.f77) hmix hstable (tyOK_of ttOK) (hglob (X_impl_MirrorHeap_1 N P_Heap_box P_box_mirror)) (conOK_of (X := X_impl_MirrorHeap_1 N P_Heap_box P_box_mirror) ⟨s_Heap_box, s_box_mirror, trivial⟩) (mconOK_of (X := X_impl_MirrorHeap_1 N P_Heap_box P_box_mirror) trivial) (by kernel_rfl) (by kernel_rfl) (by kernel_rfl) (by kernel_rfl) (by kernel_rfl) (of_decide_eq_true (by kernel_rfl))
theorem p_impl_MirrorHeap_1 (a0 : D_A3) (a1 : D_Heap) (a2 : Int) : P_impl_MirrorHeap_1 (a0, a1, a2, ()) = 
  Option.bind (P_Heap_box (a1, ())) fun r0 =>
  Option.bind (P_box_mirror (r0.1, a0, a2, ())) fun r1 =>
  some (r1.1, ()) := by
  rewrite [h_impl_MirrorHeap_1]
  exact e_impl_MirrorHeap_1 N P_Heap_box P_box_mirror a0 a1 a2

/- 45: loop.example/g01166/impl.MirrorHeap -/
abbrev As_impl_MirrorHeap : List ATy := [.data true T_Heap, .data false (.int .i64)]
abbrev R_impl_MirrorHeap : List (Bool × Ty) := [(true, T_Heap), (false, .bool)]
abbrev M_impl_MirrorHeap : List RMode := [.own 27]
abbrev Ft_impl_MirrorHeap : Type := D_Heap × Int × Unit → Option (D_Heap × Bool × Unit)
noncomputable def X_impl_MirrorHeap (n : Nat) (F_impl_IsHeap : Ft_impl_IsHeap) (F_Heap_box : Ft_Heap_box) (F_impl_isDirection : Ft_impl_isDirection) (F_Heap_moved : Ft_Heap_moved) (F_impl_MirrorHeap_1 : Ft_impl_MirrorHeap_1) : Ctx := { types := TT, globals := [], con := [(39, ⟨As_impl_IsHeap, R_impl_IsHeap, M_impl_IsHeap, F_impl_IsHeap⟩), (63, ⟨As_Heap_box, R_Heap_box, M_Heap_box, F_Heap_box⟩), (75, ⟨As_impl_isDirection, R_impl_isDirection, M_impl_isDirection, F_impl_isDirection⟩), (76, ⟨As_Heap_moved, R_Heap_moved, M_Heap_moved, F_Heap_moved⟩), (77, ⟨As_impl_MirrorHeap_1, R_impl_MirrorHeap_1, M_impl_MirrorHeap_1, F_impl_MirrorHeap_1⟩)], keep := [], results := [.cell 4 31, .tmp 5], ntmps := 20, n := n }
noncomputable def B_impl_MirrorHeap : Code := (Tryz.f45.body).getD .skip
theorem e_impl_MirrorHeap (n : Nat) (F_impl_IsHeap : Ft_impl_IsHeap) (F_Heap_box : Ft_Heap_box) (F_impl_isDirection : Ft_impl_isDirection) (F_Heap_moved : Ft_Heap_moved) (F_impl_MirrorHeap_1 : Ft_impl_MirrorHeap_1) (a0 : D_Heap) (a1 : Int) : runF (X_impl_MirrorHeap n F_impl_IsHeap F_Heap_box F_impl_isDirection F_Heap_moved F_impl_MirrorHeap_1) B_impl_MirrorHeap As_impl_MirrorHeap R_impl_MirrorHeap M_impl_MirrorHeap (a0, a1, ()) = 
  Option.bind (F_impl_IsHeap (a0, ())) fun r0 =>
  bif !r0.1 then
    some ((0, (0, (0, (([] : List D_A3), ())))), false, ())
  else
    Option.bind (F_impl_isDirection (a1, ())) fun r2 =>
    bif !r2.1 then
      some ((0, (0, (0, (([] : List D_A3), ())))), false, ())
    else
      Option.bind (F_Heap_box (a0, ())) fun r4 =>
      Option.bind (F_Heap_moved (a0, r4.1, (fun (y : D_A3 × Unit) => F_impl_MirrorHeap_1 (y.1, a0, a1, ())), ())) fun r5 =>
      some (r5.1, true, ()) := by kernel_rfl
noncomputable def P_impl_MirrorHeap : Ft_impl_MirrorHeap := hid (runF (X_impl_MirrorHeap N P_impl_IsHeap P_Heap_box P_impl_isDirection P_Heap_moved P_impl_MirrorHeap_1) B_impl_MirrorHeap As_impl_MirrorHeap R_impl_MirrorHeap M_impl_MirrorHeap)
theorem h_impl_MirrorHeap : P_impl_MirrorHeap = runF (X_impl_MirrorHeap N P_impl_IsHeap P_Heap_box P_impl_isDirection P_Heap_moved P_impl_MirrorHeap_1) B_impl_MirrorHeap As_impl_MirrorHeap R_impl_MirrorHeap M_impl_MirrorHeap := hid_eq _
noncomputable def C_impl_MirrorHeap : Contract := ⟨As_impl_MirrorHeap, R_impl_MirrorHeap, M_impl_MirrorHeap, P_impl_MirrorHeap⟩
theorem s_impl_MirrorHeap : Sound Tryz.prog GG 45 C_impl_MirrorHeap := by
  unfold C_impl_MirrorHeap; rw [h_impl_MirrorHeap]
  exact sound_of_run (fn := Tryz.f45) hmix hstable (tyOK_of ttOK) (hglob (X_impl_MirrorHeap N P_impl_IsHeap P_Heap_box P_impl_isDirection P_Heap_moved P_impl_MirrorHeap_1)) (conOK_of (X := X_impl_MirrorHeap N P_impl_IsHeap P_Heap_box P_impl_isDirection P_Heap_moved P_impl_MirrorHeap_1) ⟨s_impl_IsHeap, s_Heap_box, s_impl_isDirection, s_Heap_moved, s_impl_MirrorHeap_1, trivial⟩) (mconOK_of (X := X_impl_MirrorHeap N P_impl_IsHeap P_Heap_box P_impl_isDirection P_Heap_moved P_impl_MirrorHeap_1) trivial) (by kernel_rfl) (by kernel_rfl) (by kernel_rfl) (by kernel_rfl) (by kernel_rfl) (of_decide_eq_true (by kernel_rfl))
theorem p_impl_MirrorHeap (a0 : D_Heap) (a1 : Int) : P_impl_MirrorHeap (a0, a1, ()) = 
  Option.bind (P_impl_IsHeap (a0, ())) fun r0 =>
  bif !r0.1 then
    some ((0, (0, (0, (([] : List D_A3), ())))), false, ())
  else
    Option.bind (P_impl_isDirection (a1, ())) fun r2 =>
    bif !r2.1 then
      some ((0, (0, (0, (([] : List D_A3), ())))), false, ())
    else
      Option.bind (P_Heap_box (a0, ())) fun r4 =>
      Option.bind (P_Heap_moved (a0, r4.1, (fun (y : D_A3 × Unit) => P_impl_MirrorHeap_1 (y.1, a0, a1, ())), ())) fun r5 =>
      some (r5.1, true, ()) := by
  rewrite [h_impl_MirrorHeap]
  exact e_impl_MirrorHeap N P_impl_IsHeap P_Heap_box P_impl_isDirection P_Heap_moved P_impl_MirrorHeap_1 a0 a1

/- 79: loop.example/g01166/impl.SwapSides$1 -/
abbrev As_impl_SwapSides_1 : List ATy := [.data true T_A3, .ptr (.int .i64), .ptr (.int .i64)]
abbrev R_impl_SwapSides_1 : List (Bool × Ty) := [(true, T_A3)]
abbrev M_impl_SwapSides_1 : List RMode := []
abbrev Ft_impl_SwapSides_1 : Type := D_A3 × Int × Int × Unit → Option (D_A3 × Unit)
noncomputable def X_impl_SwapSides_1 (n : Nat) : Ctx := { types := TT, globals := [], con := [], keep := [], results := [.cell 4 27], ntmps := 16, n := n }
noncomputable def B_impl_SwapSides_1 : Code := (Tryz.f79.body).getD .skip
theorem e_impl_SwapSides_1 (n : Nat) (a0 : D_A3) (a1 : Int) (a2 : Int) : runF (X_impl_SwapSides_1 n) B_impl_SwapSides_1 As_impl_SwapSides_1 R_impl_SwapSides_1 M_impl_SwapSides_1 (a0, a1, a2, ()) = 
  bif inB a1 3 then
    bif inB a2 3 then
      bif inB a2 3 then
        bif inB a1 3 then
          some (((bif decide (a1 = (0 : Int)) then (bif decide (a2 = (0 : Int)) then a0.1 else (bif decide (a2 = (1 : Int)) then a0.2.1 else a0.2.2.1)) else (bif decide (a2 = (0 : Int)) then (bif decide (a1 = (0 : Int)) then a0.1 else (bif decide (a1 = (1 : Int)) then a0.2.1 else a0.2.2.1)) else a0.1)), ((bif decide (a1 = (1 : Int)) then (bif decide (a2 = (0 : Int)) then a0.1 else (bif decide (a2 = (1 : Int)) then a0.2.1 else a0.2.2.1)) else (bif decide (a2 = (1 : Int)) then (bif decide (a1 = (0 : Int)) then a0.1 else (bif decide (a1 = (1 : Int)) then a0.2.1 else a0.2.2.1)) else a0.2.1)), ((bif decide (a1 = (2 : Int)) then (bif decide (a2 = (0 : Int)) then a0.1 else (bif decide (a2 = (1 : Int)) then a0.2.1 else a0.2.2.1)) else (bif decide (a2 = (2 : Int)) then (bif decide (a1 = (0 : Int)) then a0.1 else (bif decide (a1 = (1 : Int)) then a0.2.1 else a0.2.2.1)) else a0.2.2.1)), ()))), ())
        else none
      else none
    else none
  else none := by kernel_rfl
noncomputable def P_impl_SwapSides_1 : Ft_impl_SwapSides_1 := hid (runF (X_impl_SwapSides_1 N) B_impl_SwapSides_1 As_impl_SwapSides_1 R_impl_SwapSides_1 M_impl_SwapSides_1)
theorem h_impl_SwapSides_1 : P_impl_SwapSides_1 = runF (X_impl_SwapSides_1 N) B_impl_SwapSides_1 As_impl_SwapSides_1 R_impl_SwapSides_1 M_impl_SwapSides_1 := hid_eq _
noncomputable def C_impl_SwapSides_1 : Contract := ⟨As_impl_SwapSides_1, R_impl_SwapSides_1, M_impl_SwapSides_1, P_impl_SwapSides_1⟩
theorem s_impl_SwapSides_1 : Sound Tryz.prog GG 79 C_impl_SwapSides_1 := by
  unfold C_impl_SwapSides_1; rw [h_impl_SwapSides_1]
  exact sound_of_run (fn := Tryz.f79) hmix hstable (tyOK_of ttOK) (hglob (X_impl_SwapSides_1 N)) (conOK_of (X := X_impl_SwapSides_1 N) trivial) (mconOK_of (X := X_impl_SwapSides_1 N) trivial) (by kernel_rfl) (by kernel_rfl) (by kernel_rfl) (by kernel_rfl) (by kernel_rfl) (of_decide_eq_true (by kernel_rfl))
theorem p_impl_SwapSides_1 (a0 : D_A3) (a1 : Int) (a2 : Int) : P_impl_SwapSides_1 (a0, a1, a2, ()) = 
  bif inB a1 3 then
    bif inB a2 3 then
      bif inB a2 3 then
        bif inB a1 3 then
          some (((bif decide (a1 = (0 : Int)) then (bif decide (a2 = (0 : Int)) then a0.1 else (bif decide (a2 = (1 : Int)) then a0.2.1 else a0.2.2.1)) else (bif decide (a2 = (0 : Int)) then (bif decide (a1 = (0 : Int)) then a0.1 else (bif decide (a1 = (1 : Int)) then a0.2.1 else a0.2.2.1)) else a0.1)), ((bif decide (a1 = (1 : Int)) then (bif decide (a2 = (0 : Int)) then a0.1 else (bif decide (a2 = (1 : Int)) then a0.2.1 else a0.2.2.1)) else (bif decide (a2 = (1 : Int)) then (bif decide (a1 = (0 : Int)) then a0.1 else (bif decide (a1 = (1 : Int)) then a0.2.1 else a0.2.2.1)) else a0.2.1)), ((bif decide (a1 = (2 : Int)) then (bif decide (a2 = (0 : Int)) then a0.1 else (bif decide (a2 = (1 : Int)) then a0.2.1 else a0.2.2.1)) else (bif decide (a2 = (2 : Int)) then (bif decide (a1 = (0 : Int)) then a0.1 else (bif decide (a1 = (1 : Int)) then a0.2.1 else a0.2.2.1)) else a0.2.2.1)), ()))), ())
        else none
      else none
    else none
  else none := by
  rewrite [h_impl_SwapSides_1]
  exact e_impl_SwapSides_1 N a0 a1 a2

/- 46: loop.example/g01166/impl.SwapSides -/
abbrev As_impl_SwapSides : List ATy := [.data true T_Heap, .data false (.int .i64), .data false (.int .i64)]
abbrev R_impl_SwapSides : List (Bool × Ty) := [(true, T_Heap), (false, .bool)]
abbrev M_impl_SwapSides : List RMode := [.own 27]
abbrev Ft_impl_SwapSides : Type := D_Heap × Int × Int × Unit → Option (D_Heap × Bool × Unit)
noncomputable def X_impl_SwapSides (n : Nat) (F_impl_IsHeap : Ft_impl_IsHeap) (F_Heap_box : Ft_Heap_box) (F_impl_isDirection : Ft_impl_isDirection) (F_Heap_moved : Ft_Heap_moved) (F_impl_SwapSides_1 : Ft_impl_SwapSides_1) : Ctx := { types := TT, globals := [], con := [(39, ⟨As_impl_IsHeap, R_impl_IsHeap, M_impl_IsHeap, F_impl_IsHeap⟩), (63, ⟨As_Heap_box, R_Heap_box, M_Heap_box, F_Heap_box⟩), (75, ⟨As_impl_isDirection, R_impl_isDirection, M_impl_isDirection, F_impl_isDirection⟩), (76, ⟨As_Heap_moved, R_Heap_moved, M_Heap_moved, F_Heap_moved⟩), (79, ⟨As_impl_SwapSides_1, R_impl_SwapSides_1, M_impl_SwapSides_1, F_impl_SwapSides_1⟩)], keep := [], results := [.cell 6 31, .tmp 7], ntmps := 39, n := n }
noncomputable def B_impl_SwapSides : Code := (Tryz.f46.body).getD .skip
theorem e_impl_SwapSides (n : Nat) (F_impl_IsHeap : Ft_impl_IsHeap) (F_Heap_box : Ft_Heap_box) (F_impl_isDirection : Ft_impl_isDirection) (F_Heap_moved : Ft_Heap_moved) (F_impl_SwapSides_1 : Ft_impl_SwapSides_1) (a0 : D_Heap) (a1 : Int) (a2 : Int) : runF (X_impl_SwapSides n F_impl_IsHeap F_Heap_box F_impl_isDirection F_Heap_moved F_impl_SwapSides_1) B_impl_SwapSides As_impl_SwapSides R_impl_SwapSides M_impl_SwapSides (a0, a1, a2, ()) = 
  Option.bind (F_impl_IsHeap (a0, ())) fun r0 =>
  bif !r0.1 then
    some ((0, (0, (0, (([] : List D_A3), ())))), false, ())
  else
    Option.bind (F_impl_isDirection (a1, ())) fun r2 =>
    bif !r2.1 then
      some ((0, (0, (0, (([] : List D_A3), ())))), false, ())
    else
      Option.bind (F_impl_isDirection (a2, ())) fun r4 =>
      bif !r4.1 then
        some ((0, (0, (0, (([] : List D_A3), ())))), false, ())
      else
        Option.bind (F_Heap_box (a0, ())) fun r6 =>
        bif inB a2 3 then
          bif inB a1 3 then
            bif inB a1 3 then
              bif inB a2 3 then
                Option.bind (F_Heap_moved (a0, ((bif decide (a2 = (0 : Int)) then (bif decide (a1 = (0 : Int)) then r6.1.1 else (bif decide (a1 = (1 : Int)) then r6.1.2.1 else r6.1.2.2.1)) else (bif decide (a1 = (0 : Int)) then (bif decide (a2 = (0 : Int)) then r6.1.1 else (bif decide (a2 = (1 : Int)) then r6.1.2.1 else r6.1.2.2.1)) else r6.1.1)), ((bif decide (a2 = (1 : Int)) then (bif decide (a1 = (0 : Int)) then r6.1.1 else (bif decide (a1 = (1 : Int)) then r6.1.2.1 else r6.1.2.2.1)) else (bif decide (a1 = (1 : Int)) then (bif decide (a2 = (0 : Int)) then r6.1.1 else (bif decide (a2 = (1 : Int)) then r6.1.2.1 else r6.1.2.2.1)) else r6.1.2.1)), ((bif decide (a2 = (2 : Int)) then (bif decide (a1 = (0 : Int)) then r6.1.1 else (bif decide (a1 = (1 : Int)) then r6.1.2.1 else r6.1.2.2.1)) else (bif decide (a1 = (2 : Int)) then (bif decide (a2 = (0 : Int)) then r6.1.1 else (bif decide (a2 = (1 : Int)) then r6.1.2.1 else r6.1.2.2.1)) else r6.1.2.2.1)), ()))), (fun (y : D_A3 × Unit) => F_impl_SwapSides_1 (y.1, a2, a1, ())), ())) fun r11 =>
                some (r11.1, true, ())
              else none
            else none
          else none
        else none := by kernel_rfl
noncomputable def P_impl_SwapSides : Ft_impl_SwapSides := hid (runF (X_impl_SwapSides N P_impl_IsHeap P_Heap_box P_impl_isDirection P_Heap_moved P_impl_SwapSides_1) B_impl_SwapSides As_impl_SwapSides R_impl_SwapSides M_impl_SwapSides)
theorem h_impl_SwapSides : P_impl_SwapSides = runF (X_impl_SwapSides N P_impl_IsHeap P_Heap_box P_impl_isDirection P_Heap_moved P_impl_SwapSides_1) B_impl_SwapSides As_impl_SwapSides R_impl_SwapSides M_impl_SwapSides := hid_eq _
noncomputable def C_impl_SwapSides : Contract := ⟨As_impl_SwapSides, R_impl_SwapSides, M_impl_SwapSides, P_impl_SwapSides⟩
theorem s_impl_SwapSides : Sound Tryz.prog GG 46 C_impl_SwapSides := by
  unfold C_impl_SwapSides; rw [h_impl_SwapSides]
  exact sound_of_run (fn := Tryz.f46) hmix hstable (tyOK_of ttOK) (hglob (X_impl_SwapSides N P_impl_IsHeap P_Heap_box P_impl_isDirection P_Heap_moved P_impl_SwapSides_1)) (conOK_of (X := X_impl_SwapSides N P_impl_IsHeap P_Heap_box P_impl_isDirection P_Heap_moved P_impl_SwapSides_1) ⟨s_impl_IsHeap, s_Heap_box, s_impl_isDirection, s_Heap_moved, s_impl_SwapSides_1, trivial⟩) (mconOK_of (X := X_impl_SwapSides N P_impl_IsHeap P_Heap_box P_impl_isDirection P_Heap_moved P_impl_SwapSides_1) trivial) (by kernel_rfl) (by kernel_rfl) (by kernel_rfl) (by kernel_rfl) (by kernel_rfl) (of_decide_eq_true (by kernel_rfl))
theorem p_impl_SwapSides (a0 : D_Heap) (a1 : Int) (a2 : Int) : P_impl_SwapSides (a0, a1, a2, ()) = 
  Option.bind (P_impl_IsHeap (a0, ())) fun r0 =>
  bif !r0.1 then
    some ((0, (0, (0, (([] : List D_A3), ())))), false, ())
  else
    Option.bind (P_impl_isDirection (a1, ())) fun r2 =>
    bif !r2.1 then
      some ((0, (0, (0, (([] : List D_A3), ())))), false, ())
    else
      Option.bind (P_impl_isDirection (a2, ())) fun r4 =>
      bif !r4.1 then
        some ((0, (0, (0, (([] : List D_A3), ())))), false, ())
      else
        Option.bind (P_Heap_box (a0, ())) fun r6 =>
        bif inB a2 3 then
          bif inB a1 3 then
            bif inB a1 3 then
              bif inB a2 3 then
                Option.bind (P_Heap_moved (a0, ((bif decide (a2 = (0 : Int)) then (bif decide (a1 = (0 : Int)) then r6.1.1 else (bif decide (a1 = (1 : Int)) then r6.1.2.1 else r6.1.2.2.1)) else (bif decide (a1 = (0 : Int)) then (bif decide (a2 = (0 : Int)) then r6.1.1 else (bif decide (a2 = (1 : Int)) then r6.1.2.1 else r6.1.2.2.1)) else r6.1.1)), ((bif decide (a2 = (1 : Int)) then (bif decide (a1 = (0 : Int)) then r6.1.1 else (bif decide (a1 = (1 : Int)) then r6.1.2.1 else r6.1.2.2.1)) else (bif decide (a1 = (1 : Int)) then (bif decide (a2 = (0 : Int)) then r6.1.1 else (bif decide (a2 = (1 : Int)) then r6.1.2.1 else r6.1.2.2.1)) else r6.1.2.1)), ((bif decide (a2 = (2 : Int)) then (bif decide (a1 = (0 : Int)) then r6.1.1 else (bif decide (a1 = (1 : Int)) then r6.1.2.1 else r6.1.2.2.1)) else (bif decide (a1 = (2 : Int)) then (bif decide (a2 = (0 : Int)) then r6.1.1 else (bif decide (a2 = (1 : Int)) then r6.1.2.1 else r6.1.2.2.1)) else r6.1.2.2.1)), ()))), (fun (y : D_A3 × Unit) => P_impl_SwapSides_1 (y.1, a2, a1, ())), ())) fun r11 =>
                some (r11.1, true, ())
              else none
            else none
          else none
        else none := by
  rewrite [h_impl_SwapSides]
  exact e_impl_SwapSides N P_impl_IsHeap P_Heap_box P_impl_isDirection P_Heap_moved P_impl_SwapSides_1 a0 a1 a2

/- 80: (loop.example/g01166/impl.box).full -/
abbrev As_box_full : List ATy := [.data true T_A3]
abbrev R_box_full : List (Bool × Ty) := [(false, (.int .u64))]
abbrev M_box_full : List RMode := []
abbrev Ft_box_full : Type := D_A3 × Unit → Option (Int × Unit)
noncomputable def X_box_full (n : Nat) (F_box_size : Ft_box_size) : Ctx := { types := TT, globals := [], con := [(98, ⟨As_box_size, R_box_size, M_box_size, F_box_size⟩)], keep := [], results := [.tmp 2], ntmps := 7, n := n }
noncomputable def B_box_full : Code := (Tryz.f80.body).getD .skip
theorem e_box_full (n : Nat) (F_box_size : Ft_box_size) (a0 : D_A3) : runF (X_box_full n F_box_size) B_box_full As_box_full R_box_full M_box_full (a0, ()) = 
  Option.bind (F_box_size (a0, ())) fun r0 =>
  bif decide ((0 : Int) ≤ r0.1) then
    some ((IntKind.wrap .u64 ((shlI .u64 1 r0.1) - 1)), ())
  else none := by kernel_rfl
noncomputable def P_box_full : Ft_box_full := hid (runF (X_box_full N P_box_size) B_box_full As_box_full R_box_full M_box_full)
theorem h_box_full : P_box_full = runF (X_box_full N P_box_size) B_box_full As_box_full R_box_full M_box_full := hid_eq _
noncomputable def C_box_full : Contract := ⟨As_box_full, R_box_full, M_box_full, P_box_full⟩
theorem s_box_full : Sound Tryz.prog GG 80 C_box_full := by
  unfold C_box_full; rw [h_box_full]
  exact sound_of_run (fn := Tryz.f80) hmix hstable (tyOK_of ttOK) (hglob (X_box_full N P_box_size)) (conOK_of (X := X_box_full N P_box_size) ⟨s_box_size, trivial⟩) (mconOK_of (X := X_box_full N P_box_size) trivial) (by kernel_rfl) (by kernel_rfl) (by kernel_rfl) (by kernel_rfl) (by kernel_rfl) (of_decide_eq_true (by kernel_rfl))
theorem p_box_full (a0 : D_A3) : P_box_full (a0, ()) = 
  Option.bind (P_box_size (a0, ())) fun r0 =>
  bif decide ((0 : Int) ≤ r0.1) then
    some ((IntKind.wrap .u64 ((shlI .u64 1 r0.1) - 1)), ())
  else none := by
  rewrite [h_box_full]
  exact e_box_full N P_box_size a0

/- 47: loop.example/g01166/impl.OtherCells -/
abbrev As_impl_OtherCells : List ATy := [.data true T_Heap]
abbrev R_impl_OtherCells : List (Bool × Ty) := [(true, T_Heap), (false, .bool)]
abbrev M_impl_OtherCells : List RMode := [.own 27]
abbrev Ft_impl_OtherCells : Type := D_Heap × Unit → Option (D_Heap × Bool × Unit)
noncomputable def X_impl_OtherCells (n : Nat) (F_impl_IsHeap : Ft_impl_IsHeap) (F_Heap_box : Ft_Heap_box) (F_box_heap : Ft_box_heap) (F_Heap_cubes : Ft_Heap_cubes) (F_box_full : Ft_box_full) : Ctx := { types := TT, globals := [], con := [(39, ⟨As_impl_IsHeap, R_impl_IsHeap, M_impl_IsHeap, F_impl_IsHeap⟩), (63, ⟨As_Heap_box, R_Heap_box, M_Heap_box, F_Heap_box⟩), (69, ⟨As_box_heap, R_box_heap, M_box_heap, F_box_heap⟩), (70, ⟨As_Heap_cubes, R_Heap_cubes, M_Heap_cubes, F_Heap_cubes⟩), (80, ⟨As_box_full, R_box_full, M_box_full, F_box_full⟩)], keep := [], results := [.cell 2 31, .tmp 3], ntmps := 17, n := n }
noncomputable def B_impl_OtherCells : Code := (Tryz.f47.body).getD .skip
theorem e_impl_OtherCells (n : Nat) (F_impl_IsHeap : Ft_impl_IsHeap) (F_Heap_box : Ft_Heap_box) (F_box_heap : Ft_box_heap) (F_Heap_cubes : Ft_Heap_cubes) (F_box_full : Ft_box_full) (a0 : D_Heap) : runF (X_impl_OtherCells n F_impl_IsHeap F_Heap_box F_box_heap F_Heap_cubes F_box_full) B_impl_OtherCells As_impl_OtherCells R_impl_OtherCells M_impl_OtherCells (a0, ()) = 
  Option.bind (F_impl_IsHeap (a0, ())) fun r0 =>
  bif !r0.1 then
    some ((0, (0, (0, (([] : List D_A3), ())))), false, ())
  else
    Option.bind (F_Heap_box (a0, ())) fun r2 =>
    Option.bind (F_Heap_box (a0, ())) fun r3 =>
    Option.bind (F_box_full (r3.1, ())) fun r4 =>
    Option.bind (F_Heap_cubes (a0, ())) fun r5 =>
    Option.bind (F_box_heap (r2.1, (intBits .andNot .u64 r4.1 r5.1), ())) fun r6 =>
    some (r6.1, true, ()) := by kernel_rfl
noncomputable def P_impl_OtherCells : Ft_impl_OtherCells := hid (runF (X_impl_OtherCells N P_impl_IsHeap P_Heap_box P_box_heap P_Heap_cubes P_box_full) B_impl_OtherCells As_impl_OtherCells R_impl_OtherCells M_impl_OtherCells)
theorem h_impl_OtherCells : P_impl_OtherCells = runF (X_impl_OtherCells N P_impl_IsHeap P_Heap_box P_box_heap P_Heap_cubes P_box_full) B_impl_OtherCells As_impl_OtherCells R_impl_OtherCells M_impl_OtherCells := hid_eq _
noncomputable def C_impl_OtherCells : Contract := ⟨As_impl_OtherCells, R_impl_OtherCells, M_impl_OtherCells, P_impl_OtherCells⟩
theorem s_impl_OtherCells : Sound Tryz.prog GG 47 C_impl_OtherCells := by
  unfold C_impl_OtherCells; rw [h_impl_OtherCells]
  exact sound_of_run (fn := Tryz.f47) hmix hstable (tyOK_of ttOK) (hglob (X_impl_OtherCells N P_impl_IsHeap P_Heap_box P_box_heap P_Heap_cubes P_box_full)) (conOK_of (X := X_impl_OtherCells N P_impl_IsHeap P_Heap_box P_box_heap P_Heap_cubes P_box_full) ⟨s_impl_IsHeap, s_Heap_box, s_box_heap, s_Heap_cubes, s_box_full, trivial⟩) (mconOK_of (X := X_impl_OtherCells N P_impl_IsHeap P_Heap_box P_box_heap P_Heap_cubes P_box_full) trivial) (by kernel_rfl) (by kernel_rfl) (by kernel_rfl) (by kernel_rfl) (by kernel_rfl) (of_decide_eq_true (by kernel_rfl))
theorem p_impl_OtherCells (a0 : D_Heap) : P_impl_OtherCells (a0, ()) = 
  Option.bind (P_impl_IsHeap (a0, ())) fun r0 =>
  bif !r0.1 then
    some ((0, (0, (0, (([] : List D_A3), ())))), false, ())
  else
    Option.bind (P_Heap_box (a0, ())) fun r2 =>
    Option.bind (P_Heap_box (a0, ())) fun r3 =>
    Option.bind (P_box_full (r3.1, ())) fun r4 =>
    Option.bind (P_Heap_cubes (a0, ())) fun r5 =>
    Option.bind (P_box_heap (r2.1, (intBits .andNot .u64 r4.1 r5.1), ())) fun r6 =>
    some (r6.1, true, ()) := by
  rewrite [h_impl_OtherCells]
  exact e_impl_OtherCells N P_impl_IsHeap P_Heap_box P_box_heap P_Heap_cubes P_box_full a0

/- 25: (loop.example/g01166/impl.Act).act -/
abbrev As_Act_act : List ATy := [.data true T_Act, .data true T_Heap]
abbrev R_Act_act : List (Bool × Ty) := [(true, T_Heap), (false, .bool)]
abbrev M_Act_act : List RMode := [.own 27]
abbrev Ft_Act_act : Type := D_Act × D_Heap × Unit → Option (D_Heap × Bool × Unit)
noncomputable def X_Act_act (n : Nat) (F_impl_PutCube : Ft_impl_PutCube) (F_impl_TakeCube : Ft_impl_TakeCube) (F_impl_DropHeap : Ft_impl_DropHeap) (F_impl_SinkHeap : Ft_impl_SinkHeap) (F_impl_MirrorHeap : Ft_impl_MirrorHeap) (F_impl_SwapSides : Ft_impl_SwapSides) (F_impl_OtherCells : Ft_impl_OtherCells) : Ctx := { types := TT, globals := [], con := [(41, ⟨As_impl_PutCube, R_impl_PutCube, M_impl_PutCube, F_impl_PutCube⟩), (42, ⟨As_impl_TakeCube, R_impl_TakeCube, M_impl_TakeCube, F_impl_TakeCube⟩), (43, ⟨As_impl_DropHeap, R_impl_DropHeap, M_impl_DropHeap, F_impl_DropHeap⟩), (44, ⟨As_impl_SinkHeap, R_impl_SinkHeap, M_impl_SinkHeap, F_impl_SinkHeap⟩), (45, ⟨As_impl_MirrorHeap, R_impl_MirrorHeap, M_impl_MirrorHeap, F_impl_MirrorHeap⟩), (46, ⟨As_impl_SwapSides, R_impl_SwapSides, M_impl_SwapSides, F_impl_SwapSides⟩), (47, ⟨As_impl_OtherCells, R_impl_OtherCells, M_impl_OtherCells, F_impl_OtherCells⟩)], keep := [], results := [.cell 4 31, .tmp 5], ntmps := 148, n := n }
noncomputable def B_Act_act : Code := (Tryz.f25.body).getD .skip
theorem e_Act_act (n : Nat) (F_impl_PutCube : Ft_impl_PutCube) (F_impl_TakeCube : Ft_impl_TakeCube) (F_impl_DropHeap : Ft_impl_DropHeap) (F_impl_SinkHeap : Ft_impl_SinkHeap) (F_impl_MirrorHeap : Ft_impl_MirrorHeap) (F_impl_SwapSides : Ft_impl_SwapSides) (F_impl_OtherCells : Ft_impl_OtherCells) (a0 : D_Act) (a1 : D_Heap) : runF (X_Act_act n F_impl_PutCube F_impl_TakeCube F_impl_DropHeap F_impl_SinkHeap F_impl_MirrorHeap F_impl_SwapSides F_impl_OtherCells) B_Act_act As_Act_act R_Act_act M_Act_act (a0, a1, ()) = 
  bif decide (a0.1 = 1) then
    Option.bind (F_impl_PutCube (a1, a0.2.1, ())) fun r1 =>
    bif r1.2.1 then
      bif decide (a0.2.2.1 = 0) then
        some (r1.1, decide (a0.2.2.2.1 = 0), ())
      else
        some (r1.1, false, ())
    else
      some (r1.1, false, ())
  else
    bif decide (a0.1 = 2) then
      Option.bind (F_impl_TakeCube (a1, a0.2.1, ())) fun r2 =>
      bif r2.2.1 then
        bif decide (a0.2.2.1 = 0) then
          some (r2.1, decide (a0.2.2.2.1 = 0), ())
        else
          some (r2.1, false, ())
      else
        some (r2.1, false, ())
    else
      bif decide (a0.1 = 3) then
        Option.bind (F_impl_DropHeap (a1, ())) fun r3 =>
        bif r3.2.1 then
          bif (decide (a0.2.1.1 = 0) && (decide (a0.2.1.2.1 = 0) && (decide (a0.2.1.2.2.1 = 0) && true))) then
            bif decide (a0.2.2.1 = 0) then
              some (r3.1, decide (a0.2.2.2.1 = 0), ())
            else
              some (r3.1, false, ())
          else
            some (r3.1, false, ())
        else
          some (r3.1, false, ())
      else
        bif decide (a0.1 = 4) then
          Option.bind (F_impl_SinkHeap (a1, ())) fun r4 =>
          bif r4.2.2.1 then
            bif (decide (a0.2.1.1 = 0) && (decide (a0.2.1.2.1 = 0) && (decide (a0.2.1.2.2.1 = 0) && true))) then
              bif decide (a0.2.2.1 = 0) then
                some (r4.1, decide (a0.2.2.2.1 = 0), ())
              else
                some (r4.1, false, ())
            else
              some (r4.1, false, ())
          else
            some (r4.1, false, ())
        else
          bif decide (a0.1 = 5) then
            Option.bind (F_impl_MirrorHeap (a1, a0.2.2.1, ())) fun r5 =>
            bif r5.2.1 then
              bif (decide (a0.2.1.1 = 0) && (decide (a0.2.1.2.1 = 0) && (decide (a0.2.1.2.2.1 = 0) && true))) then
                some (r5.1, decide (a0.2.2.2.1 = 0), ())
              else
                some (r5.1, false, ())
            else
              some (r5.1, false, ())
          else
            bif decide (a0.1 = 6) then
              Option.bind (F_impl_SwapSides (a1, a0.2.2.1, a0.2.2.2.1, ())) fun r6 =>
              bif r6.2.1 then
                some (r6.1, (decide (a0.2.1.1 = 0) && (decide (a0.2.1.2.1 = 0) && (decide (a0.2.1.2.2.1 = 0) && true))), ())
              else
                some (r6.1, false, ())
            else
              bif decide (a0.1 = 7) then
                Option.bind (F_impl_OtherCells (a1, ())) fun r7 =>
                bif r7.2.1 then
                  bif (decide (a0.2.1.1 = 0) && (decide (a0.2.1.2.1 = 0) && (decide (a0.2.1.2.2.1 = 0) && true))) then
                    bif decide (a0.2.2.1 = 0) then
                      some (r7.1, decide (a0.2.2.2.1 = 0), ())
                    else
                      some (r7.1, false, ())
                  else
                    some (r7.1, false, ())
                else
                  some (r7.1, false, ())
              else
                some ((0, (0, (0, (([] : List D_A3), ())))), false, ()) := by kernel_rfl
noncomputable def P_Act_act : Ft_Act_act := hid (runF (X_Act_act N P_impl_PutCube P_impl_TakeCube P_impl_DropHeap P_impl_SinkHeap P_impl_MirrorHeap P_impl_SwapSides P_impl_OtherCells) B_Act_act As_Act_act R_Act_act M_Act_act)
theorem h_Act_act : P_Act_act = runF (X_Act_act N P_impl_PutCube P_impl_TakeCube P_impl_DropHeap P_impl_SinkHeap P_impl_MirrorHeap P_impl_SwapSides P_impl_OtherCells) B_Act_act As_Act_act R_Act_act M_Act_act := hid_eq _
noncomputable def C_Act_act : Contract := ⟨As_Act_act, R_Act_act, M_Act_act, P_Act_act⟩
theorem s_Act_act : Sound Tryz.prog GG 25 C_Act_act := by
  unfold C_Act_act; rw [h_Act_act]
  exact sound_of_run (fn := Tryz.f25) hmix hstable (tyOK_of ttOK) (hglob (X_Act_act N P_impl_PutCube P_impl_TakeCube P_impl_DropHeap P_impl_SinkHeap P_impl_MirrorHeap P_impl_SwapSides P_impl_OtherCells)) (conOK_of (X := X_Act_act N P_impl_PutCube P_impl_TakeCube P_impl_DropHeap P_impl_SinkHeap P_impl_MirrorHeap P_impl_SwapSides P_impl_OtherCells) ⟨s_impl_PutCube, s_impl_TakeCube, s_impl_DropHeap, s_impl_SinkHeap, s_impl_MirrorHeap, s_impl_SwapSides, s_impl_OtherCells, trivial⟩) (mconOK_of (X := X_Act_act N P_impl_PutCube P_impl_TakeCube P_impl_DropHeap P_impl_SinkHeap P_impl_MirrorHeap P_impl_SwapSides P_impl_OtherCells) trivial) (by kernel_rfl) (by kernel_rfl) (by kernel_rfl) (by kernel_rfl) (by kernel_rfl) (of_decide_eq_true (by kernel_rfl))
theorem p_Act_act (a0 : D_Act) (a1 : D_Heap) : P_Act_act (a0, a1, ()) = 
  bif decide (a0.1 = 1) then
    Option.bind (P_impl_PutCube (a1, a0.2.1, ())) fun r1 =>
    bif r1.2.1 then
      bif decide (a0.2.2.1 = 0) then
        some (r1.1, decide (a0.2.2.2.1 = 0), ())
      else
        some (r1.1, false, ())
    else
      some (r1.1, false, ())
  else
    bif decide (a0.1 = 2) then
      Option.bind (P_impl_TakeCube (a1, a0.2.1, ())) fun r2 =>
      bif r2.2.1 then
        bif decide (a0.2.2.1 = 0) then
          some (r2.1, decide (a0.2.2.2.1 = 0), ())
        else
          some (r2.1, false, ())
      else
        some (r2.1, false, ())
    else
      bif decide (a0.1 = 3) then
        Option.bind (P_impl_DropHeap (a1, ())) fun r3 =>
        bif r3.2.1 then
          bif (decide (a0.2.1.1 = 0) && (decide (a0.2.1.2.1 = 0) && (decide (a0.2.1.2.2.1 = 0) && true))) then
            bif decide (a0.2.2.1 = 0) then
              some (r3.1, decide (a0.2.2.2.1 = 0), ())
            else
              some (r3.1, false, ())
          else
            some (r3.1, false, ())
        else
          some (r3.1, false, ())
      else
        bif decide (a0.1 = 4) then
          Option.bind (P_impl_SinkHeap (a1, ())) fun r4 =>
          bif r4.2.2.1 then
            bif (decide (a0.2.1.1 = 0) && (decide (a0.2.1.2.1 = 0) && (decide (a0.2.1.2.2.1 = 0) && true))) then
              bif decide (a0.2.2.1 = 0) then
                some (r4.1, decide (a0.2.2.2.1 = 0), ())
              else
                some (r4.1, false, ())
            else
              some (r4.1, false, ())
          else
            some (r4.1, false, ())
        else
          bif decide (a0.1 = 5) then
            Option.bind (P_impl_MirrorHeap (a1, a0.2.2.1, ())) fun r5 =>
            bif r5.2.1 then
              bif (decide (a0.2.1.1 = 0) && (decide (a0.2.1.2.1 = 0) && (decide (a0.2.1.2.2.1 = 0) && true))) then
                some (r5.1, decide (a0.2.2.2.1 = 0), ())
              else
                some (r5.1, false, ())
            else
              some (r5.1, false, ())
          else
            bif decide (a0.1 = 6) then
              Option.bind (P_impl_SwapSides (a1, a0.2.2.1, a0.2.2.2.1, ())) fun r6 =>
              bif r6.2.1 then
                some (r6.1, (decide (a0.2.1.1 = 0) && (decide (a0.2.1.2.1 = 0) && (decide (a0.2.1.2.2.1 = 0) && true))), ())
              else
                some (r6.1, false, ())
            else
              bif decide (a0.1 = 7) then
                Option.bind (P_impl_OtherCells (a1, ())) fun r7 =>
                bif r7.2.1 then
                  bif (decide (a0.2.1.1 = 0) && (decide (a0.2.1.2.1 = 0) && (decide (a0.2.1.2.2.1 = 0) && true))) then
                    bif decide (a0.2.2.1 = 0) then
                      some (r7.1, decide (a0.2.2.2.1 = 0), ())
                    else
                      some (r7.1, false, ())
                  else
                    some (r7.1, false, ())
                else
                  some (r7.1, false, ())
              else
                some ((0, (0, (0, (([] : List D_A3), ())))), false, ()) := by
  rewrite [h_Act_act]
  exact e_Act_act N P_impl_PutCube P_impl_TakeCube P_impl_DropHeap P_impl_SinkHeap P_impl_MirrorHeap P_impl_SwapSides P_impl_OtherCells a0 a1

/- 9: loop.example/g01166/impl.DoAct -/
abbrev As_impl_DoAct : List ATy := [.data true T_Bench, .data true T_Act]
abbrev R_impl_DoAct : List (Bool × Ty) := [(true, T_Bench), (false, .bool)]
abbrev M_impl_DoAct : List RMode := [.own 27]
abbrev Ft_impl_DoAct : Type := D_Bench × D_Act × Unit → Option (D_Bench × Bool × Unit)
noncomputable def X_impl_DoAct (n : Nat) (F_impl_IsBench : Ft_impl_IsBench) (F_Act_act : Ft_Act_act) : Ctx := { types := TT, globals := [], con := [(24, ⟨As_impl_IsBench, R_impl_IsBench, M_impl_IsBench, F_impl_IsBench⟩), (25, ⟨As_Act_act, R_Act_act, M_Act_act, F_Act_act⟩)], keep := [], results := [.cell 4 33, .tmp 5], ntmps := 40, n := n }
noncomputable def B_impl_DoAct : Code := (Tryz.f9.body).getD .skip
theorem e_impl_DoAct (n : Nat) (F_impl_IsBench : Ft_impl_IsBench) (F_Act_act : Ft_Act_act) (a0 : D_Bench) (a1 : D_Act) : runF (X_impl_DoAct n F_impl_IsBench F_Act_act) B_impl_DoAct As_impl_DoAct R_impl_DoAct M_impl_DoAct (a0, a1, ()) = 
  Option.bind (F_impl_IsBench (a0, ())) fun r0 =>
  bif !r0.1 then
    some (((0, (0, (0, (([] : List D_A3), ())))), (0, (0, ()))), false, ())
  else
    Option.bind (F_Act_act (a1, a0.1, ())) fun r2 =>
    bif !r2.2.1 then
      some (((0, (0, (0, (([] : List D_A3), ())))), (0, (0, ()))), false, ())
    else
      Option.bind (F_impl_IsBench ((r2.1, ((bif decide ((List.length r2.1.2.2.2.1 : Int) < a0.2.1) then (List.length r2.1.2.2.2.1 : Int) else a0.2.1), ((IntKind.wrap .i64 (a0.2.2.1 + 1)), ()))), ())) fun r4 =>
      bif !r4.1 then
        some (((0, (0, (0, (([] : List D_A3), ())))), (0, (0, ()))), false, ())
      else
        some ((r2.1, ((bif decide ((List.length r2.1.2.2.2.1 : Int) < a0.2.1) then (List.length r2.1.2.2.2.1 : Int) else a0.2.1), ((IntKind.wrap .i64 (a0.2.2.1 + 1)), ()))), true, ()) := by kernel_rfl
noncomputable def P_impl_DoAct : Ft_impl_DoAct := hid (runF (X_impl_DoAct N P_impl_IsBench P_Act_act) B_impl_DoAct As_impl_DoAct R_impl_DoAct M_impl_DoAct)
theorem h_impl_DoAct : P_impl_DoAct = runF (X_impl_DoAct N P_impl_IsBench P_Act_act) B_impl_DoAct As_impl_DoAct R_impl_DoAct M_impl_DoAct := hid_eq _
noncomputable def C_impl_DoAct : Contract := ⟨As_impl_DoAct, R_impl_DoAct, M_impl_DoAct, P_impl_DoAct⟩
theorem s_impl_DoAct : Sound Tryz.prog GG 9 C_impl_DoAct := by
  unfold C_impl_DoAct; rw [h_impl_DoAct]
  exact sound_of_run (fn := Tryz.f9) hmix hstable (tyOK_of ttOK) (hglob (X_impl_DoAct N P_impl_IsBench P_Act_act)) (conOK_of (X := X_impl_DoAct N P_impl_IsBench P_Act_act) ⟨s_impl_IsBench, s_Act_act, trivial⟩) (mconOK_of (X := X_impl_DoAct N P_impl_IsBench P_Act_act) trivial) (by kernel_rfl) (by kernel_rfl) (by kernel_rfl) (by kernel_rfl) (by kernel_rfl) (of_decide_eq_true (by kernel_rfl))
theorem p_impl_DoAct (a0 : D_Bench) (a1 : D_Act) : P_impl_DoAct (a0, a1, ()) = 
  Option.bind (P_impl_IsBench (a0, ())) fun r0 =>
  bif !r0.1 then
    some (((0, (0, (0, (([] : List D_A3), ())))), (0, (0, ()))), false, ())
  else
    Option.bind (P_Act_act (a1, a0.1, ())) fun r2 =>
    bif !r2.2.1 then
      some (((0, (0, (0, (([] : List D_A3), ())))), (0, (0, ()))), false, ())
    else
      Option.bind (P_impl_IsBench ((r2.1, ((bif decide ((List.length r2.1.2.2.2.1 : Int) < a0.2.1) then (List.length r2.1.2.2.2.1 : Int) else a0.2.1), ((IntKind.wrap .i64 (a0.2.2.1 + 1)), ()))), ())) fun r4 =>
      bif !r4.1 then
        some (((0, (0, (0, (([] : List D_A3), ())))), (0, (0, ()))), false, ())
      else
        some ((r2.1, ((bif decide ((List.length r2.1.2.2.2.1 : Int) < a0.2.1) then (List.length r2.1.2.2.2.1 : Int) else a0.2.1), ((IntKind.wrap .i64 (a0.2.2.1 + 1)), ()))), true, ()) := by
  rewrite [h_impl_DoAct]
  exact e_impl_DoAct N P_impl_IsBench P_Act_act a0 a1

/- 52: loop.example/g01166/laws.eqIntA3 -/
abbrev As_laws_eqIntA3 : List ATy := [.data true T_A3, .data true T_A3]
abbrev R_laws_eqIntA3 : List (Bool × Ty) := [(false, .bool)]
abbrev M_laws_eqIntA3 : List RMode := []
abbrev Ft_laws_eqIntA3 : Type := D_A3 × D_A3 × Unit → Option (Bool × Unit)
noncomputable def X_laws_eqIntA3 (n : Nat) : Ctx := { types := TT, globals := [], con := [], keep := [(2, ⟨[.box 2, .box 3, .tmp 2, .tmp 3, .tmp 5], []⟩)], results := [.tmp 4], ntmps := 17, n := n }
noncomputable def B_laws_eqIntA3 : Code := (Tryz.f52.body).getD .skip
noncomputable def L_laws_eqIntA3_2 (n : Nat) (m0 : Nat) (p0 : Int) (p1 : Int) (p2 : Int) (p3 : Int) (p4 : Int) (p5 : Int) (p6 : Int) : Option (denL R_laws_eqIntA3) := loopF (X_laws_eqIntA3 n) B_laws_eqIntA3 R_laws_eqIntA3 M_laws_eqIntA3 2 [m0] [(.ver, .num 1), (.box 2, .box 0 false [.int .i64 p0, .int .i64 p1, .int .i64 p2]), (.box 3, .box 0 false [.int .i64 p3, .int .i64 p4, .int .i64 p5]), (.tmp 2, .val false [.addr 2 0 0]), (.tmp 3, .val false [.addr 3 0 0]), (.tmp 5, .val false [.int .i64 p6])]
theorem e_laws_eqIntA3 (n : Nat) (a0 : D_A3) (a1 : D_A3) : runF (X_laws_eqIntA3 n) B_laws_eqIntA3 As_laws_eqIntA3 R_laws_eqIntA3 M_laws_eqIntA3 (a0, a1, ()) = 
  L_laws_eqIntA3_2 n n a0.1 a0.2.1 a0.2.2.1 a1.1 a1.2.1 a1.2.2.1 0 := by kernel_rfl
theorem e_laws_eqIntA3_2 (n : Nat) (m0 : Nat) (p0 : Int) (p1 : Int) (p2 : Int) (p3 : Int) (p4 : Int) (p5 : Int) (p6 : Int) : L_laws_eqIntA3_2 n (m0 + 1) p0 p1 p2 p3 p4 p5 p6 = 
  bif decide (p6 < 3) then
    bif inB p6 3 then
      bif inB p6 3 then
        bif !decide ((bif decide (p6 = (0 : Int)) then p0 else (bif decide (p6 = (1 : Int)) then p1 else p2)) = (bif decide (p6 = (0 : Int)) then p3 else (bif decide (p6 = (1 : Int)) then p4 else p5))) then
          some (false, ())
        else
          L_laws_eqIntA3_2 n m0 p0 p1 p2 p3 p4 p5 (IntKind.wrap .i64 (p6 + 1))
      else none
    else none
  else
    some (true, ()) := by kernel_rfl
noncomputable def P_laws_eqIntA3 : Ft_laws_eqIntA3 := hid (runF (X_laws_eqIntA3 N) B_laws_eqIntA3 As_laws_eqIntA3 R_laws_eqIntA3 M_laws_eqIntA3)
theorem h_laws_eqIntA3 : P_laws_eqIntA3 = runF (X_laws_eqIntA3 N) B_laws_eqIntA3 As_laws_eqIntA3 R_laws_eqIntA3 M_laws_eqIntA3 := hid_eq _
noncomputable def C_laws_eqIntA3 : Contract := ⟨As_laws_eqIntA3, R_laws_eqIntA3, M_laws_eqIntA3, P_laws_eqIntA3⟩
theorem s_laws_eqIntA3 : Sound Tryz.prog GG 52 C_laws_eqIntA3 := by
  unfold C_laws_eqIntA3; rw [h_laws_eqIntA3]
  exact sound_of_run (fn := Tryz.f52) hmix hstable (tyOK_of ttOK) (hglob (X_laws_eqIntA3 N)) (conOK_of (X := X_laws_eqIntA3 N) trivial) (mconOK_of (X := X_laws_eqIntA3 N) trivial) (by kernel_rfl) (by kernel_rfl) (by kernel_rfl) (by kernel_rfl) (by kernel_rfl) (of_decide_eq_true (by kernel_rfl))
noncomputable def l_laws_eqIntA3_2 : Nat → Int → Int → Int → Int → Int → Int → Int → Option (denL R_laws_eqIntA3) := hid (fun m0 p0 p1 p2 p3 p4 p5 p6 => L_laws_eqIntA3_2 N m0 p0 p1 p2 p3 p4 p5 p6)
theorem h_laws_eqIntA3_2 : l_laws_eqIntA3_2 = fun m0 p0 p1 p2 p3 p4 p5 p6 => L_laws_eqIntA3_2 N m0 p0 p1 p2 p3 p4 p5 p6 := hid_eq _
theorem p_laws_eqIntA3 (a0 : D_A3) (a1 : D_A3) : P_laws_eqIntA3 (a0, a1, ()) = 
  l_laws_eqIntA3_2 N a0.1 a0.2.1 a0.2.2.1 a1.1 a1.2.1 a1.2.2.1 0 := by
  rewrite [h_laws_eqIntA3, h_laws_eqIntA3_2]
  exact e_laws_eqIntA3 N a0 a1
theorem q_laws_eqIntA3_2 (m0 : Nat) (p0 : Int) (p1 : Int) (p2 : Int) (p3 : Int) (p4 : Int) (p5 : Int) (p6 : Int) : l_laws_eqIntA3_2 (m0 + 1) p0 p1 p2 p3 p4 p5 p6 = 
  bif decide (p6 < 3) then
    bif inB p6 3 then
      bif inB p6 3 then
        bif !decide ((bif decide (p6 = (0 : Int)) then p0 else (bif decide (p6 = (1 : Int)) then p1 else p2)) = (bif decide (p6 = (0 : Int)) then p3 else (bif decide (p6 = (1 : Int)) then p4 else p5))) then
          some (false, ())
        else
          l_laws_eqIntA3_2 m0 p0 p1 p2 p3 p4 p5 (IntKind.wrap .i64 (p6 + 1))
      else none
    else none
  else
    some (true, ()) := by
  rewrite [h_laws_eqIntA3_2]
  exact e_laws_eqIntA3_2 N m0 p0 p1 p2 p3 p4 p5 p6

/- 48: loop.example/g01166/laws.eqIntA3S -/
abbrev As_laws_eqIntA3S : List ATy := [.data false (.sl T_A3), .data false (.sl T_A3)]
abbrev R_laws_eqIntA3S : List (Bool × Ty) := [(false, .bool)]
abbrev M_laws_eqIntA3S : List RMode := []
abbrev Ft_laws_eqIntA3S : Type := (List D_A3) × (List D_A3) × Unit → Option (Bool × Unit)
noncomputable def X_laws_eqIntA3S (n : Nat) (F_laws_eqIntA3 : Ft_laws_eqIntA3) : Ctx := { types := TT, globals := [], con := [(52, ⟨As_laws_eqIntA3, R_laws_eqIntA3, M_laws_eqIntA3, F_laws_eqIntA3⟩)], keep := [(4, ⟨[.tmp 0, .tmp 1, .tmp 5], []⟩)], results := [.tmp 4], ntmps := 27, n := n }
noncomputable def B_laws_eqIntA3S : Code := (Tryz.f48.body).getD .skip
noncomputable def L_laws_eqIntA3S_4 (n : Nat) (F_laws_eqIntA3 : Ft_laws_eqIntA3) (m0 : Nat) (p0 : List D_A3) (p1 : List D_A3) (p2 : Int) : Option (denL R_laws_eqIntA3S) := loopF (X_laws_eqIntA3S n F_laws_eqIntA3) B_laws_eqIntA3S R_laws_eqIntA3S M_laws_eqIntA3S 4 [m0] [(.ver, .num 1), (.tmp 0, .val false [.imm T_A3 p0 (some 0)]), (.tmp 1, .val false [.imm T_A3 p1 (some 1)]), (.tmp 5, .val false [.int .i64 p2])]
theorem e_laws_eqIntA3S (n : Nat) (F_laws_eqIntA3 : Ft_laws_eqIntA3) (a0 : List D_A3) (a1 : List D_A3) : runF (X_laws_eqIntA3S n F_laws_eqIntA3) B_laws_eqIntA3S As_laws_eqIntA3S R_laws_eqIntA3S M_laws_eqIntA3S (a0, a1, ()) = 
  bif !decide ((List.length a0 : Int) = (List.length a1 : Int)) then
    some (false, ())
  else
    L_laws_eqIntA3S_4 n F_laws_eqIntA3 n a0 a1 0 := by kernel_rfl
theorem e_laws_eqIntA3S_4 (n : Nat) (F_laws_eqIntA3 : Ft_laws_eqIntA3) (m0 : Nat) (p0 : List D_A3) (p1 : List D_A3) (p2 : Int) : L_laws_eqIntA3S_4 n F_laws_eqIntA3 (m0 + 1) p0 p1 p2 = 
  bif decide (p2 < (List.length p0 : Int)) then
    bif inB p2 (List.length p0) then
      bif inB p2 (List.length p1) then
        Option.bind (F_laws_eqIntA3 ((nth T_A3 p0 p2), (nth T_A3 p1 p2), ())) fun r3 =>
        bif !r3.1 then
          some (false, ())
        else
          L_laws_eqIntA3S_4 n F_laws_eqIntA3 m0 p0 p1 (IntKind.wrap .i64 (p2 + 1))
      else none
    else none
  else
    some (true, ()) := by kernel_rfl
noncomputable def P_laws_eqIntA3S : Ft_laws_eqIntA3S := hid (runF (X_laws_eqIntA3S N P_laws_eqIntA3) B_laws_eqIntA3S As_laws_eqIntA3S R_laws_eqIntA3S M_laws_eqIntA3S)
theorem h_laws_eqIntA3S : P_laws_eqIntA3S = runF (X_laws_eqIntA3S N P_laws_eqIntA3) B_laws_eqIntA3S As_laws_eqIntA3S R_laws_eqIntA3S M_laws_eqIntA3S := hid_eq _
noncomputable def C_laws_eqIntA3S : Contract := ⟨As_laws_eqIntA3S, R_laws_eqIntA3S, M_laws_eqIntA3S, P_laws_eqIntA3S⟩
theorem s_laws_eqIntA3S : Sound Tryz.prog GG 48 C_laws_eqIntA3S := by
  unfold C_laws_eqIntA3S; rw [h_laws_eqIntA3S]
  exact sound_of_run (fn := Tryz.f48) hmix hstable (tyOK_of ttOK) (hglob (X_laws_eqIntA3S N P_laws_eqIntA3)) (conOK_of (X := X_laws_eqIntA3S N P_laws_eqIntA3) ⟨s_laws_eqIntA3, trivial⟩) (mconOK_of (X := X_laws_eqIntA3S N P_laws_eqIntA3) trivial) (by kernel_rfl) (by kernel_rfl) (by kernel_rfl) (by kernel_rfl) (by kernel_rfl) (of_decide_eq_true (by kernel_rfl))
noncomputable def l_laws_eqIntA3S_4 : Nat → (List D_A3) → (List D_A3) → Int → Option (denL R_laws_eqIntA3S) := hid (fun m0 p0 p1 p2 => L_laws_eqIntA3S_4 N P_laws_eqIntA3 m0 p0 p1 p2)
theorem h_laws_eqIntA3S_4 : l_laws_eqIntA3S_4 = fun m0 p0 p1 p2 => L_laws_eqIntA3S_4 N P_laws_eqIntA3 m0 p0 p1 p2 := hid_eq _
theorem p_laws_eqIntA3S (a0 : List D_A3) (a1 : List D_A3) : P_laws_eqIntA3S (a0, a1, ()) = 
  bif !decide ((List.length a0 : Int) = (List.length a1 : Int)) then
    some (false, ())
  else
    l_laws_eqIntA3S_4 N a0 a1 0 := by
  rewrite [h_laws_eqIntA3S, h_laws_eqIntA3S_4]
  exact e_laws_eqIntA3S N P_laws_eqIntA3 a0 a1
theorem q_laws_eqIntA3S_4 (m0 : Nat) (p0 : List D_A3) (p1 : List D_A3) (p2 : Int) : l_laws_eqIntA3S_4 (m0 + 1) p0 p1 p2 = 
  bif decide (p2 < (List.length p0 : Int)) then
    bif inB p2 (List.length p0) then
      bif inB p2 (List.length p1) then
        Option.bind (P_laws_eqIntA3 ((nth T_A3 p0 p2), (nth T_A3 p1 p2), ())) fun r3 =>
        bif !r3.1 then
          some (false, ())
        else
          l_laws_eqIntA3S_4 m0 p0 p1 (IntKind.wrap .i64 (p2 + 1))
      else none
    else none
  else
    some (true, ()) := by
  rewrite [h_laws_eqIntA3S_4]
  exact e_laws_eqIntA3S_4 N P_laws_eqIntA3 m0 p0 p1 p2

/- 26: loop.example/g01166/laws.eqHeap -/
abbrev As_laws_eqHeap : List ATy := [.data true T_Heap, .data true T_Heap]
abbrev R_laws_eqHeap : List (Bool × Ty) := [(false, .bool)]
abbrev M_laws_eqHeap : List RMode := []
abbrev Ft_laws_eqHeap : Type := D_Heap × D_Heap × Unit → Option (Bool × Unit)
noncomputable def X_laws_eqHeap (n : Nat) (F_laws_eqIntA3S : Ft_laws_eqIntA3S) : Ctx := { types := TT, globals := [], con := [(48, ⟨As_laws_eqIntA3S, R_laws_eqIntA3S, M_laws_eqIntA3S, F_laws_eqIntA3S⟩)], keep := [], results := [.tmp 4], ntmps := 26, n := n }
noncomputable def B_laws_eqHeap : Code := (Tryz.f26.body).getD .skip
theorem e_laws_eqHeap (n : Nat) (F_laws_eqIntA3S : Ft_laws_eqIntA3S) (a0 : D_Heap) (a1 : D_Heap) : runF (X_laws_eqHeap n F_laws_eqIntA3S) B_laws_eqHeap As_laws_eqHeap R_laws_eqHeap M_laws_eqHeap (a0, a1, ()) = 
  bif !decide (a0.1 = a1.1) then
    some (false, ())
  else
    bif !decide (a0.2.1 = a1.2.1) then
      some (false, ())
    else
      bif !decide (a0.2.2.1 = a1.2.2.1) then
        some (false, ())
      else
        Option.bind (F_laws_eqIntA3S (a0.2.2.2.1, a1.2.2.2.1, ())) fun r3 =>
        bif !r3.1 then
          some (false, ())
        else
          some (true, ()) := by kernel_rfl
noncomputable def P_laws_eqHeap : Ft_laws_eqHeap := hid (runF (X_laws_eqHeap N P_laws_eqIntA3S) B_laws_eqHeap As_laws_eqHeap R_laws_eqHeap M_laws_eqHeap)
theorem h_laws_eqHeap : P_laws_eqHeap = runF (X_laws_eqHeap N P_laws_eqIntA3S) B_laws_eqHeap As_laws_eqHeap R_laws_eqHeap M_laws_eqHeap := hid_eq _
noncomputable def C_laws_eqHeap : Contract := ⟨As_laws_eqHeap, R_laws_eqHeap, M_laws_eqHeap, P_laws_eqHeap⟩
theorem s_laws_eqHeap : Sound Tryz.prog GG 26 C_laws_eqHeap := by
  unfold C_laws_eqHeap; rw [h_laws_eqHeap]
  exact sound_of_run (fn := Tryz.f26) hmix hstable (tyOK_of ttOK) (hglob (X_laws_eqHeap N P_laws_eqIntA3S)) (conOK_of (X := X_laws_eqHeap N P_laws_eqIntA3S) ⟨s_laws_eqIntA3S, trivial⟩) (mconOK_of (X := X_laws_eqHeap N P_laws_eqIntA3S) trivial) (by kernel_rfl) (by kernel_rfl) (by kernel_rfl) (by kernel_rfl) (by kernel_rfl) (of_decide_eq_true (by kernel_rfl))
theorem p_laws_eqHeap (a0 : D_Heap) (a1 : D_Heap) : P_laws_eqHeap (a0, a1, ()) = 
  bif !decide (a0.1 = a1.1) then
    some (false, ())
  else
    bif !decide (a0.2.1 = a1.2.1) then
      some (false, ())
    else
      bif !decide (a0.2.2.1 = a1.2.2.1) then
        some (false, ())
      else
        Option.bind (P_laws_eqIntA3S (a0.2.2.2.1, a1.2.2.2.1, ())) fun r3 =>
        bif !r3.1 then
          some (false, ())
        else
          some (true, ()) := by
  rewrite [h_laws_eqHeap]
  exact e_laws_eqHeap N P_laws_eqIntA3S a0 a1

/- 10: loop.example/g01166/laws.eqBench -/
abbrev As_laws_eqBench : List ATy := [.data true T_Bench, .data true T_Bench]
abbrev R_laws_eqBench : List (Bool × Ty) := [(false, .bool)]
abbrev M_laws_eqBench : List RMode := []
abbrev Ft_laws_eqBench : Type := D_Bench × D_Bench × Unit → Option (Bool × Unit)
noncomputable def X_laws_eqBench (n : Nat) (F_laws_eqHeap : Ft_laws_eqHeap) : Ctx := { types := TT, globals := [], con := [(26, ⟨As_laws_eqHeap, R_laws_eqHeap, M_laws_eqHeap, F_laws_eqHeap⟩)], keep := [], results := [.tmp 4], ntmps := 21, n := n }
noncomputable def B_laws_eqBench : Code := (Tryz.f10.body).getD .skip
theorem e_laws_eqBench (n : Nat) (F_laws_eqHeap : Ft_laws_eqHeap) (a0 : D_Bench) (a1 : D_Bench) : runF (X_laws_eqBench n F_laws_eqHeap) B_laws_eqBench As_laws_eqBench R_laws_eqBench M_laws_eqBench (a0, a1, ()) = 
  Option.bind (F_laws_eqHeap (a0.1, a1.1, ())) fun r0 =>
  bif !r0.1 then
    some (false, ())
  else
    bif !decide (a0.2.1 = a1.2.1) then
      some (false, ())
    else
      bif !decide (a0.2.2.1 = a1.2.2.1) then
        some (false, ())
      else
        some (true, ()) := by kernel_rfl
noncomputable def P_laws_eqBench : Ft_laws_eqBench := hid (runF (X_laws_eqBench N P_laws_eqHeap) B_laws_eqBench As_laws_eqBench R_laws_eqBench M_laws_eqBench)
theorem h_laws_eqBench : P_laws_eqBench = runF (X_laws_eqBench N P_laws_eqHeap) B_laws_eqBench As_laws_eqBench R_laws_eqBench M_laws_eqBench := hid_eq _
noncomputable def C_laws_eqBench : Contract := ⟨As_laws_eqBench, R_laws_eqBench, M_laws_eqBench, P_laws_eqBench⟩
theorem s_laws_eqBench : Sound Tryz.prog GG 10 C_laws_eqBench := by
  unfold C_laws_eqBench; rw [h_laws_eqBench]
  exact sound_of_run (fn := Tryz.f10) hmix hstable (tyOK_of ttOK) (hglob (X_laws_eqBench N P_laws_eqHeap)) (conOK_of (X := X_laws_eqBench N P_laws_eqHeap) ⟨s_laws_eqHeap, trivial⟩) (mconOK_of (X := X_laws_eqBench N P_laws_eqHeap) trivial) (by kernel_rfl) (by kernel_rfl) (by kernel_rfl) (by kernel_rfl) (by kernel_rfl) (of_decide_eq_true (by kernel_rfl))
theorem p_laws_eqBench (a0 : D_Bench) (a1 : D_Bench) : P_laws_eqBench (a0, a1, ()) = 
  Option.bind (P_laws_eqHeap (a0.1, a1.1, ())) fun r0 =>
  bif !r0.1 then
    some (false, ())
  else
    bif !decide (a0.2.1 = a1.2.1) then
      some (false, ())
    else
      bif !decide (a0.2.2.1 = a1.2.2.1) then
        some (false, ())
      else
        some (true, ()) := by
  rewrite [h_laws_eqBench]
  exact e_laws_eqBench N P_laws_eqHeap a0 a1

/- 49: loop.example/g01166/laws.markIntA3S -/
abbrev As_laws_markIntA3S : List ATy := [.lrow false (.sl T_A3) [27], .data false (.int .i64)]
abbrev R_laws_markIntA3S : List (Bool × Ty) := [(false, (.int .i64))]
abbrev M_laws_markIntA3S : List RMode := []
abbrev Ft_laws_markIntA3S : Type := (List D_A3) × Int × Unit → Option ((Int × Unit) × ((List D_A3) × Unit))
noncomputable def X_laws_markIntA3S (n : Nat) : Ctx := { types := TT, globals := [], con := [], keep := [(2, ⟨[.lent 0, .tmp 0, .tmp 1, .tmp 5], []⟩), (5, ⟨[.lent 0, .tmp 0, .tmp 1, .tmp 5, .tmp 6], []⟩)], results := [.tmp 4], ntmps := 26, n := n }
noncomputable def B_laws_markIntA3S : Code := (Tryz.f49.body).getD .skip
noncomputable def L_laws_markIntA3S_2 (n : Nat) (m0 : Nat) (p0 : List D_A3) (p1 : Int) (p2 : Int) : Option (denL R_laws_markIntA3S × denM As_laws_markIntA3S) := loopFM (X_laws_markIntA3S n) B_laws_markIntA3S As_laws_markIntA3S R_laws_markIntA3S M_laws_markIntA3S 2 [m0] [(.ver, .num 1), (.lent 0, .val false [.own 27 T_A3 0 p0]), (.tmp 0, .val false [.view ⟨.lent 0, 0, 0⟩ 0]), (.tmp 1, .val false [.int .i64 p1]), (.tmp 5, .val false [.int .i64 p2])]
noncomputable def L_laws_markIntA3S_5 (n : Nat) (m0 m1 : Nat) (p0 : List D_A3) (p1 : Int) (p2 : Int) (p3 : Int) : Option (denL R_laws_markIntA3S × denM As_laws_markIntA3S) := loopFM (X_laws_markIntA3S n) B_laws_markIntA3S As_laws_markIntA3S R_laws_markIntA3S M_laws_markIntA3S 5 [m0, m1] [(.ver, .num 1), (.lent 0, .val false [.own 27 T_A3 0 p0]), (.tmp 0, .val false [.view ⟨.lent 0, 0, 0⟩ 0]), (.tmp 1, .val false [.int .i64 p1]), (.tmp 5, .val false [.int .i64 p2]), (.tmp 6, .val false [.int .i64 p3])]
theorem e_laws_markIntA3S (n : Nat) (a0 : List D_A3) (a1 : Int) : runFM (X_laws_markIntA3S n) B_laws_markIntA3S As_laws_markIntA3S R_laws_markIntA3S M_laws_markIntA3S (a0, a1, ()) = 
  L_laws_markIntA3S_2 n n a0 a1 0 := by kernel_rfl
theorem e_laws_markIntA3S_2 (n : Nat) (m0 : Nat) (p0 : List D_A3) (p1 : Int) (p2 : Int) : L_laws_markIntA3S_2 n (m0 + 1) p0 p1 p2 = 
  bif decide (p2 < (List.length p0 : Int)) then
    L_laws_markIntA3S_5 n m0 n p0 p1 p2 0
  else
    some ((p1, ()), (p0, ())) := by kernel_rfl
theorem e_laws_markIntA3S_5 (n : Nat) (m0 m1 : Nat) (p0 : List D_A3) (p1 : Int) (p2 : Int) (p3 : Int) : L_laws_markIntA3S_5 n m0 (m1 + 1) p0 p1 p2 p3 = 
  bif decide (p3 < 3) then
    bif inB p2 (List.length p0) then
      bif inB p3 3 then
        L_laws_markIntA3S_5 n m0 m1 (List.set p0 (Int.toNat p2) ((bif decide (p3 = (0 : Int)) then p1 else ((nth T_A3 p0 p2)).1), ((bif decide (p3 = (1 : Int)) then p1 else (((nth T_A3 p0 p2)).2).1), ((bif decide (p3 = (2 : Int)) then p1 else ((((nth T_A3 p0 p2)).2).2).1), ())))) (IntKind.wrap .i64 (p1 + 1)) p2 (IntKind.wrap .i64 (p3 + 1))
      else none
    else none
  else
    L_laws_markIntA3S_2 n m0 p0 p1 (IntKind.wrap .i64 (p2 + 1)) := by kernel_rfl
noncomputable def P_laws_markIntA3S : Ft_laws_markIntA3S := hid (runFM (X_laws_markIntA3S N) B_laws_markIntA3S As_laws_markIntA3S R_laws_markIntA3S M_laws_markIntA3S)
theorem h_laws_markIntA3S : P_laws_markIntA3S = runFM (X_laws_markIntA3S N) B_laws_markIntA3S As_laws_markIntA3S R_laws_markIntA3S M_laws_markIntA3S := hid_eq _
noncomputable def C_laws_markIntA3S : MContract := ⟨As_laws_markIntA3S, R_laws_markIntA3S, M_laws_markIntA3S, P_laws_markIntA3S⟩
theorem s_laws_markIntA3S : SoundM Tryz.prog n0 GG 49 C_laws_markIntA3S := by
  unfold C_laws_markIntA3S; rw [h_laws_markIntA3S]
  exact sound_of_runM (fn := Tryz.f49) hmix hstable (tyOK_of ttOK) (hglob (X_laws_markIntA3S N)) (conOK_of (X := X_laws_markIntA3S N) trivial) (mconOK_of (X := X_laws_markIntA3S N) trivial) (by kernel_rfl) (by kernel_rfl) (by kernel_rfl) (by kernel_rfl) (by kernel_rfl) (of_decide_eq_true (by kernel_rfl)) (by kernel_rfl) (by rfl)
noncomputable def l_laws_markIntA3S_2 : Nat → (List D_A3) → Int → Int → Option (denL R_laws_markIntA3S × denM As_laws_markIntA3S) := hid (fun m0 p0 p1 p2 => L_laws_markIntA3S_2 N m0 p0 p1 p2)
theorem h_laws_markIntA3S_2 : l_laws_markIntA3S_2 = fun m0 p0 p1 p2 => L_laws_markIntA3S_2 N m0 p0 p1 p2 := hid_eq _
noncomputable def l_laws_markIntA3S_5 : Nat → Nat → (List D_A3) → Int → Int → Int → Option (denL R_laws_markIntA3S × denM As_laws_markIntA3S) := hid (fun m0 m1 p0 p1 p2 p3 => L_laws_markIntA3S_5 N m0 m1 p0 p1 p2 p3)
theorem h_laws_markIntA3S_5 : l_laws_markIntA3S_5 = fun m0 m1 p0 p1 p2 p3 => L_laws_markIntA3S_5 N m0 m1 p0 p1 p2 p3 := hid_eq _
theorem p_laws_markIntA3S (a0 : List D_A3) (a1 : Int) : P_laws_markIntA3S (a0, a1, ()) = 
  l_laws_markIntA3S_2 N a0 a1 0 := by
  rewrite [h_laws_markIntA3S, h_laws_markIntA3S_2]
  exact e_laws_markIntA3S N a0 a1
theorem q_laws_markIntA3S_2 (m0 : Nat) (p0 : List D_A3) (p1 : Int) (p2 : Int) : l_laws_markIntA3S_2 (m0 + 1) p0 p1 p2 = 
  bif decide (p2 < (List.length p0 : Int)) then
    l_laws_markIntA3S_5 m0 N p0 p1 p2 0
  else
    some ((p1, ()), (p0, ())) := by
  rewrite [h_laws_markIntA3S_2, h_laws_markIntA3S_5]
  exact e_laws_markIntA3S_2 N m0 p0 p1 p2
theorem q_laws_markIntA3S_5 (m0 m1 : Nat) (p0 : List D_A3) (p1 : Int) (p2 : Int) (p3 : Int) : l_laws_markIntA3S_5 m0 (m1 + 1) p0 p1 p2 p3 = 
  bif decide (p3 < 3) then
    bif inB p2 (List.length p0) then
      bif inB p3 3 then
        l_laws_markIntA3S_5 m0 m1 (List.set p0 (Int.toNat p2) ((bif decide (p3 = (0 : Int)) then p1 else ((nth T_A3 p0 p2)).1), ((bif decide (p3 = (1 : Int)) then p1 else (((nth T_A3 p0 p2)).2).1), ((bif decide (p3 = (2 : Int)) then p1 else ((((nth T_A3 p0 p2)).2).2).1), ())))) (IntKind.wrap .i64 (p1 + 1)) p2 (IntKind.wrap .i64 (p3 + 1))
      else none
    else none
  else
    l_laws_markIntA3S_2 m0 p0 p1 (IntKind.wrap .i64 (p2 + 1)) := by
  rewrite [h_laws_markIntA3S_2, h_laws_markIntA3S_5]
  exact e_laws_markIntA3S_5 N m0 m1 p0 p1 p2 p3

/- 27: loop.example/g01166/laws.markHeap -/
abbrev As_laws_markHeap : List ATy := [.lrow true T_Heap [27], .data false (.int .i64)]
abbrev R_laws_markHeap : List (Bool × Ty) := [(false, (.int .i64))]
abbrev M_laws_markHeap : List RMode := []
abbrev Ft_laws_markHeap : Type := D_Heap × Int × Unit → Option ((Int × Unit) × (D_Heap × Unit))
noncomputable def X_laws_markHeap (n : Nat) (F_laws_markIntA3S : Ft_laws_markIntA3S) : Ctx := { types := TT, globals := [], con := [], mcon := [(49, ⟨As_laws_markIntA3S, R_laws_markIntA3S, M_laws_markIntA3S, F_laws_markIntA3S⟩)], keep := [], results := [.tmp 4], ntmps := 10, n := n }
noncomputable def B_laws_markHeap : Code := (Tryz.f27.body).getD .skip
theorem e_laws_markHeap (n : Nat) (F_laws_markIntA3S : Ft_laws_markIntA3S) (a0 : D_Heap) (a1 : Int) : runFM (X_laws_markHeap n F_laws_markIntA3S) B_laws_markHeap As_laws_markHeap R_laws_markHeap M_laws_markHeap (a0, a1, ()) = 
  Option.bind (F_laws_markIntA3S (a0.2.2.2.1, a1, ())) fun r0 =>
  some ((r0.1.1, ()), ((0, (0, (0, (r0.2.1, ())))), ())) := by kernel_rfl
noncomputable def P_laws_markHeap : Ft_laws_markHeap := hid (runFM (X_laws_markHeap N P_laws_markIntA3S) B_laws_markHeap As_laws_markHeap R_laws_markHeap M_laws_markHeap)
theorem h_laws_markHeap : P_laws_markHeap = runFM (X_laws_markHeap N P_laws_markIntA3S) B_laws_markHeap As_laws_markHeap R_laws_markHeap M_laws_markHeap := hid_eq _
noncomputable def C_laws_markHeap : MContract := ⟨As_laws_markHeap, R_laws_markHeap, M_laws_markHeap, P_laws_markHeap⟩
theorem s_laws_markHeap : SoundM Tryz.prog n0 GG 27 C_laws_markHeap := by
  unfold C_laws_markHeap; rw [h_laws_markHeap]
  exact sound_of_runM (fn := Tryz.f27) hmix hstable (tyOK_of ttOK) (hglob (X_laws_markHeap N P_laws_markIntA3S)) (conOK_of (X := X_laws_markHeap N P_laws_markIntA3S) trivial) (mconOK_of (X := X_laws_markHeap N P_laws_markIntA3S) ⟨s_laws_markIntA3S, trivial⟩) (by kernel_rfl) (by kernel_rfl) (by kernel_rfl) (by kernel_rfl) (by kernel_rfl) (of_decide_eq_true (by kernel_rfl)) (by kernel_rfl) (by rfl)
theorem p_laws_markHeap (a0 : D_Heap) (a1 : Int) : P_laws_markHeap (a0, a1, ()) = 
  Option.bind (P_laws_markIntA3S (a0.2.2.2.1, a1, ())) fun r0 =>
  some ((r0.1.1, ()), ((0, (0, (0, (r0.2.1, ())))), ())) := by
  rewrite [h_laws_markHeap]
  exact e_laws_markHeap N P_laws_markIntA3S a0 a1

/- 11: loop.example/g01166/laws.markBench -/
abbrev As_laws_markBench : List ATy := [.lrow true T_Bench [27], .data false (.int .i64)]
abbrev R_laws_markBench : List (Bool × Ty) := [(false, (.int .i64))]
abbrev M_laws_markBench : List RMode := []
abbrev Ft_laws_markBench : Type := D_Bench × Int × Unit → Option ((Int × Unit) × (D_Bench × Unit))
noncomputable def X_laws_markBench (n : Nat) (F_laws_markHeap : Ft_laws_markHeap) : Ctx := { types := TT, globals := [], con := [], mcon := [(27, ⟨As_laws_markHeap, R_laws_markHeap, M_laws_markHeap, F_laws_markHeap⟩)], keep := [], results := [.tmp 4], ntmps := 10, n := n }
noncomputable def B_laws_markBench : Code := (Tryz.f11.body).getD .skip
theorem e_laws_markBench (n : Nat) (F_laws_markHeap : Ft_laws_markHeap) (a0 : D_Bench) (a1 : Int) : runFM (X_laws_markBench n F_laws_markHeap) B_laws_markBench As_laws_markBench R_laws_markBench M_laws_markBench (a0, a1, ()) = 
  Option.bind (F_laws_markHeap (a0.1, a1, ())) fun r0 =>
  some ((r0.1.1, ()), (((0, (0, (0, (r0.2.1.2.2.2.1, ())))), (0, (0, ()))), ())) := by kernel_rfl
noncomputable def P_laws_markBench : Ft_laws_markBench := hid (runFM (X_laws_markBench N P_laws_markHeap) B_laws_markBench As_laws_markBench R_laws_markBench M_laws_markBench)
theorem h_laws_markBench : P_laws_markBench = runFM (X_laws_markBench N P_laws_markHeap) B_laws_markBench As_laws_markBench R_laws_markBench M_laws_markBench := hid_eq _
noncomputable def C_laws_markBench : MContract := ⟨As_laws_markBench, R_laws_markBench, M_laws_markBench, P_laws_markBench⟩
theorem s_laws_markBench : SoundM Tryz.prog n0 GG 11 C_laws_markBench := by
  unfold C_laws_markBench; rw [h_laws_markBench]
  exact sound_of_runM (fn := Tryz.f11) hmix hstable (tyOK_of ttOK) (hglob (X_laws_markBench N P_laws_markHeap)) (conOK_of (X := X_laws_markBench N P_laws_markHeap) trivial) (mconOK_of (X := X_laws_markBench N P_laws_markHeap) ⟨s_laws_markHeap, trivial⟩) (by kernel_rfl) (by kernel_rfl) (by kernel_rfl) (by kernel_rfl) (by kernel_rfl) (of_decide_eq_true (by kernel_rfl)) (by kernel_rfl) (by rfl)
theorem p_laws_markBench (a0 : D_Bench) (a1 : Int) : P_laws_markBench (a0, a1, ()) = 
  Option.bind (P_laws_markHeap (a0.1, a1, ())) fun r0 =>
  some ((r0.1.1, ()), (((0, (0, (0, (r0.2.1.2.2.2.1, ())))), (0, (0, ()))), ())) := by
  rewrite [h_laws_markBench]
  exact e_laws_markBench N P_laws_markHeap a0 a1

/- 50: loop.example/g01166/laws.heldIntA3S -/
abbrev As_laws_heldIntA3S : List ATy := [.data false (.sl T_A3), .data false (.int .i64)]
abbrev R_laws_heldIntA3S : List (Bool × Ty) := [(false, (.int .i64))]
abbrev M_laws_heldIntA3S : List RMode := []
abbrev Ft_laws_heldIntA3S : Type := (List D_A3) × Int × Unit → Option (Int × Unit)
noncomputable def X_laws_heldIntA3S (n : Nat) : Ctx := { types := TT, globals := [], con := [], keep := [(2, ⟨[.tmp 0, .tmp 1, .tmp 5], []⟩), (5, ⟨[.tmp 0, .tmp 1, .tmp 5, .tmp 6], []⟩)], results := [.tmp 4], ntmps := 28, n := n }
noncomputable def B_laws_heldIntA3S : Code := (Tryz.f50.body).getD .skip
noncomputable def L_laws_heldIntA3S_2 (n : Nat) (m0 : Nat) (p0 : List D_A3) (p1 : Int) (p2 : Int) : Option (denL R_laws_heldIntA3S) := loopF (X_laws_heldIntA3S n) B_laws_heldIntA3S R_laws_heldIntA3S M_laws_heldIntA3S 2 [m0] [(.ver, .num 1), (.tmp 0, .val false [.imm T_A3 p0 (some 0)]), (.tmp 1, .val false [.int .i64 p1]), (.tmp 5, .val false [.int .i64 p2])]
noncomputable def L_laws_heldIntA3S_5 (n : Nat) (m0 m1 : Nat) (p0 : List D_A3) (p1 : Int) (p2 : Int) (p3 : Int) : Option (denL R_laws_heldIntA3S) := loopF (X_laws_heldIntA3S n) B_laws_heldIntA3S R_laws_heldIntA3S M_laws_heldIntA3S 5 [m0, m1] [(.ver, .num 1), (.tmp 0, .val false [.imm T_A3 p0 (some 0)]), (.tmp 1, .val false [.int .i64 p1]), (.tmp 5, .val false [.int .i64 p2]), (.tmp 6, .val false [.int .i64 p3])]
theorem e_laws_heldIntA3S (n : Nat) (a0 : List D_A3) (a1 : Int) : runF (X_laws_heldIntA3S n) B_laws_heldIntA3S As_laws_heldIntA3S R_laws_heldIntA3S M_laws_heldIntA3S (a0, a1, ()) = 
  L_laws_heldIntA3S_2 n n a0 a1 0 := by kernel_rfl
theorem e_laws_heldIntA3S_2 (n : Nat) (m0 : Nat) (p0 : List D_A3) (p1 : Int) (p2 : Int) : L_laws_heldIntA3S_2 n (m0 + 1) p0 p1 p2 = 
  bif decide (p2 < (List.length p0 : Int)) then
    L_laws_heldIntA3S_5 n m0 n p0 p1 p2 0
  else
    some (p1, ()) := by kernel_rfl
theorem e_laws_heldIntA3S_5 (n : Nat) (m0 m1 : Nat) (p0 : List D_A3) (p1 : Int) (p2 : Int) (p3 : Int) : L_laws_heldIntA3S_5 n m0 (m1 + 1) p0 p1 p2 p3 = 
  bif decide (p3 < 3) then
    bif inB p2 (List.length p0) then
      bif inB p3 3 then
        bif !decide ((bif decide (p3 = (0 : Int)) then ((nth T_A3 p0 p2)).1 else (bif decide (p3 = (1 : Int)) then (((nth T_A3 p0 p2)).2).1 else ((((nth T_A3 p0 p2)).2).2).1)) = p1) then
          some ((-1), ())
        else
          L_laws_heldIntA3S_5 n m0 m1 p0 (IntKind.wrap .i64 (p1 + 1)) p2 (IntKind.wrap .i64 (p3 + 1))
      else none
    else none
  else
    L_laws_heldIntA3S_2 n m0 p0 p1 (IntKind.wrap .i64 (p2 + 1)) := by kernel_rfl
noncomputable def P_laws_heldIntA3S : Ft_laws_heldIntA3S := hid (runF (X_laws_heldIntA3S N) B_laws_heldIntA3S As_laws_heldIntA3S R_laws_heldIntA3S M_laws_heldIntA3S)
theorem h_laws_heldIntA3S : P_laws_heldIntA3S = runF (X_laws_heldIntA3S N) B_laws_heldIntA3S As_laws_heldIntA3S R_laws_heldIntA3S M_laws_heldIntA3S := hid_eq _
noncomputable def C_laws_heldIntA3S : Contract := ⟨As_laws_heldIntA3S, R_laws_heldIntA3S, M_laws_heldIntA3S, P_laws_heldIntA3S⟩
theorem s_laws_heldIntA3S : Sound Tryz.prog GG 50 C_laws_heldIntA3S := by
  unfold C_laws_heldIntA3S; rw [h_laws_heldIntA3S]
  exact sound_of_run (fn := Tryz.f50) hmix hstable (tyOK_of ttOK) (hglob (X_laws_heldIntA3S N)) (conOK_of (X := X_laws_heldIntA3S N) trivial) (mconOK_of (X := X_laws_heldIntA3S N) trivial) (by kernel_rfl) (by kernel_rfl) (by kernel_rfl) (by kernel_rfl) (by kernel_rfl) (of_decide_eq_true (by kernel_rfl))
noncomputable def l_laws_heldIntA3S_2 : Nat → (List D_A3) → Int → Int → Option (denL R_laws_heldIntA3S) := hid (fun m0 p0 p1 p2 => L_laws_heldIntA3S_2 N m0 p0 p1 p2)
theorem h_laws_heldIntA3S_2 : l_laws_heldIntA3S_2 = fun m0 p0 p1 p2 => L_laws_heldIntA3S_2 N m0 p0 p1 p2 := hid_eq _
noncomputable def l_laws_heldIntA3S_5 : Nat → Nat → (List D_A3) → Int → Int → Int → Option (denL R_laws_heldIntA3S) := hid (fun m0 m1 p0 p1 p2 p3 => L_laws_heldIntA3S_5 N m0 m1 p0 p1 p2 p3)
theorem h_laws_heldIntA3S_5 : l_laws_heldIntA3S_5 = fun m0 m1 p0 p1 p2 p3 => L_laws_heldIntA3S_5 N m0 m1 p0 p1 p2 p3 := hid_eq _
theorem p_laws_heldIntA3S (a0 : List D_A3) (a1 : Int) : P_laws_heldIntA3S (a0, a1, ()) = 
  l_laws_heldIntA3S_2 N a0 a1 0 := by
  rewrite [h_laws_heldIntA3S, h_laws_heldIntA3S_2]
  exact e_laws_heldIntA3S N a0 a1
theorem q_laws_heldIntA3S_2 (m0 : Nat) (p0 : List D_A3) (p1 : Int) (p2 : Int) : l_laws_heldIntA3S_2 (m0 + 1) p0 p1 p2 = 
  bif decide (p2 < (List.length p0 : Int)) then
    l_laws_heldIntA3S_5 m0 N p0 p1 p2 0
  else
    some (p1, ()) := by
  rewrite [h_laws_heldIntA3S_2, h_laws_heldIntA3S_5]
  exact e_laws_heldIntA3S_2 N m0 p0 p1 p2
theorem q_laws_heldIntA3S_5 (m0 m1 : Nat) (p0 : List D_A3) (p1 : Int) (p2 : Int) (p3 : Int) : l_laws_heldIntA3S_5 m0 (m1 + 1) p0 p1 p2 p3 = 
  bif decide (p3 < 3) then
    bif inB p2 (List.length p0) then
      bif inB p3 3 then
        bif !decide ((bif decide (p3 = (0 : Int)) then ((nth T_A3 p0 p2)).1 else (bif decide (p3 = (1 : Int)) then (((nth T_A3 p0 p2)).2).1 else ((((nth T_A3 p0 p2)).2).2).1)) = p1) then
          some ((-1), ())
        else
          l_laws_heldIntA3S_5 m0 m1 p0 (IntKind.wrap .i64 (p1 + 1)) p2 (IntKind.wrap .i64 (p3 + 1))
      else none
    else none
  else
    l_laws_heldIntA3S_2 m0 p0 p1 (IntKind.wrap .i64 (p2 + 1)) := by
  rewrite [h_laws_heldIntA3S_2, h_laws_heldIntA3S_5]
  exact e_laws_heldIntA3S_5 N m0 m1 p0 p1 p2 p3

/- 28: loop.example/g01166/laws.heldHeap -/
abbrev As_laws_heldHeap : List ATy := [.data true T_Heap, .data false (.int .i64)]
abbrev R_laws_heldHeap : List (Bool × Ty) := [(false, (.int .i64))]
abbrev M_laws_heldHeap : List RMode := []
abbrev Ft_laws_heldHeap : Type := D_Heap × Int × Unit → Option (Int × Unit)
noncomputable def X_laws_heldHeap (n : Nat) (F_laws_heldIntA3S : Ft_laws_heldIntA3S) : Ctx := { types := TT, globals := [], con := [(50, ⟨As_laws_heldIntA3S, R_laws_heldIntA3S, M_laws_heldIntA3S, F_laws_heldIntA3S⟩)], keep := [], results := [.tmp 4], ntmps := 12, n := n }
noncomputable def B_laws_heldHeap : Code := (Tryz.f28.body).getD .skip
theorem e_laws_heldHeap (n : Nat) (F_laws_heldIntA3S : Ft_laws_heldIntA3S) (a0 : D_Heap) (a1 : Int) : runF (X_laws_heldHeap n F_laws_heldIntA3S) B_laws_heldHeap As_laws_heldHeap R_laws_heldHeap M_laws_heldHeap (a0, a1, ()) = 
  Option.bind (F_laws_heldIntA3S (a0.2.2.2.1, a1, ())) fun r0 =>
  bif decide (r0.1 < 0) then
    some ((-1), ())
  else
    some (r0.1, ()) := by kernel_rfl
noncomputable def P_laws_heldHeap : Ft_laws_heldHeap := hid (runF (X_laws_heldHeap N P_laws_heldIntA3S) B_laws_heldHeap As_laws_heldHeap R_laws_heldHeap M_laws_heldHeap)
theorem h_laws_heldHeap : P_laws_heldHeap = runF (X_laws_heldHeap N P_laws_heldIntA3S) B_laws_heldHeap As_laws_heldHeap R_laws_heldHeap M_laws_heldHeap := hid_eq _
noncomputable def C_laws_heldHeap : Contract := ⟨As_laws_heldHeap, R_laws_heldHeap, M_laws_heldHeap, P_laws_heldHeap⟩
theorem s_laws_heldHeap : Sound Tryz.prog GG 28 C_laws_heldHeap := by
  unfold C_laws_heldHeap; rw [h_laws_heldHeap]
  exact sound_of_run (fn := Tryz.f28) hmix hstable (tyOK_of ttOK) (hglob (X_laws_heldHeap N P_laws_heldIntA3S)) (conOK_of (X := X_laws_heldHeap N P_laws_heldIntA3S) ⟨s_laws_heldIntA3S, trivial⟩) (mconOK_of (X := X_laws_heldHeap N P_laws_heldIntA3S) trivial) (by kernel_rfl) (by kernel_rfl) (by kernel_rfl) (by kernel_rfl) (by kernel_rfl) (of_decide_eq_true (by kernel_rfl))
theorem p_laws_heldHeap (a0 : D_Heap) (a1 : Int) : P_laws_heldHeap (a0, a1, ()) = 
  Option.bind (P_laws_heldIntA3S (a0.2.2.2.1, a1, ())) fun r0 =>
  bif decide (r0.1 < 0) then
    some ((-1), ())
  else
    some (r0.1, ()) := by
  rewrite [h_laws_heldHeap]
  exact e_laws_heldHeap N P_laws_heldIntA3S a0 a1

/- 12: loop.example/g01166/laws.heldBench -/
abbrev As_laws_heldBench : List ATy := [.data true T_Bench, .data false (.int .i64)]
abbrev R_laws_heldBench : List (Bool × Ty) := [(false, (.int .i64))]
abbrev M_laws_heldBench : List RMode := []
abbrev Ft_laws_heldBench : Type := D_Bench × Int × Unit → Option (Int × Unit)
noncomputable def X_laws_heldBench (n : Nat) (F_laws_heldHeap : Ft_laws_heldHeap) : Ctx := { types := TT, globals := [], con := [(28, ⟨As_laws_heldHeap, R_laws_heldHeap, M_laws_heldHeap, F_laws_heldHeap⟩)], keep := [], results := [.tmp 4], ntmps := 12, n := n }
noncomputable def B_laws_heldBench : Code := (Tryz.f12.body).getD .skip
theorem e_laws_heldBench (n : Nat) (F_laws_heldHeap : Ft_laws_heldHeap) (a0 : D_Bench) (a1 : Int) : runF (X_laws_heldBench n F_laws_heldHeap) B_laws_heldBench As_laws_heldBench R_laws_heldBench M_laws_heldBench (a0, a1, ()) = 
  Option.bind (F_laws_heldHeap (a0.1, a1, ())) fun r0 =>
  bif decide (r0.1 < 0) then
    some ((-1), ())
  else
    some (r0.1, ()) := by kernel_rfl
noncomputable def P_laws_heldBench : Ft_laws_heldBench := hid (runF (X_laws_heldBench N P_laws_heldHeap) B_laws_heldBench As_laws_heldBench R_laws_heldBench M_laws_heldBench)
theorem h_laws_heldBench : P_laws_heldBench = runF (X_laws_heldBench N P_laws_heldHeap) B_laws_heldBench As_laws_heldBench R_laws_heldBench M_laws_heldBench := hid_eq _
noncomputable def C_laws_heldBench : Contract := ⟨As_laws_heldBench, R_laws_heldBench, M_laws_heldBench, P_laws_heldBench⟩
theorem s_laws_heldBench : Sound Tryz.prog GG 12 C_laws_heldBench := by
  unfold C_laws_heldBench; rw [h_laws_heldBench]
  exact sound_of_run (fn := Tryz.f12) hmix hstable (tyOK_of ttOK) (hglob (X_laws_heldBench N P_laws_heldHeap)) (conOK_of (X := X_laws_heldBench N P_laws_heldHeap) ⟨s_laws_heldHeap, trivial⟩) (mconOK_of (X := X_laws_heldBench N P_laws_heldHeap) trivial) (by kernel_rfl) (by kernel_rfl) (by kernel_rfl) (by kernel_rfl) (by kernel_rfl) (of_decide_eq_true (by kernel_rfl))
theorem p_laws_heldBench (a0 : D_Bench) (a1 : Int) : P_laws_heldBench (a0, a1, ()) = 
  Option.bind (P_laws_heldHeap (a0.1, a1, ())) fun r0 =>
  bif decide (r0.1 < 0) then
    some ((-1), ())
  else
    some (r0.1, ()) := by
  rewrite [h_laws_heldBench]
  exact e_laws_heldBench N P_laws_heldHeap a0 a1

/- 3: loop.example/g01166/laws.FnExactDoAct -/
abbrev As_laws_FnExactDoAct : List ATy := [.data true T_Bench, .data true T_Act]
abbrev R_laws_FnExactDoAct : List (Bool × Ty) := [(false, .bool)]
abbrev M_laws_FnExactDoAct : List RMode := []
abbrev Ft_laws_FnExactDoAct : Type := D_Bench × D_Act × Unit → Option (Bool × Unit)
noncomputable def X_laws_FnExactDoAct (n : Nat) (F_laws_szBench : Ft_laws_szBench) (F_spec_DoAct : Ft_spec_DoAct) (F_laws_toBench : Ft_laws_toBench) (F_laws_toAct : Ft_laws_toAct) (F_impl_DoAct : Ft_impl_DoAct) (F_laws_eqBench : Ft_laws_eqBench) (F_laws_markBench : Ft_laws_markBench) (F_laws_heldBench : Ft_laws_heldBench) : Ctx := { types := TT, globals := [], con := [(5, ⟨As_laws_szBench, R_laws_szBench, M_laws_szBench, F_laws_szBench⟩), (6, ⟨As_spec_DoAct, R_spec_DoAct, M_spec_DoAct, F_spec_DoAct⟩), (7, ⟨As_laws_toBench, R_laws_toBench, M_laws_toBench, F_laws_toBench⟩), (8, ⟨As_laws_toAct, R_laws_toAct, M_laws_toAct, F_laws_toAct⟩), (9, ⟨As_impl_DoAct, R_impl_DoAct, M_impl_DoAct, F_impl_DoAct⟩), (10, ⟨As_laws_eqBench, R_laws_eqBench, M_laws_eqBench, F_laws_eqBench⟩), (12, ⟨As_laws_heldBench, R_laws_heldBench, M_laws_heldBench, F_laws_heldBench⟩)], mcon := [(11, ⟨As_laws_markBench, R_laws_markBench, M_laws_markBench, F_laws_markBench⟩)], keep := [], results := [.tmp 4], ntmps := 104, n := n }
noncomputable def B_laws_FnExactDoAct : Code := (Tryz.f3.body).getD .skip
theorem e_laws_FnExactDoAct (n : Nat) (F_laws_szBench : Ft_laws_szBench) (F_spec_DoAct : Ft_spec_DoAct) (F_laws_toBench : Ft_laws_toBench) (F_laws_toAct : Ft_laws_toAct) (F_impl_DoAct : Ft_impl_DoAct) (F_laws_eqBench : Ft_laws_eqBench) (F_laws_markBench : Ft_laws_markBench) (F_laws_heldBench : Ft_laws_heldBench) (a0 : D_Bench) (a1 : D_Act) : runF (X_laws_FnExactDoAct n F_laws_szBench F_spec_DoAct F_laws_toBench F_laws_toAct F_impl_DoAct F_laws_eqBench F_laws_markBench F_laws_heldBench) B_laws_FnExactDoAct As_laws_FnExactDoAct R_laws_FnExactDoAct M_laws_FnExactDoAct (a0, a1, ()) = 
  Option.bind (F_laws_szBench (a0, 1048576, ())) fun r0 =>
  bif decide (r0.1 < 0) then
    some (true, ())
  else
    Option.bind (F_laws_toBench (a0, ())) fun r2 =>
    Option.bind (F_laws_toAct (a1, ())) fun r3 =>
    Option.bind (F_spec_DoAct (r2.1, r3.1, ())) fun r4 =>
    Option.bind (F_laws_toBench (a0, ())) fun r5 =>
    Option.bind (F_laws_toAct (a1, ())) fun r6 =>
    Option.bind (F_impl_DoAct (r5.1, r6.1, ())) fun r7 =>
    Option.bind (F_laws_eqBench (r7.1, r4.1, ())) fun r8 =>
    bif !r8.1 then
      some (false, ())
    else
      bif !(r7.2.1 == r4.2.1) then
        some (false, ())
      else
        Option.bind (F_laws_toBench (a0, ())) fun r11 =>
        Option.bind (F_laws_eqBench (r5.1, r11.1, ())) fun r12 =>
        bif !r12.1 then
          some (false, ())
        else
          Option.bind (F_laws_markBench (r5.1, 1, ())) fun r14 =>
          bif decide (r14.1.1 < 0) then
            some (false, ())
          else
            Option.bind (F_laws_eqBench (r7.1, r4.1, ())) fun r16 =>
            bif !r16.1 then
              some (false, ())
            else
              bif !(r7.2.1 == r4.2.1) then
                some (false, ())
              else
                Option.bind (F_laws_markBench (r7.1, 1, ())) fun r19 =>
                Option.bind (F_laws_heldBench (((r7.1.1.1, (r7.1.1.2.1, (r7.1.1.2.2.1, r19.2.1.1.2.2.2))), r7.1.2), 1, ())) fun r20 =>
                bif decide (r20.1 < 0) then
                  some (false, ())
                else
                  bif !decide (r20.1 = r19.1.1) then
                    some (false, ())
                  else
                    Option.bind (F_laws_toBench (a0, ())) fun r23 =>
                    Option.bind (F_laws_toAct (a1, ())) fun r24 =>
                    Option.bind (F_impl_DoAct (r23.1, r24.1, ())) fun r25 =>
                    Option.bind (F_laws_eqBench (r25.1, r4.1, ())) fun r26 =>
                    bif !r26.1 then
                      some (false, ())
                    else
                      bif !(r25.2.1 == r4.2.1) then
                        some (false, ())
                      else
                        Option.bind (F_laws_heldBench (((r7.1.1.1, (r7.1.1.2.1, (r7.1.1.2.2.1, r19.2.1.1.2.2.2))), r7.1.2), 1, ())) fun r29 =>
                        bif decide (r29.1 < 0) then
                          some (false, ())
                        else
                          bif !decide (r29.1 = r19.1.1) then
                            some (false, ())
                          else
                            some (true, ()) := by kernel_rfl
noncomputable def P_laws_FnExactDoAct : Ft_laws_FnExactDoAct := hid (runF (X_laws_FnExactDoAct N P_laws_szBench P_spec_DoAct P_laws_toBench P_laws_toAct P_impl_DoAct P_laws_eqBench P_laws_markBench P_laws_heldBench) B_laws_FnExactDoAct As_laws_FnExactDoAct R_laws_FnExactDoAct M_laws_FnExactDoAct)
theorem h_laws_FnExactDoAct : P_laws_FnExactDoAct = runF (X_laws_FnExactDoAct N P_laws_szBench P_spec_DoAct P_laws_toBench P_laws_toAct P_impl_DoAct P_laws_eqBench P_laws_markBench P_laws_heldBench) B_laws_FnExactDoAct As_laws_FnExactDoAct R_laws_FnExactDoAct M_laws_FnExactDoAct := hid_eq _
noncomputable def C_laws_FnExactDoAct : Contract := ⟨As_laws_FnExactDoAct, R_laws_FnExactDoAct, M_laws_FnExactDoAct, P_laws_FnExactDoAct⟩
theorem s_laws_FnExactDoAct : Sound Tryz.prog GG 3 C_laws_FnExactDoAct := by
  unfold C_laws_FnExactDoAct; rw [h_laws_FnExactDoAct]
  exact sound_of_run (fn := Tryz.f3) hmix hstable (tyOK_of ttOK) (hglob (X_laws_FnExactDoAct N P_laws_szBench P_spec_DoAct P_laws_toBench P_laws_toAct P_impl_DoAct P_laws_eqBench P_laws_markBench P_laws_heldBench)) (conOK_of (X := X_laws_FnExactDoAct N P_laws_szBench P_spec_DoAct P_laws_toBench P_laws_toAct P_impl_DoAct P_laws_eqBench P_laws_markBench P_laws_heldBench) ⟨s_laws_szBench, s_spec_DoAct, s_laws_toBench, s_laws_toAct, s_impl_DoAct, s_laws_eqBench, s_laws_heldBench, trivial⟩) (mconOK_of (X := X_laws_FnExactDoAct N P_laws_szBench P_spec_DoAct P_laws_toBench P_laws_toAct P_impl_DoAct P_laws_eqBench P_laws_markBench P_laws_heldBench) ⟨s_laws_markBench, trivial⟩) (by kernel_rfl) (by kernel_rfl) (by kernel_rfl) (by kernel_rfl) (by kernel_rfl) (of_decide_eq_true (by kernel_rfl))
theorem p_laws_FnExactDoAct (a0 : D_Bench) (a1 : D_Act) : P_laws_FnExactDoAct (a0, a1, ()) = 
  Option.bind (P_laws_szBench (a0, 1048576, ())) fun r0 =>
  bif decide (r0.1 < 0) then
    some (true, ())
  else
    Option.bind (P_laws_toBench (a0, ())) fun r2 =>
    Option.bind (P_laws_toAct (a1, ())) fun r3 =>
    Option.bind (P_spec_DoAct (r2.1, r3.1, ())) fun r4 =>
    Option.bind (P_laws_toBench (a0, ())) fun r5 =>
    Option.bind (P_laws_toAct (a1, ())) fun r6 =>
    Option.bind (P_impl_DoAct (r5.1, r6.1, ())) fun r7 =>
    Option.bind (P_laws_eqBench (r7.1, r4.1, ())) fun r8 =>
    bif !r8.1 then
      some (false, ())
    else
      bif !(r7.2.1 == r4.2.1) then
        some (false, ())
      else
        Option.bind (P_laws_toBench (a0, ())) fun r11 =>
        Option.bind (P_laws_eqBench (r5.1, r11.1, ())) fun r12 =>
        bif !r12.1 then
          some (false, ())
        else
          Option.bind (P_laws_markBench (r5.1, 1, ())) fun r14 =>
          bif decide (r14.1.1 < 0) then
            some (false, ())
          else
            Option.bind (P_laws_eqBench (r7.1, r4.1, ())) fun r16 =>
            bif !r16.1 then
              some (false, ())
            else
              bif !(r7.2.1 == r4.2.1) then
                some (false, ())
              else
                Option.bind (P_laws_markBench (r7.1, 1, ())) fun r19 =>
                Option.bind (P_laws_heldBench (((r7.1.1.1, (r7.1.1.2.1, (r7.1.1.2.2.1, r19.2.1.1.2.2.2))), r7.1.2), 1, ())) fun r20 =>
                bif decide (r20.1 < 0) then
                  some (false, ())
                else
                  bif !decide (r20.1 = r19.1.1) then
                    some (false, ())
                  else
                    Option.bind (P_laws_toBench (a0, ())) fun r23 =>
                    Option.bind (P_laws_toAct (a1, ())) fun r24 =>
                    Option.bind (P_impl_DoAct (r23.1, r24.1, ())) fun r25 =>
                    Option.bind (P_laws_eqBench (r25.1, r4.1, ())) fun r26 =>
                    bif !r26.1 then
                      some (false, ())
                    else
                      bif !(r25.2.1 == r4.2.1) then
                        some (false, ())
                      else
                        Option.bind (P_laws_heldBench (((r7.1.1.1, (r7.1.1.2.1, (r7.1.1.2.2.1, r19.2.1.1.2.2.2))), r7.1.2), 1, ())) fun r29 =>
                        bif decide (r29.1 < 0) then
                          some (false, ())
                        else
                          bif !decide (r29.1 = r19.1.1) then
                            some (false, ())
                          else
                            some (true, ()) := by
  rewrite [h_laws_FnExactDoAct]
  exact e_laws_FnExactDoAct N P_laws_szBench P_spec_DoAct P_laws_toBench P_laws_toAct P_impl_DoAct P_laws_eqBench P_laws_markBench P_laws_heldBench a0 a1

/- 13: loop.example/g01166/laws.szActS -/
abbrev As_laws_szActS : List ATy := [.data false (.sl T_Act), .data false (.int .i64)]
abbrev R_laws_szActS : List (Bool × Ty) := [(false, (.int .i64))]
abbrev M_laws_szActS : List RMode := []
abbrev Ft_laws_szActS : Type := (List D_Act) × Int × Unit → Option (Int × Unit)
noncomputable def X_laws_szActS (n : Nat) : Ctx := { types := TT, globals := [], con := [], keep := [], results := [.tmp 4], ntmps := 12, n := n }
noncomputable def B_laws_szActS : Code := (Tryz.f13.body).getD .skip
theorem e_laws_szActS (n : Nat) (a0 : List D_Act) (a1 : Int) : runF (X_laws_szActS n) B_laws_szActS As_laws_szActS R_laws_szActS M_laws_szActS (a0, a1, ()) = 
  bif decide ((IntKind.wrap .i64 (a1 - (List.length a0 : Int))) < 0) then
    some ((-1), ())
  else
    some ((IntKind.wrap .i64 (a1 - (List.length a0 : Int))), ()) := by kernel_rfl
noncomputable def P_laws_szActS : Ft_laws_szActS := hid (runF (X_laws_szActS N) B_laws_szActS As_laws_szActS R_laws_szActS M_laws_szActS)
theorem h_laws_szActS : P_laws_szActS = runF (X_laws_szActS N) B_laws_szActS As_laws_szActS R_laws_szActS M_laws_szActS := hid_eq _
noncomputable def C_laws_szActS : Contract := ⟨As_laws_szActS, R_laws_szActS, M_laws_szActS, P_laws_szActS⟩
theorem s_laws_szActS : Sound Tryz.prog GG 13 C_laws_szActS := by
  unfold C_laws_szActS; rw [h_laws_szActS]
  exact sound_of_run (fn := Tryz.f13) hmix hstable (tyOK_of ttOK) (hglob (X_laws_szActS N)) (conOK_of (X := X_laws_szActS N) trivial) (mconOK_of (X := X_laws_szActS N) trivial) (by kernel_rfl) (by kernel_rfl) (by kernel_rfl) (by kernel_rfl) (by kernel_rfl) (of_decide_eq_true (by kernel_rfl))
theorem p_laws_szActS (a0 : List D_Act) (a1 : Int) : P_laws_szActS (a0, a1, ()) = 
  bif decide ((IntKind.wrap .i64 (a1 - (List.length a0 : Int))) < 0) then
    some ((-1), ())
  else
    some ((IntKind.wrap .i64 (a1 - (List.length a0 : Int))), ()) := by
  rewrite [h_laws_szActS]
  exact e_laws_szActS N a0 a1

/- 14: loop.example/g01166/spec.DoActs -/
abbrev As_spec_DoActs : List ATy := [.data true T_Bench, .data false (.sl T_Act)]
abbrev R_spec_DoActs : List (Bool × Ty) := [(true, T_Bench), (false, (.int .i64)), (false, .bool)]
abbrev M_spec_DoActs : List RMode := [.own 27]
abbrev Ft_spec_DoActs : Type := D_Bench × (List D_Act) × Unit → Option (D_Bench × Int × Bool × Unit)
noncomputable def X_spec_DoActs (n : Nat) (F_spec_l12Good : Ft_spec_l12Good) (F_spec_l12Do : Ft_spec_l12Do) (F_spec_l12Own : Ft_spec_l12Own) : Ctx := { types := TT, globals := [], con := [(20, ⟨As_spec_l12Good, R_spec_l12Good, M_spec_l12Good, F_spec_l12Good⟩), (21, ⟨As_spec_l12Do, R_spec_l12Do, M_spec_l12Do, F_spec_l12Do⟩), (29, ⟨As_spec_l12Own, R_spec_l12Own, M_spec_l12Own, F_spec_l12Own⟩)], keep := [(5, ⟨[.box 4, .box 7, .tmp 1, .tmp 4, .tmp 7, .tmp 8], []⟩)], results := [.cell 4 33, .tmp 5, .tmp 6], ntmps := 40, n := n }
noncomputable def B_spec_DoActs : Code := (Tryz.f14.body).getD .skip
noncomputable def L_spec_DoActs_5 (n : Nat) (F_spec_l12Good : Ft_spec_l12Good) (F_spec_l12Do : Ft_spec_l12Do) (F_spec_l12Own : Ft_spec_l12Own) (m0 : Nat) (p0 : Int) (p1 : Int) (p2 : Int) (p3 : List D_A3) (p4 : Int) (p5 : Int) (p6 : Int) (p7 : Int) (p8 : Int) (p9 : List D_A3) (p10 : Int) (p11 : Int) (p12 : List D_Act) (p13 : Int) : Option (denL R_spec_DoActs) := loopF (X_spec_DoActs n F_spec_l12Good F_spec_l12Do F_spec_l12Own) B_spec_DoActs R_spec_DoActs M_spec_DoActs 5 [m0] [(.ver, .num 1), (.box 4, .box 0 false [.int .i64 p0, .int .i64 p1, .int .i64 p2, .own 27 T_A3 0 p3, .int .i64 p4, .int .i64 p5]), (.box 7, .box 0 false [.int .i64 p6, .int .i64 p7, .int .i64 p8, .own 27 T_A3 0 p9, .int .i64 p10, .int .i64 p11]), (.tmp 1, .val false [.imm T_Act p12 (some 6)]), (.tmp 4, .val false [.addr 4 0 0]), (.tmp 7, .val false [.addr 7 0 0]), (.tmp 8, .val false [.int .i64 p13])]
theorem e_spec_DoActs (n : Nat) (F_spec_l12Good : Ft_spec_l12Good) (F_spec_l12Do : Ft_spec_l12Do) (F_spec_l12Own : Ft_spec_l12Own) (a0 : D_Bench) (a1 : List D_Act) : runF (X_spec_DoActs n F_spec_l12Good F_spec_l12Do F_spec_l12Own) B_spec_DoActs As_spec_DoActs R_spec_DoActs M_spec_DoActs (a0, a1, ()) = 
  Option.bind (F_spec_l12Good (a0, ())) fun r0 =>
  bif !r0.1 then
    some (((0, (0, (0, (([] : List D_A3), ())))), (0, (0, ()))), 0, false, ())
  else
    Option.bind (F_spec_l12Own (a0, ())) fun r2 =>
    L_spec_DoActs_5 n F_spec_l12Good F_spec_l12Do F_spec_l12Own n 0 0 0 ([] : List D_A3) 0 0 r2.1.1.1 r2.1.1.2.1 r2.1.1.2.2.1 r2.1.1.2.2.2.1 r2.1.2.1 r2.1.2.2.1 a1 0 := by kernel_rfl
theorem e_spec_DoActs_5 (n : Nat) (F_spec_l12Good : Ft_spec_l12Good) (F_spec_l12Do : Ft_spec_l12Do) (F_spec_l12Own : Ft_spec_l12Own) (m0 : Nat) (p0 : Int) (p1 : Int) (p2 : Int) (p3 : List D_A3) (p4 : Int) (p5 : Int) (p6 : Int) (p7 : Int) (p8 : Int) (p9 : List D_A3) (p10 : Int) (p11 : Int) (p12 : List D_Act) (p13 : Int) : L_spec_DoActs_5 n F_spec_l12Good F_spec_l12Do F_spec_l12Own (m0 + 1) p0 p1 p2 p3 p4 p5 p6 p7 p8 p9 p10 p11 p12 p13 = 
  bif decide (p13 < (List.length p12 : Int)) then
    bif inB p13 (List.length p12) then
      Option.bind (F_spec_l12Do (((p6, (p7, (p8, (p9, ())))), (p10, (p11, ()))), (nth T_Act p12 p13), ())) fun r2 =>
      bif !r2.2.1 then
        some (((p6, (p7, (p8, (p9, ())))), (p10, (p11, ()))), p13, true, ())
      else
        L_spec_DoActs_5 n F_spec_l12Good F_spec_l12Do F_spec_l12Own m0 p0 p1 p2 p3 p4 p5 r2.1.1.1 r2.1.1.2.1 r2.1.1.2.2.1 r2.1.1.2.2.2.1 r2.1.2.1 r2.1.2.2.1 p12 (IntKind.wrap .i64 (p13 + 1))
    else none
  else
    some (((p6, (p7, (p8, (p9, ())))), (p10, (p11, ()))), (List.length p12 : Int), true, ()) := by kernel_rfl
noncomputable def P_spec_DoActs : Ft_spec_DoActs := hid (runF (X_spec_DoActs N P_spec_l12Good P_spec_l12Do P_spec_l12Own) B_spec_DoActs As_spec_DoActs R_spec_DoActs M_spec_DoActs)
theorem h_spec_DoActs : P_spec_DoActs = runF (X_spec_DoActs N P_spec_l12Good P_spec_l12Do P_spec_l12Own) B_spec_DoActs As_spec_DoActs R_spec_DoActs M_spec_DoActs := hid_eq _
noncomputable def C_spec_DoActs : Contract := ⟨As_spec_DoActs, R_spec_DoActs, M_spec_DoActs, P_spec_DoActs⟩
theorem s_spec_DoActs : Sound Tryz.prog GG 14 C_spec_DoActs := by
  unfold C_spec_DoActs; rw [h_spec_DoActs]
  exact sound_of_run (fn := Tryz.f14) hmix hstable (tyOK_of ttOK) (hglob (X_spec_DoActs N P_spec_l12Good P_spec_l12Do P_spec_l12Own)) (conOK_of (X := X_spec_DoActs N P_spec_l12Good P_spec_l12Do P_spec_l12Own) ⟨s_spec_l12Good, s_spec_l12Do, s_spec_l12Own, trivial⟩) (mconOK_of (X := X_spec_DoActs N P_spec_l12Good P_spec_l12Do P_spec_l12Own) trivial) (by kernel_rfl) (by kernel_rfl) (by kernel_rfl) (by kernel_rfl) (by kernel_rfl) (of_decide_eq_true (by kernel_rfl))
noncomputable def l_spec_DoActs_5 : Nat → Int → Int → Int → (List D_A3) → Int → Int → Int → Int → Int → (List D_A3) → Int → Int → (List D_Act) → Int → Option (denL R_spec_DoActs) := hid (fun m0 p0 p1 p2 p3 p4 p5 p6 p7 p8 p9 p10 p11 p12 p13 => L_spec_DoActs_5 N P_spec_l12Good P_spec_l12Do P_spec_l12Own m0 p0 p1 p2 p3 p4 p5 p6 p7 p8 p9 p10 p11 p12 p13)
theorem h_spec_DoActs_5 : l_spec_DoActs_5 = fun m0 p0 p1 p2 p3 p4 p5 p6 p7 p8 p9 p10 p11 p12 p13 => L_spec_DoActs_5 N P_spec_l12Good P_spec_l12Do P_spec_l12Own m0 p0 p1 p2 p3 p4 p5 p6 p7 p8 p9 p10 p11 p12 p13 := hid_eq _
theorem p_spec_DoActs (a0 : D_Bench) (a1 : List D_Act) : P_spec_DoActs (a0, a1, ()) = 
  Option.bind (P_spec_l12Good (a0, ())) fun r0 =>
  bif !r0.1 then
    some (((0, (0, (0, (([] : List D_A3), ())))), (0, (0, ()))), 0, false, ())
  else
    Option.bind (P_spec_l12Own (a0, ())) fun r2 =>
    l_spec_DoActs_5 N 0 0 0 ([] : List D_A3) 0 0 r2.1.1.1 r2.1.1.2.1 r2.1.1.2.2.1 r2.1.1.2.2.2.1 r2.1.2.1 r2.1.2.2.1 a1 0 := by
  rewrite [h_spec_DoActs, h_spec_DoActs_5]
  exact e_spec_DoActs N P_spec_l12Good P_spec_l12Do P_spec_l12Own a0 a1
theorem q_spec_DoActs_5 (m0 : Nat) (p0 : Int) (p1 : Int) (p2 : Int) (p3 : List D_A3) (p4 : Int) (p5 : Int) (p6 : Int) (p7 : Int) (p8 : Int) (p9 : List D_A3) (p10 : Int) (p11 : Int) (p12 : List D_Act) (p13 : Int) : l_spec_DoActs_5 (m0 + 1) p0 p1 p2 p3 p4 p5 p6 p7 p8 p9 p10 p11 p12 p13 = 
  bif decide (p13 < (List.length p12 : Int)) then
    bif inB p13 (List.length p12) then
      Option.bind (P_spec_l12Do (((p6, (p7, (p8, (p9, ())))), (p10, (p11, ()))), (nth T_Act p12 p13), ())) fun r2 =>
      bif !r2.2.1 then
        some (((p6, (p7, (p8, (p9, ())))), (p10, (p11, ()))), p13, true, ())
      else
        l_spec_DoActs_5 m0 p0 p1 p2 p3 p4 p5 r2.1.1.1 r2.1.1.2.1 r2.1.1.2.2.1 r2.1.1.2.2.2.1 r2.1.2.1 r2.1.2.2.1 p12 (IntKind.wrap .i64 (p13 + 1))
    else none
  else
    some (((p6, (p7, (p8, (p9, ())))), (p10, (p11, ()))), (List.length p12 : Int), true, ()) := by
  rewrite [h_spec_DoActs_5]
  exact e_spec_DoActs_5 N P_spec_l12Good P_spec_l12Do P_spec_l12Own m0 p0 p1 p2 p3 p4 p5 p6 p7 p8 p9 p10 p11 p12 p13

/- 15: loop.example/g01166/laws.toActS -/
abbrev As_laws_toActS : List ATy := [.data false (.sl T_Act)]
abbrev R_laws_toActS : List (Bool × Ty) := [(false, (.sl T_Act))]
abbrev M_laws_toActS : List RMode := [.own 37]
abbrev Ft_laws_toActS : Type := (List D_Act) × Unit → Option ((List D_Act) × Unit)
noncomputable def X_laws_toActS (n : Nat) (F_laws_toAct : Ft_laws_toAct) : Ctx := { types := TT, globals := [], con := [(8, ⟨As_laws_toAct, R_laws_toAct, M_laws_toAct, F_laws_toAct⟩)], keep := [(3, ⟨[.tmp 0, .tmp 3, .tmp 4], []⟩)], results := [.tmp 2], ntmps := 23, n := n }
noncomputable def B_laws_toActS : Code := (Tryz.f15.body).getD .skip
noncomputable def L_laws_toActS_3 (n : Nat) (F_laws_toAct : Ft_laws_toAct) (m0 : Nat) (p0 : List D_Act) (p1 : List D_Act) (p2 : Int) : Option (denL R_laws_toActS) := loopF (X_laws_toActS n F_laws_toAct) B_laws_toActS R_laws_toActS M_laws_toActS 3 [m0] [(.ver, .num 1), (.tmp 0, .val false [.imm T_Act p0 (some 0)]), (.tmp 3, .val false [.own 37 T_Act 0 p1]), (.tmp 4, .val false [.int .i64 p2])]
theorem e_laws_toActS (n : Nat) (F_laws_toAct : Ft_laws_toAct) (a0 : List D_Act) : runF (X_laws_toActS n F_laws_toAct) B_laws_toActS As_laws_toActS R_laws_toActS M_laws_toActS (a0, ()) = 
  bif (decide ((0 : Int) ≤ (List.length a0 : Int)) && decide (((List.length a0 : Int) : Int) ≤ (List.length a0 : Int)) && decide (((List.length a0 : Int) : Int) * (48 : Nat) ≤ 140737488355328) && decide (((List.length a0 : Int) : Int) ≤ 140737488355328)) then
    L_laws_toActS_3 n F_laws_toAct n a0 (List.replicate (Int.toNat (List.length a0 : Int)) (Ty.dflt T_Act)) 0
  else none := by kernel_rfl
theorem e_laws_toActS_3 (n : Nat) (F_laws_toAct : Ft_laws_toAct) (m0 : Nat) (p0 : List D_Act) (p1 : List D_Act) (p2 : Int) : L_laws_toActS_3 n F_laws_toAct (m0 + 1) p0 p1 p2 = 
  bif decide (p2 < (List.length p0 : Int)) then
    bif inB p2 (List.length p0) then
      Option.bind (F_laws_toAct ((nth T_Act p0 p2), ())) fun r2 =>
      bif inB p2 (List.length p1) then
        L_laws_toActS_3 n F_laws_toAct m0 p0 (List.set p1 (Int.toNat p2) r2.1) (IntKind.wrap .i64 (p2 + 1))
      else none
    else none
  else
    some (p1, ()) := by kernel_rfl
noncomputable def P_laws_toActS : Ft_laws_toActS := hid (runF (X_laws_toActS N P_laws_toAct) B_laws_toActS As_laws_toActS R_laws_toActS M_laws_toActS)
theorem h_laws_toActS : P_laws_toActS = runF (X_laws_toActS N P_laws_toAct) B_laws_toActS As_laws_toActS R_laws_toActS M_laws_toActS := hid_eq _
noncomputable def C_laws_toActS : Contract := ⟨As_laws_toActS, R_laws_toActS, M_laws_toActS, P_laws_toActS⟩
theorem s_laws_toActS : Sound Tryz.prog GG 15 C_laws_toActS := by
  unfold C_laws_toActS; rw [h_laws_toActS]
  exact sound_of_run (fn := Tryz.f15) hmix hstable (tyOK_of ttOK) (hglob (X_laws_toActS N P_laws_toAct)) (conOK_of (X := X_laws_toActS N P_laws_toAct) ⟨s_laws_toAct, trivial⟩) (mconOK_of (X := X_laws_toActS N P_laws_toAct) trivial) (by kernel_rfl) (by kernel_rfl) (by kernel_rfl) (by kernel_rfl) (by kernel_rfl) (of_decide_eq_true (by kernel_rfl))
noncomputable def l_laws_toActS_3 : Nat → (List D_Act) → (List D_Act) → Int → Option (denL R_laws_toActS) := hid (fun m0 p0 p1 p2 => L_laws_toActS_3 N P_laws_toAct m0 p0 p1 p2)
theorem h_laws_toActS_3 : l_laws_toActS_3 = fun m0 p0 p1 p2 => L_laws_toActS_3 N P_laws_toAct m0 p0 p1 p2 := hid_eq _
theorem p_laws_toActS (a0 : List D_Act) : P_laws_toActS (a0, ()) = 
  bif (decide ((0 : Int) ≤ (List.length a0 : Int)) && decide (((List.length a0 : Int) : Int) ≤ (List.length a0 : Int)) && decide (((List.length a0 : Int) : Int) * (48 : Nat) ≤ 140737488355328) && decide (((List.length a0 : Int) : Int) ≤ 140737488355328)) then
    l_laws_toActS_3 N a0 (List.replicate (Int.toNat (List.length a0 : Int)) (Ty.dflt T_Act)) 0
  else none := by
  rewrite [h_laws_toActS, h_laws_toActS_3]
  exact e_laws_toActS N P_laws_toAct a0
theorem q_laws_toActS_3 (m0 : Nat) (p0 : List D_Act) (p1 : List D_Act) (p2 : Int) : l_laws_toActS_3 (m0 + 1) p0 p1 p2 = 
  bif decide (p2 < (List.length p0 : Int)) then
    bif inB p2 (List.length p0) then
      Option.bind (P_laws_toAct ((nth T_Act p0 p2), ())) fun r2 =>
      bif inB p2 (List.length p1) then
        l_laws_toActS_3 m0 p0 (List.set p1 (Int.toNat p2) r2.1) (IntKind.wrap .i64 (p2 + 1))
      else none
    else none
  else
    some (p1, ()) := by
  rewrite [h_laws_toActS_3]
  exact e_laws_toActS_3 N P_laws_toAct m0 p0 p1 p2

/- 30: (loop.example/g01166/impl.Bench).own -/
abbrev As_Bench_own : List ATy := [.data true T_Bench]
abbrev R_Bench_own : List (Bool × Ty) := [(true, T_Bench)]
abbrev M_Bench_own : List RMode := [.own 27]
abbrev Ft_Bench_own : Type := D_Bench × Unit → Option (D_Bench × Unit)
noncomputable def X_Bench_own (n : Nat) : Ctx := { types := TT, globals := [], con := [], keep := [], results := [.cell 2 33], ntmps := 11, n := n }
noncomputable def B_Bench_own : Code := (Tryz.f30.body).getD .skip
theorem e_Bench_own (n : Nat) (a0 : D_Bench) : runF (X_Bench_own n) B_Bench_own As_Bench_own R_Bench_own M_Bench_own (a0, ()) = 
  bif (decide (((List.length ([] : List D_A3)) + (List.length a0.1.2.2.2.1)) * 24 ≤ 140737488355328) && decide (((List.length ([] : List D_A3)) + (List.length a0.1.2.2.2.1)) ≤ 140737488355328)) then
    some (((a0.1.1, (a0.1.2.1, (a0.1.2.2.1, ((([] : List D_A3) ++ a0.1.2.2.2.1), ())))), a0.2), ())
  else none := by kernel_rfl
noncomputable def P_Bench_own : Ft_Bench_own := hid (runF (X_Bench_own N) B_Bench_own As_Bench_own R_Bench_own M_Bench_own)
theorem h_Bench_own : P_Bench_own = runF (X_Bench_own N) B_Bench_own As_Bench_own R_Bench_own M_Bench_own := hid_eq _
noncomputable def C_Bench_own : Contract := ⟨As_Bench_own, R_Bench_own, M_Bench_own, P_Bench_own⟩
theorem s_Bench_own : Sound Tryz.prog GG 30 C_Bench_own := by
  unfold C_Bench_own; rw [h_Bench_own]
  exact sound_of_run (fn := Tryz.f30) hmix hstable (tyOK_of ttOK) (hglob (X_Bench_own N)) (conOK_of (X := X_Bench_own N) trivial) (mconOK_of (X := X_Bench_own N) trivial) (by kernel_rfl) (by kernel_rfl) (by kernel_rfl) (by kernel_rfl) (by kernel_rfl) (of_decide_eq_true (by kernel_rfl))
theorem p_Bench_own (a0 : D_Bench) : P_Bench_own (a0, ()) = 
  bif (decide (((List.length ([] : List D_A3)) + (List.length a0.1.2.2.2.1)) * 24 ≤ 140737488355328) && decide (((List.length ([] : List D_A3)) + (List.length a0.1.2.2.2.1)) ≤ 140737488355328)) then
    some (((a0.1.1, (a0.1.2.1, (a0.1.2.2.1, ((([] : List D_A3) ++ a0.1.2.2.2.1), ())))), a0.2), ())
  else none := by
  rewrite [h_Bench_own]
  exact e_Bench_own N a0

/- 16: loop.example/g01166/impl.DoActs -/
abbrev As_impl_DoActs : List ATy := [.data true T_Bench, .data false (.sl T_Act)]
abbrev R_impl_DoActs : List (Bool × Ty) := [(true, T_Bench), (false, (.int .i64)), (false, .bool)]
abbrev M_impl_DoActs : List RMode := [.own 27]
abbrev Ft_impl_DoActs : Type := D_Bench × (List D_Act) × Unit → Option (D_Bench × Int × Bool × Unit)
noncomputable def X_impl_DoActs (n : Nat) (F_impl_DoAct : Ft_impl_DoAct) (F_impl_IsBench : Ft_impl_IsBench) (F_Bench_own : Ft_Bench_own) : Ctx := { types := TT, globals := [], con := [(9, ⟨As_impl_DoAct, R_impl_DoAct, M_impl_DoAct, F_impl_DoAct⟩), (24, ⟨As_impl_IsBench, R_impl_IsBench, M_impl_IsBench, F_impl_IsBench⟩), (30, ⟨As_Bench_own, R_Bench_own, M_Bench_own, F_Bench_own⟩)], keep := [(5, ⟨[.box 2, .box 4, .tmp 1, .tmp 2, .tmp 4, .tmp 17, .tmp 18, .tmp 19], []⟩)], results := [.cell 4 33, .tmp 5, .tmp 6], ntmps := 39, n := n }
noncomputable def B_impl_DoActs : Code := (Tryz.f16.body).getD .skip
noncomputable def L_impl_DoActs_5 (n : Nat) (F_impl_DoAct : Ft_impl_DoAct) (F_impl_IsBench : Ft_impl_IsBench) (F_Bench_own : Ft_Bench_own) (m0 : Nat) (p0 : Int) (p1 : Int) (p2 : Int) (p3 : List D_A3) (p4 : Int) (p5 : Int) (p6 : Int) (p7 : Int) (p8 : Int) (p9 : List D_A3) (p10 : Int) (p11 : Int) (p12 : List D_Act) (p13 : List D_Act) (p14 : Int) (p15 : Int) : Option (denL R_impl_DoActs) := loopF (X_impl_DoActs n F_impl_DoAct F_impl_IsBench F_Bench_own) B_impl_DoActs R_impl_DoActs M_impl_DoActs 5 [m0] [(.ver, .num 1), (.box 2, .box 0 false [.int .i64 p0, .int .i64 p1, .int .i64 p2, .own 27 T_A3 0 p3, .int .i64 p4, .int .i64 p5]), (.box 4, .box 0 false [.int .i64 p6, .int .i64 p7, .int .i64 p8, .own 27 T_A3 0 p9, .int .i64 p10, .int .i64 p11]), (.tmp 1, .val false [.imm T_Act p12 (some 6)]), (.tmp 2, .val false [.addr 2 0 0]), (.tmp 4, .val false [.addr 4 0 0]), (.tmp 17, .val false [.imm T_Act p13 (some 6)]), (.tmp 18, .val false [.int .i64 p14]), (.tmp 19, .val false [.int .i64 p15])]
theorem e_impl_DoActs (n : Nat) (F_impl_DoAct : Ft_impl_DoAct) (F_impl_IsBench : Ft_impl_IsBench) (F_Bench_own : Ft_Bench_own) (a0 : D_Bench) (a1 : List D_Act) : runF (X_impl_DoActs n F_impl_DoAct F_impl_IsBench F_Bench_own) B_impl_DoActs As_impl_DoActs R_impl_DoActs M_impl_DoActs (a0, a1, ()) = 
  Option.bind (F_impl_IsBench (a0, ())) fun r0 =>
  bif !r0.1 then
    some (((0, (0, (0, (([] : List D_A3), ())))), (0, (0, ()))), 0, false, ())
  else
    Option.bind (F_Bench_own (a0, ())) fun r2 =>
    L_impl_DoActs_5 n F_impl_DoAct F_impl_IsBench F_Bench_own n r2.1.1.1 r2.1.1.2.1 r2.1.1.2.2.1 r2.1.1.2.2.2.1 r2.1.2.1 r2.1.2.2.1 0 0 0 ([] : List D_A3) 0 0 a1 a1 (List.length a1 : Int) 0 := by kernel_rfl
theorem e_impl_DoActs_5 (n : Nat) (F_impl_DoAct : Ft_impl_DoAct) (F_impl_IsBench : Ft_impl_IsBench) (F_Bench_own : Ft_Bench_own) (m0 : Nat) (p0 : Int) (p1 : Int) (p2 : Int) (p3 : List D_A3) (p4 : Int) (p5 : Int) (p6 : Int) (p7 : Int) (p8 : Int) (p9 : List D_A3) (p10 : Int) (p11 : Int) (p12 : List D_Act) (p13 : List D_Act) (p14 : Int) (p15 : Int) : L_impl_DoActs_5 n F_impl_DoAct F_impl_IsBench F_Bench_own (m0 + 1) p0 p1 p2 p3 p4 p5 p6 p7 p8 p9 p10 p11 p12 p13 p14 p15 = 
  bif decide (p15 < p14) then
    bif inB p15 (List.length p13) then
      Option.bind (F_impl_DoAct (((p0, (p1, (p2, (p3, ())))), (p4, (p5, ()))), (nth T_Act p13 p15), ())) fun r2 =>
      bif !r2.2.1 then
        some (((p0, (p1, (p2, (p3, ())))), (p4, (p5, ()))), p15, true, ())
      else
        L_impl_DoActs_5 n F_impl_DoAct F_impl_IsBench F_Bench_own m0 r2.1.1.1 r2.1.1.2.1 r2.1.1.2.2.1 r2.1.1.2.2.2.1 r2.1.2.1 r2.1.2.2.1 p6 p7 p8 p9 p10 p11 p12 p13 p14 (IntKind.wrap .i64 (p15 + 1))
    else none
  else
    some (((p0, (p1, (p2, (p3, ())))), (p4, (p5, ()))), (List.length p12 : Int), true, ()) := by kernel_rfl
noncomputable def P_impl_DoActs : Ft_impl_DoActs := hid (runF (X_impl_DoActs N P_impl_DoAct P_impl_IsBench P_Bench_own) B_impl_DoActs As_impl_DoActs R_impl_DoActs M_impl_DoActs)
theorem h_impl_DoActs : P_impl_DoActs = runF (X_impl_DoActs N P_impl_DoAct P_impl_IsBench P_Bench_own) B_impl_DoActs As_impl_DoActs R_impl_DoActs M_impl_DoActs := hid_eq _
noncomputable def C_impl_DoActs : Contract := ⟨As_impl_DoActs, R_impl_DoActs, M_impl_DoActs, P_impl_DoActs⟩
theorem s_impl_DoActs : Sound Tryz.prog GG 16 C_impl_DoActs := by
  unfold C_impl_DoActs; rw [h_impl_DoActs]
  exact sound_of_run (fn := Tryz.f16) hmix hstable (tyOK_of ttOK) (hglob (X_impl_DoActs N P_impl_DoAct P_impl_IsBench P_Bench_own)) (conOK_of (X := X_impl_DoActs N P_impl_DoAct P_impl_IsBench P_Bench_own) ⟨s_impl_DoAct, s_impl_IsBench, s_Bench_own, trivial⟩) (mconOK_of (X := X_impl_DoActs N P_impl_DoAct P_impl_IsBench P_Bench_own) trivial) (by kernel_rfl) (by kernel_rfl) (by kernel_rfl) (by kernel_rfl) (by kernel_rfl) (of_decide_eq_true (by kernel_rfl))
noncomputable def l_impl_DoActs_5 : Nat → Int → Int → Int → (List D_A3) → Int → Int → Int → Int → Int → (List D_A3) → Int → Int → (List D_Act) → (List D_Act) → Int → Int → Option (denL R_impl_DoActs) := hid (fun m0 p0 p1 p2 p3 p4 p5 p6 p7 p8 p9 p10 p11 p12 p13 p14 p15 => L_impl_DoActs_5 N P_impl_DoAct P_impl_IsBench P_Bench_own m0 p0 p1 p2 p3 p4 p5 p6 p7 p8 p9 p10 p11 p12 p13 p14 p15)
theorem h_impl_DoActs_5 : l_impl_DoActs_5 = fun m0 p0 p1 p2 p3 p4 p5 p6 p7 p8 p9 p10 p11 p12 p13 p14 p15 => L_impl_DoActs_5 N P_impl_DoAct P_impl_IsBench P_Bench_own m0 p0 p1 p2 p3 p4 p5 p6 p7 p8 p9 p10 p11 p12 p13 p14 p15 := hid_eq _
theorem p_impl_DoActs (a0 : D_Bench) (a1 : List D_Act) : P_impl_DoActs (a0, a1, ()) = 
  Option.bind (P_impl_IsBench (a0, ())) fun r0 =>
  bif !r0.1 then
    some (((0, (0, (0, (([] : List D_A3), ())))), (0, (0, ()))), 0, false, ())
  else
    Option.bind (P_Bench_own (a0, ())) fun r2 =>
    l_impl_DoActs_5 N r2.1.1.1 r2.1.1.2.1 r2.1.1.2.2.1 r2.1.1.2.2.2.1 r2.1.2.1 r2.1.2.2.1 0 0 0 ([] : List D_A3) 0 0 a1 a1 (List.length a1 : Int) 0 := by
  rewrite [h_impl_DoActs, h_impl_DoActs_5]
  exact e_impl_DoActs N P_impl_DoAct P_impl_IsBench P_Bench_own a0 a1
theorem q_impl_DoActs_5 (m0 : Nat) (p0 : Int) (p1 : Int) (p2 : Int) (p3 : List D_A3) (p4 : Int) (p5 : Int) (p6 : Int) (p7 : Int) (p8 : Int) (p9 : List D_A3) (p10 : Int) (p11 : Int) (p12 : List D_Act) (p13 : List D_Act) (p14 : Int) (p15 : Int) : l_impl_DoActs_5 (m0 + 1) p0 p1 p2 p3 p4 p5 p6 p7 p8 p9 p10 p11 p12 p13 p14 p15 = 
  bif decide (p15 < p14) then
    bif inB p15 (List.length p13) then
      Option.bind (P_impl_DoAct (((p0, (p1, (p2, (p3, ())))), (p4, (p5, ()))), (nth T_Act p13 p15), ())) fun r2 =>
      bif !r2.2.1 then
        some (((p0, (p1, (p2, (p3, ())))), (p4, (p5, ()))), p15, true, ())
      else
        l_impl_DoActs_5 m0 r2.1.1.1 r2.1.1.2.1 r2.1.1.2.2.1 r2.1.1.2.2.2.1 r2.1.2.1 r2.1.2.2.1 p6 p7 p8 p9 p10 p11 p12 p13 p14 (IntKind.wrap .i64 (p15 + 1))
    else none
  else
    some (((p0, (p1, (p2, (p3, ())))), (p4, (p5, ()))), (List.length p12 : Int), true, ()) := by
  rewrite [h_impl_DoActs_5]
  exact e_impl_DoActs_5 N P_impl_DoAct P_impl_IsBench P_Bench_own m0 p0 p1 p2 p3 p4 p5 p6 p7 p8 p9 p10 p11 p12 p13 p14 p15

/- 31: loop.example/g01166/laws.eqAct -/
abbrev As_laws_eqAct : List ATy := [.data true T_Act, .data true T_Act]
abbrev R_laws_eqAct : List (Bool × Ty) := [(false, .bool)]
abbrev M_laws_eqAct : List RMode := []
abbrev Ft_laws_eqAct : Type := D_Act × D_Act × Unit → Option (Bool × Unit)
noncomputable def X_laws_eqAct (n : Nat) (F_laws_eqIntA3 : Ft_laws_eqIntA3) : Ctx := { types := TT, globals := [], con := [(52, ⟨As_laws_eqIntA3, R_laws_eqIntA3, M_laws_eqIntA3, F_laws_eqIntA3⟩)], keep := [], results := [.tmp 4], ntmps := 26, n := n }
noncomputable def B_laws_eqAct : Code := (Tryz.f31.body).getD .skip
theorem e_laws_eqAct (n : Nat) (F_laws_eqIntA3 : Ft_laws_eqIntA3) (a0 : D_Act) (a1 : D_Act) : runF (X_laws_eqAct n F_laws_eqIntA3) B_laws_eqAct As_laws_eqAct R_laws_eqAct M_laws_eqAct (a0, a1, ()) = 
  bif !decide (a0.1 = a1.1) then
    some (false, ())
  else
    Option.bind (F_laws_eqIntA3 (a0.2.1, a1.2.1, ())) fun r1 =>
    bif !r1.1 then
      some (false, ())
    else
      bif !decide (a0.2.2.1 = a1.2.2.1) then
        some (false, ())
      else
        bif !decide (a0.2.2.2.1 = a1.2.2.2.1) then
          some (false, ())
        else
          some (true, ()) := by kernel_rfl
noncomputable def P_laws_eqAct : Ft_laws_eqAct := hid (runF (X_laws_eqAct N P_laws_eqIntA3) B_laws_eqAct As_laws_eqAct R_laws_eqAct M_laws_eqAct)
theorem h_laws_eqAct : P_laws_eqAct = runF (X_laws_eqAct N P_laws_eqIntA3) B_laws_eqAct As_laws_eqAct R_laws_eqAct M_laws_eqAct := hid_eq _
noncomputable def C_laws_eqAct : Contract := ⟨As_laws_eqAct, R_laws_eqAct, M_laws_eqAct, P_laws_eqAct⟩
theorem s_laws_eqAct : Sound Tryz.prog GG 31 C_laws_eqAct := by
  unfold C_laws_eqAct; rw [h_laws_eqAct]
  exact sound_of_run (fn := Tryz.f31) hmix hstable (tyOK_of ttOK) (hglob (X_laws_eqAct N P_laws_eqIntA3)) (conOK_of (X := X_laws_eqAct N P_laws_eqIntA3) ⟨s_laws_eqIntA3, trivial⟩) (mconOK_of (X := X_laws_eqAct N P_laws_eqIntA3) trivial) (by kernel_rfl) (by kernel_rfl) (by kernel_rfl) (by kernel_rfl) (by kernel_rfl) (of_decide_eq_true (by kernel_rfl))
theorem p_laws_eqAct (a0 : D_Act) (a1 : D_Act) : P_laws_eqAct (a0, a1, ()) = 
  bif !decide (a0.1 = a1.1) then
    some (false, ())
  else
    Option.bind (P_laws_eqIntA3 (a0.2.1, a1.2.1, ())) fun r1 =>
    bif !r1.1 then
      some (false, ())
    else
      bif !decide (a0.2.2.1 = a1.2.2.1) then
        some (false, ())
      else
        bif !decide (a0.2.2.2.1 = a1.2.2.2.1) then
          some (false, ())
        else
          some (true, ()) := by
  rewrite [h_laws_eqAct]
  exact e_laws_eqAct N P_laws_eqIntA3 a0 a1

/- 17: loop.example/g01166/laws.eqActS -/
abbrev As_laws_eqActS : List ATy := [.data false (.sl T_Act), .data false (.sl T_Act)]
abbrev R_laws_eqActS : List (Bool × Ty) := [(false, .bool)]
abbrev M_laws_eqActS : List RMode := []
abbrev Ft_laws_eqActS : Type := (List D_Act) × (List D_Act) × Unit → Option (Bool × Unit)
noncomputable def X_laws_eqActS (n : Nat) (F_laws_eqAct : Ft_laws_eqAct) : Ctx := { types := TT, globals := [], con := [(31, ⟨As_laws_eqAct, R_laws_eqAct, M_laws_eqAct, F_laws_eqAct⟩)], keep := [(4, ⟨[.tmp 0, .tmp 1, .tmp 5], []⟩)], results := [.tmp 4], ntmps := 27, n := n }
noncomputable def B_laws_eqActS : Code := (Tryz.f17.body).getD .skip
noncomputable def L_laws_eqActS_4 (n : Nat) (F_laws_eqAct : Ft_laws_eqAct) (m0 : Nat) (p0 : List D_Act) (p1 : List D_Act) (p2 : Int) : Option (denL R_laws_eqActS) := loopF (X_laws_eqActS n F_laws_eqAct) B_laws_eqActS R_laws_eqActS M_laws_eqActS 4 [m0] [(.ver, .num 1), (.tmp 0, .val false [.imm T_Act p0 (some 0)]), (.tmp 1, .val false [.imm T_Act p1 (some 1)]), (.tmp 5, .val false [.int .i64 p2])]
theorem e_laws_eqActS (n : Nat) (F_laws_eqAct : Ft_laws_eqAct) (a0 : List D_Act) (a1 : List D_Act) : runF (X_laws_eqActS n F_laws_eqAct) B_laws_eqActS As_laws_eqActS R_laws_eqActS M_laws_eqActS (a0, a1, ()) = 
  bif !decide ((List.length a0 : Int) = (List.length a1 : Int)) then
    some (false, ())
  else
    L_laws_eqActS_4 n F_laws_eqAct n a0 a1 0 := by kernel_rfl
theorem e_laws_eqActS_4 (n : Nat) (F_laws_eqAct : Ft_laws_eqAct) (m0 : Nat) (p0 : List D_Act) (p1 : List D_Act) (p2 : Int) : L_laws_eqActS_4 n F_laws_eqAct (m0 + 1) p0 p1 p2 = 
  bif decide (p2 < (List.length p0 : Int)) then
    bif inB p2 (List.length p0) then
      bif inB p2 (List.length p1) then
        Option.bind (F_laws_eqAct ((nth T_Act p0 p2), (nth T_Act p1 p2), ())) fun r3 =>
        bif !r3.1 then
          some (false, ())
        else
          L_laws_eqActS_4 n F_laws_eqAct m0 p0 p1 (IntKind.wrap .i64 (p2 + 1))
      else none
    else none
  else
    some (true, ()) := by kernel_rfl
noncomputable def P_laws_eqActS : Ft_laws_eqActS := hid (runF (X_laws_eqActS N P_laws_eqAct) B_laws_eqActS As_laws_eqActS R_laws_eqActS M_laws_eqActS)
theorem h_laws_eqActS : P_laws_eqActS = runF (X_laws_eqActS N P_laws_eqAct) B_laws_eqActS As_laws_eqActS R_laws_eqActS M_laws_eqActS := hid_eq _
noncomputable def C_laws_eqActS : Contract := ⟨As_laws_eqActS, R_laws_eqActS, M_laws_eqActS, P_laws_eqActS⟩
theorem s_laws_eqActS : Sound Tryz.prog GG 17 C_laws_eqActS := by
  unfold C_laws_eqActS; rw [h_laws_eqActS]
  exact sound_of_run (fn := Tryz.f17) hmix hstable (tyOK_of ttOK) (hglob (X_laws_eqActS N P_laws_eqAct)) (conOK_of (X := X_laws_eqActS N P_laws_eqAct) ⟨s_laws_eqAct, trivial⟩) (mconOK_of (X := X_laws_eqActS N P_laws_eqAct) trivial) (by kernel_rfl) (by kernel_rfl) (by kernel_rfl) (by kernel_rfl) (by kernel_rfl) (of_decide_eq_true (by kernel_rfl))
noncomputable def l_laws_eqActS_4 : Nat → (List D_Act) → (List D_Act) → Int → Option (denL R_laws_eqActS) := hid (fun m0 p0 p1 p2 => L_laws_eqActS_4 N P_laws_eqAct m0 p0 p1 p2)
theorem h_laws_eqActS_4 : l_laws_eqActS_4 = fun m0 p0 p1 p2 => L_laws_eqActS_4 N P_laws_eqAct m0 p0 p1 p2 := hid_eq _
theorem p_laws_eqActS (a0 : List D_Act) (a1 : List D_Act) : P_laws_eqActS (a0, a1, ()) = 
  bif !decide ((List.length a0 : Int) = (List.length a1 : Int)) then
    some (false, ())
  else
    l_laws_eqActS_4 N a0 a1 0 := by
  rewrite [h_laws_eqActS, h_laws_eqActS_4]
  exact e_laws_eqActS N P_laws_eqAct a0 a1
theorem q_laws_eqActS_4 (m0 : Nat) (p0 : List D_Act) (p1 : List D_Act) (p2 : Int) : l_laws_eqActS_4 (m0 + 1) p0 p1 p2 = 
  bif decide (p2 < (List.length p0 : Int)) then
    bif inB p2 (List.length p0) then
      bif inB p2 (List.length p1) then
        Option.bind (P_laws_eqAct ((nth T_Act p0 p2), (nth T_Act p1 p2), ())) fun r3 =>
        bif !r3.1 then
          some (false, ())
        else
          l_laws_eqActS_4 m0 p0 p1 (IntKind.wrap .i64 (p2 + 1))
      else none
    else none
  else
    some (true, ()) := by
  rewrite [h_laws_eqActS_4]
  exact e_laws_eqActS_4 N P_laws_eqAct m0 p0 p1 p2

/- 18: loop.example/g01166/laws.markActS -/
abbrev As_laws_markActS : List ATy := [.lrow false (.sl T_Act) [37], .data false (.int .i64)]
abbrev R_laws_markActS : List (Bool × Ty) := [(false, (.int .i64))]
abbrev M_laws_markActS : List RMode := []
abbrev Ft_laws_markActS : Type := (List D_Act) × Int × Unit → Option ((Int × Unit) × ((List D_Act) × Unit))
noncomputable def X_laws_markActS (n : Nat) : Ctx := { types := TT, globals := [], con := [], keep := [(2, ⟨[.lent 0, .tmp 0, .tmp 1, .tmp 5], []⟩), (7, ⟨[.lent 0, .tmp 0, .tmp 1, .tmp 5, .tmp 6], []⟩)], results := [.tmp 4], ntmps := 48, n := n }
noncomputable def B_laws_markActS : Code := (Tryz.f18.body).getD .skip
noncomputable def L_laws_markActS_2 (n : Nat) (m0 : Nat) (p0 : List D_Act) (p1 : Int) (p2 : Int) : Option (denL R_laws_markActS × denM As_laws_markActS) := loopFM (X_laws_markActS n) B_laws_markActS As_laws_markActS R_laws_markActS M_laws_markActS 2 [m0] [(.ver, .num 1), (.lent 0, .val false [.own 37 T_Act 0 p0]), (.tmp 0, .val false [.view ⟨.lent 0, 0, 0⟩ 0]), (.tmp 1, .val false [.int .i64 p1]), (.tmp 5, .val false [.int .i64 p2])]
noncomputable def L_laws_markActS_7 (n : Nat) (m0 m1 : Nat) (p0 : List D_Act) (p1 : Int) (p2 : Int) (p3 : Int) : Option (denL R_laws_markActS × denM As_laws_markActS) := loopFM (X_laws_markActS n) B_laws_markActS As_laws_markActS R_laws_markActS M_laws_markActS 7 [m0, m1] [(.ver, .num 1), (.lent 0, .val false [.own 37 T_Act 0 p0]), (.tmp 0, .val false [.view ⟨.lent 0, 0, 0⟩ 0]), (.tmp 1, .val false [.int .i64 p1]), (.tmp 5, .val false [.int .i64 p2]), (.tmp 6, .val false [.int .i64 p3])]
theorem e_laws_markActS (n : Nat) (a0 : List D_Act) (a1 : Int) : runFM (X_laws_markActS n) B_laws_markActS As_laws_markActS R_laws_markActS M_laws_markActS (a0, a1, ()) = 
  L_laws_markActS_2 n n a0 a1 0 := by kernel_rfl
theorem e_laws_markActS_2 (n : Nat) (m0 : Nat) (p0 : List D_Act) (p1 : Int) (p2 : Int) : L_laws_markActS_2 n (m0 + 1) p0 p1 p2 = 
  bif decide (p2 < (List.length p0 : Int)) then
    bif inB p2 (List.length p0) then
      L_laws_markActS_7 n m0 n (List.set p0 (Int.toNat p2) (p1, ((nth T_Act p0 p2)).2)) (IntKind.wrap .i64 (p1 + 1)) p2 0
    else none
  else
    some ((p1, ()), (p0, ())) := by kernel_rfl
theorem e_laws_markActS_7 (n : Nat) (m0 m1 : Nat) (p0 : List D_Act) (p1 : Int) (p2 : Int) (p3 : Int) : L_laws_markActS_7 n m0 (m1 + 1) p0 p1 p2 p3 = 
  bif decide (p3 < 3) then
    bif inB p2 (List.length p0) then
      bif inB p3 3 then
        L_laws_markActS_7 n m0 m1 (List.set p0 (Int.toNat p2) (((nth T_Act p0 p2)).1, (((bif decide (p3 = (0 : Int)) then p1 else ((((nth T_Act p0 p2)).2).1).1), ((bif decide (p3 = (1 : Int)) then p1 else (((((nth T_Act p0 p2)).2).1).2).1), ((bif decide (p3 = (2 : Int)) then p1 else ((((((nth T_Act p0 p2)).2).1).2).2).1), ()))), (((nth T_Act p0 p2)).2).2))) (IntKind.wrap .i64 (p1 + 1)) p2 (IntKind.wrap .i64 (p3 + 1))
      else none
    else none
  else
    bif inB p2 (List.length p0) then
      bif inB p2 (List.length (List.set p0 (Int.toNat p2) (((nth T_Act p0 p2)).1, ((((nth T_Act p0 p2)).2).1, (p1, ((((nth T_Act p0 p2)).2).2).2))))) then
        L_laws_markActS_2 n m0 (List.set (List.set p0 (Int.toNat p2) (((nth T_Act p0 p2)).1, ((((nth T_Act p0 p2)).2).1, (p1, ((((nth T_Act p0 p2)).2).2).2)))) (Int.toNat p2) (((nth T_Act (List.set p0 (Int.toNat p2) (((nth T_Act p0 p2)).1, ((((nth T_Act p0 p2)).2).1, (p1, ((((nth T_Act p0 p2)).2).2).2)))) p2)).1, ((((nth T_Act (List.set p0 (Int.toNat p2) (((nth T_Act p0 p2)).1, ((((nth T_Act p0 p2)).2).1, (p1, ((((nth T_Act p0 p2)).2).2).2)))) p2)).2).1, (((((nth T_Act (List.set p0 (Int.toNat p2) (((nth T_Act p0 p2)).1, ((((nth T_Act p0 p2)).2).1, (p1, ((((nth T_Act p0 p2)).2).2).2)))) p2)).2).2).1, ((IntKind.wrap .i64 (p1 + 1)), ()))))) (IntKind.wrap .i64 ((IntKind.wrap .i64 (p1 + 1)) + 1)) (IntKind.wrap .i64 (p2 + 1))
      else none
    else none := by kernel_rfl
noncomputable def P_laws_markActS : Ft_laws_markActS := hid (runFM (X_laws_markActS N) B_laws_markActS As_laws_markActS R_laws_markActS M_laws_markActS)
theorem h_laws_markActS : P_laws_markActS = runFM (X_laws_markActS N) B_laws_markActS As_laws_markActS R_laws_markActS M_laws_markActS := hid_eq _
noncomputable def C_laws_markActS : MContract := ⟨As_laws_markActS, R_laws_markActS, M_laws_markActS, P_laws_markActS⟩
theorem s_laws_markActS : SoundM Tryz.prog n0 GG 18 C_laws_markActS := by
  unfold C_laws_markActS; rw [h_laws_markActS]
  exact sound_of_runM (fn := Tryz.f18) hmix hstable (tyOK_of ttOK) (hglob (X_laws_markActS N)) (conOK_of (X := X_laws_markActS N) trivial) (mconOK_of (X := X_laws_markActS N) trivial) (by kernel_rfl) (by kernel_rfl) (by kernel_rfl) (by kernel_rfl) (by kernel_rfl) (of_decide_eq_true (by kernel_rfl)) (by kernel_rfl) (by rfl)
noncomputable def l_laws_markActS_2 : Nat → (List D_Act) → Int → Int → Option (denL R_laws_markActS × denM As_laws_markActS) := hid (fun m0 p0 p1 p2 => L_laws_markActS_2 N m0 p0 p1 p2)
theorem h_laws_markActS_2 : l_laws_markActS_2 = fun m0 p0 p1 p2 => L_laws_markActS_2 N m0 p0 p1 p2 := hid_eq _
noncomputable def l_laws_markActS_7 : Nat → Nat → (List D_Act) → Int → Int → Int → Option (denL R_laws_markActS × denM As_laws_markActS) := hid (fun m0 m1 p0 p1 p2 p3 => L_laws_markActS_7 N m0 m1 p0 p1 p2 p3)
theorem h_laws_markActS_7 : l_laws_markActS_7 = fun m0 m1 p0 p1 p2 p3 => L_laws_markActS_7 N m0 m1 p0 p1 p2 p3 := hid_eq _
theorem p_laws_markActS (a0 : List D_Act) (a1 : Int) : P_laws_markActS (a0, a1, ()) = 
  l_laws_markActS_2 N a0 a1 0 := by
  rewrite [h_laws_markActS, h_laws_markActS_2]
  exact e_laws_markActS N a0 a1
theorem q_laws_markActS_2 (m0 : Nat) (p0 : List D_Act) (p1 : Int) (p2 : Int) : l_laws_markActS_2 (m0 + 1) p0 p1 p2 = 
  bif decide (p2 < (List.length p0 : Int)) then
    bif inB p2 (List.length p0) then
      l_laws_markActS_7 m0 N (List.set p0 (Int.toNat p2) (p1, ((nth T_Act p0 p2)).2)) (IntKind.wrap .i64 (p1 + 1)) p2 0
    else none
  else
    some ((p1, ()), (p0, ())) := by
  rewrite [h_laws_markActS_2, h_laws_markActS_7]
  exact e_laws_markActS_2 N m0 p0 p1 p2
theorem q_laws_markActS_7 (m0 m1 : Nat) (p0 : List D_Act) (p1 : Int) (p2 : Int) (p3 : Int) : l_laws_markActS_7 m0 (m1 + 1) p0 p1 p2 p3 = 
  bif decide (p3 < 3) then
    bif inB p2 (List.length p0) then
      bif inB p3 3 then
        l_laws_markActS_7 m0 m1 (List.set p0 (Int.toNat p2) (((nth T_Act p0 p2)).1, (((bif decide (p3 = (0 : Int)) then p1 else ((((nth T_Act p0 p2)).2).1).1), ((bif decide (p3 = (1 : Int)) then p1 else (((((nth T_Act p0 p2)).2).1).2).1), ((bif decide (p3 = (2 : Int)) then p1 else ((((((nth T_Act p0 p2)).2).1).2).2).1), ()))), (((nth T_Act p0 p2)).2).2))) (IntKind.wrap .i64 (p1 + 1)) p2 (IntKind.wrap .i64 (p3 + 1))
      else none
    else none
  else
    bif inB p2 (List.length p0) then
      bif inB p2 (List.length (List.set p0 (Int.toNat p2) (((nth T_Act p0 p2)).1, ((((nth T_Act p0 p2)).2).1, (p1, ((((nth T_Act p0 p2)).2).2).2))))) then
        l_laws_markActS_2 m0 (List.set (List.set p0 (Int.toNat p2) (((nth T_Act p0 p2)).1, ((((nth T_Act p0 p2)).2).1, (p1, ((((nth T_Act p0 p2)).2).2).2)))) (Int.toNat p2) (((nth T_Act (List.set p0 (Int.toNat p2) (((nth T_Act p0 p2)).1, ((((nth T_Act p0 p2)).2).1, (p1, ((((nth T_Act p0 p2)).2).2).2)))) p2)).1, ((((nth T_Act (List.set p0 (Int.toNat p2) (((nth T_Act p0 p2)).1, ((((nth T_Act p0 p2)).2).1, (p1, ((((nth T_Act p0 p2)).2).2).2)))) p2)).2).1, (((((nth T_Act (List.set p0 (Int.toNat p2) (((nth T_Act p0 p2)).1, ((((nth T_Act p0 p2)).2).1, (p1, ((((nth T_Act p0 p2)).2).2).2)))) p2)).2).2).1, ((IntKind.wrap .i64 (p1 + 1)), ()))))) (IntKind.wrap .i64 ((IntKind.wrap .i64 (p1 + 1)) + 1)) (IntKind.wrap .i64 (p2 + 1))
      else none
    else none := by
  rewrite [h_laws_markActS_2, h_laws_markActS_7]
  exact e_laws_markActS_7 N m0 m1 p0 p1 p2 p3

/- 4: loop.example/g01166/laws.FnExactDoActs -/
abbrev As_laws_FnExactDoActs : List ATy := [.data true T_Bench, .data false (.sl T_Act)]
abbrev R_laws_FnExactDoActs : List (Bool × Ty) := [(false, .bool)]
abbrev M_laws_FnExactDoActs : List RMode := []
abbrev Ft_laws_FnExactDoActs : Type := D_Bench × (List D_Act) × Unit → Option (Bool × Unit)
noncomputable def X_laws_FnExactDoActs (n : Nat) (F_laws_szBench : Ft_laws_szBench) (F_laws_toBench : Ft_laws_toBench) (F_laws_eqBench : Ft_laws_eqBench) (F_laws_markBench : Ft_laws_markBench) (F_laws_heldBench : Ft_laws_heldBench) (F_laws_szActS : Ft_laws_szActS) (F_spec_DoActs : Ft_spec_DoActs) (F_laws_toActS : Ft_laws_toActS) (F_impl_DoActs : Ft_impl_DoActs) (F_laws_eqActS : Ft_laws_eqActS) (F_laws_markActS : Ft_laws_markActS) : Ctx := { types := TT, globals := [], con := [(5, ⟨As_laws_szBench, R_laws_szBench, M_laws_szBench, F_laws_szBench⟩), (7, ⟨As_laws_toBench, R_laws_toBench, M_laws_toBench, F_laws_toBench⟩), (10, ⟨As_laws_eqBench, R_laws_eqBench, M_laws_eqBench, F_laws_eqBench⟩), (12, ⟨As_laws_heldBench, R_laws_heldBench, M_laws_heldBench, F_laws_heldBench⟩), (13, ⟨As_laws_szActS, R_laws_szActS, M_laws_szActS, F_laws_szActS⟩), (14, ⟨As_spec_DoActs, R_spec_DoActs, M_spec_DoActs, F_spec_DoActs⟩), (15, ⟨As_laws_toActS, R_laws_toActS, M_laws_toActS, F_laws_toActS⟩), (16, ⟨As_impl_DoActs, R_impl_DoActs, M_impl_DoActs, F_impl_DoActs⟩), (17, ⟨As_laws_eqActS, R_laws_eqActS, M_laws_eqActS, F_laws_eqActS⟩)], mcon := [(11, ⟨As_laws_markBench, R_laws_markBench, M_laws_markBench, F_laws_markBench⟩), (18, ⟨As_laws_markActS, R_laws_markActS, M_laws_markActS, F_laws_markActS⟩)], keep := [], results := [.tmp 4], ntmps := 140, n := n }
noncomputable def B_laws_FnExactDoActs : Code := (Tryz.f4.body).getD .skip
theorem e_laws_FnExactDoActs (n : Nat) (F_laws_szBench : Ft_laws_szBench) (F_laws_toBench : Ft_laws_toBench) (F_laws_eqBench : Ft_laws_eqBench) (F_laws_markBench : Ft_laws_markBench) (F_laws_heldBench : Ft_laws_heldBench) (F_laws_szActS : Ft_laws_szActS) (F_spec_DoActs : Ft_spec_DoActs) (F_laws_toActS : Ft_laws_toActS) (F_impl_DoActs : Ft_impl_DoActs) (F_laws_eqActS : Ft_laws_eqActS) (F_laws_markActS : Ft_laws_markActS) (a0 : D_Bench) (a1 : List D_Act) : runF (X_laws_FnExactDoActs n F_laws_szBench F_laws_toBench F_laws_eqBench F_laws_markBench F_laws_heldBench F_laws_szActS F_spec_DoActs F_laws_toActS F_impl_DoActs F_laws_eqActS F_laws_markActS) B_laws_FnExactDoActs As_laws_FnExactDoActs R_laws_FnExactDoActs M_laws_FnExactDoActs (a0, a1, ()) = 
  Option.bind (F_laws_szBench (a0, 1048576, ())) fun r0 =>
  bif decide (r0.1 < 0) then
    some (true, ())
  else
    Option.bind (F_laws_szActS (a1, r0.1, ())) fun r2 =>
    bif decide (r2.1 < 0) then
      some (true, ())
    else
      Option.bind (F_laws_toBench (a0, ())) fun r4 =>
      Option.bind (F_laws_toActS (a1, ())) fun r5 =>
      Option.bind (F_spec_DoActs (r4.1, r5.1, ())) fun r6 =>
      Option.bind (F_laws_toBench (a0, ())) fun r7 =>
      Option.bind (F_laws_toActS (a1, ())) fun r8 =>
      Option.bind (F_impl_DoActs (r7.1, r8.1, ())) fun r9 =>
      Option.bind (F_laws_eqBench (r9.1, r6.1, ())) fun r10 =>
      bif !r10.1 then
        some (false, ())
      else
        bif !decide (r9.2.1 = r6.2.1) then
          some (false, ())
        else
          bif !(r9.2.2.1 == r6.2.2.1) then
            some (false, ())
          else
            Option.bind (F_laws_toBench (a0, ())) fun r14 =>
            Option.bind (F_laws_eqBench (r7.1, r14.1, ())) fun r15 =>
            bif !r15.1 then
              some (false, ())
            else
              Option.bind (F_laws_toActS (a1, ())) fun r17 =>
              Option.bind (F_laws_eqActS (r8.1, r17.1, ())) fun r18 =>
              bif !r18.1 then
                some (false, ())
              else
                Option.bind (F_laws_markBench (r7.1, 1, ())) fun r20 =>
                Option.bind (F_laws_markActS (r8.1, r20.1.1, ())) fun r21 =>
                bif decide (r21.1.1 < 0) then
                  some (false, ())
                else
                  Option.bind (F_laws_eqBench (r9.1, r6.1, ())) fun r23 =>
                  bif !r23.1 then
                    some (false, ())
                  else
                    bif !decide (r9.2.1 = r6.2.1) then
                      some (false, ())
                    else
                      bif !(r9.2.2.1 == r6.2.2.1) then
                        some (false, ())
                      else
                        Option.bind (F_laws_markBench (r9.1, 1, ())) fun r27 =>
                        Option.bind (F_laws_heldBench (((r9.1.1.1, (r9.1.1.2.1, (r9.1.1.2.2.1, r27.2.1.1.2.2.2))), r9.1.2), 1, ())) fun r28 =>
                        bif decide (r28.1 < 0) then
                          some (false, ())
                        else
                          bif !decide (r28.1 = r27.1.1) then
                            some (false, ())
                          else
                            Option.bind (F_laws_toBench (a0, ())) fun r31 =>
                            Option.bind (F_laws_toActS (a1, ())) fun r32 =>
                            Option.bind (F_impl_DoActs (r31.1, r32.1, ())) fun r33 =>
                            Option.bind (F_laws_eqBench (r33.1, r6.1, ())) fun r34 =>
                            bif !r34.1 then
                              some (false, ())
                            else
                              bif !decide (r33.2.1 = r6.2.1) then
                                some (false, ())
                              else
                                bif !(r33.2.2.1 == r6.2.2.1) then
                                  some (false, ())
                                else
                                  Option.bind (F_laws_heldBench (((r9.1.1.1, (r9.1.1.2.1, (r9.1.1.2.2.1, r27.2.1.1.2.2.2))), r9.1.2), 1, ())) fun r38 =>
                                  bif decide (r38.1 < 0) then
                                    some (false, ())
                                  else
                                    bif !decide (r38.1 = r27.1.1) then
                                      some (false, ())
                                    else
                                      some (true, ()) := by kernel_rfl
noncomputable def P_laws_FnExactDoActs : Ft_laws_FnExactDoActs := hid (runF (X_laws_FnExactDoActs N P_laws_szBench P_laws_toBench P_laws_eqBench P_laws_markBench P_laws_heldBench P_laws_szActS P_spec_DoActs P_laws_toActS P_impl_DoActs P_laws_eqActS P_laws_markActS) B_laws_FnExactDoActs As_laws_FnExactDoActs R_laws_FnExactDoActs M_laws_FnExactDoActs)
theorem h_laws_FnExactDoActs : P_laws_FnExactDoActs = runF (X_laws_FnExactDoActs N P_laws_szBench P_laws_toBench P_laws_eqBench P_laws_markBench P_laws_heldBench P_laws_szActS P_spec_DoActs P_laws_toActS P_impl_DoActs P_laws_eqActS P_laws_markActS) B_laws_FnExactDoActs As_laws_FnExactDoActs R_laws_FnExactDoActs M_laws_FnExactDoActs := hid_eq _
noncomputable def C_laws_FnExactDoActs : Contract := ⟨As_laws_FnExactDoActs, R_laws_FnExactDoActs, M_laws_FnExactDoActs, P_laws_FnExactDoActs⟩
theorem s_laws_FnExactDoActs : Sound Tryz.prog GG 4 C_laws_FnExactDoActs := by
  unfold C_laws_FnExactDoActs; rw [h_laws_FnExactDoActs]
  exact sound_of_run (fn := Tryz.f4) hmix hstable (tyOK_of ttOK) (hglob (X_laws_FnExactDoActs N P_laws_szBench P_laws_toBench P_laws_eqBench P_laws_markBench P_laws_heldBench P_laws_szActS P_spec_DoActs P_laws_toActS P_impl_DoActs P_laws_eqActS P_laws_markActS)) (conOK_of (X := X_laws_FnExactDoActs N P_laws_szBench P_laws_toBench P_laws_eqBench P_laws_markBench P_laws_heldBench P_laws_szActS P_spec_DoActs P_laws_toActS P_impl_DoActs P_laws_eqActS P_laws_markActS) ⟨s_laws_szBench, s_laws_toBench, s_laws_eqBench, s_laws_heldBench, s_laws_szActS, s_spec_DoActs, s_laws_toActS, s_impl_DoActs, s_laws_eqActS, trivial⟩) (mconOK_of (X := X_laws_FnExactDoActs N P_laws_szBench P_laws_toBench P_laws_eqBench P_laws_markBench P_laws_heldBench P_laws_szActS P_spec_DoActs P_laws_toActS P_impl_DoActs P_laws_eqActS P_laws_markActS) ⟨s_laws_markBench, s_laws_markActS, trivial⟩) (by kernel_rfl) (by kernel_rfl) (by kernel_rfl) (by kernel_rfl) (by kernel_rfl) (of_decide_eq_true (by kernel_rfl))
theorem p_laws_FnExactDoActs (a0 : D_Bench) (a1 : List D_Act) : P_laws_FnExactDoActs (a0, a1, ()) = 
  Option.bind (P_laws_szBench (a0, 1048576, ())) fun r0 =>
  bif decide (r0.1 < 0) then
    some (true, ())
  else
    Option.bind (P_laws_szActS (a1, r0.1, ())) fun r2 =>
    bif decide (r2.1 < 0) then
      some (true, ())
    else
      Option.bind (P_laws_toBench (a0, ())) fun r4 =>
      Option.bind (P_laws_toActS (a1, ())) fun r5 =>
      Option.bind (P_spec_DoActs (r4.1, r5.1, ())) fun r6 =>
      Option.bind (P_laws_toBench (a0, ())) fun r7 =>
      Option.bind (P_laws_toActS (a1, ())) fun r8 =>
      Option.bind (P_impl_DoActs (r7.1, r8.1, ())) fun r9 =>
      Option.bind (P_laws_eqBench (r9.1, r6.1, ())) fun r10 =>
      bif !r10.1 then
        some (false, ())
      else
        bif !decide (r9.2.1 = r6.2.1) then
          some (false, ())
        else
          bif !(r9.2.2.1 == r6.2.2.1) then
            some (false, ())
          else
            Option.bind (P_laws_toBench (a0, ())) fun r14 =>
            Option.bind (P_laws_eqBench (r7.1, r14.1, ())) fun r15 =>
            bif !r15.1 then
              some (false, ())
            else
              Option.bind (P_laws_toActS (a1, ())) fun r17 =>
              Option.bind (P_laws_eqActS (r8.1, r17.1, ())) fun r18 =>
              bif !r18.1 then
                some (false, ())
              else
                Option.bind (P_laws_markBench (r7.1, 1, ())) fun r20 =>
                Option.bind (P_laws_markActS (r8.1, r20.1.1, ())) fun r21 =>
                bif decide (r21.1.1 < 0) then
                  some (false, ())
                else
                  Option.bind (P_laws_eqBench (r9.1, r6.1, ())) fun r23 =>
                  bif !r23.1 then
                    some (false, ())
                  else
                    bif !decide (r9.2.1 = r6.2.1) then
                      some (false, ())
                    else
                      bif !(r9.2.2.1 == r6.2.2.1) then
                        some (false, ())
                      else
                        Option.bind (P_laws_markBench (r9.1, 1, ())) fun r27 =>
                        Option.bind (P_laws_heldBench (((r9.1.1.1, (r9.1.1.2.1, (r9.1.1.2.2.1, r27.2.1.1.2.2.2))), r9.1.2), 1, ())) fun r28 =>
                        bif decide (r28.1 < 0) then
                          some (false, ())
                        else
                          bif !decide (r28.1 = r27.1.1) then
                            some (false, ())
                          else
                            Option.bind (P_laws_toBench (a0, ())) fun r31 =>
                            Option.bind (P_laws_toActS (a1, ())) fun r32 =>
                            Option.bind (P_impl_DoActs (r31.1, r32.1, ())) fun r33 =>
                            Option.bind (P_laws_eqBench (r33.1, r6.1, ())) fun r34 =>
                            bif !r34.1 then
                              some (false, ())
                            else
                              bif !decide (r33.2.1 = r6.2.1) then
                                some (false, ())
                              else
                                bif !(r33.2.2.1 == r6.2.2.1) then
                                  some (false, ())
                                else
                                  Option.bind (P_laws_heldBench (((r9.1.1.1, (r9.1.1.2.1, (r9.1.1.2.2.1, r27.2.1.1.2.2.2))), r9.1.2), 1, ())) fun r38 =>
                                  bif decide (r38.1 < 0) then
                                    some (false, ())
                                  else
                                    bif !decide (r38.1 = r27.1.1) then
                                      some (false, ())
                                    else
                                      some (true, ()) := by
  rewrite [h_laws_FnExactDoActs]
  exact e_laws_FnExactDoActs N P_laws_szBench P_laws_toBench P_laws_eqBench P_laws_markBench P_laws_heldBench P_laws_szActS P_spec_DoActs P_laws_toActS P_impl_DoActs P_laws_eqActS P_laws_markActS a0 a1
end Go.VI
