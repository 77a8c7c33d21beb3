/- What the functions of the seat compute: part 2. -/
import Derived.Test.YtcamgjgfjpcelaaGreatDoorG15p1
namespace Go.VI
open Go.Proofs
set_option maxRecDepth 100000

/- 25: loop.example/g01166/spec.ParseHeap -/
abbrev As_spec_ParseHeap : List ATy := [.data false .str]
abbrev R_spec_ParseHeap : List (Bool × Ty) := [(true, T_Heap), (false, .bool)]
abbrev M_spec_ParseHeap : List RMode := [.own 27]
abbrev Ft_spec_ParseHeap : Type := (List UInt8) × Unit → Option (D_Heap × Bool × Unit)
noncomputable def X_spec_ParseHeap (n : Nat) (F_spec_l2Heap : Ft_spec_l2Heap) (F_spec_l2Text : Ft_spec_l2Text) (F_spec_l1Split : Ft_spec_l1Split) (F_spec_l1Read : Ft_spec_l1Read) (F_spec_l2Empty : Ft_spec_l2Empty) : Ctx := { types := TT, globals := [], con := [(49, ⟨As_spec_l2Heap, R_spec_l2Heap, M_spec_l2Heap, F_spec_l2Heap⟩), (55, ⟨As_spec_l2Text, R_spec_l2Text, M_spec_l2Text, F_spec_l2Text⟩), (60, ⟨As_spec_l1Split, R_spec_l1Split, M_spec_l1Split, F_spec_l1Split⟩), (61, ⟨As_spec_l1Read, R_spec_l1Read, M_spec_l1Read, F_spec_l1Read⟩), (62, ⟨As_spec_l2Empty, R_spec_l2Empty, M_spec_l2Empty, F_spec_l2Empty⟩)], keep := [(8, ⟨[.box 2, .box 6, .tmp 0, .tmp 2, .tmp 4, .tmp 5, .tmp 6, .tmp 7], []⟩), (16, ⟨[.box 2, .box 10, .tmp 0, .tmp 2, .tmp 4, .tmp 10, .tmp 11], []⟩)], results := [.cell 2 26, .tmp 3], ntmps := 103, n := n }
noncomputable def B_spec_ParseHeap : Code := (Tryz.f25.body).getD .skip
noncomputable def L_spec_ParseHeap_8 (n : Nat) (F_spec_l2Heap : Ft_spec_l2Heap) (F_spec_l2Text : Ft_spec_l2Text) (F_spec_l1Split : Ft_spec_l1Split) (F_spec_l1Read : Ft_spec_l1Read) (F_spec_l2Empty : Ft_spec_l2Empty) (m0 : Nat) (p0 : Int) (p1 : Int) (p2 : Int) (p3 : List D_A3) (p4 : Int) (p5 : Int) (p6 : Int) (p7 : List UInt8) (p8 : List (List UInt8)) (p9 : List (List UInt8)) (p10 : Int) : Option (denL R_spec_ParseHeap) := loopF (X_spec_ParseHeap n F_spec_l2Heap F_spec_l2Text F_spec_l1Split F_spec_l1Read F_spec_l2Empty) B_spec_ParseHeap R_spec_ParseHeap M_spec_ParseHeap 8 [m0] [(.ver, .num 1), (.box 2, .box 0 false [.int .i64 p0, .int .i64 p1, .int .i64 p2, .own 27 T_A3 0 p3]), (.box 6, .box 0 false [.int .i64 p4, .int .i64 p5, .int .i64 p6]), (.tmp 0, .val false [.str p7]), (.tmp 2, .val false [.addr 2 0 0]), (.tmp 4, .val false [.own 9 .str 0 p8]), (.tmp 5, .val false [.own 9 .str 0 p9]), (.tmp 6, .val false [.addr 6 0 0]), (.tmp 7, .val false [.int .i64 p10])]
noncomputable def L_spec_ParseHeap_16 (n : Nat) (F_spec_l2Heap : Ft_spec_l2Heap) (F_spec_l2Text : Ft_spec_l2Text) (F_spec_l1Split : Ft_spec_l1Split) (F_spec_l1Read : Ft_spec_l1Read) (F_spec_l2Empty : Ft_spec_l2Empty) (m0 : Nat) (p0 : Int) (p1 : Int) (p2 : Int) (p3 : List D_A3) (p4 : Int) (p5 : Int) (p6 : Int) (p7 : List D_A3) (p8 : List UInt8) (p9 : List (List UInt8)) (p10 : Int) : Option (denL R_spec_ParseHeap) := loopF (X_spec_ParseHeap n F_spec_l2Heap F_spec_l2Text F_spec_l1Split F_spec_l1Read F_spec_l2Empty) B_spec_ParseHeap R_spec_ParseHeap M_spec_ParseHeap 16 [m0] [(.ver, .num 1), (.box 2, .box 0 false [.int .i64 p0, .int .i64 p1, .int .i64 p2, .own 27 T_A3 0 p3]), (.box 10, .box 0 false [.int .i64 p4, .int .i64 p5, .int .i64 p6, .own 27 T_A3 0 p7]), (.tmp 0, .val false [.str p8]), (.tmp 2, .val false [.addr 2 0 0]), (.tmp 4, .val false [.own 9 .str 0 p9]), (.tmp 10, .val false [.addr 10 0 0]), (.tmp 11, .val false [.int .i64 p10])]
noncomputable def P_spec_ParseHeap : Ft_spec_ParseHeap := hid (runF (X_spec_ParseHeap N P_spec_l2Heap P_spec_l2Text P_spec_l1Split P_spec_l1Read P_spec_l2Empty) B_spec_ParseHeap As_spec_ParseHeap R_spec_ParseHeap M_spec_ParseHeap)
theorem h_spec_ParseHeap : P_spec_ParseHeap = runF (X_spec_ParseHeap N P_spec_l2Heap P_spec_l2Text P_spec_l1Split P_spec_l1Read P_spec_l2Empty) B_spec_ParseHeap As_spec_ParseHeap R_spec_ParseHeap M_spec_ParseHeap := hid_eq _
noncomputable def C_spec_ParseHeap : Contract := ⟨As_spec_ParseHeap, R_spec_ParseHeap, M_spec_ParseHeap, P_spec_ParseHeap⟩
theorem s_spec_ParseHeap : Sound Tryz.prog GG 25 C_spec_ParseHeap := by
  unfold C_spec_ParseHeap; rw [h_spec_ParseHeap]
  exact sound_of_run (fn := Tryz.f25) hmix hstable (tyOK_of ttOK) (hglob (X_spec_ParseHeap N P_spec_l2Heap P_spec_l2Text P_spec_l1Split P_spec_l1Read P_spec_l2Empty)) (conOK_of (X := X_spec_ParseHeap N P_spec_l2Heap P_spec_l2Text P_spec_l1Split P_spec_l1Read P_spec_l2Empty) ⟨s_spec_l2Heap, s_spec_l2Text, s_spec_l1Split, s_spec_l1Read, s_spec_l2Empty, trivial⟩) (mconOK_of (X := X_spec_ParseHeap N P_spec_l2Heap P_spec_l2Text P_spec_l1Split P_spec_l1Read P_spec_l2Empty) trivial) (by kernel_rfl) (by kernel_rfl) (by kernel_rfl) (by kernel_rfl) (by kernel_rfl) (of_decide_eq_true (by kernel_rfl))
noncomputable def l_spec_ParseHeap_8 : Nat → Int → Int → Int → (List D_A3) → Int → Int → Int → (List UInt8) → (List (List UInt8)) → (List (List UInt8)) → Int → Option (denL R_spec_ParseHeap) := hid (fun m0 p0 p1 p2 p3 p4 p5 p6 p7 p8 p9 p10 => L_spec_ParseHeap_8 N P_spec_l2Heap P_spec_l2Text P_spec_l1Split P_spec_l1Read P_spec_l2Empty m0 p0 p1 p2 p3 p4 p5 p6 p7 p8 p9 p10)
theorem h_spec_ParseHeap_8 : l_spec_ParseHeap_8 = fun m0 p0 p1 p2 p3 p4 p5 p6 p7 p8 p9 p10 => L_spec_ParseHeap_8 N P_spec_l2Heap P_spec_l2Text P_spec_l1Split P_spec_l1Read P_spec_l2Empty m0 p0 p1 p2 p3 p4 p5 p6 p7 p8 p9 p10 := hid_eq _
noncomputable def l_spec_ParseHeap_16 : Nat → Int → Int → Int → (List D_A3) → Int → Int → Int → (List D_A3) → (List UInt8) → (List (List UInt8)) → Int → Option (denL R_spec_ParseHeap) := hid (fun m0 p0 p1 p2 p3 p4 p5 p6 p7 p8 p9 p10 => L_spec_ParseHeap_16 N P_spec_l2Heap P_spec_l2Text P_spec_l1Split P_spec_l1Read P_spec_l2Empty m0 p0 p1 p2 p3 p4 p5 p6 p7 p8 p9 p10)
theorem h_spec_ParseHeap_16 : l_spec_ParseHeap_16 = fun m0 p0 p1 p2 p3 p4 p5 p6 p7 p8 p9 p10 => L_spec_ParseHeap_16 N P_spec_l2Heap P_spec_l2Text P_spec_l1Split P_spec_l1Read P_spec_l2Empty m0 p0 p1 p2 p3 p4 p5 p6 p7 p8 p9 p10 := hid_eq _
theorem p_spec_ParseHeap (a0 : List UInt8) : P_spec_ParseHeap (a0, ()) = 
  bif decide ((List.length a0 : Int) > 300) then
    some ((0, (0, (0, (([] : List D_A3), ())))), false, ())
  else
    Option.bind (P_spec_l1Split (a0, 32, ())) fun r1 =>
    bif inB 0 (List.length r1.1) then
      Option.bind (P_spec_l1Split ((nth (.str : Ty) r1.1 0), 120, ())) fun r3 =>
      bif !decide ((List.length r3.1 : Int) = 3) then
        some ((0, (0, (0, (([] : List D_A3), ())))), false, ())
      else
        l_spec_ParseHeap_8 N 0 0 0 ([] : List D_A3) 0 0 0 a0 r1.1 r3.1 0
    else none := by
  rewrite [h_spec_ParseHeap, h_spec_ParseHeap_8]
  kernel_rfl
theorem q_spec_ParseHeap_8 (m0 : Nat) (p0 : Int) (p1 : Int) (p2 : Int) (p3 : List D_A3) (p4 : Int) (p5 : Int) (p6 : Int) (p7 : List UInt8) (p8 : List (List UInt8)) (p9 : List (List UInt8)) (p10 : Int) : l_spec_ParseHeap_8 (m0 + 1) p0 p1 p2 p3 p4 p5 p6 p7 p8 p9 p10 = 
  bif decide (p10 < 3) then
    bif inB p10 (List.length p9) then
      Option.bind (P_spec_l1Read ((nth (.str : Ty) p9 p10), ())) fun r2 =>
      bif !r2.2.1 then
        some ((0, (0, (0, (([] : List D_A3), ())))), false, ())
      else
        bif inB p10 3 then
          l_spec_ParseHeap_8 m0 p0 p1 p2 p3 (bif decide (p10 = (0 : Int)) then r2.1 else p4) (bif decide (p10 = (1 : Int)) then r2.1 else p5) (bif decide (p10 = (2 : Int)) then r2.1 else p6) p7 p8 p9 (IntKind.wrap .i64 (p10 + 1))
        else none
    else none
  else
    Option.bind (P_spec_l2Empty (p4, p5, p6, ())) fun r1 =>
    l_spec_ParseHeap_16 N p0 p1 p2 p3 r1.1.1 r1.1.2.1 r1.1.2.2.1 r1.1.2.2.2.1 p7 p8 1 := by
  rewrite [h_spec_ParseHeap_8, h_spec_ParseHeap_16]
  kernel_rfl
theorem q_spec_ParseHeap_16 (m0 : Nat) (p0 : Int) (p1 : Int) (p2 : Int) (p3 : List D_A3) (p4 : Int) (p5 : Int) (p6 : Int) (p7 : List D_A3) (p8 : List UInt8) (p9 : List (List UInt8)) (p10 : Int) : l_spec_ParseHeap_16 (m0 + 1) p0 p1 p2 p3 p4 p5 p6 p7 p8 p9 p10 = 
  bif decide (p10 < (List.length p9 : Int)) then
    bif inB p10 (List.length p9) then
      bif !decide ((List.length (nth (.str : Ty) p9 p10) : Int) = 3) then
        some ((0, (0, (0, (([] : List D_A3), ())))), false, ())
      else
        bif inB p10 (List.length p9) then
          bif inB 0 (List.length (nth (.str : Ty) p9 p10)) then
            bif inB p10 (List.length p9) then
              bif inB 1 (List.length (nth (.str : Ty) p9 p10)) then
                bif inB p10 (List.length p9) then
                  bif inB 2 (List.length (nth (.str : Ty) p9 p10)) then
                    bif (decide (((List.length p7) + (List.length ([((IntKind.wrap .i64 ((IntKind.wrap .i64 (byteAt (nth (.str : Ty) p9 p10) 0)) - 48)), ((IntKind.wrap .i64 ((IntKind.wrap .i64 (byteAt (nth (.str : Ty) p9 p10) 1)) - 48)), ((IntKind.wrap .i64 ((IntKind.wrap .i64 (byteAt (nth (.str : Ty) p9 p10) 2)) - 48)), ())))] : List D_A3))) * 24 ≤ 140737488355328) && decide (((List.length p7) + (List.length ([((IntKind.wrap .i64 ((IntKind.wrap .i64 (byteAt (nth (.str : Ty) p9 p10) 0)) - 48)), ((IntKind.wrap .i64 ((IntKind.wrap .i64 (byteAt (nth (.str : Ty) p9 p10) 1)) - 48)), ((IntKind.wrap .i64 ((IntKind.wrap .i64 (byteAt (nth (.str : Ty) p9 p10) 2)) - 48)), ())))] : List D_A3))) ≤ 140737488355328)) then
                      l_spec_ParseHeap_16 m0 p0 p1 p2 p3 p4 p5 p6 (p7 ++ ([((IntKind.wrap .i64 ((IntKind.wrap .i64 (byteAt (nth (.str : Ty) p9 p10) 0)) - 48)), ((IntKind.wrap .i64 ((IntKind.wrap .i64 (byteAt (nth (.str : Ty) p9 p10) 1)) - 48)), ((IntKind.wrap .i64 ((IntKind.wrap .i64 (byteAt (nth (.str : Ty) p9 p10) 2)) - 48)), ())))] : List D_A3)) p8 p9 (IntKind.wrap .i64 (p10 + 1))
                    else none
                  else none
                else none
              else none
            else none
          else none
        else none
    else none
  else
    Option.bind (P_spec_l2Heap ((p4, (p5, (p6, (p7, ())))), ())) fun r1 =>
    bif !r1.1 then
      some ((0, (0, (0, (([] : List D_A3), ())))), false, ())
    else
      Option.bind (P_spec_l2Text ((p4, (p5, (p6, (p7, ())))), ())) fun r3 =>
      bif !(r3.1 == p8) then
        some ((0, (0, (0, (([] : List D_A3), ())))), false, ())
      else
        some ((p4, (p5, (p6, (p7, ())))), true, ()) := by
  rewrite [h_spec_ParseHeap_16]
  kernel_rfl

/- 63: loop.example/g01166/spec.DrawEmptyHeap -/
abbrev As_spec_DrawEmptyHeap : List ATy := [.data false (.sl (.int .u8))]
abbrev R_spec_DrawEmptyHeap : List (Bool × Ty) := [(false, (.int .i64)), (false, (.int .i64)), (false, (.int .i64))]
abbrev M_spec_DrawEmptyHeap : List RMode := []
abbrev Ft_spec_DrawEmptyHeap : Type := (List Int) × Unit → Option (Int × Int × Int × Unit)
noncomputable def X_spec_DrawEmptyHeap (n : Nat) (F_l1Cur_sides : Ft_l1Cur_sides) : Ctx := { types := TT, globals := [], con := [], mcon := [(67, ⟨As_l1Cur_sides, R_l1Cur_sides, M_l1Cur_sides, F_l1Cur_sides⟩)], keep := [], results := [.tmp 2, .tmp 3, .tmp 4], ntmps := 14, n := n }
noncomputable def B_spec_DrawEmptyHeap : Code := (Tryz.f63.body).getD .skip
noncomputable def P_spec_DrawEmptyHeap : Ft_spec_DrawEmptyHeap := hid (runF (X_spec_DrawEmptyHeap N P_l1Cur_sides) B_spec_DrawEmptyHeap As_spec_DrawEmptyHeap R_spec_DrawEmptyHeap M_spec_DrawEmptyHeap)
theorem h_spec_DrawEmptyHeap : P_spec_DrawEmptyHeap = runF (X_spec_DrawEmptyHeap N P_l1Cur_sides) B_spec_DrawEmptyHeap As_spec_DrawEmptyHeap R_spec_DrawEmptyHeap M_spec_DrawEmptyHeap := hid_eq _
noncomputable def C_spec_DrawEmptyHeap : Contract := ⟨As_spec_DrawEmptyHeap, R_spec_DrawEmptyHeap, M_spec_DrawEmptyHeap, P_spec_DrawEmptyHeap⟩
theorem s_spec_DrawEmptyHeap : Sound Tryz.prog GG 63 C_spec_DrawEmptyHeap := by
  unfold C_spec_DrawEmptyHeap; rw [h_spec_DrawEmptyHeap]
  exact sound_of_run (fn := Tryz.f63) hmix hstable (tyOK_of ttOK) (hglob (X_spec_DrawEmptyHeap N P_l1Cur_sides)) (conOK_of (X := X_spec_DrawEmptyHeap N P_l1Cur_sides) trivial) (mconOK_of (X := X_spec_DrawEmptyHeap N P_l1Cur_sides) ⟨s_l1Cur_sides, trivial⟩) (by kernel_rfl) (by kernel_rfl) (by kernel_rfl) (by kernel_rfl) (by kernel_rfl) (of_decide_eq_true (by kernel_rfl))
theorem p_spec_DrawEmptyHeap (a0 : List Int) : P_spec_DrawEmptyHeap (a0, ()) = 
  Option.bind (P_l1Cur_sides ((a0, (0, (0, ()))), ())) fun r0 =>
  some (r0.1.1, r0.1.2.1, r0.1.2.2.1, ()) := by
  rewrite [h_spec_DrawEmptyHeap]
  kernel_rfl

/- 26: loop.example/g01166/spec.DrawFullHeap -/
abbrev As_spec_DrawFullHeap : List ATy := [.data false (.sl (.int .u8))]
abbrev R_spec_DrawFullHeap : List (Bool × Ty) := [(false, (.int .i64)), (false, (.int .i64)), (false, (.int .i64))]
abbrev M_spec_DrawFullHeap : List RMode := []
abbrev Ft_spec_DrawFullHeap : Type := (List Int) × Unit → Option (Int × Int × Int × Unit)
noncomputable def X_spec_DrawFullHeap (n : Nat) (F_spec_DrawEmptyHeap : Ft_spec_DrawEmptyHeap) : Ctx := { types := TT, globals := [], con := [(63, ⟨As_spec_DrawEmptyHeap, R_spec_DrawEmptyHeap, M_spec_DrawEmptyHeap, F_spec_DrawEmptyHeap⟩)], keep := [], results := [.tmp 2, .tmp 3, .tmp 4], ntmps := 10, n := n }
noncomputable def B_spec_DrawFullHeap : Code := (Tryz.f26.body).getD .skip
noncomputable def P_spec_DrawFullHeap : Ft_spec_DrawFullHeap := hid (runF (X_spec_DrawFullHeap N P_spec_DrawEmptyHeap) B_spec_DrawFullHeap As_spec_DrawFullHeap R_spec_DrawFullHeap M_spec_DrawFullHeap)
theorem h_spec_DrawFullHeap : P_spec_DrawFullHeap = runF (X_spec_DrawFullHeap N P_spec_DrawEmptyHeap) B_spec_DrawFullHeap As_spec_DrawFullHeap R_spec_DrawFullHeap M_spec_DrawFullHeap := hid_eq _
noncomputable def C_spec_DrawFullHeap : Contract := ⟨As_spec_DrawFullHeap, R_spec_DrawFullHeap, M_spec_DrawFullHeap, P_spec_DrawFullHeap⟩
theorem s_spec_DrawFullHeap : Sound Tryz.prog GG 26 C_spec_DrawFullHeap := by
  unfold C_spec_DrawFullHeap; rw [h_spec_DrawFullHeap]
  exact sound_of_run (fn := Tryz.f26) hmix hstable (tyOK_of ttOK) (hglob (X_spec_DrawFullHeap N P_spec_DrawEmptyHeap)) (conOK_of (X := X_spec_DrawFullHeap N P_spec_DrawEmptyHeap) ⟨s_spec_DrawEmptyHeap, trivial⟩) (mconOK_of (X := X_spec_DrawFullHeap N P_spec_DrawEmptyHeap) trivial) (by kernel_rfl) (by kernel_rfl) (by kernel_rfl) (by kernel_rfl) (by kernel_rfl) (of_decide_eq_true (by kernel_rfl))
theorem p_spec_DrawFullHeap (a0 : List Int) : P_spec_DrawFullHeap (a0, ()) = 
  Option.bind (P_spec_DrawEmptyHeap (a0, ())) fun r0 =>
  some (r0.1, r0.2.1, r0.2.2.1, ()) := by
  rewrite [h_spec_DrawFullHeap]
  kernel_rfl

/- 64: (loop.example/g01166/impl.box).full -/
abbrev As_box_full : List ATy := [.data true T_A3]
abbrev R_box_full : List (Bool × Ty) := [(false, (.int .u64))]
abbrev M_box_full : List RMode := []
abbrev Ft_box_full : Type := D_A3 × Unit → Option (Int × Unit)
noncomputable def X_box_full (n : Nat) (F_box_size : Ft_box_size) : Ctx := { types := TT, globals := [], con := [(79, ⟨As_box_size, R_box_size, M_box_size, F_box_size⟩)], keep := [], results := [.tmp 2], ntmps := 7, n := n }
noncomputable def B_box_full : Code := (Tryz.f64.body).getD .skip
noncomputable def P_box_full : Ft_box_full := hid (runF (X_box_full N P_box_size) B_box_full As_box_full R_box_full M_box_full)
theorem h_box_full : P_box_full = runF (X_box_full N P_box_size) B_box_full As_box_full R_box_full M_box_full := hid_eq _
noncomputable def C_box_full : Contract := ⟨As_box_full, R_box_full, M_box_full, P_box_full⟩
theorem s_box_full : Sound Tryz.prog GG 64 C_box_full := by
  unfold C_box_full; rw [h_box_full]
  exact sound_of_run (fn := Tryz.f64) hmix hstable (tyOK_of ttOK) (hglob (X_box_full N P_box_size)) (conOK_of (X := X_box_full N P_box_size) ⟨s_box_size, trivial⟩) (mconOK_of (X := X_box_full N P_box_size) trivial) (by kernel_rfl) (by kernel_rfl) (by kernel_rfl) (by kernel_rfl) (by kernel_rfl) (of_decide_eq_true (by kernel_rfl))
theorem p_box_full (a0 : D_A3) : P_box_full (a0, ()) = 
  Option.bind (P_box_size (a0, ())) fun r0 =>
  bif decide ((0 : Int) ≤ r0.1) then
    some ((IntKind.wrap .u64 ((shlI .u64 1 r0.1) - 1)), ())
  else none := by
  rewrite [h_box_full]
  kernel_rfl

/- 27: loop.example/g01166/impl.FullHeap -/
abbrev As_impl_FullHeap : List ATy := [.data false (.int .i64), .data false (.int .i64), .data false (.int .i64)]
abbrev R_impl_FullHeap : List (Bool × Ty) := [(true, T_Heap), (false, .bool)]
abbrev M_impl_FullHeap : List RMode := [.own 27]
abbrev Ft_impl_FullHeap : Type := Int × Int × Int × Unit → Option (D_Heap × Bool × Unit)
noncomputable def X_impl_FullHeap (n : Nat) (F_box_heap : Ft_box_heap) (F_box_valid : Ft_box_valid) (F_box_full : Ft_box_full) : Ctx := { types := TT, globals := [], con := [(39, ⟨As_box_heap, R_box_heap, M_box_heap, F_box_heap⟩), (51, ⟨As_box_valid, R_box_valid, M_box_valid, F_box_valid⟩), (64, ⟨As_box_full, R_box_full, M_box_full, F_box_full⟩)], keep := [], results := [.cell 6 26, .tmp 7], ntmps := 21, n := n }
noncomputable def B_impl_FullHeap : Code := (Tryz.f27.body).getD .skip
noncomputable def P_impl_FullHeap : Ft_impl_FullHeap := hid (runF (X_impl_FullHeap N P_box_heap P_box_valid P_box_full) B_impl_FullHeap As_impl_FullHeap R_impl_FullHeap M_impl_FullHeap)
theorem h_impl_FullHeap : P_impl_FullHeap = runF (X_impl_FullHeap N P_box_heap P_box_valid P_box_full) B_impl_FullHeap As_impl_FullHeap R_impl_FullHeap M_impl_FullHeap := hid_eq _
noncomputable def C_impl_FullHeap : Contract := ⟨As_impl_FullHeap, R_impl_FullHeap, M_impl_FullHeap, P_impl_FullHeap⟩
theorem s_impl_FullHeap : Sound Tryz.prog GG 27 C_impl_FullHeap := by
  unfold C_impl_FullHeap; rw [h_impl_FullHeap]
  exact sound_of_run (fn := Tryz.f27) hmix hstable (tyOK_of ttOK) (hglob (X_impl_FullHeap N P_box_heap P_box_valid P_box_full)) (conOK_of (X := X_impl_FullHeap N P_box_heap P_box_valid P_box_full) ⟨s_box_heap, s_box_valid, s_box_full, trivial⟩) (mconOK_of (X := X_impl_FullHeap N P_box_heap P_box_valid P_box_full) trivial) (by kernel_rfl) (by kernel_rfl) (by kernel_rfl) (by kernel_rfl) (by kernel_rfl) (of_decide_eq_true (by kernel_rfl))
theorem p_impl_FullHeap (a0 : Int) (a1 : Int) (a2 : Int) : P_impl_FullHeap (a0, a1, a2, ()) = 
  Option.bind (P_box_valid ((a0, (a1, (a2, ()))), ())) fun r0 =>
  bif !r0.1 then
    some ((0, (0, (0, (([] : List D_A3), ())))), false, ())
  else
    Option.bind (P_box_full ((a0, (a1, (a2, ()))), ())) fun r2 =>
    Option.bind (P_box_heap ((a0, (a1, (a2, ()))), r2.1, ())) fun r3 =>
    some (r3.1, true, ()) := by
  rewrite [h_impl_FullHeap]
  kernel_rfl

/- 28: loop.example/g01166/impl.EmptyHeap -/
abbrev As_impl_EmptyHeap : List ATy := [.data false (.int .i64), .data false (.int .i64), .data false (.int .i64)]
abbrev R_impl_EmptyHeap : List (Bool × Ty) := [(true, T_Heap), (false, .bool)]
abbrev M_impl_EmptyHeap : List RMode := [.own 27]
abbrev Ft_impl_EmptyHeap : Type := Int × Int × Int × Unit → Option (D_Heap × Bool × Unit)
noncomputable def X_impl_EmptyHeap (n : Nat) (F_box_heap : Ft_box_heap) (F_box_valid : Ft_box_valid) : Ctx := { types := TT, globals := [], con := [(39, ⟨As_box_heap, R_box_heap, M_box_heap, F_box_heap⟩), (51, ⟨As_box_valid, R_box_valid, M_box_valid, F_box_valid⟩)], keep := [], results := [.cell 6 26, .tmp 7], ntmps := 19, n := n }
noncomputable def B_impl_EmptyHeap : Code := (Tryz.f28.body).getD .skip
noncomputable def P_impl_EmptyHeap : Ft_impl_EmptyHeap := hid (runF (X_impl_EmptyHeap N P_box_heap P_box_valid) B_impl_EmptyHeap As_impl_EmptyHeap R_impl_EmptyHeap M_impl_EmptyHeap)
theorem h_impl_EmptyHeap : P_impl_EmptyHeap = runF (X_impl_EmptyHeap N P_box_heap P_box_valid) B_impl_EmptyHeap As_impl_EmptyHeap R_impl_EmptyHeap M_impl_EmptyHeap := hid_eq _
noncomputable def C_impl_EmptyHeap : Contract := ⟨As_impl_EmptyHeap, R_impl_EmptyHeap, M_impl_EmptyHeap, P_impl_EmptyHeap⟩
theorem s_impl_EmptyHeap : Sound Tryz.prog GG 28 C_impl_EmptyHeap := by
  unfold C_impl_EmptyHeap; rw [h_impl_EmptyHeap]
  exact sound_of_run (fn := Tryz.f28) hmix hstable (tyOK_of ttOK) (hglob (X_impl_EmptyHeap N P_box_heap P_box_valid)) (conOK_of (X := X_impl_EmptyHeap N P_box_heap P_box_valid) ⟨s_box_heap, s_box_valid, trivial⟩) (mconOK_of (X := X_impl_EmptyHeap N P_box_heap P_box_valid) trivial) (by kernel_rfl) (by kernel_rfl) (by kernel_rfl) (by kernel_rfl) (by kernel_rfl) (of_decide_eq_true (by kernel_rfl))
theorem p_impl_EmptyHeap (a0 : Int) (a1 : Int) (a2 : Int) : P_impl_EmptyHeap (a0, a1, a2, ()) = 
  Option.bind (P_box_valid ((a0, (a1, (a2, ()))), ())) fun r0 =>
  bif !r0.1 then
    some ((0, (0, (0, (([] : List D_A3), ())))), false, ())
  else
    Option.bind (P_box_heap ((a0, (a1, (a2, ()))), 0, ())) fun r2 =>
    some (r2.1, true, ()) := by
  rewrite [h_impl_EmptyHeap]
  kernel_rfl

/- 66: loop.example/g01166/spec.l2Box -/
abbrev As_spec_l2Box : List ATy := [.data false (.int .i64), .data false (.int .i64), .data false (.int .i64)]
abbrev R_spec_l2Box : List (Bool × Ty) := [(true, T_Heap)]
abbrev M_spec_l2Box : List RMode := [.own 27]
abbrev Ft_spec_l2Box : Type := Int × Int × Int × Unit → Option (D_Heap × Unit)
noncomputable def X_spec_l2Box (n : Nat) (F_spec_l2Empty : Ft_spec_l2Empty) (F_spec_l2All : Ft_spec_l2All) : Ctx := { types := TT, globals := [], con := [(62, ⟨As_spec_l2Empty, R_spec_l2Empty, M_spec_l2Empty, F_spec_l2Empty⟩), (90, ⟨As_spec_l2All, R_spec_l2All, M_spec_l2All, F_spec_l2All⟩)], keep := [], results := [.cell 6 26], ntmps := 16, n := n }
noncomputable def B_spec_l2Box : Code := (Tryz.f66.body).getD .skip
noncomputable def P_spec_l2Box : Ft_spec_l2Box := hid (runF (X_spec_l2Box N P_spec_l2Empty P_spec_l2All) B_spec_l2Box As_spec_l2Box R_spec_l2Box M_spec_l2Box)
theorem h_spec_l2Box : P_spec_l2Box = runF (X_spec_l2Box N P_spec_l2Empty P_spec_l2All) B_spec_l2Box As_spec_l2Box R_spec_l2Box M_spec_l2Box := hid_eq _
noncomputable def C_spec_l2Box : Contract := ⟨As_spec_l2Box, R_spec_l2Box, M_spec_l2Box, P_spec_l2Box⟩
theorem s_spec_l2Box : Sound Tryz.prog GG 66 C_spec_l2Box := by
  unfold C_spec_l2Box; rw [h_spec_l2Box]
  exact sound_of_run (fn := Tryz.f66) hmix hstable (tyOK_of ttOK) (hglob (X_spec_l2Box N P_spec_l2Empty P_spec_l2All)) (conOK_of (X := X_spec_l2Box N P_spec_l2Empty P_spec_l2All) ⟨s_spec_l2Empty, s_spec_l2All, trivial⟩) (mconOK_of (X := X_spec_l2Box N P_spec_l2Empty P_spec_l2All) trivial) (by kernel_rfl) (by kernel_rfl) (by kernel_rfl) (by kernel_rfl) (by kernel_rfl) (of_decide_eq_true (by kernel_rfl))
theorem p_spec_l2Box (a0 : Int) (a1 : Int) (a2 : Int) : P_spec_l2Box (a0, a1, a2, ()) = 
  Option.bind (P_spec_l2Empty (a0, a1, a2, ())) fun r0 =>
  Option.bind (P_spec_l2All (r0.1, ())) fun r1 =>
  some ((r0.1.1, (r0.1.2.1, (r0.1.2.2.1, (r1.1, ())))), ()) := by
  rewrite [h_spec_l2Box]
  kernel_rfl

/- 29: loop.example/g01166/spec.FullHeap -/
abbrev As_spec_FullHeap : List ATy := [.data false (.int .i64), .data false (.int .i64), .data false (.int .i64)]
abbrev R_spec_FullHeap : List (Bool × Ty) := [(true, T_Heap), (false, .bool)]
abbrev M_spec_FullHeap : List RMode := [.own 27]
abbrev Ft_spec_FullHeap : Type := Int × Int × Int × Unit → Option (D_Heap × Bool × Unit)
noncomputable def X_spec_FullHeap (n : Nat) (F_spec_l2Sides : Ft_spec_l2Sides) (F_spec_l2Box : Ft_spec_l2Box) : Ctx := { types := TT, globals := [], con := [(65, ⟨As_spec_l2Sides, R_spec_l2Sides, M_spec_l2Sides, F_spec_l2Sides⟩), (66, ⟨As_spec_l2Box, R_spec_l2Box, M_spec_l2Box, F_spec_l2Box⟩)], keep := [], results := [.cell 6 26, .tmp 7], ntmps := 18, n := n }
noncomputable def B_spec_FullHeap : Code := (Tryz.f29.body).getD .skip
noncomputable def P_spec_FullHeap : Ft_spec_FullHeap := hid (runF (X_spec_FullHeap N P_spec_l2Sides P_spec_l2Box) B_spec_FullHeap As_spec_FullHeap R_spec_FullHeap M_spec_FullHeap)
theorem h_spec_FullHeap : P_spec_FullHeap = runF (X_spec_FullHeap N P_spec_l2Sides P_spec_l2Box) B_spec_FullHeap As_spec_FullHeap R_spec_FullHeap M_spec_FullHeap := hid_eq _
noncomputable def C_spec_FullHeap : Contract := ⟨As_spec_FullHeap, R_spec_FullHeap, M_spec_FullHeap, P_spec_FullHeap⟩
theorem s_spec_FullHeap : Sound Tryz.prog GG 29 C_spec_FullHeap := by
  unfold C_spec_FullHeap; rw [h_spec_FullHeap]
  exact sound_of_run (fn := Tryz.f29) hmix hstable (tyOK_of ttOK) (hglob (X_spec_FullHeap N P_spec_l2Sides P_spec_l2Box)) (conOK_of (X := X_spec_FullHeap N P_spec_l2Sides P_spec_l2Box) ⟨s_spec_l2Sides, s_spec_l2Box, trivial⟩) (mconOK_of (X := X_spec_FullHeap N P_spec_l2Sides P_spec_l2Box) trivial) (by kernel_rfl) (by kernel_rfl) (by kernel_rfl) (by kernel_rfl) (by kernel_rfl) (of_decide_eq_true (by kernel_rfl))
theorem p_spec_FullHeap (a0 : Int) (a1 : Int) (a2 : Int) : P_spec_FullHeap (a0, a1, a2, ()) = 
  Option.bind (P_spec_l2Sides (a0, a1, a2, ())) fun r0 =>
  bif !r0.1 then
    some ((0, (0, (0, (([] : List D_A3), ())))), false, ())
  else
    Option.bind (P_spec_l2Box (a0, a1, a2, ())) fun r2 =>
    some (r2.1, true, ()) := by
  rewrite [h_spec_FullHeap]
  kernel_rfl

/- 30: loop.example/g01166/impl.OtherCells -/
abbrev As_impl_OtherCells : List ATy := [.data true T_Heap]
abbrev R_impl_OtherCells : List (Bool × Ty) := [(true, T_Heap), (false, .bool)]
abbrev M_impl_OtherCells : List RMode := [.own 27]
abbrev Ft_impl_OtherCells : Type := D_Heap × Unit → Option (D_Heap × Bool × Unit)
noncomputable def X_impl_OtherCells (n : Nat) (F_impl_IsHeap : Ft_impl_IsHeap) (F_Heap_box : Ft_Heap_box) (F_box_heap : Ft_box_heap) (F_Heap_cubes : Ft_Heap_cubes) (F_box_full : Ft_box_full) : Ctx := { types := TT, globals := [], con := [(19, ⟨As_impl_IsHeap, R_impl_IsHeap, M_impl_IsHeap, F_impl_IsHeap⟩), (38, ⟨As_Heap_box, R_Heap_box, M_Heap_box, F_Heap_box⟩), (39, ⟨As_box_heap, R_box_heap, M_box_heap, F_box_heap⟩), (40, ⟨As_Heap_cubes, R_Heap_cubes, M_Heap_cubes, F_Heap_cubes⟩), (64, ⟨As_box_full, R_box_full, M_box_full, F_box_full⟩)], keep := [], results := [.cell 2 26, .tmp 3], ntmps := 17, n := n }
noncomputable def B_impl_OtherCells : Code := (Tryz.f30.body).getD .skip
noncomputable def P_impl_OtherCells : Ft_impl_OtherCells := hid (runF (X_impl_OtherCells N P_impl_IsHeap P_Heap_box P_box_heap P_Heap_cubes P_box_full) B_impl_OtherCells As_impl_OtherCells R_impl_OtherCells M_impl_OtherCells)
theorem h_impl_OtherCells : P_impl_OtherCells = runF (X_impl_OtherCells N P_impl_IsHeap P_Heap_box P_box_heap P_Heap_cubes P_box_full) B_impl_OtherCells As_impl_OtherCells R_impl_OtherCells M_impl_OtherCells := hid_eq _
noncomputable def C_impl_OtherCells : Contract := ⟨As_impl_OtherCells, R_impl_OtherCells, M_impl_OtherCells, P_impl_OtherCells⟩
theorem s_impl_OtherCells : Sound Tryz.prog GG 30 C_impl_OtherCells := by
  unfold C_impl_OtherCells; rw [h_impl_OtherCells]
  exact sound_of_run (fn := Tryz.f30) hmix hstable (tyOK_of ttOK) (hglob (X_impl_OtherCells N P_impl_IsHeap P_Heap_box P_box_heap P_Heap_cubes P_box_full)) (conOK_of (X := X_impl_OtherCells N P_impl_IsHeap P_Heap_box P_box_heap P_Heap_cubes P_box_full) ⟨s_impl_IsHeap, s_Heap_box, s_box_heap, s_Heap_cubes, s_box_full, trivial⟩) (mconOK_of (X := X_impl_OtherCells N P_impl_IsHeap P_Heap_box P_box_heap P_Heap_cubes P_box_full) trivial) (by kernel_rfl) (by kernel_rfl) (by kernel_rfl) (by kernel_rfl) (by kernel_rfl) (of_decide_eq_true (by kernel_rfl))
theorem p_impl_OtherCells (a0 : D_Heap) : P_impl_OtherCells (a0, ()) = 
  Option.bind (P_impl_IsHeap (a0, ())) fun r0 =>
  bif !r0.1 then
    some ((0, (0, (0, (([] : List D_A3), ())))), false, ())
  else
    Option.bind (P_Heap_box (a0, ())) fun r2 =>
    Option.bind (P_Heap_box (a0, ())) fun r3 =>
    Option.bind (P_box_full (r3.1, ())) fun r4 =>
    Option.bind (P_Heap_cubes (a0, ())) fun r5 =>
    Option.bind (P_box_heap (r2.1, (intBits .andNot .u64 r4.1 r5.1), ())) fun r6 =>
    some (r6.1, true, ()) := by
  rewrite [h_impl_OtherCells]
  kernel_rfl

/- 31: loop.example/g01166/laws.rAll -/
abbrev As_laws_rAll : List ATy := [.data false (.sl (.sl T_A3))]
abbrev R_laws_rAll : List (Bool × Ty) := [(false, (.int .i64))]
abbrev M_laws_rAll : List RMode := []
abbrev Ft_laws_rAll : Type := (List (List D_A3)) × Unit → Option (Int × Unit)
noncomputable def X_laws_rAll (n : Nat) : Ctx := { types := TT, globals := [], con := [], keep := [(3, ⟨[.tmp 0, .tmp 3, .tmp 4], []⟩)], results := [.tmp 2], ntmps := 19, n := n }
noncomputable def B_laws_rAll : Code := (Tryz.f31.body).getD .skip
noncomputable def L_laws_rAll_3 (n : Nat) (m0 : Nat) (p0 : List (List D_A3)) (p1 : Int) (p2 : Int) : Option (denL R_laws_rAll) := loopF (X_laws_rAll n) B_laws_rAll R_laws_rAll M_laws_rAll 3 [m0] [(.ver, .num 1), (.tmp 0, .val false [.imm (.sl T_A3) p0 (some 0)]), (.tmp 3, .val false [.int .i64 p1]), (.tmp 4, .val false [.int .i64 p2])]
noncomputable def P_laws_rAll : Ft_laws_rAll := hid (runF (X_laws_rAll N) B_laws_rAll As_laws_rAll R_laws_rAll M_laws_rAll)
theorem h_laws_rAll : P_laws_rAll = runF (X_laws_rAll N) B_laws_rAll As_laws_rAll R_laws_rAll M_laws_rAll := hid_eq _
noncomputable def C_laws_rAll : Contract := ⟨As_laws_rAll, R_laws_rAll, M_laws_rAll, P_laws_rAll⟩
theorem s_laws_rAll : Sound Tryz.prog GG 31 C_laws_rAll := by
  unfold C_laws_rAll; rw [h_laws_rAll]
  exact sound_of_run (fn := Tryz.f31) hmix hstable (tyOK_of ttOK) (hglob (X_laws_rAll N)) (conOK_of (X := X_laws_rAll N) trivial) (mconOK_of (X := X_laws_rAll N) trivial) (by kernel_rfl) (by kernel_rfl) (by kernel_rfl) (by kernel_rfl) (by kernel_rfl) (of_decide_eq_true (by kernel_rfl))
noncomputable def l_laws_rAll_3 : Nat → (List (List D_A3)) → Int → Int → Option (denL R_laws_rAll) := hid (fun m0 p0 p1 p2 => L_laws_rAll_3 N m0 p0 p1 p2)
theorem h_laws_rAll_3 : l_laws_rAll_3 = fun m0 p0 p1 p2 => L_laws_rAll_3 N m0 p0 p1 p2 := hid_eq _
theorem p_laws_rAll (a0 : List (List D_A3)) : P_laws_rAll (a0, ()) = 
  l_laws_rAll_3 N a0 0 0 := by
  rewrite [h_laws_rAll, h_laws_rAll_3]
  kernel_rfl
theorem q_laws_rAll_3 (m0 : Nat) (p0 : List (List D_A3)) (p1 : Int) (p2 : Int) : l_laws_rAll_3 (m0 + 1) p0 p1 p2 = 
  bif decide (p2 < (List.length p0 : Int)) then
    bif inB p2 (List.length p0) then
      l_laws_rAll_3 m0 p0 (IntKind.wrap .i64 (p1 + (List.length (nth ((.sl T_A3) : Ty) p0 p2) : Int))) (IntKind.wrap .i64 (p2 + 1))
    else none
  else
    some (p1, ()) := by
  rewrite [h_laws_rAll_3]
  kernel_rfl

/- 3: loop.example/g01166/laws.FnCubes -/
abbrev As_laws_FnCubes : List ATy := [.data false (.sl (.int .u8))]
abbrev R_laws_FnCubes : List (Bool × Ty) := [(false, .bool)]
abbrev M_laws_FnCubes : List RMode := []
abbrev Ft_laws_FnCubes : Type := (List Int) × Unit → Option (Bool × Unit)
noncomputable def X_laws_FnCubes (n : Nat) (F_laws_rBig : Ft_laws_rBig) (F_spec_DrawHasCube : Ft_spec_DrawHasCube) (F_impl_HasCube : Ft_impl_HasCube) (F_spec_HasCube : Ft_spec_HasCube) (F_impl_PutCube : Ft_impl_PutCube) (F_spec_PutCube : Ft_spec_PutCube) (F_laws_rHeap : Ft_laws_rHeap) (F_impl_NearCubes : Ft_impl_NearCubes) (F_spec_NearCubes : Ft_spec_NearCubes) (F_laws_rCells : Ft_laws_rCells) (F_spec_DrawTakeCube : Ft_spec_DrawTakeCube) (F_impl_TakeCube : Ft_impl_TakeCube) (F_spec_TakeCube : Ft_spec_TakeCube) (F_impl_PartsOf : Ft_impl_PartsOf) (F_spec_PartsOf : Ft_spec_PartsOf) (F_impl_IsHeap : Ft_impl_IsHeap) (F_laws_rLists : Ft_laws_rLists) (F_impl_HeapText : Ft_impl_HeapText) (F_spec_HeapText : Ft_spec_HeapText) (F_spec_DrawParseHeap : Ft_spec_DrawParseHeap) (F_impl_ParseHeap : Ft_impl_ParseHeap) (F_spec_ParseHeap : Ft_spec_ParseHeap) (F_spec_DrawFullHeap : Ft_spec_DrawFullHeap) (F_impl_FullHeap : Ft_impl_FullHeap) (F_impl_EmptyHeap : Ft_impl_EmptyHeap) (F_spec_FullHeap : Ft_spec_FullHeap) (F_impl_OtherCells : Ft_impl_OtherCells) (F_laws_rAll : Ft_laws_rAll) : Ctx := { types := TT, globals := [], con := [(4, ⟨As_laws_rBig, R_laws_rBig, M_laws_rBig, F_laws_rBig⟩), (5, ⟨As_spec_DrawHasCube, R_spec_DrawHasCube, M_spec_DrawHasCube, F_spec_DrawHasCube⟩), (6, ⟨As_impl_HasCube, R_impl_HasCube, M_impl_HasCube, F_impl_HasCube⟩), (7, ⟨As_spec_HasCube, R_spec_HasCube, M_spec_HasCube, F_spec_HasCube⟩), (8, ⟨As_impl_PutCube, R_impl_PutCube, M_impl_PutCube, F_impl_PutCube⟩), (9, ⟨As_spec_PutCube, R_spec_PutCube, M_spec_PutCube, F_spec_PutCube⟩), (10, ⟨As_laws_rHeap, R_laws_rHeap, M_laws_rHeap, F_laws_rHeap⟩), (11, ⟨As_impl_NearCubes, R_impl_NearCubes, M_impl_NearCubes, F_impl_NearCubes⟩), (12, ⟨As_spec_NearCubes, R_spec_NearCubes, M_spec_NearCubes, F_spec_NearCubes⟩), (13, ⟨As_laws_rCells, R_laws_rCells, M_laws_rCells, F_laws_rCells⟩), (14, ⟨As_spec_DrawTakeCube, R_spec_DrawTakeCube, M_spec_DrawTakeCube, F_spec_DrawTakeCube⟩), (15, ⟨As_impl_TakeCube, R_impl_TakeCube, M_impl_TakeCube, F_impl_TakeCube⟩), (16, ⟨As_spec_TakeCube, R_spec_TakeCube, M_spec_TakeCube, F_spec_TakeCube⟩), (17, ⟨As_impl_PartsOf, R_impl_PartsOf, M_impl_PartsOf, F_impl_PartsOf⟩), (18, ⟨As_spec_PartsOf, R_spec_PartsOf, M_spec_PartsOf, F_spec_PartsOf⟩), (19, ⟨As_impl_IsHeap, R_impl_IsHeap, M_impl_IsHeap, F_impl_IsHeap⟩), (20, ⟨As_laws_rLists, R_laws_rLists, M_laws_rLists, F_laws_rLists⟩), (21, ⟨As_impl_HeapText, R_impl_HeapText, M_impl_HeapText, F_impl_HeapText⟩), (22, ⟨As_spec_HeapText, R_spec_HeapText, M_spec_HeapText, F_spec_HeapText⟩), (23, ⟨As_spec_DrawParseHeap, R_spec_DrawParseHeap, M_spec_DrawParseHeap, F_spec_DrawParseHeap⟩), (24, ⟨As_impl_ParseHeap, R_impl_ParseHeap, M_impl_ParseHeap, F_impl_ParseHeap⟩), (25, ⟨As_spec_ParseHeap, R_spec_ParseHeap, M_spec_ParseHeap, F_spec_ParseHeap⟩), (26, ⟨As_spec_DrawFullHeap, R_spec_DrawFullHeap, M_spec_DrawFullHeap, F_spec_DrawFullHeap⟩), (27, ⟨As_impl_FullHeap, R_impl_FullHeap, M_impl_FullHeap, F_impl_FullHeap⟩), (28, ⟨As_impl_EmptyHeap, R_impl_EmptyHeap, M_impl_EmptyHeap, F_impl_EmptyHeap⟩), (29, ⟨As_spec_FullHeap, R_spec_FullHeap, M_spec_FullHeap, F_spec_FullHeap⟩), (30, ⟨As_impl_OtherCells, R_impl_OtherCells, M_impl_OtherCells, F_impl_OtherCells⟩), (31, ⟨As_laws_rAll, R_laws_rAll, M_laws_rAll, F_laws_rAll⟩)], keep := [(58, ⟨[.box 3, .tmp 3, .tmp 23, .tmp 53], []⟩), (61, ⟨[.box 3, .tmp 3, .tmp 23, .tmp 53, .tmp 54], []⟩), (67, ⟨[.box 3, .tmp 3, .tmp 23, .tmp 53, .tmp 54, .tmp 55, .tmp 57], []⟩), (71, ⟨[.box 3, .tmp 3, .tmp 23, .tmp 53, .tmp 54, .tmp 55, .tmp 57, .tmp 58, .tmp 59], []⟩)], results := [.tmp 2], ntmps := 431, n := n }
noncomputable def B_laws_FnCubes : Code := (Tryz.f3.body).getD .skip
noncomputable def L_laws_FnCubes_58 (n : Nat) (F_laws_rBig : Ft_laws_rBig) (F_spec_DrawHasCube : Ft_spec_DrawHasCube) (F_impl_HasCube : Ft_impl_HasCube) (F_spec_HasCube : Ft_spec_HasCube) (F_impl_PutCube : Ft_impl_PutCube) (F_spec_PutCube : Ft_spec_PutCube) (F_laws_rHeap : Ft_laws_rHeap) (F_impl_NearCubes : Ft_impl_NearCubes) (F_spec_NearCubes : Ft_spec_NearCubes) (F_laws_rCells : Ft_laws_rCells) (F_spec_DrawTakeCube : Ft_spec_DrawTakeCube) (F_impl_TakeCube : Ft_impl_TakeCube) (F_spec_TakeCube : Ft_spec_TakeCube) (F_impl_PartsOf : Ft_impl_PartsOf) (F_spec_PartsOf : Ft_spec_PartsOf) (F_impl_IsHeap : Ft_impl_IsHeap) (F_laws_rLists : Ft_laws_rLists) (F_impl_HeapText : Ft_impl_HeapText) (F_spec_HeapText : Ft_spec_HeapText) (F_spec_DrawParseHeap : Ft_spec_DrawParseHeap) (F_impl_ParseHeap : Ft_impl_ParseHeap) (F_spec_ParseHeap : Ft_spec_ParseHeap) (F_spec_DrawFullHeap : Ft_spec_DrawFullHeap) (F_impl_FullHeap : Ft_impl_FullHeap) (F_impl_EmptyHeap : Ft_impl_EmptyHeap) (F_spec_FullHeap : Ft_spec_FullHeap) (F_impl_OtherCells : Ft_impl_OtherCells) (F_laws_rAll : Ft_laws_rAll) (m0 : Nat) (p0 : Int) (p1 : Int) (p2 : Int) (p3 : List D_A3) (p4 : List (List D_A3)) (p5 : Int) : Option (denL R_laws_FnCubes) := loopF (X_laws_FnCubes n F_laws_rBig F_spec_DrawHasCube F_impl_HasCube F_spec_HasCube F_impl_PutCube F_spec_PutCube F_laws_rHeap F_impl_NearCubes F_spec_NearCubes F_laws_rCells F_spec_DrawTakeCube F_impl_TakeCube F_spec_TakeCube F_impl_PartsOf F_spec_PartsOf F_impl_IsHeap F_laws_rLists F_impl_HeapText F_spec_HeapText F_spec_DrawParseHeap F_impl_ParseHeap F_spec_ParseHeap F_spec_DrawFullHeap F_impl_FullHeap F_impl_EmptyHeap F_spec_FullHeap F_impl_OtherCells F_laws_rAll) B_laws_FnCubes R_laws_FnCubes M_laws_FnCubes 58 [m0] [(.ver, .num 1), (.box 3, .box 0 false [.int .i64 p0, .int .i64 p1, .int .i64 p2, .imm T_A3 p3 none]), (.tmp 3, .val false [.addr 3 0 0]), (.tmp 23, .val false [.own 24 (.sl T_A3) 0 p4]), (.tmp 53, .val false [.int .i64 p5])]
noncomputable def L_laws_FnCubes_61 (n : Nat) (F_laws_rBig : Ft_laws_rBig) (F_spec_DrawHasCube : Ft_spec_DrawHasCube) (F_impl_HasCube : Ft_impl_HasCube) (F_spec_HasCube : Ft_spec_HasCube) (F_impl_PutCube : Ft_impl_PutCube) (F_spec_PutCube : Ft_spec_PutCube) (F_laws_rHeap : Ft_laws_rHeap) (F_impl_NearCubes : Ft_impl_NearCubes) (F_spec_NearCubes : Ft_spec_NearCubes) (F_laws_rCells : Ft_laws_rCells) (F_spec_DrawTakeCube : Ft_spec_DrawTakeCube) (F_impl_TakeCube : Ft_impl_TakeCube) (F_spec_TakeCube : Ft_spec_TakeCube) (F_impl_PartsOf : Ft_impl_PartsOf) (F_spec_PartsOf : Ft_spec_PartsOf) (F_impl_IsHeap : Ft_impl_IsHeap) (F_laws_rLists : Ft_laws_rLists) (F_impl_HeapText : Ft_impl_HeapText) (F_spec_HeapText : Ft_spec_HeapText) (F_spec_DrawParseHeap : Ft_spec_DrawParseHeap) (F_impl_ParseHeap : Ft_impl_ParseHeap) (F_spec_ParseHeap : Ft_spec_ParseHeap) (F_spec_DrawFullHeap : Ft_spec_DrawFullHeap) (F_impl_FullHeap : Ft_impl_FullHeap) (F_impl_EmptyHeap : Ft_impl_EmptyHeap) (F_spec_FullHeap : Ft_spec_FullHeap) (F_impl_OtherCells : Ft_impl_OtherCells) (F_laws_rAll : Ft_laws_rAll) (m0 m1 : Nat) (p0 : Int) (p1 : Int) (p2 : Int) (p3 : List D_A3) (p4 : List (List D_A3)) (p5 : Int) (p6 : Int) : Option (denL R_laws_FnCubes) := loopF (X_laws_FnCubes n F_laws_rBig F_spec_DrawHasCube F_impl_HasCube F_spec_HasCube F_impl_PutCube F_spec_PutCube F_laws_rHeap F_impl_NearCubes F_spec_NearCubes F_laws_rCells F_spec_DrawTakeCube F_impl_TakeCube F_spec_TakeCube F_impl_PartsOf F_spec_PartsOf F_impl_IsHeap F_laws_rLists F_impl_HeapText F_spec_HeapText F_spec_DrawParseHeap F_impl_ParseHeap F_spec_ParseHeap F_spec_DrawFullHeap F_impl_FullHeap F_impl_EmptyHeap F_spec_FullHeap F_impl_OtherCells F_laws_rAll) B_laws_FnCubes R_laws_FnCubes M_laws_FnCubes 61 [m0, m1] [(.ver, .num 1), (.box 3, .box 0 false [.int .i64 p0, .int .i64 p1, .int .i64 p2, .imm T_A3 p3 none]), (.tmp 3, .val false [.addr 3 0 0]), (.tmp 23, .val false [.own 24 (.sl T_A3) 0 p4]), (.tmp 53, .val false [.int .i64 p5]), (.tmp 54, .val false [.int .i64 p6])]
noncomputable def L_laws_FnCubes_67 (n : Nat) (F_laws_rBig : Ft_laws_rBig) (F_spec_DrawHasCube : Ft_spec_DrawHasCube) (F_impl_HasCube : Ft_impl_HasCube) (F_spec_HasCube : Ft_spec_HasCube) (F_impl_PutCube : Ft_impl_PutCube) (F_spec_PutCube : Ft_spec_PutCube) (F_laws_rHeap : Ft_laws_rHeap) (F_impl_NearCubes : Ft_impl_NearCubes) (F_spec_NearCubes : Ft_spec_NearCubes) (F_laws_rCells : Ft_laws_rCells) (F_spec_DrawTakeCube : Ft_spec_DrawTakeCube) (F_impl_TakeCube : Ft_impl_TakeCube) (F_spec_TakeCube : Ft_spec_TakeCube) (F_impl_PartsOf : Ft_impl_PartsOf) (F_spec_PartsOf : Ft_spec_PartsOf) (F_impl_IsHeap : Ft_impl_IsHeap) (F_laws_rLists : Ft_laws_rLists) (F_impl_HeapText : Ft_impl_HeapText) (F_spec_HeapText : Ft_spec_HeapText) (F_spec_DrawParseHeap : Ft_spec_DrawParseHeap) (F_impl_ParseHeap : Ft_impl_ParseHeap) (F_spec_ParseHeap : Ft_spec_ParseHeap) (F_spec_DrawFullHeap : Ft_spec_DrawFullHeap) (F_impl_FullHeap : Ft_impl_FullHeap) (F_impl_EmptyHeap : Ft_impl_EmptyHeap) (F_spec_FullHeap : Ft_spec_FullHeap) (F_impl_OtherCells : Ft_impl_OtherCells) (F_laws_rAll : Ft_laws_rAll) (m0 m1 m2 : Nat) (p0 : Int) (p1 : Int) (p2 : Int) (p3 : List D_A3) (p4 : List (List D_A3)) (p5 : Int) (p6 : Int) (p7 : List D_A3) (p8 : Int) : Option (denL R_laws_FnCubes) := loopF (X_laws_FnCubes n F_laws_rBig F_spec_DrawHasCube F_impl_HasCube F_spec_HasCube F_impl_PutCube F_spec_PutCube F_laws_rHeap F_impl_NearCubes F_spec_NearCubes F_laws_rCells F_spec_DrawTakeCube F_impl_TakeCube F_spec_TakeCube F_impl_PartsOf F_spec_PartsOf F_impl_IsHeap F_laws_rLists F_impl_HeapText F_spec_HeapText F_spec_DrawParseHeap F_impl_ParseHeap F_spec_ParseHeap F_spec_DrawFullHeap F_impl_FullHeap F_impl_EmptyHeap F_spec_FullHeap F_impl_OtherCells F_laws_rAll) B_laws_FnCubes R_laws_FnCubes M_laws_FnCubes 67 [m0, m1, m2] [(.ver, .num 1), (.box 3, .box 0 false [.int .i64 p0, .int .i64 p1, .int .i64 p2, .imm T_A3 p3 none]), (.tmp 3, .val false [.addr 3 0 0]), (.tmp 23, .val false [.own 24 (.sl T_A3) 0 p4]), (.tmp 53, .val false [.int .i64 p5]), (.tmp 54, .val false [.int .i64 p6]), (.tmp 55, .val false [.own 27 T_A3 0 p7]), (.tmp 57, .val false [.int .i64 p8])]
noncomputable def L_laws_FnCubes_71 (n : Nat) (F_laws_rBig : Ft_laws_rBig) (F_spec_DrawHasCube : Ft_spec_DrawHasCube) (F_impl_HasCube : Ft_impl_HasCube) (F_spec_HasCube : Ft_spec_HasCube) (F_impl_PutCube : Ft_impl_PutCube) (F_spec_PutCube : Ft_spec_PutCube) (F_laws_rHeap : Ft_laws_rHeap) (F_impl_NearCubes : Ft_impl_NearCubes) (F_spec_NearCubes : Ft_spec_NearCubes) (F_laws_rCells : Ft_laws_rCells) (F_spec_DrawTakeCube : Ft_spec_DrawTakeCube) (F_impl_TakeCube : Ft_impl_TakeCube) (F_spec_TakeCube : Ft_spec_TakeCube) (F_impl_PartsOf : Ft_impl_PartsOf) (F_spec_PartsOf : Ft_spec_PartsOf) (F_impl_IsHeap : Ft_impl_IsHeap) (F_laws_rLists : Ft_laws_rLists) (F_impl_HeapText : Ft_impl_HeapText) (F_spec_HeapText : Ft_spec_HeapText) (F_spec_DrawParseHeap : Ft_spec_DrawParseHeap) (F_impl_ParseHeap : Ft_impl_ParseHeap) (F_spec_ParseHeap : Ft_spec_ParseHeap) (F_spec_DrawFullHeap : Ft_spec_DrawFullHeap) (F_impl_FullHeap : Ft_impl_FullHeap) (F_impl_EmptyHeap : Ft_impl_EmptyHeap) (F_spec_FullHeap : Ft_spec_FullHeap) (F_impl_OtherCells : Ft_impl_OtherCells) (F_laws_rAll : Ft_laws_rAll) (m0 m1 m2 m3 : Nat) (p0 : Int) (p1 : Int) (p2 : Int) (p3 : List D_A3) (p4 : List (List D_A3)) (p5 : Int) (p6 : Int) (p7 : List D_A3) (p8 : Int) (p9 : Bool) (p10 : Int) : Option (denL R_laws_FnCubes) := loopF (X_laws_FnCubes n F_laws_rBig F_spec_DrawHasCube F_impl_HasCube F_spec_HasCube F_impl_PutCube F_spec_PutCube F_laws_rHeap F_impl_NearCubes F_spec_NearCubes F_laws_rCells F_spec_DrawTakeCube F_impl_TakeCube F_spec_TakeCube F_impl_PartsOf F_spec_PartsOf F_impl_IsHeap F_laws_rLists F_impl_HeapText F_spec_HeapText F_spec_DrawParseHeap F_impl_ParseHeap F_spec_ParseHeap F_spec_DrawFullHeap F_impl_FullHeap F_impl_EmptyHeap F_spec_FullHeap F_impl_OtherCells F_laws_rAll) B_laws_FnCubes R_laws_FnCubes M_laws_FnCubes 71 [m0, m1, m2, m3] [(.ver, .num 1), (.box 3, .box 0 false [.int .i64 p0, .int .i64 p1, .int .i64 p2, .imm T_A3 p3 none]), (.tmp 3, .val false [.addr 3 0 0]), (.tmp 23, .val false [.own 24 (.sl T_A3) 0 p4]), (.tmp 53, .val false [.int .i64 p5]), (.tmp 54, .val false [.int .i64 p6]), (.tmp 55, .val false [.own 27 T_A3 0 p7]), (.tmp 57, .val false [.int .i64 p8]), (.tmp 58, .val false [.bool p9]), (.tmp 59, .val false [.int .i64 p10])]
noncomputable def P_laws_FnCubes : Ft_laws_FnCubes := hid (runF (X_laws_FnCubes N P_laws_rBig P_spec_DrawHasCube P_impl_HasCube P_spec_HasCube P_impl_PutCube P_spec_PutCube P_laws_rHeap P_impl_NearCubes P_spec_NearCubes P_laws_rCells P_spec_DrawTakeCube P_impl_TakeCube P_spec_TakeCube P_impl_PartsOf P_spec_PartsOf P_impl_IsHeap P_laws_rLists P_impl_HeapText P_spec_HeapText P_spec_DrawParseHeap P_impl_ParseHeap P_spec_ParseHeap P_spec_DrawFullHeap P_impl_FullHeap P_impl_EmptyHeap P_spec_FullHeap P_impl_OtherCells P_laws_rAll) B_laws_FnCubes As_laws_FnCubes R_laws_FnCubes M_laws_FnCubes)
theorem h_laws_FnCubes : P_laws_FnCubes = runF (X_laws_FnCubes N P_laws_rBig P_spec_DrawHasCube P_impl_HasCube P_spec_HasCube P_impl_PutCube P_spec_PutCube P_laws_rHeap P_impl_NearCubes P_spec_NearCubes P_laws_rCells P_spec_DrawTakeCube P_impl_TakeCube P_spec_TakeCube P_impl_PartsOf P_spec_PartsOf P_impl_IsHeap P_laws_rLists P_impl_HeapText P_spec_HeapText P_spec_DrawParseHeap P_impl_ParseHeap P_spec_ParseHeap P_spec_DrawFullHeap P_impl_FullHeap P_impl_EmptyHeap P_spec_FullHeap P_impl_OtherCells P_laws_rAll) B_laws_FnCubes As_laws_FnCubes R_laws_FnCubes M_laws_FnCubes := hid_eq _
noncomputable def C_laws_FnCubes : Contract := ⟨As_laws_FnCubes, R_laws_FnCubes, M_laws_FnCubes, P_laws_FnCubes⟩
theorem s_laws_FnCubes : Sound Tryz.prog GG 3 C_laws_FnCubes := by
  unfold C_laws_FnCubes; rw [h_laws_FnCubes]
  exact sound_of_run (fn := Tryz.f3) hmix hstable (tyOK_of ttOK) (hglob (X_laws_FnCubes N P_laws_rBig P_spec_DrawHasCube P_impl_HasCube P_spec_HasCube P_impl_PutCube P_spec_PutCube P_laws_rHeap P_impl_NearCubes P_spec_NearCubes P_laws_rCells P_spec_DrawTakeCube P_impl_TakeCube P_spec_TakeCube P_impl_PartsOf P_spec_PartsOf P_impl_IsHeap P_laws_rLists P_impl_HeapText P_spec_HeapText P_spec_DrawParseHeap P_impl_ParseHeap P_spec_ParseHeap P_spec_DrawFullHeap P_impl_FullHeap P_impl_EmptyHeap P_spec_FullHeap P_impl_OtherCells P_laws_rAll)) (conOK_of (X := X_laws_FnCubes N P_laws_rBig P_spec_DrawHasCube P_impl_HasCube P_spec_HasCube P_impl_PutCube P_spec_PutCube P_laws_rHeap P_impl_NearCubes P_spec_NearCubes P_laws_rCells P_spec_DrawTakeCube P_impl_TakeCube P_spec_TakeCube P_impl_PartsOf P_spec_PartsOf P_impl_IsHeap P_laws_rLists P_impl_HeapText P_spec_HeapText P_spec_DrawParseHeap P_impl_ParseHeap P_spec_ParseHeap P_spec_DrawFullHeap P_impl_FullHeap P_impl_EmptyHeap P_spec_FullHeap P_impl_OtherCells P_laws_rAll) ⟨s_laws_rBig, s_spec_DrawHasCube, s_impl_HasCube, s_spec_HasCube, s_impl_PutCube, s_spec_PutCube, s_laws_rHeap, s_impl_NearCubes, s_spec_NearCubes, s_laws_rCells, s_spec_DrawTakeCube, s_impl_TakeCube, s_spec_TakeCube, s_impl_PartsOf, s_spec_PartsOf, s_impl_IsHeap, s_laws_rLists, s_impl_HeapText, s_spec_HeapText, s_spec_DrawParseHeap, s_impl_ParseHeap, s_spec_ParseHeap, s_spec_DrawFullHeap, s_impl_FullHeap, s_impl_EmptyHeap, s_spec_FullHeap, s_impl_OtherCells, s_laws_rAll, trivial⟩) (mconOK_of (X := X_laws_FnCubes N P_laws_rBig P_spec_DrawHasCube P_impl_HasCube P_spec_HasCube P_impl_PutCube P_spec_PutCube P_laws_rHeap P_impl_NearCubes P_spec_NearCubes P_laws_rCells P_spec_DrawTakeCube P_impl_TakeCube P_spec_TakeCube P_impl_PartsOf P_spec_PartsOf P_impl_IsHeap P_laws_rLists P_impl_HeapText P_spec_HeapText P_spec_DrawParseHeap P_impl_ParseHeap P_spec_ParseHeap P_spec_DrawFullHeap P_impl_FullHeap P_impl_EmptyHeap P_spec_FullHeap P_impl_OtherCells P_laws_rAll) trivial) (by kernel_rfl) (by kernel_rfl) (by kernel_rfl) (by kernel_rfl) (by kernel_rfl) (of_decide_eq_true (by kernel_rfl))
noncomputable def l_laws_FnCubes_58 : Nat → Int → Int → Int → (List D_A3) → (List (List D_A3)) → Int → Option (denL R_laws_FnCubes) := hid (fun m0 p0 p1 p2 p3 p4 p5 => L_laws_FnCubes_58 N P_laws_rBig P_spec_DrawHasCube P_impl_HasCube P_spec_HasCube P_impl_PutCube P_spec_PutCube P_laws_rHeap P_impl_NearCubes P_spec_NearCubes P_laws_rCells P_spec_DrawTakeCube P_impl_TakeCube P_spec_TakeCube P_impl_PartsOf P_spec_PartsOf P_impl_IsHeap P_laws_rLists P_impl_HeapText P_spec_HeapText P_spec_DrawParseHeap P_impl_ParseHeap P_spec_ParseHeap P_spec_DrawFullHeap P_impl_FullHeap P_impl_EmptyHeap P_spec_FullHeap P_impl_OtherCells P_laws_rAll m0 p0 p1 p2 p3 p4 p5)
theorem h_laws_FnCubes_58 : l_laws_FnCubes_58 = fun m0 p0 p1 p2 p3 p4 p5 => L_laws_FnCubes_58 N P_laws_rBig P_spec_DrawHasCube P_impl_HasCube P_spec_HasCube P_impl_PutCube P_spec_PutCube P_laws_rHeap P_impl_NearCubes P_spec_NearCubes P_laws_rCells P_spec_DrawTakeCube P_impl_TakeCube P_spec_TakeCube P_impl_PartsOf P_spec_PartsOf P_impl_IsHeap P_laws_rLists P_impl_HeapText P_spec_HeapText P_spec_DrawParseHeap P_impl_ParseHeap P_spec_ParseHeap P_spec_DrawFullHeap P_impl_FullHeap P_impl_EmptyHeap P_spec_FullHeap P_impl_OtherCells P_laws_rAll m0 p0 p1 p2 p3 p4 p5 := hid_eq _
noncomputable def l_laws_FnCubes_61 : Nat → Nat → Int → Int → Int → (List D_A3) → (List (List D_A3)) → Int → Int → Option (denL R_laws_FnCubes) := hid (fun m0 m1 p0 p1 p2 p3 p4 p5 p6 => L_laws_FnCubes_61 N P_laws_rBig P_spec_DrawHasCube P_impl_HasCube P_spec_HasCube P_impl_PutCube P_spec_PutCube P_laws_rHeap P_impl_NearCubes P_spec_NearCubes P_laws_rCells P_spec_DrawTakeCube P_impl_TakeCube P_spec_TakeCube P_impl_PartsOf P_spec_PartsOf P_impl_IsHeap P_laws_rLists P_impl_HeapText P_spec_HeapText P_spec_DrawParseHeap P_impl_ParseHeap P_spec_ParseHeap P_spec_DrawFullHeap P_impl_FullHeap P_impl_EmptyHeap P_spec_FullHeap P_impl_OtherCells P_laws_rAll m0 m1 p0 p1 p2 p3 p4 p5 p6)
theorem h_laws_FnCubes_61 : l_laws_FnCubes_61 = fun m0 m1 p0 p1 p2 p3 p4 p5 p6 => L_laws_FnCubes_61 N P_laws_rBig P_spec_DrawHasCube P_impl_HasCube P_spec_HasCube P_impl_PutCube P_spec_PutCube P_laws_rHeap P_impl_NearCubes P_spec_NearCubes P_laws_rCells P_spec_DrawTakeCube P_impl_TakeCube P_spec_TakeCube P_impl_PartsOf P_spec_PartsOf P_impl_IsHeap P_laws_rLists P_impl_HeapText P_spec_HeapText P_spec_DrawParseHeap P_impl_ParseHeap P_spec_ParseHeap P_spec_DrawFullHeap P_impl_FullHeap P_impl_EmptyHeap P_spec_FullHeap P_impl_OtherCells P_laws_rAll m0 m1 p0 p1 p2 p3 p4 p5 p6 := hid_eq _
noncomputable def l_laws_FnCubes_67 : Nat → Nat → Nat → Int → Int → Int → (List D_A3) → (List (List D_A3)) → Int → Int → (List D_A3) → Int → Option (denL R_laws_FnCubes) := hid (fun m0 m1 m2 p0 p1 p2 p3 p4 p5 p6 p7 p8 => L_laws_FnCubes_67 N P_laws_rBig P_spec_DrawHasCube P_impl_HasCube P_spec_HasCube P_impl_PutCube P_spec_PutCube P_laws_rHeap P_impl_NearCubes P_spec_NearCubes P_laws_rCells P_spec_DrawTakeCube P_impl_TakeCube P_spec_TakeCube P_impl_PartsOf P_spec_PartsOf P_impl_IsHeap P_laws_rLists P_impl_HeapText P_spec_HeapText P_spec_DrawParseHeap P_impl_ParseHeap P_spec_ParseHeap P_spec_DrawFullHeap P_impl_FullHeap P_impl_EmptyHeap P_spec_FullHeap P_impl_OtherCells P_laws_rAll m0 m1 m2 p0 p1 p2 p3 p4 p5 p6 p7 p8)
theorem h_laws_FnCubes_67 : l_laws_FnCubes_67 = fun m0 m1 m2 p0 p1 p2 p3 p4 p5 p6 p7 p8 => L_laws_FnCubes_67 N P_laws_rBig P_spec_DrawHasCube P_impl_HasCube P_spec_HasCube P_impl_PutCube P_spec_PutCube P_laws_rHeap P_impl_NearCubes P_spec_NearCubes P_laws_rCells P_spec_DrawTakeCube P_impl_TakeCube P_spec_TakeCube P_impl_PartsOf P_spec_PartsOf P_impl_IsHeap P_laws_rLists P_impl_HeapText P_spec_HeapText P_spec_DrawParseHeap P_impl_ParseHeap P_spec_ParseHeap P_spec_DrawFullHeap P_impl_FullHeap P_impl_EmptyHeap P_spec_FullHeap P_impl_OtherCells P_laws_rAll m0 m1 m2 p0 p1 p2 p3 p4 p5 p6 p7 p8 := hid_eq _
noncomputable def l_laws_FnCubes_71 : Nat → Nat → Nat → Nat → Int → Int → Int → (List D_A3) → (List (List D_A3)) → Int → Int → (List D_A3) → Int → Bool → Int → Option (denL R_laws_FnCubes) := hid (fun m0 m1 m2 m3 p0 p1 p2 p3 p4 p5 p6 p7 p8 p9 p10 => L_laws_FnCubes_71 N P_laws_rBig P_spec_DrawHasCube P_impl_HasCube P_spec_HasCube P_impl_PutCube P_spec_PutCube P_laws_rHeap P_impl_NearCubes P_spec_NearCubes P_laws_rCells P_spec_DrawTakeCube P_impl_TakeCube P_spec_TakeCube P_impl_PartsOf P_spec_PartsOf P_impl_IsHeap P_laws_rLists P_impl_HeapText P_spec_HeapText P_spec_DrawParseHeap P_impl_ParseHeap P_spec_ParseHeap P_spec_DrawFullHeap P_impl_FullHeap P_impl_EmptyHeap P_spec_FullHeap P_impl_OtherCells P_laws_rAll m0 m1 m2 m3 p0 p1 p2 p3 p4 p5 p6 p7 p8 p9 p10)
theorem h_laws_FnCubes_71 : l_laws_FnCubes_71 = fun m0 m1 m2 m3 p0 p1 p2 p3 p4 p5 p6 p7 p8 p9 p10 => L_laws_FnCubes_71 N P_laws_rBig P_spec_DrawHasCube P_impl_HasCube P_spec_HasCube P_impl_PutCube P_spec_PutCube P_laws_rHeap P_impl_NearCubes P_spec_NearCubes P_laws_rCells P_spec_DrawTakeCube P_impl_TakeCube P_spec_TakeCube P_impl_PartsOf P_spec_PartsOf P_impl_IsHeap P_laws_rLists P_impl_HeapText P_spec_HeapText P_spec_DrawParseHeap P_impl_ParseHeap P_spec_ParseHeap P_spec_DrawFullHeap P_impl_FullHeap P_impl_EmptyHeap P_spec_FullHeap P_impl_OtherCells P_laws_rAll m0 m1 m2 m3 p0 p1 p2 p3 p4 p5 p6 p7 p8 p9 p10 := hid_eq _
theorem p_laws_FnCubes (a0 : List Int) : P_laws_FnCubes (a0, ()) = 
  Option.bind (P_laws_rBig (a0, ())) fun r0 =>
  bif r0.1 then
    some (true, ())
  else
    Option.bind (P_spec_DrawHasCube (a0, ())) fun r2 =>
    Option.bind (P_impl_HasCube (r2.1, r2.2.1, ())) fun r3 =>
    Option.bind (P_spec_HasCube (r2.1, r2.2.1, ())) fun r4 =>
    bif !(r3.1 == r4.1) then
      some (false, ())
    else
      bif !(r3.2.1 == r4.2.1) then
        some (false, ())
      else
        Option.bind (P_impl_PutCube (r2.1, r2.2.1, ())) fun r7 =>
        Option.bind (P_spec_PutCube (r2.1, r2.2.1, ())) fun r8 =>
        bif !(r7.2.1 == r8.2.1) then
          some (false, ())
        else
          bif r3.2.1 then
            bif !(r7.2.1 == !r3.1) then
              some (false, ())
            else
              Option.bind (P_laws_rHeap (r7.1, r8.1, ())) fun r12 =>
              bif !r12.1 then
                some (false, ())
              else
                Option.bind (P_impl_NearCubes (r2.1, r2.2.1, ())) fun r14 =>
                Option.bind (P_spec_NearCubes (r2.1, r2.2.1, ())) fun r15 =>
                bif !(r14.2.1 == r15.2.1) then
                  some (false, ())
                else
                  bif !(r14.2.1 == r3.2.1) then
                    some (false, ())
                  else
                    Option.bind (P_laws_rCells (r14.1, r15.1, ())) fun r18 =>
                    bif !r18.1 then
                      some (false, ())
                    else
                      Option.bind (P_spec_DrawTakeCube (a0, ())) fun r20 =>
                      Option.bind (P_impl_TakeCube (r20.1, r20.2.1, ())) fun r21 =>
                      Option.bind (P_spec_TakeCube (r20.1, r20.2.1, ())) fun r22 =>
                      bif !(r21.2.1 == r22.2.1) then
                        some (false, ())
                      else
                        Option.bind (P_laws_rHeap (r21.1, r22.1, ())) fun r24 =>
                        bif !r24.1 then
                          some (false, ())
                        else
                          Option.bind (P_impl_PartsOf (r2.1, ())) fun r26 =>
                          Option.bind (P_spec_PartsOf (r2.1, ())) fun r27 =>
                          bif !(r26.2.1 == r27.2.1) then
                            some (false, ())
                          else
                            Option.bind (P_impl_IsHeap (r2.1, ())) fun r29 =>
                            bif !(r26.2.1 == r29.1) then
                              some (false, ())
                            else
                              Option.bind (P_laws_rLists (r26.1, r27.1, ())) fun r31 =>
                              bif !r31.1 then
                                some (false, ())
                              else
                                Option.bind (P_impl_HeapText (r2.1, ())) fun r33 =>
                                Option.bind (P_spec_HeapText (r2.1, ())) fun r34 =>
                                bif !(r33.1 == r34.1) then
                                  some (false, ())
                                else
                                  bif !(r33.2.1 == r34.2.1) then
                                    some (false, ())
                                  else
                                    bif !(r33.2.1 == r26.2.1) then
                                      some (false, ())
                                    else
                                      Option.bind (P_spec_DrawParseHeap (a0, ())) fun r38 =>
                                      Option.bind (P_impl_ParseHeap (r38.1, ())) fun r39 =>
                                      Option.bind (P_spec_ParseHeap (r38.1, ())) fun r40 =>
                                      bif !(r39.2.1 == r40.2.1) then
                                        some (false, ())
                                      else
                                        Option.bind (P_laws_rHeap (r39.1, r40.1, ())) fun r42 =>
                                        bif !r42.1 then
                                          some (false, ())
                                        else
                                          Option.bind (P_spec_DrawFullHeap (a0, ())) fun r44 =>
                                          Option.bind (P_impl_FullHeap (r44.1, r44.2.1, r44.2.2.1, ())) fun r45 =>
                                          Option.bind (P_impl_EmptyHeap (r44.1, r44.2.1, r44.2.2.1, ())) fun r46 =>
                                          Option.bind (P_spec_FullHeap (r44.1, r44.2.1, r44.2.2.1, ())) fun r47 =>
                                          bif !(r45.2.1 == r47.2.1) then
                                            some (false, ())
                                          else
                                            bif !(r45.2.1 == r46.2.1) then
                                              some (false, ())
                                            else
                                              Option.bind (P_laws_rHeap (r45.1, r47.1, ())) fun r50 =>
                                              bif !r50.1 then
                                                some (false, ())
                                              else
                                                bif r45.2.1 then
                                                  Option.bind (P_impl_OtherCells (r45.1, ())) fun r53 =>
                                                  bif !r53.2.1 then
                                                    some (false, ())
                                                  else
                                                    Option.bind (P_laws_rHeap (r53.1, r46.1, ())) fun r55 =>
                                                    bif !r55.1 then
                                                      some (false, ())
                                                    else
                                                      bif !decide ((List.length r45.1.2.2.2.1 : Int) = (IntKind.wrap .i64 ((IntKind.wrap .i64 (r44.1 * r44.2.1)) * r44.2.2.1))) then
                                                        some (false, ())
                                                      else
                                                        bif r7.2.1 then
                                                          Option.bind (P_impl_TakeCube (r7.1, r2.2.1, ())) fun r59 =>
                                                          bif !r59.2.1 then
                                                            some (false, ())
                                                          else
                                                            Option.bind (P_laws_rHeap (r59.1, r2.1, ())) fun r61 =>
                                                            bif !r61.1 then
                                                              some (false, ())
                                                            else
                                                              bif r21.2.1 then
                                                                Option.bind (P_impl_PutCube (r21.1, r20.2.1, ())) fun r64 =>
                                                                bif !r64.2.1 then
                                                                  some (false, ())
                                                                else
                                                                  Option.bind (P_laws_rHeap (r64.1, r20.1, ())) fun r66 =>
                                                                  bif !r66.1 then
                                                                    some (false, ())
                                                                  else
                                                                    bif !r26.2.1 then
                                                                      some (true, ())
                                                                    else
                                                                      Option.bind (P_impl_ParseHeap (r33.1, ())) fun r69 =>
                                                                      bif !r69.2.1 then
                                                                        some (false, ())
                                                                      else
                                                                        Option.bind (P_laws_rHeap (r69.1, r2.1, ())) fun r71 =>
                                                                        bif !r71.1 then
                                                                          some (false, ())
                                                                        else
                                                                          Option.bind (P_laws_rAll (r26.1, ())) fun r73 =>
                                                                          bif !decide (r73.1 = (List.length r2.1.2.2.2.1 : Int)) then
                                                                            some (false, ())
                                                                          else
                                                                            l_laws_FnCubes_58 N r2.1.1 r2.1.2.1 r2.1.2.2.1 r2.1.2.2.2.1 r26.1 0
                                                              else
                                                                bif !r26.2.1 then
                                                                  some (true, ())
                                                                else
                                                                  Option.bind (P_impl_ParseHeap (r33.1, ())) fun r65 =>
                                                                  bif !r65.2.1 then
                                                                    some (false, ())
                                                                  else
                                                                    Option.bind (P_laws_rHeap (r65.1, r2.1, ())) fun r67 =>
                                                                    bif !r67.1 then
                                                                      some (false, ())
                                                                    else
                                                                      Option.bind (P_laws_rAll (r26.1, ())) fun r69 =>
                                                                      bif !decide (r69.1 = (List.length r2.1.2.2.2.1 : Int)) then
                                                                        some (false, ())
                                                                      else
                                                                        l_laws_FnCubes_58 N r2.1.1 r2.1.2.1 r2.1.2.2.1 r2.1.2.2.2.1 r26.1 0
                                                        else
                                                          bif r21.2.1 then
                                                            Option.bind (P_impl_PutCube (r21.1, r20.2.1, ())) fun r60 =>
                                                            bif !r60.2.1 then
                                                              some (false, ())
                                                            else
                                                              Option.bind (P_laws_rHeap (r60.1, r20.1, ())) fun r62 =>
                                                              bif !r62.1 then
                                                                some (false, ())
                                                              else
                                                                bif !r26.2.1 then
                                                                  some (true, ())
                                                                else
                                                                  Option.bind (P_impl_ParseHeap (r33.1, ())) fun r65 =>
                                                                  bif !r65.2.1 then
                                                                    some (false, ())
                                                                  else
                                                                    Option.bind (P_laws_rHeap (r65.1, r2.1, ())) fun r67 =>
                                                                    bif !r67.1 then
                                                                      some (false, ())
                                                                    else
                                                                      Option.bind (P_laws_rAll (r26.1, ())) fun r69 =>
                                                                      bif !decide (r69.1 = (List.length r2.1.2.2.2.1 : Int)) then
                                                                        some (false, ())
                                                                      else
                                                                        l_laws_FnCubes_58 N r2.1.1 r2.1.2.1 r2.1.2.2.1 r2.1.2.2.2.1 r26.1 0
                                                          else
                                                            bif !r26.2.1 then
                                                              some (true, ())
                                                            else
                                                              Option.bind (P_impl_ParseHeap (r33.1, ())) fun r61 =>
                                                              bif !r61.2.1 then
                                                                some (false, ())
                                                              else
                                                                Option.bind (P_laws_rHeap (r61.1, r2.1, ())) fun r63 =>
                                                                bif !r63.1 then
                                                                  some (false, ())
                                                                else
                                                                  Option.bind (P_laws_rAll (r26.1, ())) fun r65 =>
                                                                  bif !decide (r65.1 = (List.length r2.1.2.2.2.1 : Int)) then
                                                                    some (false, ())
                                                                  else
                                                                    l_laws_FnCubes_58 N r2.1.1 r2.1.2.1 r2.1.2.2.1 r2.1.2.2.2.1 r26.1 0
                                                else
                                                  bif r7.2.1 then
                                                    Option.bind (P_impl_TakeCube (r7.1, r2.2.1, ())) fun r54 =>
                                                    bif !r54.2.1 then
                                                      some (false, ())
                                                    else
                                                      Option.bind (P_laws_rHeap (r54.1, r2.1, ())) fun r56 =>
                                                      bif !r56.1 then
                                                        some (false, ())
                                                      else
                                                        bif r21.2.1 then
                                                          Option.bind (P_impl_PutCube (r21.1, r20.2.1, ())) fun r59 =>
                                                          bif !r59.2.1 then
                                                            some (false, ())
                                                          else
                                                            Option.bind (P_laws_rHeap (r59.1, r20.1, ())) fun r61 =>
                                                            bif !r61.1 then
                                                              some (false, ())
                                                            else
                                                              bif !r26.2.1 then
                                                                some (true, ())
                                                              else
                                                                Option.bind (P_impl_ParseHeap (r33.1, ())) fun r64 =>
                                                                bif !r64.2.1 then
                                                                  some (false, ())
                                                                else
                                                                  Option.bind (P_laws_rHeap (r64.1, r2.1, ())) fun r66 =>
                                                                  bif !r66.1 then
                                                                    some (false, ())
                                                                  else
                                                                    Option.bind (P_laws_rAll (r26.1, ())) fun r68 =>
                                                                    bif !decide (r68.1 = (List.length r2.1.2.2.2.1 : Int)) then
                                                                      some (false, ())
                                                                    else
                                                                      l_laws_FnCubes_58 N r2.1.1 r2.1.2.1 r2.1.2.2.1 r2.1.2.2.2.1 r26.1 0
                                                        else
                                                          bif !r26.2.1 then
                                                            some (true, ())
                                                          else
                                                            Option.bind (P_impl_ParseHeap (r33.1, ())) fun r60 =>
                                                            bif !r60.2.1 then
                                                              some (false, ())
                                                            else
                                                              Option.bind (P_laws_rHeap (r60.1, r2.1, ())) fun r62 =>
                                                              bif !r62.1 then
                                                                some (false, ())
                                                              else
                                                                Option.bind (P_laws_rAll (r26.1, ())) fun r64 =>
                                                                bif !decide (r64.1 = (List.length r2.1.2.2.2.1 : Int)) then
                                                                  some (false, ())
                                                                else
                                                                  l_laws_FnCubes_58 N r2.1.1 r2.1.2.1 r2.1.2.2.1 r2.1.2.2.2.1 r26.1 0
                                                  else
                                                    bif r21.2.1 then
                                                      Option.bind (P_impl_PutCube (r21.1, r20.2.1, ())) fun r55 =>
                                                      bif !r55.2.1 then
                                                        some (false, ())
                                                      else
                                                        Option.bind (P_laws_rHeap (r55.1, r20.1, ())) fun r57 =>
                                                        bif !r57.1 then
                                                          some (false, ())
                                                        else
                                                          bif !r26.2.1 then
                                                            some (true, ())
                                                          else
                                                            Option.bind (P_impl_ParseHeap (r33.1, ())) fun r60 =>
                                                            bif !r60.2.1 then
                                                              some (false, ())
                                                            else
                                                              Option.bind (P_laws_rHeap (r60.1, r2.1, ())) fun r62 =>
                                                              bif !r62.1 then
                                                                some (false, ())
                                                              else
                                                                Option.bind (P_laws_rAll (r26.1, ())) fun r64 =>
                                                                bif !decide (r64.1 = (List.length r2.1.2.2.2.1 : Int)) then
                                                                  some (false, ())
                                                                else
                                                                  l_laws_FnCubes_58 N r2.1.1 r2.1.2.1 r2.1.2.2.1 r2.1.2.2.2.1 r26.1 0
                                                    else
                                                      bif !r26.2.1 then
                                                        some (true, ())
                                                      else
                                                        Option.bind (P_impl_ParseHeap (r33.1, ())) fun r56 =>
                                                        bif !r56.2.1 then
                                                          some (false, ())
                                                        else
                                                          Option.bind (P_laws_rHeap (r56.1, r2.1, ())) fun r58 =>
                                                          bif !r58.1 then
                                                            some (false, ())
                                                          else
                                                            Option.bind (P_laws_rAll (r26.1, ())) fun r60 =>
                                                            bif !decide (r60.1 = (List.length r2.1.2.2.2.1 : Int)) then
                                                              some (false, ())
                                                            else
                                                              l_laws_FnCubes_58 N r2.1.1 r2.1.2.1 r2.1.2.2.1 r2.1.2.2.2.1 r26.1 0
          else
            bif !(r7.2.1 == false) then
              some (false, ())
            else
              Option.bind (P_laws_rHeap (r7.1, r8.1, ())) fun r12 =>
              bif !r12.1 then
                some (false, ())
              else
                Option.bind (P_impl_NearCubes (r2.1, r2.2.1, ())) fun r14 =>
                Option.bind (P_spec_NearCubes (r2.1, r2.2.1, ())) fun r15 =>
                bif !(r14.2.1 == r15.2.1) then
                  some (false, ())
                else
                  bif !(r14.2.1 == r3.2.1) then
                    some (false, ())
                  else
                    Option.bind (P_laws_rCells (r14.1, r15.1, ())) fun r18 =>
                    bif !r18.1 then
                      some (false, ())
                    else
                      Option.bind (P_spec_DrawTakeCube (a0, ())) fun r20 =>
                      Option.bind (P_impl_TakeCube (r20.1, r20.2.1, ())) fun r21 =>
                      Option.bind (P_spec_TakeCube (r20.1, r20.2.1, ())) fun r22 =>
                      bif !(r21.2.1 == r22.2.1) then
                        some (false, ())
                      else
                        Option.bind (P_laws_rHeap (r21.1, r22.1, ())) fun r24 =>
                        bif !r24.1 then
                          some (false, ())
                        else
                          Option.bind (P_impl_PartsOf (r2.1, ())) fun r26 =>
                          Option.bind (P_spec_PartsOf (r2.1, ())) fun r27 =>
                          bif !(r26.2.1 == r27.2.1) then
                            some (false, ())
                          else
                            Option.bind (P_impl_IsHeap (r2.1, ())) fun r29 =>
                            bif !(r26.2.1 == r29.1) then
                              some (false, ())
                            else
                              Option.bind (P_laws_rLists (r26.1, r27.1, ())) fun r31 =>
                              bif !r31.1 then
                                some (false, ())
                              else
                                Option.bind (P_impl_HeapText (r2.1, ())) fun r33 =>
                                Option.bind (P_spec_HeapText (r2.1, ())) fun r34 =>
                                bif !(r33.1 == r34.1) then
                                  some (false, ())
                                else
                                  bif !(r33.2.1 == r34.2.1) then
                                    some (false, ())
                                  else
                                    bif !(r33.2.1 == r26.2.1) then
                                      some (false, ())
                                    else
                                      Option.bind (P_spec_DrawParseHeap (a0, ())) fun r38 =>
                                      Option.bind (P_impl_ParseHeap (r38.1, ())) fun r39 =>
                                      Option.bind (P_spec_ParseHeap (r38.1, ())) fun r40 =>
                                      bif !(r39.2.1 == r40.2.1) then
                                        some (false, ())
                                      else
                                        Option.bind (P_laws_rHeap (r39.1, r40.1, ())) fun r42 =>
                                        bif !r42.1 then
                                          some (false, ())
                                        else
                                          Option.bind (P_spec_DrawFullHeap (a0, ())) fun r44 =>
                                          Option.bind (P_impl_FullHeap (r44.1, r44.2.1, r44.2.2.1, ())) fun r45 =>
                                          Option.bind (P_impl_EmptyHeap (r44.1, r44.2.1, r44.2.2.1, ())) fun r46 =>
                                          Option.bind (P_spec_FullHeap (r44.1, r44.2.1, r44.2.2.1, ())) fun r47 =>
                                          bif !(r45.2.1 == r47.2.1) then
                                            some (false, ())
                                          else
                                            bif !(r45.2.1 == r46.2.1) then
                                              some (false, ())
                                            else
                                              Option.bind (P_laws_rHeap (r45.1, r47.1, ())) fun r50 =>
                                              bif !r50.1 then
                                                some (false, ())
                                              else
                                                bif r45.2.1 then
                                                  Option.bind (P_impl_OtherCells (r45.1, ())) fun r53 =>
                                                  bif !r53.2.1 then
                                                    some (false, ())
                                                  else
                                                    Option.bind (P_laws_rHeap (r53.1, r46.1, ())) fun r55 =>
                                                    bif !r55.1 then
                                                      some (false, ())
                                                    else
                                                      bif !decide ((List.length r45.1.2.2.2.1 : Int) = (IntKind.wrap .i64 ((IntKind.wrap .i64 (r44.1 * r44.2.1)) * r44.2.2.1))) then
                                                        some (false, ())
                                                      else
                                                        bif r7.2.1 then
                                                          Option.bind (P_impl_TakeCube (r7.1, r2.2.1, ())) fun r59 =>
                                                          bif !r59.2.1 then
                                                            some (false, ())
                                                          else
                                                            Option.bind (P_laws_rHeap (r59.1, r2.1, ())) fun r61 =>
                                                            bif !r61.1 then
                                                              some (false, ())
                                                            else
                                                              bif r21.2.1 then
                                                                Option.bind (P_impl_PutCube (r21.1, r20.2.1, ())) fun r64 =>
                                                                bif !r64.2.1 then
                                                                  some (false, ())
                                                                else
                                                                  Option.bind (P_laws_rHeap (r64.1, r20.1, ())) fun r66 =>
                                                                  bif !r66.1 then
                                                                    some (false, ())
                                                                  else
                                                                    bif !r26.2.1 then
                                                                      some (true, ())
                                                                    else
                                                                      Option.bind (P_impl_ParseHeap (r33.1, ())) fun r69 =>
                                                                      bif !r69.2.1 then
                                                                        some (false, ())
                                                                      else
                                                                        Option.bind (P_laws_rHeap (r69.1, r2.1, ())) fun r71 =>
                                                                        bif !r71.1 then
                                                                          some (false, ())
                                                                        else
                                                                          Option.bind (P_laws_rAll (r26.1, ())) fun r73 =>
                                                                          bif !decide (r73.1 = (List.length r2.1.2.2.2.1 : Int)) then
                                                                            some (false, ())
                                                                          else
                                                                            l_laws_FnCubes_58 N r2.1.1 r2.1.2.1 r2.1.2.2.1 r2.1.2.2.2.1 r26.1 0
                                                              else
                                                                bif !r26.2.1 then
                                                                  some (true, ())
                                                                else
                                                                  Option.bind (P_impl_ParseHeap (r33.1, ())) fun r65 =>
                                                                  bif !r65.2.1 then
                                                                    some (false, ())
                                                                  else
                                                                    Option.bind (P_laws_rHeap (r65.1, r2.1, ())) fun r67 =>
                                                                    bif !r67.1 then
                                                                      some (false, ())
                                                                    else
                                                                      Option.bind (P_laws_rAll (r26.1, ())) fun r69 =>
                                                                      bif !decide (r69.1 = (List.length r2.1.2.2.2.1 : Int)) then
                                                                        some (false, ())
                                                                      else
                                                                        l_laws_FnCubes_58 N r2.1.1 r2.1.2.1 r2.1.2.2.1 r2.1.2.2.2.1 r26.1 0
                                                        else
                                                          bif r21.2.1 then
                                                            Option.bind (P_impl_PutCube (r21.1, r20.2.1, ())) fun r60 =>
                                                            bif !r60.2.1 then
                                                              some (false, ())
                                                            else
                                                              Option.bind (P_laws_rHeap (r60.1, r20.1, ())) fun r62 =>
                                                              bif !r62.1 then
                                                                some (false, ())
                                                              else
                                                                bif !r26.2.1 then
                                                                  some (true, ())
                                                                else
                                                                  Option.bind (P_impl_ParseHeap (r33.1, ())) fun r65 =>
                                                                  bif !r65.2.1 then
                                                                    some (false, ())
                                                                  else
                                                                    Option.bind (P_laws_rHeap (r65.1, r2.1, ())) fun r67 =>
                                                                    bif !r67.1 then
                                                                      some (false, ())
                                                                    else
                                                                      Option.bind (P_laws_rAll (r26.1, ())) fun r69 =>
                                                                      bif !decide (r69.1 = (List.length r2.1.2.2.2.1 : Int)) then
                                                                        some (false, ())
                                                                      else
                                                                        l_laws_FnCubes_58 N r2.1.1 r2.1.2.1 r2.1.2.2.1 r2.1.2.2.2.1 r26.1 0
                                                          else
                                                            bif !r26.2.1 then
                                                              some (true, ())
                                                            else
                                                              Option.bind (P_impl_ParseHeap (r33.1, ())) fun r61 =>
                                                              bif !r61.2.1 then
                                                                some (false, ())
                                                              else
                                                                Option.bind (P_laws_rHeap (r61.1, r2.1, ())) fun r63 =>
                                                                bif !r63.1 then
                                                                  some (false, ())
                                                                else
                                                                  Option.bind (P_laws_rAll (r26.1, ())) fun r65 =>
                                                                  bif !decide (r65.1 = (List.length r2.1.2.2.2.1 : Int)) then
                                                                    some (false, ())
                                                                  else
                                                                    l_laws_FnCubes_58 N r2.1.1 r2.1.2.1 r2.1.2.2.1 r2.1.2.2.2.1 r26.1 0
                                                else
                                                  bif r7.2.1 then
                                                    Option.bind (P_impl_TakeCube (r7.1, r2.2.1, ())) fun r54 =>
                                                    bif !r54.2.1 then
                                                      some (false, ())
                                                    else
                                                      Option.bind (P_laws_rHeap (r54.1, r2.1, ())) fun r56 =>
                                                      bif !r56.1 then
                                                        some (false, ())
                                                      else
                                                        bif r21.2.1 then
                                                          Option.bind (P_impl_PutCube (r21.1, r20.2.1, ())) fun r59 =>
                                                          bif !r59.2.1 then
                                                            some (false, ())
                                                          else
                                                            Option.bind (P_laws_rHeap (r59.1, r20.1, ())) fun r61 =>
                                                            bif !r61.1 then
                                                              some (false, ())
                                                            else
                                                              bif !r26.2.1 then
                                                                some (true, ())
                                                              else
                                                                Option.bind (P_impl_ParseHeap (r33.1, ())) fun r64 =>
                                                                bif !r64.2.1 then
                                                                  some (false, ())
                                                                else
                                                                  Option.bind (P_laws_rHeap (r64.1, r2.1, ())) fun r66 =>
                                                                  bif !r66.1 then
                                                                    some (false, ())
                                                                  else
                                                                    Option.bind (P_laws_rAll (r26.1, ())) fun r68 =>
                                                                    bif !decide (r68.1 = (List.length r2.1.2.2.2.1 : Int)) then
                                                                      some (false, ())
                                                                    else
                                                                      l_laws_FnCubes_58 N r2.1.1 r2.1.2.1 r2.1.2.2.1 r2.1.2.2.2.1 r26.1 0
                                                        else
                                                          bif !r26.2.1 then
                                                            some (true, ())
                                                          else
                                                            Option.bind (P_impl_ParseHeap (r33.1, ())) fun r60 =>
                                                            bif !r60.2.1 then
                                                              some (false, ())
                                                            else
                                                              Option.bind (P_laws_rHeap (r60.1, r2.1, ())) fun r62 =>
                                                              bif !r62.1 then
                                                                some (false, ())
                                                              else
                                                                Option.bind (P_laws_rAll (r26.1, ())) fun r64 =>
                                                                bif !decide (r64.1 = (List.length r2.1.2.2.2.1 : Int)) then
                                                                  some (false, ())
                                                                else
                                                                  l_laws_FnCubes_58 N r2.1.1 r2.1.2.1 r2.1.2.2.1 r2.1.2.2.2.1 r26.1 0
                                                  else
                                                    bif r21.2.1 then
                                                      Option.bind (P_impl_PutCube (r21.1, r20.2.1, ())) fun r55 =>
                                                      bif !r55.2.1 then
                                                        some (false, ())
                                                      else
                                                        Option.bind (P_laws_rHeap (r55.1, r20.1, ())) fun r57 =>
                                                        bif !r57.1 then
                                                          some (false, ())
                                                        else
                                                          bif !r26.2.1 then
                                                            some (true, ())
                                                          else
                                                            Option.bind (P_impl_ParseHeap (r33.1, ())) fun r60 =>
                                                            bif !r60.2.1 then
                                                              some (false, ())
                                                            else
                                                              Option.bind (P_laws_rHeap (r60.1, r2.1, ())) fun r62 =>
                                                              bif !r62.1 then
                                                                some (false, ())
                                                              else
                                                                Option.bind (P_laws_rAll (r26.1, ())) fun r64 =>
                                                                bif !decide (r64.1 = (List.length r2.1.2.2.2.1 : Int)) then
                                                                  some (false, ())
                                                                else
                                                                  l_laws_FnCubes_58 N r2.1.1 r2.1.2.1 r2.1.2.2.1 r2.1.2.2.2.1 r26.1 0
                                                    else
                                                      bif !r26.2.1 then
                                                        some (true, ())
                                                      else
                                                        Option.bind (P_impl_ParseHeap (r33.1, ())) fun r56 =>
                                                        bif !r56.2.1 then
                                                          some (false, ())
                                                        else
                                                          Option.bind (P_laws_rHeap (r56.1, r2.1, ())) fun r58 =>
                                                          bif !r58.1 then
                                                            some (false, ())
                                                          else
                                                            Option.bind (P_laws_rAll (r26.1, ())) fun r60 =>
                                                            bif !decide (r60.1 = (List.length r2.1.2.2.2.1 : Int)) then
                                                              some (false, ())
                                                            else
                                                              l_laws_FnCubes_58 N r2.1.1 r2.1.2.1 r2.1.2.2.1 r2.1.2.2.2.1 r26.1 0 := by
  rewrite [h_laws_FnCubes, h_laws_FnCubes_58]
  kernel_rfl
theorem q_laws_FnCubes_58 (m0 : Nat) (p0 : Int) (p1 : Int) (p2 : Int) (p3 : List D_A3) (p4 : List (List D_A3)) (p5 : Int) : l_laws_FnCubes_58 (m0 + 1) p0 p1 p2 p3 p4 p5 = 
  bif decide (p5 < (List.length p4 : Int)) then
    l_laws_FnCubes_61 m0 N p0 p1 p2 p3 p4 p5 0
  else
    some (true, ()) := by
  rewrite [h_laws_FnCubes_58, h_laws_FnCubes_61]
  kernel_rfl
theorem q_laws_FnCubes_61 (m0 m1 : Nat) (p0 : Int) (p1 : Int) (p2 : Int) (p3 : List D_A3) (p4 : List (List D_A3)) (p5 : Int) (p6 : Int) : l_laws_FnCubes_61 m0 (m1 + 1) p0 p1 p2 p3 p4 p5 p6 = 
  bif inB p5 (List.length p4) then
    bif decide (p6 < (List.length (nth ((.sl T_A3) : Ty) p4 p5) : Int)) then
      bif inB p5 (List.length p4) then
        bif inB p6 (List.length (nth ((.sl T_A3) : Ty) p4 p5)) then
          Option.bind (P_impl_NearCubes ((p0, (p1, (p2, (p3, ())))), (nth T_A3 (nth ((.sl T_A3) : Ty) p4 p5) p6), ())) fun r4 =>
          bif !r4.2.1 then
            some (false, ())
          else
            bif inB p5 (List.length p4) then
              bif decide ((List.length (nth ((.sl T_A3) : Ty) p4 p5) : Int) > 1) then
                bif decide ((List.length r4.1 : Int) = 0) then
                  some (false, ())
                else
                  l_laws_FnCubes_67 m0 m1 N p0 p1 p2 p3 p4 p5 p6 r4.1 0
              else
                l_laws_FnCubes_67 m0 m1 N p0 p1 p2 p3 p4 p5 p6 r4.1 0
            else none
        else none
      else none
    else
      l_laws_FnCubes_58 m0 p0 p1 p2 p3 p4 (IntKind.wrap .i64 (p5 + 1))
  else none := by
  rewrite [h_laws_FnCubes_58, h_laws_FnCubes_61, h_laws_FnCubes_67]
  kernel_rfl
theorem q_laws_FnCubes_67 (m0 m1 m2 : Nat) (p0 : Int) (p1 : Int) (p2 : Int) (p3 : List D_A3) (p4 : List (List D_A3)) (p5 : Int) (p6 : Int) (p7 : List D_A3) (p8 : Int) : l_laws_FnCubes_67 m0 m1 (m2 + 1) p0 p1 p2 p3 p4 p5 p6 p7 p8 = 
  bif decide (p8 < (List.length p7 : Int)) then
    l_laws_FnCubes_71 m0 m1 m2 N p0 p1 p2 p3 p4 p5 p6 p7 p8 false 0
  else
    l_laws_FnCubes_61 m0 m1 p0 p1 p2 p3 p4 p5 (IntKind.wrap .i64 (p6 + 1)) := by
  rewrite [h_laws_FnCubes_61, h_laws_FnCubes_67, h_laws_FnCubes_71]
  kernel_rfl
theorem q_laws_FnCubes_71 (m0 m1 m2 m3 : Nat) (p0 : Int) (p1 : Int) (p2 : Int) (p3 : List D_A3) (p4 : List (List D_A3)) (p5 : Int) (p6 : Int) (p7 : List D_A3) (p8 : Int) (p9 : Bool) (p10 : Int) : l_laws_FnCubes_71 m0 m1 m2 (m3 + 1) p0 p1 p2 p3 p4 p5 p6 p7 p8 p9 p10 = 
  bif inB p5 (List.length p4) then
    bif decide (p10 < (List.length (nth ((.sl T_A3) : Ty) p4 p5) : Int)) then
      bif p9 then
        l_laws_FnCubes_71 m0 m1 m2 m3 p0 p1 p2 p3 p4 p5 p6 p7 p8 true (IntKind.wrap .i64 (p10 + 1))
      else
        bif inB p5 (List.length p4) then
          bif inB p10 (List.length (nth ((.sl T_A3) : Ty) p4 p5)) then
            bif inB p8 (List.length p7) then
              l_laws_FnCubes_71 m0 m1 m2 m3 p0 p1 p2 p3 p4 p5 p6 p7 p8 (decide (((nth T_A3 (nth ((.sl T_A3) : Ty) p4 p5) p10)).1 = ((nth T_A3 p7 p8)).1) && (decide ((((nth T_A3 (nth ((.sl T_A3) : Ty) p4 p5) p10)).2).1 = (((nth T_A3 p7 p8)).2).1) && (decide (((((nth T_A3 (nth ((.sl T_A3) : Ty) p4 p5) p10)).2).2).1 = ((((nth T_A3 p7 p8)).2).2).1) && true))) (IntKind.wrap .i64 (p10 + 1))
            else none
          else none
        else none
    else
      bif !p9 then
        some (false, ())
      else
        l_laws_FnCubes_67 m0 m1 m2 p0 p1 p2 p3 p4 p5 p6 p7 (IntKind.wrap .i64 (p8 + 1))
  else none := by
  rewrite [h_laws_FnCubes_67, h_laws_FnCubes_71]
  kernel_rfl
end Go.VI
