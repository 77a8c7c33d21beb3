/- What the functions of the seat compute: part 2. -/
import Derived.Test.YteflilepheeioaaG4p1
namespace Go.VI
open Go.Proofs
set_option maxRecDepth 100000

/- 44: loop.example/g01166/laws.eqIntA3S -/
abbrev As_laws_eqIntA3S : List ATy := [.data false (.sl T_A3), .data false (.sl T_A3)]
abbrev R_laws_eqIntA3S : List (Bool × Ty) := [(false, .bool)]
abbrev M_laws_eqIntA3S : List RMode := []
abbrev Ft_laws_eqIntA3S : Type := (List D_A3) × (List D_A3) × Unit → Option (Bool × Unit)
noncomputable def X_laws_eqIntA3S (n : Nat) (F_laws_eqIntA3 : Ft_laws_eqIntA3) : Ctx := { types := TT, globals := [], con := [(78, ⟨As_laws_eqIntA3, R_laws_eqIntA3, M_laws_eqIntA3, F_laws_eqIntA3⟩)], keep := [(4, ⟨[.tmp 0, .tmp 1, .tmp 5], []⟩)], results := [.tmp 4], ntmps := 27, n := n }
noncomputable def B_laws_eqIntA3S : Code := (Try.f44.body).getD .skip
noncomputable def L_laws_eqIntA3S_4 (n : Nat) (F_laws_eqIntA3 : Ft_laws_eqIntA3) (m0 : Nat) (p0 : List D_A3) (p1 : List D_A3) (p2 : Int) : Option (denL R_laws_eqIntA3S) := loopF (X_laws_eqIntA3S n F_laws_eqIntA3) B_laws_eqIntA3S R_laws_eqIntA3S M_laws_eqIntA3S 4 [m0] [(.ver, .num 1), (.tmp 0, .val false [.imm T_A3 p0 (some 0)]), (.tmp 1, .val false [.imm T_A3 p1 (some 1)]), (.tmp 5, .val false [.int .i64 p2])]
theorem e_laws_eqIntA3S (n : Nat) (F_laws_eqIntA3 : Ft_laws_eqIntA3) (a0 : List D_A3) (a1 : List D_A3) : runF (X_laws_eqIntA3S n F_laws_eqIntA3) B_laws_eqIntA3S As_laws_eqIntA3S R_laws_eqIntA3S M_laws_eqIntA3S (a0, a1, ()) = 
  bif !decide ((List.length a0 : Int) = (List.length a1 : Int)) then
    some (false, ())
  else
    L_laws_eqIntA3S_4 n F_laws_eqIntA3 n a0 a1 0 := by kernel_rfl
theorem e_laws_eqIntA3S_4 (n : Nat) (F_laws_eqIntA3 : Ft_laws_eqIntA3) (m0 : Nat) (p0 : List D_A3) (p1 : List D_A3) (p2 : Int) : L_laws_eqIntA3S_4 n F_laws_eqIntA3 (m0 + 1) p0 p1 p2 = 
  bif decide (p2 < (List.length p0 : Int)) then
    bif inB p2 (List.length p0) then
      bif inB p2 (List.length p1) then
        Option.bind (F_laws_eqIntA3 ((nth T_A3 p0 p2), (nth T_A3 p1 p2), ())) fun r3 =>
        bif !r3.1 then
          some (false, ())
        else
          L_laws_eqIntA3S_4 n F_laws_eqIntA3 m0 p0 p1 (IntKind.wrap .i64 (p2 + 1))
      else none
    else none
  else
    some (true, ()) := by kernel_rfl
noncomputable def P_laws_eqIntA3S : Ft_laws_eqIntA3S := hid (runF (X_laws_eqIntA3S N P_laws_eqIntA3) B_laws_eqIntA3S As_laws_eqIntA3S R_laws_eqIntA3S M_laws_eqIntA3S)
theorem h_laws_eqIntA3S : P_laws_eqIntA3S = runF (X_laws_eqIntA3S N P_laws_eqIntA3) B_laws_eqIntA3S As_laws_eqIntA3S R_laws_eqIntA3S M_laws_eqIntA3S := hid_eq _
noncomputable def C_laws_eqIntA3S : Contract := ⟨As_laws_eqIntA3S, R_laws_eqIntA3S, M_laws_eqIntA3S, P_laws_eqIntA3S⟩
theorem s_laws_eqIntA3S : Sound Try.prog GG 44 C_laws_eqIntA3S := by
  unfold C_laws_eqIntA3S; rw [h_laws_eqIntA3S]
  exact sound_of_run (fn := Try.f44) hmix hstable (tyOK_of ttOK) (hglob (X_laws_eqIntA3S N P_laws_eqIntA3)) (conOK_of (X := X_laws_eqIntA3S N P_laws_eqIntA3) ⟨s_laws_eqIntA3, trivial⟩) (mconOK_of (X := X_laws_eqIntA3S N P_laws_eqIntA3) trivial) (by kernel_rfl) (by kernel_rfl) (by kernel_rfl) (by kernel_rfl) (by kernel_rfl) (of_decide_eq_true (by kernel_rfl))
noncomputable def l_laws_eqIntA3S_4 : Nat → (List D_A3) → (List D_A3) → Int → Option (denL R_laws_eqIntA3S) := hid (fun m0 p0 p1 p2 => L_laws_eqIntA3S_4 N P_laws_eqIntA3 m0 p0 p1 p2)
theorem h_laws_eqIntA3S_4 : l_laws_eqIntA3S_4 = fun m0 p0 p1 p2 => L_laws_eqIntA3S_4 N P_laws_eqIntA3 m0 p0 p1 p2 := hid_eq _
theorem p_laws_eqIntA3S (a0 : List D_A3) (a1 : List D_A3) : P_laws_eqIntA3S (a0, a1, ()) = 
  bif !decide ((List.length a0 : Int) = (List.length a1 : Int)) then
    some (false, ())
  else
    l_laws_eqIntA3S_4 N a0 a1 0 := by
  rewrite [h_laws_eqIntA3S, h_laws_eqIntA3S_4]
  exact e_laws_eqIntA3S N P_laws_eqIntA3 a0 a1
theorem q_laws_eqIntA3S_4 (m0 : Nat) (p0 : List D_A3) (p1 : List D_A3) (p2 : Int) : l_laws_eqIntA3S_4 (m0 + 1) p0 p1 p2 = 
  bif decide (p2 < (List.length p0 : Int)) then
    bif inB p2 (List.length p0) then
      bif inB p2 (List.length p1) then
        Option.bind (P_laws_eqIntA3 ((nth T_A3 p0 p2), (nth T_A3 p1 p2), ())) fun r3 =>
        bif !r3.1 then
          some (false, ())
        else
          l_laws_eqIntA3S_4 m0 p0 p1 (IntKind.wrap .i64 (p2 + 1))
      else none
    else none
  else
    some (true, ()) := by
  rewrite [h_laws_eqIntA3S_4]
  exact e_laws_eqIntA3S_4 N P_laws_eqIntA3 m0 p0 p1 p2

/- 13: loop.example/g01166/laws.eqHeap -/
abbrev As_laws_eqHeap : List ATy := [.data true T_Heap, .data true T_Heap]
abbrev R_laws_eqHeap : List (Bool × Ty) := [(false, .bool)]
abbrev M_laws_eqHeap : List RMode := []
abbrev Ft_laws_eqHeap : Type := D_Heap × D_Heap × Unit → Option (Bool × Unit)
noncomputable def X_laws_eqHeap (n : Nat) (F_laws_eqIntA3S : Ft_laws_eqIntA3S) : Ctx := { types := TT, globals := [], con := [(44, ⟨As_laws_eqIntA3S, R_laws_eqIntA3S, M_laws_eqIntA3S, F_laws_eqIntA3S⟩)], keep := [], results := [.tmp 4], ntmps := 26, n := n }
noncomputable def B_laws_eqHeap : Code := (Try.f13.body).getD .skip
theorem e_laws_eqHeap (n : Nat) (F_laws_eqIntA3S : Ft_laws_eqIntA3S) (a0 : D_Heap) (a1 : D_Heap) : runF (X_laws_eqHeap n F_laws_eqIntA3S) B_laws_eqHeap As_laws_eqHeap R_laws_eqHeap M_laws_eqHeap (a0, a1, ()) = 
  bif !decide (a0.1 = a1.1) then
    some (false, ())
  else
    bif !decide (a0.2.1 = a1.2.1) then
      some (false, ())
    else
      bif !decide (a0.2.2.1 = a1.2.2.1) then
        some (false, ())
      else
        Option.bind (F_laws_eqIntA3S (a0.2.2.2.1, a1.2.2.2.1, ())) fun r3 =>
        bif !r3.1 then
          some (false, ())
        else
          some (true, ()) := by kernel_rfl
noncomputable def P_laws_eqHeap : Ft_laws_eqHeap := hid (runF (X_laws_eqHeap N P_laws_eqIntA3S) B_laws_eqHeap As_laws_eqHeap R_laws_eqHeap M_laws_eqHeap)
theorem h_laws_eqHeap : P_laws_eqHeap = runF (X_laws_eqHeap N P_laws_eqIntA3S) B_laws_eqHeap As_laws_eqHeap R_laws_eqHeap M_laws_eqHeap := hid_eq _
noncomputable def C_laws_eqHeap : Contract := ⟨As_laws_eqHeap, R_laws_eqHeap, M_laws_eqHeap, P_laws_eqHeap⟩
theorem s_laws_eqHeap : Sound Try.prog GG 13 C_laws_eqHeap := by
  unfold C_laws_eqHeap; rw [h_laws_eqHeap]
  exact sound_of_run (fn := Try.f13) hmix hstable (tyOK_of ttOK) (hglob (X_laws_eqHeap N P_laws_eqIntA3S)) (conOK_of (X := X_laws_eqHeap N P_laws_eqIntA3S) ⟨s_laws_eqIntA3S, trivial⟩) (mconOK_of (X := X_laws_eqHeap N P_laws_eqIntA3S) trivial) (by kernel_rfl) (by kernel_rfl) (by kernel_rfl) (by kernel_rfl) (by kernel_rfl) (of_decide_eq_true (by kernel_rfl))
theorem p_laws_eqHeap (a0 : D_Heap) (a1 : D_Heap) : P_laws_eqHeap (a0, a1, ()) = 
  bif !decide (a0.1 = a1.1) then
    some (false, ())
  else
    bif !decide (a0.2.1 = a1.2.1) then
      some (false, ())
    else
      bif !decide (a0.2.2.1 = a1.2.2.1) then
        some (false, ())
      else
        Option.bind (P_laws_eqIntA3S (a0.2.2.2.1, a1.2.2.2.1, ())) fun r3 =>
        bif !r3.1 then
          some (false, ())
        else
          some (true, ()) := by
  rewrite [h_laws_eqHeap]
  exact e_laws_eqHeap N P_laws_eqIntA3S a0 a1

/- 3: loop.example/g01166/laws.FnExactPaintedFaces -/
abbrev As_laws_FnExactPaintedFaces : List ATy := [.data true T_Heap, .data true T_A3, .data false .bool]
abbrev R_laws_FnExactPaintedFaces : List (Bool × Ty) := [(false, .bool)]
abbrev M_laws_FnExactPaintedFaces : List RMode := []
abbrev Ft_laws_FnExactPaintedFaces : Type := D_Heap × D_A3 × Bool × Unit → Option (Bool × Unit)
noncomputable def X_laws_FnExactPaintedFaces (n : Nat) (F_laws_szHeap : Ft_laws_szHeap) (F_spec_PaintedFaces : Ft_spec_PaintedFaces) (F_laws_toHeap : Ft_laws_toHeap) (F_laws_toIntA3 : Ft_laws_toIntA3) (F_impl_PaintedFaces : Ft_impl_PaintedFaces) (F_laws_eqHeap : Ft_laws_eqHeap) : Ctx := { types := TT, globals := [], con := [(8, ⟨As_laws_szHeap, R_laws_szHeap, M_laws_szHeap, F_laws_szHeap⟩), (9, ⟨As_spec_PaintedFaces, R_spec_PaintedFaces, M_spec_PaintedFaces, F_spec_PaintedFaces⟩), (10, ⟨As_laws_toHeap, R_laws_toHeap, M_laws_toHeap, F_laws_toHeap⟩), (11, ⟨As_laws_toIntA3, R_laws_toIntA3, M_laws_toIntA3, F_laws_toIntA3⟩), (12, ⟨As_impl_PaintedFaces, R_impl_PaintedFaces, M_impl_PaintedFaces, F_impl_PaintedFaces⟩), (13, ⟨As_laws_eqHeap, R_laws_eqHeap, M_laws_eqHeap, F_laws_eqHeap⟩)], keep := [], results := [.tmp 6], ntmps := 50, n := n }
noncomputable def B_laws_FnExactPaintedFaces : Code := (Try.f3.body).getD .skip
theorem e_laws_FnExactPaintedFaces (n : Nat) (F_laws_szHeap : Ft_laws_szHeap) (F_spec_PaintedFaces : Ft_spec_PaintedFaces) (F_laws_toHeap : Ft_laws_toHeap) (F_laws_toIntA3 : Ft_laws_toIntA3) (F_impl_PaintedFaces : Ft_impl_PaintedFaces) (F_laws_eqHeap : Ft_laws_eqHeap) (a0 : D_Heap) (a1 : D_A3) (a2 : Bool) : runF (X_laws_FnExactPaintedFaces n F_laws_szHeap F_spec_PaintedFaces F_laws_toHeap F_laws_toIntA3 F_impl_PaintedFaces F_laws_eqHeap) B_laws_FnExactPaintedFaces As_laws_FnExactPaintedFaces R_laws_FnExactPaintedFaces M_laws_FnExactPaintedFaces (a0, a1, a2, ()) = 
  Option.bind (F_laws_szHeap (a0, 1048576, ())) fun r0 =>
  bif decide (r0.1 < 0) then
    some (true, ())
  else
    Option.bind (F_laws_toHeap (a0, ())) fun r2 =>
    Option.bind (F_laws_toIntA3 (a1, ())) fun r3 =>
    Option.bind (F_spec_PaintedFaces (r2.1, r3.1, a2, ())) fun r4 =>
    Option.bind (F_laws_toHeap (a0, ())) fun r5 =>
    Option.bind (F_laws_toIntA3 (a1, ())) fun r6 =>
    Option.bind (F_impl_PaintedFaces (r5.1, r6.1, a2, ())) fun r7 =>
    bif !decide (r7.1 = r4.1) then
      some (false, ())
    else
      bif !(r7.2.1 == r4.2.1) then
        some (false, ())
      else
        Option.bind (F_laws_toHeap (a0, ())) fun r10 =>
        Option.bind (F_laws_eqHeap (r5.1, r10.1, ())) fun r11 =>
        bif !r11.1 then
          some (false, ())
        else
          some (true, ()) := by kernel_rfl
noncomputable def P_laws_FnExactPaintedFaces : Ft_laws_FnExactPaintedFaces := hid (runF (X_laws_FnExactPaintedFaces N P_laws_szHeap P_spec_PaintedFaces P_laws_toHeap P_laws_toIntA3 P_impl_PaintedFaces P_laws_eqHeap) B_laws_FnExactPaintedFaces As_laws_FnExactPaintedFaces R_laws_FnExactPaintedFaces M_laws_FnExactPaintedFaces)
theorem h_laws_FnExactPaintedFaces : P_laws_FnExactPaintedFaces = runF (X_laws_FnExactPaintedFaces N P_laws_szHeap P_spec_PaintedFaces P_laws_toHeap P_laws_toIntA3 P_impl_PaintedFaces P_laws_eqHeap) B_laws_FnExactPaintedFaces As_laws_FnExactPaintedFaces R_laws_FnExactPaintedFaces M_laws_FnExactPaintedFaces := hid_eq _
noncomputable def C_laws_FnExactPaintedFaces : Contract := ⟨As_laws_FnExactPaintedFaces, R_laws_FnExactPaintedFaces, M_laws_FnExactPaintedFaces, P_laws_FnExactPaintedFaces⟩
theorem s_laws_FnExactPaintedFaces : Sound Try.prog GG 3 C_laws_FnExactPaintedFaces := by
  unfold C_laws_FnExactPaintedFaces; rw [h_laws_FnExactPaintedFaces]
  exact sound_of_run (fn := Try.f3) hmix hstable (tyOK_of ttOK) (hglob (X_laws_FnExactPaintedFaces N P_laws_szHeap P_spec_PaintedFaces P_laws_toHeap P_laws_toIntA3 P_impl_PaintedFaces P_laws_eqHeap)) (conOK_of (X := X_laws_FnExactPaintedFaces N P_laws_szHeap P_spec_PaintedFaces P_laws_toHeap P_laws_toIntA3 P_impl_PaintedFaces P_laws_eqHeap) ⟨s_laws_szHeap, s_spec_PaintedFaces, s_laws_toHeap, s_laws_toIntA3, s_impl_PaintedFaces, s_laws_eqHeap, trivial⟩) (mconOK_of (X := X_laws_FnExactPaintedFaces N P_laws_szHeap P_spec_PaintedFaces P_laws_toHeap P_laws_toIntA3 P_impl_PaintedFaces P_laws_eqHeap) trivial) (by kernel_rfl) (by kernel_rfl) (by kernel_rfl) (by kernel_rfl) (by kernel_rfl) (of_decide_eq_true (by kernel_rfl))
theorem p_laws_FnExactPaintedFaces (a0 : D_Heap) (a1 : D_A3) (a2 : Bool) : P_laws_FnExactPaintedFaces (a0, a1, a2, ()) = 
  Option.bind (P_laws_szHeap (a0, 1048576, ())) fun r0 =>
  bif decide (r0.1 < 0) then
    some (true, ())
  else
    Option.bind (P_laws_toHeap (a0, ())) fun r2 =>
    Option.bind (P_laws_toIntA3 (a1, ())) fun r3 =>
    Option.bind (P_spec_PaintedFaces (r2.1, r3.1, a2, ())) fun r4 =>
    Option.bind (P_laws_toHeap (a0, ())) fun r5 =>
    Option.bind (P_laws_toIntA3 (a1, ())) fun r6 =>
    Option.bind (P_impl_PaintedFaces (r5.1, r6.1, a2, ())) fun r7 =>
    bif !decide (r7.1 = r4.1) then
      some (false, ())
    else
      bif !(r7.2.1 == r4.2.1) then
        some (false, ())
      else
        Option.bind (P_laws_toHeap (a0, ())) fun r10 =>
        Option.bind (P_laws_eqHeap (r5.1, r10.1, ())) fun r11 =>
        bif !r11.1 then
          some (false, ())
        else
          some (true, ()) := by
  rewrite [h_laws_FnExactPaintedFaces]
  exact e_laws_FnExactPaintedFaces N P_laws_szHeap P_spec_PaintedFaces P_laws_toHeap P_laws_toIntA3 P_impl_PaintedFaces P_laws_eqHeap a0 a1 a2

/- 46: loop.example/g01166/spec.l11Counts -/
abbrev As_spec_l11Counts : List ATy := [.data true T_Heap, .data false .bool]
abbrev R_spec_l11Counts : List (Bool × Ty) := [(true, T_A7)]
abbrev M_spec_l11Counts : List RMode := []
abbrev Ft_spec_l11Counts : Type := D_Heap × Bool × Unit → Option (D_A7 × Unit)
noncomputable def X_spec_l11Counts (n : Nat) (F_spec_l11Painted : Ft_spec_l11Painted) (F_spec_l11Hidden : Ft_spec_l11Hidden) : Ctx := { types := TT, globals := [], con := [(37, ⟨As_spec_l11Painted, R_spec_l11Painted, M_spec_l11Painted, F_spec_l11Painted⟩), (38, ⟨As_spec_l11Hidden, R_spec_l11Hidden, M_spec_l11Hidden, F_spec_l11Hidden⟩)], keep := [(3, ⟨[.box 2, .box 4, .box 5, .box 6, .tmp 2, .tmp 4, .tmp 5, .tmp 6, .tmp 7], []⟩)], results := [.cell 4 36], ntmps := 32, n := n }
noncomputable def B_spec_l11Counts : Code := (Try.f46.body).getD .skip
noncomputable def L_spec_l11Counts_3 (n : Nat) (F_spec_l11Painted : Ft_spec_l11Painted) (F_spec_l11Hidden : Ft_spec_l11Hidden) (m0 : Nat) (p0 : Int) (p1 : Int) (p2 : Int) (p3 : List D_A3) (p4 : Int) (p5 : Int) (p6 : Int) (p7 : Int) (p8 : Int) (p9 : Int) (p10 : Int) (p11 : Int) (p12 : Int) (p13 : Int) (p14 : Int) (p15 : Int) (p16 : Int) (p17 : Int) (p18 : Int) (p19 : Int) (p20 : Int) (p21 : List D_A3) (p22 : Int) : Option (denL R_spec_l11Counts) := loopF (X_spec_l11Counts n F_spec_l11Painted F_spec_l11Hidden) B_spec_l11Counts R_spec_l11Counts M_spec_l11Counts 3 [m0] [(.ver, .num 1), (.box 2, .box 0 false [.int .i64 p0, .int .i64 p1, .int .i64 p2, .imm T_A3 p3 (some 3)]), (.box 4, .box 0 false [.int .i64 p4, .int .i64 p5, .int .i64 p6, .int .i64 p7, .int .i64 p8, .int .i64 p9, .int .i64 p10]), (.box 5, .box 0 false [.int .i64 p11, .int .i64 p12, .int .i64 p13, .int .i64 p14, .int .i64 p15, .int .i64 p16, .int .i64 p17]), (.box 6, .box 0 false [.int .i64 p18, .int .i64 p19, .int .i64 p20, .own 25 T_A3 0 p21]), (.tmp 2, .val false [.addr 2 0 0]), (.tmp 4, .val false [.addr 4 0 0]), (.tmp 5, .val false [.addr 5 0 0]), (.tmp 6, .val false [.addr 6 0 0]), (.tmp 7, .val false [.int .i64 p22])]
theorem e_spec_l11Counts (n : Nat) (F_spec_l11Painted : Ft_spec_l11Painted) (F_spec_l11Hidden : Ft_spec_l11Hidden) (a0 : D_Heap) (a1 : Bool) : runF (X_spec_l11Counts n F_spec_l11Painted F_spec_l11Hidden) B_spec_l11Counts As_spec_l11Counts R_spec_l11Counts M_spec_l11Counts (a0, a1, ()) = 
  Option.bind (F_spec_l11Hidden (a0, a1, ())) fun r0 =>
  L_spec_l11Counts_3 n F_spec_l11Painted F_spec_l11Hidden n a0.1 a0.2.1 a0.2.2.1 a0.2.2.2.1 0 0 0 0 0 0 0 0 0 0 0 0 0 0 r0.1.1 r0.1.2.1 r0.1.2.2.1 r0.1.2.2.2.1 0 := by kernel_rfl
theorem e_spec_l11Counts_3 (n : Nat) (F_spec_l11Painted : Ft_spec_l11Painted) (F_spec_l11Hidden : Ft_spec_l11Hidden) (m0 : Nat) (p0 : Int) (p1 : Int) (p2 : Int) (p3 : List D_A3) (p4 : Int) (p5 : Int) (p6 : Int) (p7 : Int) (p8 : Int) (p9 : Int) (p10 : Int) (p11 : Int) (p12 : Int) (p13 : Int) (p14 : Int) (p15 : Int) (p16 : Int) (p17 : Int) (p18 : Int) (p19 : Int) (p20 : Int) (p21 : List D_A3) (p22 : Int) : L_spec_l11Counts_3 n F_spec_l11Painted F_spec_l11Hidden (m0 + 1) p0 p1 p2 p3 p4 p5 p6 p7 p8 p9 p10 p11 p12 p13 p14 p15 p16 p17 p18 p19 p20 p21 p22 = 
  bif decide (p22 < (List.length p3 : Int)) then
    bif inB p22 (List.length p3) then
      Option.bind (F_spec_l11Painted ((p0, (p1, (p2, (p3, ())))), (p18, (p19, (p20, (p21, ())))), (nth T_A3 p3 p22), ())) fun r2 =>
      bif inB r2.1 7 then
        bif inB r2.1 7 then
          L_spec_l11Counts_3 n F_spec_l11Painted F_spec_l11Hidden m0 p0 p1 p2 p3 p4 p5 p6 p7 p8 p9 p10 (bif decide (r2.1 = (0 : Int)) then (IntKind.wrap .i64 ((bif decide (r2.1 = (0 : Int)) then p11 else (bif decide (r2.1 = (1 : Int)) then p12 else (bif decide (r2.1 = (2 : Int)) then p13 else (bif decide (r2.1 = (3 : Int)) then p14 else (bif decide (r2.1 = (4 : Int)) then p15 else (bif decide (r2.1 = (5 : Int)) then p16 else p17)))))) + 1)) else p11) (bif decide (r2.1 = (1 : Int)) then (IntKind.wrap .i64 ((bif decide (r2.1 = (0 : Int)) then p11 else (bif decide (r2.1 = (1 : Int)) then p12 else (bif decide (r2.1 = (2 : Int)) then p13 else (bif decide (r2.1 = (3 : Int)) then p14 else (bif decide (r2.1 = (4 : Int)) then p15 else (bif decide (r2.1 = (5 : Int)) then p16 else p17)))))) + 1)) else p12) (bif decide (r2.1 = (2 : Int)) then (IntKind.wrap .i64 ((bif decide (r2.1 = (0 : Int)) then p11 else (bif decide (r2.1 = (1 : Int)) then p12 else (bif decide (r2.1 = (2 : Int)) then p13 else (bif decide (r2.1 = (3 : Int)) then p14 else (bif decide (r2.1 = (4 : Int)) then p15 else (bif decide (r2.1 = (5 : Int)) then p16 else p17)))))) + 1)) else p13) (bif decide (r2.1 = (3 : Int)) then (IntKind.wrap .i64 ((bif decide (r2.1 = (0 : Int)) then p11 else (bif decide (r2.1 = (1 : Int)) then p12 else (bif decide (r2.1 = (2 : Int)) then p13 else (bif decide (r2.1 = (3 : Int)) then p14 else (bif decide (r2.1 = (4 : Int)) then p15 else (bif decide (r2.1 = (5 : Int)) then p16 else p17)))))) + 1)) else p14) (bif decide (r2.1 = (4 : Int)) then (IntKind.wrap .i64 ((bif decide (r2.1 = (0 : Int)) then p11 else (bif decide (r2.1 = (1 : Int)) then p12 else (bif decide (r2.1 = (2 : Int)) then p13 else (bif decide (r2.1 = (3 : Int)) then p14 else (bif decide (r2.1 = (4 : Int)) then p15 else (bif decide (r2.1 = (5 : Int)) then p16 else p17)))))) + 1)) else p15) (bif decide (r2.1 = (5 : Int)) then (IntKind.wrap .i64 ((bif decide (r2.1 = (0 : Int)) then p11 else (bif decide (r2.1 = (1 : Int)) then p12 else (bif decide (r2.1 = (2 : Int)) then p13 else (bif decide (r2.1 = (3 : Int)) then p14 else (bif decide (r2.1 = (4 : Int)) then p15 else (bif decide (r2.1 = (5 : Int)) then p16 else p17)))))) + 1)) else p16) (bif decide (r2.1 = (6 : Int)) then (IntKind.wrap .i64 ((bif decide (r2.1 = (0 : Int)) then p11 else (bif decide (r2.1 = (1 : Int)) then p12 else (bif decide (r2.1 = (2 : Int)) then p13 else (bif decide (r2.1 = (3 : Int)) then p14 else (bif decide (r2.1 = (4 : Int)) then p15 else (bif decide (r2.1 = (5 : Int)) then p16 else p17)))))) + 1)) else p17) p18 p19 p20 p21 (IntKind.wrap .i64 (p22 + 1))
        else none
      else none
    else none
  else
    some ((p11, (p12, (p13, (p14, (p15, (p16, (p17, ()))))))), ()) := by kernel_rfl
noncomputable def P_spec_l11Counts : Ft_spec_l11Counts := hid (runF (X_spec_l11Counts N P_spec_l11Painted P_spec_l11Hidden) B_spec_l11Counts As_spec_l11Counts R_spec_l11Counts M_spec_l11Counts)
theorem h_spec_l11Counts : P_spec_l11Counts = runF (X_spec_l11Counts N P_spec_l11Painted P_spec_l11Hidden) B_spec_l11Counts As_spec_l11Counts R_spec_l11Counts M_spec_l11Counts := hid_eq _
noncomputable def C_spec_l11Counts : Contract := ⟨As_spec_l11Counts, R_spec_l11Counts, M_spec_l11Counts, P_spec_l11Counts⟩
theorem s_spec_l11Counts : Sound Try.prog GG 46 C_spec_l11Counts := by
  unfold C_spec_l11Counts; rw [h_spec_l11Counts]
  exact sound_of_run (fn := Try.f46) hmix hstable (tyOK_of ttOK) (hglob (X_spec_l11Counts N P_spec_l11Painted P_spec_l11Hidden)) (conOK_of (X := X_spec_l11Counts N P_spec_l11Painted P_spec_l11Hidden) ⟨s_spec_l11Painted, s_spec_l11Hidden, trivial⟩) (mconOK_of (X := X_spec_l11Counts N P_spec_l11Painted P_spec_l11Hidden) trivial) (by kernel_rfl) (by kernel_rfl) (by kernel_rfl) (by kernel_rfl) (by kernel_rfl) (of_decide_eq_true (by kernel_rfl))
noncomputable def l_spec_l11Counts_3 : Nat → Int → Int → Int → (List D_A3) → Int → Int → Int → Int → Int → Int → Int → Int → Int → Int → Int → Int → Int → Int → Int → Int → Int → (List D_A3) → Int → Option (denL R_spec_l11Counts) := hid (fun m0 p0 p1 p2 p3 p4 p5 p6 p7 p8 p9 p10 p11 p12 p13 p14 p15 p16 p17 p18 p19 p20 p21 p22 => L_spec_l11Counts_3 N P_spec_l11Painted P_spec_l11Hidden m0 p0 p1 p2 p3 p4 p5 p6 p7 p8 p9 p10 p11 p12 p13 p14 p15 p16 p17 p18 p19 p20 p21 p22)
theorem h_spec_l11Counts_3 : l_spec_l11Counts_3 = fun m0 p0 p1 p2 p3 p4 p5 p6 p7 p8 p9 p10 p11 p12 p13 p14 p15 p16 p17 p18 p19 p20 p21 p22 => L_spec_l11Counts_3 N P_spec_l11Painted P_spec_l11Hidden m0 p0 p1 p2 p3 p4 p5 p6 p7 p8 p9 p10 p11 p12 p13 p14 p15 p16 p17 p18 p19 p20 p21 p22 := hid_eq _
theorem p_spec_l11Counts (a0 : D_Heap) (a1 : Bool) : P_spec_l11Counts (a0, a1, ()) = 
  Option.bind (P_spec_l11Hidden (a0, a1, ())) fun r0 =>
  l_spec_l11Counts_3 N a0.1 a0.2.1 a0.2.2.1 a0.2.2.2.1 0 0 0 0 0 0 0 0 0 0 0 0 0 0 r0.1.1 r0.1.2.1 r0.1.2.2.1 r0.1.2.2.2.1 0 := by
  rewrite [h_spec_l11Counts, h_spec_l11Counts_3]
  exact e_spec_l11Counts N P_spec_l11Painted P_spec_l11Hidden a0 a1
theorem q_spec_l11Counts_3 (m0 : Nat) (p0 : Int) (p1 : Int) (p2 : Int) (p3 : List D_A3) (p4 : Int) (p5 : Int) (p6 : Int) (p7 : Int) (p8 : Int) (p9 : Int) (p10 : Int) (p11 : Int) (p12 : Int) (p13 : Int) (p14 : Int) (p15 : Int) (p16 : Int) (p17 : Int) (p18 : Int) (p19 : Int) (p20 : Int) (p21 : List D_A3) (p22 : Int) : l_spec_l11Counts_3 (m0 + 1) p0 p1 p2 p3 p4 p5 p6 p7 p8 p9 p10 p11 p12 p13 p14 p15 p16 p17 p18 p19 p20 p21 p22 = 
  bif decide (p22 < (List.length p3 : Int)) then
    bif inB p22 (List.length p3) then
      Option.bind (P_spec_l11Painted ((p0, (p1, (p2, (p3, ())))), (p18, (p19, (p20, (p21, ())))), (nth T_A3 p3 p22), ())) fun r2 =>
      bif inB r2.1 7 then
        bif inB r2.1 7 then
          l_spec_l11Counts_3 m0 p0 p1 p2 p3 p4 p5 p6 p7 p8 p9 p10 (bif decide (r2.1 = (0 : Int)) then (IntKind.wrap .i64 ((bif decide (r2.1 = (0 : Int)) then p11 else (bif decide (r2.1 = (1 : Int)) then p12 else (bif decide (r2.1 = (2 : Int)) then p13 else (bif decide (r2.1 = (3 : Int)) then p14 else (bif decide (r2.1 = (4 : Int)) then p15 else (bif decide (r2.1 = (5 : Int)) then p16 else p17)))))) + 1)) else p11) (bif decide (r2.1 = (1 : Int)) then (IntKind.wrap .i64 ((bif decide (r2.1 = (0 : Int)) then p11 else (bif decide (r2.1 = (1 : Int)) then p12 else (bif decide (r2.1 = (2 : Int)) then p13 else (bif decide (r2.1 = (3 : Int)) then p14 else (bif decide (r2.1 = (4 : Int)) then p15 else (bif decide (r2.1 = (5 : Int)) then p16 else p17)))))) + 1)) else p12) (bif decide (r2.1 = (2 : Int)) then (IntKind.wrap .i64 ((bif decide (r2.1 = (0 : Int)) then p11 else (bif decide (r2.1 = (1 : Int)) then p12 else (bif decide (r2.1 = (2 : Int)) then p13 else (bif decide (r2.1 = (3 : Int)) then p14 else (bif decide (r2.1 = (4 : Int)) then p15 else (bif decide (r2.1 = (5 : Int)) then p16 else p17)))))) + 1)) else p13) (bif decide (r2.1 = (3 : Int)) then (IntKind.wrap .i64 ((bif decide (r2.1 = (0 : Int)) then p11 else (bif decide (r2.1 = (1 : Int)) then p12 else (bif decide (r2.1 = (2 : Int)) then p13 else (bif decide (r2.1 = (3 : Int)) then p14 else (bif decide (r2.1 = (4 : Int)) then p15 else (bif decide (r2.1 = (5 : Int)) then p16 else p17)))))) + 1)) else p14) (bif decide (r2.1 = (4 : Int)) then (IntKind.wrap .i64 ((bif decide (r2.1 = (0 : Int)) then p11 else (bif decide (r2.1 = (1 : Int)) then p12 else (bif decide (r2.1 = (2 : Int)) then p13 else (bif decide (r2.1 = (3 : Int)) then p14 else (bif decide (r2.1 = (4 : Int)) then p15 else (bif decide (r2.1 = (5 : Int)) then p16 else p17)))))) + 1)) else p15) (bif decide (r2.1 = (5 : Int)) then (IntKind.wrap .i64 ((bif decide (r2.1 = (0 : Int)) then p11 else (bif decide (r2.1 = (1 : Int)) then p12 else (bif decide (r2.1 = (2 : Int)) then p13 else (bif decide (r2.1 = (3 : Int)) then p14 else (bif decide (r2.1 = (4 : Int)) then p15 else (bif decide (r2.1 = (5 : Int)) then p16 else p17)))))) + 1)) else p16) (bif decide (r2.1 = (6 : Int)) then (IntKind.wrap .i64 ((bif decide (r2.1 = (0 : Int)) then p11 else (bif decide (r2.1 = (1 : Int)) then p12 else (bif decide (r2.1 = (2 : Int)) then p13 else (bif decide (r2.1 = (3 : Int)) then p14 else (bif decide (r2.1 = (4 : Int)) then p15 else (bif decide (r2.1 = (5 : Int)) then p16 else p17)))))) + 1)) else p17) p18 p19 p20 p21 (IntKind.wrap .i64 (p22 + 1))
        else none
      else none
    else none
  else
    some ((p11, (p12, (p13, (p14, (p15, (p16, (p17, ()))))))), ()) := by
  rewrite [h_spec_l11Counts_3]
  exact e_spec_l11Counts_3 N P_spec_l11Painted P_spec_l11Hidden m0 p0 p1 p2 p3 p4 p5 p6 p7 p8 p9 p10 p11 p12 p13 p14 p15 p16 p17 p18 p19 p20 p21 p22

/- 14: loop.example/g01166/spec.UnpaintedFaces -/
abbrev As_spec_UnpaintedFaces : List ATy := [.data true T_Heap, .data false .bool]
abbrev R_spec_UnpaintedFaces : List (Bool × Ty) := [(false, (.int .i64)), (false, .bool)]
abbrev M_spec_UnpaintedFaces : List RMode := []
abbrev Ft_spec_UnpaintedFaces : Type := D_Heap × Bool × Unit → Option (Int × Bool × Unit)
noncomputable def X_spec_UnpaintedFaces (n : Nat) (F_spec_l2Heap : Ft_spec_l2Heap) (F_spec_l11Counts : Ft_spec_l11Counts) : Ctx := { types := TT, globals := [], con := [(45, ⟨As_spec_l2Heap, R_spec_l2Heap, M_spec_l2Heap, F_spec_l2Heap⟩), (46, ⟨As_spec_l11Counts, R_spec_l11Counts, M_spec_l11Counts, F_spec_l11Counts⟩)], keep := [(5, ⟨[.box 7, .tmp 6, .tmp 7, .tmp 8], []⟩)], results := [.tmp 4, .tmp 5], ntmps := 28, n := n }
noncomputable def B_spec_UnpaintedFaces : Code := (Try.f14.body).getD .skip
noncomputable def L_spec_UnpaintedFaces_5 (n : Nat) (F_spec_l2Heap : Ft_spec_l2Heap) (F_spec_l11Counts : Ft_spec_l11Counts) (m0 : Nat) (p0 : Int) (p1 : Int) (p2 : Int) (p3 : Int) (p4 : Int) (p5 : Int) (p6 : Int) (p7 : Int) (p8 : Int) : Option (denL R_spec_UnpaintedFaces) := loopF (X_spec_UnpaintedFaces n F_spec_l2Heap F_spec_l11Counts) B_spec_UnpaintedFaces R_spec_UnpaintedFaces M_spec_UnpaintedFaces 5 [m0] [(.ver, .num 1), (.box 7, .box 0 false [.int .i64 p0, .int .i64 p1, .int .i64 p2, .int .i64 p3, .int .i64 p4, .int .i64 p5, .int .i64 p6]), (.tmp 6, .val false [.int .i64 p7]), (.tmp 7, .val false [.addr 7 0 0]), (.tmp 8, .val false [.int .i64 p8])]
theorem e_spec_UnpaintedFaces (n : Nat) (F_spec_l2Heap : Ft_spec_l2Heap) (F_spec_l11Counts : Ft_spec_l11Counts) (a0 : D_Heap) (a1 : Bool) : runF (X_spec_UnpaintedFaces n F_spec_l2Heap F_spec_l11Counts) B_spec_UnpaintedFaces As_spec_UnpaintedFaces R_spec_UnpaintedFaces M_spec_UnpaintedFaces (a0, a1, ()) = 
  Option.bind (F_spec_l2Heap (a0, ())) fun r0 =>
  bif !r0.1 then
    some (0, false, ())
  else
    Option.bind (F_spec_l11Counts (a0, a1, ())) fun r2 =>
    L_spec_UnpaintedFaces_5 n F_spec_l2Heap F_spec_l11Counts n r2.1.1 r2.1.2.1 r2.1.2.2.1 r2.1.2.2.2.1 r2.1.2.2.2.2.1 r2.1.2.2.2.2.2.1 r2.1.2.2.2.2.2.2.1 0 0 := by kernel_rfl
theorem e_spec_UnpaintedFaces_5 (n : Nat) (F_spec_l2Heap : Ft_spec_l2Heap) (F_spec_l11Counts : Ft_spec_l11Counts) (m0 : Nat) (p0 : Int) (p1 : Int) (p2 : Int) (p3 : Int) (p4 : Int) (p5 : Int) (p6 : Int) (p7 : Int) (p8 : Int) : L_spec_UnpaintedFaces_5 n F_spec_l2Heap F_spec_l11Counts (m0 + 1) p0 p1 p2 p3 p4 p5 p6 p7 p8 = 
  bif decide (p8 < 7) then
    bif inB p8 7 then
      L_spec_UnpaintedFaces_5 n F_spec_l2Heap F_spec_l11Counts m0 p0 p1 p2 p3 p4 p5 p6 (IntKind.wrap .i64 (p7 + (IntKind.wrap .i64 ((IntKind.wrap .i64 (6 - p8)) * (bif decide (p8 = (0 : Int)) then p0 else (bif decide (p8 = (1 : Int)) then p1 else (bif decide (p8 = (2 : Int)) then p2 else (bif decide (p8 = (3 : Int)) then p3 else (bif decide (p8 = (4 : Int)) then p4 else (bif decide (p8 = (5 : Int)) then p5 else p6)))))))))) (IntKind.wrap .i64 (p8 + 1))
    else none
  else
    some (p7, true, ()) := by kernel_rfl
noncomputable def P_spec_UnpaintedFaces : Ft_spec_UnpaintedFaces := hid (runF (X_spec_UnpaintedFaces N P_spec_l2Heap P_spec_l11Counts) B_spec_UnpaintedFaces As_spec_UnpaintedFaces R_spec_UnpaintedFaces M_spec_UnpaintedFaces)
theorem h_spec_UnpaintedFaces : P_spec_UnpaintedFaces = runF (X_spec_UnpaintedFaces N P_spec_l2Heap P_spec_l11Counts) B_spec_UnpaintedFaces As_spec_UnpaintedFaces R_spec_UnpaintedFaces M_spec_UnpaintedFaces := hid_eq _
noncomputable def C_spec_UnpaintedFaces : Contract := ⟨As_spec_UnpaintedFaces, R_spec_UnpaintedFaces, M_spec_UnpaintedFaces, P_spec_UnpaintedFaces⟩
theorem s_spec_UnpaintedFaces : Sound Try.prog GG 14 C_spec_UnpaintedFaces := by
  unfold C_spec_UnpaintedFaces; rw [h_spec_UnpaintedFaces]
  exact sound_of_run (fn := Try.f14) hmix hstable (tyOK_of ttOK) (hglob (X_spec_UnpaintedFaces N P_spec_l2Heap P_spec_l11Counts)) (conOK_of (X := X_spec_UnpaintedFaces N P_spec_l2Heap P_spec_l11Counts) ⟨s_spec_l2Heap, s_spec_l11Counts, trivial⟩) (mconOK_of (X := X_spec_UnpaintedFaces N P_spec_l2Heap P_spec_l11Counts) trivial) (by kernel_rfl) (by kernel_rfl) (by kernel_rfl) (by kernel_rfl) (by kernel_rfl) (of_decide_eq_true (by kernel_rfl))
noncomputable def l_spec_UnpaintedFaces_5 : Nat → Int → Int → Int → Int → Int → Int → Int → Int → Int → Option (denL R_spec_UnpaintedFaces) := hid (fun m0 p0 p1 p2 p3 p4 p5 p6 p7 p8 => L_spec_UnpaintedFaces_5 N P_spec_l2Heap P_spec_l11Counts m0 p0 p1 p2 p3 p4 p5 p6 p7 p8)
theorem h_spec_UnpaintedFaces_5 : l_spec_UnpaintedFaces_5 = fun m0 p0 p1 p2 p3 p4 p5 p6 p7 p8 => L_spec_UnpaintedFaces_5 N P_spec_l2Heap P_spec_l11Counts m0 p0 p1 p2 p3 p4 p5 p6 p7 p8 := hid_eq _
theorem p_spec_UnpaintedFaces (a0 : D_Heap) (a1 : Bool) : P_spec_UnpaintedFaces (a0, a1, ()) = 
  Option.bind (P_spec_l2Heap (a0, ())) fun r0 =>
  bif !r0.1 then
    some (0, false, ())
  else
    Option.bind (P_spec_l11Counts (a0, a1, ())) fun r2 =>
    l_spec_UnpaintedFaces_5 N r2.1.1 r2.1.2.1 r2.1.2.2.1 r2.1.2.2.2.1 r2.1.2.2.2.2.1 r2.1.2.2.2.2.2.1 r2.1.2.2.2.2.2.2.1 0 0 := by
  rewrite [h_spec_UnpaintedFaces, h_spec_UnpaintedFaces_5]
  exact e_spec_UnpaintedFaces N P_spec_l2Heap P_spec_l11Counts a0 a1
theorem q_spec_UnpaintedFaces_5 (m0 : Nat) (p0 : Int) (p1 : Int) (p2 : Int) (p3 : Int) (p4 : Int) (p5 : Int) (p6 : Int) (p7 : Int) (p8 : Int) : l_spec_UnpaintedFaces_5 (m0 + 1) p0 p1 p2 p3 p4 p5 p6 p7 p8 = 
  bif decide (p8 < 7) then
    bif inB p8 7 then
      l_spec_UnpaintedFaces_5 m0 p0 p1 p2 p3 p4 p5 p6 (IntKind.wrap .i64 (p7 + (IntKind.wrap .i64 ((IntKind.wrap .i64 (6 - p8)) * (bif decide (p8 = (0 : Int)) then p0 else (bif decide (p8 = (1 : Int)) then p1 else (bif decide (p8 = (2 : Int)) then p2 else (bif decide (p8 = (3 : Int)) then p3 else (bif decide (p8 = (4 : Int)) then p4 else (bif decide (p8 = (5 : Int)) then p5 else p6)))))))))) (IntKind.wrap .i64 (p8 + 1))
    else none
  else
    some (p7, true, ()) := by
  rewrite [h_spec_UnpaintedFaces_5]
  exact e_spec_UnpaintedFaces_5 N P_spec_l2Heap P_spec_l11Counts m0 p0 p1 p2 p3 p4 p5 p6 p7 p8

/- 15: loop.example/g01166/impl.UnpaintedFaces -/
abbrev As_impl_UnpaintedFaces : List ATy := [.data true T_Heap, .data false .bool]
abbrev R_impl_UnpaintedFaces : List (Bool × Ty) := [(false, (.int .i64)), (false, .bool)]
abbrev M_impl_UnpaintedFaces : List RMode := []
abbrev Ft_impl_UnpaintedFaces : Type := D_Heap × Bool × Unit → Option (Int × Bool × Unit)
noncomputable def X_impl_UnpaintedFaces (n : Nat) (F_Heap_painted : Ft_Heap_painted) (F_impl_IsHeap : Ft_impl_IsHeap) : Ctx := { types := TT, globals := [], con := [(42, ⟨As_Heap_painted, R_Heap_painted, M_Heap_painted, F_Heap_painted⟩), (47, ⟨As_impl_IsHeap, R_impl_IsHeap, M_impl_IsHeap, F_impl_IsHeap⟩)], keep := [(5, ⟨[.tmp 6, .tmp 18, .tmp 19, .tmp 20], []⟩)], results := [.tmp 4, .tmp 5], ntmps := 29, n := n }
noncomputable def B_impl_UnpaintedFaces : Code := (Try.f15.body).getD .skip
noncomputable def L_impl_UnpaintedFaces_5 (n : Nat) (F_Heap_painted : Ft_Heap_painted) (F_impl_IsHeap : Ft_impl_IsHeap) (m0 : Nat) (p0 : Int) (p1 : List Int) (p2 : Int) (p3 : Int) : Option (denL R_impl_UnpaintedFaces) := loopF (X_impl_UnpaintedFaces n F_Heap_painted F_impl_IsHeap) B_impl_UnpaintedFaces R_impl_UnpaintedFaces M_impl_UnpaintedFaces 5 [m0] [(.ver, .num 1), (.tmp 6, .val false [.int .i64 p0]), (.tmp 18, .val false [.own 3 (.int .i64) 0 p1]), (.tmp 19, .val false [.int .i64 p2]), (.tmp 20, .val false [.int .i64 p3])]
theorem e_impl_UnpaintedFaces (n : Nat) (F_Heap_painted : Ft_Heap_painted) (F_impl_IsHeap : Ft_impl_IsHeap) (a0 : D_Heap) (a1 : Bool) : runF (X_impl_UnpaintedFaces n F_Heap_painted F_impl_IsHeap) B_impl_UnpaintedFaces As_impl_UnpaintedFaces R_impl_UnpaintedFaces M_impl_UnpaintedFaces (a0, a1, ()) = 
  Option.bind (F_impl_IsHeap (a0, ())) fun r0 =>
  bif !r0.1 then
    some (0, false, ())
  else
    Option.bind (F_Heap_painted (a0, a1, ())) fun r2 =>
    L_impl_UnpaintedFaces_5 n F_Heap_painted F_impl_IsHeap n (IntKind.wrap .i64 (6 * (List.length a0.2.2.2.1 : Int))) r2.1 (List.length r2.1 : Int) 0 := by kernel_rfl
theorem e_impl_UnpaintedFaces_5 (n : Nat) (F_Heap_painted : Ft_Heap_painted) (F_impl_IsHeap : Ft_impl_IsHeap) (m0 : Nat) (p0 : Int) (p1 : List Int) (p2 : Int) (p3 : Int) : L_impl_UnpaintedFaces_5 n F_Heap_painted F_impl_IsHeap (m0 + 1) p0 p1 p2 p3 = 
  bif decide (p3 < p2) then
    bif inB p3 (List.length p1) then
      L_impl_UnpaintedFaces_5 n F_Heap_painted F_impl_IsHeap m0 (IntKind.wrap .i64 (p0 - (nth ((.int .i64) : Ty) p1 p3))) p1 p2 (IntKind.wrap .i64 (p3 + 1))
    else none
  else
    some (p0, true, ()) := by kernel_rfl
noncomputable def P_impl_UnpaintedFaces : Ft_impl_UnpaintedFaces := hid (runF (X_impl_UnpaintedFaces N P_Heap_painted P_impl_IsHeap) B_impl_UnpaintedFaces As_impl_UnpaintedFaces R_impl_UnpaintedFaces M_impl_UnpaintedFaces)
theorem h_impl_UnpaintedFaces : P_impl_UnpaintedFaces = runF (X_impl_UnpaintedFaces N P_Heap_painted P_impl_IsHeap) B_impl_UnpaintedFaces As_impl_UnpaintedFaces R_impl_UnpaintedFaces M_impl_UnpaintedFaces := hid_eq _
noncomputable def C_impl_UnpaintedFaces : Contract := ⟨As_impl_UnpaintedFaces, R_impl_UnpaintedFaces, M_impl_UnpaintedFaces, P_impl_UnpaintedFaces⟩
theorem s_impl_UnpaintedFaces : Sound Try.prog GG 15 C_impl_UnpaintedFaces := by
  unfold C_impl_UnpaintedFaces; rw [h_impl_UnpaintedFaces]
  exact sound_of_run (fn := Try.f15) hmix hstable (tyOK_of ttOK) (hglob (X_impl_UnpaintedFaces N P_Heap_painted P_impl_IsHeap)) (conOK_of (X := X_impl_UnpaintedFaces N P_Heap_painted P_impl_IsHeap) ⟨s_Heap_painted, s_impl_IsHeap, trivial⟩) (mconOK_of (X := X_impl_UnpaintedFaces N P_Heap_painted P_impl_IsHeap) trivial) (by kernel_rfl) (by kernel_rfl) (by kernel_rfl) (by kernel_rfl) (by kernel_rfl) (of_decide_eq_true (by kernel_rfl))
noncomputable def l_impl_UnpaintedFaces_5 : Nat → Int → (List Int) → Int → Int → Option (denL R_impl_UnpaintedFaces) := hid (fun m0 p0 p1 p2 p3 => L_impl_UnpaintedFaces_5 N P_Heap_painted P_impl_IsHeap m0 p0 p1 p2 p3)
theorem h_impl_UnpaintedFaces_5 : l_impl_UnpaintedFaces_5 = fun m0 p0 p1 p2 p3 => L_impl_UnpaintedFaces_5 N P_Heap_painted P_impl_IsHeap m0 p0 p1 p2 p3 := hid_eq _
theorem p_impl_UnpaintedFaces (a0 : D_Heap) (a1 : Bool) : P_impl_UnpaintedFaces (a0, a1, ()) = 
  Option.bind (P_impl_IsHeap (a0, ())) fun r0 =>
  bif !r0.1 then
    some (0, false, ())
  else
    Option.bind (P_Heap_painted (a0, a1, ())) fun r2 =>
    l_impl_UnpaintedFaces_5 N (IntKind.wrap .i64 (6 * (List.length a0.2.2.2.1 : Int))) r2.1 (List.length r2.1 : Int) 0 := by
  rewrite [h_impl_UnpaintedFaces, h_impl_UnpaintedFaces_5]
  exact e_impl_UnpaintedFaces N P_Heap_painted P_impl_IsHeap a0 a1
theorem q_impl_UnpaintedFaces_5 (m0 : Nat) (p0 : Int) (p1 : List Int) (p2 : Int) (p3 : Int) : l_impl_UnpaintedFaces_5 (m0 + 1) p0 p1 p2 p3 = 
  bif decide (p3 < p2) then
    bif inB p3 (List.length p1) then
      l_impl_UnpaintedFaces_5 m0 (IntKind.wrap .i64 (p0 - (nth ((.int .i64) : Ty) p1 p3))) p1 p2 (IntKind.wrap .i64 (p3 + 1))
    else none
  else
    some (p0, true, ()) := by
  rewrite [h_impl_UnpaintedFaces_5]
  exact e_impl_UnpaintedFaces_5 N P_Heap_painted P_impl_IsHeap m0 p0 p1 p2 p3

/- 4: loop.example/g01166/laws.FnExactUnpaintedFaces -/
abbrev As_laws_FnExactUnpaintedFaces : List ATy := [.data true T_Heap, .data false .bool]
abbrev R_laws_FnExactUnpaintedFaces : List (Bool × Ty) := [(false, .bool)]
abbrev M_laws_FnExactUnpaintedFaces : List RMode := []
abbrev Ft_laws_FnExactUnpaintedFaces : Type := D_Heap × Bool × Unit → Option (Bool × Unit)
noncomputable def X_laws_FnExactUnpaintedFaces (n : Nat) (F_laws_szHeap : Ft_laws_szHeap) (F_laws_toHeap : Ft_laws_toHeap) (F_laws_eqHeap : Ft_laws_eqHeap) (F_spec_UnpaintedFaces : Ft_spec_UnpaintedFaces) (F_impl_UnpaintedFaces : Ft_impl_UnpaintedFaces) : Ctx := { types := TT, globals := [], con := [(8, ⟨As_laws_szHeap, R_laws_szHeap, M_laws_szHeap, F_laws_szHeap⟩), (10, ⟨As_laws_toHeap, R_laws_toHeap, M_laws_toHeap, F_laws_toHeap⟩), (13, ⟨As_laws_eqHeap, R_laws_eqHeap, M_laws_eqHeap, F_laws_eqHeap⟩), (14, ⟨As_spec_UnpaintedFaces, R_spec_UnpaintedFaces, M_spec_UnpaintedFaces, F_spec_UnpaintedFaces⟩), (15, ⟨As_impl_UnpaintedFaces, R_impl_UnpaintedFaces, M_impl_UnpaintedFaces, F_impl_UnpaintedFaces⟩)], keep := [], results := [.tmp 4], ntmps := 44, n := n }
noncomputable def B_laws_FnExactUnpaintedFaces : Code := (Try.f4.body).getD .skip
theorem e_laws_FnExactUnpaintedFaces (n : Nat) (F_laws_szHeap : Ft_laws_szHeap) (F_laws_toHeap : Ft_laws_toHeap) (F_laws_eqHeap : Ft_laws_eqHeap) (F_spec_UnpaintedFaces : Ft_spec_UnpaintedFaces) (F_impl_UnpaintedFaces : Ft_impl_UnpaintedFaces) (a0 : D_Heap) (a1 : Bool) : runF (X_laws_FnExactUnpaintedFaces n F_laws_szHeap F_laws_toHeap F_laws_eqHeap F_spec_UnpaintedFaces F_impl_UnpaintedFaces) B_laws_FnExactUnpaintedFaces As_laws_FnExactUnpaintedFaces R_laws_FnExactUnpaintedFaces M_laws_FnExactUnpaintedFaces (a0, a1, ()) = 
  Option.bind (F_laws_szHeap (a0, 1048576, ())) fun r0 =>
  bif decide (r0.1 < 0) then
    some (true, ())
  else
    Option.bind (F_laws_toHeap (a0, ())) fun r2 =>
    Option.bind (F_spec_UnpaintedFaces (r2.1, a1, ())) fun r3 =>
    Option.bind (F_laws_toHeap (a0, ())) fun r4 =>
    Option.bind (F_impl_UnpaintedFaces (r4.1, a1, ())) fun r5 =>
    bif !decide (r5.1 = r3.1) then
      some (false, ())
    else
      bif !(r5.2.1 == r3.2.1) then
        some (false, ())
      else
        Option.bind (F_laws_toHeap (a0, ())) fun r8 =>
        Option.bind (F_laws_eqHeap (r4.1, r8.1, ())) fun r9 =>
        bif !r9.1 then
          some (false, ())
        else
          some (true, ()) := by kernel_rfl
noncomputable def P_laws_FnExactUnpaintedFaces : Ft_laws_FnExactUnpaintedFaces := hid (runF (X_laws_FnExactUnpaintedFaces N P_laws_szHeap P_laws_toHeap P_laws_eqHeap P_spec_UnpaintedFaces P_impl_UnpaintedFaces) B_laws_FnExactUnpaintedFaces As_laws_FnExactUnpaintedFaces R_laws_FnExactUnpaintedFaces M_laws_FnExactUnpaintedFaces)
theorem h_laws_FnExactUnpaintedFaces : P_laws_FnExactUnpaintedFaces = runF (X_laws_FnExactUnpaintedFaces N P_laws_szHeap P_laws_toHeap P_laws_eqHeap P_spec_UnpaintedFaces P_impl_UnpaintedFaces) B_laws_FnExactUnpaintedFaces As_laws_FnExactUnpaintedFaces R_laws_FnExactUnpaintedFaces M_laws_FnExactUnpaintedFaces := hid_eq _
noncomputable def C_laws_FnExactUnpaintedFaces : Contract := ⟨As_laws_FnExactUnpaintedFaces, R_laws_FnExactUnpaintedFaces, M_laws_FnExactUnpaintedFaces, P_laws_FnExactUnpaintedFaces⟩
theorem s_laws_FnExactUnpaintedFaces : Sound Try.prog GG 4 C_laws_FnExactUnpaintedFaces := by
  unfold C_laws_FnExactUnpaintedFaces; rw [h_laws_FnExactUnpaintedFaces]
  exact sound_of_run (fn := Try.f4) hmix hstable (tyOK_of ttOK) (hglob (X_laws_FnExactUnpaintedFaces N P_laws_szHeap P_laws_toHeap P_laws_eqHeap P_spec_UnpaintedFaces P_impl_UnpaintedFaces)) (conOK_of (X := X_laws_FnExactUnpaintedFaces N P_laws_szHeap P_laws_toHeap P_laws_eqHeap P_spec_UnpaintedFaces P_impl_UnpaintedFaces) ⟨s_laws_szHeap, s_laws_toHeap, s_laws_eqHeap, s_spec_UnpaintedFaces, s_impl_UnpaintedFaces, trivial⟩) (mconOK_of (X := X_laws_FnExactUnpaintedFaces N P_laws_szHeap P_laws_toHeap P_laws_eqHeap P_spec_UnpaintedFaces P_impl_UnpaintedFaces) trivial) (by kernel_rfl) (by kernel_rfl) (by kernel_rfl) (by kernel_rfl) (by kernel_rfl) (of_decide_eq_true (by kernel_rfl))
theorem p_laws_FnExactUnpaintedFaces (a0 : D_Heap) (a1 : Bool) : P_laws_FnExactUnpaintedFaces (a0, a1, ()) = 
  Option.bind (P_laws_szHeap (a0, 1048576, ())) fun r0 =>
  bif decide (r0.1 < 0) then
    some (true, ())
  else
    Option.bind (P_laws_toHeap (a0, ())) fun r2 =>
    Option.bind (P_spec_UnpaintedFaces (r2.1, a1, ())) fun r3 =>
    Option.bind (P_laws_toHeap (a0, ())) fun r4 =>
    Option.bind (P_impl_UnpaintedFaces (r4.1, a1, ())) fun r5 =>
    bif !decide (r5.1 = r3.1) then
      some (false, ())
    else
      bif !(r5.2.1 == r3.2.1) then
        some (false, ())
      else
        Option.bind (P_laws_toHeap (a0, ())) fun r8 =>
        Option.bind (P_laws_eqHeap (r4.1, r8.1, ())) fun r9 =>
        bif !r9.1 then
          some (false, ())
        else
          some (true, ()) := by
  rewrite [h_laws_FnExactUnpaintedFaces]
  exact e_laws_FnExactUnpaintedFaces N P_laws_szHeap P_laws_toHeap P_laws_eqHeap P_spec_UnpaintedFaces P_impl_UnpaintedFaces a0 a1

/- 16: loop.example/g01166/spec.PaintCounts -/
abbrev As_spec_PaintCounts : List ATy := [.data true T_Heap, .data false .bool]
abbrev R_spec_PaintCounts : List (Bool × Ty) := [(true, T_A7), (false, .bool)]
abbrev M_spec_PaintCounts : List RMode := []
abbrev Ft_spec_PaintCounts : Type := D_Heap × Bool × Unit → Option (D_A7 × Bool × Unit)
noncomputable def X_spec_PaintCounts (n : Nat) (F_spec_l2Heap : Ft_spec_l2Heap) (F_spec_l11Counts : Ft_spec_l11Counts) : Ctx := { types := TT, globals := [], con := [(45, ⟨As_spec_l2Heap, R_spec_l2Heap, M_spec_l2Heap, F_spec_l2Heap⟩), (46, ⟨As_spec_l11Counts, R_spec_l11Counts, M_spec_l11Counts, F_spec_l11Counts⟩)], keep := [], results := [.cell 4 36, .tmp 5], ntmps := 13, n := n }
noncomputable def B_spec_PaintCounts : Code := (Try.f16.body).getD .skip
theorem e_spec_PaintCounts (n : Nat) (F_spec_l2Heap : Ft_spec_l2Heap) (F_spec_l11Counts : Ft_spec_l11Counts) (a0 : D_Heap) (a1 : Bool) : runF (X_spec_PaintCounts n F_spec_l2Heap F_spec_l11Counts) B_spec_PaintCounts As_spec_PaintCounts R_spec_PaintCounts M_spec_PaintCounts (a0, a1, ()) = 
  Option.bind (F_spec_l2Heap (a0, ())) fun r0 =>
  bif !r0.1 then
    some ((0, (0, (0, (0, (0, (0, (0, ()))))))), false, ())
  else
    Option.bind (F_spec_l11Counts (a0, a1, ())) fun r2 =>
    some (r2.1, true, ()) := by kernel_rfl
noncomputable def P_spec_PaintCounts : Ft_spec_PaintCounts := hid (runF (X_spec_PaintCounts N P_spec_l2Heap P_spec_l11Counts) B_spec_PaintCounts As_spec_PaintCounts R_spec_PaintCounts M_spec_PaintCounts)
theorem h_spec_PaintCounts : P_spec_PaintCounts = runF (X_spec_PaintCounts N P_spec_l2Heap P_spec_l11Counts) B_spec_PaintCounts As_spec_PaintCounts R_spec_PaintCounts M_spec_PaintCounts := hid_eq _
noncomputable def C_spec_PaintCounts : Contract := ⟨As_spec_PaintCounts, R_spec_PaintCounts, M_spec_PaintCounts, P_spec_PaintCounts⟩
theorem s_spec_PaintCounts : Sound Try.prog GG 16 C_spec_PaintCounts := by
  unfold C_spec_PaintCounts; rw [h_spec_PaintCounts]
  exact sound_of_run (fn := Try.f16) hmix hstable (tyOK_of ttOK) (hglob (X_spec_PaintCounts N P_spec_l2Heap P_spec_l11Counts)) (conOK_of (X := X_spec_PaintCounts N P_spec_l2Heap P_spec_l11Counts) ⟨s_spec_l2Heap, s_spec_l11Counts, trivial⟩) (mconOK_of (X := X_spec_PaintCounts N P_spec_l2Heap P_spec_l11Counts) trivial) (by kernel_rfl) (by kernel_rfl) (by kernel_rfl) (by kernel_rfl) (by kernel_rfl) (of_decide_eq_true (by kernel_rfl))
theorem p_spec_PaintCounts (a0 : D_Heap) (a1 : Bool) : P_spec_PaintCounts (a0, a1, ()) = 
  Option.bind (P_spec_l2Heap (a0, ())) fun r0 =>
  bif !r0.1 then
    some ((0, (0, (0, (0, (0, (0, (0, ()))))))), false, ())
  else
    Option.bind (P_spec_l11Counts (a0, a1, ())) fun r2 =>
    some (r2.1, true, ()) := by
  rewrite [h_spec_PaintCounts]
  exact e_spec_PaintCounts N P_spec_l2Heap P_spec_l11Counts a0 a1

/- 17: loop.example/g01166/impl.PaintCounts -/
abbrev As_impl_PaintCounts : List ATy := [.data true T_Heap, .data false .bool]
abbrev R_impl_PaintCounts : List (Bool × Ty) := [(true, T_A7), (false, .bool)]
abbrev M_impl_PaintCounts : List RMode := []
abbrev Ft_impl_PaintCounts : Type := D_Heap × Bool × Unit → Option (D_A7 × Bool × Unit)
noncomputable def X_impl_PaintCounts (n : Nat) (F_Heap_painted : Ft_Heap_painted) (F_impl_IsHeap : Ft_impl_IsHeap) : Ctx := { types := TT, globals := [], con := [(42, ⟨As_Heap_painted, R_Heap_painted, M_Heap_painted, F_Heap_painted⟩), (47, ⟨As_impl_IsHeap, R_impl_IsHeap, M_impl_IsHeap, F_impl_IsHeap⟩)], keep := [(5, ⟨[.box 4, .box 6, .tmp 4, .tmp 6, .tmp 16, .tmp 17, .tmp 18], []⟩)], results := [.cell 4 36, .tmp 5], ntmps := 29, n := n }
noncomputable def B_impl_PaintCounts : Code := (Try.f17.body).getD .skip
noncomputable def L_impl_PaintCounts_5 (n : Nat) (F_Heap_painted : Ft_Heap_painted) (F_impl_IsHeap : Ft_impl_IsHeap) (m0 : Nat) (p0 : Int) (p1 : Int) (p2 : Int) (p3 : Int) (p4 : Int) (p5 : Int) (p6 : Int) (p7 : Int) (p8 : Int) (p9 : Int) (p10 : Int) (p11 : Int) (p12 : Int) (p13 : Int) (p14 : List Int) (p15 : Int) (p16 : Int) : Option (denL R_impl_PaintCounts) := loopF (X_impl_PaintCounts n F_Heap_painted F_impl_IsHeap) B_impl_PaintCounts R_impl_PaintCounts M_impl_PaintCounts 5 [m0] [(.ver, .num 1), (.box 4, .box 0 false [.int .i64 p0, .int .i64 p1, .int .i64 p2, .int .i64 p3, .int .i64 p4, .int .i64 p5, .int .i64 p6]), (.box 6, .box 0 false [.int .i64 p7, .int .i64 p8, .int .i64 p9, .int .i64 p10, .int .i64 p11, .int .i64 p12, .int .i64 p13]), (.tmp 4, .val false [.addr 4 0 0]), (.tmp 6, .val false [.addr 6 0 0]), (.tmp 16, .val false [.own 3 (.int .i64) 0 p14]), (.tmp 17, .val false [.int .i64 p15]), (.tmp 18, .val false [.int .i64 p16])]
theorem e_impl_PaintCounts (n : Nat) (F_Heap_painted : Ft_Heap_painted) (F_impl_IsHeap : Ft_impl_IsHeap) (a0 : D_Heap) (a1 : Bool) : runF (X_impl_PaintCounts n F_Heap_painted F_impl_IsHeap) B_impl_PaintCounts As_impl_PaintCounts R_impl_PaintCounts M_impl_PaintCounts (a0, a1, ()) = 
  Option.bind (F_impl_IsHeap (a0, ())) fun r0 =>
  bif !r0.1 then
    some ((0, (0, (0, (0, (0, (0, (0, ()))))))), false, ())
  else
    Option.bind (F_Heap_painted (a0, a1, ())) fun r2 =>
    L_impl_PaintCounts_5 n F_Heap_painted F_impl_IsHeap n 0 0 0 0 0 0 0 0 0 0 0 0 0 0 r2.1 (List.length r2.1 : Int) 0 := by kernel_rfl
theorem e_impl_PaintCounts_5 (n : Nat) (F_Heap_painted : Ft_Heap_painted) (F_impl_IsHeap : Ft_impl_IsHeap) (m0 : Nat) (p0 : Int) (p1 : Int) (p2 : Int) (p3 : Int) (p4 : Int) (p5 : Int) (p6 : Int) (p7 : Int) (p8 : Int) (p9 : Int) (p10 : Int) (p11 : Int) (p12 : Int) (p13 : Int) (p14 : List Int) (p15 : Int) (p16 : Int) : L_impl_PaintCounts_5 n F_Heap_painted F_impl_IsHeap (m0 + 1) p0 p1 p2 p3 p4 p5 p6 p7 p8 p9 p10 p11 p12 p13 p14 p15 p16 = 
  bif decide (p16 < p15) then
    bif inB p16 (List.length p14) then
      bif inB (nth ((.int .i64) : Ty) p14 p16) 7 then
        bif inB (nth ((.int .i64) : Ty) p14 p16) 7 then
          L_impl_PaintCounts_5 n F_Heap_painted F_impl_IsHeap m0 p0 p1 p2 p3 p4 p5 p6 (bif decide ((nth ((.int .i64) : Ty) p14 p16) = (0 : Int)) then (IntKind.wrap .i64 ((bif decide ((nth ((.int .i64) : Ty) p14 p16) = (0 : Int)) then p7 else (bif decide ((nth ((.int .i64) : Ty) p14 p16) = (1 : Int)) then p8 else (bif decide ((nth ((.int .i64) : Ty) p14 p16) = (2 : Int)) then p9 else (bif decide ((nth ((.int .i64) : Ty) p14 p16) = (3 : Int)) then p10 else (bif decide ((nth ((.int .i64) : Ty) p14 p16) = (4 : Int)) then p11 else (bif decide ((nth ((.int .i64) : Ty) p14 p16) = (5 : Int)) then p12 else p13)))))) + 1)) else p7) (bif decide ((nth ((.int .i64) : Ty) p14 p16) = (1 : Int)) then (IntKind.wrap .i64 ((bif decide ((nth ((.int .i64) : Ty) p14 p16) = (0 : Int)) then p7 else (bif decide ((nth ((.int .i64) : Ty) p14 p16) = (1 : Int)) then p8 else (bif decide ((nth ((.int .i64) : Ty) p14 p16) = (2 : Int)) then p9 else (bif decide ((nth ((.int .i64) : Ty) p14 p16) = (3 : Int)) then p10 else (bif decide ((nth ((.int .i64) : Ty) p14 p16) = (4 : Int)) then p11 else (bif decide ((nth ((.int .i64) : Ty) p14 p16) = (5 : Int)) then p12 else p13)))))) + 1)) else p8) (bif decide ((nth ((.int .i64) : Ty) p14 p16) = (2 : Int)) then (IntKind.wrap .i64 ((bif decide ((nth ((.int .i64) : Ty) p14 p16) = (0 : Int)) then p7 else (bif decide ((nth ((.int .i64) : Ty) p14 p16) = (1 : Int)) then p8 else (bif decide ((nth ((.int .i64) : Ty) p14 p16) = (2 : Int)) then p9 else (bif decide ((nth ((.int .i64) : Ty) p14 p16) = (3 : Int)) then p10 else (bif decide ((nth ((.int .i64) : Ty) p14 p16) = (4 : Int)) then p11 else (bif decide ((nth ((.int .i64) : Ty) p14 p16) = (5 : Int)) then p12 else p13)))))) + 1)) else p9) (bif decide ((nth ((.int .i64) : Ty) p14 p16) = (3 : Int)) then (IntKind.wrap .i64 ((bif decide ((nth ((.int .i64) : Ty) p14 p16) = (0 : Int)) then p7 else (bif decide ((nth ((.int .i64) : Ty) p14 p16) = (1 : Int)) then p8 else (bif decide ((nth ((.int .i64) : Ty) p14 p16) = (2 : Int)) then p9 else (bif decide ((nth ((.int .i64) : Ty) p14 p16) = (3 : Int)) then p10 else (bif decide ((nth ((.int .i64) : Ty) p14 p16) = (4 : Int)) then p11 else (bif decide ((nth ((.int .i64) : Ty) p14 p16) = (5 : Int)) then p12 else p13)))))) + 1)) else p10) (bif decide ((nth ((.int .i64) : Ty) p14 p16) = (4 : Int)) then (IntKind.wrap .i64 ((bif decide ((nth ((.int .i64) : Ty) p14 p16) = (0 : Int)) then p7 else (bif decide ((nth ((.int .i64) : Ty) p14 p16) = (1 : Int)) then p8 else (bif decide ((nth ((.int .i64) : Ty) p14 p16) = (2 : Int)) then p9 else (bif decide ((nth ((.int .i64) : Ty) p14 p16) = (3 : Int)) then p10 else (bif decide ((nth ((.int .i64) : Ty) p14 p16) = (4 : Int)) then p11 else (bif decide ((nth ((.int .i64) : Ty) p14 p16) = (5 : Int)) then p12 else p13)))))) + 1)) else p11) (bif decide ((nth ((.int .i64) : Ty) p14 p16) = (5 : Int)) then (IntKind.wrap .i64 ((bif decide ((nth ((.int .i64) : Ty) p14 p16) = (0 : Int)) then p7 else (bif decide ((nth ((.int .i64) : Ty) p14 p16) = (1 : Int)) then p8 else (bif decide ((nth ((.int .i64) : Ty) p14 p16) = (2 : Int)) then p9 else (bif decide ((nth ((.int .i64) : Ty) p14 p16) = (3 : Int)) then p10 else (bif decide ((nth ((.int .i64) : Ty) p14 p16) = (4 : Int)) then p11 else (bif decide ((nth ((.int .i64) : Ty) p14 p16) = (5 : Int)) then p12 else p13)))))) + 1)) else p12) (bif decide ((nth ((.int .i64) : Ty) p14 p16) = (6 : Int)) then (IntKind.wrap .i64 ((bif decide ((nth ((.int .i64) : Ty) p14 p16) = (0 : Int)) then p7 else (bif decide ((nth ((.int .i64) : Ty) p14 p16) = (1 : Int)) then p8 else (bif decide ((nth ((.int .i64) : Ty) p14 p16) = (2 : Int)) then p9 else (bif decide ((nth ((.int .i64) : Ty) p14 p16) = (3 : Int)) then p10 else (bif decide ((nth ((.int .i64) : Ty) p14 p16) = (4 : Int)) then p11 else (bif decide ((nth ((.int .i64) : Ty) p14 p16) = (5 : Int)) then p12 else p13)))))) + 1)) else p13) p14 p15 (IntKind.wrap .i64 (p16 + 1))
        else none
      else none
    else none
  else
    some ((p7, (p8, (p9, (p10, (p11, (p12, (p13, ()))))))), true, ()) := by kernel_rfl
noncomputable def P_impl_PaintCounts : Ft_impl_PaintCounts := hid (runF (X_impl_PaintCounts N P_Heap_painted P_impl_IsHeap) B_impl_PaintCounts As_impl_PaintCounts R_impl_PaintCounts M_impl_PaintCounts)
theorem h_impl_PaintCounts : P_impl_PaintCounts = runF (X_impl_PaintCounts N P_Heap_painted P_impl_IsHeap) B_impl_PaintCounts As_impl_PaintCounts R_impl_PaintCounts M_impl_PaintCounts := hid_eq _
noncomputable def C_impl_PaintCounts : Contract := ⟨As_impl_PaintCounts, R_impl_PaintCounts, M_impl_PaintCounts, P_impl_PaintCounts⟩
theorem s_impl_PaintCounts : Sound Try.prog GG 17 C_impl_PaintCounts := by
  unfold C_impl_PaintCounts; rw [h_impl_PaintCounts]
  exact sound_of_run (fn := Try.f17) hmix hstable (tyOK_of ttOK) (hglob (X_impl_PaintCounts N P_Heap_painted P_impl_IsHeap)) (conOK_of (X := X_impl_PaintCounts N P_Heap_painted P_impl_IsHeap) ⟨s_Heap_painted, s_impl_IsHeap, trivial⟩) (mconOK_of (X := X_impl_PaintCounts N P_Heap_painted P_impl_IsHeap) trivial) (by kernel_rfl) (by kernel_rfl) (by kernel_rfl) (by kernel_rfl) (by kernel_rfl) (of_decide_eq_true (by kernel_rfl))
noncomputable def l_impl_PaintCounts_5 : Nat → Int → Int → Int → Int → Int → Int → Int → Int → Int → Int → Int → Int → Int → Int → (List Int) → Int → Int → Option (denL R_impl_PaintCounts) := hid (fun m0 p0 p1 p2 p3 p4 p5 p6 p7 p8 p9 p10 p11 p12 p13 p14 p15 p16 => L_impl_PaintCounts_5 N P_Heap_painted P_impl_IsHeap m0 p0 p1 p2 p3 p4 p5 p6 p7 p8 p9 p10 p11 p12 p13 p14 p15 p16)
theorem h_impl_PaintCounts_5 : l_impl_PaintCounts_5 = fun m0 p0 p1 p2 p3 p4 p5 p6 p7 p8 p9 p10 p11 p12 p13 p14 p15 p16 => L_impl_PaintCounts_5 N P_Heap_painted P_impl_IsHeap m0 p0 p1 p2 p3 p4 p5 p6 p7 p8 p9 p10 p11 p12 p13 p14 p15 p16 := hid_eq _
theorem p_impl_PaintCounts (a0 : D_Heap) (a1 : Bool) : P_impl_PaintCounts (a0, a1, ()) = 
  Option.bind (P_impl_IsHeap (a0, ())) fun r0 =>
  bif !r0.1 then
    some ((0, (0, (0, (0, (0, (0, (0, ()))))))), false, ())
  else
    Option.bind (P_Heap_painted (a0, a1, ())) fun r2 =>
    l_impl_PaintCounts_5 N 0 0 0 0 0 0 0 0 0 0 0 0 0 0 r2.1 (List.length r2.1 : Int) 0 := by
  rewrite [h_impl_PaintCounts, h_impl_PaintCounts_5]
  exact e_impl_PaintCounts N P_Heap_painted P_impl_IsHeap a0 a1
theorem q_impl_PaintCounts_5 (m0 : Nat) (p0 : Int) (p1 : Int) (p2 : Int) (p3 : Int) (p4 : Int) (p5 : Int) (p6 : Int) (p7 : Int) (p8 : Int) (p9 : Int) (p10 : Int) (p11 : Int) (p12 : Int) (p13 : Int) (p14 : List Int) (p15 : Int) (p16 : Int) : l_impl_PaintCounts_5 (m0 + 1) p0 p1 p2 p3 p4 p5 p6 p7 p8 p9 p10 p11 p12 p13 p14 p15 p16 = 
  bif decide (p16 < p15) then
    bif inB p16 (List.length p14) then
      bif inB (nth ((.int .i64) : Ty) p14 p16) 7 then
        bif inB (nth ((.int .i64) : Ty) p14 p16) 7 then
          l_impl_PaintCounts_5 m0 p0 p1 p2 p3 p4 p5 p6 (bif decide ((nth ((.int .i64) : Ty) p14 p16) = (0 : Int)) then (IntKind.wrap .i64 ((bif decide ((nth ((.int .i64) : Ty) p14 p16) = (0 : Int)) then p7 else (bif decide ((nth ((.int .i64) : Ty) p14 p16) = (1 : Int)) then p8 else (bif decide ((nth ((.int .i64) : Ty) p14 p16) = (2 : Int)) then p9 else (bif decide ((nth ((.int .i64) : Ty) p14 p16) = (3 : Int)) then p10 else (bif decide ((nth ((.int .i64) : Ty) p14 p16) = (4 : Int)) then p11 else (bif decide ((nth ((.int .i64) : Ty) p14 p16) = (5 : Int)) then p12 else p13)))))) + 1)) else p7) (bif decide ((nth ((.int .i64) : Ty) p14 p16) = (1 : Int)) then (IntKind.wrap .i64 ((bif decide ((nth ((.int .i64) : Ty) p14 p16) = (0 : Int)) then p7 else (bif decide ((nth ((.int .i64) : Ty) p14 p16) = (1 : Int)) then p8 else (bif decide ((nth ((.int .i64) : Ty) p14 p16) = (2 : Int)) then p9 else (bif decide ((nth ((.int .i64) : Ty) p14 p16) = (3 : Int)) then p10 else (bif decide ((nth ((.int .i64) : Ty) p14 p16) = (4 : Int)) then p11 else (bif decide ((nth ((.int .i64) : Ty) p14 p16) = (5 : Int)) then p12 else p13)))))) + 1)) else p8) (bif decide ((nth ((.int .i64) : Ty) p14 p16) = (2 : Int)) then (IntKind.wrap .i64 ((bif decide ((nth ((.int .i64) : Ty) p14 p16) = (0 : Int)) then p7 else (bif decide ((nth ((.int .i64) : Ty) p14 p16) = (1 : Int)) then p8 else (bif decide ((nth ((.int .i64) : Ty) p14 p16) = (2 : Int)) then p9 else (bif decide ((nth ((.int .i64) : Ty) p14 p16) = (3 : Int)) then p10 else (bif decide ((nth ((.int .i64) : Ty) p14 p16) = (4 : Int)) then p11 else (bif decide ((nth ((.int .i64) : Ty) p14 p16) = (5 : Int)) then p12 else p13)))))) + 1)) else p9) (bif decide ((nth ((.int .i64) : Ty) p14 p16) = (3 : Int)) then (IntKind.wrap .i64 ((bif decide ((nth ((.int .i64) : Ty) p14 p16) = (0 : Int)) then p7 else (bif decide ((nth ((.int .i64) : Ty) p14 p16) = (1 : Int)) then p8 else (bif decide ((nth ((.int .i64) : Ty) p14 p16) = (2 : Int)) then p9 else (bif decide ((nth ((.int .i64) : Ty) p14 p16) = (3 : Int)) then p10 else (bif decide ((nth ((.int .i64) : Ty) p14 p16) = (4 : Int)) then p11 else (bif decide ((nth ((.int .i64) : Ty) p14 p16) = (5 : Int)) then p12 else p13)))))) + 1)) else p10) (bif decide ((nth ((.int .i64) : Ty) p14 p16) = (4 : Int)) then (IntKind.wrap .i64 ((bif decide ((nth ((.int .i64) : Ty) p14 p16) = (0 : Int)) then p7 else (bif decide ((nth ((.int .i64) : Ty) p14 p16) = (1 : Int)) then p8 else (bif decide ((nth ((.int .i64) : Ty) p14 p16) = (2 : Int)) then p9 else (bif decide ((nth ((.int .i64) : Ty) p14 p16) = (3 : Int)) then p10 else (bif decide ((nth ((.int .i64) : Ty) p14 p16) = (4 : Int)) then p11 else (bif decide ((nth ((.int .i64) : Ty) p14 p16) = (5 : Int)) then p12 else p13)))))) + 1)) else p11) (bif decide ((nth ((.int .i64) : Ty) p14 p16) = (5 : Int)) then (IntKind.wrap .i64 ((bif decide ((nth ((.int .i64) : Ty) p14 p16) = (0 : Int)) then p7 else (bif decide ((nth ((.int .i64) : Ty) p14 p16) = (1 : Int)) then p8 else (bif decide ((nth ((.int .i64) : Ty) p14 p16) = (2 : Int)) then p9 else (bif decide ((nth ((.int .i64) : Ty) p14 p16) = (3 : Int)) then p10 else (bif decide ((nth ((.int .i64) : Ty) p14 p16) = (4 : Int)) then p11 else (bif decide ((nth ((.int .i64) : Ty) p14 p16) = (5 : Int)) then p12 else p13)))))) + 1)) else p12) (bif decide ((nth ((.int .i64) : Ty) p14 p16) = (6 : Int)) then (IntKind.wrap .i64 ((bif decide ((nth ((.int .i64) : Ty) p14 p16) = (0 : Int)) then p7 else (bif decide ((nth ((.int .i64) : Ty) p14 p16) = (1 : Int)) then p8 else (bif decide ((nth ((.int .i64) : Ty) p14 p16) = (2 : Int)) then p9 else (bif decide ((nth ((.int .i64) : Ty) p14 p16) = (3 : Int)) then p10 else (bif decide ((nth ((.int .i64) : Ty) p14 p16) = (4 : Int)) then p11 else (bif decide ((nth ((.int .i64) : Ty) p14 p16) = (5 : Int)) then p12 else p13)))))) + 1)) else p13) p14 p15 (IntKind.wrap .i64 (p16 + 1))
        else none
      else none
    else none
  else
    some ((p7, (p8, (p9, (p10, (p11, (p12, (p13, ()))))))), true, ()) := by
  rewrite [h_impl_PaintCounts_5]
  exact e_impl_PaintCounts_5 N P_Heap_painted P_impl_IsHeap m0 p0 p1 p2 p3 p4 p5 p6 p7 p8 p9 p10 p11 p12 p13 p14 p15 p16

/- 18: loop.example/g01166/laws.eqIntA7 -/
abbrev As_laws_eqIntA7 : List ATy := [.data true T_A7, .data true T_A7]
abbrev R_laws_eqIntA7 : List (Bool × Ty) := [(false, .bool)]
abbrev M_laws_eqIntA7 : List RMode := []
abbrev Ft_laws_eqIntA7 : Type := D_A7 × D_A7 × Unit → Option (Bool × Unit)
noncomputable def X_laws_eqIntA7 (n : Nat) : Ctx := { types := TT, globals := [], con := [], keep := [(2, ⟨[.box 2, .box 3, .tmp 2, .tmp 3, .tmp 5], []⟩)], results := [.tmp 4], ntmps := 17, n := n }
noncomputable def B_laws_eqIntA7 : Code := (Try.f18.body).getD .skip
noncomputable def L_laws_eqIntA7_2 (n : Nat) (m0 : Nat) (p0 : Int) (p1 : Int) (p2 : Int) (p3 : Int) (p4 : Int) (p5 : Int) (p6 : Int) (p7 : Int) (p8 : Int) (p9 : Int) (p10 : Int) (p11 : Int) (p12 : Int) (p13 : Int) (p14 : Int) : Option (denL R_laws_eqIntA7) := loopF (X_laws_eqIntA7 n) B_laws_eqIntA7 R_laws_eqIntA7 M_laws_eqIntA7 2 [m0] [(.ver, .num 1), (.box 2, .box 0 false [.int .i64 p0, .int .i64 p1, .int .i64 p2, .int .i64 p3, .int .i64 p4, .int .i64 p5, .int .i64 p6]), (.box 3, .box 0 false [.int .i64 p7, .int .i64 p8, .int .i64 p9, .int .i64 p10, .int .i64 p11, .int .i64 p12, .int .i64 p13]), (.tmp 2, .val false [.addr 2 0 0]), (.tmp 3, .val false [.addr 3 0 0]), (.tmp 5, .val false [.int .i64 p14])]
theorem e_laws_eqIntA7 (n : Nat) (a0 : D_A7) (a1 : D_A7) : runF (X_laws_eqIntA7 n) B_laws_eqIntA7 As_laws_eqIntA7 R_laws_eqIntA7 M_laws_eqIntA7 (a0, a1, ()) = 
  L_laws_eqIntA7_2 n n a0.1 a0.2.1 a0.2.2.1 a0.2.2.2.1 a0.2.2.2.2.1 a0.2.2.2.2.2.1 a0.2.2.2.2.2.2.1 a1.1 a1.2.1 a1.2.2.1 a1.2.2.2.1 a1.2.2.2.2.1 a1.2.2.2.2.2.1 a1.2.2.2.2.2.2.1 0 := by kernel_rfl
theorem e_laws_eqIntA7_2 (n : Nat) (m0 : Nat) (p0 : Int) (p1 : Int) (p2 : Int) (p3 : Int) (p4 : Int) (p5 : Int) (p6 : Int) (p7 : Int) (p8 : Int) (p9 : Int) (p10 : Int) (p11 : Int) (p12 : Int) (p13 : Int) (p14 : Int) : L_laws_eqIntA7_2 n (m0 + 1) p0 p1 p2 p3 p4 p5 p6 p7 p8 p9 p10 p11 p12 p13 p14 = 
  bif decide (p14 < 7) then
    bif inB p14 7 then
      bif inB p14 7 then
        bif !decide ((bif decide (p14 = (0 : Int)) then p0 else (bif decide (p14 = (1 : Int)) then p1 else (bif decide (p14 = (2 : Int)) then p2 else (bif decide (p14 = (3 : Int)) then p3 else (bif decide (p14 = (4 : Int)) then p4 else (bif decide (p14 = (5 : Int)) then p5 else p6)))))) = (bif decide (p14 = (0 : Int)) then p7 else (bif decide (p14 = (1 : Int)) then p8 else (bif decide (p14 = (2 : Int)) then p9 else (bif decide (p14 = (3 : Int)) then p10 else (bif decide (p14 = (4 : Int)) then p11 else (bif decide (p14 = (5 : Int)) then p12 else p13))))))) then
          some (false, ())
        else
          L_laws_eqIntA7_2 n m0 p0 p1 p2 p3 p4 p5 p6 p7 p8 p9 p10 p11 p12 p13 (IntKind.wrap .i64 (p14 + 1))
      else none
    else none
  else
    some (true, ()) := by kernel_rfl
noncomputable def P_laws_eqIntA7 : Ft_laws_eqIntA7 := hid (runF (X_laws_eqIntA7 N) B_laws_eqIntA7 As_laws_eqIntA7 R_laws_eqIntA7 M_laws_eqIntA7)
theorem h_laws_eqIntA7 : P_laws_eqIntA7 = runF (X_laws_eqIntA7 N) B_laws_eqIntA7 As_laws_eqIntA7 R_laws_eqIntA7 M_laws_eqIntA7 := hid_eq _
noncomputable def C_laws_eqIntA7 : Contract := ⟨As_laws_eqIntA7, R_laws_eqIntA7, M_laws_eqIntA7, P_laws_eqIntA7⟩
theorem s_laws_eqIntA7 : Sound Try.prog GG 18 C_laws_eqIntA7 := by
  unfold C_laws_eqIntA7; rw [h_laws_eqIntA7]
  exact sound_of_run (fn := Try.f18) hmix hstable (tyOK_of ttOK) (hglob (X_laws_eqIntA7 N)) (conOK_of (X := X_laws_eqIntA7 N) trivial) (mconOK_of (X := X_laws_eqIntA7 N) trivial) (by kernel_rfl) (by kernel_rfl) (by kernel_rfl) (by kernel_rfl) (by kernel_rfl) (of_decide_eq_true (by kernel_rfl))
noncomputable def l_laws_eqIntA7_2 : Nat → Int → Int → Int → Int → Int → Int → Int → Int → Int → Int → Int → Int → Int → Int → Int → Option (denL R_laws_eqIntA7) := hid (fun m0 p0 p1 p2 p3 p4 p5 p6 p7 p8 p9 p10 p11 p12 p13 p14 => L_laws_eqIntA7_2 N m0 p0 p1 p2 p3 p4 p5 p6 p7 p8 p9 p10 p11 p12 p13 p14)
theorem h_laws_eqIntA7_2 : l_laws_eqIntA7_2 = fun m0 p0 p1 p2 p3 p4 p5 p6 p7 p8 p9 p10 p11 p12 p13 p14 => L_laws_eqIntA7_2 N m0 p0 p1 p2 p3 p4 p5 p6 p7 p8 p9 p10 p11 p12 p13 p14 := hid_eq _
theorem p_laws_eqIntA7 (a0 : D_A7) (a1 : D_A7) : P_laws_eqIntA7 (a0, a1, ()) = 
  l_laws_eqIntA7_2 N a0.1 a0.2.1 a0.2.2.1 a0.2.2.2.1 a0.2.2.2.2.1 a0.2.2.2.2.2.1 a0.2.2.2.2.2.2.1 a1.1 a1.2.1 a1.2.2.1 a1.2.2.2.1 a1.2.2.2.2.1 a1.2.2.2.2.2.1 a1.2.2.2.2.2.2.1 0 := by
  rewrite [h_laws_eqIntA7, h_laws_eqIntA7_2]
  exact e_laws_eqIntA7 N a0 a1
theorem q_laws_eqIntA7_2 (m0 : Nat) (p0 : Int) (p1 : Int) (p2 : Int) (p3 : Int) (p4 : Int) (p5 : Int) (p6 : Int) (p7 : Int) (p8 : Int) (p9 : Int) (p10 : Int) (p11 : Int) (p12 : Int) (p13 : Int) (p14 : Int) : l_laws_eqIntA7_2 (m0 + 1) p0 p1 p2 p3 p4 p5 p6 p7 p8 p9 p10 p11 p12 p13 p14 = 
  bif decide (p14 < 7) then
    bif inB p14 7 then
      bif inB p14 7 then
        bif !decide ((bif decide (p14 = (0 : Int)) then p0 else (bif decide (p14 = (1 : Int)) then p1 else (bif decide (p14 = (2 : Int)) then p2 else (bif decide (p14 = (3 : Int)) then p3 else (bif decide (p14 = (4 : Int)) then p4 else (bif decide (p14 = (5 : Int)) then p5 else p6)))))) = (bif decide (p14 = (0 : Int)) then p7 else (bif decide (p14 = (1 : Int)) then p8 else (bif decide (p14 = (2 : Int)) then p9 else (bif decide (p14 = (3 : Int)) then p10 else (bif decide (p14 = (4 : Int)) then p11 else (bif decide (p14 = (5 : Int)) then p12 else p13))))))) then
          some (false, ())
        else
          l_laws_eqIntA7_2 m0 p0 p1 p2 p3 p4 p5 p6 p7 p8 p9 p10 p11 p12 p13 (IntKind.wrap .i64 (p14 + 1))
      else none
    else none
  else
    some (true, ()) := by
  rewrite [h_laws_eqIntA7_2]
  exact e_laws_eqIntA7_2 N m0 p0 p1 p2 p3 p4 p5 p6 p7 p8 p9 p10 p11 p12 p13 p14

/- 5: loop.example/g01166/laws.FnExactPaintCounts -/
abbrev As_laws_FnExactPaintCounts : List ATy := [.data true T_Heap, .data false .bool]
abbrev R_laws_FnExactPaintCounts : List (Bool × Ty) := [(false, .bool)]
abbrev M_laws_FnExactPaintCounts : List RMode := []
abbrev Ft_laws_FnExactPaintCounts : Type := D_Heap × Bool × Unit → Option (Bool × Unit)
noncomputable def X_laws_FnExactPaintCounts (n : Nat) (F_laws_szHeap : Ft_laws_szHeap) (F_laws_toHeap : Ft_laws_toHeap) (F_laws_eqHeap : Ft_laws_eqHeap) (F_spec_PaintCounts : Ft_spec_PaintCounts) (F_impl_PaintCounts : Ft_impl_PaintCounts) (F_laws_eqIntA7 : Ft_laws_eqIntA7) : Ctx := { types := TT, globals := [], con := [(8, ⟨As_laws_szHeap, R_laws_szHeap, M_laws_szHeap, F_laws_szHeap⟩), (10, ⟨As_laws_toHeap, R_laws_toHeap, M_laws_toHeap, F_laws_toHeap⟩), (13, ⟨As_laws_eqHeap, R_laws_eqHeap, M_laws_eqHeap, F_laws_eqHeap⟩), (16, ⟨As_spec_PaintCounts, R_spec_PaintCounts, M_spec_PaintCounts, F_spec_PaintCounts⟩), (17, ⟨As_impl_PaintCounts, R_impl_PaintCounts, M_impl_PaintCounts, F_impl_PaintCounts⟩), (18, ⟨As_laws_eqIntA7, R_laws_eqIntA7, M_laws_eqIntA7, F_laws_eqIntA7⟩)], keep := [], results := [.tmp 4], ntmps := 45, n := n }
noncomputable def B_laws_FnExactPaintCounts : Code := (Try.f5.body).getD .skip
theorem e_laws_FnExactPaintCounts (n : Nat) (F_laws_szHeap : Ft_laws_szHeap) (F_laws_toHeap : Ft_laws_toHeap) (F_laws_eqHeap : Ft_laws_eqHeap) (F_spec_PaintCounts : Ft_spec_PaintCounts) (F_impl_PaintCounts : Ft_impl_PaintCounts) (F_laws_eqIntA7 : Ft_laws_eqIntA7) (a0 : D_Heap) (a1 : Bool) : runF (X_laws_FnExactPaintCounts n F_laws_szHeap F_laws_toHeap F_laws_eqHeap F_spec_PaintCounts F_impl_PaintCounts F_laws_eqIntA7) B_laws_FnExactPaintCounts As_laws_FnExactPaintCounts R_laws_FnExactPaintCounts M_laws_FnExactPaintCounts (a0, a1, ()) = 
  Option.bind (F_laws_szHeap (a0, 1048576, ())) fun r0 =>
  bif decide (r0.1 < 0) then
    some (true, ())
  else
    Option.bind (F_laws_toHeap (a0, ())) fun r2 =>
    Option.bind (F_spec_PaintCounts (r2.1, a1, ())) fun r3 =>
    Option.bind (F_laws_toHeap (a0, ())) fun r4 =>
    Option.bind (F_impl_PaintCounts (r4.1, a1, ())) fun r5 =>
    Option.bind (F_laws_eqIntA7 (r5.1, r3.1, ())) fun r6 =>
    bif !r6.1 then
      some (false, ())
    else
      bif !(r5.2.1 == r3.2.1) then
        some (false, ())
      else
        Option.bind (F_laws_toHeap (a0, ())) fun r9 =>
        Option.bind (F_laws_eqHeap (r4.1, r9.1, ())) fun r10 =>
        bif !r10.1 then
          some (false, ())
        else
          some (true, ()) := by kernel_rfl
noncomputable def P_laws_FnExactPaintCounts : Ft_laws_FnExactPaintCounts := hid (runF (X_laws_FnExactPaintCounts N P_laws_szHeap P_laws_toHeap P_laws_eqHeap P_spec_PaintCounts P_impl_PaintCounts P_laws_eqIntA7) B_laws_FnExactPaintCounts As_laws_FnExactPaintCounts R_laws_FnExactPaintCounts M_laws_FnExactPaintCounts)
theorem h_laws_FnExactPaintCounts : P_laws_FnExactPaintCounts = runF (X_laws_FnExactPaintCounts N P_laws_szHeap P_laws_toHeap P_laws_eqHeap P_spec_PaintCounts P_impl_PaintCounts P_laws_eqIntA7) B_laws_FnExactPaintCounts As_laws_FnExactPaintCounts R_laws_FnExactPaintCounts M_laws_FnExactPaintCounts := hid_eq _
noncomputable def C_laws_FnExactPaintCounts : Contract := ⟨As_laws_FnExactPaintCounts, R_laws_FnExactPaintCounts, M_laws_FnExactPaintCounts, P_laws_FnExactPaintCounts⟩
theorem s_laws_FnExactPaintCounts : Sound Try.prog GG 5 C_laws_FnExactPaintCounts := by
  unfold C_laws_FnExactPaintCounts; rw [h_laws_FnExactPaintCounts]
  exact sound_of_run (fn := Try.f5) hmix hstable (tyOK_of ttOK) (hglob (X_laws_FnExactPaintCounts N P_laws_szHeap P_laws_toHeap P_laws_eqHeap P_spec_PaintCounts P_impl_PaintCounts P_laws_eqIntA7)) (conOK_of (X := X_laws_FnExactPaintCounts N P_laws_szHeap P_laws_toHeap P_laws_eqHeap P_spec_PaintCounts P_impl_PaintCounts P_laws_eqIntA7) ⟨s_laws_szHeap, s_laws_toHeap, s_laws_eqHeap, s_spec_PaintCounts, s_impl_PaintCounts, s_laws_eqIntA7, trivial⟩) (mconOK_of (X := X_laws_FnExactPaintCounts N P_laws_szHeap P_laws_toHeap P_laws_eqHeap P_spec_PaintCounts P_impl_PaintCounts P_laws_eqIntA7) trivial) (by kernel_rfl) (by kernel_rfl) (by kernel_rfl) (by kernel_rfl) (by kernel_rfl) (of_decide_eq_true (by kernel_rfl))
theorem p_laws_FnExactPaintCounts (a0 : D_Heap) (a1 : Bool) : P_laws_FnExactPaintCounts (a0, a1, ()) = 
  Option.bind (P_laws_szHeap (a0, 1048576, ())) fun r0 =>
  bif decide (r0.1 < 0) then
    some (true, ())
  else
    Option.bind (P_laws_toHeap (a0, ())) fun r2 =>
    Option.bind (P_spec_PaintCounts (r2.1, a1, ())) fun r3 =>
    Option.bind (P_laws_toHeap (a0, ())) fun r4 =>
    Option.bind (P_impl_PaintCounts (r4.1, a1, ())) fun r5 =>
    Option.bind (P_laws_eqIntA7 (r5.1, r3.1, ())) fun r6 =>
    bif !r6.1 then
      some (false, ())
    else
      bif !(r5.2.1 == r3.2.1) then
        some (false, ())
      else
        Option.bind (P_laws_toHeap (a0, ())) fun r9 =>
        Option.bind (P_laws_eqHeap (r4.1, r9.1, ())) fun r10 =>
        bif !r10.1 then
          some (false, ())
        else
          some (true, ()) := by
  rewrite [h_laws_FnExactPaintCounts]
  exact e_laws_FnExactPaintCounts N P_laws_szHeap P_laws_toHeap P_laws_eqHeap P_spec_PaintCounts P_impl_PaintCounts P_laws_eqIntA7 a0 a1
end Go.VI
