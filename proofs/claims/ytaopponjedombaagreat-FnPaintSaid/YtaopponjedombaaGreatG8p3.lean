/- What the functions of the seat compute: part 3. -/
import Derived.Test.YtaopponjedombaaGreatG8p2
namespace Go.VI
open Go.Proofs
set_option maxRecDepth 100000

abbrev As_laws_FnPaint : List ATy := [.data false (.sl (.int .u8))]
abbrev R_laws_FnPaint : List (Bool × Ty) := [(false, .bool)]
abbrev M_laws_FnPaint : List RMode := []
abbrev Ft_laws_FnPaint : Type := (List Int) × Unit → Option (Bool × Unit)
noncomputable def X_laws_FnPaint (n : Nat) (F_laws_rBig : Ft_laws_rBig) (F_spec_DrawPaintCounts : Ft_spec_DrawPaintCounts) (F_impl_PaintCounts : Ft_impl_PaintCounts) (F_spec_PaintCounts : Ft_spec_PaintCounts) (F_impl_IsHeap : Ft_impl_IsHeap) (F_impl_UnpaintedFaces : Ft_impl_UnpaintedFaces) (F_spec_UnpaintedFaces : Ft_spec_UnpaintedFaces) (F_impl_PeelHeap : Ft_impl_PeelHeap) (F_spec_PeelHeap : Ft_spec_PeelHeap) (F_laws_rHeap : Ft_laws_rHeap) (F_impl_PeelCount : Ft_impl_PeelCount) (F_spec_PeelCount : Ft_spec_PeelCount) (F_spec_DrawPaintedFaces : Ft_spec_DrawPaintedFaces) (F_impl_PaintedFaces : Ft_impl_PaintedFaces) (F_spec_PaintedFaces : Ft_spec_PaintedFaces) (F_spec_DrawPeelDepth : Ft_spec_DrawPeelDepth) (F_impl_PeelDepth : Ft_impl_PeelDepth) (F_spec_PeelDepth : Ft_spec_PeelDepth) (F_spec_DrawFullCounts : Ft_spec_DrawFullCounts) (F_impl_FullCounts : Ft_impl_FullCounts) (F_spec_FullCounts : Ft_spec_FullCounts) (F_impl_ShellHeap : Ft_impl_ShellHeap) (F_spec_ShellHeap : Ft_spec_ShellHeap) (F_impl_SurfaceOf : Ft_impl_SurfaceOf) (F_impl_OutsideFaces : Ft_impl_OutsideFaces) : Ctx := { types := TT, globals := [], con := [(5, ⟨As_laws_rBig, R_laws_rBig, M_laws_rBig, F_laws_rBig⟩), (6, ⟨As_spec_DrawPaintCounts, R_spec_DrawPaintCounts, M_spec_DrawPaintCounts, F_spec_DrawPaintCounts⟩), (7, ⟨As_impl_PaintCounts, R_impl_PaintCounts, M_impl_PaintCounts, F_impl_PaintCounts⟩), (8, ⟨As_spec_PaintCounts, R_spec_PaintCounts, M_spec_PaintCounts, F_spec_PaintCounts⟩), (9, ⟨As_impl_IsHeap, R_impl_IsHeap, M_impl_IsHeap, F_impl_IsHeap⟩), (10, ⟨As_impl_UnpaintedFaces, R_impl_UnpaintedFaces, M_impl_UnpaintedFaces, F_impl_UnpaintedFaces⟩), (11, ⟨As_spec_UnpaintedFaces, R_spec_UnpaintedFaces, M_spec_UnpaintedFaces, F_spec_UnpaintedFaces⟩), (12, ⟨As_impl_PeelHeap, R_impl_PeelHeap, M_impl_PeelHeap, F_impl_PeelHeap⟩), (13, ⟨As_spec_PeelHeap, R_spec_PeelHeap, M_spec_PeelHeap, F_spec_PeelHeap⟩), (14, ⟨As_laws_rHeap, R_laws_rHeap, M_laws_rHeap, F_laws_rHeap⟩), (15, ⟨As_impl_PeelCount, R_impl_PeelCount, M_impl_PeelCount, F_impl_PeelCount⟩), (16, ⟨As_spec_PeelCount, R_spec_PeelCount, M_spec_PeelCount, F_spec_PeelCount⟩), (17, ⟨As_spec_DrawPaintedFaces, R_spec_DrawPaintedFaces, M_spec_DrawPaintedFaces, F_spec_DrawPaintedFaces⟩), (18, ⟨As_impl_PaintedFaces, R_impl_PaintedFaces, M_impl_PaintedFaces, F_impl_PaintedFaces⟩), (19, ⟨As_spec_PaintedFaces, R_spec_PaintedFaces, M_spec_PaintedFaces, F_spec_PaintedFaces⟩), (20, ⟨As_spec_DrawPeelDepth, R_spec_DrawPeelDepth, M_spec_DrawPeelDepth, F_spec_DrawPeelDepth⟩), (21, ⟨As_impl_PeelDepth, R_impl_PeelDepth, M_impl_PeelDepth, F_impl_PeelDepth⟩), (22, ⟨As_spec_PeelDepth, R_spec_PeelDepth, M_spec_PeelDepth, F_spec_PeelDepth⟩), (23, ⟨As_spec_DrawFullCounts, R_spec_DrawFullCounts, M_spec_DrawFullCounts, F_spec_DrawFullCounts⟩), (24, ⟨As_impl_FullCounts, R_impl_FullCounts, M_impl_FullCounts, F_impl_FullCounts⟩), (25, ⟨As_spec_FullCounts, R_spec_FullCounts, M_spec_FullCounts, F_spec_FullCounts⟩), (26, ⟨As_impl_ShellHeap, R_impl_ShellHeap, M_impl_ShellHeap, F_impl_ShellHeap⟩), (27, ⟨As_spec_ShellHeap, R_spec_ShellHeap, M_spec_ShellHeap, F_spec_ShellHeap⟩), (28, ⟨As_impl_SurfaceOf, R_impl_SurfaceOf, M_impl_SurfaceOf, F_impl_SurfaceOf⟩), (29, ⟨As_impl_OutsideFaces, R_impl_OutsideFaces, M_impl_OutsideFaces, F_impl_OutsideFaces⟩)], keep := [(49, ⟨[.box 3, .box 5, .box 13, .tmp 3, .tmp 4, .tmp 5, .tmp 9, .tmp 13, .tmp 17, .tmp 47, .tmp 48, .tmp 49], []⟩)], results := [.tmp 2], ntmps := 388, n := n }
noncomputable def B_laws_FnPaint : Code := (Tryz.f3.body).getD .skip
noncomputable def L_laws_FnPaint_49 (n : Nat) (F_laws_rBig : Ft_laws_rBig) (F_spec_DrawPaintCounts : Ft_spec_DrawPaintCounts) (F_impl_PaintCounts : Ft_impl_PaintCounts) (F_spec_PaintCounts : Ft_spec_PaintCounts) (F_impl_IsHeap : Ft_impl_IsHeap) (F_impl_UnpaintedFaces : Ft_impl_UnpaintedFaces) (F_spec_UnpaintedFaces : Ft_spec_UnpaintedFaces) (F_impl_PeelHeap : Ft_impl_PeelHeap) (F_spec_PeelHeap : Ft_spec_PeelHeap) (F_laws_rHeap : Ft_laws_rHeap) (F_impl_PeelCount : Ft_impl_PeelCount) (F_spec_PeelCount : Ft_spec_PeelCount) (F_spec_DrawPaintedFaces : Ft_spec_DrawPaintedFaces) (F_impl_PaintedFaces : Ft_impl_PaintedFaces) (F_spec_PaintedFaces : Ft_spec_PaintedFaces) (F_spec_DrawPeelDepth : Ft_spec_DrawPeelDepth) (F_impl_PeelDepth : Ft_impl_PeelDepth) (F_spec_PeelDepth : Ft_spec_PeelDepth) (F_spec_DrawFullCounts : Ft_spec_DrawFullCounts) (F_impl_FullCounts : Ft_impl_FullCounts) (F_spec_FullCounts : Ft_spec_FullCounts) (F_impl_ShellHeap : Ft_impl_ShellHeap) (F_spec_ShellHeap : Ft_spec_ShellHeap) (F_impl_SurfaceOf : Ft_impl_SurfaceOf) (F_impl_OutsideFaces : Ft_impl_OutsideFaces) (m0 : Nat) (p0 p1 p2 : Int) (p3 : List D_A3) (p4 p5 : Int) (p6 p7 : Int) (p8 p9 : Int) (p10 p11 : Int) (p12 p13 : Int) (p14 : List D_A3) (p15 : Bool) (p16 p17 : Int) (p18 p19 p20 : Int) : Option (denL R_laws_FnPaint) := loopF (X_laws_FnPaint n F_laws_rBig F_spec_DrawPaintCounts F_impl_PaintCounts F_spec_PaintCounts F_impl_IsHeap F_impl_UnpaintedFaces F_spec_UnpaintedFaces F_impl_PeelHeap F_spec_PeelHeap F_laws_rHeap F_impl_PeelCount F_spec_PeelCount F_spec_DrawPaintedFaces F_impl_PaintedFaces F_spec_PaintedFaces F_spec_DrawPeelDepth F_impl_PeelDepth F_spec_PeelDepth F_spec_DrawFullCounts F_impl_FullCounts F_spec_FullCounts F_impl_ShellHeap F_spec_ShellHeap F_impl_SurfaceOf F_impl_OutsideFaces) B_laws_FnPaint R_laws_FnPaint M_laws_FnPaint 49 [m0] [(.ver, .num 1), (.box 3, .box 0 false [.int .i64 p0, .int .i64 p1, .int .i64 p2, .own 38 T_A3 0 p3]), (.box 5, .box 0 false [.int .i64 p4, .int .i64 p5, .int .i64 p6, .int .i64 p7, .int .i64 p8, .int .i64 p9, .int .i64 p10]), (.box 13, .box 0 false [.int .i64 p11, .int .i64 p12, .int .i64 p13, .own 38 T_A3 0 p14]), (.tmp 3, .val false [.addr 3 0 0]), (.tmp 4, .val false [.bool p15]), (.tmp 5, .val false [.addr 5 0 0]), (.tmp 9, .val false [.int .i64 p16]), (.tmp 13, .val false [.addr 13 0 0]), (.tmp 17, .val false [.int .i64 p17]), (.tmp 47, .val false [.int .i64 p18]), (.tmp 48, .val false [.int .i64 p19]), (.tmp 49, .val false [.int .i64 p20])]
theorem e_laws_FnPaint (n : Nat) (F_laws_rBig : Ft_laws_rBig) (F_spec_DrawPaintCounts : Ft_spec_DrawPaintCounts) (F_impl_PaintCounts : Ft_impl_PaintCounts) (F_spec_PaintCounts : Ft_spec_PaintCounts) (F_impl_IsHeap : Ft_impl_IsHeap) (F_impl_UnpaintedFaces : Ft_impl_UnpaintedFaces) (F_spec_UnpaintedFaces : Ft_spec_UnpaintedFaces) (F_impl_PeelHeap : Ft_impl_PeelHeap) (F_spec_PeelHeap : Ft_spec_PeelHeap) (F_laws_rHeap : Ft_laws_rHeap) (F_impl_PeelCount : Ft_impl_PeelCount) (F_spec_PeelCount : Ft_spec_PeelCount) (F_spec_DrawPaintedFaces : Ft_spec_DrawPaintedFaces) (F_impl_PaintedFaces : Ft_impl_PaintedFaces) (F_spec_PaintedFaces : Ft_spec_PaintedFaces) (F_spec_DrawPeelDepth : Ft_spec_DrawPeelDepth) (F_impl_PeelDepth : Ft_impl_PeelDepth) (F_spec_PeelDepth : Ft_spec_PeelDepth) (F_spec_DrawFullCounts : Ft_spec_DrawFullCounts) (F_impl_FullCounts : Ft_impl_FullCounts) (F_spec_FullCounts : Ft_spec_FullCounts) (F_impl_ShellHeap : Ft_impl_ShellHeap) (F_spec_ShellHeap : Ft_spec_ShellHeap) (F_impl_SurfaceOf : Ft_impl_SurfaceOf) (F_impl_OutsideFaces : Ft_impl_OutsideFaces) (a0 : List Int) : runF (X_laws_FnPaint n F_laws_rBig F_spec_DrawPaintCounts F_impl_PaintCounts F_spec_PaintCounts F_impl_IsHeap F_impl_UnpaintedFaces F_spec_UnpaintedFaces F_impl_PeelHeap F_spec_PeelHeap F_laws_rHeap F_impl_PeelCount F_spec_PeelCount F_spec_DrawPaintedFaces F_impl_PaintedFaces F_spec_PaintedFaces F_spec_DrawPeelDepth F_impl_PeelDepth F_spec_PeelDepth F_spec_DrawFullCounts F_impl_FullCounts F_spec_FullCounts F_impl_ShellHeap F_spec_ShellHeap F_impl_SurfaceOf F_impl_OutsideFaces) B_laws_FnPaint As_laws_FnPaint R_laws_FnPaint M_laws_FnPaint (a0, ()) = 
 Option.bind (F_laws_rBig (a0, ())) fun r0 =>
 bif r0.1 then
 some (true, ())
 else
 Option.bind (F_spec_DrawPaintCounts (a0, ())) fun r2 =>
 Option.bind (F_impl_PaintCounts (r2.1, r2.2.1, ())) fun r3 =>
 Option.bind (F_spec_PaintCounts (r2.1, r2.2.1, ())) fun r4 =>
 bif !(decide (r3.1.1 = r4.1.1) && (decide (r3.1.2.1 = r4.1.2.1) && (decide (r3.1.2.2.1 = r4.1.2.2.1) && (decide (r3.1.2.2.2.1 = r4.1.2.2.2.1) && (decide (r3.1.2.2.2.2.1 = r4.1.2.2.2.2.1) && (decide (r3.1.2.2.2.2.2.1 = r4.1.2.2.2.2.2.1) && (decide (r3.1.2.2.2.2.2.2.1 = r4.1.2.2.2.2.2.2.1) && true))))))) then
 some (false, ())
 else
 bif !(r3.2.1 == r4.2.1) then
 some (false, ())
 else
 Option.bind (F_impl_IsHeap (r2.1, ())) fun r7 =>
 bif !(r3.2.1 == r7.1) then
 some (false, ())
 else
 Option.bind (F_impl_UnpaintedFaces (r2.1, r2.2.1, ())) fun r9 =>
 Option.bind (F_spec_UnpaintedFaces (r2.1, r2.2.1, ())) fun r10 =>
 bif !decide (r9.1 = r10.1) then
 some (false, ())
 else
 bif !(r9.2.1 == r10.2.1) then
 some (false, ())
 else
 bif !(r9.2.1 == r3.2.1) then
 some (false, ())
 else
 Option.bind (F_impl_PeelHeap (r2.1, ())) fun r14 =>
 Option.bind (F_spec_PeelHeap (r2.1, ())) fun r15 =>
 bif !(r14.2.1 == r15.2.1) then
 some (false, ())
 else
 bif !(r14.2.1 == r3.2.1) then
 some (false, ())
 else
 Option.bind (F_laws_rHeap (r14.1, r15.1, ())) fun r18 =>
 bif !r18.1 then
 some (false, ())
 else
 Option.bind (F_impl_PeelCount (r2.1, ())) fun r20 =>
 Option.bind (F_spec_PeelCount (r2.1, ())) fun r21 =>
 bif !decide (r20.1 = r21.1) then
 some (false, ())
 else
 bif !(r20.2.1 == r21.2.1) then
 some (false, ())
 else
 bif !(r20.2.1 == r3.2.1) then
 some (false, ())
 else
 Option.bind (F_spec_DrawPaintedFaces (a0, ())) fun r25 =>
 Option.bind (F_impl_PaintedFaces (r25.1, r25.2.1, r25.2.2.1, ())) fun r26 =>
 Option.bind (F_spec_PaintedFaces (r25.1, r25.2.1, r25.2.2.1, ())) fun r27 =>
 bif !decide (r26.1 = r27.1) then
 some (false, ())
 else
 bif !(r26.2.1 == r27.2.1) then
 some (false, ())
 else
 Option.bind (F_spec_DrawPeelDepth (a0, ())) fun r30 =>
 Option.bind (F_impl_PeelDepth (r30.1, r30.2.1, ())) fun r31 =>
 Option.bind (F_spec_PeelDepth (r30.1, r30.2.1, ())) fun r32 =>
 bif !decide (r31.1 = r32.1) then
 some (false, ())
 else
 bif !(r31.2.1 == r32.2.1) then
 some (false, ())
 else
 Option.bind (F_spec_DrawFullCounts (a0, ())) fun r35 =>
 Option.bind (F_impl_FullCounts (r35.1, r35.2.1, r35.2.2.1, ())) fun r36 =>
 Option.bind (F_spec_FullCounts (r35.1, r35.2.1, r35.2.2.1, ())) fun r37 =>
 bif !(decide (r36.1.1 = r37.1.1) && (decide (r36.1.2.1 = r37.1.2.1) && (decide (r36.1.2.2.1 = r37.1.2.2.1) && (decide (r36.1.2.2.2.1 = r37.1.2.2.2.1) && (decide (r36.1.2.2.2.2.1 = r37.1.2.2.2.2.1) && (decide (r36.1.2.2.2.2.2.1 = r37.1.2.2.2.2.2.1) && (decide (r36.1.2.2.2.2.2.2.1 = r37.1.2.2.2.2.2.2.1) && true))))))) then
 some (false, ())
 else
 bif !(r36.2.1 == r37.2.1) then
 some (false, ())
 else
 Option.bind (F_impl_ShellHeap (r35.1, r35.2.1, r35.2.2.1, ())) fun r40 =>
 Option.bind (F_spec_ShellHeap (r35.1, r35.2.1, r35.2.2.1, ())) fun r41 =>
 bif !(r40.2.1 == r41.2.1) then
 some (false, ())
 else
 bif !(r40.2.1 == r36.2.1) then
 some (false, ())
 else
 Option.bind (F_laws_rHeap (r40.1, r41.1, ())) fun r44 =>
 bif !r44.1 then
 some (false, ())
 else
 bif r36.2.1 then
 bif !decide ((IntKind.wrap .i64 ((List.length r40.1.2.2.2.1 : Int) + r36.1.1)) = (IntKind.wrap .i64 ((IntKind.wrap .i64 (r35.1 * r35.2.1)) * r35.2.2.1))) then
 some (false, ())
 else
 bif r31.2.1 then
 Option.bind (F_impl_PeelCount (r30.1, ())) fun r49 =>
 bif !r49.2.1 then
 some (false, ())
 else
 bif decide (r31.1 < 1) then
 some (false, ())
 else
 bif decide (r31.1 > r49.1) then
 some (false, ())
 else
 bif !r3.2.1 then
 some (true, ())
 else
 L_laws_FnPaint_49 n F_laws_rBig F_spec_DrawPaintCounts F_impl_PaintCounts F_spec_PaintCounts F_impl_IsHeap F_impl_UnpaintedFaces F_spec_UnpaintedFaces F_impl_PeelHeap F_spec_PeelHeap F_laws_rHeap F_impl_PeelCount F_spec_PeelCount F_spec_DrawPaintedFaces F_impl_PaintedFaces F_spec_PaintedFaces F_spec_DrawPeelDepth F_impl_PeelDepth F_spec_PeelDepth F_spec_DrawFullCounts F_impl_FullCounts F_spec_FullCounts F_impl_ShellHeap F_spec_ShellHeap F_impl_SurfaceOf F_impl_OutsideFaces n r2.1.1 r2.1.2.1 r2.1.2.2.1 r2.1.2.2.2.1 r3.1.1 r3.1.2.1 r3.1.2.2.1 r3.1.2.2.2.1 r3.1.2.2.2.2.1 r3.1.2.2.2.2.2.1 r3.1.2.2.2.2.2.2.1 r14.1.1 r14.1.2.1 r14.1.2.2.1 r14.1.2.2.2.1 r2.2.1 r9.1 r20.1 0 0 0
 else
 bif !r3.2.1 then
 some (true, ())
 else
 L_laws_FnPaint_49 n F_laws_rBig F_spec_DrawPaintCounts F_impl_PaintCounts F_spec_PaintCounts F_impl_IsHeap F_impl_UnpaintedFaces F_spec_UnpaintedFaces F_impl_PeelHeap F_spec_PeelHeap F_laws_rHeap F_impl_PeelCount F_spec_PeelCount F_spec_DrawPaintedFaces F_impl_PaintedFaces F_spec_PaintedFaces F_spec_DrawPeelDepth F_impl_PeelDepth F_spec_PeelDepth F_spec_DrawFullCounts F_impl_FullCounts F_spec_FullCounts F_impl_ShellHeap F_spec_ShellHeap F_impl_SurfaceOf F_impl_OutsideFaces n r2.1.1 r2.1.2.1 r2.1.2.2.1 r2.1.2.2.2.1 r3.1.1 r3.1.2.1 r3.1.2.2.1 r3.1.2.2.2.1 r3.1.2.2.2.2.1 r3.1.2.2.2.2.2.1 r3.1.2.2.2.2.2.2.1 r14.1.1 r14.1.2.1 r14.1.2.2.1 r14.1.2.2.2.1 r2.2.1 r9.1 r20.1 0 0 0
 else
 bif r31.2.1 then
 Option.bind (F_impl_PeelCount (r30.1, ())) fun r48 =>
 bif !r48.2.1 then
 some (false, ())
 else
 bif decide (r31.1 < 1) then
 some (false, ())
 else
 bif decide (r31.1 > r48.1) then
 some (false, ())
 else
 bif !r3.2.1 then
 some (true, ())
 else
 L_laws_FnPaint_49 n F_laws_rBig F_spec_DrawPaintCounts F_impl_PaintCounts F_spec_PaintCounts F_impl_IsHeap F_impl_UnpaintedFaces F_spec_UnpaintedFaces F_impl_PeelHeap F_spec_PeelHeap F_laws_rHeap F_impl_PeelCount F_spec_PeelCount F_spec_DrawPaintedFaces F_impl_PaintedFaces F_spec_PaintedFaces F_spec_DrawPeelDepth F_impl_PeelDepth F_spec_PeelDepth F_spec_DrawFullCounts F_impl_FullCounts F_spec_FullCounts F_impl_ShellHeap F_spec_ShellHeap F_impl_SurfaceOf F_impl_OutsideFaces n r2.1.1 r2.1.2.1 r2.1.2.2.1 r2.1.2.2.2.1 r3.1.1 r3.1.2.1 r3.1.2.2.1 r3.1.2.2.2.1 r3.1.2.2.2.2.1 r3.1.2.2.2.2.2.1 r3.1.2.2.2.2.2.2.1 r14.1.1 r14.1.2.1 r14.1.2.2.1 r14.1.2.2.2.1 r2.2.1 r9.1 r20.1 0 0 0
 else
 bif !r3.2.1 then
 some (true, ())
 else
 L_laws_FnPaint_49 n F_laws_rBig F_spec_DrawPaintCounts F_impl_PaintCounts F_spec_PaintCounts F_impl_IsHeap F_impl_UnpaintedFaces F_spec_UnpaintedFaces F_impl_PeelHeap F_spec_PeelHeap F_laws_rHeap F_impl_PeelCount F_spec_PeelCount F_spec_DrawPaintedFaces F_impl_PaintedFaces F_spec_PaintedFaces F_spec_DrawPeelDepth F_impl_PeelDepth F_spec_PeelDepth F_spec_DrawFullCounts F_impl_FullCounts F_spec_FullCounts F_impl_ShellHeap F_spec_ShellHeap F_impl_SurfaceOf F_impl_OutsideFaces n r2.1.1 r2.1.2.1 r2.1.2.2.1 r2.1.2.2.2.1 r3.1.1 r3.1.2.1 r3.1.2.2.1 r3.1.2.2.2.1 r3.1.2.2.2.2.1 r3.1.2.2.2.2.2.1 r3.1.2.2.2.2.2.2.1 r14.1.1 r14.1.2.1 r14.1.2.2.1 r14.1.2.2.2.1 r2.2.1 r9.1 r20.1 0 0 0 := by kernel_rfl
theorem e_laws_FnPaint_49 (n : Nat) (F_laws_rBig : Ft_laws_rBig) (F_spec_DrawPaintCounts : Ft_spec_DrawPaintCounts) (F_impl_PaintCounts : Ft_impl_PaintCounts) (F_spec_PaintCounts : Ft_spec_PaintCounts) (F_impl_IsHeap : Ft_impl_IsHeap) (F_impl_UnpaintedFaces : Ft_impl_UnpaintedFaces) (F_spec_UnpaintedFaces : Ft_spec_UnpaintedFaces) (F_impl_PeelHeap : Ft_impl_PeelHeap) (F_spec_PeelHeap : Ft_spec_PeelHeap) (F_laws_rHeap : Ft_laws_rHeap) (F_impl_PeelCount : Ft_impl_PeelCount) (F_spec_PeelCount : Ft_spec_PeelCount) (F_spec_DrawPaintedFaces : Ft_spec_DrawPaintedFaces) (F_impl_PaintedFaces : Ft_impl_PaintedFaces) (F_spec_PaintedFaces : Ft_spec_PaintedFaces) (F_spec_DrawPeelDepth : Ft_spec_DrawPeelDepth) (F_impl_PeelDepth : Ft_impl_PeelDepth) (F_spec_PeelDepth : Ft_spec_PeelDepth) (F_spec_DrawFullCounts : Ft_spec_DrawFullCounts) (F_impl_FullCounts : Ft_impl_FullCounts) (F_spec_FullCounts : Ft_spec_FullCounts) (F_impl_ShellHeap : Ft_impl_ShellHeap) (F_spec_ShellHeap : Ft_spec_ShellHeap) (F_impl_SurfaceOf : Ft_impl_SurfaceOf) (F_impl_OutsideFaces : Ft_impl_OutsideFaces) (m0 : Nat) (p0 p1 p2 : Int) (p3 : List D_A3) (p4 p5 : Int) (p6 p7 : Int) (p8 p9 : Int) (p10 p11 : Int) (p12 p13 : Int) (p14 : List D_A3) (p15 : Bool) (p16 p17 : Int) (p18 p19 p20 : Int) : L_laws_FnPaint_49 n F_laws_rBig F_spec_DrawPaintCounts F_impl_PaintCounts F_spec_PaintCounts F_impl_IsHeap F_impl_UnpaintedFaces F_spec_UnpaintedFaces F_impl_PeelHeap F_spec_PeelHeap F_laws_rHeap F_impl_PeelCount F_spec_PeelCount F_spec_DrawPaintedFaces F_impl_PaintedFaces F_spec_PaintedFaces F_spec_DrawPeelDepth F_impl_PeelDepth F_spec_PeelDepth F_spec_DrawFullCounts F_impl_FullCounts F_spec_FullCounts F_impl_ShellHeap F_spec_ShellHeap F_impl_SurfaceOf F_impl_OutsideFaces (m0 + 1) p0 p1 p2 p3 p4 p5 p6 p7 p8 p9 p10 p11 p12 p13 p14 p15 p16 p17 p18 p19 p20 = 
 bif decide (p20 < 7) then
 bif inB p20 7 then
 bif inB p20 7 then
 L_laws_FnPaint_49 n F_laws_rBig F_spec_DrawPaintCounts F_impl_PaintCounts F_spec_PaintCounts F_impl_IsHeap F_impl_UnpaintedFaces F_spec_UnpaintedFaces F_impl_PeelHeap F_spec_PeelHeap F_laws_rHeap F_impl_PeelCount F_spec_PeelCount F_spec_DrawPaintedFaces F_impl_PaintedFaces F_spec_PaintedFaces F_spec_DrawPeelDepth F_impl_PeelDepth F_spec_PeelDepth F_spec_DrawFullCounts F_impl_FullCounts F_spec_FullCounts F_impl_ShellHeap F_spec_ShellHeap F_impl_SurfaceOf F_impl_OutsideFaces m0 p0 p1 p2 p3 p4 p5 p6 p7 p8 p9 p10 p11 p12 p13 p14 p15 p16 p17 (IntKind.wrap .i64 (p18 + (bif decide (p20 = (0 : Int)) then p4 else (bif decide (p20 = (1 : Int)) then p5 else (bif decide (p20 = (2 : Int)) then p6 else (bif decide (p20 = (3 : Int)) then p7 else (bif decide (p20 = (4 : Int)) then p8 else (bif decide (p20 = (5 : Int)) then p9 else p10)))))))) (IntKind.wrap .i64 (p19 + (IntKind.wrap .i64 (p20 * (bif decide (p20 = (0 : Int)) then p4 else (bif decide (p20 = (1 : Int)) then p5 else (bif decide (p20 = (2 : Int)) then p6 else (bif decide (p20 = (3 : Int)) then p7 else (bif decide (p20 = (4 : Int)) then p8 else (bif decide (p20 = (5 : Int)) then p9 else p10)))))))))) (IntKind.wrap .i64 (p20 + 1))
 else none
 else none
 else
 Option.bind (F_impl_SurfaceOf ((p0, (p1, (p2, (p3, ())))), ())) fun r1 =>
 Option.bind (F_impl_OutsideFaces ((p0, (p1, (p2, (p3, ())))), ())) fun r2 =>
 Option.bind (F_impl_PeelCount ((p11, (p12, (p13, (p14, ())))), ())) fun r3 =>
 bif p15 then
 bif !r1.2.1 then
 some (false, ())
 else
 bif !r2.2.1 then
 some (false, ())
 else
 bif !r3.2.1 then
 some (false, ())
 else
 bif !decide (p18 = (List.length p3 : Int)) then
 some (false, ())
 else
 bif !decide (p19 = r2.1) then
 some (false, ())
 else
 bif !decide ((IntKind.wrap .i64 (p16 + p19)) = (IntKind.wrap .i64 (6 * p18))) then
 some (false, ())
 else
 bif decide (p17 = 0) then
 bif decide (p18 = 0) then
 some (true, ())
 else
 bif decide (p17 = (IntKind.wrap .i64 (r3.1 + 1))) then
 some (decide ((List.length p14 : Int) < p18), ())
 else
 some (false, ())
 else
 bif decide (p17 = (IntKind.wrap .i64 (r3.1 + 1))) then
 some (decide ((List.length p14 : Int) < p18), ())
 else
 some (false, ())
 else
 bif !r1.2.1 then
 some (false, ())
 else
 bif !r2.2.1 then
 some (false, ())
 else
 bif !r3.2.1 then
 some (false, ())
 else
 bif !decide (p18 = (List.length p3 : Int)) then
 some (false, ())
 else
 bif !decide (p19 = r1.1) then
 some (false, ())
 else
 bif !decide ((IntKind.wrap .i64 (p16 + p19)) = (IntKind.wrap .i64 (6 * p18))) then
 some (false, ())
 else
 bif decide (p17 = 0) then
 bif decide (p18 = 0) then
 some (true, ())
 else
 bif decide (p17 = (IntKind.wrap .i64 (r3.1 + 1))) then
 some (decide ((List.length p14 : Int) < p18), ())
 else
 some (false, ())
 else
 bif decide (p17 = (IntKind.wrap .i64 (r3.1 + 1))) then
 some (decide ((List.length p14 : Int) < p18), ())
 else
 some (false, ()) := by kernel_rfl
noncomputable def P_laws_FnPaint : Ft_laws_FnPaint := hid (runF (X_laws_FnPaint N P_laws_rBig P_spec_DrawPaintCounts P_impl_PaintCounts P_spec_PaintCounts P_impl_IsHeap P_impl_UnpaintedFaces P_spec_UnpaintedFaces P_impl_PeelHeap P_spec_PeelHeap P_laws_rHeap P_impl_PeelCount P_spec_PeelCount P_spec_DrawPaintedFaces P_impl_PaintedFaces P_spec_PaintedFaces P_spec_DrawPeelDepth P_impl_PeelDepth P_spec_PeelDepth P_spec_DrawFullCounts P_impl_FullCounts P_spec_FullCounts P_impl_ShellHeap P_spec_ShellHeap P_impl_SurfaceOf P_impl_OutsideFaces) B_laws_FnPaint As_laws_FnPaint R_laws_FnPaint M_laws_FnPaint)
theorem h_laws_FnPaint : P_laws_FnPaint = runF (X_laws_FnPaint N P_laws_rBig P_spec_DrawPaintCounts P_impl_PaintCounts P_spec_PaintCounts P_impl_IsHeap P_impl_UnpaintedFaces P_spec_UnpaintedFaces P_impl_PeelHeap P_spec_PeelHeap P_laws_rHeap P_impl_PeelCount P_spec_PeelCount P_spec_DrawPaintedFaces P_impl_PaintedFaces P_spec_PaintedFaces P_spec_DrawPeelDepth P_impl_PeelDepth P_spec_PeelDepth P_spec_DrawFullCounts P_impl_FullCounts P_spec_FullCounts P_impl_ShellHeap P_spec_ShellHeap P_impl_SurfaceOf P_impl_OutsideFaces) B_laws_FnPaint As_laws_FnPaint R_laws_FnPaint M_laws_FnPaint := hid_eq _
noncomputable def C_laws_FnPaint : Contract := ⟨As_laws_FnPaint, R_laws_FnPaint, M_laws_FnPaint, P_laws_FnPaint⟩
theorem s_laws_FnPaint : Sound Tryz.prog GG 3 C_laws_FnPaint := by
 unfold C_laws_FnPaint; rw [h_laws_FnPaint]
 exact sound_of_run (fn := Tryz.f3) hmix hstable (tyOK_of ttOK) (hglob (X_laws_FnPaint N P_laws_rBig P_spec_DrawPaintCounts P_impl_PaintCounts P_spec_PaintCounts P_impl_IsHeap P_impl_UnpaintedFaces P_spec_UnpaintedFaces P_impl_PeelHeap P_spec_PeelHeap P_laws_rHeap P_impl_PeelCount P_spec_PeelCount P_spec_DrawPaintedFaces P_impl_PaintedFaces P_spec_PaintedFaces P_spec_DrawPeelDepth P_impl_PeelDepth P_spec_PeelDepth P_spec_DrawFullCounts P_impl_FullCounts P_spec_FullCounts P_impl_ShellHeap P_spec_ShellHeap P_impl_SurfaceOf P_impl_OutsideFaces)) (conOK_of (X := X_laws_FnPaint N P_laws_rBig P_spec_DrawPaintCounts P_impl_PaintCounts P_spec_PaintCounts P_impl_IsHeap P_impl_UnpaintedFaces P_spec_UnpaintedFaces P_impl_PeelHeap P_spec_PeelHeap P_laws_rHeap P_impl_PeelCount P_spec_PeelCount P_spec_DrawPaintedFaces P_impl_PaintedFaces P_spec_PaintedFaces P_spec_DrawPeelDepth P_impl_PeelDepth P_spec_PeelDepth P_spec_DrawFullCounts P_impl_FullCounts P_spec_FullCounts P_impl_ShellHeap P_spec_ShellHeap P_impl_SurfaceOf P_impl_OutsideFaces) ⟨s_laws_rBig, s_spec_DrawPaintCounts, s_impl_PaintCounts, s_spec_PaintCounts, s_impl_IsHeap, s_impl_UnpaintedFaces, s_spec_UnpaintedFaces, s_impl_PeelHeap, s_spec_PeelHeap, s_laws_rHeap, s_impl_PeelCount, s_spec_PeelCount, s_spec_DrawPaintedFaces, s_impl_PaintedFaces, s_spec_PaintedFaces, s_spec_DrawPeelDepth, s_impl_PeelDepth, s_spec_PeelDepth, s_spec_DrawFullCounts, s_impl_FullCounts, s_spec_FullCounts, s_impl_ShellHeap, s_spec_ShellHeap, s_impl_SurfaceOf, s_impl_OutsideFaces, trivial⟩) (mconOK_of (X := X_laws_FnPaint N P_laws_rBig P_spec_DrawPaintCounts P_impl_PaintCounts P_spec_PaintCounts P_impl_IsHeap P_impl_UnpaintedFaces P_spec_UnpaintedFaces P_impl_PeelHeap P_spec_PeelHeap P_laws_rHeap P_impl_PeelCount P_spec_PeelCount P_spec_DrawPaintedFaces P_impl_PaintedFaces P_spec_PaintedFaces P_spec_DrawPeelDepth P_impl_PeelDepth P_spec_PeelDepth P_spec_DrawFullCounts P_impl_FullCounts P_spec_FullCounts P_impl_ShellHeap P_spec_ShellHeap P_impl_SurfaceOf P_impl_OutsideFaces) trivial) (by kernel_rfl) (by kernel_rfl) (by kernel_rfl) (by kernel_rfl) (by kernel_rfl) (of_decide_eq_true (by kernel_rfl))
noncomputable def l_laws_FnPaint_49 : Nat → Int → Int → Int → (List D_A3) → Int → Int → Int → Int → Int → Int → Int → Int → Int → Int → (List D_A3) → Bool → Int → Int → Int → Int → Int → Option (denL R_laws_FnPaint) := hid (fun m0 p0 p1 p2 p3 p4 p5 p6 p7 p8 p9 p10 p11 p12 p13 p14 p15 p16 p17 p18 p19 p20 => L_laws_FnPaint_49 N P_laws_rBig P_spec_DrawPaintCounts P_impl_PaintCounts P_spec_PaintCounts P_impl_IsHeap P_impl_UnpaintedFaces P_spec_UnpaintedFaces P_impl_PeelHeap P_spec_PeelHeap P_laws_rHeap P_impl_PeelCount P_spec_PeelCount P_spec_DrawPaintedFaces P_impl_PaintedFaces P_spec_PaintedFaces P_spec_DrawPeelDepth P_impl_PeelDepth P_spec_PeelDepth P_spec_DrawFullCounts P_impl_FullCounts P_spec_FullCounts P_impl_ShellHeap P_spec_ShellHeap P_impl_SurfaceOf P_impl_OutsideFaces m0 p0 p1 p2 p3 p4 p5 p6 p7 p8 p9 p10 p11 p12 p13 p14 p15 p16 p17 p18 p19 p20)
theorem h_laws_FnPaint_49 : l_laws_FnPaint_49 = fun m0 p0 p1 p2 p3 p4 p5 p6 p7 p8 p9 p10 p11 p12 p13 p14 p15 p16 p17 p18 p19 p20 => L_laws_FnPaint_49 N P_laws_rBig P_spec_DrawPaintCounts P_impl_PaintCounts P_spec_PaintCounts P_impl_IsHeap P_impl_UnpaintedFaces P_spec_UnpaintedFaces P_impl_PeelHeap P_spec_PeelHeap P_laws_rHeap P_impl_PeelCount P_spec_PeelCount P_spec_DrawPaintedFaces P_impl_PaintedFaces P_spec_PaintedFaces P_spec_DrawPeelDepth P_impl_PeelDepth P_spec_PeelDepth P_spec_DrawFullCounts P_impl_FullCounts P_spec_FullCounts P_impl_ShellHeap P_spec_ShellHeap P_impl_SurfaceOf P_impl_OutsideFaces m0 p0 p1 p2 p3 p4 p5 p6 p7 p8 p9 p10 p11 p12 p13 p14 p15 p16 p17 p18 p19 p20 := hid_eq _
theorem p_laws_FnPaint (a0 : List Int) : P_laws_FnPaint (a0, ()) = 
 Option.bind (P_laws_rBig (a0, ())) fun r0 =>
 bif r0.1 then
 some (true, ())
 else
 Option.bind (P_spec_DrawPaintCounts (a0, ())) fun r2 =>
 Option.bind (P_impl_PaintCounts (r2.1, r2.2.1, ())) fun r3 =>
 Option.bind (P_spec_PaintCounts (r2.1, r2.2.1, ())) fun r4 =>
 bif !(decide (r3.1.1 = r4.1.1) && (decide (r3.1.2.1 = r4.1.2.1) && (decide (r3.1.2.2.1 = r4.1.2.2.1) && (decide (r3.1.2.2.2.1 = r4.1.2.2.2.1) && (decide (r3.1.2.2.2.2.1 = r4.1.2.2.2.2.1) && (decide (r3.1.2.2.2.2.2.1 = r4.1.2.2.2.2.2.1) && (decide (r3.1.2.2.2.2.2.2.1 = r4.1.2.2.2.2.2.2.1) && true))))))) then
 some (false, ())
 else
 bif !(r3.2.1 == r4.2.1) then
 some (false, ())
 else
 Option.bind (P_impl_IsHeap (r2.1, ())) fun r7 =>
 bif !(r3.2.1 == r7.1) then
 some (false, ())
 else
 Option.bind (P_impl_UnpaintedFaces (r2.1, r2.2.1, ())) fun r9 =>
 Option.bind (P_spec_UnpaintedFaces (r2.1, r2.2.1, ())) fun r10 =>
 bif !decide (r9.1 = r10.1) then
 some (false, ())
 else
 bif !(r9.2.1 == r10.2.1) then
 some (false, ())
 else
 bif !(r9.2.1 == r3.2.1) then
 some (false, ())
 else
 Option.bind (P_impl_PeelHeap (r2.1, ())) fun r14 =>
 Option.bind (P_spec_PeelHeap (r2.1, ())) fun r15 =>
 bif !(r14.2.1 == r15.2.1) then
 some (false, ())
 else
 bif !(r14.2.1 == r3.2.1) then
 some (false, ())
 else
 Option.bind (P_laws_rHeap (r14.1, r15.1, ())) fun r18 =>
 bif !r18.1 then
 some (false, ())
 else
 Option.bind (P_impl_PeelCount (r2.1, ())) fun r20 =>
 Option.bind (P_spec_PeelCount (r2.1, ())) fun r21 =>
 bif !decide (r20.1 = r21.1) then
 some (false, ())
 else
 bif !(r20.2.1 == r21.2.1) then
 some (false, ())
 else
 bif !(r20.2.1 == r3.2.1) then
 some (false, ())
 else
 Option.bind (P_spec_DrawPaintedFaces (a0, ())) fun r25 =>
 Option.bind (P_impl_PaintedFaces (r25.1, r25.2.1, r25.2.2.1, ())) fun r26 =>
 Option.bind (P_spec_PaintedFaces (r25.1, r25.2.1, r25.2.2.1, ())) fun r27 =>
 bif !decide (r26.1 = r27.1) then
 some (false, ())
 else
 bif !(r26.2.1 == r27.2.1) then
 some (false, ())
 else
 Option.bind (P_spec_DrawPeelDepth (a0, ())) fun r30 =>
 Option.bind (P_impl_PeelDepth (r30.1, r30.2.1, ())) fun r31 =>
 Option.bind (P_spec_PeelDepth (r30.1, r30.2.1, ())) fun r32 =>
 bif !decide (r31.1 = r32.1) then
 some (false, ())
 else
 bif !(r31.2.1 == r32.2.1) then
 some (false, ())
 else
 Option.bind (P_spec_DrawFullCounts (a0, ())) fun r35 =>
 Option.bind (P_impl_FullCounts (r35.1, r35.2.1, r35.2.2.1, ())) fun r36 =>
 Option.bind (P_spec_FullCounts (r35.1, r35.2.1, r35.2.2.1, ())) fun r37 =>
 bif !(decide (r36.1.1 = r37.1.1) && (decide (r36.1.2.1 = r37.1.2.1) && (decide (r36.1.2.2.1 = r37.1.2.2.1) && (decide (r36.1.2.2.2.1 = r37.1.2.2.2.1) && (decide (r36.1.2.2.2.2.1 = r37.1.2.2.2.2.1) && (decide (r36.1.2.2.2.2.2.1 = r37.1.2.2.2.2.2.1) && (decide (r36.1.2.2.2.2.2.2.1 = r37.1.2.2.2.2.2.2.1) && true))))))) then
 some (false, ())
 else
 bif !(r36.2.1 == r37.2.1) then
 some (false, ())
 else
 Option.bind (P_impl_ShellHeap (r35.1, r35.2.1, r35.2.2.1, ())) fun r40 =>
 Option.bind (P_spec_ShellHeap (r35.1, r35.2.1, r35.2.2.1, ())) fun r41 =>
 bif !(r40.2.1 == r41.2.1) then
 some (false, ())
 else
 bif !(r40.2.1 == r36.2.1) then
 some (false, ())
 else
 Option.bind (P_laws_rHeap (r40.1, r41.1, ())) fun r44 =>
 bif !r44.1 then
 some (false, ())
 else
 bif r36.2.1 then
 bif !decide ((IntKind.wrap .i64 ((List.length r40.1.2.2.2.1 : Int) + r36.1.1)) = (IntKind.wrap .i64 ((IntKind.wrap .i64 (r35.1 * r35.2.1)) * r35.2.2.1))) then
 some (false, ())
 else
 bif r31.2.1 then
 Option.bind (P_impl_PeelCount (r30.1, ())) fun r49 =>
 bif !r49.2.1 then
 some (false, ())
 else
 bif decide (r31.1 < 1) then
 some (false, ())
 else
 bif decide (r31.1 > r49.1) then
 some (false, ())
 else
 bif !r3.2.1 then
 some (true, ())
 else
 l_laws_FnPaint_49 N r2.1.1 r2.1.2.1 r2.1.2.2.1 r2.1.2.2.2.1 r3.1.1 r3.1.2.1 r3.1.2.2.1 r3.1.2.2.2.1 r3.1.2.2.2.2.1 r3.1.2.2.2.2.2.1 r3.1.2.2.2.2.2.2.1 r14.1.1 r14.1.2.1 r14.1.2.2.1 r14.1.2.2.2.1 r2.2.1 r9.1 r20.1 0 0 0
 else
 bif !r3.2.1 then
 some (true, ())
 else
 l_laws_FnPaint_49 N r2.1.1 r2.1.2.1 r2.1.2.2.1 r2.1.2.2.2.1 r3.1.1 r3.1.2.1 r3.1.2.2.1 r3.1.2.2.2.1 r3.1.2.2.2.2.1 r3.1.2.2.2.2.2.1 r3.1.2.2.2.2.2.2.1 r14.1.1 r14.1.2.1 r14.1.2.2.1 r14.1.2.2.2.1 r2.2.1 r9.1 r20.1 0 0 0
 else
 bif r31.2.1 then
 Option.bind (P_impl_PeelCount (r30.1, ())) fun r48 =>
 bif !r48.2.1 then
 some (false, ())
 else
 bif decide (r31.1 < 1) then
 some (false, ())
 else
 bif decide (r31.1 > r48.1) then
 some (false, ())
 else
 bif !r3.2.1 then
 some (true, ())
 else
 l_laws_FnPaint_49 N r2.1.1 r2.1.2.1 r2.1.2.2.1 r2.1.2.2.2.1 r3.1.1 r3.1.2.1 r3.1.2.2.1 r3.1.2.2.2.1 r3.1.2.2.2.2.1 r3.1.2.2.2.2.2.1 r3.1.2.2.2.2.2.2.1 r14.1.1 r14.1.2.1 r14.1.2.2.1 r14.1.2.2.2.1 r2.2.1 r9.1 r20.1 0 0 0
 else
 bif !r3.2.1 then
 some (true, ())
 else
 l_laws_FnPaint_49 N r2.1.1 r2.1.2.1 r2.1.2.2.1 r2.1.2.2.2.1 r3.1.1 r3.1.2.1 r3.1.2.2.1 r3.1.2.2.2.1 r3.1.2.2.2.2.1 r3.1.2.2.2.2.2.1 r3.1.2.2.2.2.2.2.1 r14.1.1 r14.1.2.1 r14.1.2.2.1 r14.1.2.2.2.1 r2.2.1 r9.1 r20.1 0 0 0 := by
 rewrite [h_laws_FnPaint, h_laws_FnPaint_49]
 exact e_laws_FnPaint N P_laws_rBig P_spec_DrawPaintCounts P_impl_PaintCounts P_spec_PaintCounts P_impl_IsHeap P_impl_UnpaintedFaces P_spec_UnpaintedFaces P_impl_PeelHeap P_spec_PeelHeap P_laws_rHeap P_impl_PeelCount P_spec_PeelCount P_spec_DrawPaintedFaces P_impl_PaintedFaces P_spec_PaintedFaces P_spec_DrawPeelDepth P_impl_PeelDepth P_spec_PeelDepth P_spec_DrawFullCounts P_impl_FullCounts P_spec_FullCounts P_impl_ShellHeap P_spec_ShellHeap P_impl_SurfaceOf P_impl_OutsideFaces a0
theorem q_laws_FnPaint_49 (m0 : Nat) (p0 p1 p2 : Int) (p3 : List D_A3) (p4 p5 : Int) (p6 p7 : Int) (p8 p9 : Int) (p10 p11 : Int) (p12 p13 : Int) (p14 : List D_A3) (p15 : Bool) (p16 p17 : Int) (p18 p19 p20 : Int) : l_laws_FnPaint_49 (m0 + 1) p0 p1 p2 p3 p4 p5 p6 p7 p8 p9 p10 p11 p12 p13 p14 p15 p16 p17 p18 p19 p20 = 
 bif decide (p20 < 7) then
 bif inB p20 7 then
 bif inB p20 7 then
 l_laws_FnPaint_49 m0 p0 p1 p2 p3 p4 p5 p6 p7 p8 p9 p10 p11 p12 p13 p14 p15 p16 p17 (IntKind.wrap .i64 (p18 + (bif decide (p20 = (0 : Int)) then p4 else (bif decide (p20 = (1 : Int)) then p5 else (bif decide (p20 = (2 : Int)) then p6 else (bif decide (p20 = (3 : Int)) then p7 else (bif decide (p20 = (4 : Int)) then p8 else (bif decide (p20 = (5 : Int)) then p9 else p10)))))))) (IntKind.wrap .i64 (p19 + (IntKind.wrap .i64 (p20 * (bif decide (p20 = (0 : Int)) then p4 else (bif decide (p20 = (1 : Int)) then p5 else (bif decide (p20 = (2 : Int)) then p6 else (bif decide (p20 = (3 : Int)) then p7 else (bif decide (p20 = (4 : Int)) then p8 else (bif decide (p20 = (5 : Int)) then p9 else p10)))))))))) (IntKind.wrap .i64 (p20 + 1))
 else none
 else none
 else
 Option.bind (P_impl_SurfaceOf ((p0, (p1, (p2, (p3, ())))), ())) fun r1 =>
 Option.bind (P_impl_OutsideFaces ((p0, (p1, (p2, (p3, ())))), ())) fun r2 =>
 Option.bind (P_impl_PeelCount ((p11, (p12, (p13, (p14, ())))), ())) fun r3 =>
 bif p15 then
 bif !r1.2.1 then
 some (false, ())
 else
 bif !r2.2.1 then
 some (false, ())
 else
 bif !r3.2.1 then
 some (false, ())
 else
 bif !decide (p18 = (List.length p3 : Int)) then
 some (false, ())
 else
 bif !decide (p19 = r2.1) then
 some (false, ())
 else
 bif !decide ((IntKind.wrap .i64 (p16 + p19)) = (IntKind.wrap .i64 (6 * p18))) then
 some (false, ())
 else
 bif decide (p17 = 0) then
 bif decide (p18 = 0) then
 some (true, ())
 else
 bif decide (p17 = (IntKind.wrap .i64 (r3.1 + 1))) then
 some (decide ((List.length p14 : Int) < p18), ())
 else
 some (false, ())
 else
 bif decide (p17 = (IntKind.wrap .i64 (r3.1 + 1))) then
 some (decide ((List.length p14 : Int) < p18), ())
 else
 some (false, ())
 else
 bif !r1.2.1 then
 some (false, ())
 else
 bif !r2.2.1 then
 some (false, ())
 else
 bif !r3.2.1 then
 some (false, ())
 else
 bif !decide (p18 = (List.length p3 : Int)) then
 some (false, ())
 else
 bif !decide (p19 = r1.1) then
 some (false, ())
 else
 bif !decide ((IntKind.wrap .i64 (p16 + p19)) = (IntKind.wrap .i64 (6 * p18))) then
 some (false, ())
 else
 bif decide (p17 = 0) then
 bif decide (p18 = 0) then
 some (true, ())
 else
 bif decide (p17 = (IntKind.wrap .i64 (r3.1 + 1))) then
 some (decide ((List.length p14 : Int) < p18), ())
 else
 some (false, ())
 else
 bif decide (p17 = (IntKind.wrap .i64 (r3.1 + 1))) then
 some (decide ((List.length p14 : Int) < p18), ())
 else
 some (false, ()) := by
 rewrite [h_laws_FnPaint_49]
 exact e_laws_FnPaint_49 N P_laws_rBig P_spec_DrawPaintCounts P_impl_PaintCounts P_spec_PaintCounts P_impl_IsHeap P_impl_UnpaintedFaces P_spec_UnpaintedFaces P_impl_PeelHeap P_spec_PeelHeap P_laws_rHeap P_impl_PeelCount P_spec_PeelCount P_spec_DrawPaintedFaces P_impl_PaintedFaces P_spec_PaintedFaces P_spec_DrawPeelDepth P_impl_PeelDepth P_spec_PeelDepth P_spec_DrawFullCounts P_impl_FullCounts P_spec_FullCounts P_impl_ShellHeap P_spec_ShellHeap P_impl_SurfaceOf P_impl_OutsideFaces m0 p0 p1 p2 p3 p4 p5 p6 p7 p8 p9 p10 p11 p12 p13 p14 p15 p16 p17 p18 p19 p20
end Go.VI
