/- What the functions of the seat compute: part 3. -/
import Derived.Test.YtaopponjedombaaG10p2
noncomputable section
namespace Go.VI
open Go.Proofs
set_option maxRecDepth 100000

abbrev As_laws_FnCuts : List ATy := [.data false (.sl (.int .u8))]
abbrev R_laws_FnCuts : List (Bool × Ty) := [(false, .bool)]
abbrev M_laws_FnCuts : List RMode := []
abbrev Ft_laws_FnCuts : Type := (List Int) × Unit → Option (Bool × Unit)
def X_laws_FnCuts (n : Nat) (F_laws_rBig : Ft_laws_rBig) (F_spec_DrawCutHeap : Ft_spec_DrawCutHeap) (F_impl_CutHeap : Ft_impl_CutHeap) (F_spec_CutHeap : Ft_spec_CutHeap) (F_laws_rHeap : Ft_laws_rHeap) (F_impl_CutFaces : Ft_impl_CutFaces) (F_spec_CutFaces : Ft_spec_CutFaces) (F_spec_DrawPiecesAfter : Ft_spec_DrawPiecesAfter) (F_impl_PiecesAfter : Ft_impl_PiecesAfter) (F_spec_PiecesAfter : Ft_spec_PiecesAfter) (F_laws_rLists : Ft_laws_rLists) (F_spec_DrawGlueHeaps : Ft_spec_DrawGlueHeaps) (F_impl_GlueHeaps : Ft_impl_GlueHeaps) (F_spec_GlueHeaps : Ft_spec_GlueHeaps) (F_impl_FewestCuts : Ft_impl_FewestCuts) (F_spec_FewestCuts : Ft_spec_FewestCuts) (F_impl_IsHeap : Ft_impl_IsHeap) (F_impl_PartsOf : Ft_impl_PartsOf) (F_laws_rAll : Ft_laws_rAll) (F_impl_SurfaceOf : Ft_impl_SurfaceOf) : Ctx := { types := TT, globals := [], con := [(4, ⟨As_laws_rBig, R_laws_rBig, M_laws_rBig, F_laws_rBig⟩), (5, ⟨As_spec_DrawCutHeap, R_spec_DrawCutHeap, M_spec_DrawCutHeap, F_spec_DrawCutHeap⟩), (6, ⟨As_impl_CutHeap, R_impl_CutHeap, M_impl_CutHeap, F_impl_CutHeap⟩), (7, ⟨As_spec_CutHeap, R_spec_CutHeap, M_spec_CutHeap, F_spec_CutHeap⟩), (8, ⟨As_laws_rHeap, R_laws_rHeap, M_laws_rHeap, F_laws_rHeap⟩), (9, ⟨As_impl_CutFaces, R_impl_CutFaces, M_impl_CutFaces, F_impl_CutFaces⟩), (10, ⟨As_spec_CutFaces, R_spec_CutFaces, M_spec_CutFaces, F_spec_CutFaces⟩), (11, ⟨As_spec_DrawPiecesAfter, R_spec_DrawPiecesAfter, M_spec_DrawPiecesAfter, F_spec_DrawPiecesAfter⟩), (12, ⟨As_impl_PiecesAfter, R_impl_PiecesAfter, M_impl_PiecesAfter, F_impl_PiecesAfter⟩), (13, ⟨As_spec_PiecesAfter, R_spec_PiecesAfter, M_spec_PiecesAfter, F_spec_PiecesAfter⟩), (14, ⟨As_laws_rLists, R_laws_rLists, M_laws_rLists, F_laws_rLists⟩), (15, ⟨As_spec_DrawGlueHeaps, R_spec_DrawGlueHeaps, M_spec_DrawGlueHeaps, F_spec_DrawGlueHeaps⟩), (16, ⟨As_impl_GlueHeaps, R_impl_GlueHeaps, M_impl_GlueHeaps, F_impl_GlueHeaps⟩), (17, ⟨As_spec_GlueHeaps, R_spec_GlueHeaps, M_spec_GlueHeaps, F_spec_GlueHeaps⟩), (18, ⟨As_impl_FewestCuts, R_impl_FewestCuts, M_impl_FewestCuts, F_impl_FewestCuts⟩), (19, ⟨As_spec_FewestCuts, R_spec_FewestCuts, M_spec_FewestCuts, F_spec_FewestCuts⟩), (20, ⟨As_impl_IsHeap, R_impl_IsHeap, M_impl_IsHeap, F_impl_IsHeap⟩), (21, ⟨As_impl_PartsOf, R_impl_PartsOf, M_impl_PartsOf, F_impl_PartsOf⟩), (22, ⟨As_laws_rAll, R_laws_rAll, M_laws_rAll, F_laws_rAll⟩), (23, ⟨As_impl_SurfaceOf, R_impl_SurfaceOf, M_impl_SurfaceOf, F_impl_SurfaceOf⟩)], keep := [(35, ⟨[.box 3, .box 6, .box 7, .box 36, .tmp 3, .tmp 4, .tmp 6, .tmp 7, .tmp 8, .tmp 12, .tmp 29, .tmp 35, .tmp 36, .tmp 37], []⟩), (38, ⟨[.box 3, .box 6, .box 7, .box 36, .tmp 3, .tmp 4, .tmp 6, .tmp 7, .tmp 8, .tmp 12, .tmp 29, .tmp 35, .tmp 36, .tmp 37, .tmp 38], []⟩)], results := [.tmp 2], ntmps := 341, n := n }
def B_laws_FnCuts : Code := (Try.f3.body).getD .skip
def L_laws_FnCuts_35 (n : Nat) (F_laws_rBig : Ft_laws_rBig) (F_spec_DrawCutHeap : Ft_spec_DrawCutHeap) (F_impl_CutHeap : Ft_impl_CutHeap) (F_spec_CutHeap : Ft_spec_CutHeap) (F_laws_rHeap : Ft_laws_rHeap) (F_impl_CutFaces : Ft_impl_CutFaces) (F_spec_CutFaces : Ft_spec_CutFaces) (F_spec_DrawPiecesAfter : Ft_spec_DrawPiecesAfter) (F_impl_PiecesAfter : Ft_impl_PiecesAfter) (F_spec_PiecesAfter : Ft_spec_PiecesAfter) (F_laws_rLists : Ft_laws_rLists) (F_spec_DrawGlueHeaps : Ft_spec_DrawGlueHeaps) (F_impl_GlueHeaps : Ft_impl_GlueHeaps) (F_spec_GlueHeaps : Ft_spec_GlueHeaps) (F_impl_FewestCuts : Ft_impl_FewestCuts) (F_spec_FewestCuts : Ft_spec_FewestCuts) (F_impl_IsHeap : Ft_impl_IsHeap) (F_impl_PartsOf : Ft_impl_PartsOf) (F_laws_rAll : Ft_laws_rAll) (F_impl_SurfaceOf : Ft_impl_SurfaceOf) (m0 : Nat) (p0 p1 p2 : Int) (p3 : List D_A3) (p4 p5 p6 : Int) (p7 : List D_A3) (p8 p9 p10 : Int) (p11 : List D_A3) (p12 p13 : Int) (p14 p15 : Int) (p16 : Bool) (p17 p18 : Int) (p19 : List D_A2) (p20 : Int) : Option (denL R_laws_FnCuts) := loopF (X_laws_FnCuts n F_laws_rBig F_spec_DrawCutHeap F_impl_CutHeap F_spec_CutHeap F_laws_rHeap F_impl_CutFaces F_spec_CutFaces F_spec_DrawPiecesAfter F_impl_PiecesAfter F_spec_PiecesAfter F_laws_rLists F_spec_DrawGlueHeaps F_impl_GlueHeaps F_spec_GlueHeaps F_impl_FewestCuts F_spec_FewestCuts F_impl_IsHeap F_impl_PartsOf F_laws_rAll F_impl_SurfaceOf) B_laws_FnCuts R_laws_FnCuts M_laws_FnCuts 35 [m0] [(.ver, .num 1), (.box 3, .box 0 false [.int .i64 p0, .int .i64 p1, .int .i64 p2, .own 49 T_A3 0 p3]), (.box 6, .box 0 false [.int .i64 p4, .int .i64 p5, .int .i64 p6, .own 49 T_A3 0 p7]), (.box 7, .box 0 false [.int .i64 p8, .int .i64 p9, .int .i64 p10, .own 49 T_A3 0 p11]), (.box 36, .box 0 false [.int .i64 p12, .int .i64 p13, .int .i64 p14]), (.tmp 3, .val false [.addr 3 0 0]), (.tmp 4, .val false [.int .i64 p15]), (.tmp 6, .val false [.addr 6 0 0]), (.tmp 7, .val false [.addr 7 0 0]), (.tmp 8, .val false [.bool p16]), (.tmp 12, .val false [.int .i64 p17]), (.tmp 29, .val false [.int .i64 p18]), (.tmp 35, .val false [.own 50 T_A2 0 p19]), (.tmp 36, .val false [.addr 36 0 0]), (.tmp 37, .val false [.int .i64 p20])]
def L_laws_FnCuts_38 (n : Nat) (F_laws_rBig : Ft_laws_rBig) (F_spec_DrawCutHeap : Ft_spec_DrawCutHeap) (F_impl_CutHeap : Ft_impl_CutHeap) (F_spec_CutHeap : Ft_spec_CutHeap) (F_laws_rHeap : Ft_laws_rHeap) (F_impl_CutFaces : Ft_impl_CutFaces) (F_spec_CutFaces : Ft_spec_CutFaces) (F_spec_DrawPiecesAfter : Ft_spec_DrawPiecesAfter) (F_impl_PiecesAfter : Ft_impl_PiecesAfter) (F_spec_PiecesAfter : Ft_spec_PiecesAfter) (F_laws_rLists : Ft_laws_rLists) (F_spec_DrawGlueHeaps : Ft_spec_DrawGlueHeaps) (F_impl_GlueHeaps : Ft_impl_GlueHeaps) (F_spec_GlueHeaps : Ft_spec_GlueHeaps) (F_impl_FewestCuts : Ft_impl_FewestCuts) (F_spec_FewestCuts : Ft_spec_FewestCuts) (F_impl_IsHeap : Ft_impl_IsHeap) (F_impl_PartsOf : Ft_impl_PartsOf) (F_laws_rAll : Ft_laws_rAll) (F_impl_SurfaceOf : Ft_impl_SurfaceOf) (m0 m1 : Nat) (p0 p1 p2 : Int) (p3 : List D_A3) (p4 p5 p6 : Int) (p7 : List D_A3) (p8 p9 p10 : Int) (p11 : List D_A3) (p12 p13 : Int) (p14 p15 : Int) (p16 : Bool) (p17 p18 : Int) (p19 : List D_A2) (p20 p21 : Int) : Option (denL R_laws_FnCuts) := loopF (X_laws_FnCuts n F_laws_rBig F_spec_DrawCutHeap F_impl_CutHeap F_spec_CutHeap F_laws_rHeap F_impl_CutFaces F_spec_CutFaces F_spec_DrawPiecesAfter F_impl_PiecesAfter F_spec_PiecesAfter F_laws_rLists F_spec_DrawGlueHeaps F_impl_GlueHeaps F_spec_GlueHeaps F_impl_FewestCuts F_spec_FewestCuts F_impl_IsHeap F_impl_PartsOf F_laws_rAll F_impl_SurfaceOf) B_laws_FnCuts R_laws_FnCuts M_laws_FnCuts 38 [m0, m1] [(.ver, .num 1), (.box 3, .box 0 false [.int .i64 p0, .int .i64 p1, .int .i64 p2, .own 49 T_A3 0 p3]), (.box 6, .box 0 false [.int .i64 p4, .int .i64 p5, .int .i64 p6, .own 49 T_A3 0 p7]), (.box 7, .box 0 false [.int .i64 p8, .int .i64 p9, .int .i64 p10, .own 49 T_A3 0 p11]), (.box 36, .box 0 false [.int .i64 p12, .int .i64 p13, .int .i64 p14]), (.tmp 3, .val false [.addr 3 0 0]), (.tmp 4, .val false [.int .i64 p15]), (.tmp 6, .val false [.addr 6 0 0]), (.tmp 7, .val false [.addr 7 0 0]), (.tmp 8, .val false [.bool p16]), (.tmp 12, .val false [.int .i64 p17]), (.tmp 29, .val false [.int .i64 p18]), (.tmp 35, .val false [.own 50 T_A2 0 p19]), (.tmp 36, .val false [.addr 36 0 0]), (.tmp 37, .val false [.int .i64 p20]), (.tmp 38, .val false [.int .i64 p21])]
theorem e_laws_FnCuts (n : Nat) (F_laws_rBig : Ft_laws_rBig) (F_spec_DrawCutHeap : Ft_spec_DrawCutHeap) (F_impl_CutHeap : Ft_impl_CutHeap) (F_spec_CutHeap : Ft_spec_CutHeap) (F_laws_rHeap : Ft_laws_rHeap) (F_impl_CutFaces : Ft_impl_CutFaces) (F_spec_CutFaces : Ft_spec_CutFaces) (F_spec_DrawPiecesAfter : Ft_spec_DrawPiecesAfter) (F_impl_PiecesAfter : Ft_impl_PiecesAfter) (F_spec_PiecesAfter : Ft_spec_PiecesAfter) (F_laws_rLists : Ft_laws_rLists) (F_spec_DrawGlueHeaps : Ft_spec_DrawGlueHeaps) (F_impl_GlueHeaps : Ft_impl_GlueHeaps) (F_spec_GlueHeaps : Ft_spec_GlueHeaps) (F_impl_FewestCuts : Ft_impl_FewestCuts) (F_spec_FewestCuts : Ft_spec_FewestCuts) (F_impl_IsHeap : Ft_impl_IsHeap) (F_impl_PartsOf : Ft_impl_PartsOf) (F_laws_rAll : Ft_laws_rAll) (F_impl_SurfaceOf : Ft_impl_SurfaceOf) (a0 : List Int) : runF (X_laws_FnCuts n F_laws_rBig F_spec_DrawCutHeap F_impl_CutHeap F_spec_CutHeap F_laws_rHeap F_impl_CutFaces F_spec_CutFaces F_spec_DrawPiecesAfter F_impl_PiecesAfter F_spec_PiecesAfter F_laws_rLists F_spec_DrawGlueHeaps F_impl_GlueHeaps F_spec_GlueHeaps F_impl_FewestCuts F_spec_FewestCuts F_impl_IsHeap F_impl_PartsOf F_laws_rAll F_impl_SurfaceOf) B_laws_FnCuts As_laws_FnCuts R_laws_FnCuts M_laws_FnCuts (a0, ()) = 
 Option.bind (F_laws_rBig (a0, ())) fun r0 =>
 bif r0.1 then
 some (true, ())
 else
 Option.bind (F_spec_DrawCutHeap (a0, ())) fun r2 =>
 Option.bind (F_impl_CutHeap (r2.1, r2.2.1, r2.2.2.1, ())) fun r3 =>
 Option.bind (F_spec_CutHeap (r2.1, r2.2.1, r2.2.2.1, ())) fun r4 =>
 bif !(r3.2.2.1 == r4.2.2.1) then
 some (false, ())
 else
 Option.bind (F_laws_rHeap (r3.1, r4.1, ())) fun r6 =>
 bif !r6.1 then
 some (false, ())
 else
 Option.bind (F_laws_rHeap (r3.2.1, r4.2.1, ())) fun r8 =>
 bif !r8.1 then
 some (false, ())
 else
 Option.bind (F_impl_CutFaces (r2.1, r2.2.1, r2.2.2.1, ())) fun r10 =>
 Option.bind (F_spec_CutFaces (r2.1, r2.2.1, r2.2.2.1, ())) fun r11 =>
 bif !decide (r10.1 = r11.1) then
 some (false, ())
 else
 bif !(r10.2.1 == r11.2.1) then
 some (false, ())
 else
 bif !(r10.2.1 == r3.2.2.1) then
 some (false, ())
 else
 Option.bind (F_spec_DrawPiecesAfter (a0, ())) fun r15 =>
 Option.bind (F_impl_PiecesAfter (r15.1, r15.2.1, ())) fun r16 =>
 Option.bind (F_spec_PiecesAfter (r15.1, r15.2.1, ())) fun r17 =>
 bif !(r16.2.1 == r17.2.1) then
 some (false, ())
 else
 Option.bind (F_laws_rLists (r16.1, r17.1, ())) fun r19 =>
 bif !r19.1 then
 some (false, ())
 else
 Option.bind (F_spec_DrawGlueHeaps (a0, ())) fun r21 =>
 Option.bind (F_impl_GlueHeaps (r21.1, r21.2.1, r21.2.2.1, ())) fun r22 =>
 Option.bind (F_spec_GlueHeaps (r21.1, r21.2.1, r21.2.2.1, ())) fun r23 =>
 bif !(r22.2.1 == r23.2.1) then
 some (false, ())
 else
 Option.bind (F_laws_rHeap (r22.1, r23.1, ())) fun r25 =>
 bif !r25.1 then
 some (false, ())
 else
 Option.bind (F_impl_FewestCuts (r2.1, ())) fun r27 =>
 Option.bind (F_spec_FewestCuts (r2.1, ())) fun r28 =>
 bif !decide (r27.1 = r28.1) then
 some (false, ())
 else
 bif !(r27.2.1 == r28.2.1) then
 some (false, ())
 else
 Option.bind (F_impl_IsHeap (r2.1, ())) fun r31 =>
 bif !(r27.2.1 == r31.1) then
 some (false, ())
 else
 bif r16.2.1 then
 Option.bind (F_impl_PartsOf (r15.1, ())) fun r34 =>
 bif !r34.2.1 then
 some (false, ())
 else
 bif decide ((List.length r16.1 : Int) < (List.length r34.1 : Int)) then
 some (false, ())
 else
 Option.bind (F_laws_rAll (r16.1, ())) fun r37 =>
 bif !decide (r37.1 = (List.length r15.1.2.2.2.1 : Int)) then
 some (false, ())
 else
 bif r22.2.1 then
 bif !decide ((List.length r22.1.2.2.2.1 : Int) = (IntKind.wrap .i64 ((List.length r21.1.2.2.2.1 : Int) + (List.length r21.2.1.2.2.2.1 : Int)))) then
 some (false, ())
 else
 bif r27.2.1 then
 L_laws_FnCuts_35 n F_laws_rBig F_spec_DrawCutHeap F_impl_CutHeap F_spec_CutHeap F_laws_rHeap F_impl_CutFaces F_spec_CutFaces F_spec_DrawPiecesAfter F_impl_PiecesAfter F_spec_PiecesAfter F_laws_rLists F_spec_DrawGlueHeaps F_impl_GlueHeaps F_spec_GlueHeaps F_impl_FewestCuts F_spec_FewestCuts F_impl_IsHeap F_impl_PartsOf F_laws_rAll F_impl_SurfaceOf n r2.1.1 r2.1.2.1 r2.1.2.2.1 r2.1.2.2.2.1 r3.1.1 r3.1.2.1 r3.1.2.2.1 r3.1.2.2.2.1 r3.2.1.1 r3.2.1.2.1 r3.2.1.2.2.1 r3.2.1.2.2.2.1 r2.1.1 r2.1.2.1 r2.1.2.2.1 r2.2.1 r3.2.2.1 r10.1 r27.1 ([] : List D_A2) 0
 else
 bif !r3.2.2.1 then
 some (true, ())
 else
 Option.bind (F_impl_GlueHeaps (r3.1, r3.2.1, r2.2.1, ())) fun r43 =>
 Option.bind (F_impl_SurfaceOf (r3.1, ())) fun r44 =>
 Option.bind (F_impl_SurfaceOf (r3.2.1, ())) fun r45 =>
 Option.bind (F_impl_SurfaceOf (r2.1, ())) fun r46 =>
 bif r43.2.1 then
 bif r44.2.1 then
 bif r45.2.1 then
 bif r46.2.1 then
 Option.bind (F_laws_rHeap (r43.1, r2.1, ())) fun r51 =>
 bif r51.1 then
 some (decide ((IntKind.wrap .i64 (r44.1 + r45.1)) = (IntKind.wrap .i64 (r46.1 + (IntKind.wrap .i64 (2 * r10.1))))), ())
 else
 some (false, ())
 else
 some (false, ())
 else
 some (false, ())
 else
 some (false, ())
 else
 some (false, ())
 else
 bif r27.2.1 then
 L_laws_FnCuts_35 n F_laws_rBig F_spec_DrawCutHeap F_impl_CutHeap F_spec_CutHeap F_laws_rHeap F_impl_CutFaces F_spec_CutFaces F_spec_DrawPiecesAfter F_impl_PiecesAfter F_spec_PiecesAfter F_laws_rLists F_spec_DrawGlueHeaps F_impl_GlueHeaps F_spec_GlueHeaps F_impl_FewestCuts F_spec_FewestCuts F_impl_IsHeap F_impl_PartsOf F_laws_rAll F_impl_SurfaceOf n r2.1.1 r2.1.2.1 r2.1.2.2.1 r2.1.2.2.2.1 r3.1.1 r3.1.2.1 r3.1.2.2.1 r3.1.2.2.2.1 r3.2.1.1 r3.2.1.2.1 r3.2.1.2.2.1 r3.2.1.2.2.2.1 r2.1.1 r2.1.2.1 r2.1.2.2.1 r2.2.1 r3.2.2.1 r10.1 r27.1 ([] : List D_A2) 0
 else
 bif !r3.2.2.1 then
 some (true, ())
 else
 Option.bind (F_impl_GlueHeaps (r3.1, r3.2.1, r2.2.1, ())) fun r42 =>
 Option.bind (F_impl_SurfaceOf (r3.1, ())) fun r43 =>
 Option.bind (F_impl_SurfaceOf (r3.2.1, ())) fun r44 =>
 Option.bind (F_impl_SurfaceOf (r2.1, ())) fun r45 =>
 bif r42.2.1 then
 bif r43.2.1 then
 bif r44.2.1 then
 bif r45.2.1 then
 Option.bind (F_laws_rHeap (r42.1, r2.1, ())) fun r50 =>
 bif r50.1 then
 some (decide ((IntKind.wrap .i64 (r43.1 + r44.1)) = (IntKind.wrap .i64 (r45.1 + (IntKind.wrap .i64 (2 * r10.1))))), ())
 else
 some (false, ())
 else
 some (false, ())
 else
 some (false, ())
 else
 some (false, ())
 else
 some (false, ())
 else
 bif r22.2.1 then
 bif !decide ((List.length r22.1.2.2.2.1 : Int) = (IntKind.wrap .i64 ((List.length r21.1.2.2.2.1 : Int) + (List.length r21.2.1.2.2.2.1 : Int)))) then
 some (false, ())
 else
 bif r27.2.1 then
 L_laws_FnCuts_35 n F_laws_rBig F_spec_DrawCutHeap F_impl_CutHeap F_spec_CutHeap F_laws_rHeap F_impl_CutFaces F_spec_CutFaces F_spec_DrawPiecesAfter F_impl_PiecesAfter F_spec_PiecesAfter F_laws_rLists F_spec_DrawGlueHeaps F_impl_GlueHeaps F_spec_GlueHeaps F_impl_FewestCuts F_spec_FewestCuts F_impl_IsHeap F_impl_PartsOf F_laws_rAll F_impl_SurfaceOf n r2.1.1 r2.1.2.1 r2.1.2.2.1 r2.1.2.2.2.1 r3.1.1 r3.1.2.1 r3.1.2.2.1 r3.1.2.2.2.1 r3.2.1.1 r3.2.1.2.1 r3.2.1.2.2.1 r3.2.1.2.2.2.1 r2.1.1 r2.1.2.1 r2.1.2.2.1 r2.2.1 r3.2.2.1 r10.1 r27.1 ([] : List D_A2) 0
 else
 bif !r3.2.2.1 then
 some (true, ())
 else
 Option.bind (F_impl_GlueHeaps (r3.1, r3.2.1, r2.2.1, ())) fun r38 =>
 Option.bind (F_impl_SurfaceOf (r3.1, ())) fun r39 =>
 Option.bind (F_impl_SurfaceOf (r3.2.1, ())) fun r40 =>
 Option.bind (F_impl_SurfaceOf (r2.1, ())) fun r41 =>
 bif r38.2.1 then
 bif r39.2.1 then
 bif r40.2.1 then
 bif r41.2.1 then
 Option.bind (F_laws_rHeap (r38.1, r2.1, ())) fun r46 =>
 bif r46.1 then
 some (decide ((IntKind.wrap .i64 (r39.1 + r40.1)) = (IntKind.wrap .i64 (r41.1 + (IntKind.wrap .i64 (2 * r10.1))))), ())
 else
 some (false, ())
 else
 some (false, ())
 else
 some (false, ())
 else
 some (false, ())
 else
 some (false, ())
 else
 bif r27.2.1 then
 L_laws_FnCuts_35 n F_laws_rBig F_spec_DrawCutHeap F_impl_CutHeap F_spec_CutHeap F_laws_rHeap F_impl_CutFaces F_spec_CutFaces F_spec_DrawPiecesAfter F_impl_PiecesAfter F_spec_PiecesAfter F_laws_rLists F_spec_DrawGlueHeaps F_impl_GlueHeaps F_spec_GlueHeaps F_impl_FewestCuts F_spec_FewestCuts F_impl_IsHeap F_impl_PartsOf F_laws_rAll F_impl_SurfaceOf n r2.1.1 r2.1.2.1 r2.1.2.2.1 r2.1.2.2.2.1 r3.1.1 r3.1.2.1 r3.1.2.2.1 r3.1.2.2.2.1 r3.2.1.1 r3.2.1.2.1 r3.2.1.2.2.1 r3.2.1.2.2.2.1 r2.1.1 r2.1.2.1 r2.1.2.2.1 r2.2.1 r3.2.2.1 r10.1 r27.1 ([] : List D_A2) 0
 else
 bif !r3.2.2.1 then
 some (true, ())
 else
 Option.bind (F_impl_GlueHeaps (r3.1, r3.2.1, r2.2.1, ())) fun r37 =>
 Option.bind (F_impl_SurfaceOf (r3.1, ())) fun r38 =>
 Option.bind (F_impl_SurfaceOf (r3.2.1, ())) fun r39 =>
 Option.bind (F_impl_SurfaceOf (r2.1, ())) fun r40 =>
 bif r37.2.1 then
 bif r38.2.1 then
 bif r39.2.1 then
 bif r40.2.1 then
 Option.bind (F_laws_rHeap (r37.1, r2.1, ())) fun r45 =>
 bif r45.1 then
 some (decide ((IntKind.wrap .i64 (r38.1 + r39.1)) = (IntKind.wrap .i64 (r40.1 + (IntKind.wrap .i64 (2 * r10.1))))), ())
 else
 some (false, ())
 else
 some (false, ())
 else
 some (false, ())
 else
 some (false, ())
 else
 some (false, ()) := by kernel_rfl
theorem e_laws_FnCuts_35 (n : Nat) (F_laws_rBig : Ft_laws_rBig) (F_spec_DrawCutHeap : Ft_spec_DrawCutHeap) (F_impl_CutHeap : Ft_impl_CutHeap) (F_spec_CutHeap : Ft_spec_CutHeap) (F_laws_rHeap : Ft_laws_rHeap) (F_impl_CutFaces : Ft_impl_CutFaces) (F_spec_CutFaces : Ft_spec_CutFaces) (F_spec_DrawPiecesAfter : Ft_spec_DrawPiecesAfter) (F_impl_PiecesAfter : Ft_impl_PiecesAfter) (F_spec_PiecesAfter : Ft_spec_PiecesAfter) (F_laws_rLists : Ft_laws_rLists) (F_spec_DrawGlueHeaps : Ft_spec_DrawGlueHeaps) (F_impl_GlueHeaps : Ft_impl_GlueHeaps) (F_spec_GlueHeaps : Ft_spec_GlueHeaps) (F_impl_FewestCuts : Ft_impl_FewestCuts) (F_spec_FewestCuts : Ft_spec_FewestCuts) (F_impl_IsHeap : Ft_impl_IsHeap) (F_impl_PartsOf : Ft_impl_PartsOf) (F_laws_rAll : Ft_laws_rAll) (F_impl_SurfaceOf : Ft_impl_SurfaceOf) (m0 : Nat) (p0 p1 p2 : Int) (p3 : List D_A3) (p4 p5 p6 : Int) (p7 : List D_A3) (p8 p9 p10 : Int) (p11 : List D_A3) (p12 p13 : Int) (p14 p15 : Int) (p16 : Bool) (p17 p18 : Int) (p19 : List D_A2) (p20 : Int) : L_laws_FnCuts_35 n F_laws_rBig F_spec_DrawCutHeap F_impl_CutHeap F_spec_CutHeap F_laws_rHeap F_impl_CutFaces F_spec_CutFaces F_spec_DrawPiecesAfter F_impl_PiecesAfter F_spec_PiecesAfter F_laws_rLists F_spec_DrawGlueHeaps F_impl_GlueHeaps F_spec_GlueHeaps F_impl_FewestCuts F_spec_FewestCuts F_impl_IsHeap F_impl_PartsOf F_laws_rAll F_impl_SurfaceOf (m0 + 1) p0 p1 p2 p3 p4 p5 p6 p7 p8 p9 p10 p11 p12 p13 p14 p15 p16 p17 p18 p19 p20 = 
 bif decide (p20 < 3) then
 L_laws_FnCuts_38 n F_laws_rBig F_spec_DrawCutHeap F_impl_CutHeap F_spec_CutHeap F_laws_rHeap F_impl_CutFaces F_spec_CutFaces F_spec_DrawPiecesAfter F_impl_PiecesAfter F_spec_PiecesAfter F_laws_rLists F_spec_DrawGlueHeaps F_impl_GlueHeaps F_spec_GlueHeaps F_impl_FewestCuts F_spec_FewestCuts F_impl_IsHeap F_impl_PartsOf F_laws_rAll F_impl_SurfaceOf m0 n p0 p1 p2 p3 p4 p5 p6 p7 p8 p9 p10 p11 p12 p13 p14 p15 p16 p17 p18 p19 p20 1
 else
 Option.bind (F_impl_PiecesAfter ((p0, (p1, (p2, (p3, ())))), p19, ())) fun r1 =>
 bif !r1.2.1 then
 some (false, ())
 else
 bif !decide ((List.length p19 : Int) = p18) then
 some (false, ())
 else
 bif !decide ((List.length r1.1 : Int) = (List.length p3 : Int)) then
 some (false, ())
 else
 bif !p16 then
 some (true, ())
 else
 Option.bind (F_impl_GlueHeaps ((p4, (p5, (p6, (p7, ())))), (p8, (p9, (p10, (p11, ())))), p15, ())) fun r6 =>
 Option.bind (F_impl_SurfaceOf ((p4, (p5, (p6, (p7, ())))), ())) fun r7 =>
 Option.bind (F_impl_SurfaceOf ((p8, (p9, (p10, (p11, ())))), ())) fun r8 =>
 Option.bind (F_impl_SurfaceOf ((p0, (p1, (p2, (p3, ())))), ())) fun r9 =>
 bif r6.2.1 then
 bif r7.2.1 then
 bif r8.2.1 then
 bif r9.2.1 then
 Option.bind (F_laws_rHeap (r6.1, (p0, (p1, (p2, (p3, ())))), ())) fun r14 =>
 bif r14.1 then
 some (decide ((IntKind.wrap .i64 (r7.1 + r8.1)) = (IntKind.wrap .i64 (r9.1 + (IntKind.wrap .i64 (2 * p17))))), ())
 else
 some (false, ())
 else
 some (false, ())
 else
 some (false, ())
 else
 some (false, ())
 else
 some (false, ()) := by kernel_rfl
theorem e_laws_FnCuts_38 (n : Nat) (F_laws_rBig : Ft_laws_rBig) (F_spec_DrawCutHeap : Ft_spec_DrawCutHeap) (F_impl_CutHeap : Ft_impl_CutHeap) (F_spec_CutHeap : Ft_spec_CutHeap) (F_laws_rHeap : Ft_laws_rHeap) (F_impl_CutFaces : Ft_impl_CutFaces) (F_spec_CutFaces : Ft_spec_CutFaces) (F_spec_DrawPiecesAfter : Ft_spec_DrawPiecesAfter) (F_impl_PiecesAfter : Ft_impl_PiecesAfter) (F_spec_PiecesAfter : Ft_spec_PiecesAfter) (F_laws_rLists : Ft_laws_rLists) (F_spec_DrawGlueHeaps : Ft_spec_DrawGlueHeaps) (F_impl_GlueHeaps : Ft_impl_GlueHeaps) (F_spec_GlueHeaps : Ft_spec_GlueHeaps) (F_impl_FewestCuts : Ft_impl_FewestCuts) (F_spec_FewestCuts : Ft_spec_FewestCuts) (F_impl_IsHeap : Ft_impl_IsHeap) (F_impl_PartsOf : Ft_impl_PartsOf) (F_laws_rAll : Ft_laws_rAll) (F_impl_SurfaceOf : Ft_impl_SurfaceOf) (m0 m1 : Nat) (p0 p1 p2 : Int) (p3 : List D_A3) (p4 p5 p6 : Int) (p7 : List D_A3) (p8 p9 p10 : Int) (p11 : List D_A3) (p12 p13 : Int) (p14 p15 : Int) (p16 : Bool) (p17 p18 : Int) (p19 : List D_A2) (p20 p21 : Int) : L_laws_FnCuts_38 n F_laws_rBig F_spec_DrawCutHeap F_impl_CutHeap F_spec_CutHeap F_laws_rHeap F_impl_CutFaces F_spec_CutFaces F_spec_DrawPiecesAfter F_impl_PiecesAfter F_spec_PiecesAfter F_laws_rLists F_spec_DrawGlueHeaps F_impl_GlueHeaps F_spec_GlueHeaps F_impl_FewestCuts F_spec_FewestCuts F_impl_IsHeap F_impl_PartsOf F_laws_rAll F_impl_SurfaceOf m0 (m1 + 1) p0 p1 p2 p3 p4 p5 p6 p7 p8 p9 p10 p11 p12 p13 p14 p15 p16 p17 p18 p19 p20 p21 = 
 bif inB p20 3 then
 bif decide (p21 < (bif decide (p20 = (0 : Int)) then p12 else (bif decide (p20 = (1 : Int)) then p13 else p14))) then
 Option.bind (F_impl_CutFaces ((p0, (p1, (p2, (p3, ())))), p20, p21, ())) fun r2 =>
 bif !r2.2.1 then
 some (false, ())
 else
 bif decide (r2.1 > 0) then
 bif (decide (((List.length p19) + (List.length ([(p20, (p21, ()))] : List D_A2))) * 16 ≤ 140737488355328) && decide (((List.length p19) + (List.length ([(p20, (p21, ()))] : List D_A2))) ≤ 140737488355328)) then
 L_laws_FnCuts_38 n F_laws_rBig F_spec_DrawCutHeap F_impl_CutHeap F_spec_CutHeap F_laws_rHeap F_impl_CutFaces F_spec_CutFaces F_spec_DrawPiecesAfter F_impl_PiecesAfter F_spec_PiecesAfter F_laws_rLists F_spec_DrawGlueHeaps F_impl_GlueHeaps F_spec_GlueHeaps F_impl_FewestCuts F_spec_FewestCuts F_impl_IsHeap F_impl_PartsOf F_laws_rAll F_impl_SurfaceOf m0 m1 p0 p1 p2 p3 p4 p5 p6 p7 p8 p9 p10 p11 p12 p13 p14 p15 p16 p17 p18 (p19 ++ ([(p20, (p21, ()))] : List D_A2)) p20 (IntKind.wrap .i64 (p21 + 1))
 else none
 else
 L_laws_FnCuts_38 n F_laws_rBig F_spec_DrawCutHeap F_impl_CutHeap F_spec_CutHeap F_laws_rHeap F_impl_CutFaces F_spec_CutFaces F_spec_DrawPiecesAfter F_impl_PiecesAfter F_spec_PiecesAfter F_laws_rLists F_spec_DrawGlueHeaps F_impl_GlueHeaps F_spec_GlueHeaps F_impl_FewestCuts F_spec_FewestCuts F_impl_IsHeap F_impl_PartsOf F_laws_rAll F_impl_SurfaceOf m0 m1 p0 p1 p2 p3 p4 p5 p6 p7 p8 p9 p10 p11 p12 p13 p14 p15 p16 p17 p18 p19 p20 (IntKind.wrap .i64 (p21 + 1))
 else
 L_laws_FnCuts_35 n F_laws_rBig F_spec_DrawCutHeap F_impl_CutHeap F_spec_CutHeap F_laws_rHeap F_impl_CutFaces F_spec_CutFaces F_spec_DrawPiecesAfter F_impl_PiecesAfter F_spec_PiecesAfter F_laws_rLists F_spec_DrawGlueHeaps F_impl_GlueHeaps F_spec_GlueHeaps F_impl_FewestCuts F_spec_FewestCuts F_impl_IsHeap F_impl_PartsOf F_laws_rAll F_impl_SurfaceOf m0 p0 p1 p2 p3 p4 p5 p6 p7 p8 p9 p10 p11 p12 p13 p14 p15 p16 p17 p18 p19 (IntKind.wrap .i64 (p20 + 1))
 else none := by kernel_rfl
def P_laws_FnCuts : Ft_laws_FnCuts := hid (runF (X_laws_FnCuts N P_laws_rBig P_spec_DrawCutHeap P_impl_CutHeap P_spec_CutHeap P_laws_rHeap P_impl_CutFaces P_spec_CutFaces P_spec_DrawPiecesAfter P_impl_PiecesAfter P_spec_PiecesAfter P_laws_rLists P_spec_DrawGlueHeaps P_impl_GlueHeaps P_spec_GlueHeaps P_impl_FewestCuts P_spec_FewestCuts P_impl_IsHeap P_impl_PartsOf P_laws_rAll P_impl_SurfaceOf) B_laws_FnCuts As_laws_FnCuts R_laws_FnCuts M_laws_FnCuts)
theorem h_laws_FnCuts : P_laws_FnCuts = runF (X_laws_FnCuts N P_laws_rBig P_spec_DrawCutHeap P_impl_CutHeap P_spec_CutHeap P_laws_rHeap P_impl_CutFaces P_spec_CutFaces P_spec_DrawPiecesAfter P_impl_PiecesAfter P_spec_PiecesAfter P_laws_rLists P_spec_DrawGlueHeaps P_impl_GlueHeaps P_spec_GlueHeaps P_impl_FewestCuts P_spec_FewestCuts P_impl_IsHeap P_impl_PartsOf P_laws_rAll P_impl_SurfaceOf) B_laws_FnCuts As_laws_FnCuts R_laws_FnCuts M_laws_FnCuts := hid_eq _
def C_laws_FnCuts : Contract := ⟨As_laws_FnCuts, R_laws_FnCuts, M_laws_FnCuts, P_laws_FnCuts⟩
theorem s_laws_FnCuts : Sound Try.prog GG 3 C_laws_FnCuts := by
 unfold C_laws_FnCuts; rw [h_laws_FnCuts]
 exact sound_of_run (fn := Try.f3) hmix hstable (tyOK_of ttOK) (hglob _) (conOK_of ⟨s_laws_rBig, s_spec_DrawCutHeap, s_impl_CutHeap, s_spec_CutHeap, s_laws_rHeap, s_impl_CutFaces, s_spec_CutFaces, s_spec_DrawPiecesAfter, s_impl_PiecesAfter, s_spec_PiecesAfter, s_laws_rLists, s_spec_DrawGlueHeaps, s_impl_GlueHeaps, s_spec_GlueHeaps, s_impl_FewestCuts, s_spec_FewestCuts, s_impl_IsHeap, s_impl_PartsOf, s_laws_rAll, s_impl_SurfaceOf, trivial⟩) (mconOK_of trivial) (by kernel_rfl) (by kernel_rfl) (by kernel_rfl) (by kernel_rfl) (by kernel_rfl) (of_decide_eq_true (by kernel_rfl))
def l_laws_FnCuts_35 : Nat → Int → Int → Int → (List D_A3) → Int → Int → Int → (List D_A3) → Int → Int → Int → (List D_A3) → Int → Int → Int → Int → Bool → Int → Int → (List D_A2) → Int → Option (denL R_laws_FnCuts) := hid (fun m0 p0 p1 p2 p3 p4 p5 p6 p7 p8 p9 p10 p11 p12 p13 p14 p15 p16 p17 p18 p19 p20 => L_laws_FnCuts_35 N P_laws_rBig P_spec_DrawCutHeap P_impl_CutHeap P_spec_CutHeap P_laws_rHeap P_impl_CutFaces P_spec_CutFaces P_spec_DrawPiecesAfter P_impl_PiecesAfter P_spec_PiecesAfter P_laws_rLists P_spec_DrawGlueHeaps P_impl_GlueHeaps P_spec_GlueHeaps P_impl_FewestCuts P_spec_FewestCuts P_impl_IsHeap P_impl_PartsOf P_laws_rAll P_impl_SurfaceOf m0 p0 p1 p2 p3 p4 p5 p6 p7 p8 p9 p10 p11 p12 p13 p14 p15 p16 p17 p18 p19 p20)
theorem h_laws_FnCuts_35 : l_laws_FnCuts_35 = fun m0 p0 p1 p2 p3 p4 p5 p6 p7 p8 p9 p10 p11 p12 p13 p14 p15 p16 p17 p18 p19 p20 => L_laws_FnCuts_35 N P_laws_rBig P_spec_DrawCutHeap P_impl_CutHeap P_spec_CutHeap P_laws_rHeap P_impl_CutFaces P_spec_CutFaces P_spec_DrawPiecesAfter P_impl_PiecesAfter P_spec_PiecesAfter P_laws_rLists P_spec_DrawGlueHeaps P_impl_GlueHeaps P_spec_GlueHeaps P_impl_FewestCuts P_spec_FewestCuts P_impl_IsHeap P_impl_PartsOf P_laws_rAll P_impl_SurfaceOf m0 p0 p1 p2 p3 p4 p5 p6 p7 p8 p9 p10 p11 p12 p13 p14 p15 p16 p17 p18 p19 p20 := hid_eq _
def l_laws_FnCuts_38 : Nat → Nat → Int → Int → Int → (List D_A3) → Int → Int → Int → (List D_A3) → Int → Int → Int → (List D_A3) → Int → Int → Int → Int → Bool → Int → Int → (List D_A2) → Int → Int → Option (denL R_laws_FnCuts) := hid (fun m0 m1 p0 p1 p2 p3 p4 p5 p6 p7 p8 p9 p10 p11 p12 p13 p14 p15 p16 p17 p18 p19 p20 p21 => L_laws_FnCuts_38 N P_laws_rBig P_spec_DrawCutHeap P_impl_CutHeap P_spec_CutHeap P_laws_rHeap P_impl_CutFaces P_spec_CutFaces P_spec_DrawPiecesAfter P_impl_PiecesAfter P_spec_PiecesAfter P_laws_rLists P_spec_DrawGlueHeaps P_impl_GlueHeaps P_spec_GlueHeaps P_impl_FewestCuts P_spec_FewestCuts P_impl_IsHeap P_impl_PartsOf P_laws_rAll P_impl_SurfaceOf m0 m1 p0 p1 p2 p3 p4 p5 p6 p7 p8 p9 p10 p11 p12 p13 p14 p15 p16 p17 p18 p19 p20 p21)
theorem h_laws_FnCuts_38 : l_laws_FnCuts_38 = fun m0 m1 p0 p1 p2 p3 p4 p5 p6 p7 p8 p9 p10 p11 p12 p13 p14 p15 p16 p17 p18 p19 p20 p21 => L_laws_FnCuts_38 N P_laws_rBig P_spec_DrawCutHeap P_impl_CutHeap P_spec_CutHeap P_laws_rHeap P_impl_CutFaces P_spec_CutFaces P_spec_DrawPiecesAfter P_impl_PiecesAfter P_spec_PiecesAfter P_laws_rLists P_spec_DrawGlueHeaps P_impl_GlueHeaps P_spec_GlueHeaps P_impl_FewestCuts P_spec_FewestCuts P_impl_IsHeap P_impl_PartsOf P_laws_rAll P_impl_SurfaceOf m0 m1 p0 p1 p2 p3 p4 p5 p6 p7 p8 p9 p10 p11 p12 p13 p14 p15 p16 p17 p18 p19 p20 p21 := hid_eq _
theorem p_laws_FnCuts (a0 : List Int) : P_laws_FnCuts (a0, ()) = 
 Option.bind (P_laws_rBig (a0, ())) fun r0 =>
 bif r0.1 then
 some (true, ())
 else
 Option.bind (P_spec_DrawCutHeap (a0, ())) fun r2 =>
 Option.bind (P_impl_CutHeap (r2.1, r2.2.1, r2.2.2.1, ())) fun r3 =>
 Option.bind (P_spec_CutHeap (r2.1, r2.2.1, r2.2.2.1, ())) fun r4 =>
 bif !(r3.2.2.1 == r4.2.2.1) then
 some (false, ())
 else
 Option.bind (P_laws_rHeap (r3.1, r4.1, ())) fun r6 =>
 bif !r6.1 then
 some (false, ())
 else
 Option.bind (P_laws_rHeap (r3.2.1, r4.2.1, ())) fun r8 =>
 bif !r8.1 then
 some (false, ())
 else
 Option.bind (P_impl_CutFaces (r2.1, r2.2.1, r2.2.2.1, ())) fun r10 =>
 Option.bind (P_spec_CutFaces (r2.1, r2.2.1, r2.2.2.1, ())) fun r11 =>
 bif !decide (r10.1 = r11.1) then
 some (false, ())
 else
 bif !(r10.2.1 == r11.2.1) then
 some (false, ())
 else
 bif !(r10.2.1 == r3.2.2.1) then
 some (false, ())
 else
 Option.bind (P_spec_DrawPiecesAfter (a0, ())) fun r15 =>
 Option.bind (P_impl_PiecesAfter (r15.1, r15.2.1, ())) fun r16 =>
 Option.bind (P_spec_PiecesAfter (r15.1, r15.2.1, ())) fun r17 =>
 bif !(r16.2.1 == r17.2.1) then
 some (false, ())
 else
 Option.bind (P_laws_rLists (r16.1, r17.1, ())) fun r19 =>
 bif !r19.1 then
 some (false, ())
 else
 Option.bind (P_spec_DrawGlueHeaps (a0, ())) fun r21 =>
 Option.bind (P_impl_GlueHeaps (r21.1, r21.2.1, r21.2.2.1, ())) fun r22 =>
 Option.bind (P_spec_GlueHeaps (r21.1, r21.2.1, r21.2.2.1, ())) fun r23 =>
 bif !(r22.2.1 == r23.2.1) then
 some (false, ())
 else
 Option.bind (P_laws_rHeap (r22.1, r23.1, ())) fun r25 =>
 bif !r25.1 then
 some (false, ())
 else
 Option.bind (P_impl_FewestCuts (r2.1, ())) fun r27 =>
 Option.bind (P_spec_FewestCuts (r2.1, ())) fun r28 =>
 bif !decide (r27.1 = r28.1) then
 some (false, ())
 else
 bif !(r27.2.1 == r28.2.1) then
 some (false, ())
 else
 Option.bind (P_impl_IsHeap (r2.1, ())) fun r31 =>
 bif !(r27.2.1 == r31.1) then
 some (false, ())
 else
 bif r16.2.1 then
 Option.bind (P_impl_PartsOf (r15.1, ())) fun r34 =>
 bif !r34.2.1 then
 some (false, ())
 else
 bif decide ((List.length r16.1 : Int) < (List.length r34.1 : Int)) then
 some (false, ())
 else
 Option.bind (P_laws_rAll (r16.1, ())) fun r37 =>
 bif !decide (r37.1 = (List.length r15.1.2.2.2.1 : Int)) then
 some (false, ())
 else
 bif r22.2.1 then
 bif !decide ((List.length r22.1.2.2.2.1 : Int) = (IntKind.wrap .i64 ((List.length r21.1.2.2.2.1 : Int) + (List.length r21.2.1.2.2.2.1 : Int)))) then
 some (false, ())
 else
 bif r27.2.1 then
 l_laws_FnCuts_35 N r2.1.1 r2.1.2.1 r2.1.2.2.1 r2.1.2.2.2.1 r3.1.1 r3.1.2.1 r3.1.2.2.1 r3.1.2.2.2.1 r3.2.1.1 r3.2.1.2.1 r3.2.1.2.2.1 r3.2.1.2.2.2.1 r2.1.1 r2.1.2.1 r2.1.2.2.1 r2.2.1 r3.2.2.1 r10.1 r27.1 ([] : List D_A2) 0
 else
 bif !r3.2.2.1 then
 some (true, ())
 else
 Option.bind (P_impl_GlueHeaps (r3.1, r3.2.1, r2.2.1, ())) fun r43 =>
 Option.bind (P_impl_SurfaceOf (r3.1, ())) fun r44 =>
 Option.bind (P_impl_SurfaceOf (r3.2.1, ())) fun r45 =>
 Option.bind (P_impl_SurfaceOf (r2.1, ())) fun r46 =>
 bif r43.2.1 then
 bif r44.2.1 then
 bif r45.2.1 then
 bif r46.2.1 then
 Option.bind (P_laws_rHeap (r43.1, r2.1, ())) fun r51 =>
 bif r51.1 then
 some (decide ((IntKind.wrap .i64 (r44.1 + r45.1)) = (IntKind.wrap .i64 (r46.1 + (IntKind.wrap .i64 (2 * r10.1))))), ())
 else
 some (false, ())
 else
 some (false, ())
 else
 some (false, ())
 else
 some (false, ())
 else
 some (false, ())
 else
 bif r27.2.1 then
 l_laws_FnCuts_35 N r2.1.1 r2.1.2.1 r2.1.2.2.1 r2.1.2.2.2.1 r3.1.1 r3.1.2.1 r3.1.2.2.1 r3.1.2.2.2.1 r3.2.1.1 r3.2.1.2.1 r3.2.1.2.2.1 r3.2.1.2.2.2.1 r2.1.1 r2.1.2.1 r2.1.2.2.1 r2.2.1 r3.2.2.1 r10.1 r27.1 ([] : List D_A2) 0
 else
 bif !r3.2.2.1 then
 some (true, ())
 else
 Option.bind (P_impl_GlueHeaps (r3.1, r3.2.1, r2.2.1, ())) fun r42 =>
 Option.bind (P_impl_SurfaceOf (r3.1, ())) fun r43 =>
 Option.bind (P_impl_SurfaceOf (r3.2.1, ())) fun r44 =>
 Option.bind (P_impl_SurfaceOf (r2.1, ())) fun r45 =>
 bif r42.2.1 then
 bif r43.2.1 then
 bif r44.2.1 then
 bif r45.2.1 then
 Option.bind (P_laws_rHeap (r42.1, r2.1, ())) fun r50 =>
 bif r50.1 then
 some (decide ((IntKind.wrap .i64 (r43.1 + r44.1)) = (IntKind.wrap .i64 (r45.1 + (IntKind.wrap .i64 (2 * r10.1))))), ())
 else
 some (false, ())
 else
 some (false, ())
 else
 some (false, ())
 else
 some (false, ())
 else
 some (false, ())
 else
 bif r22.2.1 then
 bif !decide ((List.length r22.1.2.2.2.1 : Int) = (IntKind.wrap .i64 ((List.length r21.1.2.2.2.1 : Int) + (List.length r21.2.1.2.2.2.1 : Int)))) then
 some (false, ())
 else
 bif r27.2.1 then
 l_laws_FnCuts_35 N r2.1.1 r2.1.2.1 r2.1.2.2.1 r2.1.2.2.2.1 r3.1.1 r3.1.2.1 r3.1.2.2.1 r3.1.2.2.2.1 r3.2.1.1 r3.2.1.2.1 r3.2.1.2.2.1 r3.2.1.2.2.2.1 r2.1.1 r2.1.2.1 r2.1.2.2.1 r2.2.1 r3.2.2.1 r10.1 r27.1 ([] : List D_A2) 0
 else
 bif !r3.2.2.1 then
 some (true, ())
 else
 Option.bind (P_impl_GlueHeaps (r3.1, r3.2.1, r2.2.1, ())) fun r38 =>
 Option.bind (P_impl_SurfaceOf (r3.1, ())) fun r39 =>
 Option.bind (P_impl_SurfaceOf (r3.2.1, ())) fun r40 =>
 Option.bind (P_impl_SurfaceOf (r2.1, ())) fun r41 =>
 bif r38.2.1 then
 bif r39.2.1 then
 bif r40.2.1 then
 bif r41.2.1 then
 Option.bind (P_laws_rHeap (r38.1, r2.1, ())) fun r46 =>
 bif r46.1 then
 some (decide ((IntKind.wrap .i64 (r39.1 + r40.1)) = (IntKind.wrap .i64 (r41.1 + (IntKind.wrap .i64 (2 * r10.1))))), ())
 else
 some (false, ())
 else
 some (false, ())
 else
 some (false, ())
 else
 some (false, ())
 else
 some (false, ())
 else
 bif r27.2.1 then
 l_laws_FnCuts_35 N r2.1.1 r2.1.2.1 r2.1.2.2.1 r2.1.2.2.2.1 r3.1.1 r3.1.2.1 r3.1.2.2.1 r3.1.2.2.2.1 r3.2.1.1 r3.2.1.2.1 r3.2.1.2.2.1 r3.2.1.2.2.2.1 r2.1.1 r2.1.2.1 r2.1.2.2.1 r2.2.1 r3.2.2.1 r10.1 r27.1 ([] : List D_A2) 0
 else
 bif !r3.2.2.1 then
 some (true, ())
 else
 Option.bind (P_impl_GlueHeaps (r3.1, r3.2.1, r2.2.1, ())) fun r37 =>
 Option.bind (P_impl_SurfaceOf (r3.1, ())) fun r38 =>
 Option.bind (P_impl_SurfaceOf (r3.2.1, ())) fun r39 =>
 Option.bind (P_impl_SurfaceOf (r2.1, ())) fun r40 =>
 bif r37.2.1 then
 bif r38.2.1 then
 bif r39.2.1 then
 bif r40.2.1 then
 Option.bind (P_laws_rHeap (r37.1, r2.1, ())) fun r45 =>
 bif r45.1 then
 some (decide ((IntKind.wrap .i64 (r38.1 + r39.1)) = (IntKind.wrap .i64 (r40.1 + (IntKind.wrap .i64 (2 * r10.1))))), ())
 else
 some (false, ())
 else
 some (false, ())
 else
 some (false, ())
 else
 some (false, ())
 else
 some (false, ()) := by
 rewrite [h_laws_FnCuts, h_laws_FnCuts_35]
 exact e_laws_FnCuts N P_laws_rBig P_spec_DrawCutHeap P_impl_CutHeap P_spec_CutHeap P_laws_rHeap P_impl_CutFaces P_spec_CutFaces P_spec_DrawPiecesAfter P_impl_PiecesAfter P_spec_PiecesAfter P_laws_rLists P_spec_DrawGlueHeaps P_impl_GlueHeaps P_spec_GlueHeaps P_impl_FewestCuts P_spec_FewestCuts P_impl_IsHeap P_impl_PartsOf P_laws_rAll P_impl_SurfaceOf a0
theorem q_laws_FnCuts_35 (m0 : Nat) (p0 p1 p2 : Int) (p3 : List D_A3) (p4 p5 p6 : Int) (p7 : List D_A3) (p8 p9 p10 : Int) (p11 : List D_A3) (p12 p13 : Int) (p14 p15 : Int) (p16 : Bool) (p17 p18 : Int) (p19 : List D_A2) (p20 : Int) : l_laws_FnCuts_35 (m0 + 1) p0 p1 p2 p3 p4 p5 p6 p7 p8 p9 p10 p11 p12 p13 p14 p15 p16 p17 p18 p19 p20 = 
 bif decide (p20 < 3) then
 l_laws_FnCuts_38 m0 N p0 p1 p2 p3 p4 p5 p6 p7 p8 p9 p10 p11 p12 p13 p14 p15 p16 p17 p18 p19 p20 1
 else
 Option.bind (P_impl_PiecesAfter ((p0, (p1, (p2, (p3, ())))), p19, ())) fun r1 =>
 bif !r1.2.1 then
 some (false, ())
 else
 bif !decide ((List.length p19 : Int) = p18) then
 some (false, ())
 else
 bif !decide ((List.length r1.1 : Int) = (List.length p3 : Int)) then
 some (false, ())
 else
 bif !p16 then
 some (true, ())
 else
 Option.bind (P_impl_GlueHeaps ((p4, (p5, (p6, (p7, ())))), (p8, (p9, (p10, (p11, ())))), p15, ())) fun r6 =>
 Option.bind (P_impl_SurfaceOf ((p4, (p5, (p6, (p7, ())))), ())) fun r7 =>
 Option.bind (P_impl_SurfaceOf ((p8, (p9, (p10, (p11, ())))), ())) fun r8 =>
 Option.bind (P_impl_SurfaceOf ((p0, (p1, (p2, (p3, ())))), ())) fun r9 =>
 bif r6.2.1 then
 bif r7.2.1 then
 bif r8.2.1 then
 bif r9.2.1 then
 Option.bind (P_laws_rHeap (r6.1, (p0, (p1, (p2, (p3, ())))), ())) fun r14 =>
 bif r14.1 then
 some (decide ((IntKind.wrap .i64 (r7.1 + r8.1)) = (IntKind.wrap .i64 (r9.1 + (IntKind.wrap .i64 (2 * p17))))), ())
 else
 some (false, ())
 else
 some (false, ())
 else
 some (false, ())
 else
 some (false, ())
 else
 some (false, ()) := by
 rewrite [h_laws_FnCuts_35, h_laws_FnCuts_38]
 exact e_laws_FnCuts_35 N P_laws_rBig P_spec_DrawCutHeap P_impl_CutHeap P_spec_CutHeap P_laws_rHeap P_impl_CutFaces P_spec_CutFaces P_spec_DrawPiecesAfter P_impl_PiecesAfter P_spec_PiecesAfter P_laws_rLists P_spec_DrawGlueHeaps P_impl_GlueHeaps P_spec_GlueHeaps P_impl_FewestCuts P_spec_FewestCuts P_impl_IsHeap P_impl_PartsOf P_laws_rAll P_impl_SurfaceOf m0 p0 p1 p2 p3 p4 p5 p6 p7 p8 p9 p10 p11 p12 p13 p14 p15 p16 p17 p18 p19 p20
theorem q_laws_FnCuts_38 (m0 m1 : Nat) (p0 p1 p2 : Int) (p3 : List D_A3) (p4 p5 p6 : Int) (p7 : List D_A3) (p8 p9 p10 : Int) (p11 : List D_A3) (p12 p13 : Int) (p14 p15 : Int) (p16 : Bool) (p17 p18 : Int) (p19 : List D_A2) (p20 p21 : Int) : l_laws_FnCuts_38 m0 (m1 + 1) p0 p1 p2 p3 p4 p5 p6 p7 p8 p9 p10 p11 p12 p13 p14 p15 p16 p17 p18 p19 p20 p21 = 
 bif inB p20 3 then
 bif decide (p21 < (bif decide (p20 = (0 : Int)) then p12 else (bif decide (p20 = (1 : Int)) then p13 else p14))) then
 Option.bind (P_impl_CutFaces ((p0, (p1, (p2, (p3, ())))), p20, p21, ())) fun r2 =>
 bif !r2.2.1 then
 some (false, ())
 else
 bif decide (r2.1 > 0) then
 bif (decide (((List.length p19) + (List.length ([(p20, (p21, ()))] : List D_A2))) * 16 ≤ 140737488355328) && decide (((List.length p19) + (List.length ([(p20, (p21, ()))] : List D_A2))) ≤ 140737488355328)) then
 l_laws_FnCuts_38 m0 m1 p0 p1 p2 p3 p4 p5 p6 p7 p8 p9 p10 p11 p12 p13 p14 p15 p16 p17 p18 (p19 ++ ([(p20, (p21, ()))] : List D_A2)) p20 (IntKind.wrap .i64 (p21 + 1))
 else none
 else
 l_laws_FnCuts_38 m0 m1 p0 p1 p2 p3 p4 p5 p6 p7 p8 p9 p10 p11 p12 p13 p14 p15 p16 p17 p18 p19 p20 (IntKind.wrap .i64 (p21 + 1))
 else
 l_laws_FnCuts_35 m0 p0 p1 p2 p3 p4 p5 p6 p7 p8 p9 p10 p11 p12 p13 p14 p15 p16 p17 p18 p19 (IntKind.wrap .i64 (p20 + 1))
 else none := by
 rewrite [h_laws_FnCuts_35, h_laws_FnCuts_38]
 exact e_laws_FnCuts_38 N P_laws_rBig P_spec_DrawCutHeap P_impl_CutHeap P_spec_CutHeap P_laws_rHeap P_impl_CutFaces P_spec_CutFaces P_spec_DrawPiecesAfter P_impl_PiecesAfter P_spec_PiecesAfter P_laws_rLists P_spec_DrawGlueHeaps P_impl_GlueHeaps P_spec_GlueHeaps P_impl_FewestCuts P_spec_FewestCuts P_impl_IsHeap P_impl_PartsOf P_laws_rAll P_impl_SurfaceOf m0 m1 p0 p1 p2 p3 p4 p5 p6 p7 p8 p9 p10 p11 p12 p13 p14 p15 p16 p17 p18 p19 p20 p21
end Go.VI
