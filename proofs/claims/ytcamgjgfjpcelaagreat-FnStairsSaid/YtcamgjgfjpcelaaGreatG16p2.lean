/- What the functions of the seat compute: part 2. -/
import Derived.Test.YtcamgjgfjpcelaaGreatG16p1
namespace Go.VI
open Go.Proofs
set_option maxRecDepth 100000
abbrev As_laws_FnStairs : List ATy := [.data false (.sl (.int .u8))]
abbrev R_laws_FnStairs : List (Bool × Ty) := [(false, .bool)]
abbrev M_laws_FnStairs : List RMode := []
abbrev Ft_laws_FnStairs : Type := (List Int) × Unit → Option (Bool × Unit)
noncomputable def X_laws_FnStairs : Ctx := { types := TT, globals := [], con := [(6, C_laws_vBig), (7, C_spec_DrawIsStair), (8, C_impl_IsStair), (9, C_spec_IsStair), (10, C_impl_StairHeights), (11, C_spec_StairHeights), (12, C_impl_StairCorners), (13, C_spec_StairCorners), (14, C_impl_StairHollows), (15, C_spec_StairHollows), (16, C_impl_OtherStair), (17, C_spec_OtherStair), (18, C_impl_TurnStair), (19, C_spec_TurnStair), (20, C_impl_RankStair), (21, C_spec_RankStair), (22, C_laws_vInts), (23, C_laws_vCells), (24, C_laws_vHeap), (25, C_impl_StairAt), (26, C_impl_StackHeap), (27, C_impl_IsSettled), (28, C_impl_TakeCube), (29, C_impl_JoinHeaps), (30, C_impl_CommonCubes)], keep := [(36, ⟨[.box 3, .box 20, .tmp 3, .tmp 12, .tmp 20, .tmp 44], []⟩)], results := [.tmp 2], ntmps := 431, n := N }
noncomputable def B_laws_FnStairs : Code := (Tryz.f3.body).getD .skip
noncomputable def L_laws_FnStairs_36 (m0 : Nat) (p0 p1 p2 : Int) (p3 : List D_A3) (p4 p5 p6 : Int) (p7 p8 : List D_A3) (p9 : Int) : Option (denL R_laws_FnStairs) := loopF X_laws_FnStairs B_laws_FnStairs R_laws_FnStairs M_laws_FnStairs 36 [m0] [(.ver, .num 1), (.box 3, .box 0 false [.int .i64 p0, .int .i64 p1, .int .i64 p2, .own 45 T_A3 0 p3]), (.box 20, .box 0 false [.int .i64 p4, .int .i64 p5, .int .i64 p6, .own 45 T_A3 0 p7]), (.tmp 3, .val false [.addr 3 0 0]), (.tmp 12, .val false [.own 45 T_A3 0 p8]), (.tmp 20, .val false [.addr 20 0 0]), (.tmp 44, .val false [.int .i64 p9])]
noncomputable def P_laws_FnStairs : Ft_laws_FnStairs := hid (runF X_laws_FnStairs B_laws_FnStairs As_laws_FnStairs R_laws_FnStairs M_laws_FnStairs)
theorem h_laws_FnStairs : P_laws_FnStairs = runF X_laws_FnStairs B_laws_FnStairs As_laws_FnStairs R_laws_FnStairs M_laws_FnStairs := hid_eq _
noncomputable def C_laws_FnStairs : Contract := ⟨As_laws_FnStairs, R_laws_FnStairs, M_laws_FnStairs, P_laws_FnStairs⟩
theorem s_laws_FnStairs : Sound Tryz.prog GG 3 C_laws_FnStairs := by
  unfold C_laws_FnStairs; rw [h_laws_FnStairs]
  exact mkS Tryz.f3 ⟨s_laws_vBig, s_spec_DrawIsStair, s_impl_IsStair, s_spec_IsStair, s_impl_StairHeights, s_spec_StairHeights, s_impl_StairCorners, s_spec_StairCorners, s_impl_StairHollows, s_spec_StairHollows, s_impl_OtherStair, s_spec_OtherStair, s_impl_TurnStair, s_spec_TurnStair, s_impl_RankStair, s_spec_RankStair, s_laws_vInts, s_laws_vCells, s_laws_vHeap, s_impl_StairAt, s_impl_StackHeap, s_impl_IsSettled, s_impl_TakeCube, s_impl_JoinHeaps, s_impl_CommonCubes, trivial⟩ trivial
noncomputable def l_laws_FnStairs_36 := hid (L_laws_FnStairs_36)
theorem h_laws_FnStairs_36 : l_laws_FnStairs_36 = L_laws_FnStairs_36 := hid_eq _
theorem p_laws_FnStairs (a0 : List Int) : P_laws_FnStairs (a0, ()) =
  Option.bind (P_laws_vBig (a0, ())) fun r0 =>
  bif r0.1 then
    some (true, ())
  else
    Option.bind (P_spec_DrawIsStair (a0, ())) fun r2 =>
    Option.bind (P_impl_IsStair (r2.1, ())) fun r3 =>
    Option.bind (P_spec_IsStair (r2.1, ())) fun r4 =>
    Option.bind (P_impl_StairHeights (r2.1, ())) fun r5 =>
    Option.bind (P_spec_StairHeights (r2.1, ())) fun r6 =>
    Option.bind (P_impl_StairCorners (r2.1, ())) fun r7 =>
    Option.bind (P_spec_StairCorners (r2.1, ())) fun r8 =>
    Option.bind (P_impl_StairHollows (r2.1, ())) fun r9 =>
    Option.bind (P_spec_StairHollows (r2.1, ())) fun r10 =>
    Option.bind (P_impl_OtherStair (r2.1, ())) fun r11 =>
    Option.bind (P_spec_OtherStair (r2.1, ())) fun r12 =>
    Option.bind (P_impl_TurnStair (r2.1, ())) fun r13 =>
    Option.bind (P_spec_TurnStair (r2.1, ())) fun r14 =>
    Option.bind (P_impl_RankStair (r2.1, ())) fun r15 =>
    Option.bind (P_spec_RankStair (r2.1, ())) fun r16 =>
    bif !(r3.1 == r4.1) then
      some (false, ())
    else
      bif !(r3.2.1 == r4.2.1) then
        some (false, ())
      else
        bif !(r5.2.1 == r6.2.1) then
          some (false, ())
        else
          Option.bind (P_laws_vInts (r5.1, r6.1, ())) fun r20 =>
          bif !r20.1 then
            some (false, ())
          else
            bif !(r7.2.1 == r8.2.1) then
              some (false, ())
            else
              Option.bind (P_laws_vCells (r7.1, r8.1, ())) fun r23 =>
              bif !r23.1 then
                some (false, ())
              else
                bif !(r9.2.1 == r10.2.1) then
                  some (false, ())
                else
                  Option.bind (P_laws_vCells (r9.1, r10.1, ())) fun r26 =>
                  bif !r26.1 then
                    some (false, ())
                  else
                    bif !(r11.2.1 == r12.2.1) then
                      some (false, ())
                    else
                      Option.bind (P_laws_vHeap (r11.1, r12.1, ())) fun r29 =>
                      bif !r29.1 then
                        some (false, ())
                      else
                        bif !(r13.2.1 == r14.2.1) then
                          some (false, ())
                        else
                          Option.bind (P_laws_vHeap (r13.1, r14.1, ())) fun r32 =>
                          bif !r32.1 then
                            some (false, ())
                          else
                            bif !decide (r15.1 = r16.1) then
                              some (false, ())
                            else
                              bif !(r15.2.1 == r16.2.1) then
                                some (false, ())
                              else
                                bif r3.2.1 then
                                  bif !(r5.2.1 == r3.1) then
                                    some (false, ())
                                  else
                                    bif !(r5.2.1 == r7.2.1) then
                                      some (false, ())
                                    else
                                      bif !(r5.2.1 == r9.2.1) then
                                        some (false, ())
                                      else
                                        bif !(r5.2.1 == r11.2.1) then
                                          some (false, ())
                                        else
                                          bif !(r5.2.1 == r13.2.1) then
                                            some (false, ())
                                          else
                                            bif r15.2.1 then
                                              Option.bind (P_impl_StairAt (r2.1.1, r2.1.2.1, r2.1.2.2.1, r15.1, ())) fun r43 =>
                                              bif !r43.2.1 then
                                                some (false, ())
                                              else
                                                Option.bind (P_laws_vHeap (r43.1, r2.1, ())) fun r45 =>
                                                bif !r45.1 then
                                                  some (false, ())
                                                else
                                                  bif !r5.2.1 then
                                                    some (!r15.2.1, ())
                                                  else
                                                    Option.bind (P_impl_StackHeap (r2.1.1, r2.1.2.1, r2.1.2.2.1, r5.1, ())) fun r48 =>
                                                    Option.bind (P_impl_IsSettled (r2.1, ())) fun r49 =>
                                                    Option.bind (P_impl_OtherStair (r11.1, ())) fun r50 =>
                                                    Option.bind (P_impl_TurnStair (r13.1, ())) fun r51 =>
                                                    Option.bind (P_impl_TurnStair (r51.1, ())) fun r52 =>
                                                    bif !r48.2.1 then
                                                      some (false, ())
                                                    else
                                                      bif !r49.2.1 then
                                                        some (false, ())
                                                      else
                                                        bif !r50.2.1 then
                                                          some (false, ())
                                                        else
                                                          bif !r51.2.1 then
                                                            some (false, ())
                                                          else
                                                            bif !r52.2.1 then
                                                              some (false, ())
                                                            else
                                                              Option.bind (P_laws_vHeap (r48.1, r2.1, ())) fun r58 =>
                                                              bif !r58.1 then
                                                                some (false, ())
                                                              else
                                                                bif !r49.1 then
                                                                  some (false, ())
                                                                else
                                                                  Option.bind (P_laws_vHeap (r50.1, r2.1, ())) fun r61 =>
                                                                  bif !r61.1 then
                                                                    some (false, ())
                                                                  else
                                                                    Option.bind (P_laws_vHeap (r52.1, r2.1, ())) fun r63 =>
                                                                    bif !r63.1 then
                                                                      some (false, ())
                                                                    else
                                                                      bif !decide ((IntKind.wrap .i64 ((List.length r11.1.2.2.2.1 : Int) + (List.length r2.1.2.2.2.1 : Int))) = (IntKind.wrap .i64 ((IntKind.wrap .i64 (r2.1.1 * r2.1.2.1)) * r2.1.2.2.1))) then
                                                                        some (false, ())
                                                                      else
                                                                        bif !(decide ((List.length r7.1 : Int) = 0) == decide ((List.length r2.1.2.2.2.1 : Int) = 0)) then
                                                                          some (false, ())
                                                                        else
                                                                          bif !(decide ((List.length r9.1 : Int) = 0) == decide ((List.length r11.1.2.2.2.1 : Int) = 0)) then
                                                                            some (false, ())
                                                                          else
                                                                            l_laws_FnStairs_36 N r2.1.1 r2.1.2.1 r2.1.2.2.1 r2.1.2.2.2.1 r11.1.1 r11.1.2.1 r11.1.2.2.1 r11.1.2.2.2.1 r7.1 0
                                            else
                                              bif !r5.2.1 then
                                                some (!r15.2.1, ())
                                              else
                                                Option.bind (P_impl_StackHeap (r2.1.1, r2.1.2.1, r2.1.2.2.1, r5.1, ())) fun r44 =>
                                                Option.bind (P_impl_IsSettled (r2.1, ())) fun r45 =>
                                                Option.bind (P_impl_OtherStair (r11.1, ())) fun r46 =>
                                                Option.bind (P_impl_TurnStair (r13.1, ())) fun r47 =>
                                                Option.bind (P_impl_TurnStair (r47.1, ())) fun r48 =>
                                                bif !r44.2.1 then
                                                  some (false, ())
                                                else
                                                  bif !r45.2.1 then
                                                    some (false, ())
                                                  else
                                                    bif !r46.2.1 then
                                                      some (false, ())
                                                    else
                                                      bif !r47.2.1 then
                                                        some (false, ())
                                                      else
                                                        bif !r48.2.1 then
                                                          some (false, ())
                                                        else
                                                          Option.bind (P_laws_vHeap (r44.1, r2.1, ())) fun r54 =>
                                                          bif !r54.1 then
                                                            some (false, ())
                                                          else
                                                            bif !r45.1 then
                                                              some (false, ())
                                                            else
                                                              Option.bind (P_laws_vHeap (r46.1, r2.1, ())) fun r57 =>
                                                              bif !r57.1 then
                                                                some (false, ())
                                                              else
                                                                Option.bind (P_laws_vHeap (r48.1, r2.1, ())) fun r59 =>
                                                                bif !r59.1 then
                                                                  some (false, ())
                                                                else
                                                                  bif !decide ((IntKind.wrap .i64 ((List.length r11.1.2.2.2.1 : Int) + (List.length r2.1.2.2.2.1 : Int))) = (IntKind.wrap .i64 ((IntKind.wrap .i64 (r2.1.1 * r2.1.2.1)) * r2.1.2.2.1))) then
                                                                    some (false, ())
                                                                  else
                                                                    bif !(decide ((List.length r7.1 : Int) = 0) == decide ((List.length r2.1.2.2.2.1 : Int) = 0)) then
                                                                      some (false, ())
                                                                    else
                                                                      bif !(decide ((List.length r9.1 : Int) = 0) == decide ((List.length r11.1.2.2.2.1 : Int) = 0)) then
                                                                        some (false, ())
                                                                      else
                                                                        l_laws_FnStairs_36 N r2.1.1 r2.1.2.1 r2.1.2.2.1 r2.1.2.2.2.1 r11.1.1 r11.1.2.1 r11.1.2.2.1 r11.1.2.2.2.1 r7.1 0
                                else
                                  bif !(r5.2.1 == false) then
                                    some (false, ())
                                  else
                                    bif !(r5.2.1 == r7.2.1) then
                                      some (false, ())
                                    else
                                      bif !(r5.2.1 == r9.2.1) then
                                        some (false, ())
                                      else
                                        bif !(r5.2.1 == r11.2.1) then
                                          some (false, ())
                                        else
                                          bif !(r5.2.1 == r13.2.1) then
                                            some (false, ())
                                          else
                                            bif r15.2.1 then
                                              Option.bind (P_impl_StairAt (r2.1.1, r2.1.2.1, r2.1.2.2.1, r15.1, ())) fun r43 =>
                                              bif !r43.2.1 then
                                                some (false, ())
                                              else
                                                Option.bind (P_laws_vHeap (r43.1, r2.1, ())) fun r45 =>
                                                bif !r45.1 then
                                                  some (false, ())
                                                else
                                                  bif !r5.2.1 then
                                                    some (!r15.2.1, ())
                                                  else
                                                    Option.bind (P_impl_StackHeap (r2.1.1, r2.1.2.1, r2.1.2.2.1, r5.1, ())) fun r48 =>
                                                    Option.bind (P_impl_IsSettled (r2.1, ())) fun r49 =>
                                                    Option.bind (P_impl_OtherStair (r11.1, ())) fun r50 =>
                                                    Option.bind (P_impl_TurnStair (r13.1, ())) fun r51 =>
                                                    Option.bind (P_impl_TurnStair (r51.1, ())) fun r52 =>
                                                    bif !r48.2.1 then
                                                      some (false, ())
                                                    else
                                                      bif !r49.2.1 then
                                                        some (false, ())
                                                      else
                                                        bif !r50.2.1 then
                                                          some (false, ())
                                                        else
                                                          bif !r51.2.1 then
                                                            some (false, ())
                                                          else
                                                            bif !r52.2.1 then
                                                              some (false, ())
                                                            else
                                                              Option.bind (P_laws_vHeap (r48.1, r2.1, ())) fun r58 =>
                                                              bif !r58.1 then
                                                                some (false, ())
                                                              else
                                                                bif !r49.1 then
                                                                  some (false, ())
                                                                else
                                                                  Option.bind (P_laws_vHeap (r50.1, r2.1, ())) fun r61 =>
                                                                  bif !r61.1 then
                                                                    some (false, ())
                                                                  else
                                                                    Option.bind (P_laws_vHeap (r52.1, r2.1, ())) fun r63 =>
                                                                    bif !r63.1 then
                                                                      some (false, ())
                                                                    else
                                                                      bif !decide ((IntKind.wrap .i64 ((List.length r11.1.2.2.2.1 : Int) + (List.length r2.1.2.2.2.1 : Int))) = (IntKind.wrap .i64 ((IntKind.wrap .i64 (r2.1.1 * r2.1.2.1)) * r2.1.2.2.1))) then
                                                                        some (false, ())
                                                                      else
                                                                        bif !(decide ((List.length r7.1 : Int) = 0) == decide ((List.length r2.1.2.2.2.1 : Int) = 0)) then
                                                                          some (false, ())
                                                                        else
                                                                          bif !(decide ((List.length r9.1 : Int) = 0) == decide ((List.length r11.1.2.2.2.1 : Int) = 0)) then
                                                                            some (false, ())
                                                                          else
                                                                            l_laws_FnStairs_36 N r2.1.1 r2.1.2.1 r2.1.2.2.1 r2.1.2.2.2.1 r11.1.1 r11.1.2.1 r11.1.2.2.1 r11.1.2.2.2.1 r7.1 0
                                            else
                                              bif !r5.2.1 then
                                                some (!r15.2.1, ())
                                              else
                                                Option.bind (P_impl_StackHeap (r2.1.1, r2.1.2.1, r2.1.2.2.1, r5.1, ())) fun r44 =>
                                                Option.bind (P_impl_IsSettled (r2.1, ())) fun r45 =>
                                                Option.bind (P_impl_OtherStair (r11.1, ())) fun r46 =>
                                                Option.bind (P_impl_TurnStair (r13.1, ())) fun r47 =>
                                                Option.bind (P_impl_TurnStair (r47.1, ())) fun r48 =>
                                                bif !r44.2.1 then
                                                  some (false, ())
                                                else
                                                  bif !r45.2.1 then
                                                    some (false, ())
                                                  else
                                                    bif !r46.2.1 then
                                                      some (false, ())
                                                    else
                                                      bif !r47.2.1 then
                                                        some (false, ())
                                                      else
                                                        bif !r48.2.1 then
                                                          some (false, ())
                                                        else
                                                          Option.bind (P_laws_vHeap (r44.1, r2.1, ())) fun r54 =>
                                                          bif !r54.1 then
                                                            some (false, ())
                                                          else
                                                            bif !r45.1 then
                                                              some (false, ())
                                                            else
                                                              Option.bind (P_laws_vHeap (r46.1, r2.1, ())) fun r57 =>
                                                              bif !r57.1 then
                                                                some (false, ())
                                                              else
                                                                Option.bind (P_laws_vHeap (r48.1, r2.1, ())) fun r59 =>
                                                                bif !r59.1 then
                                                                  some (false, ())
                                                                else
                                                                  bif !decide ((IntKind.wrap .i64 ((List.length r11.1.2.2.2.1 : Int) + (List.length r2.1.2.2.2.1 : Int))) = (IntKind.wrap .i64 ((IntKind.wrap .i64 (r2.1.1 * r2.1.2.1)) * r2.1.2.2.1))) then
                                                                    some (false, ())
                                                                  else
                                                                    bif !(decide ((List.length r7.1 : Int) = 0) == decide ((List.length r2.1.2.2.2.1 : Int) = 0)) then
                                                                      some (false, ())
                                                                    else
                                                                      bif !(decide ((List.length r9.1 : Int) = 0) == decide ((List.length r11.1.2.2.2.1 : Int) = 0)) then
                                                                        some (false, ())
                                                                      else
                                                                        l_laws_FnStairs_36 N r2.1.1 r2.1.2.1 r2.1.2.2.1 r2.1.2.2.2.1 r11.1.1 r11.1.2.1 r11.1.2.2.1 r11.1.2.2.2.1 r7.1 0 := by
  rewrite [h_laws_FnStairs, h_laws_FnStairs_36]
  kernel_rfl
theorem q_laws_FnStairs_36 (m0 : Nat) (p0 p1 p2 : Int) (p3 : List D_A3) (p4 p5 p6 : Int) (p7 p8 : List D_A3) (p9 : Int) : l_laws_FnStairs_36 (m0 + 1) p0 p1 p2 p3 p4 p5 p6 p7 p8 p9 =
  bif decide (p9 < (List.length p8 : Int)) then
    bif inB p9 (List.length p8) then
      Option.bind (P_impl_TakeCube ((p0, (p1, (p2, (p3, ())))), (nth T_A3 p8 p9), ())) fun r2 =>
      Option.bind (P_impl_IsStair (r2.1, ())) fun r3 =>
      bif !r2.2.1 then
        some (false, ())
      else
        bif !r3.2.1 then
          some (false, ())
        else
          bif !r3.1 then
            some (false, ())
          else
            l_laws_FnStairs_36 m0 p0 p1 p2 p3 p4 p5 p6 p7 p8 (IntKind.wrap .i64 (p9 + 1))
    else none
  else
    Option.bind (P_impl_JoinHeaps ((p0, (p1, (p2, (p3, ())))), (p4, (p5, (p6, (p7, ())))), ())) fun r1 =>
    Option.bind (P_impl_CommonCubes ((p0, (p1, (p2, (p3, ())))), (p4, (p5, (p6, (p7, ())))), ())) fun r2 =>
    Option.bind (P_impl_IsStair (r1.1, ())) fun r3 =>
    Option.bind (P_impl_IsStair (r2.1, ())) fun r4 =>
    bif r1.2.1 then
      bif r2.2.1 then
        bif r3.2.1 then
          bif r4.2.1 then
            bif r3.1 then
              some (r4.1, ())
            else
              some (false, ())
          else
            some (false, ())
        else
          some (false, ())
      else
        some (false, ())
    else
      some (false, ()) := by
  rewrite [h_laws_FnStairs_36]
  kernel_rfl
end Go.VI
