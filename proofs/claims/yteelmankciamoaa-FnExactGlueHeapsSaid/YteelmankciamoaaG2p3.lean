/- What the functions of the seat compute: part 3. -/
import Derived.Test.YteelmankciamoaaG2p2
namespace Go.VI
open Go.Proofs
set_option maxRecDepth 100000

/- 14: loop.example/g01166/laws.FnExactPeelHeap -/
abbrev As_laws_FnExactPeelHeap : List ATy := [.data true T_Heap]
abbrev R_laws_FnExactPeelHeap : List (Bool × Ty) := [(false, .bool)]
abbrev M_laws_FnExactPeelHeap : List RMode := []
abbrev Ft_laws_FnExactPeelHeap : Type := D_Heap × Unit → Option (Bool × Unit)
noncomputable def X_laws_FnExactPeelHeap (n : Nat) (F_laws_szHeap : Ft_laws_szHeap) (F_laws_toHeap : Ft_laws_toHeap) (F_laws_eqHeap : Ft_laws_eqHeap) (F_laws_markHeap : Ft_laws_markHeap) (F_laws_heldHeap : Ft_laws_heldHeap) (F_spec_PeelHeap : Ft_spec_PeelHeap) (F_impl_PeelHeap : Ft_impl_PeelHeap) : Ctx := { types := TT, globals := [], con := [(20, ⟨As_laws_szHeap, R_laws_szHeap, M_laws_szHeap, F_laws_szHeap⟩), (22, ⟨As_laws_toHeap, R_laws_toHeap, M_laws_toHeap, F_laws_toHeap⟩), (24, ⟨As_laws_eqHeap, R_laws_eqHeap, M_laws_eqHeap, F_laws_eqHeap⟩), (34, ⟨As_laws_heldHeap, R_laws_heldHeap, M_laws_heldHeap, F_laws_heldHeap⟩), (52, ⟨As_spec_PeelHeap, R_spec_PeelHeap, M_spec_PeelHeap, F_spec_PeelHeap⟩), (53, ⟨As_impl_PeelHeap, R_impl_PeelHeap, M_impl_PeelHeap, F_impl_PeelHeap⟩)], mcon := [(29, ⟨As_laws_markHeap, R_laws_markHeap, M_laws_markHeap, F_laws_markHeap⟩)], keep := [], results := [.tmp 2], ntmps := 96, n := n }
noncomputable def B_laws_FnExactPeelHeap : Code := (Try.f14.body).getD .skip
theorem e_laws_FnExactPeelHeap (n : Nat) (F_laws_szHeap : Ft_laws_szHeap) (F_laws_toHeap : Ft_laws_toHeap) (F_laws_eqHeap : Ft_laws_eqHeap) (F_laws_markHeap : Ft_laws_markHeap) (F_laws_heldHeap : Ft_laws_heldHeap) (F_spec_PeelHeap : Ft_spec_PeelHeap) (F_impl_PeelHeap : Ft_impl_PeelHeap) (a0 : D_Heap) : runF (X_laws_FnExactPeelHeap n F_laws_szHeap F_laws_toHeap F_laws_eqHeap F_laws_markHeap F_laws_heldHeap F_spec_PeelHeap F_impl_PeelHeap) B_laws_FnExactPeelHeap As_laws_FnExactPeelHeap R_laws_FnExactPeelHeap M_laws_FnExactPeelHeap (a0, ()) = 
  Option.bind (F_laws_szHeap (a0, 1048576, ())) fun r0 =>
  bif decide (r0.1 < 0) then
    some (true, ())
  else
    Option.bind (F_laws_toHeap (a0, ())) fun r2 =>
    Option.bind (F_spec_PeelHeap (r2.1, ())) fun r3 =>
    Option.bind (F_laws_toHeap (a0, ())) fun r4 =>
    Option.bind (F_impl_PeelHeap (r4.1, ())) fun r5 =>
    Option.bind (F_laws_eqHeap (r5.1, r3.1, ())) fun r6 =>
    bif !r6.1 then
      some (false, ())
    else
      bif !(r5.2.1 == r3.2.1) then
        some (false, ())
      else
        Option.bind (F_laws_toHeap (a0, ())) fun r9 =>
        Option.bind (F_laws_eqHeap (r4.1, r9.1, ())) fun r10 =>
        bif !r10.1 then
          some (false, ())
        else
          Option.bind (F_laws_markHeap (r4.1, 1, ())) fun r12 =>
          bif decide (r12.1.1 < 0) then
            some (false, ())
          else
            Option.bind (F_laws_eqHeap (r5.1, r3.1, ())) fun r14 =>
            bif !r14.1 then
              some (false, ())
            else
              bif !(r5.2.1 == r3.2.1) then
                some (false, ())
              else
                Option.bind (F_laws_markHeap (r5.1, 1, ())) fun r17 =>
                Option.bind (F_laws_heldHeap ((r5.1.1, (r5.1.2.1, (r5.1.2.2.1, r17.2.1.2.2.2))), 1, ())) fun r18 =>
                bif decide (r18.1 < 0) then
                  some (false, ())
                else
                  bif !decide (r18.1 = r17.1.1) then
                    some (false, ())
                  else
                    Option.bind (F_laws_toHeap (a0, ())) fun r21 =>
                    Option.bind (F_impl_PeelHeap (r21.1, ())) fun r22 =>
                    Option.bind (F_laws_eqHeap (r22.1, r3.1, ())) fun r23 =>
                    bif !r23.1 then
                      some (false, ())
                    else
                      bif !(r22.2.1 == r3.2.1) then
                        some (false, ())
                      else
                        Option.bind (F_laws_heldHeap ((r5.1.1, (r5.1.2.1, (r5.1.2.2.1, r17.2.1.2.2.2))), 1, ())) fun r26 =>
                        bif decide (r26.1 < 0) then
                          some (false, ())
                        else
                          bif !decide (r26.1 = r17.1.1) then
                            some (false, ())
                          else
                            some (true, ()) := by kernel_rfl
noncomputable def P_laws_FnExactPeelHeap : Ft_laws_FnExactPeelHeap := hid (runF (X_laws_FnExactPeelHeap N P_laws_szHeap P_laws_toHeap P_laws_eqHeap P_laws_markHeap P_laws_heldHeap P_spec_PeelHeap P_impl_PeelHeap) B_laws_FnExactPeelHeap As_laws_FnExactPeelHeap R_laws_FnExactPeelHeap M_laws_FnExactPeelHeap)
theorem h_laws_FnExactPeelHeap : P_laws_FnExactPeelHeap = runF (X_laws_FnExactPeelHeap N P_laws_szHeap P_laws_toHeap P_laws_eqHeap P_laws_markHeap P_laws_heldHeap P_spec_PeelHeap P_impl_PeelHeap) B_laws_FnExactPeelHeap As_laws_FnExactPeelHeap R_laws_FnExactPeelHeap M_laws_FnExactPeelHeap := hid_eq _
noncomputable def C_laws_FnExactPeelHeap : Contract := ⟨As_laws_FnExactPeelHeap, R_laws_FnExactPeelHeap, M_laws_FnExactPeelHeap, P_laws_FnExactPeelHeap⟩
theorem s_laws_FnExactPeelHeap : Sound Try.prog GG 14 C_laws_FnExactPeelHeap := by
  unfold C_laws_FnExactPeelHeap; rw [h_laws_FnExactPeelHeap]
  exact sound_of_run (fn := Try.f14) hmix hstable (tyOK_of ttOK) (hglob (X_laws_FnExactPeelHeap N P_laws_szHeap P_laws_toHeap P_laws_eqHeap P_laws_markHeap P_laws_heldHeap P_spec_PeelHeap P_impl_PeelHeap)) (conOK_of (X := X_laws_FnExactPeelHeap N P_laws_szHeap P_laws_toHeap P_laws_eqHeap P_laws_markHeap P_laws_heldHeap P_spec_PeelHeap P_impl_PeelHeap) ⟨s_laws_szHeap, s_laws_toHeap, s_laws_eqHeap, s_laws_heldHeap, s_spec_PeelHeap, s_impl_PeelHeap, trivial⟩) (mconOK_of (X := X_laws_FnExactPeelHeap N P_laws_szHeap P_laws_toHeap P_laws_eqHeap P_laws_markHeap P_laws_heldHeap P_spec_PeelHeap P_impl_PeelHeap) ⟨s_laws_markHeap, trivial⟩) (by kernel_rfl) (by kernel_rfl) (by kernel_rfl) (by kernel_rfl) (by kernel_rfl) (by decide)
theorem p_laws_FnExactPeelHeap (a0 : D_Heap) : P_laws_FnExactPeelHeap (a0, ()) = 
  Option.bind (P_laws_szHeap (a0, 1048576, ())) fun r0 =>
  bif decide (r0.1 < 0) then
    some (true, ())
  else
    Option.bind (P_laws_toHeap (a0, ())) fun r2 =>
    Option.bind (P_spec_PeelHeap (r2.1, ())) fun r3 =>
    Option.bind (P_laws_toHeap (a0, ())) fun r4 =>
    Option.bind (P_impl_PeelHeap (r4.1, ())) fun r5 =>
    Option.bind (P_laws_eqHeap (r5.1, r3.1, ())) fun r6 =>
    bif !r6.1 then
      some (false, ())
    else
      bif !(r5.2.1 == r3.2.1) then
        some (false, ())
      else
        Option.bind (P_laws_toHeap (a0, ())) fun r9 =>
        Option.bind (P_laws_eqHeap (r4.1, r9.1, ())) fun r10 =>
        bif !r10.1 then
          some (false, ())
        else
          Option.bind (P_laws_markHeap (r4.1, 1, ())) fun r12 =>
          bif decide (r12.1.1 < 0) then
            some (false, ())
          else
            Option.bind (P_laws_eqHeap (r5.1, r3.1, ())) fun r14 =>
            bif !r14.1 then
              some (false, ())
            else
              bif !(r5.2.1 == r3.2.1) then
                some (false, ())
              else
                Option.bind (P_laws_markHeap (r5.1, 1, ())) fun r17 =>
                Option.bind (P_laws_heldHeap ((r5.1.1, (r5.1.2.1, (r5.1.2.2.1, r17.2.1.2.2.2))), 1, ())) fun r18 =>
                bif decide (r18.1 < 0) then
                  some (false, ())
                else
                  bif !decide (r18.1 = r17.1.1) then
                    some (false, ())
                  else
                    Option.bind (P_laws_toHeap (a0, ())) fun r21 =>
                    Option.bind (P_impl_PeelHeap (r21.1, ())) fun r22 =>
                    Option.bind (P_laws_eqHeap (r22.1, r3.1, ())) fun r23 =>
                    bif !r23.1 then
                      some (false, ())
                    else
                      bif !(r22.2.1 == r3.2.1) then
                        some (false, ())
                      else
                        Option.bind (P_laws_heldHeap ((r5.1.1, (r5.1.2.1, (r5.1.2.2.1, r17.2.1.2.2.2))), 1, ())) fun r26 =>
                        bif decide (r26.1 < 0) then
                          some (false, ())
                        else
                          bif !decide (r26.1 = r17.1.1) then
                            some (false, ())
                          else
                            some (true, ()) := by
  rewrite [h_laws_FnExactPeelHeap]
  exact e_laws_FnExactPeelHeap N P_laws_szHeap P_laws_toHeap P_laws_eqHeap P_laws_markHeap P_laws_heldHeap P_spec_PeelHeap P_impl_PeelHeap a0
end Go.VI
