/- What the functions of the seat compute: part 3. -/
import Derived.Test.YtaopponjedombaaGreatG9p2
namespace Go.VI
open Go.Proofs
set_option maxRecDepth 100000

abbrev As_laws_FnBenches : List ATy := [.data false (.sl (.int .u8))]
abbrev R_laws_FnBenches : List (Bool × Ty) := [(false, .bool)]
abbrev M_laws_FnBenches : List RMode := []
abbrev Ft_laws_FnBenches : Type := (List Int) × Unit → Option (Bool × Unit)
noncomputable def X_laws_FnBenches (n : Nat) (F_laws_vBig : Ft_laws_vBig) (F_spec_DrawNewBench : Ft_spec_DrawNewBench) (F_impl_NewBench : Ft_impl_NewBench) (F_spec_NewBench : Ft_spec_NewBench) (F_spec_DrawDoAct : Ft_spec_DrawDoAct) (F_laws_vCut : Ft_laws_vCut) (F_impl_DoAct : Ft_impl_DoAct) (F_spec_DoAct : Ft_spec_DoAct) (F_spec_DrawDoActs : Ft_spec_DrawDoActs) (F_impl_DoActs : Ft_impl_DoActs) (F_spec_DoActs : Ft_spec_DoActs) (F_laws_vBench : Ft_laws_vBench) (F_impl_IsBench : Ft_impl_IsBench) (F_spec_IsBench : Ft_spec_IsBench) (F_laws_vHeap : Ft_laws_vHeap) : Ctx := { types := TT, globals := [], con := [(30, ⟨As_laws_vBig, R_laws_vBig, M_laws_vBig, F_laws_vBig⟩), (31, ⟨As_spec_DrawNewBench, R_spec_DrawNewBench, M_spec_DrawNewBench, F_spec_DrawNewBench⟩), (32, ⟨As_impl_NewBench, R_impl_NewBench, M_impl_NewBench, F_impl_NewBench⟩), (33, ⟨As_spec_NewBench, R_spec_NewBench, M_spec_NewBench, F_spec_NewBench⟩), (34, ⟨As_spec_DrawDoAct, R_spec_DrawDoAct, M_spec_DrawDoAct, F_spec_DrawDoAct⟩), (35, ⟨As_laws_vCut, R_laws_vCut, M_laws_vCut, F_laws_vCut⟩), (36, ⟨As_impl_DoAct, R_impl_DoAct, M_impl_DoAct, F_impl_DoAct⟩), (37, ⟨As_spec_DoAct, R_spec_DoAct, M_spec_DoAct, F_spec_DoAct⟩), (38, ⟨As_spec_DrawDoActs, R_spec_DrawDoActs, M_spec_DrawDoActs, F_spec_DrawDoActs⟩), (39, ⟨As_impl_DoActs, R_impl_DoActs, M_impl_DoActs, F_impl_DoActs⟩), (40, ⟨As_spec_DoActs, R_spec_DoActs, M_spec_DoActs, F_spec_DoActs⟩), (41, ⟨As_laws_vBench, R_laws_vBench, M_laws_vBench, F_laws_vBench⟩), (42, ⟨As_impl_IsBench, R_impl_IsBench, M_impl_IsBench, F_impl_IsBench⟩), (43, ⟨As_spec_IsBench, R_spec_IsBench, M_spec_IsBench, F_spec_IsBench⟩), (44, ⟨As_laws_vHeap, R_laws_vHeap, M_laws_vHeap, F_laws_vHeap⟩)], keep := [], results := [.tmp 2], ntmps := 189, n := n }
noncomputable def B_laws_FnBenches : Code := (Tryz.f4.body).getD .skip
theorem e_laws_FnBenches (n : Nat) (F_laws_vBig : Ft_laws_vBig) (F_spec_DrawNewBench : Ft_spec_DrawNewBench) (F_impl_NewBench : Ft_impl_NewBench) (F_spec_NewBench : Ft_spec_NewBench) (F_spec_DrawDoAct : Ft_spec_DrawDoAct) (F_laws_vCut : Ft_laws_vCut) (F_impl_DoAct : Ft_impl_DoAct) (F_spec_DoAct : Ft_spec_DoAct) (F_spec_DrawDoActs : Ft_spec_DrawDoActs) (F_impl_DoActs : Ft_impl_DoActs) (F_spec_DoActs : Ft_spec_DoActs) (F_laws_vBench : Ft_laws_vBench) (F_impl_IsBench : Ft_impl_IsBench) (F_spec_IsBench : Ft_spec_IsBench) (F_laws_vHeap : Ft_laws_vHeap) (a0 : List Int) : runF (X_laws_FnBenches n F_laws_vBig F_spec_DrawNewBench F_impl_NewBench F_spec_NewBench F_spec_DrawDoAct F_laws_vCut F_impl_DoAct F_spec_DoAct F_spec_DrawDoActs F_impl_DoActs F_spec_DoActs F_laws_vBench F_impl_IsBench F_spec_IsBench F_laws_vHeap) B_laws_FnBenches As_laws_FnBenches R_laws_FnBenches M_laws_FnBenches (a0, ()) = 
 Option.bind (F_laws_vBig (a0, ())) fun r0 =>
 bif r0.1 then
 some (true, ())
 else
 Option.bind (F_spec_DrawNewBench (a0, ())) fun r2 =>
 Option.bind (F_impl_NewBench (r2.1, ())) fun r3 =>
 Option.bind (F_spec_NewBench (r2.1, ())) fun r4 =>
 Option.bind (F_laws_vCut (a0, 1, ())) fun r5 =>
 Option.bind (F_spec_DrawDoAct (r5.1, ())) fun r6 =>
 Option.bind (F_impl_DoAct (r6.1, r6.2.1, ())) fun r7 =>
 Option.bind (F_spec_DoAct (r6.1, r6.2.1, ())) fun r8 =>
 Option.bind (F_laws_vCut (a0, 2, ())) fun r9 =>
 Option.bind (F_spec_DrawDoActs (r9.1, ())) fun r10 =>
 Option.bind (F_impl_DoActs (r10.1, r10.2.1, ())) fun r11 =>
 Option.bind (F_spec_DoActs (r10.1, r10.2.1, ())) fun r12 =>
 bif !(r3.2.1 == r4.2.1) then
 some (false, ())
 else
 Option.bind (F_laws_vBench (r3.1, r4.1, ())) fun r14 =>
 bif !r14.1 then
 some (false, ())
 else
 bif !(r7.2.1 == r8.2.1) then
 some (false, ())
 else
 Option.bind (F_laws_vBench (r7.1, r8.1, ())) fun r17 =>
 bif !r17.1 then
 some (false, ())
 else
 bif !(r11.2.2.1 == r12.2.2.1) then
 some (false, ())
 else
 bif !decide (r11.2.1 = r12.2.1) then
 some (false, ())
 else
 Option.bind (F_laws_vBench (r11.1, r12.1, ())) fun r21 =>
 bif !r21.1 then
 some (false, ())
 else
 Option.bind (F_impl_IsBench (r6.1, ())) fun r23 =>
 Option.bind (F_spec_IsBench (r6.1, ())) fun r24 =>
 bif !(r23.1 == r24.1) then
 some (false, ())
 else
 bif r11.2.2.1 then
 Option.bind (F_impl_IsBench (r11.1, ())) fun r27 =>
 bif !r27.1 then
 some (false, ())
 else
 bif decide (r11.1.2.1 > r10.1.2.1) then
 some (false, ())
 else
 bif !r7.2.1 then
 some (true, ())
 else
 Option.bind (F_impl_IsBench (r7.1, ())) fun r31 =>
 bif !r31.1 then
 some (false, ())
 else
 bif !decide (r7.1.2.2.1 = (IntKind.wrap .i64 (r6.1.2.2.1 + 1))) then
 some (false, ())
 else
 bif decide (r7.1.2.1 > r6.1.2.1) then
 some (false, ())
 else
 bif decide (r7.1.2.2.1 = 1000) then
 some (true, ())
 else
 bif decide (r6.2.1.1 = 3) then
 some (true, ())
 else
 bif decide (r6.2.1.1 = 4) then
 some (true, ())
 else
 bif decide (r6.2.1.1 = 1) then
 Option.bind (F_impl_DoAct (r7.1, (2, r6.2.1.2), ())) fun r39 =>
 bif r39.2.1 then
 Option.bind (F_laws_vHeap (r39.1.1, r6.1.1, ())) fun r41 =>
 some (r41.1, ())
 else
 some (false, ())
 else
 bif decide (r6.2.1.1 = 2) then
 Option.bind (F_impl_DoAct (r7.1, (1, r6.2.1.2), ())) fun r40 =>
 bif r40.2.1 then
 Option.bind (F_laws_vHeap (r40.1.1, r6.1.1, ())) fun r42 =>
 some (r42.1, ())
 else
 some (false, ())
 else
 Option.bind (F_impl_DoAct (r7.1, r6.2.1, ())) fun r40 =>
 bif r40.2.1 then
 Option.bind (F_laws_vHeap (r40.1.1, r6.1.1, ())) fun r42 =>
 some (r42.1, ())
 else
 some (false, ())
 else
 bif !r7.2.1 then
 some (true, ())
 else
 Option.bind (F_impl_IsBench (r7.1, ())) fun r28 =>
 bif !r28.1 then
 some (false, ())
 else
 bif !decide (r7.1.2.2.1 = (IntKind.wrap .i64 (r6.1.2.2.1 + 1))) then
 some (false, ())
 else
 bif decide (r7.1.2.1 > r6.1.2.1) then
 some (false, ())
 else
 bif decide (r7.1.2.2.1 = 1000) then
 some (true, ())
 else
 bif decide (r6.2.1.1 = 3) then
 some (true, ())
 else
 bif decide (r6.2.1.1 = 4) then
 some (true, ())
 else
 bif decide (r6.2.1.1 = 1) then
 Option.bind (F_impl_DoAct (r7.1, (2, r6.2.1.2), ())) fun r36 =>
 bif r36.2.1 then
 Option.bind (F_laws_vHeap (r36.1.1, r6.1.1, ())) fun r38 =>
 some (r38.1, ())
 else
 some (false, ())
 else
 bif decide (r6.2.1.1 = 2) then
 Option.bind (F_impl_DoAct (r7.1, (1, r6.2.1.2), ())) fun r37 =>
 bif r37.2.1 then
 Option.bind (F_laws_vHeap (r37.1.1, r6.1.1, ())) fun r39 =>
 some (r39.1, ())
 else
 some (false, ())
 else
 Option.bind (F_impl_DoAct (r7.1, r6.2.1, ())) fun r37 =>
 bif r37.2.1 then
 Option.bind (F_laws_vHeap (r37.1.1, r6.1.1, ())) fun r39 =>
 some (r39.1, ())
 else
 some (false, ()) := by kernel_rfl
noncomputable def P_laws_FnBenches : Ft_laws_FnBenches := hid (runF (X_laws_FnBenches N P_laws_vBig P_spec_DrawNewBench P_impl_NewBench P_spec_NewBench P_spec_DrawDoAct P_laws_vCut P_impl_DoAct P_spec_DoAct P_spec_DrawDoActs P_impl_DoActs P_spec_DoActs P_laws_vBench P_impl_IsBench P_spec_IsBench P_laws_vHeap) B_laws_FnBenches As_laws_FnBenches R_laws_FnBenches M_laws_FnBenches)
theorem h_laws_FnBenches : P_laws_FnBenches = runF (X_laws_FnBenches N P_laws_vBig P_spec_DrawNewBench P_impl_NewBench P_spec_NewBench P_spec_DrawDoAct P_laws_vCut P_impl_DoAct P_spec_DoAct P_spec_DrawDoActs P_impl_DoActs P_spec_DoActs P_laws_vBench P_impl_IsBench P_spec_IsBench P_laws_vHeap) B_laws_FnBenches As_laws_FnBenches R_laws_FnBenches M_laws_FnBenches := hid_eq _
noncomputable def C_laws_FnBenches : Contract := ⟨As_laws_FnBenches, R_laws_FnBenches, M_laws_FnBenches, P_laws_FnBenches⟩
theorem s_laws_FnBenches : Sound Tryz.prog GG 4 C_laws_FnBenches := by
 unfold C_laws_FnBenches; rw [h_laws_FnBenches]
 exact sound_of_run (fn := Tryz.f4) hmix hstable (tyOK_of ttOK) (hglob (X_laws_FnBenches N P_laws_vBig P_spec_DrawNewBench P_impl_NewBench P_spec_NewBench P_spec_DrawDoAct P_laws_vCut P_impl_DoAct P_spec_DoAct P_spec_DrawDoActs P_impl_DoActs P_spec_DoActs P_laws_vBench P_impl_IsBench P_spec_IsBench P_laws_vHeap)) (conOK_of (X := X_laws_FnBenches N P_laws_vBig P_spec_DrawNewBench P_impl_NewBench P_spec_NewBench P_spec_DrawDoAct P_laws_vCut P_impl_DoAct P_spec_DoAct P_spec_DrawDoActs P_impl_DoActs P_spec_DoActs P_laws_vBench P_impl_IsBench P_spec_IsBench P_laws_vHeap) ⟨s_laws_vBig, s_spec_DrawNewBench, s_impl_NewBench, s_spec_NewBench, s_spec_DrawDoAct, s_laws_vCut, s_impl_DoAct, s_spec_DoAct, s_spec_DrawDoActs, s_impl_DoActs, s_spec_DoActs, s_laws_vBench, s_impl_IsBench, s_spec_IsBench, s_laws_vHeap, trivial⟩) (mconOK_of (X := X_laws_FnBenches N P_laws_vBig P_spec_DrawNewBench P_impl_NewBench P_spec_NewBench P_spec_DrawDoAct P_laws_vCut P_impl_DoAct P_spec_DoAct P_spec_DrawDoActs P_impl_DoActs P_spec_DoActs P_laws_vBench P_impl_IsBench P_spec_IsBench P_laws_vHeap) trivial) (by kernel_rfl) (by kernel_rfl) (by kernel_rfl) (by kernel_rfl) (by kernel_rfl) (of_decide_eq_true (by kernel_rfl))
theorem p_laws_FnBenches (a0 : List Int) : P_laws_FnBenches (a0, ()) = 
 Option.bind (P_laws_vBig (a0, ())) fun r0 =>
 bif r0.1 then
 some (true, ())
 else
 Option.bind (P_spec_DrawNewBench (a0, ())) fun r2 =>
 Option.bind (P_impl_NewBench (r2.1, ())) fun r3 =>
 Option.bind (P_spec_NewBench (r2.1, ())) fun r4 =>
 Option.bind (P_laws_vCut (a0, 1, ())) fun r5 =>
 Option.bind (P_spec_DrawDoAct (r5.1, ())) fun r6 =>
 Option.bind (P_impl_DoAct (r6.1, r6.2.1, ())) fun r7 =>
 Option.bind (P_spec_DoAct (r6.1, r6.2.1, ())) fun r8 =>
 Option.bind (P_laws_vCut (a0, 2, ())) fun r9 =>
 Option.bind (P_spec_DrawDoActs (r9.1, ())) fun r10 =>
 Option.bind (P_impl_DoActs (r10.1, r10.2.1, ())) fun r11 =>
 Option.bind (P_spec_DoActs (r10.1, r10.2.1, ())) fun r12 =>
 bif !(r3.2.1 == r4.2.1) then
 some (false, ())
 else
 Option.bind (P_laws_vBench (r3.1, r4.1, ())) fun r14 =>
 bif !r14.1 then
 some (false, ())
 else
 bif !(r7.2.1 == r8.2.1) then
 some (false, ())
 else
 Option.bind (P_laws_vBench (r7.1, r8.1, ())) fun r17 =>
 bif !r17.1 then
 some (false, ())
 else
 bif !(r11.2.2.1 == r12.2.2.1) then
 some (false, ())
 else
 bif !decide (r11.2.1 = r12.2.1) then
 some (false, ())
 else
 Option.bind (P_laws_vBench (r11.1, r12.1, ())) fun r21 =>
 bif !r21.1 then
 some (false, ())
 else
 Option.bind (P_impl_IsBench (r6.1, ())) fun r23 =>
 Option.bind (P_spec_IsBench (r6.1, ())) fun r24 =>
 bif !(r23.1 == r24.1) then
 some (false, ())
 else
 bif r11.2.2.1 then
 Option.bind (P_impl_IsBench (r11.1, ())) fun r27 =>
 bif !r27.1 then
 some (false, ())
 else
 bif decide (r11.1.2.1 > r10.1.2.1) then
 some (false, ())
 else
 bif !r7.2.1 then
 some (true, ())
 else
 Option.bind (P_impl_IsBench (r7.1, ())) fun r31 =>
 bif !r31.1 then
 some (false, ())
 else
 bif !decide (r7.1.2.2.1 = (IntKind.wrap .i64 (r6.1.2.2.1 + 1))) then
 some (false, ())
 else
 bif decide (r7.1.2.1 > r6.1.2.1) then
 some (false, ())
 else
 bif decide (r7.1.2.2.1 = 1000) then
 some (true, ())
 else
 bif decide (r6.2.1.1 = 3) then
 some (true, ())
 else
 bif decide (r6.2.1.1 = 4) then
 some (true, ())
 else
 bif decide (r6.2.1.1 = 1) then
 Option.bind (P_impl_DoAct (r7.1, (2, r6.2.1.2), ())) fun r39 =>
 bif r39.2.1 then
 Option.bind (P_laws_vHeap (r39.1.1, r6.1.1, ())) fun r41 =>
 some (r41.1, ())
 else
 some (false, ())
 else
 bif decide (r6.2.1.1 = 2) then
 Option.bind (P_impl_DoAct (r7.1, (1, r6.2.1.2), ())) fun r40 =>
 bif r40.2.1 then
 Option.bind (P_laws_vHeap (r40.1.1, r6.1.1, ())) fun r42 =>
 some (r42.1, ())
 else
 some (false, ())
 else
 Option.bind (P_impl_DoAct (r7.1, r6.2.1, ())) fun r40 =>
 bif r40.2.1 then
 Option.bind (P_laws_vHeap (r40.1.1, r6.1.1, ())) fun r42 =>
 some (r42.1, ())
 else
 some (false, ())
 else
 bif !r7.2.1 then
 some (true, ())
 else
 Option.bind (P_impl_IsBench (r7.1, ())) fun r28 =>
 bif !r28.1 then
 some (false, ())
 else
 bif !decide (r7.1.2.2.1 = (IntKind.wrap .i64 (r6.1.2.2.1 + 1))) then
 some (false, ())
 else
 bif decide (r7.1.2.1 > r6.1.2.1) then
 some (false, ())
 else
 bif decide (r7.1.2.2.1 = 1000) then
 some (true, ())
 else
 bif decide (r6.2.1.1 = 3) then
 some (true, ())
 else
 bif decide (r6.2.1.1 = 4) then
 some (true, ())
 else
 bif decide (r6.2.1.1 = 1) then
 Option.bind (P_impl_DoAct (r7.1, (2, r6.2.1.2), ())) fun r36 =>
 bif r36.2.1 then
 Option.bind (P_laws_vHeap (r36.1.1, r6.1.1, ())) fun r38 =>
 some (r38.1, ())
 else
 some (false, ())
 else
 bif decide (r6.2.1.1 = 2) then
 Option.bind (P_impl_DoAct (r7.1, (1, r6.2.1.2), ())) fun r37 =>
 bif r37.2.1 then
 Option.bind (P_laws_vHeap (r37.1.1, r6.1.1, ())) fun r39 =>
 some (r39.1, ())
 else
 some (false, ())
 else
 Option.bind (P_impl_DoAct (r7.1, r6.2.1, ())) fun r37 =>
 bif r37.2.1 then
 Option.bind (P_laws_vHeap (r37.1.1, r6.1.1, ())) fun r39 =>
 some (r39.1, ())
 else
 some (false, ()) := by
 rewrite [h_laws_FnBenches]
 exact e_laws_FnBenches N P_laws_vBig P_spec_DrawNewBench P_impl_NewBench P_spec_NewBench P_spec_DrawDoAct P_laws_vCut P_impl_DoAct P_spec_DoAct P_spec_DrawDoActs P_impl_DoActs P_spec_DoActs P_laws_vBench P_impl_IsBench P_spec_IsBench P_laws_vHeap a0
end Go.VI
