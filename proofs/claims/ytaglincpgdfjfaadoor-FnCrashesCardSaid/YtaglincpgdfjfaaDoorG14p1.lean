/- What the functions of the seat compute, as printed by wip/tools. -/
import Derived.Test.YtaglincpgdfjfaaDoorViLib
import Derived.Test.YtaglincpgdfjfaaDoorTrydShelf
import Derived.Test.YtaglincpgdfjfaaDoorProg
namespace Go.VI
open Go.Proofs Go.Sort
set_option maxRecDepth 100000
def n0 : Nat := 4
/-- What the calls lean on: a table of the library's, and that a variable of its own holds a number. -/
def GG : World → Prop := fun w => 4 ≤ w.heap.size ∧ Lib.TabIs Tryd.prog w "internal/strconv.uint64pow10" .u64 Lib.pow10Tab ∧ ∃ m, w.cell? ⟨0, 0, none⟩ = some (.int .i64 m)
theorem gPow : ∃ g, Tryd.prog.globalNamed "internal/strconv.uint64pow10" = some g ∧ g < 4 := ⟨((Tryd.prog.globalNamed "internal/strconv.uint64pow10").getD 0), by kernel_rfl, of_decide_eq_true (by kernel_rfl)⟩
theorem hstable : Stable n0 GG := by
  refine ⟨fun w h => h.1, ?_⟩
  rintro w w' ⟨h1, h2, m, h3⟩ hsz hb
  refine ⟨Nat.le_trans h1 hsz, ?_, m, ?_⟩
  · obtain ⟨g, hg, hlt⟩ := gPow
    unfold Lib.TabIs World.var? at *
    rw [hg] at h2 ⊢
    simp only [Option.bind_some] at h2 ⊢
    rw [hb g hlt]
    exact h2
  · rw [← h3]
    unfold World.cell?
    rw [hb 0 (by decide)]
theorem hmix : Tryd.prog.follows .mixedOrders = true := by kernel_rfl
theorem hglob (X : Ctx) (h : X.globals = [] := by rfl) (A : Fix) (_ : A.P = Tryd.prog) (_ : A.G = GG) : GlobOK A X := globOK_none h A
theorem below_drew (w : World) (n : Nat) : RowKit.Below w.heap.size w (w.drewN n) := ⟨rfl, rfl, rfl, Nat.le_refl _, fun _ _ => rfl⟩
theorem below_grew (w : World) (k : Nat) (os : Array Obj) : RowKit.Below w.heap.size w (grow (w.drewN k) os) :=
  ⟨rfl, rfl, rfl, by simp [grow], fun i hi => by simp [grow, Array.getElem?_append, hi]⟩
abbrev T_Log : Ty := (.pair .str (.pair .str (.pair (.int .i64) .unit)))
abbrev D_Log : Type := (List UInt8) × (List UInt8) × Int × Unit
abbrev T_LogRecord : Ty := (.pair .str (.pair .str .unit))
abbrev D_LogRecord : Type := (List UInt8) × (List UInt8) × Unit
abbrev T_l1Cur : Ty := (.pair (.sl (.int .u8)) (.pair (.int .i64) (.pair (.int .u64) .unit)))
abbrev D_l1Cur : Type := (List Int) × Int × Int × Unit
noncomputable def TT : List (TypeId × TI) := [(3, ⟨Tryd.t3.desc, (.int .i64), false, 8, [.int .i64 0], false⟩),
  (4, ⟨Tryd.t4.desc, .bool, false, 1, [.bool false], false⟩),
  (5, ⟨Tryd.t5.desc, (.int .u8), false, 1, [.int .u8 0], false⟩),
  (9, ⟨Tryd.t9.desc, .str, false, 16, [.str ([] : List UInt8)], false⟩),
  (23, ⟨Tryd.t22.desc, T_Log, true, 40, [.str ([] : List UInt8), .str ([] : List UInt8), .int .i64 0], false⟩),
  (27, ⟨Tryd.t22.desc, T_Log, true, 40, [.str ([] : List UInt8), .str ([] : List UInt8), .int .i64 0], true⟩),
  (30, ⟨Tryd.t30.desc, (.sl (.int .u8)), false, 24, [.nil 5 (.int .u8)], false⟩),
  (33, ⟨Tryd.t32.desc, T_LogRecord, true, 32, [.str ([] : List UInt8), .str ([] : List UInt8)], true⟩),
  (48, ⟨Tryd.t48.desc, (.sl T_LogRecord), false, 24, [.nil 33 T_LogRecord], false⟩),
  (58, ⟨Tryd.t58.desc, (.int .u64), false, 8, [.int .u64 0], false⟩),
  (60, ⟨Tryd.t59.desc, T_l1Cur, true, 40, [.nil 5 (.int .u8), .int .i64 0, .int .u64 0], false⟩),
  (63, ⟨Tryd.t63.desc, (.sl (.int .i64)), false, 24, [.nil 3 (.int .i64)], false⟩),
  (79, ⟨Tryd.t79.desc, (.sl .str), false, 24, [.nil 9 .str], false⟩)]
theorem ttOK : allP (fun q => tiB Tryd.prog q.1 q.2) TT :=
  ⟨⟨by kernel_rfl, by kernel_rfl, by kernel_rfl, by kernel_rfl, by kernel_rfl, by kernel_rfl⟩, ⟨by kernel_rfl, by kernel_rfl, by kernel_rfl, by kernel_rfl, by kernel_rfl, by kernel_rfl⟩, ⟨by kernel_rfl, by kernel_rfl, by kernel_rfl, by kernel_rfl, by kernel_rfl, by kernel_rfl⟩, ⟨by kernel_rfl, by kernel_rfl, by kernel_rfl, by kernel_rfl, by kernel_rfl, by kernel_rfl⟩, ⟨by kernel_rfl, by kernel_rfl, by kernel_rfl, by kernel_rfl, by kernel_rfl, by kernel_rfl⟩, ⟨by kernel_rfl, by kernel_rfl, by kernel_rfl, by kernel_rfl, by kernel_rfl, by kernel_rfl⟩, ⟨by kernel_rfl, by kernel_rfl, by kernel_rfl, by kernel_rfl, by kernel_rfl, by kernel_rfl⟩, ⟨by kernel_rfl, by kernel_rfl, by kernel_rfl, by kernel_rfl, by kernel_rfl, by kernel_rfl⟩, ⟨by kernel_rfl, by kernel_rfl, by kernel_rfl, by kernel_rfl, by kernel_rfl, by kernel_rfl⟩, ⟨by kernel_rfl, by kernel_rfl, by kernel_rfl, by kernel_rfl, by kernel_rfl, by kernel_rfl⟩, ⟨by kernel_rfl, by kernel_rfl, by kernel_rfl, by kernel_rfl, by kernel_rfl, by kernel_rfl⟩, ⟨by kernel_rfl, by kernel_rfl, by kernel_rfl, by kernel_rfl, by kernel_rfl, by kernel_rfl⟩, ⟨by kernel_rfl, by kernel_rfl, by kernel_rfl, by kernel_rfl, by kernel_rfl, by kernel_rfl⟩, trivial⟩

/- 6: loop.example/g01166/laws.szLog -/
abbrev As_laws_szLog : List ATy := [.data true T_Log, .data false (.int .i64)]
abbrev R_laws_szLog : List (Bool × Ty) := [(false, (.int .i64))]
abbrev M_laws_szLog : List RMode := []
abbrev Ft_laws_szLog : Type := D_Log × Int × Unit → Option (Int × Unit)
noncomputable def X_laws_szLog (n : Nat) : Ctx := { types := TT, globals := [], con := [], keep := [], results := [.tmp 4], ntmps := 20, n := n }
noncomputable def B_laws_szLog : Code := (Tryd.f6.body).getD .skip
noncomputable def P_laws_szLog : Ft_laws_szLog := hid (runF (X_laws_szLog N) B_laws_szLog As_laws_szLog R_laws_szLog M_laws_szLog)
theorem h_laws_szLog : P_laws_szLog = runF (X_laws_szLog N) B_laws_szLog As_laws_szLog R_laws_szLog M_laws_szLog := hid_eq _
noncomputable def C_laws_szLog : Contract := ⟨As_laws_szLog, R_laws_szLog, M_laws_szLog, P_laws_szLog⟩
theorem s_laws_szLog : Sound Tryd.prog GG 6 C_laws_szLog := by
  unfold C_laws_szLog; rw [h_laws_szLog]
  exact sound_of_run (fn := Tryd.f6) hmix hstable (tyOK_of ttOK) (hglob (X_laws_szLog N)) (conOK_of (X := X_laws_szLog N) trivial) (mconOK_of (X := X_laws_szLog N) trivial) (by kernel_rfl) (by kernel_rfl) (by kernel_rfl) (by kernel_rfl) (by kernel_rfl) (of_decide_eq_true (by kernel_rfl))
theorem p_laws_szLog (a0 : D_Log) (a1 : Int) : P_laws_szLog (a0, a1, ()) = 
  bif decide ((IntKind.wrap .i64 (a1 - (List.length a0.1 : Int))) < 0) then
    some ((-1), ())
  else
    bif decide ((IntKind.wrap .i64 ((IntKind.wrap .i64 (a1 - (List.length a0.1 : Int))) - (List.length a0.2.1 : Int))) < 0) then
      some ((-1), ())
    else
      some ((IntKind.wrap .i64 ((IntKind.wrap .i64 (a1 - (List.length a0.1 : Int))) - (List.length a0.2.1 : Int))), ()) := by
  rewrite [h_laws_szLog]
  kernel_rfl

/- 65: loop.example/g01166/spec.l1Split -/
abbrev As_spec_l1Split : List ATy := [.data false .str, .data false (.int .u8)]
abbrev R_spec_l1Split : List (Bool × Ty) := [(false, (.sl .str))]
abbrev M_spec_l1Split : List RMode := [.own 9]
abbrev Ft_spec_l1Split : Type := (List UInt8) × Int × Unit → Option ((List (List UInt8)) × Unit)
noncomputable def X_spec_l1Split (n : Nat) : Ctx := { types := TT, globals := [], con := [], keep := [(4, ⟨[.tmp 0, .tmp 1, .tmp 5, .tmp 6, .tmp 7], []⟩)], results := [.tmp 4], ntmps := 35, n := n }
noncomputable def B_spec_l1Split : Code := (Tryd.f65.body).getD .skip
noncomputable def L_spec_l1Split_4 (n : Nat) (m0 : Nat) (p0 : List UInt8) (p1 : Int) (p2 : List (List UInt8)) (p3 : Int) (p4 : Int) : Option (denL R_spec_l1Split) := loopF (X_spec_l1Split n) B_spec_l1Split R_spec_l1Split M_spec_l1Split 4 [m0] [(.ver, .num 1), (.tmp 0, .val false [.str p0]), (.tmp 1, .val false [.int .u8 p1]), (.tmp 5, .val false [.own 9 .str 0 p2]), (.tmp 6, .val false [.int .i64 p3]), (.tmp 7, .val false [.int .i64 p4])]
noncomputable def P_spec_l1Split : Ft_spec_l1Split := hid (runF (X_spec_l1Split N) B_spec_l1Split As_spec_l1Split R_spec_l1Split M_spec_l1Split)
theorem h_spec_l1Split : P_spec_l1Split = runF (X_spec_l1Split N) B_spec_l1Split As_spec_l1Split R_spec_l1Split M_spec_l1Split := hid_eq _
noncomputable def C_spec_l1Split : Contract := ⟨As_spec_l1Split, R_spec_l1Split, M_spec_l1Split, P_spec_l1Split⟩
theorem s_spec_l1Split : Sound Tryd.prog GG 65 C_spec_l1Split := by
  unfold C_spec_l1Split; rw [h_spec_l1Split]
  exact sound_of_run (fn := Tryd.f65) hmix hstable (tyOK_of ttOK) (hglob (X_spec_l1Split N)) (conOK_of (X := X_spec_l1Split N) trivial) (mconOK_of (X := X_spec_l1Split N) trivial) (by kernel_rfl) (by kernel_rfl) (by kernel_rfl) (by kernel_rfl) (by kernel_rfl) (of_decide_eq_true (by kernel_rfl))
noncomputable def l_spec_l1Split_4 : Nat → (List UInt8) → Int → (List (List UInt8)) → Int → Int → Option (denL R_spec_l1Split) := hid (fun m0 p0 p1 p2 p3 p4 => L_spec_l1Split_4 N m0 p0 p1 p2 p3 p4)
theorem h_spec_l1Split_4 : l_spec_l1Split_4 = fun m0 p0 p1 p2 p3 p4 => L_spec_l1Split_4 N m0 p0 p1 p2 p3 p4 := hid_eq _
theorem p_spec_l1Split (a0 : List UInt8) (a1 : Int) : P_spec_l1Split (a0, a1, ()) = 
  l_spec_l1Split_4 N a0 a1 ([] : List (List UInt8)) 0 0 := by
  rewrite [h_spec_l1Split, h_spec_l1Split_4]
  kernel_rfl
theorem q_spec_l1Split_4 (m0 : Nat) (p0 : List UInt8) (p1 : Int) (p2 : List (List UInt8)) (p3 : Int) (p4 : Int) : l_spec_l1Split_4 (m0 + 1) p0 p1 p2 p3 p4 = 
  bif decide (p4 < (List.length p0 : Int)) then
    bif inB p4 (List.length p0) then
      bif decide ((byteAt p0 p4) = p1) then
        bif (decide ((0 : Int) ≤ p3) && decide (p3 ≤ p4) && decide (p4 ≤ (List.length p0 : Int))) then
          bif (decide (((List.length p2) + (List.length ([(cut p0 p3 p4)] : List (List UInt8)))) * 16 ≤ 140737488355328) && decide (((List.length p2) + (List.length ([(cut p0 p3 p4)] : List (List UInt8)))) ≤ 140737488355328)) then
            l_spec_l1Split_4 m0 p0 p1 (p2 ++ ([(cut p0 p3 p4)] : List (List UInt8))) (IntKind.wrap .i64 (p4 + 1)) (IntKind.wrap .i64 (p4 + 1))
          else none
        else none
      else
        l_spec_l1Split_4 m0 p0 p1 p2 p3 (IntKind.wrap .i64 (p4 + 1))
    else none
  else
    bif (decide ((0 : Int) ≤ p3) && decide (p3 ≤ (List.length p0 : Int)) && decide ((List.length p0 : Int) ≤ (List.length p0 : Int))) then
      bif (decide (((List.length p2) + (List.length ([(cut p0 p3 (List.length p0 : Int))] : List (List UInt8)))) * 16 ≤ 140737488355328) && decide (((List.length p2) + (List.length ([(cut p0 p3 (List.length p0 : Int))] : List (List UInt8)))) ≤ 140737488355328)) then
        some ((p2 ++ ([(cut p0 p3 (List.length p0 : Int))] : List (List UInt8))), ())
      else none
    else none := by
  rewrite [h_spec_l1Split_4]
  kernel_rfl

/- 34: loop.example/g01166/spec.l1In -/
abbrev As_spec_l1In : List ATy := [.data false (.int .i64), .data false (.int .i64), .data false (.int .i64)]
abbrev R_spec_l1In : List (Bool × Ty) := [(false, .bool)]
abbrev M_spec_l1In : List RMode := []
abbrev Ft_spec_l1In : Type := Int × Int × Int × Unit → Option (Bool × Unit)
noncomputable def X_spec_l1In (n : Nat) : Ctx := { types := TT, globals := [], con := [], keep := [], results := [.tmp 6], ntmps := 15, n := n }
noncomputable def B_spec_l1In : Code := (Tryd.f34.body).getD .skip
noncomputable def P_spec_l1In : Ft_spec_l1In := hid (runF (X_spec_l1In N) B_spec_l1In As_spec_l1In R_spec_l1In M_spec_l1In)
theorem h_spec_l1In : P_spec_l1In = runF (X_spec_l1In N) B_spec_l1In As_spec_l1In R_spec_l1In M_spec_l1In := hid_eq _
noncomputable def C_spec_l1In : Contract := ⟨As_spec_l1In, R_spec_l1In, M_spec_l1In, P_spec_l1In⟩
theorem s_spec_l1In : Sound Tryd.prog GG 34 C_spec_l1In := by
  unfold C_spec_l1In; rw [h_spec_l1In]
  exact sound_of_run (fn := Tryd.f34) hmix hstable (tyOK_of ttOK) (hglob (X_spec_l1In N)) (conOK_of (X := X_spec_l1In N) trivial) (mconOK_of (X := X_spec_l1In N) trivial) (by kernel_rfl) (by kernel_rfl) (by kernel_rfl) (by kernel_rfl) (by kernel_rfl) (of_decide_eq_true (by kernel_rfl))
theorem p_spec_l1In (a0 : Int) (a1 : Int) (a2 : Int) : P_spec_l1In (a0, a1, a2, ()) = 
  bif decide (a0 ≥ a1) then
    some (decide (a0 ≤ a2), ())
  else
    some (false, ()) := by
  rewrite [h_spec_l1In]
  kernel_rfl

/- 56: loop.example/g01166/spec.l12Bytes -/
abbrev As_spec_l12Bytes : List ATy := [.data false .str, .data false (.int .i64)]
abbrev R_spec_l12Bytes : List (Bool × Ty) := [(false, .bool)]
abbrev M_spec_l12Bytes : List RMode := []
abbrev Ft_spec_l12Bytes : Type := (List UInt8) × Int × Unit → Option (Bool × Unit)
noncomputable def X_spec_l12Bytes (n : Nat) (F_spec_l1In : Ft_spec_l1In) : Ctx := { types := TT, globals := [], con := [(34, ⟨As_spec_l1In, R_spec_l1In, M_spec_l1In, F_spec_l1In⟩)], keep := [(2, ⟨[.tmp 0, .tmp 1, .tmp 5], []⟩)], results := [.tmp 4], ntmps := 28, n := n }
noncomputable def B_spec_l12Bytes : Code := (Tryd.f56.body).getD .skip
noncomputable def L_spec_l12Bytes_2 (n : Nat) (F_spec_l1In : Ft_spec_l1In) (m0 : Nat) (p0 : List UInt8) (p1 : Int) (p2 : Int) : Option (denL R_spec_l12Bytes) := loopF (X_spec_l12Bytes n F_spec_l1In) B_spec_l12Bytes R_spec_l12Bytes M_spec_l12Bytes 2 [m0] [(.ver, .num 1), (.tmp 0, .val false [.str p0]), (.tmp 1, .val false [.int .i64 p1]), (.tmp 5, .val false [.int .i64 p2])]
noncomputable def P_spec_l12Bytes : Ft_spec_l12Bytes := hid (runF (X_spec_l12Bytes N P_spec_l1In) B_spec_l12Bytes As_spec_l12Bytes R_spec_l12Bytes M_spec_l12Bytes)
theorem h_spec_l12Bytes : P_spec_l12Bytes = runF (X_spec_l12Bytes N P_spec_l1In) B_spec_l12Bytes As_spec_l12Bytes R_spec_l12Bytes M_spec_l12Bytes := hid_eq _
noncomputable def C_spec_l12Bytes : Contract := ⟨As_spec_l12Bytes, R_spec_l12Bytes, M_spec_l12Bytes, P_spec_l12Bytes⟩
theorem s_spec_l12Bytes : Sound Tryd.prog GG 56 C_spec_l12Bytes := by
  unfold C_spec_l12Bytes; rw [h_spec_l12Bytes]
  exact sound_of_run (fn := Tryd.f56) hmix hstable (tyOK_of ttOK) (hglob (X_spec_l12Bytes N P_spec_l1In)) (conOK_of (X := X_spec_l12Bytes N P_spec_l1In) ⟨s_spec_l1In, trivial⟩) (mconOK_of (X := X_spec_l12Bytes N P_spec_l1In) trivial) (by kernel_rfl) (by kernel_rfl) (by kernel_rfl) (by kernel_rfl) (by kernel_rfl) (of_decide_eq_true (by kernel_rfl))
noncomputable def l_spec_l12Bytes_2 : Nat → (List UInt8) → Int → Int → Option (denL R_spec_l12Bytes) := hid (fun m0 p0 p1 p2 => L_spec_l12Bytes_2 N P_spec_l1In m0 p0 p1 p2)
theorem h_spec_l12Bytes_2 : l_spec_l12Bytes_2 = fun m0 p0 p1 p2 => L_spec_l12Bytes_2 N P_spec_l1In m0 p0 p1 p2 := hid_eq _
theorem p_spec_l12Bytes (a0 : List UInt8) (a1 : Int) : P_spec_l12Bytes (a0, a1, ()) = 
  l_spec_l12Bytes_2 N a0 a1 0 := by
  rewrite [h_spec_l12Bytes, h_spec_l12Bytes_2]
  kernel_rfl
theorem q_spec_l12Bytes_2 (m0 : Nat) (p0 : List UInt8) (p1 : Int) (p2 : Int) : l_spec_l12Bytes_2 (m0 + 1) p0 p1 p2 = 
  bif decide (p2 < (List.length p0 : Int)) then
    bif inB p2 (List.length p0) then
      Option.bind (P_spec_l1In ((IntKind.wrap .i64 (byteAt p0 p2)), 32, 126, ())) fun r2 =>
      bif !r2.1 then
        some (false, ())
      else
        bif inB p2 (List.length p0) then
          bif decide ((byteAt p0 p2) = 35) then
            some (false, ())
          else
            l_spec_l12Bytes_2 m0 p0 p1 (IntKind.wrap .i64 (p2 + 1))
        else none
    else none
  else
    some (decide ((List.length p0 : Int) ≤ p1), ()) := by
  rewrite [h_spec_l12Bytes_2]
  kernel_rfl

/- 57: loop.example/g01166/spec.l1Stands -/
abbrev As_spec_l1Stands : List ATy := [.data false .str, .data false (.int .u8)]
abbrev R_spec_l1Stands : List (Bool × Ty) := [(false, .bool)]
abbrev M_spec_l1Stands : List RMode := []
abbrev Ft_spec_l1Stands : Type := (List UInt8) × Int × Unit → Option (Bool × Unit)
noncomputable def X_spec_l1Stands (n : Nat) : Ctx := { types := TT, globals := [], con := [], keep := [(2, ⟨[.tmp 0, .tmp 1, .tmp 5], []⟩)], results := [.tmp 4], ntmps := 17, n := n }
noncomputable def B_spec_l1Stands : Code := (Tryd.f57.body).getD .skip
noncomputable def L_spec_l1Stands_2 (n : Nat) (m0 : Nat) (p0 : List UInt8) (p1 : Int) (p2 : Int) : Option (denL R_spec_l1Stands) := loopF (X_spec_l1Stands n) B_spec_l1Stands R_spec_l1Stands M_spec_l1Stands 2 [m0] [(.ver, .num 1), (.tmp 0, .val false [.str p0]), (.tmp 1, .val false [.int .u8 p1]), (.tmp 5, .val false [.int .i64 p2])]
noncomputable def P_spec_l1Stands : Ft_spec_l1Stands := hid (runF (X_spec_l1Stands N) B_spec_l1Stands As_spec_l1Stands R_spec_l1Stands M_spec_l1Stands)
theorem h_spec_l1Stands : P_spec_l1Stands = runF (X_spec_l1Stands N) B_spec_l1Stands As_spec_l1Stands R_spec_l1Stands M_spec_l1Stands := hid_eq _
noncomputable def C_spec_l1Stands : Contract := ⟨As_spec_l1Stands, R_spec_l1Stands, M_spec_l1Stands, P_spec_l1Stands⟩
theorem s_spec_l1Stands : Sound Tryd.prog GG 57 C_spec_l1Stands := by
  unfold C_spec_l1Stands; rw [h_spec_l1Stands]
  exact sound_of_run (fn := Tryd.f57) hmix hstable (tyOK_of ttOK) (hglob (X_spec_l1Stands N)) (conOK_of (X := X_spec_l1Stands N) trivial) (mconOK_of (X := X_spec_l1Stands N) trivial) (by kernel_rfl) (by kernel_rfl) (by kernel_rfl) (by kernel_rfl) (by kernel_rfl) (of_decide_eq_true (by kernel_rfl))
noncomputable def l_spec_l1Stands_2 : Nat → (List UInt8) → Int → Int → Option (denL R_spec_l1Stands) := hid (fun m0 p0 p1 p2 => L_spec_l1Stands_2 N m0 p0 p1 p2)
theorem h_spec_l1Stands_2 : l_spec_l1Stands_2 = fun m0 p0 p1 p2 => L_spec_l1Stands_2 N m0 p0 p1 p2 := hid_eq _
theorem p_spec_l1Stands (a0 : List UInt8) (a1 : Int) : P_spec_l1Stands (a0, a1, ()) = 
  l_spec_l1Stands_2 N a0 a1 0 := by
  rewrite [h_spec_l1Stands, h_spec_l1Stands_2]
  kernel_rfl
theorem q_spec_l1Stands_2 (m0 : Nat) (p0 : List UInt8) (p1 : Int) (p2 : Int) : l_spec_l1Stands_2 (m0 + 1) p0 p1 p2 = 
  bif decide (p2 < (List.length p0 : Int)) then
    bif inB p2 (List.length p0) then
      bif decide ((byteAt p0 p2) = p1) then
        some (true, ())
      else
        l_spec_l1Stands_2 m0 p0 p1 (IntKind.wrap .i64 (p2 + 1))
    else none
  else
    some (false, ()) := by
  rewrite [h_spec_l1Stands_2]
  kernel_rfl

/- 40: loop.example/g01166/spec.l12Record -/
abbrev As_spec_l12Record : List ATy := [.data true T_LogRecord]
abbrev R_spec_l12Record : List (Bool × Ty) := [(false, .bool)]
abbrev M_spec_l12Record : List RMode := []
abbrev Ft_spec_l12Record : Type := D_LogRecord × Unit → Option (Bool × Unit)
noncomputable def X_spec_l12Record (n : Nat) (F_spec_l12Bytes : Ft_spec_l12Bytes) (F_spec_l1Stands : Ft_spec_l1Stands) : Ctx := { types := TT, globals := [], con := [(56, ⟨As_spec_l12Bytes, R_spec_l12Bytes, M_spec_l12Bytes, F_spec_l12Bytes⟩), (57, ⟨As_spec_l1Stands, R_spec_l1Stands, M_spec_l1Stands, F_spec_l1Stands⟩)], keep := [], results := [.tmp 2], ntmps := 22, n := n }
noncomputable def B_spec_l12Record : Code := (Tryd.f40.body).getD .skip
noncomputable def P_spec_l12Record : Ft_spec_l12Record := hid (runF (X_spec_l12Record N P_spec_l12Bytes P_spec_l1Stands) B_spec_l12Record As_spec_l12Record R_spec_l12Record M_spec_l12Record)
theorem h_spec_l12Record : P_spec_l12Record = runF (X_spec_l12Record N P_spec_l12Bytes P_spec_l1Stands) B_spec_l12Record As_spec_l12Record R_spec_l12Record M_spec_l12Record := hid_eq _
noncomputable def C_spec_l12Record : Contract := ⟨As_spec_l12Record, R_spec_l12Record, M_spec_l12Record, P_spec_l12Record⟩
theorem s_spec_l12Record : Sound Tryd.prog GG 40 C_spec_l12Record := by
  unfold C_spec_l12Record; rw [h_spec_l12Record]
  exact sound_of_run (fn := Tryd.f40) hmix hstable (tyOK_of ttOK) (hglob (X_spec_l12Record N P_spec_l12Bytes P_spec_l1Stands)) (conOK_of (X := X_spec_l12Record N P_spec_l12Bytes P_spec_l1Stands) ⟨s_spec_l12Bytes, s_spec_l1Stands, trivial⟩) (mconOK_of (X := X_spec_l12Record N P_spec_l12Bytes P_spec_l1Stands) trivial) (by kernel_rfl) (by kernel_rfl) (by kernel_rfl) (by kernel_rfl) (by kernel_rfl) (of_decide_eq_true (by kernel_rfl))
theorem p_spec_l12Record (a0 : D_LogRecord) : P_spec_l12Record (a0, ()) = 
  bif !(a0.1 == ([] : List UInt8)) then
    Option.bind (P_spec_l12Bytes (a0.1, 160, ())) fun r1 =>
    bif r1.1 then
      Option.bind (P_spec_l1Stands (a0.1, 64, ())) fun r3 =>
      bif !r3.1 then
        Option.bind (P_spec_l12Bytes (a0.2.1, 300, ())) fun r5 =>
        some (r5.1, ())
      else
        some (false, ())
    else
      some (false, ())
  else
    some (false, ()) := by
  rewrite [h_spec_l12Record]
  kernel_rfl

/- 59: loop.example/g01166/spec.l1Num -/
abbrev As_spec_l1Num : List ATy := [.data false (.int .i64)]
abbrev R_spec_l1Num : List (Bool × Ty) := [(false, .str)]
abbrev M_spec_l1Num : List RMode := []
abbrev Ft_spec_l1Num : Type := Int × Unit → Option ((List UInt8) × Unit)
noncomputable def X_spec_l1Num (n : Nat) (F_spec_l1Num : Ft_spec_l1Num) : Ctx := { types := TT, globals := [], con := [(59, ⟨As_spec_l1Num, R_spec_l1Num, M_spec_l1Num, F_spec_l1Num⟩)], keep := [], results := [.tmp 2], ntmps := 25, n := n }
noncomputable def B_spec_l1Num : Code := (Tryd.f59.body).getD .skip
noncomputable def Pk_spec_l1Num : Nat → Ft_spec_l1Num
  | 0 => fun _ => none
  | k + 1 => runF (X_spec_l1Num N (Pk_spec_l1Num k)) B_spec_l1Num As_spec_l1Num R_spec_l1Num M_spec_l1Num
theorem sk_spec_l1Num : ∀ k, Sound Tryd.prog GG 59 ⟨As_spec_l1Num, R_spec_l1Num, M_spec_l1Num, Pk_spec_l1Num k⟩
  | 0 => sound_none
  | k + 1 => by
    have ih := sk_spec_l1Num k
    exact sound_of_run (fn := Tryd.f59) hmix hstable (tyOK_of ttOK) (hglob (X_spec_l1Num N (Pk_spec_l1Num k))) (conOK_of (X := X_spec_l1Num N (Pk_spec_l1Num k)) ⟨ih, trivial⟩) (mconOK_of (X := X_spec_l1Num N (Pk_spec_l1Num k)) trivial) (by kernel_rfl) (by kernel_rfl) (by kernel_rfl) (by kernel_rfl) (by kernel_rfl) (of_decide_eq_true (by kernel_rfl))
noncomputable def P_spec_l1Num : Ft_spec_l1Num := Pk_spec_l1Num N
noncomputable def C_spec_l1Num : Contract := ⟨As_spec_l1Num, R_spec_l1Num, M_spec_l1Num, P_spec_l1Num⟩
theorem s_spec_l1Num : Sound Tryd.prog GG 59 C_spec_l1Num := sk_spec_l1Num N
theorem p_spec_l1Num (k : Nat) (a0 : Int) : Pk_spec_l1Num (k + 1) (a0, ()) = 
  bif decide (a0 < 0) then
    Option.bind (Pk_spec_l1Num k ((IntKind.wrap .i64 (0 - a0)), ())) fun r1 =>
    Option.bind (catS ([45] : List UInt8) r1.1) fun r2 =>
    some (r2, ())
  else
    bif decide (a0 < 10) then
      bif (decide ((0 : Int) ≤ a0) && decide (a0 ≤ (IntKind.wrap .i64 (a0 + 1))) && decide ((IntKind.wrap .i64 (a0 + 1)) ≤ 10)) then
        some ((cut ([48, 49, 50, 51, 52, 53, 54, 55, 56, 57] : List UInt8) a0 (IntKind.wrap .i64 (a0 + 1))), ())
      else none
    else
      Option.bind (Pk_spec_l1Num k ((IntKind.wrap .i64 (Int.tdiv a0 10)), ())) fun r2 =>
      bif (decide ((0 : Int) ≤ (Int.tmod a0 10)) && decide ((Int.tmod a0 10) ≤ (IntKind.wrap .i64 ((Int.tmod a0 10) + 1))) && decide ((IntKind.wrap .i64 ((Int.tmod a0 10) + 1)) ≤ 10)) then
        Option.bind (catS r2.1 (cut ([48, 49, 50, 51, 52, 53, 54, 55, 56, 57] : List UInt8) (Int.tmod a0 10) (IntKind.wrap .i64 ((Int.tmod a0 10) + 1)))) fun r4 =>
        some (r4, ())
      else none := by
  kernel_rfl

/- 69: loop.example/g01166/spec.l1Sum -/
abbrev As_spec_l1Sum : List ATy := [.data false .str]
abbrev R_spec_l1Sum : List (Bool × Ty) := [(false, (.int .i64))]
abbrev M_spec_l1Sum : List RMode := []
abbrev Ft_spec_l1Sum : Type := (List UInt8) × Unit → Option (Int × Unit)
noncomputable def X_spec_l1Sum (n : Nat) : Ctx := { types := TT, globals := [], con := [], keep := [(3, ⟨[.tmp 0, .tmp 3, .tmp 4], []⟩)], results := [.tmp 2], ntmps := 21, n := n }
noncomputable def B_spec_l1Sum : Code := (Tryd.f69.body).getD .skip
noncomputable def L_spec_l1Sum_3 (n : Nat) (m0 : Nat) (p0 : List UInt8) (p1 : Int) (p2 : Int) : Option (denL R_spec_l1Sum) := loopF (X_spec_l1Sum n) B_spec_l1Sum R_spec_l1Sum M_spec_l1Sum 3 [m0] [(.ver, .num 1), (.tmp 0, .val false [.str p0]), (.tmp 3, .val false [.int .i64 p1]), (.tmp 4, .val false [.int .i64 p2])]
noncomputable def P_spec_l1Sum : Ft_spec_l1Sum := hid (runF (X_spec_l1Sum N) B_spec_l1Sum As_spec_l1Sum R_spec_l1Sum M_spec_l1Sum)
theorem h_spec_l1Sum : P_spec_l1Sum = runF (X_spec_l1Sum N) B_spec_l1Sum As_spec_l1Sum R_spec_l1Sum M_spec_l1Sum := hid_eq _
noncomputable def C_spec_l1Sum : Contract := ⟨As_spec_l1Sum, R_spec_l1Sum, M_spec_l1Sum, P_spec_l1Sum⟩
theorem s_spec_l1Sum : Sound Tryd.prog GG 69 C_spec_l1Sum := by
  unfold C_spec_l1Sum; rw [h_spec_l1Sum]
  exact sound_of_run (fn := Tryd.f69) hmix hstable (tyOK_of ttOK) (hglob (X_spec_l1Sum N)) (conOK_of (X := X_spec_l1Sum N) trivial) (mconOK_of (X := X_spec_l1Sum N) trivial) (by kernel_rfl) (by kernel_rfl) (by kernel_rfl) (by kernel_rfl) (by kernel_rfl) (of_decide_eq_true (by kernel_rfl))
noncomputable def l_spec_l1Sum_3 : Nat → (List UInt8) → Int → Int → Option (denL R_spec_l1Sum) := hid (fun m0 p0 p1 p2 => L_spec_l1Sum_3 N m0 p0 p1 p2)
theorem h_spec_l1Sum_3 : l_spec_l1Sum_3 = fun m0 p0 p1 p2 => L_spec_l1Sum_3 N m0 p0 p1 p2 := hid_eq _
theorem p_spec_l1Sum (a0 : List UInt8) : P_spec_l1Sum (a0, ()) = 
  l_spec_l1Sum_3 N a0 7 0 := by
  rewrite [h_spec_l1Sum, h_spec_l1Sum_3]
  kernel_rfl
theorem q_spec_l1Sum_3 (m0 : Nat) (p0 : List UInt8) (p1 : Int) (p2 : Int) : l_spec_l1Sum_3 (m0 + 1) p0 p1 p2 = 
  bif decide (p2 < (List.length p0 : Int)) then
    bif inB p2 (List.length p0) then
      l_spec_l1Sum_3 m0 p0 (Int.tmod (IntKind.wrap .i64 ((IntKind.wrap .i64 ((IntKind.wrap .i64 (41 * p1)) + (IntKind.wrap .i64 (byteAt p0 p2)))) + 1)) 999979) (IntKind.wrap .i64 (p2 + 1))
    else none
  else
    some (p1, ()) := by
  rewrite [h_spec_l1Sum_3]
  kernel_rfl

/- 58: loop.example/g01166/spec.l1Seal -/
abbrev As_spec_l1Seal : List ATy := [.data false .str]
abbrev R_spec_l1Seal : List (Bool × Ty) := [(false, .str)]
abbrev M_spec_l1Seal : List RMode := []
abbrev Ft_spec_l1Seal : Type := (List UInt8) × Unit → Option ((List UInt8) × Unit)
noncomputable def X_spec_l1Seal (n : Nat) (F_spec_l1Num : Ft_spec_l1Num) (F_spec_l1Sum : Ft_spec_l1Sum) : Ctx := { types := TT, globals := [], con := [(59, ⟨As_spec_l1Num, R_spec_l1Num, M_spec_l1Num, F_spec_l1Num⟩), (69, ⟨As_spec_l1Sum, R_spec_l1Sum, M_spec_l1Sum, F_spec_l1Sum⟩)], keep := [], results := [.tmp 2], ntmps := 9, n := n }
noncomputable def B_spec_l1Seal : Code := (Tryd.f58.body).getD .skip
noncomputable def P_spec_l1Seal : Ft_spec_l1Seal := hid (runF (X_spec_l1Seal N P_spec_l1Num P_spec_l1Sum) B_spec_l1Seal As_spec_l1Seal R_spec_l1Seal M_spec_l1Seal)
theorem h_spec_l1Seal : P_spec_l1Seal = runF (X_spec_l1Seal N P_spec_l1Num P_spec_l1Sum) B_spec_l1Seal As_spec_l1Seal R_spec_l1Seal M_spec_l1Seal := hid_eq _
noncomputable def C_spec_l1Seal : Contract := ⟨As_spec_l1Seal, R_spec_l1Seal, M_spec_l1Seal, P_spec_l1Seal⟩
theorem s_spec_l1Seal : Sound Tryd.prog GG 58 C_spec_l1Seal := by
  unfold C_spec_l1Seal; rw [h_spec_l1Seal]
  exact sound_of_run (fn := Tryd.f58) hmix hstable (tyOK_of ttOK) (hglob (X_spec_l1Seal N P_spec_l1Num P_spec_l1Sum)) (conOK_of (X := X_spec_l1Seal N P_spec_l1Num P_spec_l1Sum) ⟨s_spec_l1Num, s_spec_l1Sum, trivial⟩) (mconOK_of (X := X_spec_l1Seal N P_spec_l1Num P_spec_l1Sum) trivial) (by kernel_rfl) (by kernel_rfl) (by kernel_rfl) (by kernel_rfl) (by kernel_rfl) (of_decide_eq_true (by kernel_rfl))
theorem p_spec_l1Seal (a0 : List UInt8) : P_spec_l1Seal (a0, ()) = 
  Option.bind (catS a0 ([35] : List UInt8)) fun r0 =>
  Option.bind (P_spec_l1Sum (a0, ())) fun r1 =>
  Option.bind (P_spec_l1Num (r1.1, ())) fun r2 =>
  Option.bind (catS r0 r2.1) fun r3 =>
  some (r3, ()) := by
  rewrite [h_spec_l1Seal]
  kernel_rfl

/- 41: loop.example/g01166/spec.l12Line -/
abbrev As_spec_l12Line : List ATy := [.data false (.int .i64), .data true T_LogRecord]
abbrev R_spec_l12Line : List (Bool × Ty) := [(false, .str)]
abbrev M_spec_l12Line : List RMode := []
abbrev Ft_spec_l12Line : Type := Int × D_LogRecord × Unit → Option ((List UInt8) × Unit)
noncomputable def X_spec_l12Line (n : Nat) (F_spec_l1Seal : Ft_spec_l1Seal) (F_spec_l1Num : Ft_spec_l1Num) : Ctx := { types := TT, globals := [], con := [(58, ⟨As_spec_l1Seal, R_spec_l1Seal, M_spec_l1Seal, F_spec_l1Seal⟩), (59, ⟨As_spec_l1Num, R_spec_l1Num, M_spec_l1Num, F_spec_l1Num⟩)], keep := [], results := [.tmp 4], ntmps := 17, n := n }
noncomputable def B_spec_l12Line : Code := (Tryd.f41.body).getD .skip
noncomputable def P_spec_l12Line : Ft_spec_l12Line := hid (runF (X_spec_l12Line N P_spec_l1Seal P_spec_l1Num) B_spec_l12Line As_spec_l12Line R_spec_l12Line M_spec_l12Line)
theorem h_spec_l12Line : P_spec_l12Line = runF (X_spec_l12Line N P_spec_l1Seal P_spec_l1Num) B_spec_l12Line As_spec_l12Line R_spec_l12Line M_spec_l12Line := hid_eq _
noncomputable def C_spec_l12Line : Contract := ⟨As_spec_l12Line, R_spec_l12Line, M_spec_l12Line, P_spec_l12Line⟩
theorem s_spec_l12Line : Sound Tryd.prog GG 41 C_spec_l12Line := by
  unfold C_spec_l12Line; rw [h_spec_l12Line]
  exact sound_of_run (fn := Tryd.f41) hmix hstable (tyOK_of ttOK) (hglob (X_spec_l12Line N P_spec_l1Seal P_spec_l1Num)) (conOK_of (X := X_spec_l12Line N P_spec_l1Seal P_spec_l1Num) ⟨s_spec_l1Seal, s_spec_l1Num, trivial⟩) (mconOK_of (X := X_spec_l12Line N P_spec_l1Seal P_spec_l1Num) trivial) (by kernel_rfl) (by kernel_rfl) (by kernel_rfl) (by kernel_rfl) (by kernel_rfl) (of_decide_eq_true (by kernel_rfl))
theorem p_spec_l12Line (a0 : Int) (a1 : D_LogRecord) : P_spec_l12Line (a0, a1, ()) = 
  Option.bind (P_spec_l1Num (a0, ())) fun r0 =>
  Option.bind (catS r0.1 ([32] : List UInt8)) fun r1 =>
  Option.bind (catS r1 a1.1) fun r2 =>
  Option.bind (catS r2 ([64] : List UInt8)) fun r3 =>
  Option.bind (catS r3 a1.2.1) fun r4 =>
  Option.bind (P_spec_l1Seal (r4, ())) fun r5 =>
  Option.bind (catS r5.1 ([10] : List UInt8)) fun r6 =>
  some (r6, ()) := by
  rewrite [h_spec_l12Line]
  kernel_rfl

/- 66: loop.example/g01166/spec.l12Decode -/
abbrev As_spec_l12Decode : List ATy := [.data false .str, .data false (.int .i64)]
abbrev R_spec_l12Decode : List (Bool × Ty) := [(true, T_LogRecord), (false, .bool)]
abbrev M_spec_l12Decode : List RMode := []
abbrev Ft_spec_l12Decode : Type := (List UInt8) × Int × Unit → Option (D_LogRecord × Bool × Unit)
noncomputable def X_spec_l12Decode (n : Nat) (F_spec_l12Record : Ft_spec_l12Record) (F_spec_l12Line : Ft_spec_l12Line) (F_spec_l1Num : Ft_spec_l1Num) (F_spec_l1Split : Ft_spec_l1Split) : Ctx := { types := TT, globals := [], con := [(40, ⟨As_spec_l12Record, R_spec_l12Record, M_spec_l12Record, F_spec_l12Record⟩), (41, ⟨As_spec_l12Line, R_spec_l12Line, M_spec_l12Line, F_spec_l12Line⟩), (59, ⟨As_spec_l1Num, R_spec_l1Num, M_spec_l1Num, F_spec_l1Num⟩), (65, ⟨As_spec_l1Split, R_spec_l1Split, M_spec_l1Split, F_spec_l1Split⟩)], keep := [], results := [.cell 4 33, .tmp 5], ntmps := 64, n := n }
noncomputable def B_spec_l12Decode : Code := (Tryd.f66.body).getD .skip
noncomputable def P_spec_l12Decode : Ft_spec_l12Decode := hid (runF (X_spec_l12Decode N P_spec_l12Record P_spec_l12Line P_spec_l1Num P_spec_l1Split) B_spec_l12Decode As_spec_l12Decode R_spec_l12Decode M_spec_l12Decode)
theorem h_spec_l12Decode : P_spec_l12Decode = runF (X_spec_l12Decode N P_spec_l12Record P_spec_l12Line P_spec_l1Num P_spec_l1Split) B_spec_l12Decode As_spec_l12Decode R_spec_l12Decode M_spec_l12Decode := hid_eq _
noncomputable def C_spec_l12Decode : Contract := ⟨As_spec_l12Decode, R_spec_l12Decode, M_spec_l12Decode, P_spec_l12Decode⟩
theorem s_spec_l12Decode : Sound Tryd.prog GG 66 C_spec_l12Decode := by
  unfold C_spec_l12Decode; rw [h_spec_l12Decode]
  exact sound_of_run (fn := Tryd.f66) hmix hstable (tyOK_of ttOK) (hglob (X_spec_l12Decode N P_spec_l12Record P_spec_l12Line P_spec_l1Num P_spec_l1Split)) (conOK_of (X := X_spec_l12Decode N P_spec_l12Record P_spec_l12Line P_spec_l1Num P_spec_l1Split) ⟨s_spec_l12Record, s_spec_l12Line, s_spec_l1Num, s_spec_l1Split, trivial⟩) (mconOK_of (X := X_spec_l12Decode N P_spec_l12Record P_spec_l12Line P_spec_l1Num P_spec_l1Split) trivial) (by kernel_rfl) (by kernel_rfl) (by kernel_rfl) (by kernel_rfl) (by kernel_rfl) (of_decide_eq_true (by kernel_rfl))
theorem p_spec_l12Decode (a0 : List UInt8) (a1 : Int) : P_spec_l12Decode (a0, a1, ()) = 
  Option.bind (P_spec_l1Num (a1, ())) fun r0 =>
  Option.bind (catS r0.1 ([32] : List UInt8)) fun r1 =>
  Option.bind (P_spec_l1Split (a0, 35, ())) fun r2 =>
  bif inB 0 (List.length r2.1) then
    bif decide ((List.length (nth (.str : Ty) r2.1 0) : Int) < (List.length r1 : Int)) then
      some ((([] : List UInt8), (([] : List UInt8), ())), false, ())
    else
      bif (decide ((0 : Int) ≤ 0) && decide ((0 : Int) ≤ (List.length r1 : Int)) && decide ((List.length r1 : Int) ≤ (List.length (nth (.str : Ty) r2.1 0) : Int))) then
        bif !((cut (nth (.str : Ty) r2.1 0) 0 (List.length r1 : Int)) == r1) then
          some ((([] : List UInt8), (([] : List UInt8), ())), false, ())
        else
          bif (decide ((0 : Int) ≤ (List.length r1 : Int)) && decide ((List.length r1 : Int) ≤ (List.length (nth (.str : Ty) r2.1 0) : Int)) && decide ((List.length (nth (.str : Ty) r2.1 0) : Int) ≤ (List.length (nth (.str : Ty) r2.1 0) : Int))) then
            Option.bind (P_spec_l1Split ((cut (nth (.str : Ty) r2.1 0) (List.length r1 : Int) (List.length (nth (.str : Ty) r2.1 0) : Int)), 64, ())) fun r8 =>
            bif inB 0 (List.length r8.1) then
              bif decide ((List.length (nth (.str : Ty) r8.1 0) : Int) = (List.length (cut (nth (.str : Ty) r2.1 0) (List.length r1 : Int) (List.length (nth (.str : Ty) r2.1 0) : Int)) : Int)) then
                some ((([] : List UInt8), (([] : List UInt8), ())), false, ())
              else
                bif (decide ((0 : Int) ≤ (IntKind.wrap .i64 ((List.length (nth (.str : Ty) r8.1 0) : Int) + 1))) && decide ((IntKind.wrap .i64 ((List.length (nth (.str : Ty) r8.1 0) : Int) + 1)) ≤ (List.length (cut (nth (.str : Ty) r2.1 0) (List.length r1 : Int) (List.length (nth (.str : Ty) r2.1 0) : Int)) : Int)) && decide ((List.length (cut (nth (.str : Ty) r2.1 0) (List.length r1 : Int) (List.length (nth (.str : Ty) r2.1 0) : Int)) : Int) ≤ (List.length (cut (nth (.str : Ty) r2.1 0) (List.length r1 : Int) (List.length (nth (.str : Ty) r2.1 0) : Int)) : Int))) then
                  Option.bind (P_spec_l12Record (((nth (.str : Ty) r8.1 0), ((cut (cut (nth (.str : Ty) r2.1 0) (List.length r1 : Int) (List.length (nth (.str : Ty) r2.1 0) : Int)) (IntKind.wrap .i64 ((List.length (nth (.str : Ty) r8.1 0) : Int) + 1)) (List.length (cut (nth (.str : Ty) r2.1 0) (List.length r1 : Int) (List.length (nth (.str : Ty) r2.1 0) : Int)) : Int)), ())), ())) fun r12 =>
                  bif r12.1 then
                    Option.bind (P_spec_l12Line (a1, ((nth (.str : Ty) r8.1 0), ((cut (cut (nth (.str : Ty) r2.1 0) (List.length r1 : Int) (List.length (nth (.str : Ty) r2.1 0) : Int)) (IntKind.wrap .i64 ((List.length (nth (.str : Ty) r8.1 0) : Int) + 1)) (List.length (cut (nth (.str : Ty) r2.1 0) (List.length r1 : Int) (List.length (nth (.str : Ty) r2.1 0) : Int)) : Int)), ())), ())) fun r14 =>
                    Option.bind (catS a0 ([10] : List UInt8)) fun r15 =>
                    some (((nth (.str : Ty) r8.1 0), ((cut (cut (nth (.str : Ty) r2.1 0) (List.length r1 : Int) (List.length (nth (.str : Ty) r2.1 0) : Int)) (IntKind.wrap .i64 ((List.length (nth (.str : Ty) r8.1 0) : Int) + 1)) (List.length (cut (nth (.str : Ty) r2.1 0) (List.length r1 : Int) (List.length (nth (.str : Ty) r2.1 0) : Int)) : Int)), ())), r14.1 == r15, ())
                  else
                    some (((nth (.str : Ty) r8.1 0), ((cut (cut (nth (.str : Ty) r2.1 0) (List.length r1 : Int) (List.length (nth (.str : Ty) r2.1 0) : Int)) (IntKind.wrap .i64 ((List.length (nth (.str : Ty) r8.1 0) : Int) + 1)) (List.length (cut (nth (.str : Ty) r2.1 0) (List.length r1 : Int) (List.length (nth (.str : Ty) r2.1 0) : Int)) : Int)), ())), false, ())
                else none
            else none
          else none
      else none
  else none := by
  rewrite [h_spec_l12Decode]
  kernel_rfl

/- 49: loop.example/g01166/spec.l12Open -/
abbrev As_spec_l12Open : List ATy := [.data false .str]
abbrev R_spec_l12Open : List (Bool × Ty) := [(false, (.sl T_LogRecord)), (false, (.int .i64))]
abbrev M_spec_l12Open : List RMode := [.own 33]
abbrev Ft_spec_l12Open : Type := (List UInt8) × Unit → Option ((List D_LogRecord) × Int × Unit)
noncomputable def X_spec_l12Open (n : Nat) (F_spec_l1Split : Ft_spec_l1Split) (F_spec_l12Decode : Ft_spec_l12Decode) : Ctx := { types := TT, globals := [], con := [(65, ⟨As_spec_l1Split, R_spec_l1Split, M_spec_l1Split, F_spec_l1Split⟩), (66, ⟨As_spec_l12Decode, R_spec_l12Decode, M_spec_l12Decode, F_spec_l12Decode⟩)], keep := [(3, ⟨[.tmp 0, .tmp 4, .tmp 5], []⟩)], results := [.tmp 2, .tmp 3], ntmps := 52, n := n }
noncomputable def B_spec_l12Open : Code := (Tryd.f49.body).getD .skip
noncomputable def L_spec_l12Open_3 (n : Nat) (F_spec_l1Split : Ft_spec_l1Split) (F_spec_l12Decode : Ft_spec_l12Decode) (m0 : Nat) (p0 : List UInt8) (p1 : List D_LogRecord) (p2 : Int) : Option (denL R_spec_l12Open) := loopF (X_spec_l12Open n F_spec_l1Split F_spec_l12Decode) B_spec_l12Open R_spec_l12Open M_spec_l12Open 3 [m0] [(.ver, .num 1), (.tmp 0, .val false [.str p0]), (.tmp 4, .val false [.own 33 T_LogRecord 0 p1]), (.tmp 5, .val false [.int .i64 p2])]
noncomputable def P_spec_l12Open : Ft_spec_l12Open := hid (runF (X_spec_l12Open N P_spec_l1Split P_spec_l12Decode) B_spec_l12Open As_spec_l12Open R_spec_l12Open M_spec_l12Open)
theorem h_spec_l12Open : P_spec_l12Open = runF (X_spec_l12Open N P_spec_l1Split P_spec_l12Decode) B_spec_l12Open As_spec_l12Open R_spec_l12Open M_spec_l12Open := hid_eq _
noncomputable def C_spec_l12Open : Contract := ⟨As_spec_l12Open, R_spec_l12Open, M_spec_l12Open, P_spec_l12Open⟩
theorem s_spec_l12Open : Sound Tryd.prog GG 49 C_spec_l12Open := by
  unfold C_spec_l12Open; rw [h_spec_l12Open]
  exact sound_of_run (fn := Tryd.f49) hmix hstable (tyOK_of ttOK) (hglob (X_spec_l12Open N P_spec_l1Split P_spec_l12Decode)) (conOK_of (X := X_spec_l12Open N P_spec_l1Split P_spec_l12Decode) ⟨s_spec_l1Split, s_spec_l12Decode, trivial⟩) (mconOK_of (X := X_spec_l12Open N P_spec_l1Split P_spec_l12Decode) trivial) (by kernel_rfl) (by kernel_rfl) (by kernel_rfl) (by kernel_rfl) (by kernel_rfl) (of_decide_eq_true (by kernel_rfl))
noncomputable def l_spec_l12Open_3 : Nat → (List UInt8) → (List D_LogRecord) → Int → Option (denL R_spec_l12Open) := hid (fun m0 p0 p1 p2 => L_spec_l12Open_3 N P_spec_l1Split P_spec_l12Decode m0 p0 p1 p2)
theorem h_spec_l12Open_3 : l_spec_l12Open_3 = fun m0 p0 p1 p2 => L_spec_l12Open_3 N P_spec_l1Split P_spec_l12Decode m0 p0 p1 p2 := hid_eq _
theorem p_spec_l12Open (a0 : List UInt8) : P_spec_l12Open (a0, ()) = 
  l_spec_l12Open_3 N a0 ([] : List D_LogRecord) 0 := by
  rewrite [h_spec_l12Open, h_spec_l12Open_3]
  kernel_rfl
theorem q_spec_l12Open_3 (m0 : Nat) (p0 : List UInt8) (p1 : List D_LogRecord) (p2 : Int) : l_spec_l12Open_3 (m0 + 1) p0 p1 p2 = 
  bif decide (p2 < (List.length p0 : Int)) then
    bif decide ((List.length p1 : Int) < 60) then
      bif (decide ((0 : Int) ≤ p2) && decide (p2 ≤ (List.length p0 : Int)) && decide ((List.length p0 : Int) ≤ (List.length p0 : Int))) then
        Option.bind (P_spec_l1Split ((cut p0 p2 (List.length p0 : Int)), 10, ())) fun r3 =>
        bif inB 0 (List.length r3.1) then
          Option.bind (P_spec_l12Decode ((nth (.str : Ty) r3.1 0), (List.length p1 : Int), ())) fun r5 =>
          bif decide ((List.length r3.1 : Int) < 2) then
            some (p1, p2, ())
          else
            bif !r5.2.1 then
              some (p1, p2, ())
            else
              bif (decide (((List.length p1) + (List.length ([r5.1] : List D_LogRecord))) * 32 ≤ 140737488355328) && decide (((List.length p1) + (List.length ([r5.1] : List D_LogRecord))) ≤ 140737488355328)) then
                bif inB 0 (List.length r3.1) then
                  l_spec_l12Open_3 m0 p0 (p1 ++ ([r5.1] : List D_LogRecord)) (IntKind.wrap .i64 ((IntKind.wrap .i64 (p2 + (List.length (nth (.str : Ty) r3.1 0) : Int))) + 1))
                else none
              else none
        else none
      else none
    else
      some (p1, p2, ())
  else
    some (p1, p2, ()) := by
  rewrite [h_spec_l12Open_3]
  kernel_rfl

/- 33: loop.example/g01166/spec.l12Valid -/
abbrev As_spec_l12Valid : List ATy := [.data true T_Log]
abbrev R_spec_l12Valid : List (Bool × Ty) := [(false, .bool)]
abbrev M_spec_l12Valid : List RMode := []
abbrev Ft_spec_l12Valid : Type := D_Log × Unit → Option (Bool × Unit)
noncomputable def X_spec_l12Valid (n : Nat) (F_spec_l12Open : Ft_spec_l12Open) : Ctx := { types := TT, globals := [], con := [(49, ⟨As_spec_l12Open, R_spec_l12Open, M_spec_l12Open, F_spec_l12Open⟩)], keep := [], results := [.tmp 2], ntmps := 53, n := n }
noncomputable def B_spec_l12Valid : Code := (Tryd.f33.body).getD .skip
noncomputable def P_spec_l12Valid : Ft_spec_l12Valid := hid (runF (X_spec_l12Valid N P_spec_l12Open) B_spec_l12Valid As_spec_l12Valid R_spec_l12Valid M_spec_l12Valid)
theorem h_spec_l12Valid : P_spec_l12Valid = runF (X_spec_l12Valid N P_spec_l12Open) B_spec_l12Valid As_spec_l12Valid R_spec_l12Valid M_spec_l12Valid := hid_eq _
noncomputable def C_spec_l12Valid : Contract := ⟨As_spec_l12Valid, R_spec_l12Valid, M_spec_l12Valid, P_spec_l12Valid⟩
theorem s_spec_l12Valid : Sound Tryd.prog GG 33 C_spec_l12Valid := by
  unfold C_spec_l12Valid; rw [h_spec_l12Valid]
  exact sound_of_run (fn := Tryd.f33) hmix hstable (tyOK_of ttOK) (hglob (X_spec_l12Valid N P_spec_l12Open)) (conOK_of (X := X_spec_l12Valid N P_spec_l12Open) ⟨s_spec_l12Open, trivial⟩) (mconOK_of (X := X_spec_l12Valid N P_spec_l12Open) trivial) (by kernel_rfl) (by kernel_rfl) (by kernel_rfl) (by kernel_rfl) (by kernel_rfl) (of_decide_eq_true (by kernel_rfl))
theorem p_spec_l12Valid (a0 : D_Log) : P_spec_l12Valid (a0, ()) = 
  bif decide ((IntKind.wrap .i64 ((List.length a0.1 : Int) + (List.length a0.2.1 : Int))) > 30000) then
    some (false, ())
  else
    Option.bind (catS a0.1 a0.2.1) fun r1 =>
    Option.bind (P_spec_l12Open (r1, ())) fun r2 =>
    Option.bind (P_spec_l12Open (a0.1, ())) fun r3 =>
    bif decide (r2.2.1 = (IntKind.wrap .i64 ((List.length a0.1 : Int) + (List.length a0.2.1 : Int)))) then
      bif decide (r3.2.1 = (List.length a0.1 : Int)) then
        some (decide ((List.length r2.1 : Int) = a0.2.2.1), ())
      else
        some (false, ())
    else
      some (false, ()) := by
  rewrite [h_spec_l12Valid]
  kernel_rfl

/- 7: loop.example/g01166/spec.CrashLog -/
abbrev As_spec_CrashLog : List ATy := [.data true T_Log, .data false (.int .i64), .data false .bool]
abbrev R_spec_CrashLog : List (Bool × Ty) := [(false, .str), (false, .bool)]
abbrev M_spec_CrashLog : List RMode := []
abbrev Ft_spec_CrashLog : Type := D_Log × Int × Bool × Unit → Option ((List UInt8) × Bool × Unit)
noncomputable def X_spec_CrashLog (n : Nat) (F_spec_l12Valid : Ft_spec_l12Valid) (F_spec_l1In : Ft_spec_l1In) : Ctx := { types := TT, globals := [], con := [(33, ⟨As_spec_l12Valid, R_spec_l12Valid, M_spec_l12Valid, F_spec_l12Valid⟩), (34, ⟨As_spec_l1In, R_spec_l1In, M_spec_l1In, F_spec_l1In⟩)], keep := [], results := [.tmp 6, .tmp 7], ntmps := 45, n := n }
noncomputable def B_spec_CrashLog : Code := (Tryd.f7.body).getD .skip
noncomputable def P_spec_CrashLog : Ft_spec_CrashLog := hid (runF (X_spec_CrashLog N P_spec_l12Valid P_spec_l1In) B_spec_CrashLog As_spec_CrashLog R_spec_CrashLog M_spec_CrashLog)
theorem h_spec_CrashLog : P_spec_CrashLog = runF (X_spec_CrashLog N P_spec_l12Valid P_spec_l1In) B_spec_CrashLog As_spec_CrashLog R_spec_CrashLog M_spec_CrashLog := hid_eq _
noncomputable def C_spec_CrashLog : Contract := ⟨As_spec_CrashLog, R_spec_CrashLog, M_spec_CrashLog, P_spec_CrashLog⟩
theorem s_spec_CrashLog : Sound Tryd.prog GG 7 C_spec_CrashLog := by
  unfold C_spec_CrashLog; rw [h_spec_CrashLog]
  exact sound_of_run (fn := Tryd.f7) hmix hstable (tyOK_of ttOK) (hglob (X_spec_CrashLog N P_spec_l12Valid P_spec_l1In)) (conOK_of (X := X_spec_CrashLog N P_spec_l12Valid P_spec_l1In) ⟨s_spec_l12Valid, s_spec_l1In, trivial⟩) (mconOK_of (X := X_spec_CrashLog N P_spec_l12Valid P_spec_l1In) trivial) (by kernel_rfl) (by kernel_rfl) (by kernel_rfl) (by kernel_rfl) (by kernel_rfl) (of_decide_eq_true (by kernel_rfl))
theorem p_spec_CrashLog (a0 : D_Log) (a1 : Int) (a2 : Bool) : P_spec_CrashLog (a0, a1, a2, ()) = 
  Option.bind (P_spec_l12Valid (a0, ())) fun r0 =>
  bif !r0.1 then
    some (([] : List UInt8), false, ())
  else
    Option.bind (P_spec_l1In (a1, 0, (List.length a0.2.1 : Int), ())) fun r2 =>
    bif !r2.1 then
      some (([] : List UInt8), false, ())
    else
      bif (decide ((0 : Int) ≤ 0) && decide ((0 : Int) ≤ a1) && decide (a1 ≤ (List.length a0.2.1 : Int))) then
        bif decide ((List.length (cut a0.2.1 0 a1)) ≤ 140737488355328) then
          bif a2 then
            bif decide (a1 > 0) then
              bif inB (IntKind.wrap .i64 (a1 - 1)) (List.length (List.map (fun (c : UInt8) => ((c.toNat : Int), ())) (cut a0.2.1 0 a1))) then
                bif inB (IntKind.wrap .i64 (a1 - 1)) (List.length (List.map (fun (c : UInt8) => ((c.toNat : Int), ())) (cut a0.2.1 0 a1))) then
                  Option.bind (catS a0.1 (List.map (fun (N : Int × Unit) => N.1.toNat.toUInt8) (List.set (List.map (fun (c : UInt8) => ((c.toNat : Int), ())) (cut a0.2.1 0 a1)) (Int.toNat (IntKind.wrap .i64 (a1 - 1))) ((IntKind.wrap .u8 (255 - ((nth ((.pair (.int .u8) .unit) : Ty) (List.map (fun (c : UInt8) => ((c.toNat : Int), ())) (cut a0.2.1 0 a1)) (IntKind.wrap .i64 (a1 - 1)))).1)), ())))) fun r10 =>
                  some (r10, true, ())
                else none
              else none
            else
              Option.bind (catS a0.1 (List.map (fun (N : Int × Unit) => N.1.toNat.toUInt8) (List.map (fun (c : UInt8) => ((c.toNat : Int), ())) (cut a0.2.1 0 a1)))) fun r8 =>
              some (r8, true, ())
          else
            Option.bind (catS a0.1 (List.map (fun (N : Int × Unit) => N.1.toNat.toUInt8) (List.map (fun (c : UInt8) => ((c.toNat : Int), ())) (cut a0.2.1 0 a1)))) fun r7 =>
            some (r7, true, ())
        else none
      else none := by
  rewrite [h_spec_CrashLog]
  kernel_rfl

/- 8: loop.example/g01166/laws.toLog -/
abbrev As_laws_toLog : List ATy := [.data true T_Log]
abbrev R_laws_toLog : List (Bool × Ty) := [(true, T_Log)]
abbrev M_laws_toLog : List RMode := []
abbrev Ft_laws_toLog : Type := D_Log × Unit → Option (D_Log × Unit)
noncomputable def X_laws_toLog (n : Nat) : Ctx := { types := TT, globals := [], con := [], keep := [], results := [.cell 2 27], ntmps := 14, n := n }
noncomputable def B_laws_toLog : Code := (Tryd.f8.body).getD .skip
noncomputable def P_laws_toLog : Ft_laws_toLog := hid (runF (X_laws_toLog N) B_laws_toLog As_laws_toLog R_laws_toLog M_laws_toLog)
theorem h_laws_toLog : P_laws_toLog = runF (X_laws_toLog N) B_laws_toLog As_laws_toLog R_laws_toLog M_laws_toLog := hid_eq _
noncomputable def C_laws_toLog : Contract := ⟨As_laws_toLog, R_laws_toLog, M_laws_toLog, P_laws_toLog⟩
theorem s_laws_toLog : Sound Tryd.prog GG 8 C_laws_toLog := by
  unfold C_laws_toLog; rw [h_laws_toLog]
  exact sound_of_run (fn := Tryd.f8) hmix hstable (tyOK_of ttOK) (hglob (X_laws_toLog N)) (conOK_of (X := X_laws_toLog N) trivial) (mconOK_of (X := X_laws_toLog N) trivial) (by kernel_rfl) (by kernel_rfl) (by kernel_rfl) (by kernel_rfl) (by kernel_rfl) (of_decide_eq_true (by kernel_rfl))
theorem p_laws_toLog (a0 : D_Log) : P_laws_toLog (a0, ()) = 
  some (a0, ()) := by
  rewrite [h_laws_toLog]
  kernel_rfl

/- 61: strings.ContainsAny: GIVEN -/
abbrev As_strings_ContainsAny : List ATy := [.data false .str, .data false .str]
abbrev R_strings_ContainsAny : List (Bool × Ty) := [(false, .bool)]
abbrev M_strings_ContainsAny : List RMode := []
abbrev Ft_strings_ContainsAny : Type := (List UInt8) × (List UInt8) × Unit → Option (Bool × Unit)
def ascii (s : List UInt8) : Bool := decide (s.length < 4294967281) && s.all fun b => decide (b.toNat < 128)
noncomputable def P_strings_ContainsAny : Ft_strings_ContainsAny := fun x => bif ascii x.1 && ascii x.2.1 then some (Lib.containsAny x.1 x.2.1, ()) else none
noncomputable def C_strings_ContainsAny : Contract := ⟨As_strings_ContainsAny, R_strings_ContainsAny, M_strings_ContainsAny, P_strings_ContainsAny⟩
theorem ascii_at {s : List UInt8} (h : ascii s = true) (j : Nat) (b : UInt8) (hj : s[j]? = some b) : b.toNat < 128 := by
  simp only [ascii, Bool.and_eq_true, List.all_eq_true, decide_eq_true_eq] at h
  exact h.2 b (List.mem_of_getElem? hj)
theorem s_strings_ContainsAny : Sound Tryd.prog GG 61 C_strings_ContainsAny := by
  refine sound_flat (fn := Tryd.f61) (c := (Tryd.f61.body).getD .skip) (by decide) (by decide) Tryd.func61 (by kernel_rfl) (by kernel_rfl) ?_
  rintro w ⟨s, ch, ⟨⟩⟩ ⟨r, ⟨⟩⟩ _ hF
  have hF : (bif ascii s && ascii ch then some (Lib.containsAny s ch, ()) else none) = some (r, ()) := hF
  cases h : ascii s && ascii ch with
  | false => rw [h] at hF; cases hF
  | true =>
    rw [h] at hF
    simp only [Bool.and_eq_true] at h
    obtain ⟨h1, h2⟩ := h
    have hr : Lib.containsAny s ch = r := by simpa using hF
    have hl1 : s.length < 4294967281 := by simp only [ascii, Bool.and_eq_true, decide_eq_true_eq] at h1; exact h1.1
    have hl2 : ch.length < 4294967281 := by simp only [ascii, Bool.and_eq_true, decide_eq_true_eq] at h2; exact h2.1
    have := Tryd.strings_ContainsAny_laid ⟨s.toArray⟩ ⟨ch.toArray⟩ w (by simpa [ByteArray.size] using hl1) (by simpa [ByteArray.size] using hl2) (fun j b hj => ascii_at h1 j b (by simpa using hj)) (fun j b hj => ascii_at h2 j b (by simpa using hj))
    rw [← hr]
    exact this
/- 46: loop.example/g01166/impl.isPlain -/
abbrev As_impl_isPlain : List ATy := [.data false .str, .data false (.int .i64), .data false .str]
abbrev R_impl_isPlain : List (Bool × Ty) := [(false, .bool)]
abbrev M_impl_isPlain : List RMode := []
abbrev Ft_impl_isPlain : Type := (List UInt8) × Int × (List UInt8) × Unit → Option (Bool × Unit)
noncomputable def X_impl_isPlain (n : Nat) (F_strings_ContainsAny : Ft_strings_ContainsAny) : Ctx := { types := TT, globals := [], con := [(61, ⟨As_strings_ContainsAny, R_strings_ContainsAny, M_strings_ContainsAny, F_strings_ContainsAny⟩)], keep := [(2, ⟨[.tmp 0, .tmp 1, .tmp 2, .tmp 9, .tmp 10], []⟩)], results := [.tmp 6], ntmps := 34, n := n }
noncomputable def B_impl_isPlain : Code := (Tryd.f46.body).getD .skip
noncomputable def L_impl_isPlain_2 (n : Nat) (F_strings_ContainsAny : Ft_strings_ContainsAny) (m0 : Nat) (p0 : List UInt8) (p1 : Int) (p2 : List UInt8) (p3 : Int) (p4 : Int) : Option (denL R_impl_isPlain) := loopF (X_impl_isPlain n F_strings_ContainsAny) B_impl_isPlain R_impl_isPlain M_impl_isPlain 2 [m0] [(.ver, .num 1), (.tmp 0, .val false [.str p0]), (.tmp 1, .val false [.int .i64 p1]), (.tmp 2, .val false [.str p2]), (.tmp 9, .val false [.int .i64 p3]), (.tmp 10, .val false [.int .i64 p4])]
noncomputable def P_impl_isPlain : Ft_impl_isPlain := hid (runF (X_impl_isPlain N P_strings_ContainsAny) B_impl_isPlain As_impl_isPlain R_impl_isPlain M_impl_isPlain)
theorem h_impl_isPlain : P_impl_isPlain = runF (X_impl_isPlain N P_strings_ContainsAny) B_impl_isPlain As_impl_isPlain R_impl_isPlain M_impl_isPlain := hid_eq _
noncomputable def C_impl_isPlain : Contract := ⟨As_impl_isPlain, R_impl_isPlain, M_impl_isPlain, P_impl_isPlain⟩
theorem s_impl_isPlain : Sound Tryd.prog GG 46 C_impl_isPlain := by
  unfold C_impl_isPlain; rw [h_impl_isPlain]
  exact sound_of_run (fn := Tryd.f46) hmix hstable (tyOK_of ttOK) (hglob (X_impl_isPlain N P_strings_ContainsAny)) (conOK_of (X := X_impl_isPlain N P_strings_ContainsAny) ⟨s_strings_ContainsAny, trivial⟩) (mconOK_of (X := X_impl_isPlain N P_strings_ContainsAny) trivial) (by kernel_rfl) (by kernel_rfl) (by kernel_rfl) (by kernel_rfl) (by kernel_rfl) (of_decide_eq_true (by kernel_rfl))
noncomputable def l_impl_isPlain_2 : Nat → (List UInt8) → Int → (List UInt8) → Int → Int → Option (denL R_impl_isPlain) := hid (fun m0 p0 p1 p2 p3 p4 => L_impl_isPlain_2 N P_strings_ContainsAny m0 p0 p1 p2 p3 p4)
theorem h_impl_isPlain_2 : l_impl_isPlain_2 = fun m0 p0 p1 p2 p3 p4 => L_impl_isPlain_2 N P_strings_ContainsAny m0 p0 p1 p2 p3 p4 := hid_eq _
theorem p_impl_isPlain (a0 : List UInt8) (a1 : Int) (a2 : List UInt8) : P_impl_isPlain (a0, a1, a2, ()) = 
  l_impl_isPlain_2 N a0 a1 a2 (List.length a0 : Int) 0 := by
  rewrite [h_impl_isPlain, h_impl_isPlain_2]
  kernel_rfl
theorem q_impl_isPlain_2 (m0 : Nat) (p0 : List UInt8) (p1 : Int) (p2 : List UInt8) (p3 : Int) (p4 : Int) : l_impl_isPlain_2 (m0 + 1) p0 p1 p2 p3 p4 = 
  bif decide (p4 < p3) then
    bif inB p4 (List.length p0) then
      bif decide ((byteAt p0 p4) < 32) then
        some (false, ())
      else
        bif inB p4 (List.length p0) then
          bif decide ((byteAt p0 p4) > 126) then
            some (false, ())
          else
            l_impl_isPlain_2 m0 p0 p1 p2 p3 (IntKind.wrap .i64 (p4 + 1))
        else none
    else none
  else
    bif decide ((List.length p0 : Int) ≤ p1) then
      Option.bind (P_strings_ContainsAny (p0, p2, ())) fun r2 =>
      some (!r2.1, ())
    else
      some (false, ()) := by
  rewrite [h_impl_isPlain_2]
  kernel_rfl

/- 45: loop.example/g01166/impl.isCommand -/
abbrev As_impl_isCommand : List ATy := [.data false .str]
abbrev R_impl_isCommand : List (Bool × Ty) := [(false, .bool)]
abbrev M_impl_isCommand : List RMode := []
abbrev Ft_impl_isCommand : Type := (List UInt8) × Unit → Option (Bool × Unit)
noncomputable def X_impl_isCommand (n : Nat) (F_impl_isPlain : Ft_impl_isPlain) : Ctx := { types := TT, globals := [], con := [(46, ⟨As_impl_isPlain, R_impl_isPlain, M_impl_isPlain, F_impl_isPlain⟩)], keep := [], results := [.tmp 2], ntmps := 9, n := n }
noncomputable def B_impl_isCommand : Code := (Tryd.f45.body).getD .skip
noncomputable def P_impl_isCommand : Ft_impl_isCommand := hid (runF (X_impl_isCommand N P_impl_isPlain) B_impl_isCommand As_impl_isCommand R_impl_isCommand M_impl_isCommand)
theorem h_impl_isCommand : P_impl_isCommand = runF (X_impl_isCommand N P_impl_isPlain) B_impl_isCommand As_impl_isCommand R_impl_isCommand M_impl_isCommand := hid_eq _
noncomputable def C_impl_isCommand : Contract := ⟨As_impl_isCommand, R_impl_isCommand, M_impl_isCommand, P_impl_isCommand⟩
theorem s_impl_isCommand : Sound Tryd.prog GG 45 C_impl_isCommand := by
  unfold C_impl_isCommand; rw [h_impl_isCommand]
  exact sound_of_run (fn := Tryd.f45) hmix hstable (tyOK_of ttOK) (hglob (X_impl_isCommand N P_impl_isPlain)) (conOK_of (X := X_impl_isCommand N P_impl_isPlain) ⟨s_impl_isPlain, trivial⟩) (mconOK_of (X := X_impl_isCommand N P_impl_isPlain) trivial) (by kernel_rfl) (by kernel_rfl) (by kernel_rfl) (by kernel_rfl) (by kernel_rfl) (of_decide_eq_true (by kernel_rfl))
theorem p_impl_isCommand (a0 : List UInt8) : P_impl_isCommand (a0, ()) = 
  bif !(a0 == ([] : List UInt8)) then
    Option.bind (P_impl_isPlain (a0, 160, ([35, 64] : List UInt8), ())) fun r1 =>
    some (r1.1, ())
  else
    some (false, ()) := by
  rewrite [h_impl_isCommand]
  kernel_rfl

/- 20: loop.example/g01166/impl.IsValidRecord -/
abbrev As_impl_IsValidRecord : List ATy := [.data true T_LogRecord]
abbrev R_impl_IsValidRecord : List (Bool × Ty) := [(false, .bool)]
abbrev M_impl_IsValidRecord : List RMode := []
abbrev Ft_impl_IsValidRecord : Type := D_LogRecord × Unit → Option (Bool × Unit)
noncomputable def X_impl_IsValidRecord (n : Nat) (F_impl_isCommand : Ft_impl_isCommand) (F_impl_isPlain : Ft_impl_isPlain) : Ctx := { types := TT, globals := [], con := [(45, ⟨As_impl_isCommand, R_impl_isCommand, M_impl_isCommand, F_impl_isCommand⟩), (46, ⟨As_impl_isPlain, R_impl_isPlain, M_impl_isPlain, F_impl_isPlain⟩)], keep := [], results := [.tmp 2], ntmps := 11, n := n }
noncomputable def B_impl_IsValidRecord : Code := (Tryd.f20.body).getD .skip
noncomputable def P_impl_IsValidRecord : Ft_impl_IsValidRecord := hid (runF (X_impl_IsValidRecord N P_impl_isCommand P_impl_isPlain) B_impl_IsValidRecord As_impl_IsValidRecord R_impl_IsValidRecord M_impl_IsValidRecord)
theorem h_impl_IsValidRecord : P_impl_IsValidRecord = runF (X_impl_IsValidRecord N P_impl_isCommand P_impl_isPlain) B_impl_IsValidRecord As_impl_IsValidRecord R_impl_IsValidRecord M_impl_IsValidRecord := hid_eq _
noncomputable def C_impl_IsValidRecord : Contract := ⟨As_impl_IsValidRecord, R_impl_IsValidRecord, M_impl_IsValidRecord, P_impl_IsValidRecord⟩
theorem s_impl_IsValidRecord : Sound Tryd.prog GG 20 C_impl_IsValidRecord := by
  unfold C_impl_IsValidRecord; rw [h_impl_IsValidRecord]
  exact sound_of_run (fn := Tryd.f20) hmix hstable (tyOK_of ttOK) (hglob (X_impl_IsValidRecord N P_impl_isCommand P_impl_isPlain)) (conOK_of (X := X_impl_IsValidRecord N P_impl_isCommand P_impl_isPlain) ⟨s_impl_isCommand, s_impl_isPlain, trivial⟩) (mconOK_of (X := X_impl_IsValidRecord N P_impl_isCommand P_impl_isPlain) trivial) (by kernel_rfl) (by kernel_rfl) (by kernel_rfl) (by kernel_rfl) (by kernel_rfl) (of_decide_eq_true (by kernel_rfl))
theorem p_impl_IsValidRecord (a0 : D_LogRecord) : P_impl_IsValidRecord (a0, ()) = 
  Option.bind (P_impl_isCommand (a0.1, ())) fun r0 =>
  bif r0.1 then
    Option.bind (P_impl_isPlain (a0.2.1, 300, ([35] : List UInt8), ())) fun r2 =>
    some (r2.1, ())
  else
    some (false, ()) := by
  rewrite [h_impl_IsValidRecord]
  kernel_rfl

/- 35: loop.example/g01166/impl.within -/
abbrev As_impl_within : List ATy := [.data false (.int .i64), .data false (.int .i64), .data false (.int .i64)]
abbrev R_impl_within : List (Bool × Ty) := [(false, .bool)]
abbrev M_impl_within : List RMode := []
abbrev Ft_impl_within : Type := Int × Int × Int × Unit → Option (Bool × Unit)
noncomputable def X_impl_within (n : Nat) : Ctx := { types := TT, globals := [], con := [], keep := [], results := [.tmp 6], ntmps := 15, n := n }
noncomputable def B_impl_within : Code := (Tryd.f35.body).getD .skip
noncomputable def P_impl_within : Ft_impl_within := hid (runF (X_impl_within N) B_impl_within As_impl_within R_impl_within M_impl_within)
theorem h_impl_within : P_impl_within = runF (X_impl_within N) B_impl_within As_impl_within R_impl_within M_impl_within := hid_eq _
noncomputable def C_impl_within : Contract := ⟨As_impl_within, R_impl_within, M_impl_within, P_impl_within⟩
theorem s_impl_within : Sound Tryd.prog GG 35 C_impl_within := by
  unfold C_impl_within; rw [h_impl_within]
  exact sound_of_run (fn := Tryd.f35) hmix hstable (tyOK_of ttOK) (hglob (X_impl_within N)) (conOK_of (X := X_impl_within N) trivial) (mconOK_of (X := X_impl_within N) trivial) (by kernel_rfl) (by kernel_rfl) (by kernel_rfl) (by kernel_rfl) (by kernel_rfl) (of_decide_eq_true (by kernel_rfl))
theorem p_impl_within (a0 : Int) (a1 : Int) (a2 : Int) : P_impl_within (a0, a1, a2, ()) = 
  bif decide (a0 ≥ a1) then
    some (decide (a0 ≤ a2), ())
  else
    some (false, ()) := by
  rewrite [h_impl_within]
  kernel_rfl

/- 54: loop.example/g01166/impl.checksum -/
abbrev As_impl_checksum : List ATy := [.data false .str]
abbrev R_impl_checksum : List (Bool × Ty) := [(false, (.int .i64))]
abbrev M_impl_checksum : List RMode := []
abbrev Ft_impl_checksum : Type := (List UInt8) × Unit → Option (Int × Unit)
noncomputable def X_impl_checksum (n : Nat) : Ctx := { types := TT, globals := [], con := [], keep := [(3, ⟨[.tmp 0, .tmp 3, .tmp 6, .tmp 7], []⟩)], results := [.tmp 2], ntmps := 21, n := n }
noncomputable def B_impl_checksum : Code := (Tryd.f54.body).getD .skip
noncomputable def L_impl_checksum_3 (n : Nat) (m0 : Nat) (p0 : List UInt8) (p1 : Int) (p2 : Int) (p3 : Int) : Option (denL R_impl_checksum) := loopF (X_impl_checksum n) B_impl_checksum R_impl_checksum M_impl_checksum 3 [m0] [(.ver, .num 1), (.tmp 0, .val false [.str p0]), (.tmp 3, .val false [.int .i64 p1]), (.tmp 6, .val false [.int .i64 p2]), (.tmp 7, .val false [.int .i64 p3])]
noncomputable def P_impl_checksum : Ft_impl_checksum := hid (runF (X_impl_checksum N) B_impl_checksum As_impl_checksum R_impl_checksum M_impl_checksum)
theorem h_impl_checksum : P_impl_checksum = runF (X_impl_checksum N) B_impl_checksum As_impl_checksum R_impl_checksum M_impl_checksum := hid_eq _
noncomputable def C_impl_checksum : Contract := ⟨As_impl_checksum, R_impl_checksum, M_impl_checksum, P_impl_checksum⟩
theorem s_impl_checksum : Sound Tryd.prog GG 54 C_impl_checksum := by
  unfold C_impl_checksum; rw [h_impl_checksum]
  exact sound_of_run (fn := Tryd.f54) hmix hstable (tyOK_of ttOK) (hglob (X_impl_checksum N)) (conOK_of (X := X_impl_checksum N) trivial) (mconOK_of (X := X_impl_checksum N) trivial) (by kernel_rfl) (by kernel_rfl) (by kernel_rfl) (by kernel_rfl) (by kernel_rfl) (of_decide_eq_true (by kernel_rfl))
noncomputable def l_impl_checksum_3 : Nat → (List UInt8) → Int → Int → Int → Option (denL R_impl_checksum) := hid (fun m0 p0 p1 p2 p3 => L_impl_checksum_3 N m0 p0 p1 p2 p3)
theorem h_impl_checksum_3 : l_impl_checksum_3 = fun m0 p0 p1 p2 p3 => L_impl_checksum_3 N m0 p0 p1 p2 p3 := hid_eq _
theorem p_impl_checksum (a0 : List UInt8) : P_impl_checksum (a0, ()) = 
  l_impl_checksum_3 N a0 7 (List.length a0 : Int) 0 := by
  rewrite [h_impl_checksum, h_impl_checksum_3]
  kernel_rfl
theorem q_impl_checksum_3 (m0 : Nat) (p0 : List UInt8) (p1 : Int) (p2 : Int) (p3 : Int) : l_impl_checksum_3 (m0 + 1) p0 p1 p2 p3 = 
  bif decide (p3 < p2) then
    bif inB p3 (List.length p0) then
      l_impl_checksum_3 m0 p0 (Int.tmod (IntKind.wrap .i64 ((IntKind.wrap .i64 ((IntKind.wrap .i64 (41 * p1)) + (IntKind.wrap .i64 (byteAt p0 p3)))) + 1)) 999979) p2 (IntKind.wrap .i64 (p3 + 1))
    else none
  else
    some (p1, ()) := by
  rewrite [h_impl_checksum_3]
  kernel_rfl

/- 39: strconv.Itoa: GIVEN -/
abbrev As_strconv_Itoa : List ATy := [.data false (.int .i64)]
abbrev R_strconv_Itoa : List (Bool × Ty) := [(false, .str)]
abbrev M_strconv_Itoa : List RMode := []
abbrev Ft_strconv_Itoa : Type := Int × Unit → Option ((List UInt8) × Unit)
noncomputable def P_strconv_Itoa : Ft_strconv_Itoa := fun x => bif decide (-9223372036854775808 ≤ x.1) && decide (x.1 ≤ 9223372036854775807) then some (Lib.itoa x.1, ()) else none
noncomputable def C_strconv_Itoa : Contract := ⟨As_strconv_Itoa, R_strconv_Itoa, M_strconv_Itoa, P_strconv_Itoa⟩
theorem s_strconv_Itoa : Sound Tryd.prog GG 39 C_strconv_Itoa := by
  refine sound_flat (fn := Tryd.f39) (c := (Tryd.f39.body).getD .skip) (by decide) (by decide) Tryd.func39 (by kernel_rfl) (by kernel_rfl) ?_
  rintro w ⟨n, ⟨⟩⟩ ⟨r, ⟨⟩⟩ hG hF
  have hF : (bif decide (-9223372036854775808 ≤ n) && decide (n ≤ 9223372036854775807) then some (Lib.itoa n, ()) else none) = some (r, ()) := hF
  cases h : decide (-9223372036854775808 ≤ n) && decide (n ≤ 9223372036854775807) with
  | false => rw [h] at hF; cases hF
  | true =>
    rw [h] at hF
    simp only [Bool.and_eq_true, decide_eq_true_eq] at h
    have hr : Lib.itoa n = r := by simpa using hF
    rw [← hr]
    refine (Tryd.strconv_Itoa n h.1 h.2 w hG.2.1).mono ?_
    rintro e w' ⟨rfl, k, os, rfl⟩
    exact ⟨rfl, below_grew w k os⟩
/- 53: strings.Contains: GIVEN -/
abbrev As_strings_Contains : List ATy := [.data false .str, .data false .str]
abbrev R_strings_Contains : List (Bool × Ty) := [(false, .bool)]
abbrev M_strings_Contains : List RMode := []
abbrev Ft_strings_Contains : Type := (List UInt8) × (List UInt8) × Unit → Option (Bool × Unit)
noncomputable def P_strings_Contains : Ft_strings_Contains := fun x => bif decide (x.2.1.length = 1) then some (decide (0 ≤ Lib.indexByte x.1 (x.2.1.headD 0)), ()) else none
noncomputable def C_strings_Contains : Contract := ⟨As_strings_Contains, R_strings_Contains, M_strings_Contains, P_strings_Contains⟩
theorem s_strings_Contains : Sound Tryd.prog GG 53 C_strings_Contains := by
  refine sound_flat (fn := Tryd.f53) (c := (Tryd.f53.body).getD .skip) (by decide) (by decide) Tryd.func53 (by kernel_rfl) (by kernel_rfl) ?_
  rintro w ⟨s, sub, ⟨⟩⟩ ⟨r, ⟨⟩⟩ _ hF
  have hF : (bif decide (sub.length = 1) then some (decide (0 ≤ Lib.indexByte s (sub.headD 0)), ()) else none) = some (r, ()) := hF
  match sub, hF with
  | [c], hF =>
    have hr : decide (0 ≤ Lib.indexByte s c) = r := by simpa using hF
    rw [← hr]
    refine (Tryd.strings_Contains_one ⟨s.toArray⟩ c w).mono ?_
    rintro e w' ⟨rfl, rfl⟩
    exact ⟨rfl, RowKit.Below.refl _ _⟩
  | [], hF => cases hF
  | _ :: _ :: _, hF =>
    simp at hF
/- 38: loop.example/g01166/impl.AppendChecksum -/
abbrev As_impl_AppendChecksum : List ATy := [.data false .str]
abbrev R_impl_AppendChecksum : List (Bool × Ty) := [(false, .str), (false, .bool)]
abbrev M_impl_AppendChecksum : List RMode := []
abbrev Ft_impl_AppendChecksum : Type := (List UInt8) × Unit → Option ((List UInt8) × Bool × Unit)
noncomputable def X_impl_AppendChecksum (n : Nat) (F_strconv_Itoa : Ft_strconv_Itoa) (F_strings_Contains : Ft_strings_Contains) (F_impl_checksum : Ft_impl_checksum) : Ctx := { types := TT, globals := [], con := [(39, ⟨As_strconv_Itoa, R_strconv_Itoa, M_strconv_Itoa, F_strconv_Itoa⟩), (53, ⟨As_strings_Contains, R_strings_Contains, M_strings_Contains, F_strings_Contains⟩), (54, ⟨As_impl_checksum, R_impl_checksum, M_impl_checksum, F_impl_checksum⟩)], keep := [], results := [.tmp 2, .tmp 3], ntmps := 22, n := n }
noncomputable def B_impl_AppendChecksum : Code := (Tryd.f38.body).getD .skip
noncomputable def P_impl_AppendChecksum : Ft_impl_AppendChecksum := hid (runF (X_impl_AppendChecksum N P_strconv_Itoa P_strings_Contains P_impl_checksum) B_impl_AppendChecksum As_impl_AppendChecksum R_impl_AppendChecksum M_impl_AppendChecksum)
theorem h_impl_AppendChecksum : P_impl_AppendChecksum = runF (X_impl_AppendChecksum N P_strconv_Itoa P_strings_Contains P_impl_checksum) B_impl_AppendChecksum As_impl_AppendChecksum R_impl_AppendChecksum M_impl_AppendChecksum := hid_eq _
noncomputable def C_impl_AppendChecksum : Contract := ⟨As_impl_AppendChecksum, R_impl_AppendChecksum, M_impl_AppendChecksum, P_impl_AppendChecksum⟩
theorem s_impl_AppendChecksum : Sound Tryd.prog GG 38 C_impl_AppendChecksum := by
  unfold C_impl_AppendChecksum; rw [h_impl_AppendChecksum]
  exact sound_of_run (fn := Tryd.f38) hmix hstable (tyOK_of ttOK) (hglob (X_impl_AppendChecksum N P_strconv_Itoa P_strings_Contains P_impl_checksum)) (conOK_of (X := X_impl_AppendChecksum N P_strconv_Itoa P_strings_Contains P_impl_checksum) ⟨s_strconv_Itoa, s_strings_Contains, s_impl_checksum, trivial⟩) (mconOK_of (X := X_impl_AppendChecksum N P_strconv_Itoa P_strings_Contains P_impl_checksum) trivial) (by kernel_rfl) (by kernel_rfl) (by kernel_rfl) (by kernel_rfl) (by kernel_rfl) (of_decide_eq_true (by kernel_rfl))
theorem p_impl_AppendChecksum (a0 : List UInt8) : P_impl_AppendChecksum (a0, ()) = 
  bif decide ((List.length a0 : Int) > 4000) then
    some (([] : List UInt8), false, ())
  else
    Option.bind (P_strings_Contains (a0, ([35] : List UInt8), ())) fun r1 =>
    bif r1.1 then
      some (([] : List UInt8), false, ())
    else
      Option.bind (catS a0 ([35] : List UInt8)) fun r3 =>
      Option.bind (P_impl_checksum (a0, ())) fun r4 =>
      Option.bind (P_strconv_Itoa (r4.1, ())) fun r5 =>
      Option.bind (catS r3 r5.1) fun r6 =>
      bif decide ((List.length r6 : Int) > 4000) then
        some (([] : List UInt8), false, ())
      else
        some (r6, true, ()) := by
  rewrite [h_impl_AppendChecksum]
  kernel_rfl

/- 14: loop.example/g01166/impl.EncodeRecord -/
abbrev As_impl_EncodeRecord : List ATy := [.data false (.int .i64), .data true T_LogRecord]
abbrev R_impl_EncodeRecord : List (Bool × Ty) := [(false, .str), (false, .bool)]
abbrev M_impl_EncodeRecord : List RMode := []
abbrev Ft_impl_EncodeRecord : Type := Int × D_LogRecord × Unit → Option ((List UInt8) × Bool × Unit)
noncomputable def X_impl_EncodeRecord (n : Nat) (F_impl_IsValidRecord : Ft_impl_IsValidRecord) (F_impl_within : Ft_impl_within) (F_impl_AppendChecksum : Ft_impl_AppendChecksum) (F_strconv_Itoa : Ft_strconv_Itoa) : Ctx := { types := TT, globals := [], con := [(20, ⟨As_impl_IsValidRecord, R_impl_IsValidRecord, M_impl_IsValidRecord, F_impl_IsValidRecord⟩), (35, ⟨As_impl_within, R_impl_within, M_impl_within, F_impl_within⟩), (38, ⟨As_impl_AppendChecksum, R_impl_AppendChecksum, M_impl_AppendChecksum, F_impl_AppendChecksum⟩), (39, ⟨As_strconv_Itoa, R_strconv_Itoa, M_strconv_Itoa, F_strconv_Itoa⟩)], keep := [], results := [.tmp 4, .tmp 5], ntmps := 32, n := n }
noncomputable def B_impl_EncodeRecord : Code := (Tryd.f14.body).getD .skip
noncomputable def P_impl_EncodeRecord : Ft_impl_EncodeRecord := hid (runF (X_impl_EncodeRecord N P_impl_IsValidRecord P_impl_within P_impl_AppendChecksum P_strconv_Itoa) B_impl_EncodeRecord As_impl_EncodeRecord R_impl_EncodeRecord M_impl_EncodeRecord)
theorem h_impl_EncodeRecord : P_impl_EncodeRecord = runF (X_impl_EncodeRecord N P_impl_IsValidRecord P_impl_within P_impl_AppendChecksum P_strconv_Itoa) B_impl_EncodeRecord As_impl_EncodeRecord R_impl_EncodeRecord M_impl_EncodeRecord := hid_eq _
noncomputable def C_impl_EncodeRecord : Contract := ⟨As_impl_EncodeRecord, R_impl_EncodeRecord, M_impl_EncodeRecord, P_impl_EncodeRecord⟩
theorem s_impl_EncodeRecord : Sound Tryd.prog GG 14 C_impl_EncodeRecord := by
  unfold C_impl_EncodeRecord; rw [h_impl_EncodeRecord]
  exact sound_of_run (fn := Tryd.f14) hmix hstable (tyOK_of ttOK) (hglob (X_impl_EncodeRecord N P_impl_IsValidRecord P_impl_within P_impl_AppendChecksum P_strconv_Itoa)) (conOK_of (X := X_impl_EncodeRecord N P_impl_IsValidRecord P_impl_within P_impl_AppendChecksum P_strconv_Itoa) ⟨s_impl_IsValidRecord, s_impl_within, s_impl_AppendChecksum, s_strconv_Itoa, trivial⟩) (mconOK_of (X := X_impl_EncodeRecord N P_impl_IsValidRecord P_impl_within P_impl_AppendChecksum P_strconv_Itoa) trivial) (by kernel_rfl) (by kernel_rfl) (by kernel_rfl) (by kernel_rfl) (by kernel_rfl) (of_decide_eq_true (by kernel_rfl))
theorem p_impl_EncodeRecord (a0 : Int) (a1 : D_LogRecord) : P_impl_EncodeRecord (a0, a1, ()) = 
  Option.bind (P_impl_within (a0, 0, 59, ())) fun r0 =>
  bif !r0.1 then
    some (([] : List UInt8), false, ())
  else
    Option.bind (P_impl_IsValidRecord (a1, ())) fun r2 =>
    bif !r2.1 then
      some (([] : List UInt8), false, ())
    else
      Option.bind (P_strconv_Itoa (a0, ())) fun r4 =>
      Option.bind (catS r4.1 ([32] : List UInt8)) fun r5 =>
      Option.bind (catS r5 a1.1) fun r6 =>
      Option.bind (catS r6 ([64] : List UInt8)) fun r7 =>
      Option.bind (catS r7 a1.2.1) fun r8 =>
      Option.bind (P_impl_AppendChecksum (r8, ())) fun r9 =>
      Option.bind (catS r9.1 ([10] : List UInt8)) fun r10 =>
      some (r10, true, ()) := by
  rewrite [h_impl_EncodeRecord]
  kernel_rfl

/- 62: strings.Cut: GIVEN -/
abbrev As_strings_Cut : List ATy := [.data false .str, .data false .str]
abbrev R_strings_Cut : List (Bool × Ty) := [(false, .str), (false, .str), (false, .bool)]
abbrev M_strings_Cut : List RMode := []
abbrev Ft_strings_Cut : Type := (List UInt8) × (List UInt8) × Unit → Option ((List UInt8) × (List UInt8) × Bool × Unit)
noncomputable def P_strings_Cut : Ft_strings_Cut := fun x => bif decide (x.1.length < 4294967281) then some ((Lib.cut x.1 x.2.1).1, (Lib.cut x.1 x.2.1).2.1, (Lib.cut x.1 x.2.1).2.2, ()) else none
noncomputable def C_strings_Cut : Contract := ⟨As_strings_Cut, R_strings_Cut, M_strings_Cut, P_strings_Cut⟩
theorem s_strings_Cut : Sound Tryd.prog GG 62 C_strings_Cut := by
  refine sound_flat (fn := Tryd.f62) (c := (Tryd.f62.body).getD .skip) (by decide) (by decide) Tryd.func62 (by kernel_rfl) (by kernel_rfl) ?_
  rintro w ⟨s, sep, ⟨⟩⟩ ⟨r1, r2, r3, ⟨⟩⟩ hG hF
  have hF : (bif decide (s.length < 4294967281) then some ((Lib.cut s sep).1, (Lib.cut s sep).2.1, (Lib.cut s sep).2.2, ()) else none) = some (r1, r2, r3, ()) := hF
  by_cases h : s.length < 4294967281
  · rw [decide_eq_true h] at hF
    obtain ⟨_, _, m, hm⟩ := hG
    have hr : (Lib.cut s sep).1 = r1 ∧ (Lib.cut s sep).2.1 = r2 ∧ (Lib.cut s sep).2.2 = r3 := by simpa using hF
    rw [← hr.1, ← hr.2.1, ← hr.2.2]
    refine (Tryd.strings_Cut ⟨s.toArray⟩ ⟨sep.toArray⟩ m w (by simpa [ByteArray.size] using h) hm).mono ?_
    rintro e w' ⟨rfl, n, rfl⟩
    exact ⟨rfl, below_drew w n⟩
  · rw [decide_eq_false h] at hF; cases hF
/- 63: loop.example/g01166/impl.VerifyChecksum -/
abbrev As_impl_VerifyChecksum : List ATy := [.data false .str]
abbrev R_impl_VerifyChecksum : List (Bool × Ty) := [(false, .str), (false, .bool)]
abbrev M_impl_VerifyChecksum : List RMode := []
abbrev Ft_impl_VerifyChecksum : Type := (List UInt8) × Unit → Option ((List UInt8) × Bool × Unit)
noncomputable def X_impl_VerifyChecksum (n : Nat) (F_impl_AppendChecksum : Ft_impl_AppendChecksum) (F_strings_Cut : Ft_strings_Cut) : Ctx := { types := TT, globals := [], con := [(38, ⟨As_impl_AppendChecksum, R_impl_AppendChecksum, M_impl_AppendChecksum, F_impl_AppendChecksum⟩), (62, ⟨As_strings_Cut, R_strings_Cut, M_strings_Cut, F_strings_Cut⟩)], keep := [], results := [.tmp 2, .tmp 3], ntmps := 28, n := n }
noncomputable def B_impl_VerifyChecksum : Code := (Tryd.f63.body).getD .skip
noncomputable def P_impl_VerifyChecksum : Ft_impl_VerifyChecksum := hid (runF (X_impl_VerifyChecksum N P_impl_AppendChecksum P_strings_Cut) B_impl_VerifyChecksum As_impl_VerifyChecksum R_impl_VerifyChecksum M_impl_VerifyChecksum)
theorem h_impl_VerifyChecksum : P_impl_VerifyChecksum = runF (X_impl_VerifyChecksum N P_impl_AppendChecksum P_strings_Cut) B_impl_VerifyChecksum As_impl_VerifyChecksum R_impl_VerifyChecksum M_impl_VerifyChecksum := hid_eq _
noncomputable def C_impl_VerifyChecksum : Contract := ⟨As_impl_VerifyChecksum, R_impl_VerifyChecksum, M_impl_VerifyChecksum, P_impl_VerifyChecksum⟩
theorem s_impl_VerifyChecksum : Sound Tryd.prog GG 63 C_impl_VerifyChecksum := by
  unfold C_impl_VerifyChecksum; rw [h_impl_VerifyChecksum]
  exact sound_of_run (fn := Tryd.f63) hmix hstable (tyOK_of ttOK) (hglob (X_impl_VerifyChecksum N P_impl_AppendChecksum P_strings_Cut)) (conOK_of (X := X_impl_VerifyChecksum N P_impl_AppendChecksum P_strings_Cut) ⟨s_impl_AppendChecksum, s_strings_Cut, trivial⟩) (mconOK_of (X := X_impl_VerifyChecksum N P_impl_AppendChecksum P_strings_Cut) trivial) (by kernel_rfl) (by kernel_rfl) (by kernel_rfl) (by kernel_rfl) (by kernel_rfl) (of_decide_eq_true (by kernel_rfl))
theorem p_impl_VerifyChecksum (a0 : List UInt8) : P_impl_VerifyChecksum (a0, ()) = 
  Option.bind (P_strings_Cut (a0, ([35] : List UInt8), ())) fun r0 =>
  Option.bind (P_impl_AppendChecksum (r0.1, ())) fun r1 =>
  bif !r1.2.1 then
    some (([] : List UInt8), false, ())
  else
    bif !(r1.1 == a0) then
      some (([] : List UInt8), false, ())
    else
      some (r0.1, true, ()) := by
  rewrite [h_impl_VerifyChecksum]
  kernel_rfl

/- 47: loop.example/g01166/impl.readRecords -/
abbrev As_impl_readRecords : List ATy := [.data false .str]
abbrev R_impl_readRecords : List (Bool × Ty) := [(false, (.sl T_LogRecord)), (false, (.sl (.int .i64)))]
abbrev M_impl_readRecords : List RMode := [.own 33, .own 3]
abbrev Ft_impl_readRecords : Type := (List UInt8) × Unit → Option ((List D_LogRecord) × (List Int) × Unit)
noncomputable def X_impl_readRecords (n : Nat) (F_impl_EncodeRecord : Ft_impl_EncodeRecord) (F_strings_Cut : Ft_strings_Cut) (F_impl_VerifyChecksum : Ft_impl_VerifyChecksum) : Ctx := { types := TT, globals := [], con := [(14, ⟨As_impl_EncodeRecord, R_impl_EncodeRecord, M_impl_EncodeRecord, F_impl_EncodeRecord⟩), (62, ⟨As_strings_Cut, R_strings_Cut, M_strings_Cut, F_strings_Cut⟩), (63, ⟨As_impl_VerifyChecksum, R_impl_VerifyChecksum, M_impl_VerifyChecksum, F_impl_VerifyChecksum⟩)], keep := [(2, ⟨[.tmp 0, .tmp 4, .tmp 5, .tmp 6], []⟩)], results := [.tmp 2, .tmp 3], ntmps := 83, n := n }
noncomputable def B_impl_readRecords : Code := (Tryd.f47.body).getD .skip
noncomputable def L_impl_readRecords_2 (n : Nat) (F_impl_EncodeRecord : Ft_impl_EncodeRecord) (F_strings_Cut : Ft_strings_Cut) (F_impl_VerifyChecksum : Ft_impl_VerifyChecksum) (m0 : Nat) (p0 : List UInt8) (p1 : List D_LogRecord) (p2 : List Int) (p3 : Int) : Option (denL R_impl_readRecords) := loopF (X_impl_readRecords n F_impl_EncodeRecord F_strings_Cut F_impl_VerifyChecksum) B_impl_readRecords R_impl_readRecords M_impl_readRecords 2 [m0] [(.ver, .num 1), (.tmp 0, .val false [.str p0]), (.tmp 4, .val false [.own 33 T_LogRecord 0 p1]), (.tmp 5, .val false [.own 3 (.int .i64) 0 p2]), (.tmp 6, .val false [.int .i64 p3])]
noncomputable def P_impl_readRecords : Ft_impl_readRecords := hid (runF (X_impl_readRecords N P_impl_EncodeRecord P_strings_Cut P_impl_VerifyChecksum) B_impl_readRecords As_impl_readRecords R_impl_readRecords M_impl_readRecords)
theorem h_impl_readRecords : P_impl_readRecords = runF (X_impl_readRecords N P_impl_EncodeRecord P_strings_Cut P_impl_VerifyChecksum) B_impl_readRecords As_impl_readRecords R_impl_readRecords M_impl_readRecords := hid_eq _
noncomputable def C_impl_readRecords : Contract := ⟨As_impl_readRecords, R_impl_readRecords, M_impl_readRecords, P_impl_readRecords⟩
theorem s_impl_readRecords : Sound Tryd.prog GG 47 C_impl_readRecords := by
  unfold C_impl_readRecords; rw [h_impl_readRecords]
  exact sound_of_run (fn := Tryd.f47) hmix hstable (tyOK_of ttOK) (hglob (X_impl_readRecords N P_impl_EncodeRecord P_strings_Cut P_impl_VerifyChecksum)) (conOK_of (X := X_impl_readRecords N P_impl_EncodeRecord P_strings_Cut P_impl_VerifyChecksum) ⟨s_impl_EncodeRecord, s_strings_Cut, s_impl_VerifyChecksum, trivial⟩) (mconOK_of (X := X_impl_readRecords N P_impl_EncodeRecord P_strings_Cut P_impl_VerifyChecksum) trivial) (by kernel_rfl) (by kernel_rfl) (by kernel_rfl) (by kernel_rfl) (by kernel_rfl) (of_decide_eq_true (by kernel_rfl))
noncomputable def l_impl_readRecords_2 : Nat → (List UInt8) → (List D_LogRecord) → (List Int) → Int → Option (denL R_impl_readRecords) := hid (fun m0 p0 p1 p2 p3 => L_impl_readRecords_2 N P_impl_EncodeRecord P_strings_Cut P_impl_VerifyChecksum m0 p0 p1 p2 p3)
theorem h_impl_readRecords_2 : l_impl_readRecords_2 = fun m0 p0 p1 p2 p3 => L_impl_readRecords_2 N P_impl_EncodeRecord P_strings_Cut P_impl_VerifyChecksum m0 p0 p1 p2 p3 := hid_eq _
theorem p_impl_readRecords (a0 : List UInt8) : P_impl_readRecords (a0, ()) = 
  l_impl_readRecords_2 N a0 ([] : List D_LogRecord) ([0] : List Int) 0 := by
  rewrite [h_impl_readRecords, h_impl_readRecords_2]
  kernel_rfl
theorem q_impl_readRecords_2 (m0 : Nat) (p0 : List UInt8) (p1 : List D_LogRecord) (p2 : List Int) (p3 : Int) : l_impl_readRecords_2 (m0 + 1) p0 p1 p2 p3 = 
  bif decide ((List.length p1 : Int) < 60) then
    bif (decide ((0 : Int) ≤ p3) && decide (p3 ≤ (List.length p0 : Int)) && decide ((List.length p0 : Int) ≤ (List.length p0 : Int))) then
      Option.bind (P_strings_Cut ((cut p0 p3 (List.length p0 : Int)), ([10] : List UInt8), ())) fun r2 =>
      bif !r2.2.2.1 then
        some (p1, p2, ())
      else
        Option.bind (P_impl_VerifyChecksum (r2.1, ())) fun r4 =>
        Option.bind (P_strings_Cut (r4.1, ([32] : List UInt8), ())) fun r5 =>
        Option.bind (P_strings_Cut (r5.2.1, ([64] : List UInt8), ())) fun r6 =>
        Option.bind (P_impl_EncodeRecord ((List.length p1 : Int), (r6.1, (r6.2.1, ())), ())) fun r7 =>
        bif !r7.2.1 then
          some (p1, p2, ())
        else
          Option.bind (catS r2.1 ([10] : List UInt8)) fun r9 =>
          bif !(r7.1 == r9) then
            some (p1, p2, ())
          else
            bif (decide (((List.length p1) + (List.length ([(r6.1, (r6.2.1, ()))] : List D_LogRecord))) * 32 ≤ 140737488355328) && decide (((List.length p1) + (List.length ([(r6.1, (r6.2.1, ()))] : List D_LogRecord))) ≤ 140737488355328)) then
              bif (decide (((List.length p2) + (List.length ([(IntKind.wrap .i64 (p3 + (IntKind.wrap .i64 ((List.length r2.1 : Int) + 1))))] : List Int))) * 8 ≤ 140737488355328) && decide (((List.length p2) + (List.length ([(IntKind.wrap .i64 (p3 + (IntKind.wrap .i64 ((List.length r2.1 : Int) + 1))))] : List Int))) ≤ 140737488355328)) then
                l_impl_readRecords_2 m0 p0 (p1 ++ ([(r6.1, (r6.2.1, ()))] : List D_LogRecord)) (p2 ++ ([(IntKind.wrap .i64 (p3 + (IntKind.wrap .i64 ((List.length r2.1 : Int) + 1))))] : List Int)) (IntKind.wrap .i64 (p3 + (IntKind.wrap .i64 ((List.length r2.1 : Int) + 1))))
              else none
            else none
    else none
  else
    some (p1, p2, ()) := by
  rewrite [h_impl_readRecords_2]
  kernel_rfl

/- 64: slices.Index[[]int,int] -/
abbrev As_slices_Index_int_int : List ATy := [.data false (.sl (.int .i64)), .data false (.int .i64)]
abbrev R_slices_Index_int_int : List (Bool × Ty) := [(false, (.int .i64))]
abbrev M_slices_Index_int_int : List RMode := []
abbrev Ft_slices_Index_int_int : Type := (List Int) × Int × Unit → Option (Int × Unit)
noncomputable def X_slices_Index_int_int (n : Nat) : Ctx := { types := TT, globals := [], con := [], keep := [(2, ⟨[.tmp 0, .tmp 1, .tmp 7, .tmp 8], []⟩)], results := [.tmp 4], ntmps := 19, n := n }
noncomputable def B_slices_Index_int_int : Code := (Tryd.f64.body).getD .skip
noncomputable def L_slices_Index_int_int_2 (n : Nat) (m0 : Nat) (p0 : List Int) (p1 : Int) (p2 : Int) (p3 : Int) : Option (denL R_slices_Index_int_int) := loopF (X_slices_Index_int_int n) B_slices_Index_int_int R_slices_Index_int_int M_slices_Index_int_int 2 [m0] [(.ver, .num 1), (.tmp 0, .val false [.imm (.int .i64) p0 (some 0)]), (.tmp 1, .val false [.int .i64 p1]), (.tmp 7, .val false [.int .i64 p2]), (.tmp 8, .val false [.int .i64 p3])]
noncomputable def P_slices_Index_int_int : Ft_slices_Index_int_int := hid (runF (X_slices_Index_int_int N) B_slices_Index_int_int As_slices_Index_int_int R_slices_Index_int_int M_slices_Index_int_int)
theorem h_slices_Index_int_int : P_slices_Index_int_int = runF (X_slices_Index_int_int N) B_slices_Index_int_int As_slices_Index_int_int R_slices_Index_int_int M_slices_Index_int_int := hid_eq _
noncomputable def C_slices_Index_int_int : Contract := ⟨As_slices_Index_int_int, R_slices_Index_int_int, M_slices_Index_int_int, P_slices_Index_int_int⟩
theorem s_slices_Index_int_int : Sound Tryd.prog GG 64 C_slices_Index_int_int := by
  unfold C_slices_Index_int_int; rw [h_slices_Index_int_int]
  exact sound_of_run (fn := Tryd.f64) hmix hstable (tyOK_of ttOK) (hglob (X_slices_Index_int_int N)) (conOK_of (X := X_slices_Index_int_int N) trivial) (mconOK_of (X := X_slices_Index_int_int N) trivial) (by kernel_rfl) (by kernel_rfl) (by kernel_rfl) (by kernel_rfl) (by kernel_rfl) (of_decide_eq_true (by kernel_rfl))
noncomputable def l_slices_Index_int_int_2 : Nat → (List Int) → Int → Int → Int → Option (denL R_slices_Index_int_int) := hid (fun m0 p0 p1 p2 p3 => L_slices_Index_int_int_2 N m0 p0 p1 p2 p3)
theorem h_slices_Index_int_int_2 : l_slices_Index_int_int_2 = fun m0 p0 p1 p2 p3 => L_slices_Index_int_int_2 N m0 p0 p1 p2 p3 := hid_eq _
theorem p_slices_Index_int_int (a0 : List Int) (a1 : Int) : P_slices_Index_int_int (a0, a1, ()) = 
  l_slices_Index_int_int_2 N a0 a1 (List.length a0 : Int) 0 := by
  rewrite [h_slices_Index_int_int, h_slices_Index_int_int_2]
  kernel_rfl
theorem q_slices_Index_int_int_2 (m0 : Nat) (p0 : List Int) (p1 : Int) (p2 : Int) (p3 : Int) : l_slices_Index_int_int_2 (m0 + 1) p0 p1 p2 p3 = 
  bif decide (p3 < p2) then
    bif inB p3 (List.length p0) then
      bif decide (p1 = (nth ((.int .i64) : Ty) p0 p3)) then
        some (p3, ())
      else
        l_slices_Index_int_int_2 m0 p0 p1 p2 (IntKind.wrap .i64 (p3 + 1))
    else none
  else
    some ((-1), ()) := by
  rewrite [h_slices_Index_int_int_2]
  kernel_rfl

/- 48: slices.Contains[[]int,int] -/
abbrev As_slices_Contains_int_int : List ATy := [.data false (.sl (.int .i64)), .data false (.int .i64)]
abbrev R_slices_Contains_int_int : List (Bool × Ty) := [(false, .bool)]
abbrev M_slices_Contains_int_int : List RMode := []
abbrev Ft_slices_Contains_int_int : Type := (List Int) × Int × Unit → Option (Bool × Unit)
noncomputable def X_slices_Contains_int_int (n : Nat) (F_slices_Index_int_int : Ft_slices_Index_int_int) : Ctx := { types := TT, globals := [], con := [(64, ⟨As_slices_Index_int_int, R_slices_Index_int_int, M_slices_Index_int_int, F_slices_Index_int_int⟩)], keep := [], results := [.tmp 4], ntmps := 9, n := n }
noncomputable def B_slices_Contains_int_int : Code := (Tryd.f48.body).getD .skip
noncomputable def P_slices_Contains_int_int : Ft_slices_Contains_int_int := hid (runF (X_slices_Contains_int_int N P_slices_Index_int_int) B_slices_Contains_int_int As_slices_Contains_int_int R_slices_Contains_int_int M_slices_Contains_int_int)
theorem h_slices_Contains_int_int : P_slices_Contains_int_int = runF (X_slices_Contains_int_int N P_slices_Index_int_int) B_slices_Contains_int_int As_slices_Contains_int_int R_slices_Contains_int_int M_slices_Contains_int_int := hid_eq _
noncomputable def C_slices_Contains_int_int : Contract := ⟨As_slices_Contains_int_int, R_slices_Contains_int_int, M_slices_Contains_int_int, P_slices_Contains_int_int⟩
theorem s_slices_Contains_int_int : Sound Tryd.prog GG 48 C_slices_Contains_int_int := by
  unfold C_slices_Contains_int_int; rw [h_slices_Contains_int_int]
  exact sound_of_run (fn := Tryd.f48) hmix hstable (tyOK_of ttOK) (hglob (X_slices_Contains_int_int N P_slices_Index_int_int)) (conOK_of (X := X_slices_Contains_int_int N P_slices_Index_int_int) ⟨s_slices_Index_int_int, trivial⟩) (mconOK_of (X := X_slices_Contains_int_int N P_slices_Index_int_int) trivial) (by kernel_rfl) (by kernel_rfl) (by kernel_rfl) (by kernel_rfl) (by kernel_rfl) (of_decide_eq_true (by kernel_rfl))
theorem p_slices_Contains_int_int (a0 : List Int) (a1 : Int) : P_slices_Contains_int_int (a0, a1, ()) = 
  Option.bind (P_slices_Index_int_int (a0, a1, ())) fun r0 =>
  some (decide (r0.1 ≥ 0), ()) := by
  rewrite [h_slices_Contains_int_int]
  kernel_rfl

/- 22: loop.example/g01166/impl.IsValidLog -/
abbrev As_impl_IsValidLog : List ATy := [.data true T_Log]
abbrev R_impl_IsValidLog : List (Bool × Ty) := [(false, .bool)]
abbrev M_impl_IsValidLog : List RMode := []
abbrev Ft_impl_IsValidLog : Type := D_Log × Unit → Option (Bool × Unit)
noncomputable def X_impl_IsValidLog (n : Nat) (F_impl_readRecords : Ft_impl_readRecords) (F_slices_Contains_int_int : Ft_slices_Contains_int_int) : Ctx := { types := TT, globals := [], con := [(47, ⟨As_impl_readRecords, R_impl_readRecords, M_impl_readRecords, F_impl_readRecords⟩), (48, ⟨As_slices_Contains_int_int, R_slices_Contains_int_int, M_slices_Contains_int_int, F_slices_Contains_int_int⟩)], keep := [], results := [.tmp 2], ntmps := 49, n := n }
noncomputable def B_impl_IsValidLog : Code := (Tryd.f22.body).getD .skip
noncomputable def P_impl_IsValidLog : Ft_impl_IsValidLog := hid (runF (X_impl_IsValidLog N P_impl_readRecords P_slices_Contains_int_int) B_impl_IsValidLog As_impl_IsValidLog R_impl_IsValidLog M_impl_IsValidLog)
theorem h_impl_IsValidLog : P_impl_IsValidLog = runF (X_impl_IsValidLog N P_impl_readRecords P_slices_Contains_int_int) B_impl_IsValidLog As_impl_IsValidLog R_impl_IsValidLog M_impl_IsValidLog := hid_eq _
noncomputable def C_impl_IsValidLog : Contract := ⟨As_impl_IsValidLog, R_impl_IsValidLog, M_impl_IsValidLog, P_impl_IsValidLog⟩
theorem s_impl_IsValidLog : Sound Tryd.prog GG 22 C_impl_IsValidLog := by
  unfold C_impl_IsValidLog; rw [h_impl_IsValidLog]
  exact sound_of_run (fn := Tryd.f22) hmix hstable (tyOK_of ttOK) (hglob (X_impl_IsValidLog N P_impl_readRecords P_slices_Contains_int_int)) (conOK_of (X := X_impl_IsValidLog N P_impl_readRecords P_slices_Contains_int_int) ⟨s_impl_readRecords, s_slices_Contains_int_int, trivial⟩) (mconOK_of (X := X_impl_IsValidLog N P_impl_readRecords P_slices_Contains_int_int) trivial) (by kernel_rfl) (by kernel_rfl) (by kernel_rfl) (by kernel_rfl) (by kernel_rfl) (of_decide_eq_true (by kernel_rfl))
theorem p_impl_IsValidLog (a0 : D_Log) : P_impl_IsValidLog (a0, ()) = 
  bif decide ((IntKind.wrap .i64 ((List.length a0.1 : Int) + (List.length a0.2.1 : Int))) > 30000) then
    some (false, ())
  else
    Option.bind (catS a0.1 a0.2.1) fun r1 =>
    Option.bind (P_impl_readRecords (r1, ())) fun r2 =>
    bif inB (List.length r2.1 : Int) (List.length r2.2.1) then
      bif decide ((nth ((.int .i64) : Ty) r2.2.1 (List.length r2.1 : Int)) = (IntKind.wrap .i64 ((List.length a0.1 : Int) + (List.length a0.2.1 : Int)))) then
        bif decide (a0.2.2.1 = (List.length r2.1 : Int)) then
          Option.bind (P_slices_Contains_int_int (r2.2.1, (List.length a0.1 : Int), ())) fun r6 =>
          some (r6.1, ())
        else
          some (false, ())
      else
        some (false, ())
    else none := by
  rewrite [h_impl_IsValidLog]
  kernel_rfl

/- 9: loop.example/g01166/impl.CrashLog -/
abbrev As_impl_CrashLog : List ATy := [.data true T_Log, .data false (.int .i64), .data false .bool]
abbrev R_impl_CrashLog : List (Bool × Ty) := [(false, .str), (false, .bool)]
abbrev M_impl_CrashLog : List RMode := []
abbrev Ft_impl_CrashLog : Type := D_Log × Int × Bool × Unit → Option ((List UInt8) × Bool × Unit)
noncomputable def X_impl_CrashLog (n : Nat) (F_impl_IsValidLog : Ft_impl_IsValidLog) (F_impl_within : Ft_impl_within) : Ctx := { types := TT, globals := [], con := [(22, ⟨As_impl_IsValidLog, R_impl_IsValidLog, M_impl_IsValidLog, F_impl_IsValidLog⟩), (35, ⟨As_impl_within, R_impl_within, M_impl_within, F_impl_within⟩)], keep := [], results := [.tmp 6, .tmp 7], ntmps := 47, n := n }
noncomputable def B_impl_CrashLog : Code := (Tryd.f9.body).getD .skip
noncomputable def P_impl_CrashLog : Ft_impl_CrashLog := hid (runF (X_impl_CrashLog N P_impl_IsValidLog P_impl_within) B_impl_CrashLog As_impl_CrashLog R_impl_CrashLog M_impl_CrashLog)
theorem h_impl_CrashLog : P_impl_CrashLog = runF (X_impl_CrashLog N P_impl_IsValidLog P_impl_within) B_impl_CrashLog As_impl_CrashLog R_impl_CrashLog M_impl_CrashLog := hid_eq _
noncomputable def C_impl_CrashLog : Contract := ⟨As_impl_CrashLog, R_impl_CrashLog, M_impl_CrashLog, P_impl_CrashLog⟩
theorem s_impl_CrashLog : Sound Tryd.prog GG 9 C_impl_CrashLog := by
  unfold C_impl_CrashLog; rw [h_impl_CrashLog]
  exact sound_of_run (fn := Tryd.f9) hmix hstable (tyOK_of ttOK) (hglob (X_impl_CrashLog N P_impl_IsValidLog P_impl_within)) (conOK_of (X := X_impl_CrashLog N P_impl_IsValidLog P_impl_within) ⟨s_impl_IsValidLog, s_impl_within, trivial⟩) (mconOK_of (X := X_impl_CrashLog N P_impl_IsValidLog P_impl_within) trivial) (by kernel_rfl) (by kernel_rfl) (by kernel_rfl) (by kernel_rfl) (by kernel_rfl) (of_decide_eq_true (by kernel_rfl))
theorem p_impl_CrashLog (a0 : D_Log) (a1 : Int) (a2 : Bool) : P_impl_CrashLog (a0, a1, a2, ()) = 
  Option.bind (P_impl_IsValidLog (a0, ())) fun r0 =>
  bif !r0.1 then
    some (([] : List UInt8), false, ())
  else
    Option.bind (P_impl_within (a1, 0, (List.length a0.2.1 : Int), ())) fun r2 =>
    bif !r2.1 then
      some (([] : List UInt8), false, ())
    else
      bif (decide ((0 : Int) ≤ 0) && decide ((0 : Int) ≤ a1) && decide (a1 ≤ (List.length a0.2.1 : Int))) then
        Option.bind (catS a0.1 (cut a0.2.1 0 a1)) fun r5 =>
        bif decide ((List.length r5) ≤ 140737488355328) then
          bif a2 then
            bif decide (a1 > 0) then
              bif inB (IntKind.wrap .i64 ((List.length (List.map (fun (c : UInt8) => ((c.toNat : Int), ())) r5) : Int) - 1)) (List.length (List.map (fun (c : UInt8) => ((c.toNat : Int), ())) r5)) then
                bif inB (IntKind.wrap .i64 ((List.length (List.map (fun (c : UInt8) => ((c.toNat : Int), ())) r5) : Int) - 1)) (List.length (List.map (fun (c : UInt8) => ((c.toNat : Int), ())) r5)) then
                  some ((List.map (fun (N : Int × Unit) => N.1.toNat.toUInt8) (List.set (List.map (fun (c : UInt8) => ((c.toNat : Int), ())) r5) (Int.toNat (IntKind.wrap .i64 ((List.length (List.map (fun (c : UInt8) => ((c.toNat : Int), ())) r5) : Int) - 1))) ((IntKind.wrap .u8 (255 - ((nth ((.pair (.int .u8) .unit) : Ty) (List.map (fun (c : UInt8) => ((c.toNat : Int), ())) r5) (IntKind.wrap .i64 ((List.length (List.map (fun (c : UInt8) => ((c.toNat : Int), ())) r5) : Int) - 1)))).1)), ()))), true, ())
                else none
              else none
            else
              some ((List.map (fun (N : Int × Unit) => N.1.toNat.toUInt8) (List.map (fun (c : UInt8) => ((c.toNat : Int), ())) r5)), true, ())
          else
            some ((List.map (fun (N : Int × Unit) => N.1.toNat.toUInt8) (List.map (fun (c : UInt8) => ((c.toNat : Int), ())) r5)), true, ())
        else none
      else none := by
  rewrite [h_impl_CrashLog]
  kernel_rfl

/- 3: loop.example/g01166/laws.FnExactCrashLog -/
abbrev As_laws_FnExactCrashLog : List ATy := [.data true T_Log, .data false (.int .i64), .data false .bool]
abbrev R_laws_FnExactCrashLog : List (Bool × Ty) := [(false, .bool)]
abbrev M_laws_FnExactCrashLog : List RMode := []
abbrev Ft_laws_FnExactCrashLog : Type := D_Log × Int × Bool × Unit → Option (Bool × Unit)
noncomputable def X_laws_FnExactCrashLog (n : Nat) (F_laws_szLog : Ft_laws_szLog) (F_spec_CrashLog : Ft_spec_CrashLog) (F_laws_toLog : Ft_laws_toLog) (F_impl_CrashLog : Ft_impl_CrashLog) : Ctx := { types := TT, globals := [], con := [(6, ⟨As_laws_szLog, R_laws_szLog, M_laws_szLog, F_laws_szLog⟩), (7, ⟨As_spec_CrashLog, R_spec_CrashLog, M_spec_CrashLog, F_spec_CrashLog⟩), (8, ⟨As_laws_toLog, R_laws_toLog, M_laws_toLog, F_laws_toLog⟩), (9, ⟨As_impl_CrashLog, R_impl_CrashLog, M_impl_CrashLog, F_impl_CrashLog⟩)], keep := [], results := [.tmp 6], ntmps := 41, n := n }
noncomputable def B_laws_FnExactCrashLog : Code := (Tryd.f3.body).getD .skip
noncomputable def P_laws_FnExactCrashLog : Ft_laws_FnExactCrashLog := hid (runF (X_laws_FnExactCrashLog N P_laws_szLog P_spec_CrashLog P_laws_toLog P_impl_CrashLog) B_laws_FnExactCrashLog As_laws_FnExactCrashLog R_laws_FnExactCrashLog M_laws_FnExactCrashLog)
theorem h_laws_FnExactCrashLog : P_laws_FnExactCrashLog = runF (X_laws_FnExactCrashLog N P_laws_szLog P_spec_CrashLog P_laws_toLog P_impl_CrashLog) B_laws_FnExactCrashLog As_laws_FnExactCrashLog R_laws_FnExactCrashLog M_laws_FnExactCrashLog := hid_eq _
noncomputable def C_laws_FnExactCrashLog : Contract := ⟨As_laws_FnExactCrashLog, R_laws_FnExactCrashLog, M_laws_FnExactCrashLog, P_laws_FnExactCrashLog⟩
theorem s_laws_FnExactCrashLog : Sound Tryd.prog GG 3 C_laws_FnExactCrashLog := by
  unfold C_laws_FnExactCrashLog; rw [h_laws_FnExactCrashLog]
  exact sound_of_run (fn := Tryd.f3) hmix hstable (tyOK_of ttOK) (hglob (X_laws_FnExactCrashLog N P_laws_szLog P_spec_CrashLog P_laws_toLog P_impl_CrashLog)) (conOK_of (X := X_laws_FnExactCrashLog N P_laws_szLog P_spec_CrashLog P_laws_toLog P_impl_CrashLog) ⟨s_laws_szLog, s_spec_CrashLog, s_laws_toLog, s_impl_CrashLog, trivial⟩) (mconOK_of (X := X_laws_FnExactCrashLog N P_laws_szLog P_spec_CrashLog P_laws_toLog P_impl_CrashLog) trivial) (by kernel_rfl) (by kernel_rfl) (by kernel_rfl) (by kernel_rfl) (by kernel_rfl) (of_decide_eq_true (by kernel_rfl))
theorem p_laws_FnExactCrashLog (a0 : D_Log) (a1 : Int) (a2 : Bool) : P_laws_FnExactCrashLog (a0, a1, a2, ()) = 
  Option.bind (P_laws_szLog (a0, 1048576, ())) fun r0 =>
  bif decide (r0.1 < 0) then
    some (true, ())
  else
    Option.bind (P_laws_toLog (a0, ())) fun r2 =>
    Option.bind (P_spec_CrashLog (r2.1, a1, a2, ())) fun r3 =>
    Option.bind (P_laws_toLog (a0, ())) fun r4 =>
    Option.bind (P_impl_CrashLog (r4.1, a1, a2, ())) fun r5 =>
    bif !(r5.1 == r3.1) then
      some (false, ())
    else
      bif !(r5.2.1 == r3.2.1) then
        some (false, ())
      else
        some (true, ()) := by
  rewrite [h_laws_FnExactCrashLog]
  kernel_rfl

/- 10: loop.example/g01166/laws.vBig -/
abbrev As_laws_vBig : List ATy := [.data false (.sl (.int .u8))]
abbrev R_laws_vBig : List (Bool × Ty) := [(false, .bool)]
abbrev M_laws_vBig : List RMode := []
abbrev Ft_laws_vBig : Type := (List Int) × Unit → Option (Bool × Unit)
noncomputable def X_laws_vBig (n : Nat) : Ctx := { types := TT, globals := [], con := [], keep := [], results := [.tmp 2], ntmps := 6, n := n }
noncomputable def B_laws_vBig : Code := (Tryd.f10.body).getD .skip
noncomputable def P_laws_vBig : Ft_laws_vBig := hid (runF (X_laws_vBig N) B_laws_vBig As_laws_vBig R_laws_vBig M_laws_vBig)
theorem h_laws_vBig : P_laws_vBig = runF (X_laws_vBig N) B_laws_vBig As_laws_vBig R_laws_vBig M_laws_vBig := hid_eq _
noncomputable def C_laws_vBig : Contract := ⟨As_laws_vBig, R_laws_vBig, M_laws_vBig, P_laws_vBig⟩
theorem s_laws_vBig : Sound Tryd.prog GG 10 C_laws_vBig := by
  unfold C_laws_vBig; rw [h_laws_vBig]
  exact sound_of_run (fn := Tryd.f10) hmix hstable (tyOK_of ttOK) (hglob (X_laws_vBig N)) (conOK_of (X := X_laws_vBig N) trivial) (mconOK_of (X := X_laws_vBig N) trivial) (by kernel_rfl) (by kernel_rfl) (by kernel_rfl) (by kernel_rfl) (by kernel_rfl) (of_decide_eq_true (by kernel_rfl))
theorem p_laws_vBig (a0 : List Int) : P_laws_vBig (a0, ()) = 
  some (decide ((List.length a0 : Int) > 65536), ()) := by
  rewrite [h_laws_vBig]
  kernel_rfl

/- 60: (*loop.example/g01166/spec.l1Cur).next -/
abbrev As_l1Cur_next : List ATy := [.lptr T_l1Cur]
abbrev R_l1Cur_next : List (Bool × Ty) := [(false, (.int .i64))]
abbrev M_l1Cur_next : List RMode := []
abbrev Ft_l1Cur_next : Type := D_l1Cur × Unit → Option ((Int × Unit) × (D_l1Cur × Unit))
noncomputable def X_l1Cur_next (n : Nat) : Ctx := { types := TT, globals := [], con := [], keep := [], results := [.tmp 2], ntmps := 62, n := n }
noncomputable def B_l1Cur_next : Code := (Tryd.f60.body).getD .skip
noncomputable def P_l1Cur_next : Ft_l1Cur_next := hid (runFM (X_l1Cur_next N) B_l1Cur_next As_l1Cur_next R_l1Cur_next M_l1Cur_next)
theorem h_l1Cur_next : P_l1Cur_next = runFM (X_l1Cur_next N) B_l1Cur_next As_l1Cur_next R_l1Cur_next M_l1Cur_next := hid_eq _
noncomputable def C_l1Cur_next : MContract := ⟨As_l1Cur_next, R_l1Cur_next, M_l1Cur_next, P_l1Cur_next⟩
theorem s_l1Cur_next : SoundM Tryd.prog n0 GG 60 C_l1Cur_next := by
  unfold C_l1Cur_next; rw [h_l1Cur_next]
  exact sound_of_runM (fn := Tryd.f60) hmix hstable (tyOK_of ttOK) (hglob (X_l1Cur_next N)) (conOK_of (X := X_l1Cur_next N) trivial) (mconOK_of (X := X_l1Cur_next N) trivial) (by kernel_rfl) (by kernel_rfl) (by kernel_rfl) (by kernel_rfl) (by kernel_rfl) (of_decide_eq_true (by kernel_rfl)) (by kernel_rfl) (by rfl)
theorem p_l1Cur_next (a0 : D_l1Cur) : P_l1Cur_next (a0, ()) = 
  bif decide (a0.2.1 < (List.length a0.1 : Int)) then
    bif inB a0.2.1 (List.length a0.1) then
      bif decide ((IntKind.wrap .i64 (a0.2.1 + 1)) ≤ (List.length a0.1 : Int)) then
        some (((IntKind.wrap .i64 (nth ((.int .u8) : Ty) a0.1 a0.2.1)), ()), ((a0.1, ((IntKind.wrap .i64 (a0.2.1 + 1)), ((IntKind.wrap .u64 ((IntKind.wrap .u64 ((IntKind.wrap .u64 (a0.2.2.1 * 6364136223846793005)) + (IntKind.wrap .u64 (IntKind.wrap .i64 (nth ((.int .u8) : Ty) a0.1 a0.2.1))))) + 462197)), ()))), ()))
      else
        some (((IntKind.wrap .i64 (intBits .and .u64 (shrI .u64 (IntKind.wrap .u64 ((IntKind.wrap .u64 ((IntKind.wrap .u64 (a0.2.2.1 * 6364136223846793005)) + (IntKind.wrap .u64 (IntKind.wrap .i64 (nth ((.int .u8) : Ty) a0.1 a0.2.1))))) + 462197)) 40) 255)), ()), ((a0.1, ((IntKind.wrap .i64 (a0.2.1 + 1)), ((IntKind.wrap .u64 ((IntKind.wrap .u64 ((IntKind.wrap .u64 (a0.2.2.1 * 6364136223846793005)) + (IntKind.wrap .u64 (IntKind.wrap .i64 (nth ((.int .u8) : Ty) a0.1 a0.2.1))))) + 462197)), ()))), ()))
    else none
  else
    bif decide ((IntKind.wrap .i64 (a0.2.1 + 1)) ≤ (List.length a0.1 : Int)) then
      some ((0, ()), ((a0.1, ((IntKind.wrap .i64 (a0.2.1 + 1)), ((IntKind.wrap .u64 ((IntKind.wrap .u64 ((IntKind.wrap .u64 (a0.2.2.1 * 6364136223846793005)) + 0)) + 462197)), ()))), ()))
    else
      some (((IntKind.wrap .i64 (intBits .and .u64 (shrI .u64 (IntKind.wrap .u64 ((IntKind.wrap .u64 ((IntKind.wrap .u64 (a0.2.2.1 * 6364136223846793005)) + 0)) + 462197)) 40) 255)), ()), ((a0.1, ((IntKind.wrap .i64 (a0.2.1 + 1)), ((IntKind.wrap .u64 ((IntKind.wrap .u64 ((IntKind.wrap .u64 (a0.2.2.1 * 6364136223846793005)) + 0)) + 462197)), ()))), ())) := by
  rewrite [h_l1Cur_next]
  kernel_rfl

/- 44: (*loop.example/g01166/spec.l1Cur).pick -/
abbrev As_l1Cur_pick : List ATy := [.lptr T_l1Cur, .data false (.int .i64)]
abbrev R_l1Cur_pick : List (Bool × Ty) := [(false, (.int .i64))]
abbrev M_l1Cur_pick : List RMode := []
abbrev Ft_l1Cur_pick : Type := D_l1Cur × Int × Unit → Option ((Int × Unit) × (D_l1Cur × Unit))
noncomputable def X_l1Cur_pick (n : Nat) (F_l1Cur_next : Ft_l1Cur_next) : Ctx := { types := TT, globals := [], con := [], mcon := [(60, ⟨As_l1Cur_next, R_l1Cur_next, M_l1Cur_next, F_l1Cur_next⟩)], keep := [], results := [.tmp 4], ntmps := 20, n := n }
noncomputable def B_l1Cur_pick : Code := (Tryd.f44.body).getD .skip
noncomputable def P_l1Cur_pick : Ft_l1Cur_pick := hid (runFM (X_l1Cur_pick N P_l1Cur_next) B_l1Cur_pick As_l1Cur_pick R_l1Cur_pick M_l1Cur_pick)
theorem h_l1Cur_pick : P_l1Cur_pick = runFM (X_l1Cur_pick N P_l1Cur_next) B_l1Cur_pick As_l1Cur_pick R_l1Cur_pick M_l1Cur_pick := hid_eq _
noncomputable def C_l1Cur_pick : MContract := ⟨As_l1Cur_pick, R_l1Cur_pick, M_l1Cur_pick, P_l1Cur_pick⟩
theorem s_l1Cur_pick : SoundM Tryd.prog n0 GG 44 C_l1Cur_pick := by
  unfold C_l1Cur_pick; rw [h_l1Cur_pick]
  exact sound_of_runM (fn := Tryd.f44) hmix hstable (tyOK_of ttOK) (hglob (X_l1Cur_pick N P_l1Cur_next)) (conOK_of (X := X_l1Cur_pick N P_l1Cur_next) trivial) (mconOK_of (X := X_l1Cur_pick N P_l1Cur_next) ⟨s_l1Cur_next, trivial⟩) (by kernel_rfl) (by kernel_rfl) (by kernel_rfl) (by kernel_rfl) (by kernel_rfl) (of_decide_eq_true (by kernel_rfl)) (by kernel_rfl) (by rfl)
theorem p_l1Cur_pick (a0 : D_l1Cur) (a1 : Int) : P_l1Cur_pick (a0, a1, ()) = 
  bif decide (a1 ≤ 1) then
    some ((0, ()), (a0, ()))
  else
    Option.bind (P_l1Cur_next (a0, ())) fun r1 =>
    bif decide (a1 > 200) then
      Option.bind (P_l1Cur_next ((a0.1, r1.2.1.2), ())) fun r3 =>
      bif !decide (a1 = 0) then
        some (((Int.tmod (IntKind.wrap .i64 ((IntKind.wrap .i64 (r1.1.1 * 256)) + r3.1.1)) a1), ()), ((a0.1, r3.2.1.2), ()))
      else none
    else
      bif !decide (a1 = 0) then
        some (((Int.tmod r1.1.1 a1), ()), ((a0.1, r1.2.1.2), ()))
      else none := by
  rewrite [h_l1Cur_pick]
  kernel_rfl

/- 52: (*loop.example/g01166/spec.l1Cur).of -/
abbrev As_l1Cur_of : List ATy := [.lptr T_l1Cur, .data false (.sl .str)]
abbrev R_l1Cur_of : List (Bool × Ty) := [(false, .str)]
abbrev M_l1Cur_of : List RMode := []
abbrev Ft_l1Cur_of : Type := D_l1Cur × (List (List UInt8)) × Unit → Option (((List UInt8) × Unit) × (D_l1Cur × Unit))
noncomputable def X_l1Cur_of (n : Nat) (F_l1Cur_pick : Ft_l1Cur_pick) : Ctx := { types := TT, globals := [], con := [], mcon := [(44, ⟨As_l1Cur_pick, R_l1Cur_pick, M_l1Cur_pick, F_l1Cur_pick⟩)], keep := [], results := [.tmp 4], ntmps := 12, n := n }
noncomputable def B_l1Cur_of : Code := (Tryd.f52.body).getD .skip
noncomputable def P_l1Cur_of : Ft_l1Cur_of := hid (runFM (X_l1Cur_of N P_l1Cur_pick) B_l1Cur_of As_l1Cur_of R_l1Cur_of M_l1Cur_of)
theorem h_l1Cur_of : P_l1Cur_of = runFM (X_l1Cur_of N P_l1Cur_pick) B_l1Cur_of As_l1Cur_of R_l1Cur_of M_l1Cur_of := hid_eq _
noncomputable def C_l1Cur_of : MContract := ⟨As_l1Cur_of, R_l1Cur_of, M_l1Cur_of, P_l1Cur_of⟩
theorem s_l1Cur_of : SoundM Tryd.prog n0 GG 52 C_l1Cur_of := by
  unfold C_l1Cur_of; rw [h_l1Cur_of]
  exact sound_of_runM (fn := Tryd.f52) hmix hstable (tyOK_of ttOK) (hglob (X_l1Cur_of N P_l1Cur_pick)) (conOK_of (X := X_l1Cur_of N P_l1Cur_pick) trivial) (mconOK_of (X := X_l1Cur_of N P_l1Cur_pick) ⟨s_l1Cur_pick, trivial⟩) (by kernel_rfl) (by kernel_rfl) (by kernel_rfl) (by kernel_rfl) (by kernel_rfl) (of_decide_eq_true (by kernel_rfl)) (by kernel_rfl) (by rfl)
theorem p_l1Cur_of (a0 : D_l1Cur) (a1 : List (List UInt8)) : P_l1Cur_of (a0, a1, ()) = 
  Option.bind (P_l1Cur_pick (a0, (List.length a1 : Int), ())) fun r0 =>
  bif inB r0.1.1 (List.length a1) then
    some (((nth (.str : Ty) a1 r0.1.1), ()), ((a0.1, r0.2.1.2), ()))
  else none := by
  rewrite [h_l1Cur_of]
  kernel_rfl

/- 36: (*loop.example/g01166/spec.l1Cur).logRecord -/
abbrev As_l1Cur_logRecord : List ATy := [.lptr T_l1Cur]
abbrev R_l1Cur_logRecord : List (Bool × Ty) := [(true, T_LogRecord)]
abbrev M_l1Cur_logRecord : List RMode := []
abbrev Ft_l1Cur_logRecord : Type := D_l1Cur × Unit → Option ((D_LogRecord × Unit) × (D_l1Cur × Unit))
noncomputable def X_l1Cur_logRecord (n : Nat) (F_l1Cur_pick : Ft_l1Cur_pick) (F_l1Cur_of : Ft_l1Cur_of) : Ctx := { types := TT, globals := [], con := [], mcon := [(44, ⟨As_l1Cur_pick, R_l1Cur_pick, M_l1Cur_pick, F_l1Cur_pick⟩), (52, ⟨As_l1Cur_of, R_l1Cur_of, M_l1Cur_of, F_l1Cur_of⟩)], keep := [], results := [.cell 2 33], ntmps := 28, n := n }
noncomputable def B_l1Cur_logRecord : Code := (Tryd.f36.body).getD .skip
noncomputable def P_l1Cur_logRecord : Ft_l1Cur_logRecord := hid (runFM (X_l1Cur_logRecord N P_l1Cur_pick P_l1Cur_of) B_l1Cur_logRecord As_l1Cur_logRecord R_l1Cur_logRecord M_l1Cur_logRecord)
theorem h_l1Cur_logRecord : P_l1Cur_logRecord = runFM (X_l1Cur_logRecord N P_l1Cur_pick P_l1Cur_of) B_l1Cur_logRecord As_l1Cur_logRecord R_l1Cur_logRecord M_l1Cur_logRecord := hid_eq _
noncomputable def C_l1Cur_logRecord : MContract := ⟨As_l1Cur_logRecord, R_l1Cur_logRecord, M_l1Cur_logRecord, P_l1Cur_logRecord⟩
theorem s_l1Cur_logRecord : SoundM Tryd.prog n0 GG 36 C_l1Cur_logRecord := by
  unfold C_l1Cur_logRecord; rw [h_l1Cur_logRecord]
  exact sound_of_runM (fn := Tryd.f36) hmix hstable (tyOK_of ttOK) (hglob (X_l1Cur_logRecord N P_l1Cur_pick P_l1Cur_of)) (conOK_of (X := X_l1Cur_logRecord N P_l1Cur_pick P_l1Cur_of) trivial) (mconOK_of (X := X_l1Cur_logRecord N P_l1Cur_pick P_l1Cur_of) ⟨s_l1Cur_pick, s_l1Cur_of, trivial⟩) (by kernel_rfl) (by kernel_rfl) (by kernel_rfl) (by kernel_rfl) (by kernel_rfl) (of_decide_eq_true (by kernel_rfl)) (by kernel_rfl) (by rfl)
theorem p_l1Cur_logRecord (a0 : D_l1Cur) : P_l1Cur_logRecord (a0, ()) = 
  Option.bind (P_l1Cur_of (a0, ([([104, 101, 97, 112] : List UInt8), ([112, 117, 116, 32, 49, 32, 48, 32, 48] : List UInt8), ([120] : List UInt8), ([109, 105, 114, 114, 111, 114, 32, 50] : List UInt8), ([48, 32, 49] : List UInt8)] : List (List UInt8)), ())) fun r0 =>
  Option.bind (P_l1Cur_of ((a0.1, r0.2.1.2), ([([] : List UInt8), ([51] : List UInt8), ([63] : List UInt8), ([97, 64, 98] : List UInt8), ([51, 32, 49, 32, 50] : List UInt8)] : List (List UInt8)), ())) fun r1 =>
  Option.bind (P_l1Cur_pick ((a0.1, r1.2.1.2), 24, ())) fun r2 =>
  bif decide (r2.1.1 = 0) then
    bif (decide ((0 : Int) ≤ 3) && decide ((3 : Int) ≤ 3) && decide ((3 : Int) * (1 : Nat) ≤ 140737488355328) && decide ((3 : Int) ≤ 140737488355328)) then
      Option.bind (P_l1Cur_of ((a0.1, r2.2.1.2), ([([] : List UInt8), ([97, 64, 98] : List UInt8), ([97, 35] : List UInt8), ([10] : List UInt8), (List.map (fun (N : Int) => N.toNat.toUInt8) (List.replicate (Int.toNat 3) (Ty.dflt ((.int .u8) : Ty))))] : List (List UInt8)), ())) fun r5 =>
      some (((r5.1.1, (r1.1.1, ())), ()), ((a0.1, r5.2.1.2), ()))
    else none
  else
    bif decide (r2.1.1 = 1) then
      Option.bind (P_l1Cur_of ((a0.1, r2.2.1.2), ([([35] : List UInt8), ([10] : List UInt8), ([127] : List UInt8)] : List (List UInt8)), ())) fun r5 =>
      some (((r0.1.1, (r5.1.1, ())), ()), ((a0.1, r5.2.1.2), ()))
    else
      some (((r0.1.1, (r1.1.1, ())), ()), ((a0.1, r2.2.1.2), ())) := by
  rewrite [h_l1Cur_logRecord]
  kernel_rfl

/- 11: loop.example/g01166/spec.DrawIsValidRecord -/
abbrev As_spec_DrawIsValidRecord : List ATy := [.data false (.sl (.int .u8))]
abbrev R_spec_DrawIsValidRecord : List (Bool × Ty) := [(true, T_LogRecord)]
abbrev M_spec_DrawIsValidRecord : List RMode := []
abbrev Ft_spec_DrawIsValidRecord : Type := (List Int) × Unit → Option (D_LogRecord × Unit)
noncomputable def X_spec_DrawIsValidRecord (n : Nat) (F_l1Cur_logRecord : Ft_l1Cur_logRecord) : Ctx := { types := TT, globals := [], con := [], mcon := [(36, ⟨As_l1Cur_logRecord, R_l1Cur_logRecord, M_l1Cur_logRecord, F_l1Cur_logRecord⟩)], keep := [], results := [.cell 2 33], ntmps := 9, n := n }
noncomputable def B_spec_DrawIsValidRecord : Code := (Tryd.f11.body).getD .skip
noncomputable def P_spec_DrawIsValidRecord : Ft_spec_DrawIsValidRecord := hid (runF (X_spec_DrawIsValidRecord N P_l1Cur_logRecord) B_spec_DrawIsValidRecord As_spec_DrawIsValidRecord R_spec_DrawIsValidRecord M_spec_DrawIsValidRecord)
theorem h_spec_DrawIsValidRecord : P_spec_DrawIsValidRecord = runF (X_spec_DrawIsValidRecord N P_l1Cur_logRecord) B_spec_DrawIsValidRecord As_spec_DrawIsValidRecord R_spec_DrawIsValidRecord M_spec_DrawIsValidRecord := hid_eq _
noncomputable def C_spec_DrawIsValidRecord : Contract := ⟨As_spec_DrawIsValidRecord, R_spec_DrawIsValidRecord, M_spec_DrawIsValidRecord, P_spec_DrawIsValidRecord⟩
theorem s_spec_DrawIsValidRecord : Sound Tryd.prog GG 11 C_spec_DrawIsValidRecord := by
  unfold C_spec_DrawIsValidRecord; rw [h_spec_DrawIsValidRecord]
  exact sound_of_run (fn := Tryd.f11) hmix hstable (tyOK_of ttOK) (hglob (X_spec_DrawIsValidRecord N P_l1Cur_logRecord)) (conOK_of (X := X_spec_DrawIsValidRecord N P_l1Cur_logRecord) trivial) (mconOK_of (X := X_spec_DrawIsValidRecord N P_l1Cur_logRecord) ⟨s_l1Cur_logRecord, trivial⟩) (by kernel_rfl) (by kernel_rfl) (by kernel_rfl) (by kernel_rfl) (by kernel_rfl) (of_decide_eq_true (by kernel_rfl))
theorem p_spec_DrawIsValidRecord (a0 : List Int) : P_spec_DrawIsValidRecord (a0, ()) = 
  Option.bind (P_l1Cur_logRecord ((a0, (0, (0, ()))), ())) fun r0 =>
  some (r0.1.1, ()) := by
  rewrite [h_spec_DrawIsValidRecord]
  kernel_rfl

/- 37: (*loop.example/g01166/spec.l1Cur).among -/
abbrev As_l1Cur_among : List ATy := [.lptr T_l1Cur, .data false (.sl (.int .i64))]
abbrev R_l1Cur_among : List (Bool × Ty) := [(false, (.int .i64))]
abbrev M_l1Cur_among : List RMode := []
abbrev Ft_l1Cur_among : Type := D_l1Cur × (List Int) × Unit → Option ((Int × Unit) × (D_l1Cur × Unit))
noncomputable def X_l1Cur_among (n : Nat) (F_l1Cur_pick : Ft_l1Cur_pick) : Ctx := { types := TT, globals := [], con := [], mcon := [(44, ⟨As_l1Cur_pick, R_l1Cur_pick, M_l1Cur_pick, F_l1Cur_pick⟩)], keep := [], results := [.tmp 4], ntmps := 12, n := n }
noncomputable def B_l1Cur_among : Code := (Tryd.f37.body).getD .skip
noncomputable def P_l1Cur_among : Ft_l1Cur_among := hid (runFM (X_l1Cur_among N P_l1Cur_pick) B_l1Cur_among As_l1Cur_among R_l1Cur_among M_l1Cur_among)
theorem h_l1Cur_among : P_l1Cur_among = runFM (X_l1Cur_among N P_l1Cur_pick) B_l1Cur_among As_l1Cur_among R_l1Cur_among M_l1Cur_among := hid_eq _
noncomputable def C_l1Cur_among : MContract := ⟨As_l1Cur_among, R_l1Cur_among, M_l1Cur_among, P_l1Cur_among⟩
theorem s_l1Cur_among : SoundM Tryd.prog n0 GG 37 C_l1Cur_among := by
  unfold C_l1Cur_among; rw [h_l1Cur_among]
  exact sound_of_runM (fn := Tryd.f37) hmix hstable (tyOK_of ttOK) (hglob (X_l1Cur_among N P_l1Cur_pick)) (conOK_of (X := X_l1Cur_among N P_l1Cur_pick) trivial) (mconOK_of (X := X_l1Cur_among N P_l1Cur_pick) ⟨s_l1Cur_pick, trivial⟩) (by kernel_rfl) (by kernel_rfl) (by kernel_rfl) (by kernel_rfl) (by kernel_rfl) (of_decide_eq_true (by kernel_rfl)) (by kernel_rfl) (by rfl)
theorem p_l1Cur_among (a0 : D_l1Cur) (a1 : List Int) : P_l1Cur_among (a0, a1, ()) = 
  Option.bind (P_l1Cur_pick (a0, (List.length a1 : Int), ())) fun r0 =>
  bif inB r0.1.1 (List.length a1) then
    some (((nth ((.int .i64) : Ty) a1 r0.1.1), ()), ((a0.1, r0.2.1.2), ()))
  else none := by
  rewrite [h_l1Cur_among]
  kernel_rfl

/- 12: loop.example/g01166/spec.DrawEncodeRecord -/
abbrev As_spec_DrawEncodeRecord : List ATy := [.data false (.sl (.int .u8))]
abbrev R_spec_DrawEncodeRecord : List (Bool × Ty) := [(false, (.int .i64)), (true, T_LogRecord)]
abbrev M_spec_DrawEncodeRecord : List RMode := []
abbrev Ft_spec_DrawEncodeRecord : Type := (List Int) × Unit → Option (Int × D_LogRecord × Unit)
noncomputable def X_spec_DrawEncodeRecord (n : Nat) (F_l1Cur_logRecord : Ft_l1Cur_logRecord) (F_l1Cur_among : Ft_l1Cur_among) : Ctx := { types := TT, globals := [], con := [], mcon := [(36, ⟨As_l1Cur_logRecord, R_l1Cur_logRecord, M_l1Cur_logRecord, F_l1Cur_logRecord⟩), (37, ⟨As_l1Cur_among, R_l1Cur_among, M_l1Cur_among, F_l1Cur_among⟩)], keep := [], results := [.tmp 2, .cell 3 33], ntmps := 15, n := n }
noncomputable def B_spec_DrawEncodeRecord : Code := (Tryd.f12.body).getD .skip
noncomputable def P_spec_DrawEncodeRecord : Ft_spec_DrawEncodeRecord := hid (runF (X_spec_DrawEncodeRecord N P_l1Cur_logRecord P_l1Cur_among) B_spec_DrawEncodeRecord As_spec_DrawEncodeRecord R_spec_DrawEncodeRecord M_spec_DrawEncodeRecord)
theorem h_spec_DrawEncodeRecord : P_spec_DrawEncodeRecord = runF (X_spec_DrawEncodeRecord N P_l1Cur_logRecord P_l1Cur_among) B_spec_DrawEncodeRecord As_spec_DrawEncodeRecord R_spec_DrawEncodeRecord M_spec_DrawEncodeRecord := hid_eq _
noncomputable def C_spec_DrawEncodeRecord : Contract := ⟨As_spec_DrawEncodeRecord, R_spec_DrawEncodeRecord, M_spec_DrawEncodeRecord, P_spec_DrawEncodeRecord⟩
theorem s_spec_DrawEncodeRecord : Sound Tryd.prog GG 12 C_spec_DrawEncodeRecord := by
  unfold C_spec_DrawEncodeRecord; rw [h_spec_DrawEncodeRecord]
  exact sound_of_run (fn := Tryd.f12) hmix hstable (tyOK_of ttOK) (hglob (X_spec_DrawEncodeRecord N P_l1Cur_logRecord P_l1Cur_among)) (conOK_of (X := X_spec_DrawEncodeRecord N P_l1Cur_logRecord P_l1Cur_among) trivial) (mconOK_of (X := X_spec_DrawEncodeRecord N P_l1Cur_logRecord P_l1Cur_among) ⟨s_l1Cur_logRecord, s_l1Cur_among, trivial⟩) (by kernel_rfl) (by kernel_rfl) (by kernel_rfl) (by kernel_rfl) (by kernel_rfl) (of_decide_eq_true (by kernel_rfl))
theorem p_spec_DrawEncodeRecord (a0 : List Int) : P_spec_DrawEncodeRecord (a0, ()) = 
  Option.bind (P_l1Cur_among ((a0, (0, (0, ()))), ([0, 1, 12, 59, 60, (-1)] : List Int), ())) fun r0 =>
  Option.bind (P_l1Cur_logRecord ((a0, r0.2.1.2), ())) fun r1 =>
  some (r0.1.1, r1.1.1, ()) := by
  rewrite [h_spec_DrawEncodeRecord]
  kernel_rfl

/- 13: loop.example/g01166/laws.vCut -/
abbrev As_laws_vCut : List ATy := [.data false (.sl (.int .u8)), .data false (.int .i64)]
abbrev R_laws_vCut : List (Bool × Ty) := [(false, (.sl (.int .u8)))]
abbrev M_laws_vCut : List RMode := [.own 5]
abbrev Ft_laws_vCut : Type := (List Int) × Int × Unit → Option ((List Int) × Unit)
noncomputable def X_laws_vCut (n : Nat) : Ctx := { types := TT, globals := [], con := [], keep := [], results := [.tmp 4], ntmps := 20, n := n }
noncomputable def B_laws_vCut : Code := (Tryd.f13.body).getD .skip
noncomputable def P_laws_vCut : Ft_laws_vCut := hid (runF (X_laws_vCut N) B_laws_vCut As_laws_vCut R_laws_vCut M_laws_vCut)
theorem h_laws_vCut : P_laws_vCut = runF (X_laws_vCut N) B_laws_vCut As_laws_vCut R_laws_vCut M_laws_vCut := hid_eq _
noncomputable def C_laws_vCut : Contract := ⟨As_laws_vCut, R_laws_vCut, M_laws_vCut, P_laws_vCut⟩
theorem s_laws_vCut : Sound Tryd.prog GG 13 C_laws_vCut := by
  unfold C_laws_vCut; rw [h_laws_vCut]
  exact sound_of_run (fn := Tryd.f13) hmix hstable (tyOK_of ttOK) (hglob (X_laws_vCut N)) (conOK_of (X := X_laws_vCut N) trivial) (mconOK_of (X := X_laws_vCut N) trivial) (by kernel_rfl) (by kernel_rfl) (by kernel_rfl) (by kernel_rfl) (by kernel_rfl) (of_decide_eq_true (by kernel_rfl))
theorem p_laws_vCut (a0 : List Int) (a1 : Int) : P_laws_vCut (a0, a1, ()) = 
  bif decide (a1 > (List.length a0 : Int)) then
    bif (decide ((0 : Int) ≤ (List.length a0 : Int)) && decide ((List.length a0 : Int) ≤ (List.length a0 : Int)) && decide ((List.length a0 : Int) ≤ (List.length a0 : Int))) then
      bif (decide (((List.length ([] : List Int)) + (List.length (cut a0 (List.length a0 : Int) (List.length a0 : Int)))) * 1 ≤ 140737488355328) && decide (((List.length ([] : List Int)) + (List.length (cut a0 (List.length a0 : Int) (List.length a0 : Int)))) ≤ 140737488355328)) then
        bif (decide (((List.length (([] : List Int) ++ (cut a0 (List.length a0 : Int) (List.length a0 : Int)))) + (List.length ([(IntKind.wrap .u8 (List.length a0 : Int))] : List Int))) * 1 ≤ 140737488355328) && decide (((List.length (([] : List Int) ++ (cut a0 (List.length a0 : Int) (List.length a0 : Int)))) + (List.length ([(IntKind.wrap .u8 (List.length a0 : Int))] : List Int))) ≤ 140737488355328)) then
          some (((([] : List Int) ++ (cut a0 (List.length a0 : Int) (List.length a0 : Int))) ++ ([(IntKind.wrap .u8 (List.length a0 : Int))] : List Int)), ())
        else none
      else none
    else none
  else
    bif (decide ((0 : Int) ≤ a1) && decide (a1 ≤ (List.length a0 : Int)) && decide ((List.length a0 : Int) ≤ (List.length a0 : Int))) then
      bif (decide (((List.length ([] : List Int)) + (List.length (cut a0 a1 (List.length a0 : Int)))) * 1 ≤ 140737488355328) && decide (((List.length ([] : List Int)) + (List.length (cut a0 a1 (List.length a0 : Int)))) ≤ 140737488355328)) then
        bif (decide (((List.length (([] : List Int) ++ (cut a0 a1 (List.length a0 : Int)))) + (List.length ([(IntKind.wrap .u8 a1)] : List Int))) * 1 ≤ 140737488355328) && decide (((List.length (([] : List Int) ++ (cut a0 a1 (List.length a0 : Int)))) + (List.length ([(IntKind.wrap .u8 a1)] : List Int))) ≤ 140737488355328)) then
          some (((([] : List Int) ++ (cut a0 a1 (List.length a0 : Int))) ++ ([(IntKind.wrap .u8 a1)] : List Int)), ())
        else none
      else none
    else none := by
  rewrite [h_laws_vCut]
  kernel_rfl

/- 15: loop.example/g01166/spec.EncodeRecord -/
abbrev As_spec_EncodeRecord : List ATy := [.data false (.int .i64), .data true T_LogRecord]
abbrev R_spec_EncodeRecord : List (Bool × Ty) := [(false, .str), (false, .bool)]
abbrev M_spec_EncodeRecord : List RMode := []
abbrev Ft_spec_EncodeRecord : Type := Int × D_LogRecord × Unit → Option ((List UInt8) × Bool × Unit)
noncomputable def X_spec_EncodeRecord (n : Nat) (F_spec_l1In : Ft_spec_l1In) (F_spec_l12Record : Ft_spec_l12Record) (F_spec_l12Line : Ft_spec_l12Line) : Ctx := { types := TT, globals := [], con := [(34, ⟨As_spec_l1In, R_spec_l1In, M_spec_l1In, F_spec_l1In⟩), (40, ⟨As_spec_l12Record, R_spec_l12Record, M_spec_l12Record, F_spec_l12Record⟩), (41, ⟨As_spec_l12Line, R_spec_l12Line, M_spec_l12Line, F_spec_l12Line⟩)], keep := [], results := [.tmp 4, .tmp 5], ntmps := 17, n := n }
noncomputable def B_spec_EncodeRecord : Code := (Tryd.f15.body).getD .skip
noncomputable def P_spec_EncodeRecord : Ft_spec_EncodeRecord := hid (runF (X_spec_EncodeRecord N P_spec_l1In P_spec_l12Record P_spec_l12Line) B_spec_EncodeRecord As_spec_EncodeRecord R_spec_EncodeRecord M_spec_EncodeRecord)
theorem h_spec_EncodeRecord : P_spec_EncodeRecord = runF (X_spec_EncodeRecord N P_spec_l1In P_spec_l12Record P_spec_l12Line) B_spec_EncodeRecord As_spec_EncodeRecord R_spec_EncodeRecord M_spec_EncodeRecord := hid_eq _
noncomputable def C_spec_EncodeRecord : Contract := ⟨As_spec_EncodeRecord, R_spec_EncodeRecord, M_spec_EncodeRecord, P_spec_EncodeRecord⟩
theorem s_spec_EncodeRecord : Sound Tryd.prog GG 15 C_spec_EncodeRecord := by
  unfold C_spec_EncodeRecord; rw [h_spec_EncodeRecord]
  exact sound_of_run (fn := Tryd.f15) hmix hstable (tyOK_of ttOK) (hglob (X_spec_EncodeRecord N P_spec_l1In P_spec_l12Record P_spec_l12Line)) (conOK_of (X := X_spec_EncodeRecord N P_spec_l1In P_spec_l12Record P_spec_l12Line) ⟨s_spec_l1In, s_spec_l12Record, s_spec_l12Line, trivial⟩) (mconOK_of (X := X_spec_EncodeRecord N P_spec_l1In P_spec_l12Record P_spec_l12Line) trivial) (by kernel_rfl) (by kernel_rfl) (by kernel_rfl) (by kernel_rfl) (by kernel_rfl) (of_decide_eq_true (by kernel_rfl))
theorem p_spec_EncodeRecord (a0 : Int) (a1 : D_LogRecord) : P_spec_EncodeRecord (a0, a1, ()) = 
  Option.bind (P_spec_l1In (a0, 0, 59, ())) fun r0 =>
  bif !r0.1 then
    some (([] : List UInt8), false, ())
  else
    Option.bind (P_spec_l12Record (a1, ())) fun r2 =>
    bif !r2.1 then
      some (([] : List UInt8), false, ())
    else
      Option.bind (P_spec_l12Line (a0, a1, ())) fun r4 =>
      some (r4.1, true, ()) := by
  rewrite [h_spec_EncodeRecord]
  kernel_rfl

/- 19: loop.example/g01166/spec.AppendRecord -/
abbrev As_spec_AppendRecord : List ATy := [.data true T_Log, .data true T_LogRecord]
abbrev R_spec_AppendRecord : List (Bool × Ty) := [(true, T_Log), (false, (.int .i64))]
abbrev M_spec_AppendRecord : List RMode := []
abbrev Ft_spec_AppendRecord : Type := D_Log × D_LogRecord × Unit → Option (D_Log × Int × Unit)
noncomputable def X_spec_AppendRecord (n : Nat) (F_spec_l12Valid : Ft_spec_l12Valid) (F_spec_l12Record : Ft_spec_l12Record) (F_spec_l12Line : Ft_spec_l12Line) : Ctx := { types := TT, globals := [], con := [(33, ⟨As_spec_l12Valid, R_spec_l12Valid, M_spec_l12Valid, F_spec_l12Valid⟩), (40, ⟨As_spec_l12Record, R_spec_l12Record, M_spec_l12Record, F_spec_l12Record⟩), (41, ⟨As_spec_l12Line, R_spec_l12Line, M_spec_l12Line, F_spec_l12Line⟩)], keep := [], results := [.cell 4 27, .tmp 5], ntmps := 32, n := n }
noncomputable def B_spec_AppendRecord : Code := (Tryd.f19.body).getD .skip
noncomputable def P_spec_AppendRecord : Ft_spec_AppendRecord := hid (runF (X_spec_AppendRecord N P_spec_l12Valid P_spec_l12Record P_spec_l12Line) B_spec_AppendRecord As_spec_AppendRecord R_spec_AppendRecord M_spec_AppendRecord)
theorem h_spec_AppendRecord : P_spec_AppendRecord = runF (X_spec_AppendRecord N P_spec_l12Valid P_spec_l12Record P_spec_l12Line) B_spec_AppendRecord As_spec_AppendRecord R_spec_AppendRecord M_spec_AppendRecord := hid_eq _
noncomputable def C_spec_AppendRecord : Contract := ⟨As_spec_AppendRecord, R_spec_AppendRecord, M_spec_AppendRecord, P_spec_AppendRecord⟩
theorem s_spec_AppendRecord : Sound Tryd.prog GG 19 C_spec_AppendRecord := by
  unfold C_spec_AppendRecord; rw [h_spec_AppendRecord]
  exact sound_of_run (fn := Tryd.f19) hmix hstable (tyOK_of ttOK) (hglob (X_spec_AppendRecord N P_spec_l12Valid P_spec_l12Record P_spec_l12Line)) (conOK_of (X := X_spec_AppendRecord N P_spec_l12Valid P_spec_l12Record P_spec_l12Line) ⟨s_spec_l12Valid, s_spec_l12Record, s_spec_l12Line, trivial⟩) (mconOK_of (X := X_spec_AppendRecord N P_spec_l12Valid P_spec_l12Record P_spec_l12Line) trivial) (by kernel_rfl) (by kernel_rfl) (by kernel_rfl) (by kernel_rfl) (by kernel_rfl) (of_decide_eq_true (by kernel_rfl))
theorem p_spec_AppendRecord (a0 : D_Log) (a1 : D_LogRecord) : P_spec_AppendRecord (a0, a1, ()) = 
  Option.bind (P_spec_l12Valid (a0, ())) fun r0 =>
  bif !r0.1 then
    some (a0, 1, ())
  else
    Option.bind (P_spec_l12Record (a1, ())) fun r2 =>
    bif !r2.1 then
      some (a0, 1, ())
    else
      bif decide (a0.2.2.1 = 60) then
        some (a0, 2, ())
      else
        Option.bind (P_spec_l12Line (a0.2.2.1, a1, ())) fun r5 =>
        Option.bind (catS a0.2.1 r5.1) fun r6 =>
        some ((a0.1, (r6, ((IntKind.wrap .i64 (a0.2.2.1 + 1)), ()))), 0, ()) := by
  rewrite [h_spec_AppendRecord]
  kernel_rfl

/- 25: loop.example/g01166/spec.SyncLog -/
abbrev As_spec_SyncLog : List ATy := [.data true T_Log]
abbrev R_spec_SyncLog : List (Bool × Ty) := [(true, T_Log), (false, .bool)]
abbrev M_spec_SyncLog : List RMode := []
abbrev Ft_spec_SyncLog : Type := D_Log × Unit → Option (D_Log × Bool × Unit)
noncomputable def X_spec_SyncLog (n : Nat) (F_spec_l12Valid : Ft_spec_l12Valid) : Ctx := { types := TT, globals := [], con := [(33, ⟨As_spec_l12Valid, R_spec_l12Valid, M_spec_l12Valid, F_spec_l12Valid⟩)], keep := [], results := [.cell 2 27, .tmp 3], ntmps := 16, n := n }
noncomputable def B_spec_SyncLog : Code := (Tryd.f25.body).getD .skip
noncomputable def P_spec_SyncLog : Ft_spec_SyncLog := hid (runF (X_spec_SyncLog N P_spec_l12Valid) B_spec_SyncLog As_spec_SyncLog R_spec_SyncLog M_spec_SyncLog)
theorem h_spec_SyncLog : P_spec_SyncLog = runF (X_spec_SyncLog N P_spec_l12Valid) B_spec_SyncLog As_spec_SyncLog R_spec_SyncLog M_spec_SyncLog := hid_eq _
noncomputable def C_spec_SyncLog : Contract := ⟨As_spec_SyncLog, R_spec_SyncLog, M_spec_SyncLog, P_spec_SyncLog⟩
theorem s_spec_SyncLog : Sound Tryd.prog GG 25 C_spec_SyncLog := by
  unfold C_spec_SyncLog; rw [h_spec_SyncLog]
  exact sound_of_run (fn := Tryd.f25) hmix hstable (tyOK_of ttOK) (hglob (X_spec_SyncLog N P_spec_l12Valid)) (conOK_of (X := X_spec_SyncLog N P_spec_l12Valid) ⟨s_spec_l12Valid, trivial⟩) (mconOK_of (X := X_spec_SyncLog N P_spec_l12Valid) trivial) (by kernel_rfl) (by kernel_rfl) (by kernel_rfl) (by kernel_rfl) (by kernel_rfl) (of_decide_eq_true (by kernel_rfl))
theorem p_spec_SyncLog (a0 : D_Log) : P_spec_SyncLog (a0, ()) = 
  Option.bind (P_spec_l12Valid (a0, ())) fun r0 =>
  bif !r0.1 then
    some ((([] : List UInt8), (([] : List UInt8), (0, ()))), false, ())
  else
    Option.bind (catS a0.1 a0.2.1) fun r2 =>
    some ((r2, (([] : List UInt8), a0.2.2)), true, ()) := by
  rewrite [h_spec_SyncLog]
  kernel_rfl

/- 43: (*loop.example/g01166/spec.l1Cur).one -/
abbrev As_l1Cur_one : List ATy := [.lptr T_l1Cur, .data false (.int .i64)]
abbrev R_l1Cur_one : List (Bool × Ty) := [(false, .bool)]
abbrev M_l1Cur_one : List RMode := []
abbrev Ft_l1Cur_one : Type := D_l1Cur × Int × Unit → Option ((Bool × Unit) × (D_l1Cur × Unit))
noncomputable def X_l1Cur_one (n : Nat) (F_l1Cur_pick : Ft_l1Cur_pick) : Ctx := { types := TT, globals := [], con := [], mcon := [(44, ⟨As_l1Cur_pick, R_l1Cur_pick, M_l1Cur_pick, F_l1Cur_pick⟩)], keep := [], results := [.tmp 4], ntmps := 9, n := n }
noncomputable def B_l1Cur_one : Code := (Tryd.f43.body).getD .skip
noncomputable def P_l1Cur_one : Ft_l1Cur_one := hid (runFM (X_l1Cur_one N P_l1Cur_pick) B_l1Cur_one As_l1Cur_one R_l1Cur_one M_l1Cur_one)
theorem h_l1Cur_one : P_l1Cur_one = runFM (X_l1Cur_one N P_l1Cur_pick) B_l1Cur_one As_l1Cur_one R_l1Cur_one M_l1Cur_one := hid_eq _
noncomputable def C_l1Cur_one : MContract := ⟨As_l1Cur_one, R_l1Cur_one, M_l1Cur_one, P_l1Cur_one⟩
theorem s_l1Cur_one : SoundM Tryd.prog n0 GG 43 C_l1Cur_one := by
  unfold C_l1Cur_one; rw [h_l1Cur_one]
  exact sound_of_runM (fn := Tryd.f43) hmix hstable (tyOK_of ttOK) (hglob (X_l1Cur_one N P_l1Cur_pick)) (conOK_of (X := X_l1Cur_one N P_l1Cur_pick) trivial) (mconOK_of (X := X_l1Cur_one N P_l1Cur_pick) ⟨s_l1Cur_pick, trivial⟩) (by kernel_rfl) (by kernel_rfl) (by kernel_rfl) (by kernel_rfl) (by kernel_rfl) (of_decide_eq_true (by kernel_rfl)) (by kernel_rfl) (by rfl)
theorem p_l1Cur_one (a0 : D_l1Cur) (a1 : Int) : P_l1Cur_one (a0, a1, ()) = 
  Option.bind (P_l1Cur_pick (a0, a1, ())) fun r0 =>
  some ((decide (r0.1.1 = 0), ()), ((a0.1, r0.2.1.2), ())) := by
  rewrite [h_l1Cur_one]
  kernel_rfl

/- 50: (*loop.example/g01166/spec.l1Cur).log12 -/
abbrev As_l1Cur_log12 : List ATy := [.lptr T_l1Cur]
abbrev R_l1Cur_log12 : List (Bool × Ty) := [(true, T_Log)]
abbrev M_l1Cur_log12 : List RMode := []
abbrev Ft_l1Cur_log12 : Type := D_l1Cur × Unit → Option ((D_Log × Unit) × (D_l1Cur × Unit))
noncomputable def X_l1Cur_log12 (n : Nat) (F_spec_AppendRecord : Ft_spec_AppendRecord) (F_spec_SyncLog : Ft_spec_SyncLog) (F_l1Cur_logRecord : Ft_l1Cur_logRecord) (F_l1Cur_one : Ft_l1Cur_one) (F_l1Cur_pick : Ft_l1Cur_pick) : Ctx := { types := TT, globals := [], con := [(19, ⟨As_spec_AppendRecord, R_spec_AppendRecord, M_spec_AppendRecord, F_spec_AppendRecord⟩), (25, ⟨As_spec_SyncLog, R_spec_SyncLog, M_spec_SyncLog, F_spec_SyncLog⟩)], mcon := [(36, ⟨As_l1Cur_logRecord, R_l1Cur_logRecord, M_l1Cur_logRecord, F_l1Cur_logRecord⟩), (43, ⟨As_l1Cur_one, R_l1Cur_one, M_l1Cur_one, F_l1Cur_one⟩), (44, ⟨As_l1Cur_pick, R_l1Cur_pick, M_l1Cur_pick, F_l1Cur_pick⟩)], keep := [(3, ⟨[.box 2, .box 3, .box 1000000, .tmp 0, .tmp 2, .tmp 3, .tmp 4], []⟩)], results := [.cell 2 27], ntmps := 27, n := n }
noncomputable def B_l1Cur_log12 : Code := (Tryd.f50.body).getD .skip
noncomputable def L_l1Cur_log12_3 (n : Nat) (F_spec_AppendRecord : Ft_spec_AppendRecord) (F_spec_SyncLog : Ft_spec_SyncLog) (F_l1Cur_logRecord : Ft_l1Cur_logRecord) (F_l1Cur_one : Ft_l1Cur_one) (F_l1Cur_pick : Ft_l1Cur_pick) (m0 : Nat) (p0 : List UInt8) (p1 : List UInt8) (p2 : Int) (p3 : List UInt8) (p4 : List UInt8) (p5 : Int) (p6 : List Int) (p7 : Int) (p8 : Int) (p9 : Int) : Option (denL R_l1Cur_log12 × denM As_l1Cur_log12) := loopFM (X_l1Cur_log12 n F_spec_AppendRecord F_spec_SyncLog F_l1Cur_logRecord F_l1Cur_one F_l1Cur_pick) B_l1Cur_log12 As_l1Cur_log12 R_l1Cur_log12 M_l1Cur_log12 3 [m0] [(.ver, .num 1), (.box 2, .box 0 false [.str p0, .str p1, .int .i64 p2]), (.box 3, .box 0 false [.str p3, .str p4, .int .i64 p5]), (.box 1000000, .box 0 false [.imm (.int .u8) p6 (some 1), .int .i64 p7, .int .u64 p8]), (.tmp 0, .val false [.addr 1000000 0 0]), (.tmp 2, .val false [.addr 2 0 0]), (.tmp 3, .val false [.addr 3 0 0]), (.tmp 4, .val false [.int .i64 p9])]
noncomputable def P_l1Cur_log12 : Ft_l1Cur_log12 := hid (runFM (X_l1Cur_log12 N P_spec_AppendRecord P_spec_SyncLog P_l1Cur_logRecord P_l1Cur_one P_l1Cur_pick) B_l1Cur_log12 As_l1Cur_log12 R_l1Cur_log12 M_l1Cur_log12)
theorem h_l1Cur_log12 : P_l1Cur_log12 = runFM (X_l1Cur_log12 N P_spec_AppendRecord P_spec_SyncLog P_l1Cur_logRecord P_l1Cur_one P_l1Cur_pick) B_l1Cur_log12 As_l1Cur_log12 R_l1Cur_log12 M_l1Cur_log12 := hid_eq _
noncomputable def C_l1Cur_log12 : MContract := ⟨As_l1Cur_log12, R_l1Cur_log12, M_l1Cur_log12, P_l1Cur_log12⟩
theorem s_l1Cur_log12 : SoundM Tryd.prog n0 GG 50 C_l1Cur_log12 := by
  unfold C_l1Cur_log12; rw [h_l1Cur_log12]
  exact sound_of_runM (fn := Tryd.f50) hmix hstable (tyOK_of ttOK) (hglob (X_l1Cur_log12 N P_spec_AppendRecord P_spec_SyncLog P_l1Cur_logRecord P_l1Cur_one P_l1Cur_pick)) (conOK_of (X := X_l1Cur_log12 N P_spec_AppendRecord P_spec_SyncLog P_l1Cur_logRecord P_l1Cur_one P_l1Cur_pick) ⟨s_spec_AppendRecord, s_spec_SyncLog, trivial⟩) (mconOK_of (X := X_l1Cur_log12 N P_spec_AppendRecord P_spec_SyncLog P_l1Cur_logRecord P_l1Cur_one P_l1Cur_pick) ⟨s_l1Cur_logRecord, s_l1Cur_one, s_l1Cur_pick, trivial⟩) (by kernel_rfl) (by kernel_rfl) (by kernel_rfl) (by kernel_rfl) (by kernel_rfl) (of_decide_eq_true (by kernel_rfl)) (by kernel_rfl) (by rfl)
noncomputable def l_l1Cur_log12_3 : Nat → (List UInt8) → (List UInt8) → Int → (List UInt8) → (List UInt8) → Int → (List Int) → Int → Int → Int → Option (denL R_l1Cur_log12 × denM As_l1Cur_log12) := hid (fun m0 p0 p1 p2 p3 p4 p5 p6 p7 p8 p9 => L_l1Cur_log12_3 N P_spec_AppendRecord P_spec_SyncLog P_l1Cur_logRecord P_l1Cur_one P_l1Cur_pick m0 p0 p1 p2 p3 p4 p5 p6 p7 p8 p9)
theorem h_l1Cur_log12_3 : l_l1Cur_log12_3 = fun m0 p0 p1 p2 p3 p4 p5 p6 p7 p8 p9 => L_l1Cur_log12_3 N P_spec_AppendRecord P_spec_SyncLog P_l1Cur_logRecord P_l1Cur_one P_l1Cur_pick m0 p0 p1 p2 p3 p4 p5 p6 p7 p8 p9 := hid_eq _
theorem p_l1Cur_log12 (a0 : D_l1Cur) : P_l1Cur_log12 (a0, ()) = 
  Option.bind (P_l1Cur_pick (a0, 7, ())) fun r0 =>
  l_l1Cur_log12_3 N ([] : List UInt8) ([] : List UInt8) 0 ([] : List UInt8) ([] : List UInt8) 0 a0.1 r0.2.1.2.1 r0.2.1.2.2.1 r0.1.1 := by
  rewrite [h_l1Cur_log12, h_l1Cur_log12_3]
  kernel_rfl
theorem q_l1Cur_log12_3 (m0 : Nat) (p0 : List UInt8) (p1 : List UInt8) (p2 : Int) (p3 : List UInt8) (p4 : List UInt8) (p5 : Int) (p6 : List Int) (p7 : Int) (p8 : Int) (p9 : Int) : l_l1Cur_log12_3 (m0 + 1) p0 p1 p2 p3 p4 p5 p6 p7 p8 p9 = 
  bif decide (p9 > 0) then
    Option.bind (P_l1Cur_logRecord ((p6, (p7, (p8, ()))), ())) fun r1 =>
    Option.bind (P_spec_AppendRecord ((p3, (p4, (p5, ()))), r1.1.1, ())) fun r2 =>
    Option.bind (P_l1Cur_one ((p6, r1.2.1.2), 4, ())) fun r3 =>
    bif r3.1.1 then
      Option.bind (P_spec_SyncLog (r2.1, ())) fun r5 =>
      l_l1Cur_log12_3 m0 p0 p1 p2 r5.1.1 r5.1.2.1 r5.1.2.2.1 p6 r3.2.1.2.1 r3.2.1.2.2.1 (IntKind.wrap .i64 (p9 - 1))
    else
      l_l1Cur_log12_3 m0 p0 p1 p2 r2.1.1 r2.1.2.1 r2.1.2.2.1 p6 r3.2.1.2.1 r3.2.1.2.2.1 (IntKind.wrap .i64 (p9 - 1))
  else
    some (((p3, (p4, (p5, ()))), ()), ((p6, (p7, (p8, ()))), ())) := by
  rewrite [h_l1Cur_log12_3]
  kernel_rfl

/- 51: (*loop.example/g01166/spec.l1Cur).spoilt -/
abbrev As_l1Cur_spoilt : List ATy := [.lptr T_l1Cur, .data false .str, .data false .str]
abbrev R_l1Cur_spoilt : List (Bool × Ty) := [(false, .str)]
abbrev M_l1Cur_spoilt : List RMode := []
abbrev Ft_l1Cur_spoilt : Type := D_l1Cur × (List UInt8) × (List UInt8) × Unit → Option (((List UInt8) × Unit) × (D_l1Cur × Unit))
noncomputable def X_l1Cur_spoilt (n : Nat) (F_l1Cur_pick : Ft_l1Cur_pick) : Ctx := { types := TT, globals := [], con := [], mcon := [(44, ⟨As_l1Cur_pick, R_l1Cur_pick, M_l1Cur_pick, F_l1Cur_pick⟩)], keep := [], results := [.tmp 6], ntmps := 57, n := n }
noncomputable def B_l1Cur_spoilt : Code := (Tryd.f51.body).getD .skip
noncomputable def P_l1Cur_spoilt : Ft_l1Cur_spoilt := hid (runFM (X_l1Cur_spoilt N P_l1Cur_pick) B_l1Cur_spoilt As_l1Cur_spoilt R_l1Cur_spoilt M_l1Cur_spoilt)
theorem h_l1Cur_spoilt : P_l1Cur_spoilt = runFM (X_l1Cur_spoilt N P_l1Cur_pick) B_l1Cur_spoilt As_l1Cur_spoilt R_l1Cur_spoilt M_l1Cur_spoilt := hid_eq _
noncomputable def C_l1Cur_spoilt : MContract := ⟨As_l1Cur_spoilt, R_l1Cur_spoilt, M_l1Cur_spoilt, P_l1Cur_spoilt⟩
theorem s_l1Cur_spoilt : SoundM Tryd.prog n0 GG 51 C_l1Cur_spoilt := by
  unfold C_l1Cur_spoilt; rw [h_l1Cur_spoilt]
  exact sound_of_runM (fn := Tryd.f51) hmix hstable (tyOK_of ttOK) (hglob (X_l1Cur_spoilt N P_l1Cur_pick)) (conOK_of (X := X_l1Cur_spoilt N P_l1Cur_pick) trivial) (mconOK_of (X := X_l1Cur_spoilt N P_l1Cur_pick) ⟨s_l1Cur_pick, trivial⟩) (by kernel_rfl) (by kernel_rfl) (by kernel_rfl) (by kernel_rfl) (by kernel_rfl) (of_decide_eq_true (by kernel_rfl)) (by kernel_rfl) (by rfl)
theorem p_l1Cur_spoilt (a0 : D_l1Cur) (a1 : List UInt8) (a2 : List UInt8) : P_l1Cur_spoilt (a0, a1, a2, ()) = 
  bif a1 == ([] : List UInt8) then
    bif (decide ((0 : Int) ≤ 0) && decide ((0 : Int) ≤ 1) && decide ((1 : Int) ≤ (List.length a2 : Int))) then
      some (((cut a2 0 1), ()), (a0, ()))
    else none
  else
    Option.bind (P_l1Cur_pick (a0, (List.length a1 : Int), ())) fun r1 =>
    Option.bind (P_l1Cur_pick ((a0.1, r1.2.1.2), (List.length a2 : Int), ())) fun r2 =>
    bif (decide ((0 : Int) ≤ r2.1.1) && decide (r2.1.1 ≤ (List.length a2 : Int)) && decide ((List.length a2 : Int) ≤ (List.length a2 : Int))) then
      bif (decide ((0 : Int) ≤ 0) && decide ((0 : Int) ≤ 1) && decide ((1 : Int) ≤ (List.length (cut a2 r2.1.1 (List.length a2 : Int)) : Int))) then
        Option.bind (P_l1Cur_pick ((a0.1, r2.2.1.2), 3, ())) fun r5 =>
        bif decide (r5.1.1 = 0) then
          bif (decide ((0 : Int) ≤ 0) && decide ((0 : Int) ≤ r1.1.1) && decide (r1.1.1 ≤ (List.length a1 : Int))) then
            Option.bind (catS (cut a1 0 r1.1.1) (cut (cut a2 r2.1.1 (List.length a2 : Int)) 0 1)) fun r8 =>
            bif (decide ((0 : Int) ≤ r1.1.1) && decide (r1.1.1 ≤ (List.length a1 : Int)) && decide ((List.length a1 : Int) ≤ (List.length a1 : Int))) then
              Option.bind (catS r8 (cut a1 r1.1.1 (List.length a1 : Int))) fun r10 =>
              some ((r10, ()), ((a0.1, r5.2.1.2), ()))
            else none
          else none
        else
          bif decide (r5.1.1 = 1) then
            bif (decide ((0 : Int) ≤ 0) && decide ((0 : Int) ≤ r1.1.1) && decide (r1.1.1 ≤ (List.length a1 : Int))) then
              Option.bind (catS (cut a1 0 r1.1.1) (cut (cut a2 r2.1.1 (List.length a2 : Int)) 0 1)) fun r9 =>
              bif (decide ((0 : Int) ≤ (IntKind.wrap .i64 (r1.1.1 + 1))) && decide ((IntKind.wrap .i64 (r1.1.1 + 1)) ≤ (List.length a1 : Int)) && decide ((List.length a1 : Int) ≤ (List.length a1 : Int))) then
                Option.bind (catS r9 (cut a1 (IntKind.wrap .i64 (r1.1.1 + 1)) (List.length a1 : Int))) fun r11 =>
                some ((r11, ()), ((a0.1, r5.2.1.2), ()))
              else none
            else none
          else
            bif (decide ((0 : Int) ≤ 0) && decide ((0 : Int) ≤ r1.1.1) && decide (r1.1.1 ≤ (List.length a1 : Int))) then
              bif (decide ((0 : Int) ≤ (IntKind.wrap .i64 (r1.1.1 + 1))) && decide ((IntKind.wrap .i64 (r1.1.1 + 1)) ≤ (List.length a1 : Int)) && decide ((List.length a1 : Int) ≤ (List.length a1 : Int))) then
                Option.bind (catS (cut a1 0 r1.1.1) (cut a1 (IntKind.wrap .i64 (r1.1.1 + 1)) (List.length a1 : Int))) fun r10 =>
                some ((r10, ()), ((a0.1, r5.2.1.2), ()))
              else none
            else none
      else none
    else none := by
  rewrite [h_l1Cur_spoilt]
  kernel_rfl

/- 42: (*loop.example/g01166/spec.l1Cur).anyLog -/
abbrev As_l1Cur_anyLog : List ATy := [.lptr T_l1Cur]
abbrev R_l1Cur_anyLog : List (Bool × Ty) := [(true, T_Log)]
abbrev M_l1Cur_anyLog : List RMode := []
abbrev Ft_l1Cur_anyLog : Type := D_l1Cur × Unit → Option ((D_Log × Unit) × (D_l1Cur × Unit))
noncomputable def X_l1Cur_anyLog (n : Nat) (F_l1Cur_pick : Ft_l1Cur_pick) (F_l1Cur_log12 : Ft_l1Cur_log12) (F_l1Cur_spoilt : Ft_l1Cur_spoilt) : Ctx := { types := TT, globals := [], con := [], mcon := [(44, ⟨As_l1Cur_pick, R_l1Cur_pick, M_l1Cur_pick, F_l1Cur_pick⟩), (50, ⟨As_l1Cur_log12, R_l1Cur_log12, M_l1Cur_log12, F_l1Cur_log12⟩), (51, ⟨As_l1Cur_spoilt, R_l1Cur_spoilt, M_l1Cur_spoilt, F_l1Cur_spoilt⟩)], keep := [], results := [.cell 2 27], ntmps := 30, n := n }
noncomputable def B_l1Cur_anyLog : Code := (Tryd.f42.body).getD .skip
noncomputable def P_l1Cur_anyLog : Ft_l1Cur_anyLog := hid (runFM (X_l1Cur_anyLog N P_l1Cur_pick P_l1Cur_log12 P_l1Cur_spoilt) B_l1Cur_anyLog As_l1Cur_anyLog R_l1Cur_anyLog M_l1Cur_anyLog)
theorem h_l1Cur_anyLog : P_l1Cur_anyLog = runFM (X_l1Cur_anyLog N P_l1Cur_pick P_l1Cur_log12 P_l1Cur_spoilt) B_l1Cur_anyLog As_l1Cur_anyLog R_l1Cur_anyLog M_l1Cur_anyLog := hid_eq _
noncomputable def C_l1Cur_anyLog : MContract := ⟨As_l1Cur_anyLog, R_l1Cur_anyLog, M_l1Cur_anyLog, P_l1Cur_anyLog⟩
theorem s_l1Cur_anyLog : SoundM Tryd.prog n0 GG 42 C_l1Cur_anyLog := by
  unfold C_l1Cur_anyLog; rw [h_l1Cur_anyLog]
  exact sound_of_runM (fn := Tryd.f42) hmix hstable (tyOK_of ttOK) (hglob (X_l1Cur_anyLog N P_l1Cur_pick P_l1Cur_log12 P_l1Cur_spoilt)) (conOK_of (X := X_l1Cur_anyLog N P_l1Cur_pick P_l1Cur_log12 P_l1Cur_spoilt) trivial) (mconOK_of (X := X_l1Cur_anyLog N P_l1Cur_pick P_l1Cur_log12 P_l1Cur_spoilt) ⟨s_l1Cur_pick, s_l1Cur_log12, s_l1Cur_spoilt, trivial⟩) (by kernel_rfl) (by kernel_rfl) (by kernel_rfl) (by kernel_rfl) (by kernel_rfl) (of_decide_eq_true (by kernel_rfl)) (by kernel_rfl) (by rfl)
theorem p_l1Cur_anyLog (a0 : D_l1Cur) : P_l1Cur_anyLog (a0, ()) = 
  Option.bind (P_l1Cur_log12 (a0, ())) fun r0 =>
  Option.bind (P_l1Cur_pick ((a0.1, r0.2.1.2), 24, ())) fun r1 =>
  bif decide (r1.1.1 = 0) then
    some (((r0.1.1.1, (r0.1.1.2.1, ((IntKind.wrap .i64 (r0.1.1.2.2.1 + 1)), ()))), ()), ((a0.1, r1.2.1.2), ()))
  else
    bif decide (r1.1.1 = 1) then
      Option.bind (P_l1Cur_spoilt ((a0.1, r1.2.1.2), r0.1.1.2.1, ([35, 64, 10, 48, 49] : List UInt8), ())) fun r4 =>
      some (((r0.1.1.1, (r4.1.1, r0.1.1.2.2)), ()), ((a0.1, r4.2.1.2), ()))
    else
      bif decide (r1.1.1 = 2) then
        Option.bind (catS r0.1.1.1 r0.1.1.2.1) fun r5 =>
        some (((r5, r0.1.1.2), ()), ((a0.1, r1.2.1.2), ()))
      else
        some ((r0.1.1, ()), ((a0.1, r1.2.1.2), ())) := by
  rewrite [h_l1Cur_anyLog]
  kernel_rfl

/- 16: loop.example/g01166/spec.DrawIsValidLog -/
abbrev As_spec_DrawIsValidLog : List ATy := [.data false (.sl (.int .u8))]
abbrev R_spec_DrawIsValidLog : List (Bool × Ty) := [(true, T_Log)]
abbrev M_spec_DrawIsValidLog : List RMode := []
abbrev Ft_spec_DrawIsValidLog : Type := (List Int) × Unit → Option (D_Log × Unit)
noncomputable def X_spec_DrawIsValidLog (n : Nat) (F_l1Cur_anyLog : Ft_l1Cur_anyLog) : Ctx := { types := TT, globals := [], con := [], mcon := [(42, ⟨As_l1Cur_anyLog, R_l1Cur_anyLog, M_l1Cur_anyLog, F_l1Cur_anyLog⟩)], keep := [], results := [.cell 2 27], ntmps := 9, n := n }
noncomputable def B_spec_DrawIsValidLog : Code := (Tryd.f16.body).getD .skip
noncomputable def P_spec_DrawIsValidLog : Ft_spec_DrawIsValidLog := hid (runF (X_spec_DrawIsValidLog N P_l1Cur_anyLog) B_spec_DrawIsValidLog As_spec_DrawIsValidLog R_spec_DrawIsValidLog M_spec_DrawIsValidLog)
theorem h_spec_DrawIsValidLog : P_spec_DrawIsValidLog = runF (X_spec_DrawIsValidLog N P_l1Cur_anyLog) B_spec_DrawIsValidLog As_spec_DrawIsValidLog R_spec_DrawIsValidLog M_spec_DrawIsValidLog := hid_eq _
noncomputable def C_spec_DrawIsValidLog : Contract := ⟨As_spec_DrawIsValidLog, R_spec_DrawIsValidLog, M_spec_DrawIsValidLog, P_spec_DrawIsValidLog⟩
theorem s_spec_DrawIsValidLog : Sound Tryd.prog GG 16 C_spec_DrawIsValidLog := by
  unfold C_spec_DrawIsValidLog; rw [h_spec_DrawIsValidLog]
  exact sound_of_run (fn := Tryd.f16) hmix hstable (tyOK_of ttOK) (hglob (X_spec_DrawIsValidLog N P_l1Cur_anyLog)) (conOK_of (X := X_spec_DrawIsValidLog N P_l1Cur_anyLog) trivial) (mconOK_of (X := X_spec_DrawIsValidLog N P_l1Cur_anyLog) ⟨s_l1Cur_anyLog, trivial⟩) (by kernel_rfl) (by kernel_rfl) (by kernel_rfl) (by kernel_rfl) (by kernel_rfl) (of_decide_eq_true (by kernel_rfl))
theorem p_spec_DrawIsValidLog (a0 : List Int) : P_spec_DrawIsValidLog (a0, ()) = 
  Option.bind (P_l1Cur_anyLog ((a0, (0, (0, ()))), ())) fun r0 =>
  some (r0.1.1, ()) := by
  rewrite [h_spec_DrawIsValidLog]
  kernel_rfl

/- 17: loop.example/g01166/spec.DrawAppendRecord -/
abbrev As_spec_DrawAppendRecord : List ATy := [.data false (.sl (.int .u8))]
abbrev R_spec_DrawAppendRecord : List (Bool × Ty) := [(true, T_Log), (true, T_LogRecord)]
abbrev M_spec_DrawAppendRecord : List RMode := []
abbrev Ft_spec_DrawAppendRecord : Type := (List Int) × Unit → Option (D_Log × D_LogRecord × Unit)
noncomputable def X_spec_DrawAppendRecord (n : Nat) (F_spec_AppendRecord : Ft_spec_AppendRecord) (F_l1Cur_logRecord : Ft_l1Cur_logRecord) (F_l1Cur_anyLog : Ft_l1Cur_anyLog) (F_l1Cur_one : Ft_l1Cur_one) (F_l1Cur_pick : Ft_l1Cur_pick) : Ctx := { types := TT, globals := [], con := [(19, ⟨As_spec_AppendRecord, R_spec_AppendRecord, M_spec_AppendRecord, F_spec_AppendRecord⟩)], mcon := [(36, ⟨As_l1Cur_logRecord, R_l1Cur_logRecord, M_l1Cur_logRecord, F_l1Cur_logRecord⟩), (42, ⟨As_l1Cur_anyLog, R_l1Cur_anyLog, M_l1Cur_anyLog, F_l1Cur_anyLog⟩), (43, ⟨As_l1Cur_one, R_l1Cur_one, M_l1Cur_one, F_l1Cur_one⟩), (44, ⟨As_l1Cur_pick, R_l1Cur_pick, M_l1Cur_pick, F_l1Cur_pick⟩)], keep := [(6, ⟨[.box 2, .box 3, .box 5, .box 9, .tmp 2, .tmp 3, .tmp 4, .tmp 5, .tmp 6], []⟩)], results := [.cell 2 27, .cell 3 33], ntmps := 31, n := n }
noncomputable def B_spec_DrawAppendRecord : Code := (Tryd.f17.body).getD .skip
noncomputable def L_spec_DrawAppendRecord_6 (n : Nat) (F_spec_AppendRecord : Ft_spec_AppendRecord) (F_l1Cur_logRecord : Ft_l1Cur_logRecord) (F_l1Cur_anyLog : Ft_l1Cur_anyLog) (F_l1Cur_one : Ft_l1Cur_one) (F_l1Cur_pick : Ft_l1Cur_pick) (m0 : Nat) (p0 : List UInt8) (p1 : List UInt8) (p2 : Int) (p3 : List UInt8) (p4 : List UInt8) (p5 : List UInt8) (p6 : List UInt8) (p7 : Int) (p8 : List Int) (p9 : Int) (p10 : Int) (p11 : Int) : Option (denL R_spec_DrawAppendRecord) := loopF (X_spec_DrawAppendRecord n F_spec_AppendRecord F_l1Cur_logRecord F_l1Cur_anyLog F_l1Cur_one F_l1Cur_pick) B_spec_DrawAppendRecord R_spec_DrawAppendRecord M_spec_DrawAppendRecord 6 [m0] [(.ver, .num 1), (.box 2, .box 0 false [.str p0, .str p1, .int .i64 p2]), (.box 3, .box 0 false [.str p3, .str p4]), (.box 5, .box 0 false [.str p5, .str p6, .int .i64 p7]), (.box 9, .box 0 false [.imm (.int .u8) p8 (some 0), .int .i64 p9, .int .u64 p10]), (.tmp 2, .val false [.addr 2 0 0]), (.tmp 3, .val false [.addr 3 0 0]), (.tmp 4, .val false [.addr 9 0 0]), (.tmp 5, .val false [.addr 5 0 0]), (.tmp 6, .val false [.int .i64 p11])]
noncomputable def P_spec_DrawAppendRecord : Ft_spec_DrawAppendRecord := hid (runF (X_spec_DrawAppendRecord N P_spec_AppendRecord P_l1Cur_logRecord P_l1Cur_anyLog P_l1Cur_one P_l1Cur_pick) B_spec_DrawAppendRecord As_spec_DrawAppendRecord R_spec_DrawAppendRecord M_spec_DrawAppendRecord)
theorem h_spec_DrawAppendRecord : P_spec_DrawAppendRecord = runF (X_spec_DrawAppendRecord N P_spec_AppendRecord P_l1Cur_logRecord P_l1Cur_anyLog P_l1Cur_one P_l1Cur_pick) B_spec_DrawAppendRecord As_spec_DrawAppendRecord R_spec_DrawAppendRecord M_spec_DrawAppendRecord := hid_eq _
noncomputable def C_spec_DrawAppendRecord : Contract := ⟨As_spec_DrawAppendRecord, R_spec_DrawAppendRecord, M_spec_DrawAppendRecord, P_spec_DrawAppendRecord⟩
theorem s_spec_DrawAppendRecord : Sound Tryd.prog GG 17 C_spec_DrawAppendRecord := by
  unfold C_spec_DrawAppendRecord; rw [h_spec_DrawAppendRecord]
  exact sound_of_run (fn := Tryd.f17) hmix hstable (tyOK_of ttOK) (hglob (X_spec_DrawAppendRecord N P_spec_AppendRecord P_l1Cur_logRecord P_l1Cur_anyLog P_l1Cur_one P_l1Cur_pick)) (conOK_of (X := X_spec_DrawAppendRecord N P_spec_AppendRecord P_l1Cur_logRecord P_l1Cur_anyLog P_l1Cur_one P_l1Cur_pick) ⟨s_spec_AppendRecord, trivial⟩) (mconOK_of (X := X_spec_DrawAppendRecord N P_spec_AppendRecord P_l1Cur_logRecord P_l1Cur_anyLog P_l1Cur_one P_l1Cur_pick) ⟨s_l1Cur_logRecord, s_l1Cur_anyLog, s_l1Cur_one, s_l1Cur_pick, trivial⟩) (by kernel_rfl) (by kernel_rfl) (by kernel_rfl) (by kernel_rfl) (by kernel_rfl) (of_decide_eq_true (by kernel_rfl))
noncomputable def l_spec_DrawAppendRecord_6 : Nat → (List UInt8) → (List UInt8) → Int → (List UInt8) → (List UInt8) → (List UInt8) → (List UInt8) → Int → (List Int) → Int → Int → Int → Option (denL R_spec_DrawAppendRecord) := hid (fun m0 p0 p1 p2 p3 p4 p5 p6 p7 p8 p9 p10 p11 => L_spec_DrawAppendRecord_6 N P_spec_AppendRecord P_l1Cur_logRecord P_l1Cur_anyLog P_l1Cur_one P_l1Cur_pick m0 p0 p1 p2 p3 p4 p5 p6 p7 p8 p9 p10 p11)
theorem h_spec_DrawAppendRecord_6 : l_spec_DrawAppendRecord_6 = fun m0 p0 p1 p2 p3 p4 p5 p6 p7 p8 p9 p10 p11 => L_spec_DrawAppendRecord_6 N P_spec_AppendRecord P_l1Cur_logRecord P_l1Cur_anyLog P_l1Cur_one P_l1Cur_pick m0 p0 p1 p2 p3 p4 p5 p6 p7 p8 p9 p10 p11 := hid_eq _
theorem p_spec_DrawAppendRecord (a0 : List Int) : P_spec_DrawAppendRecord (a0, ()) = 
  Option.bind (P_l1Cur_anyLog ((a0, (0, (0, ()))), ())) fun r0 =>
  Option.bind (P_l1Cur_one ((a0, r0.2.1.2), 40, ())) fun r1 =>
  bif r1.1.1 then
    Option.bind (P_l1Cur_pick ((a0, r1.2.1.2), 2, ())) fun r3 =>
    l_spec_DrawAppendRecord_6 N ([] : List UInt8) ([] : List UInt8) 0 ([] : List UInt8) ([] : List UInt8) ([] : List UInt8) ([] : List UInt8) 0 a0 r3.2.1.2.1 r3.2.1.2.2.1 (IntKind.wrap .i64 (59 + r3.1.1))
  else
    Option.bind (P_l1Cur_logRecord ((a0, r1.2.1.2), ())) fun r3 =>
    some (r0.1.1, r3.1.1, ()) := by
  rewrite [h_spec_DrawAppendRecord, h_spec_DrawAppendRecord_6]
  kernel_rfl
theorem q_spec_DrawAppendRecord_6 (m0 : Nat) (p0 : List UInt8) (p1 : List UInt8) (p2 : Int) (p3 : List UInt8) (p4 : List UInt8) (p5 : List UInt8) (p6 : List UInt8) (p7 : Int) (p8 : List Int) (p9 : Int) (p10 : Int) (p11 : Int) : l_spec_DrawAppendRecord_6 (m0 + 1) p0 p1 p2 p3 p4 p5 p6 p7 p8 p9 p10 p11 = 
  bif decide (p11 > 0) then
    Option.bind (P_spec_AppendRecord ((p5, (p6, (p7, ()))), (([120] : List UInt8), (([] : List UInt8), ())), ())) fun r1 =>
    l_spec_DrawAppendRecord_6 m0 p0 p1 p2 p3 p4 r1.1.1 r1.1.2.1 r1.1.2.2.1 p8 p9 p10 (IntKind.wrap .i64 (p11 - 1))
  else
    Option.bind (P_l1Cur_logRecord ((p8, (p9, (p10, ()))), ())) fun r1 =>
    some ((p5, (p6, (p7, ()))), r1.1.1, ()) := by
  rewrite [h_spec_DrawAppendRecord_6]
  kernel_rfl

/- 18: loop.example/g01166/impl.AppendRecord -/
abbrev As_impl_AppendRecord : List ATy := [.data true T_Log, .data true T_LogRecord]
abbrev R_impl_AppendRecord : List (Bool × Ty) := [(true, T_Log), (false, (.int .i64))]
abbrev M_impl_AppendRecord : List RMode := []
abbrev Ft_impl_AppendRecord : Type := D_Log × D_LogRecord × Unit → Option (D_Log × Int × Unit)
noncomputable def X_impl_AppendRecord (n : Nat) (F_impl_EncodeRecord : Ft_impl_EncodeRecord) (F_impl_IsValidRecord : Ft_impl_IsValidRecord) (F_impl_IsValidLog : Ft_impl_IsValidLog) : Ctx := { types := TT, globals := [], con := [(14, ⟨As_impl_EncodeRecord, R_impl_EncodeRecord, M_impl_EncodeRecord, F_impl_EncodeRecord⟩), (20, ⟨As_impl_IsValidRecord, R_impl_IsValidRecord, M_impl_IsValidRecord, F_impl_IsValidRecord⟩), (22, ⟨As_impl_IsValidLog, R_impl_IsValidLog, M_impl_IsValidLog, F_impl_IsValidLog⟩)], keep := [], results := [.cell 4 27, .tmp 5], ntmps := 37, n := n }
noncomputable def B_impl_AppendRecord : Code := (Tryd.f18.body).getD .skip
noncomputable def P_impl_AppendRecord : Ft_impl_AppendRecord := hid (runF (X_impl_AppendRecord N P_impl_EncodeRecord P_impl_IsValidRecord P_impl_IsValidLog) B_impl_AppendRecord As_impl_AppendRecord R_impl_AppendRecord M_impl_AppendRecord)
theorem h_impl_AppendRecord : P_impl_AppendRecord = runF (X_impl_AppendRecord N P_impl_EncodeRecord P_impl_IsValidRecord P_impl_IsValidLog) B_impl_AppendRecord As_impl_AppendRecord R_impl_AppendRecord M_impl_AppendRecord := hid_eq _
noncomputable def C_impl_AppendRecord : Contract := ⟨As_impl_AppendRecord, R_impl_AppendRecord, M_impl_AppendRecord, P_impl_AppendRecord⟩
theorem s_impl_AppendRecord : Sound Tryd.prog GG 18 C_impl_AppendRecord := by
  unfold C_impl_AppendRecord; rw [h_impl_AppendRecord]
  exact sound_of_run (fn := Tryd.f18) hmix hstable (tyOK_of ttOK) (hglob (X_impl_AppendRecord N P_impl_EncodeRecord P_impl_IsValidRecord P_impl_IsValidLog)) (conOK_of (X := X_impl_AppendRecord N P_impl_EncodeRecord P_impl_IsValidRecord P_impl_IsValidLog) ⟨s_impl_EncodeRecord, s_impl_IsValidRecord, s_impl_IsValidLog, trivial⟩) (mconOK_of (X := X_impl_AppendRecord N P_impl_EncodeRecord P_impl_IsValidRecord P_impl_IsValidLog) trivial) (by kernel_rfl) (by kernel_rfl) (by kernel_rfl) (by kernel_rfl) (by kernel_rfl) (of_decide_eq_true (by kernel_rfl))
theorem p_impl_AppendRecord (a0 : D_Log) (a1 : D_LogRecord) : P_impl_AppendRecord (a0, a1, ()) = 
  Option.bind (P_impl_IsValidLog (a0, ())) fun r0 =>
  bif !r0.1 then
    some (a0, 1, ())
  else
    Option.bind (P_impl_IsValidRecord (a1, ())) fun r2 =>
    bif !r2.1 then
      some (a0, 1, ())
    else
      Option.bind (P_impl_EncodeRecord (a0.2.2.1, a1, ())) fun r4 =>
      bif !r4.2.1 then
        some (a0, 2, ())
      else
        Option.bind (catS a0.2.1 r4.1) fun r6 =>
        some ((a0.1, (r6, ((IntKind.wrap .i64 (a0.2.2.1 + 1)), ()))), 0, ()) := by
  rewrite [h_impl_AppendRecord]
  kernel_rfl

/- 21: loop.example/g01166/spec.IsValidRecord -/
abbrev As_spec_IsValidRecord : List ATy := [.data true T_LogRecord]
abbrev R_spec_IsValidRecord : List (Bool × Ty) := [(false, .bool)]
abbrev M_spec_IsValidRecord : List RMode := []
abbrev Ft_spec_IsValidRecord : Type := D_LogRecord × Unit → Option (Bool × Unit)
noncomputable def X_spec_IsValidRecord (n : Nat) (F_spec_l12Record : Ft_spec_l12Record) : Ctx := { types := TT, globals := [], con := [(40, ⟨As_spec_l12Record, R_spec_l12Record, M_spec_l12Record, F_spec_l12Record⟩)], keep := [], results := [.tmp 2], ntmps := 5, n := n }
noncomputable def B_spec_IsValidRecord : Code := (Tryd.f21.body).getD .skip
noncomputable def P_spec_IsValidRecord : Ft_spec_IsValidRecord := hid (runF (X_spec_IsValidRecord N P_spec_l12Record) B_spec_IsValidRecord As_spec_IsValidRecord R_spec_IsValidRecord M_spec_IsValidRecord)
theorem h_spec_IsValidRecord : P_spec_IsValidRecord = runF (X_spec_IsValidRecord N P_spec_l12Record) B_spec_IsValidRecord As_spec_IsValidRecord R_spec_IsValidRecord M_spec_IsValidRecord := hid_eq _
noncomputable def C_spec_IsValidRecord : Contract := ⟨As_spec_IsValidRecord, R_spec_IsValidRecord, M_spec_IsValidRecord, P_spec_IsValidRecord⟩
theorem s_spec_IsValidRecord : Sound Tryd.prog GG 21 C_spec_IsValidRecord := by
  unfold C_spec_IsValidRecord; rw [h_spec_IsValidRecord]
  exact sound_of_run (fn := Tryd.f21) hmix hstable (tyOK_of ttOK) (hglob (X_spec_IsValidRecord N P_spec_l12Record)) (conOK_of (X := X_spec_IsValidRecord N P_spec_l12Record) ⟨s_spec_l12Record, trivial⟩) (mconOK_of (X := X_spec_IsValidRecord N P_spec_l12Record) trivial) (by kernel_rfl) (by kernel_rfl) (by kernel_rfl) (by kernel_rfl) (by kernel_rfl) (of_decide_eq_true (by kernel_rfl))
theorem p_spec_IsValidRecord (a0 : D_LogRecord) : P_spec_IsValidRecord (a0, ()) = 
  Option.bind (P_spec_l12Record (a0, ())) fun r0 =>
  some (r0.1, ()) := by
  rewrite [h_spec_IsValidRecord]
  kernel_rfl

/- 23: loop.example/g01166/spec.IsValidLog -/
abbrev As_spec_IsValidLog : List ATy := [.data true T_Log]
abbrev R_spec_IsValidLog : List (Bool × Ty) := [(false, .bool)]
abbrev M_spec_IsValidLog : List RMode := []
abbrev Ft_spec_IsValidLog : Type := D_Log × Unit → Option (Bool × Unit)
noncomputable def X_spec_IsValidLog (n : Nat) (F_spec_l12Valid : Ft_spec_l12Valid) : Ctx := { types := TT, globals := [], con := [(33, ⟨As_spec_l12Valid, R_spec_l12Valid, M_spec_l12Valid, F_spec_l12Valid⟩)], keep := [], results := [.tmp 2], ntmps := 5, n := n }
noncomputable def B_spec_IsValidLog : Code := (Tryd.f23.body).getD .skip
noncomputable def P_spec_IsValidLog : Ft_spec_IsValidLog := hid (runF (X_spec_IsValidLog N P_spec_l12Valid) B_spec_IsValidLog As_spec_IsValidLog R_spec_IsValidLog M_spec_IsValidLog)
theorem h_spec_IsValidLog : P_spec_IsValidLog = runF (X_spec_IsValidLog N P_spec_l12Valid) B_spec_IsValidLog As_spec_IsValidLog R_spec_IsValidLog M_spec_IsValidLog := hid_eq _
noncomputable def C_spec_IsValidLog : Contract := ⟨As_spec_IsValidLog, R_spec_IsValidLog, M_spec_IsValidLog, P_spec_IsValidLog⟩
theorem s_spec_IsValidLog : Sound Tryd.prog GG 23 C_spec_IsValidLog := by
  unfold C_spec_IsValidLog; rw [h_spec_IsValidLog]
  exact sound_of_run (fn := Tryd.f23) hmix hstable (tyOK_of ttOK) (hglob (X_spec_IsValidLog N P_spec_l12Valid)) (conOK_of (X := X_spec_IsValidLog N P_spec_l12Valid) ⟨s_spec_l12Valid, trivial⟩) (mconOK_of (X := X_spec_IsValidLog N P_spec_l12Valid) trivial) (by kernel_rfl) (by kernel_rfl) (by kernel_rfl) (by kernel_rfl) (by kernel_rfl) (of_decide_eq_true (by kernel_rfl))
theorem p_spec_IsValidLog (a0 : D_Log) : P_spec_IsValidLog (a0, ()) = 
  Option.bind (P_spec_l12Valid (a0, ())) fun r0 =>
  some (r0.1, ()) := by
  rewrite [h_spec_IsValidLog]
  kernel_rfl

/- 24: loop.example/g01166/impl.SyncLog -/
abbrev As_impl_SyncLog : List ATy := [.data true T_Log]
abbrev R_impl_SyncLog : List (Bool × Ty) := [(true, T_Log), (false, .bool)]
abbrev M_impl_SyncLog : List RMode := []
abbrev Ft_impl_SyncLog : Type := D_Log × Unit → Option (D_Log × Bool × Unit)
noncomputable def X_impl_SyncLog (n : Nat) (F_impl_IsValidLog : Ft_impl_IsValidLog) : Ctx := { types := TT, globals := [], con := [(22, ⟨As_impl_IsValidLog, R_impl_IsValidLog, M_impl_IsValidLog, F_impl_IsValidLog⟩)], keep := [], results := [.cell 2 27, .tmp 3], ntmps := 16, n := n }
noncomputable def B_impl_SyncLog : Code := (Tryd.f24.body).getD .skip
noncomputable def P_impl_SyncLog : Ft_impl_SyncLog := hid (runF (X_impl_SyncLog N P_impl_IsValidLog) B_impl_SyncLog As_impl_SyncLog R_impl_SyncLog M_impl_SyncLog)
theorem h_impl_SyncLog : P_impl_SyncLog = runF (X_impl_SyncLog N P_impl_IsValidLog) B_impl_SyncLog As_impl_SyncLog R_impl_SyncLog M_impl_SyncLog := hid_eq _
noncomputable def C_impl_SyncLog : Contract := ⟨As_impl_SyncLog, R_impl_SyncLog, M_impl_SyncLog, P_impl_SyncLog⟩
theorem s_impl_SyncLog : Sound Tryd.prog GG 24 C_impl_SyncLog := by
  unfold C_impl_SyncLog; rw [h_impl_SyncLog]
  exact sound_of_run (fn := Tryd.f24) hmix hstable (tyOK_of ttOK) (hglob (X_impl_SyncLog N P_impl_IsValidLog)) (conOK_of (X := X_impl_SyncLog N P_impl_IsValidLog) ⟨s_impl_IsValidLog, trivial⟩) (mconOK_of (X := X_impl_SyncLog N P_impl_IsValidLog) trivial) (by kernel_rfl) (by kernel_rfl) (by kernel_rfl) (by kernel_rfl) (by kernel_rfl) (of_decide_eq_true (by kernel_rfl))
theorem p_impl_SyncLog (a0 : D_Log) : P_impl_SyncLog (a0, ()) = 
  Option.bind (P_impl_IsValidLog (a0, ())) fun r0 =>
  bif !r0.1 then
    some ((([] : List UInt8), (([] : List UInt8), (0, ()))), false, ())
  else
    Option.bind (catS a0.1 a0.2.1) fun r2 =>
    some ((r2, (([] : List UInt8), a0.2.2)), true, ()) := by
  rewrite [h_impl_SyncLog]
  kernel_rfl

/- 26: loop.example/g01166/impl.LogRecords -/
abbrev As_impl_LogRecords : List ATy := [.data true T_Log]
abbrev R_impl_LogRecords : List (Bool × Ty) := [(false, (.sl T_LogRecord)), (false, .bool)]
abbrev M_impl_LogRecords : List RMode := [.own 33]
abbrev Ft_impl_LogRecords : Type := D_Log × Unit → Option ((List D_LogRecord) × Bool × Unit)
noncomputable def X_impl_LogRecords (n : Nat) (F_impl_IsValidLog : Ft_impl_IsValidLog) (F_impl_readRecords : Ft_impl_readRecords) : Ctx := { types := TT, globals := [], con := [(22, ⟨As_impl_IsValidLog, R_impl_IsValidLog, M_impl_IsValidLog, F_impl_IsValidLog⟩), (47, ⟨As_impl_readRecords, R_impl_readRecords, M_impl_readRecords, F_impl_readRecords⟩)], keep := [], results := [.tmp 2, .tmp 3], ntmps := 19, n := n }
noncomputable def B_impl_LogRecords : Code := (Tryd.f26.body).getD .skip
noncomputable def P_impl_LogRecords : Ft_impl_LogRecords := hid (runF (X_impl_LogRecords N P_impl_IsValidLog P_impl_readRecords) B_impl_LogRecords As_impl_LogRecords R_impl_LogRecords M_impl_LogRecords)
theorem h_impl_LogRecords : P_impl_LogRecords = runF (X_impl_LogRecords N P_impl_IsValidLog P_impl_readRecords) B_impl_LogRecords As_impl_LogRecords R_impl_LogRecords M_impl_LogRecords := hid_eq _
noncomputable def C_impl_LogRecords : Contract := ⟨As_impl_LogRecords, R_impl_LogRecords, M_impl_LogRecords, P_impl_LogRecords⟩
theorem s_impl_LogRecords : Sound Tryd.prog GG 26 C_impl_LogRecords := by
  unfold C_impl_LogRecords; rw [h_impl_LogRecords]
  exact sound_of_run (fn := Tryd.f26) hmix hstable (tyOK_of ttOK) (hglob (X_impl_LogRecords N P_impl_IsValidLog P_impl_readRecords)) (conOK_of (X := X_impl_LogRecords N P_impl_IsValidLog P_impl_readRecords) ⟨s_impl_IsValidLog, s_impl_readRecords, trivial⟩) (mconOK_of (X := X_impl_LogRecords N P_impl_IsValidLog P_impl_readRecords) trivial) (by kernel_rfl) (by kernel_rfl) (by kernel_rfl) (by kernel_rfl) (by kernel_rfl) (of_decide_eq_true (by kernel_rfl))
theorem p_impl_LogRecords (a0 : D_Log) : P_impl_LogRecords (a0, ()) = 
  Option.bind (P_impl_IsValidLog (a0, ())) fun r0 =>
  bif !r0.1 then
    some (([] : List D_LogRecord), false, ())
  else
    Option.bind (catS a0.1 a0.2.1) fun r2 =>
    Option.bind (P_impl_readRecords (r2, ())) fun r3 =>
    some (r3.1, true, ()) := by
  rewrite [h_impl_LogRecords]
  kernel_rfl

/- 27: loop.example/g01166/spec.LogRecords -/
abbrev As_spec_LogRecords : List ATy := [.data true T_Log]
abbrev R_spec_LogRecords : List (Bool × Ty) := [(false, (.sl T_LogRecord)), (false, .bool)]
abbrev M_spec_LogRecords : List RMode := [.own 33]
abbrev Ft_spec_LogRecords : Type := D_Log × Unit → Option ((List D_LogRecord) × Bool × Unit)
noncomputable def X_spec_LogRecords (n : Nat) (F_spec_l12Valid : Ft_spec_l12Valid) (F_spec_l12Open : Ft_spec_l12Open) : Ctx := { types := TT, globals := [], con := [(33, ⟨As_spec_l12Valid, R_spec_l12Valid, M_spec_l12Valid, F_spec_l12Valid⟩), (49, ⟨As_spec_l12Open, R_spec_l12Open, M_spec_l12Open, F_spec_l12Open⟩)], keep := [], results := [.tmp 2, .tmp 3], ntmps := 20, n := n }
noncomputable def B_spec_LogRecords : Code := (Tryd.f27.body).getD .skip
noncomputable def P_spec_LogRecords : Ft_spec_LogRecords := hid (runF (X_spec_LogRecords N P_spec_l12Valid P_spec_l12Open) B_spec_LogRecords As_spec_LogRecords R_spec_LogRecords M_spec_LogRecords)
theorem h_spec_LogRecords : P_spec_LogRecords = runF (X_spec_LogRecords N P_spec_l12Valid P_spec_l12Open) B_spec_LogRecords As_spec_LogRecords R_spec_LogRecords M_spec_LogRecords := hid_eq _
noncomputable def C_spec_LogRecords : Contract := ⟨As_spec_LogRecords, R_spec_LogRecords, M_spec_LogRecords, P_spec_LogRecords⟩
theorem s_spec_LogRecords : Sound Tryd.prog GG 27 C_spec_LogRecords := by
  unfold C_spec_LogRecords; rw [h_spec_LogRecords]
  exact sound_of_run (fn := Tryd.f27) hmix hstable (tyOK_of ttOK) (hglob (X_spec_LogRecords N P_spec_l12Valid P_spec_l12Open)) (conOK_of (X := X_spec_LogRecords N P_spec_l12Valid P_spec_l12Open) ⟨s_spec_l12Valid, s_spec_l12Open, trivial⟩) (mconOK_of (X := X_spec_LogRecords N P_spec_l12Valid P_spec_l12Open) trivial) (by kernel_rfl) (by kernel_rfl) (by kernel_rfl) (by kernel_rfl) (by kernel_rfl) (of_decide_eq_true (by kernel_rfl))
theorem p_spec_LogRecords (a0 : D_Log) : P_spec_LogRecords (a0, ()) = 
  Option.bind (P_spec_l12Valid (a0, ())) fun r0 =>
  bif !r0.1 then
    some (([] : List D_LogRecord), false, ())
  else
    Option.bind (catS a0.1 a0.2.1) fun r2 =>
    Option.bind (P_spec_l12Open (r2, ())) fun r3 =>
    some (r3.1, true, ()) := by
  rewrite [h_spec_LogRecords]
  kernel_rfl

/- 28: loop.example/g01166/laws.vRecords -/
abbrev As_laws_vRecords : List ATy := [.data false (.sl T_LogRecord), .data false (.sl T_LogRecord)]
abbrev R_laws_vRecords : List (Bool × Ty) := [(false, .bool)]
abbrev M_laws_vRecords : List RMode := []
abbrev Ft_laws_vRecords : Type := (List D_LogRecord) × (List D_LogRecord) × Unit → Option (Bool × Unit)
noncomputable def X_laws_vRecords (n : Nat) : Ctx := { types := TT, globals := [], con := [], keep := [(4, ⟨[.tmp 0, .tmp 1, .tmp 5], []⟩)], results := [.tmp 4], ntmps := 26, n := n }
noncomputable def B_laws_vRecords : Code := (Tryd.f28.body).getD .skip
noncomputable def L_laws_vRecords_4 (n : Nat) (m0 : Nat) (p0 : List D_LogRecord) (p1 : List D_LogRecord) (p2 : Int) : Option (denL R_laws_vRecords) := loopF (X_laws_vRecords n) B_laws_vRecords R_laws_vRecords M_laws_vRecords 4 [m0] [(.ver, .num 1), (.tmp 0, .val false [.imm T_LogRecord p0 (some 0)]), (.tmp 1, .val false [.imm T_LogRecord p1 (some 1)]), (.tmp 5, .val false [.int .i64 p2])]
noncomputable def P_laws_vRecords : Ft_laws_vRecords := hid (runF (X_laws_vRecords N) B_laws_vRecords As_laws_vRecords R_laws_vRecords M_laws_vRecords)
theorem h_laws_vRecords : P_laws_vRecords = runF (X_laws_vRecords N) B_laws_vRecords As_laws_vRecords R_laws_vRecords M_laws_vRecords := hid_eq _
noncomputable def C_laws_vRecords : Contract := ⟨As_laws_vRecords, R_laws_vRecords, M_laws_vRecords, P_laws_vRecords⟩
theorem s_laws_vRecords : Sound Tryd.prog GG 28 C_laws_vRecords := by
  unfold C_laws_vRecords; rw [h_laws_vRecords]
  exact sound_of_run (fn := Tryd.f28) hmix hstable (tyOK_of ttOK) (hglob (X_laws_vRecords N)) (conOK_of (X := X_laws_vRecords N) trivial) (mconOK_of (X := X_laws_vRecords N) trivial) (by kernel_rfl) (by kernel_rfl) (by kernel_rfl) (by kernel_rfl) (by kernel_rfl) (of_decide_eq_true (by kernel_rfl))
noncomputable def l_laws_vRecords_4 : Nat → (List D_LogRecord) → (List D_LogRecord) → Int → Option (denL R_laws_vRecords) := hid (fun m0 p0 p1 p2 => L_laws_vRecords_4 N m0 p0 p1 p2)
theorem h_laws_vRecords_4 : l_laws_vRecords_4 = fun m0 p0 p1 p2 => L_laws_vRecords_4 N m0 p0 p1 p2 := hid_eq _
theorem p_laws_vRecords (a0 : List D_LogRecord) (a1 : List D_LogRecord) : P_laws_vRecords (a0, a1, ()) = 
  bif !decide ((List.length a0 : Int) = (List.length a1 : Int)) then
    some (false, ())
  else
    l_laws_vRecords_4 N a0 a1 0 := by
  rewrite [h_laws_vRecords, h_laws_vRecords_4]
  kernel_rfl
theorem q_laws_vRecords_4 (m0 : Nat) (p0 : List D_LogRecord) (p1 : List D_LogRecord) (p2 : Int) : l_laws_vRecords_4 (m0 + 1) p0 p1 p2 = 
  bif decide (p2 < (List.length p0 : Int)) then
    bif inB p2 (List.length p0) then
      bif inB p2 (List.length p1) then
        bif !(((((nth T_LogRecord p0 p2)).1) == (((nth T_LogRecord p1 p2)).1)) && ((((((nth T_LogRecord p0 p2)).2).1) == ((((nth T_LogRecord p1 p2)).2).1)) && true)) then
          some (false, ())
        else
          l_laws_vRecords_4 m0 p0 p1 (IntKind.wrap .i64 (p2 + 1))
      else none
    else none
  else
    some (true, ()) := by
  rewrite [h_laws_vRecords_4]
  kernel_rfl

/- 4: loop.example/g01166/laws.FnLogs -/
abbrev As_laws_FnLogs : List ATy := [.data false (.sl (.int .u8))]
abbrev R_laws_FnLogs : List (Bool × Ty) := [(false, .bool)]
abbrev M_laws_FnLogs : List RMode := []
abbrev Ft_laws_FnLogs : Type := (List Int) × Unit → Option (Bool × Unit)
noncomputable def X_laws_FnLogs (n : Nat) (F_laws_vBig : Ft_laws_vBig) (F_spec_DrawIsValidRecord : Ft_spec_DrawIsValidRecord) (F_spec_DrawEncodeRecord : Ft_spec_DrawEncodeRecord) (F_laws_vCut : Ft_laws_vCut) (F_impl_EncodeRecord : Ft_impl_EncodeRecord) (F_spec_EncodeRecord : Ft_spec_EncodeRecord) (F_spec_DrawIsValidLog : Ft_spec_DrawIsValidLog) (F_spec_DrawAppendRecord : Ft_spec_DrawAppendRecord) (F_impl_AppendRecord : Ft_impl_AppendRecord) (F_spec_AppendRecord : Ft_spec_AppendRecord) (F_impl_IsValidRecord : Ft_impl_IsValidRecord) (F_spec_IsValidRecord : Ft_spec_IsValidRecord) (F_impl_IsValidLog : Ft_impl_IsValidLog) (F_spec_IsValidLog : Ft_spec_IsValidLog) (F_impl_SyncLog : Ft_impl_SyncLog) (F_spec_SyncLog : Ft_spec_SyncLog) (F_impl_LogRecords : Ft_impl_LogRecords) (F_spec_LogRecords : Ft_spec_LogRecords) (F_laws_vRecords : Ft_laws_vRecords) : Ctx := { types := TT, globals := [], con := [(10, ⟨As_laws_vBig, R_laws_vBig, M_laws_vBig, F_laws_vBig⟩), (11, ⟨As_spec_DrawIsValidRecord, R_spec_DrawIsValidRecord, M_spec_DrawIsValidRecord, F_spec_DrawIsValidRecord⟩), (12, ⟨As_spec_DrawEncodeRecord, R_spec_DrawEncodeRecord, M_spec_DrawEncodeRecord, F_spec_DrawEncodeRecord⟩), (13, ⟨As_laws_vCut, R_laws_vCut, M_laws_vCut, F_laws_vCut⟩), (14, ⟨As_impl_EncodeRecord, R_impl_EncodeRecord, M_impl_EncodeRecord, F_impl_EncodeRecord⟩), (15, ⟨As_spec_EncodeRecord, R_spec_EncodeRecord, M_spec_EncodeRecord, F_spec_EncodeRecord⟩), (16, ⟨As_spec_DrawIsValidLog, R_spec_DrawIsValidLog, M_spec_DrawIsValidLog, F_spec_DrawIsValidLog⟩), (17, ⟨As_spec_DrawAppendRecord, R_spec_DrawAppendRecord, M_spec_DrawAppendRecord, F_spec_DrawAppendRecord⟩), (18, ⟨As_impl_AppendRecord, R_impl_AppendRecord, M_impl_AppendRecord, F_impl_AppendRecord⟩), (19, ⟨As_spec_AppendRecord, R_spec_AppendRecord, M_spec_AppendRecord, F_spec_AppendRecord⟩), (20, ⟨As_impl_IsValidRecord, R_impl_IsValidRecord, M_impl_IsValidRecord, F_impl_IsValidRecord⟩), (21, ⟨As_spec_IsValidRecord, R_spec_IsValidRecord, M_spec_IsValidRecord, F_spec_IsValidRecord⟩), (22, ⟨As_impl_IsValidLog, R_impl_IsValidLog, M_impl_IsValidLog, F_impl_IsValidLog⟩), (23, ⟨As_spec_IsValidLog, R_spec_IsValidLog, M_spec_IsValidLog, F_spec_IsValidLog⟩), (24, ⟨As_impl_SyncLog, R_impl_SyncLog, M_impl_SyncLog, F_impl_SyncLog⟩), (25, ⟨As_spec_SyncLog, R_spec_SyncLog, M_spec_SyncLog, F_spec_SyncLog⟩), (26, ⟨As_impl_LogRecords, R_impl_LogRecords, M_impl_LogRecords, F_impl_LogRecords⟩), (27, ⟨As_spec_LogRecords, R_spec_LogRecords, M_spec_LogRecords, F_spec_LogRecords⟩), (28, ⟨As_laws_vRecords, R_laws_vRecords, M_laws_vRecords, F_laws_vRecords⟩)], keep := [], results := [.tmp 2], ntmps := 192, n := n }
noncomputable def B_laws_FnLogs : Code := (Tryd.f4.body).getD .skip
noncomputable def P_laws_FnLogs : Ft_laws_FnLogs := hid (runF (X_laws_FnLogs N P_laws_vBig P_spec_DrawIsValidRecord P_spec_DrawEncodeRecord P_laws_vCut P_impl_EncodeRecord P_spec_EncodeRecord P_spec_DrawIsValidLog P_spec_DrawAppendRecord P_impl_AppendRecord P_spec_AppendRecord P_impl_IsValidRecord P_spec_IsValidRecord P_impl_IsValidLog P_spec_IsValidLog P_impl_SyncLog P_spec_SyncLog P_impl_LogRecords P_spec_LogRecords P_laws_vRecords) B_laws_FnLogs As_laws_FnLogs R_laws_FnLogs M_laws_FnLogs)
theorem h_laws_FnLogs : P_laws_FnLogs = runF (X_laws_FnLogs N P_laws_vBig P_spec_DrawIsValidRecord P_spec_DrawEncodeRecord P_laws_vCut P_impl_EncodeRecord P_spec_EncodeRecord P_spec_DrawIsValidLog P_spec_DrawAppendRecord P_impl_AppendRecord P_spec_AppendRecord P_impl_IsValidRecord P_spec_IsValidRecord P_impl_IsValidLog P_spec_IsValidLog P_impl_SyncLog P_spec_SyncLog P_impl_LogRecords P_spec_LogRecords P_laws_vRecords) B_laws_FnLogs As_laws_FnLogs R_laws_FnLogs M_laws_FnLogs := hid_eq _
noncomputable def C_laws_FnLogs : Contract := ⟨As_laws_FnLogs, R_laws_FnLogs, M_laws_FnLogs, P_laws_FnLogs⟩
theorem s_laws_FnLogs : Sound Tryd.prog GG 4 C_laws_FnLogs := by
  unfold C_laws_FnLogs; rw [h_laws_FnLogs]
  exact sound_of_run (fn := Tryd.f4) hmix hstable (tyOK_of ttOK) (hglob (X_laws_FnLogs N P_laws_vBig P_spec_DrawIsValidRecord P_spec_DrawEncodeRecord P_laws_vCut P_impl_EncodeRecord P_spec_EncodeRecord P_spec_DrawIsValidLog P_spec_DrawAppendRecord P_impl_AppendRecord P_spec_AppendRecord P_impl_IsValidRecord P_spec_IsValidRecord P_impl_IsValidLog P_spec_IsValidLog P_impl_SyncLog P_spec_SyncLog P_impl_LogRecords P_spec_LogRecords P_laws_vRecords)) (conOK_of (X := X_laws_FnLogs N P_laws_vBig P_spec_DrawIsValidRecord P_spec_DrawEncodeRecord P_laws_vCut P_impl_EncodeRecord P_spec_EncodeRecord P_spec_DrawIsValidLog P_spec_DrawAppendRecord P_impl_AppendRecord P_spec_AppendRecord P_impl_IsValidRecord P_spec_IsValidRecord P_impl_IsValidLog P_spec_IsValidLog P_impl_SyncLog P_spec_SyncLog P_impl_LogRecords P_spec_LogRecords P_laws_vRecords) ⟨s_laws_vBig, s_spec_DrawIsValidRecord, s_spec_DrawEncodeRecord, s_laws_vCut, s_impl_EncodeRecord, s_spec_EncodeRecord, s_spec_DrawIsValidLog, s_spec_DrawAppendRecord, s_impl_AppendRecord, s_spec_AppendRecord, s_impl_IsValidRecord, s_spec_IsValidRecord, s_impl_IsValidLog, s_spec_IsValidLog, s_impl_SyncLog, s_spec_SyncLog, s_impl_LogRecords, s_spec_LogRecords, s_laws_vRecords, trivial⟩) (mconOK_of (X := X_laws_FnLogs N P_laws_vBig P_spec_DrawIsValidRecord P_spec_DrawEncodeRecord P_laws_vCut P_impl_EncodeRecord P_spec_EncodeRecord P_spec_DrawIsValidLog P_spec_DrawAppendRecord P_impl_AppendRecord P_spec_AppendRecord P_impl_IsValidRecord P_spec_IsValidRecord P_impl_IsValidLog P_spec_IsValidLog P_impl_SyncLog P_spec_SyncLog P_impl_LogRecords P_spec_LogRecords P_laws_vRecords) trivial) (by kernel_rfl) (by kernel_rfl) (by kernel_rfl) (by kernel_rfl) (by kernel_rfl) (of_decide_eq_true (by kernel_rfl))
theorem p_laws_FnLogs (a0 : List Int) : P_laws_FnLogs (a0, ()) = 
  Option.bind (P_laws_vBig (a0, ())) fun r0 =>
  bif r0.1 then
    some (true, ())
  else
    Option.bind (P_spec_DrawIsValidRecord (a0, ())) fun r2 =>
    Option.bind (P_laws_vCut (a0, 1, ())) fun r3 =>
    Option.bind (P_spec_DrawEncodeRecord (r3.1, ())) fun r4 =>
    Option.bind (P_impl_EncodeRecord (r4.1, r4.2.1, ())) fun r5 =>
    Option.bind (P_spec_EncodeRecord (r4.1, r4.2.1, ())) fun r6 =>
    Option.bind (P_laws_vCut (a0, 2, ())) fun r7 =>
    Option.bind (P_spec_DrawIsValidLog (r7.1, ())) fun r8 =>
    Option.bind (P_laws_vCut (a0, 3, ())) fun r9 =>
    Option.bind (P_spec_DrawAppendRecord (r9.1, ())) fun r10 =>
    Option.bind (P_impl_AppendRecord (r10.1, r10.2.1, ())) fun r11 =>
    Option.bind (P_spec_AppendRecord (r10.1, r10.2.1, ())) fun r12 =>
    Option.bind (P_impl_IsValidRecord (r2.1, ())) fun r13 =>
    Option.bind (P_spec_IsValidRecord (r2.1, ())) fun r14 =>
    bif !(r13.1 == r14.1) then
      some (false, ())
    else
      bif !(r5.1 == r6.1) then
        some (false, ())
      else
        bif !(r5.2.1 == r6.2.1) then
          some (false, ())
        else
          Option.bind (P_impl_IsValidLog (r8.1, ())) fun r18 =>
          Option.bind (P_spec_IsValidLog (r8.1, ())) fun r19 =>
          bif !(r18.1 == r19.1) then
            some (false, ())
          else
            bif !((r11.1.1 == r12.1.1) && ((r11.1.2.1 == r12.1.2.1) && (decide (r11.1.2.2.1 = r12.1.2.2.1) && true))) then
              some (false, ())
            else
              bif !decide (r11.2.1 = r12.2.1) then
                some (false, ())
              else
                Option.bind (P_impl_SyncLog (r10.1, ())) fun r23 =>
                Option.bind (P_spec_SyncLog (r10.1, ())) fun r24 =>
                Option.bind (P_impl_LogRecords (r10.1, ())) fun r25 =>
                Option.bind (P_spec_LogRecords (r10.1, ())) fun r26 =>
                bif !((r23.1.1 == r24.1.1) && ((r23.1.2.1 == r24.1.2.1) && (decide (r23.1.2.2.1 = r24.1.2.2.1) && true))) then
                  some (false, ())
                else
                  bif !(r23.2.1 == r24.2.1) then
                    some (false, ())
                  else
                    bif !(r25.2.1 == r26.2.1) then
                      some (false, ())
                    else
                      Option.bind (P_laws_vRecords (r25.1, r26.1, ())) fun r30 =>
                      bif !r30.1 then
                        some (false, ())
                      else
                        Option.bind (P_impl_LogRecords (r23.1, ())) fun r32 =>
                        bif r23.2.1 then
                          Option.bind (P_laws_vRecords (r32.1, r25.1, ())) fun r34 =>
                          bif !r34.1 then
                            some (false, ())
                          else
                            bif !decide (r11.2.1 = 0) then
                              some (((r11.1.1 == r10.1.1) && ((r11.1.2.1 == r10.1.2.1) && (decide (r11.1.2.2.1 = r10.1.2.2.1) && true))), ())
                            else
                              Option.bind (P_impl_LogRecords (r11.1, ())) fun r37 =>
                              Option.bind (P_impl_IsValidLog (r11.1, ())) fun r38 =>
                              bif r38.1 then
                                bif decide ((List.length r37.1 : Int) = (IntKind.wrap .i64 ((List.length r25.1 : Int) + 1))) then
                                  bif (decide ((0 : Int) ≤ 0) && decide ((0 : Int) ≤ (List.length r25.1 : Int)) && decide ((List.length r25.1 : Int) ≤ (List.length r37.1 : Int))) then
                                    Option.bind (P_laws_vRecords ((cut r37.1 0 (List.length r25.1 : Int)), r25.1, ())) fun r42 =>
                                    bif r42.1 then
                                      bif inB (List.length r25.1 : Int) (List.length r37.1) then
                                        some ((((((nth T_LogRecord r37.1 (List.length r25.1 : Int))).1) == r10.2.1.1) && ((((((nth T_LogRecord r37.1 (List.length r25.1 : Int))).2).1) == r10.2.1.2.1) && true)), ())
                                      else none
                                    else
                                      some (false, ())
                                  else none
                                else
                                  some (false, ())
                              else
                                some (false, ())
                        else
                          bif !decide (r11.2.1 = 0) then
                            some (((r11.1.1 == r10.1.1) && ((r11.1.2.1 == r10.1.2.1) && (decide (r11.1.2.2.1 = r10.1.2.2.1) && true))), ())
                          else
                            Option.bind (P_impl_LogRecords (r11.1, ())) fun r35 =>
                            Option.bind (P_impl_IsValidLog (r11.1, ())) fun r36 =>
                            bif r36.1 then
                              bif decide ((List.length r35.1 : Int) = (IntKind.wrap .i64 ((List.length r25.1 : Int) + 1))) then
                                bif (decide ((0 : Int) ≤ 0) && decide ((0 : Int) ≤ (List.length r25.1 : Int)) && decide ((List.length r25.1 : Int) ≤ (List.length r35.1 : Int))) then
                                  Option.bind (P_laws_vRecords ((cut r35.1 0 (List.length r25.1 : Int)), r25.1, ())) fun r40 =>
                                  bif r40.1 then
                                    bif inB (List.length r25.1 : Int) (List.length r35.1) then
                                      some ((((((nth T_LogRecord r35.1 (List.length r25.1 : Int))).1) == r10.2.1.1) && ((((((nth T_LogRecord r35.1 (List.length r25.1 : Int))).2).1) == r10.2.1.2.1) && true)), ())
                                    else none
                                  else
                                    some (false, ())
                                else none
                              else
                                some (false, ())
                            else
                              some (false, ()) := by
  rewrite [h_laws_FnLogs]
  kernel_rfl

/- 29: loop.example/g01166/spec.DrawCrashLog -/
abbrev As_spec_DrawCrashLog : List ATy := [.data false (.sl (.int .u8))]
abbrev R_spec_DrawCrashLog : List (Bool × Ty) := [(true, T_Log), (false, (.int .i64)), (false, .bool)]
abbrev M_spec_DrawCrashLog : List RMode := []
abbrev Ft_spec_DrawCrashLog : Type := (List Int) × Unit → Option (D_Log × Int × Bool × Unit)
noncomputable def X_spec_DrawCrashLog (n : Nat) (F_l1Cur_anyLog : Ft_l1Cur_anyLog) (F_l1Cur_one : Ft_l1Cur_one) (F_l1Cur_pick : Ft_l1Cur_pick) : Ctx := { types := TT, globals := [], con := [], mcon := [(42, ⟨As_l1Cur_anyLog, R_l1Cur_anyLog, M_l1Cur_anyLog, F_l1Cur_anyLog⟩), (43, ⟨As_l1Cur_one, R_l1Cur_one, M_l1Cur_one, F_l1Cur_one⟩), (44, ⟨As_l1Cur_pick, R_l1Cur_pick, M_l1Cur_pick, F_l1Cur_pick⟩)], keep := [], results := [.cell 2 27, .tmp 3, .tmp 4], ntmps := 24, n := n }
noncomputable def B_spec_DrawCrashLog : Code := (Tryd.f29.body).getD .skip
noncomputable def P_spec_DrawCrashLog : Ft_spec_DrawCrashLog := hid (runF (X_spec_DrawCrashLog N P_l1Cur_anyLog P_l1Cur_one P_l1Cur_pick) B_spec_DrawCrashLog As_spec_DrawCrashLog R_spec_DrawCrashLog M_spec_DrawCrashLog)
theorem h_spec_DrawCrashLog : P_spec_DrawCrashLog = runF (X_spec_DrawCrashLog N P_l1Cur_anyLog P_l1Cur_one P_l1Cur_pick) B_spec_DrawCrashLog As_spec_DrawCrashLog R_spec_DrawCrashLog M_spec_DrawCrashLog := hid_eq _
noncomputable def C_spec_DrawCrashLog : Contract := ⟨As_spec_DrawCrashLog, R_spec_DrawCrashLog, M_spec_DrawCrashLog, P_spec_DrawCrashLog⟩
theorem s_spec_DrawCrashLog : Sound Tryd.prog GG 29 C_spec_DrawCrashLog := by
  unfold C_spec_DrawCrashLog; rw [h_spec_DrawCrashLog]
  exact sound_of_run (fn := Tryd.f29) hmix hstable (tyOK_of ttOK) (hglob (X_spec_DrawCrashLog N P_l1Cur_anyLog P_l1Cur_one P_l1Cur_pick)) (conOK_of (X := X_spec_DrawCrashLog N P_l1Cur_anyLog P_l1Cur_one P_l1Cur_pick) trivial) (mconOK_of (X := X_spec_DrawCrashLog N P_l1Cur_anyLog P_l1Cur_one P_l1Cur_pick) ⟨s_l1Cur_anyLog, s_l1Cur_one, s_l1Cur_pick, trivial⟩) (by kernel_rfl) (by kernel_rfl) (by kernel_rfl) (by kernel_rfl) (by kernel_rfl) (of_decide_eq_true (by kernel_rfl))
theorem p_spec_DrawCrashLog (a0 : List Int) : P_spec_DrawCrashLog (a0, ()) = 
  Option.bind (P_l1Cur_anyLog ((a0, (0, (0, ()))), ())) fun r0 =>
  Option.bind (P_l1Cur_pick ((a0, r0.2.1.2), (IntKind.wrap .i64 ((List.length r0.1.1.2.1 : Int) + 3)), ())) fun r1 =>
  Option.bind (P_l1Cur_one ((a0, r1.2.1.2), 2, ())) fun r2 =>
  some (r0.1.1, (IntKind.wrap .i64 (r1.1.1 - 1)), r2.1.1, ()) := by
  rewrite [h_spec_DrawCrashLog]
  kernel_rfl

/- 30: loop.example/g01166/spec.DrawRecoverLog -/
abbrev As_spec_DrawRecoverLog : List ATy := [.data false (.sl (.int .u8))]
abbrev R_spec_DrawRecoverLog : List (Bool × Ty) := [(false, .str)]
abbrev M_spec_DrawRecoverLog : List RMode := []
abbrev Ft_spec_DrawRecoverLog : Type := (List Int) × Unit → Option ((List UInt8) × Unit)
noncomputable def X_spec_DrawRecoverLog (n : Nat) (F_l1Cur_logRecord : Ft_l1Cur_logRecord) (F_spec_l12Line : Ft_spec_l12Line) (F_l1Cur_one : Ft_l1Cur_one) (F_l1Cur_pick : Ft_l1Cur_pick) (F_l1Cur_log12 : Ft_l1Cur_log12) (F_l1Cur_spoilt : Ft_l1Cur_spoilt) : Ctx := { types := TT, globals := [], con := [(41, ⟨As_spec_l12Line, R_spec_l12Line, M_spec_l12Line, F_spec_l12Line⟩)], mcon := [(36, ⟨As_l1Cur_logRecord, R_l1Cur_logRecord, M_l1Cur_logRecord, F_l1Cur_logRecord⟩), (43, ⟨As_l1Cur_one, R_l1Cur_one, M_l1Cur_one, F_l1Cur_one⟩), (44, ⟨As_l1Cur_pick, R_l1Cur_pick, M_l1Cur_pick, F_l1Cur_pick⟩), (50, ⟨As_l1Cur_log12, R_l1Cur_log12, M_l1Cur_log12, F_l1Cur_log12⟩), (51, ⟨As_l1Cur_spoilt, R_l1Cur_spoilt, M_l1Cur_spoilt, F_l1Cur_spoilt⟩)], keep := [], results := [.tmp 2], ntmps := 49, n := n }
noncomputable def B_spec_DrawRecoverLog : Code := (Tryd.f30.body).getD .skip
noncomputable def P_spec_DrawRecoverLog : Ft_spec_DrawRecoverLog := hid (runF (X_spec_DrawRecoverLog N P_l1Cur_logRecord P_spec_l12Line P_l1Cur_one P_l1Cur_pick P_l1Cur_log12 P_l1Cur_spoilt) B_spec_DrawRecoverLog As_spec_DrawRecoverLog R_spec_DrawRecoverLog M_spec_DrawRecoverLog)
theorem h_spec_DrawRecoverLog : P_spec_DrawRecoverLog = runF (X_spec_DrawRecoverLog N P_l1Cur_logRecord P_spec_l12Line P_l1Cur_one P_l1Cur_pick P_l1Cur_log12 P_l1Cur_spoilt) B_spec_DrawRecoverLog As_spec_DrawRecoverLog R_spec_DrawRecoverLog M_spec_DrawRecoverLog := hid_eq _
noncomputable def C_spec_DrawRecoverLog : Contract := ⟨As_spec_DrawRecoverLog, R_spec_DrawRecoverLog, M_spec_DrawRecoverLog, P_spec_DrawRecoverLog⟩
theorem s_spec_DrawRecoverLog : Sound Tryd.prog GG 30 C_spec_DrawRecoverLog := by
  unfold C_spec_DrawRecoverLog; rw [h_spec_DrawRecoverLog]
  exact sound_of_run (fn := Tryd.f30) hmix hstable (tyOK_of ttOK) (hglob (X_spec_DrawRecoverLog N P_l1Cur_logRecord P_spec_l12Line P_l1Cur_one P_l1Cur_pick P_l1Cur_log12 P_l1Cur_spoilt)) (conOK_of (X := X_spec_DrawRecoverLog N P_l1Cur_logRecord P_spec_l12Line P_l1Cur_one P_l1Cur_pick P_l1Cur_log12 P_l1Cur_spoilt) ⟨s_spec_l12Line, trivial⟩) (mconOK_of (X := X_spec_DrawRecoverLog N P_l1Cur_logRecord P_spec_l12Line P_l1Cur_one P_l1Cur_pick P_l1Cur_log12 P_l1Cur_spoilt) ⟨s_l1Cur_logRecord, s_l1Cur_one, s_l1Cur_pick, s_l1Cur_log12, s_l1Cur_spoilt, trivial⟩) (by kernel_rfl) (by kernel_rfl) (by kernel_rfl) (by kernel_rfl) (by kernel_rfl) (of_decide_eq_true (by kernel_rfl))
theorem p_spec_DrawRecoverLog (a0 : List Int) : P_spec_DrawRecoverLog (a0, ()) = 
  Option.bind (P_l1Cur_log12 ((a0, (0, (0, ()))), ())) fun r0 =>
  Option.bind (catS r0.1.1.1 r0.1.1.2.1) fun r1 =>
  Option.bind (P_l1Cur_pick ((a0, r0.2.1.2), 4, ())) fun r2 =>
  bif decide (r2.1.1 = 0) then
    Option.bind (P_l1Cur_spoilt ((a0, r2.2.1.2), r1, ([35, 64, 10, 48, 49] : List UInt8), ())) fun r4 =>
    Option.bind (P_l1Cur_one ((a0, r4.2.1.2), 40, ())) fun r5 =>
    bif r5.1.1 then
      Option.bind (P_l1Cur_pick ((a0, r5.2.1.2), 2, ())) fun r7 =>
      bif (decide ((0 : Int) ≤ (IntKind.wrap .i64 (30000 + r7.1.1))) && decide (((IntKind.wrap .i64 (30000 + r7.1.1)) : Int) ≤ (IntKind.wrap .i64 (30000 + r7.1.1))) && decide (((IntKind.wrap .i64 (30000 + r7.1.1)) : Int) * (1 : Nat) ≤ 140737488355328) && decide (((IntKind.wrap .i64 (30000 + r7.1.1)) : Int) ≤ 140737488355328)) then
        some ((List.map (fun (N : Int) => N.toNat.toUInt8) (List.replicate (Int.toNat (IntKind.wrap .i64 (30000 + r7.1.1))) (Ty.dflt ((.int .u8) : Ty)))), ())
      else none
    else
      some (r4.1.1, ())
  else
    bif decide (r2.1.1 = 1) then
      Option.bind (P_l1Cur_pick ((a0, r2.2.1.2), (IntKind.wrap .i64 ((List.length r1 : Int) + 1)), ())) fun r5 =>
      bif (decide ((0 : Int) ≤ 0) && decide ((0 : Int) ≤ r5.1.1) && decide (r5.1.1 ≤ (List.length r1 : Int))) then
        Option.bind (P_l1Cur_one ((a0, r5.2.1.2), 40, ())) fun r7 =>
        bif r7.1.1 then
          Option.bind (P_l1Cur_pick ((a0, r7.2.1.2), 2, ())) fun r9 =>
          bif (decide ((0 : Int) ≤ (IntKind.wrap .i64 (30000 + r9.1.1))) && decide (((IntKind.wrap .i64 (30000 + r9.1.1)) : Int) ≤ (IntKind.wrap .i64 (30000 + r9.1.1))) && decide (((IntKind.wrap .i64 (30000 + r9.1.1)) : Int) * (1 : Nat) ≤ 140737488355328) && decide (((IntKind.wrap .i64 (30000 + r9.1.1)) : Int) ≤ 140737488355328)) then
            some ((List.map (fun (N : Int) => N.toNat.toUInt8) (List.replicate (Int.toNat (IntKind.wrap .i64 (30000 + r9.1.1))) (Ty.dflt ((.int .u8) : Ty)))), ())
          else none
        else
          some ((cut r1 0 r5.1.1), ())
      else none
    else
      bif decide (r2.1.1 = 2) then
        Option.bind (P_l1Cur_pick ((a0, r2.2.1.2), 4, ())) fun r6 =>
        Option.bind (P_l1Cur_logRecord ((a0, r6.2.1.2), ())) fun r7 =>
        Option.bind (P_spec_l12Line (r6.1.1, r7.1.1, ())) fun r8 =>
        Option.bind (catS r1 r8.1) fun r9 =>
        Option.bind (P_l1Cur_one ((a0, r7.2.1.2), 40, ())) fun r10 =>
        bif r10.1.1 then
          Option.bind (P_l1Cur_pick ((a0, r10.2.1.2), 2, ())) fun r12 =>
          bif (decide ((0 : Int) ≤ (IntKind.wrap .i64 (30000 + r12.1.1))) && decide (((IntKind.wrap .i64 (30000 + r12.1.1)) : Int) ≤ (IntKind.wrap .i64 (30000 + r12.1.1))) && decide (((IntKind.wrap .i64 (30000 + r12.1.1)) : Int) * (1 : Nat) ≤ 140737488355328) && decide (((IntKind.wrap .i64 (30000 + r12.1.1)) : Int) ≤ 140737488355328)) then
            some ((List.map (fun (N : Int) => N.toNat.toUInt8) (List.replicate (Int.toNat (IntKind.wrap .i64 (30000 + r12.1.1))) (Ty.dflt ((.int .u8) : Ty)))), ())
          else none
        else
          some (r9, ())
      else
        Option.bind (P_l1Cur_one ((a0, r2.2.1.2), 40, ())) fun r6 =>
        bif r6.1.1 then
          Option.bind (P_l1Cur_pick ((a0, r6.2.1.2), 2, ())) fun r8 =>
          bif (decide ((0 : Int) ≤ (IntKind.wrap .i64 (30000 + r8.1.1))) && decide (((IntKind.wrap .i64 (30000 + r8.1.1)) : Int) ≤ (IntKind.wrap .i64 (30000 + r8.1.1))) && decide (((IntKind.wrap .i64 (30000 + r8.1.1)) : Int) * (1 : Nat) ≤ 140737488355328) && decide (((IntKind.wrap .i64 (30000 + r8.1.1)) : Int) ≤ 140737488355328)) then
            some ((List.map (fun (N : Int) => N.toNat.toUInt8) (List.replicate (Int.toNat (IntKind.wrap .i64 (30000 + r8.1.1))) (Ty.dflt ((.int .u8) : Ty)))), ())
          else none
        else
          some (r1, ()) := by
  rewrite [h_spec_DrawRecoverLog]
  kernel_rfl

/- 31: loop.example/g01166/impl.RecoverLog -/
abbrev As_impl_RecoverLog : List ATy := [.data false .str]
abbrev R_impl_RecoverLog : List (Bool × Ty) := [(true, T_Log), (false, (.int .i64)), (false, .bool)]
abbrev M_impl_RecoverLog : List RMode := []
abbrev Ft_impl_RecoverLog : Type := (List UInt8) × Unit → Option (D_Log × Int × Bool × Unit)
noncomputable def X_impl_RecoverLog (n : Nat) (F_impl_readRecords : Ft_impl_readRecords) : Ctx := { types := TT, globals := [], con := [(47, ⟨As_impl_readRecords, R_impl_readRecords, M_impl_readRecords, F_impl_readRecords⟩)], keep := [], results := [.cell 2 27, .tmp 3, .tmp 4], ntmps := 29, n := n }
noncomputable def B_impl_RecoverLog : Code := (Tryd.f31.body).getD .skip
noncomputable def P_impl_RecoverLog : Ft_impl_RecoverLog := hid (runF (X_impl_RecoverLog N P_impl_readRecords) B_impl_RecoverLog As_impl_RecoverLog R_impl_RecoverLog M_impl_RecoverLog)
theorem h_impl_RecoverLog : P_impl_RecoverLog = runF (X_impl_RecoverLog N P_impl_readRecords) B_impl_RecoverLog As_impl_RecoverLog R_impl_RecoverLog M_impl_RecoverLog := hid_eq _
noncomputable def C_impl_RecoverLog : Contract := ⟨As_impl_RecoverLog, R_impl_RecoverLog, M_impl_RecoverLog, P_impl_RecoverLog⟩
theorem s_impl_RecoverLog : Sound Tryd.prog GG 31 C_impl_RecoverLog := by
  unfold C_impl_RecoverLog; rw [h_impl_RecoverLog]
  exact sound_of_run (fn := Tryd.f31) hmix hstable (tyOK_of ttOK) (hglob (X_impl_RecoverLog N P_impl_readRecords)) (conOK_of (X := X_impl_RecoverLog N P_impl_readRecords) ⟨s_impl_readRecords, trivial⟩) (mconOK_of (X := X_impl_RecoverLog N P_impl_readRecords) trivial) (by kernel_rfl) (by kernel_rfl) (by kernel_rfl) (by kernel_rfl) (by kernel_rfl) (of_decide_eq_true (by kernel_rfl))
theorem p_impl_RecoverLog (a0 : List UInt8) : P_impl_RecoverLog (a0, ()) = 
  bif decide ((List.length a0 : Int) > 30000) then
    some ((([] : List UInt8), (([] : List UInt8), (0, ()))), 0, false, ())
  else
    Option.bind (P_impl_readRecords (a0, ())) fun r1 =>
    bif inB (List.length r1.1 : Int) (List.length r1.2.1) then
      bif (decide ((0 : Int) ≤ 0) && decide ((0 : Int) ≤ (nth ((.int .i64) : Ty) r1.2.1 (List.length r1.1 : Int))) && decide ((nth ((.int .i64) : Ty) r1.2.1 (List.length r1.1 : Int)) ≤ (List.length a0 : Int))) then
        some (((cut a0 0 (nth ((.int .i64) : Ty) r1.2.1 (List.length r1.1 : Int))), (([] : List UInt8), ((List.length r1.1 : Int), ()))), (nth ((.int .i64) : Ty) r1.2.1 (List.length r1.1 : Int)), true, ())
      else none
    else none := by
  rewrite [h_impl_RecoverLog]
  kernel_rfl

/- 32: loop.example/g01166/spec.RecoverLog -/
abbrev As_spec_RecoverLog : List ATy := [.data false .str]
abbrev R_spec_RecoverLog : List (Bool × Ty) := [(true, T_Log), (false, (.int .i64)), (false, .bool)]
abbrev M_spec_RecoverLog : List RMode := []
abbrev Ft_spec_RecoverLog : Type := (List UInt8) × Unit → Option (D_Log × Int × Bool × Unit)
noncomputable def X_spec_RecoverLog (n : Nat) (F_spec_l12Open : Ft_spec_l12Open) : Ctx := { types := TT, globals := [], con := [(49, ⟨As_spec_l12Open, R_spec_l12Open, M_spec_l12Open, F_spec_l12Open⟩)], keep := [], results := [.cell 2 27, .tmp 3, .tmp 4], ntmps := 23, n := n }
noncomputable def B_spec_RecoverLog : Code := (Tryd.f32.body).getD .skip
noncomputable def P_spec_RecoverLog : Ft_spec_RecoverLog := hid (runF (X_spec_RecoverLog N P_spec_l12Open) B_spec_RecoverLog As_spec_RecoverLog R_spec_RecoverLog M_spec_RecoverLog)
theorem h_spec_RecoverLog : P_spec_RecoverLog = runF (X_spec_RecoverLog N P_spec_l12Open) B_spec_RecoverLog As_spec_RecoverLog R_spec_RecoverLog M_spec_RecoverLog := hid_eq _
noncomputable def C_spec_RecoverLog : Contract := ⟨As_spec_RecoverLog, R_spec_RecoverLog, M_spec_RecoverLog, P_spec_RecoverLog⟩
theorem s_spec_RecoverLog : Sound Tryd.prog GG 32 C_spec_RecoverLog := by
  unfold C_spec_RecoverLog; rw [h_spec_RecoverLog]
  exact sound_of_run (fn := Tryd.f32) hmix hstable (tyOK_of ttOK) (hglob (X_spec_RecoverLog N P_spec_l12Open)) (conOK_of (X := X_spec_RecoverLog N P_spec_l12Open) ⟨s_spec_l12Open, trivial⟩) (mconOK_of (X := X_spec_RecoverLog N P_spec_l12Open) trivial) (by kernel_rfl) (by kernel_rfl) (by kernel_rfl) (by kernel_rfl) (by kernel_rfl) (of_decide_eq_true (by kernel_rfl))
theorem p_spec_RecoverLog (a0 : List UInt8) : P_spec_RecoverLog (a0, ()) = 
  bif decide ((List.length a0 : Int) > 30000) then
    some ((([] : List UInt8), (([] : List UInt8), (0, ()))), 0, false, ())
  else
    Option.bind (P_spec_l12Open (a0, ())) fun r1 =>
    bif (decide ((0 : Int) ≤ 0) && decide ((0 : Int) ≤ r1.2.1) && decide (r1.2.1 ≤ (List.length a0 : Int))) then
      some (((cut a0 0 r1.2.1), (([] : List UInt8), ((List.length r1.1 : Int), ()))), r1.2.1, true, ())
    else none := by
  rewrite [h_spec_RecoverLog]
  kernel_rfl

/- 5: loop.example/g01166/laws.FnCrashes -/
abbrev As_laws_FnCrashes : List ATy := [.data false (.sl (.int .u8))]
abbrev R_laws_FnCrashes : List (Bool × Ty) := [(false, .bool)]
abbrev M_laws_FnCrashes : List RMode := []
abbrev Ft_laws_FnCrashes : Type := (List Int) × Unit → Option (Bool × Unit)
noncomputable def X_laws_FnCrashes (n : Nat) (F_spec_CrashLog : Ft_spec_CrashLog) (F_impl_CrashLog : Ft_impl_CrashLog) (F_laws_vBig : Ft_laws_vBig) (F_laws_vCut : Ft_laws_vCut) (F_impl_IsValidLog : Ft_impl_IsValidLog) (F_impl_LogRecords : Ft_impl_LogRecords) (F_laws_vRecords : Ft_laws_vRecords) (F_spec_DrawCrashLog : Ft_spec_DrawCrashLog) (F_spec_DrawRecoverLog : Ft_spec_DrawRecoverLog) (F_impl_RecoverLog : Ft_impl_RecoverLog) (F_spec_RecoverLog : Ft_spec_RecoverLog) : Ctx := { types := TT, globals := [], con := [(7, ⟨As_spec_CrashLog, R_spec_CrashLog, M_spec_CrashLog, F_spec_CrashLog⟩), (9, ⟨As_impl_CrashLog, R_impl_CrashLog, M_impl_CrashLog, F_impl_CrashLog⟩), (10, ⟨As_laws_vBig, R_laws_vBig, M_laws_vBig, F_laws_vBig⟩), (13, ⟨As_laws_vCut, R_laws_vCut, M_laws_vCut, F_laws_vCut⟩), (22, ⟨As_impl_IsValidLog, R_impl_IsValidLog, M_impl_IsValidLog, F_impl_IsValidLog⟩), (26, ⟨As_impl_LogRecords, R_impl_LogRecords, M_impl_LogRecords, F_impl_LogRecords⟩), (28, ⟨As_laws_vRecords, R_laws_vRecords, M_laws_vRecords, F_laws_vRecords⟩), (29, ⟨As_spec_DrawCrashLog, R_spec_DrawCrashLog, M_spec_DrawCrashLog, F_spec_DrawCrashLog⟩), (30, ⟨As_spec_DrawRecoverLog, R_spec_DrawRecoverLog, M_spec_DrawRecoverLog, F_spec_DrawRecoverLog⟩), (31, ⟨As_impl_RecoverLog, R_impl_RecoverLog, M_impl_RecoverLog, F_impl_RecoverLog⟩), (32, ⟨As_spec_RecoverLog, R_spec_RecoverLog, M_spec_RecoverLog, F_spec_RecoverLog⟩)], keep := [], results := [.tmp 2], ntmps := 153, n := n }
noncomputable def B_laws_FnCrashes : Code := (Tryd.f5.body).getD .skip
noncomputable def P_laws_FnCrashes : Ft_laws_FnCrashes := hid (runF (X_laws_FnCrashes N P_spec_CrashLog P_impl_CrashLog P_laws_vBig P_laws_vCut P_impl_IsValidLog P_impl_LogRecords P_laws_vRecords P_spec_DrawCrashLog P_spec_DrawRecoverLog P_impl_RecoverLog P_spec_RecoverLog) B_laws_FnCrashes As_laws_FnCrashes R_laws_FnCrashes M_laws_FnCrashes)
theorem h_laws_FnCrashes : P_laws_FnCrashes = runF (X_laws_FnCrashes N P_spec_CrashLog P_impl_CrashLog P_laws_vBig P_laws_vCut P_impl_IsValidLog P_impl_LogRecords P_laws_vRecords P_spec_DrawCrashLog P_spec_DrawRecoverLog P_impl_RecoverLog P_spec_RecoverLog) B_laws_FnCrashes As_laws_FnCrashes R_laws_FnCrashes M_laws_FnCrashes := hid_eq _
noncomputable def C_laws_FnCrashes : Contract := ⟨As_laws_FnCrashes, R_laws_FnCrashes, M_laws_FnCrashes, P_laws_FnCrashes⟩
theorem s_laws_FnCrashes : Sound Tryd.prog GG 5 C_laws_FnCrashes := by
  unfold C_laws_FnCrashes; rw [h_laws_FnCrashes]
  exact sound_of_run (fn := Tryd.f5) hmix hstable (tyOK_of ttOK) (hglob (X_laws_FnCrashes N P_spec_CrashLog P_impl_CrashLog P_laws_vBig P_laws_vCut P_impl_IsValidLog P_impl_LogRecords P_laws_vRecords P_spec_DrawCrashLog P_spec_DrawRecoverLog P_impl_RecoverLog P_spec_RecoverLog)) (conOK_of (X := X_laws_FnCrashes N P_spec_CrashLog P_impl_CrashLog P_laws_vBig P_laws_vCut P_impl_IsValidLog P_impl_LogRecords P_laws_vRecords P_spec_DrawCrashLog P_spec_DrawRecoverLog P_impl_RecoverLog P_spec_RecoverLog) ⟨s_spec_CrashLog, s_impl_CrashLog, s_laws_vBig, s_laws_vCut, s_impl_IsValidLog, s_impl_LogRecords, s_laws_vRecords, s_spec_DrawCrashLog, s_spec_DrawRecoverLog, s_impl_RecoverLog, s_spec_RecoverLog, trivial⟩) (mconOK_of (X := X_laws_FnCrashes N P_spec_CrashLog P_impl_CrashLog P_laws_vBig P_laws_vCut P_impl_IsValidLog P_impl_LogRecords P_laws_vRecords P_spec_DrawCrashLog P_spec_DrawRecoverLog P_impl_RecoverLog P_spec_RecoverLog) trivial) (by kernel_rfl) (by kernel_rfl) (by kernel_rfl) (by kernel_rfl) (by kernel_rfl) (of_decide_eq_true (by kernel_rfl))
theorem p_laws_FnCrashes (a0 : List Int) : P_laws_FnCrashes (a0, ()) = 
  Option.bind (P_laws_vBig (a0, ())) fun r0 =>
  bif r0.1 then
    some (true, ())
  else
    Option.bind (P_spec_DrawCrashLog (a0, ())) fun r2 =>
    Option.bind (P_impl_CrashLog (r2.1, r2.2.1, r2.2.2.1, ())) fun r3 =>
    Option.bind (P_spec_CrashLog (r2.1, r2.2.1, r2.2.2.1, ())) fun r4 =>
    Option.bind (P_laws_vCut (a0, 1, ())) fun r5 =>
    Option.bind (P_spec_DrawRecoverLog (r5.1, ())) fun r6 =>
    Option.bind (P_impl_RecoverLog (r6.1, ())) fun r7 =>
    Option.bind (P_spec_RecoverLog (r6.1, ())) fun r8 =>
    bif !(r3.1 == r4.1) then
      some (false, ())
    else
      bif !(r3.2.1 == r4.2.1) then
        some (false, ())
      else
        bif !((r7.1.1 == r8.1.1) && ((r7.1.2.1 == r8.1.2.1) && (decide (r7.1.2.2.1 = r8.1.2.2.1) && true))) then
          some (false, ())
        else
          bif !decide (r7.2.1 = r8.2.1) then
            some (false, ())
          else
            bif !(r7.2.2.1 == r8.2.2.1) then
              some (false, ())
            else
              bif !r3.2.1 then
                some (true, ())
              else
                Option.bind (P_impl_RecoverLog (r3.1, ())) fun r15 =>
                bif !r15.2.2.1 then
                  some (false, ())
                else
                  Option.bind (P_impl_IsValidLog (r15.1, ())) fun r17 =>
                  bif !r17.1 then
                    some (false, ())
                  else
                    bif decide (r15.2.1 < (List.length r2.1.1 : Int)) then
                      some (false, ())
                    else
                      bif !decide ((List.length r15.1.1 : Int) = r15.2.1) then
                        some (false, ())
                      else
                        Option.bind (P_impl_LogRecords (r2.1, ())) fun r21 =>
                        Option.bind (P_impl_LogRecords (r15.1, ())) fun r22 =>
                        bif decide ((List.length r22.1 : Int) ≤ (List.length r21.1 : Int)) then
                          bif (decide ((0 : Int) ≤ 0) && decide ((0 : Int) ≤ (List.length r22.1 : Int)) && decide ((List.length r22.1 : Int) ≤ (List.length r21.1 : Int))) then
                            Option.bind (P_laws_vRecords (r22.1, (cut r21.1 0 (List.length r22.1 : Int)), ())) fun r25 =>
                            bif r25.1 then
                              bif r2.2.2.1 then
                                some (true, ())
                              else
                                bif decide (r2.2.1 < (List.length r2.1.2.1 : Int)) then
                                  some (true, ())
                                else
                                  some (decide ((List.length r22.1 : Int) = (List.length r21.1 : Int)), ())
                            else
                              some (false, ())
                          else none
                        else
                          some (false, ()) := by
  rewrite [h_laws_FnCrashes]
  kernel_rfl
end Go.VI
