/- What the functions of the seat compute, as printed by wip/tools. -/
import Derived.Test.YtjlcoafbceebgaaDoorViLib
import Derived.Test.YtjlcoafbceebgaaDoorTrydShelf
import Derived.Test.YtjlcoafbceebgaaDoorProg
namespace Go.VI
open Go.Proofs Go.Sort
set_option maxRecDepth 100000
def n0 : Nat := 4
/-- What the calls lean on: a table of the library's, and that a variable of its own holds a number. -/
def GG : World → Prop := fun w => 4 ≤ w.heap.size ∧ Lib.TabIs Tryd.prog w "internal/strconv.uint64pow10" .u64 Lib.pow10Tab ∧ ∃ m, w.cell? ⟨0, 0, none⟩ = some (.int .i64 m)
theorem gPow : ∃ g, Tryd.prog.globalNamed "internal/strconv.uint64pow10" = some g ∧ g < 4 := ⟨((Tryd.prog.globalNamed "internal/strconv.uint64pow10").getD 0), by kernel_rfl, of_decide_eq_true (by kernel_rfl)⟩
theorem hstable : Stable n0 GG := by
  refine ⟨fun w h => h.1, ?_⟩
  rintro w w' ⟨h1, h2, m, h3⟩ hsz hb
  refine ⟨Nat.le_trans h1 hsz, ?_, m, ?_⟩
  · obtain ⟨g, hg, hlt⟩ := gPow
    unfold Lib.TabIs World.var? at *
    rw [hg] at h2 ⊢
    simp only [Option.bind_some] at h2 ⊢
    rw [hb g hlt]
    exact h2
  · rw [← h3]
    unfold World.cell?
    rw [hb 0 (by decide)]
theorem hmix : Tryd.prog.follows .mixedOrders = true := by kernel_rfl
theorem hglob (X : Ctx) (h : X.globals = [] := by rfl) (A : Fix) (_ : A.P = Tryd.prog) (_ : A.G = GG) : GlobOK A X := globOK_none h A
theorem below_drew (w : World) (n : Nat) : RowKit.Below w.heap.size w (w.drewN n) := ⟨rfl, rfl, rfl, Nat.le_refl _, fun _ _ => rfl⟩
theorem below_grew (w : World) (k : Nat) (os : Array Obj) : RowKit.Below w.heap.size w (grow (w.drewN k) os) :=
  ⟨rfl, rfl, rfl, by simp [grow], fun i hi => by simp [grow, Array.getElem?_append, hi]⟩
abbrev T_LogRecord : Ty := (.pair .str (.pair .str .unit))
abbrev D_LogRecord : Type := (List UInt8) × (List UInt8) × Unit
abbrev T_Log : Ty := (.pair .str (.pair .str (.pair (.int .i64) .unit)))
abbrev D_Log : Type := (List UInt8) × (List UInt8) × Int × Unit
noncomputable def TT : List (TypeId × TI) := [(3, ⟨Tryd.t3.desc, (.int .i64), false, 8, [.int .i64 0]⟩),
  (4, ⟨Tryd.t4.desc, .bool, false, 1, [.bool false]⟩),
  (5, ⟨Tryd.t5.desc, (.int .u8), false, 1, [.int .u8 0]⟩),
  (9, ⟨Tryd.t9.desc, .str, false, 16, [.str ([] : List UInt8)]⟩),
  (23, ⟨Tryd.t22.desc, T_LogRecord, true, 32, [.str ([] : List UInt8), .str ([] : List UInt8)]⟩),
  (27, ⟨Tryd.t22.desc, T_LogRecord, true, 32, [.str ([] : List UInt8), .str ([] : List UInt8)]⟩),
  (31, ⟨Tryd.t30.desc, T_Log, true, 40, [.str ([] : List UInt8), .str ([] : List UInt8), .int .i64 0]⟩),
  (36, ⟨Tryd.t30.desc, T_Log, true, 40, [.str ([] : List UInt8), .str ([] : List UInt8), .int .i64 0]⟩),
  (48, ⟨Tryd.t48.desc, (.sl T_LogRecord), false, 24, [.nil 27 T_LogRecord]⟩),
  (53, ⟨Tryd.t53.desc, (.sl (.int .u8)), false, 24, [.nil 5 (.int .u8)]⟩),
  (71, ⟨Tryd.t71.desc, (.sl (.int .i64)), false, 24, [.nil 3 (.int .i64)]⟩),
  (92, ⟨Tryd.t92.desc, (.sl .str), false, 24, [.nil 9 .str]⟩)]
theorem ttOK : allP (fun q => tiB Tryd.prog q.1 q.2) TT :=
  ⟨⟨by kernel_rfl, by kernel_rfl, by kernel_rfl, by kernel_rfl, by kernel_rfl⟩, ⟨by kernel_rfl, by kernel_rfl, by kernel_rfl, by kernel_rfl, by kernel_rfl⟩, ⟨by kernel_rfl, by kernel_rfl, by kernel_rfl, by kernel_rfl, by kernel_rfl⟩, ⟨by kernel_rfl, by kernel_rfl, by kernel_rfl, by kernel_rfl, by kernel_rfl⟩, ⟨by kernel_rfl, by kernel_rfl, by kernel_rfl, by kernel_rfl, by kernel_rfl⟩, ⟨by kernel_rfl, by kernel_rfl, by kernel_rfl, by kernel_rfl, by kernel_rfl⟩, ⟨by kernel_rfl, by kernel_rfl, by kernel_rfl, by kernel_rfl, by kernel_rfl⟩, ⟨by kernel_rfl, by kernel_rfl, by kernel_rfl, by kernel_rfl, by kernel_rfl⟩, ⟨by kernel_rfl, by kernel_rfl, by kernel_rfl, by kernel_rfl, by kernel_rfl⟩, ⟨by kernel_rfl, by kernel_rfl, by kernel_rfl, by kernel_rfl, by kernel_rfl⟩, ⟨by kernel_rfl, by kernel_rfl, by kernel_rfl, by kernel_rfl, by kernel_rfl⟩, ⟨by kernel_rfl, by kernel_rfl, by kernel_rfl, by kernel_rfl, by kernel_rfl⟩, trivial⟩

/- 12: loop.example/g01166/laws.szLogRecord -/
abbrev As_laws_szLogRecord : List ATy := [.data true T_LogRecord, .data false (.int .i64)]
abbrev R_laws_szLogRecord : List (Bool × Ty) := [(false, (.int .i64))]
abbrev M_laws_szLogRecord : List RMode := []
abbrev Ft_laws_szLogRecord : Type := D_LogRecord × Int × Unit → Option (Int × Unit)
noncomputable def X_laws_szLogRecord (n : Nat) : Ctx := { types := TT, globals := [], con := [], keep := [], results := [.tmp 4], ntmps := 20, n := n }
noncomputable def B_laws_szLogRecord : Code := (Tryd.f12.body).getD .skip
theorem e_laws_szLogRecord (n : Nat) (a0 : D_LogRecord) (a1 : Int) : runF (X_laws_szLogRecord n) B_laws_szLogRecord As_laws_szLogRecord R_laws_szLogRecord M_laws_szLogRecord (a0, a1, ()) = 
  bif decide ((IntKind.wrap .i64 (a1 - (List.length a0.1 : Int))) < 0) then
    some ((-1), ())
  else
    bif decide ((IntKind.wrap .i64 ((IntKind.wrap .i64 (a1 - (List.length a0.1 : Int))) - (List.length a0.2.1 : Int))) < 0) then
      some ((-1), ())
    else
      some ((IntKind.wrap .i64 ((IntKind.wrap .i64 (a1 - (List.length a0.1 : Int))) - (List.length a0.2.1 : Int))), ()) := by kernel_rfl
noncomputable def P_laws_szLogRecord : Ft_laws_szLogRecord := hid (runF (X_laws_szLogRecord N) B_laws_szLogRecord As_laws_szLogRecord R_laws_szLogRecord M_laws_szLogRecord)
theorem h_laws_szLogRecord : P_laws_szLogRecord = runF (X_laws_szLogRecord N) B_laws_szLogRecord As_laws_szLogRecord R_laws_szLogRecord M_laws_szLogRecord := hid_eq _
noncomputable def C_laws_szLogRecord : Contract := ⟨As_laws_szLogRecord, R_laws_szLogRecord, M_laws_szLogRecord, P_laws_szLogRecord⟩
theorem s_laws_szLogRecord : Sound Tryd.prog GG 12 C_laws_szLogRecord := by
  unfold C_laws_szLogRecord; rw [h_laws_szLogRecord]
  exact sound_of_run (fn := Tryd.f12) hmix hstable (tyOK_of ttOK) (hglob (X_laws_szLogRecord N)) (conOK_of (X := X_laws_szLogRecord N) trivial) (mconOK_of (X := X_laws_szLogRecord N) trivial) (by kernel_rfl) (by kernel_rfl) (by kernel_rfl) (by kernel_rfl) (by kernel_rfl) (of_decide_eq_true (by kernel_rfl))
theorem p_laws_szLogRecord (a0 : D_LogRecord) (a1 : Int) : P_laws_szLogRecord (a0, a1, ()) = 
  bif decide ((IntKind.wrap .i64 (a1 - (List.length a0.1 : Int))) < 0) then
    some ((-1), ())
  else
    bif decide ((IntKind.wrap .i64 ((IntKind.wrap .i64 (a1 - (List.length a0.1 : Int))) - (List.length a0.2.1 : Int))) < 0) then
      some ((-1), ())
    else
      some ((IntKind.wrap .i64 ((IntKind.wrap .i64 (a1 - (List.length a0.1 : Int))) - (List.length a0.2.1 : Int))), ()) := by
  rewrite [h_laws_szLogRecord]
  exact e_laws_szLogRecord N a0 a1

/- 45: loop.example/g01166/spec.l1In -/
abbrev As_spec_l1In : List ATy := [.data false (.int .i64), .data false (.int .i64), .data false (.int .i64)]
abbrev R_spec_l1In : List (Bool × Ty) := [(false, .bool)]
abbrev M_spec_l1In : List RMode := []
abbrev Ft_spec_l1In : Type := Int × Int × Int × Unit → Option (Bool × Unit)
noncomputable def X_spec_l1In (n : Nat) : Ctx := { types := TT, globals := [], con := [], keep := [], results := [.tmp 6], ntmps := 15, n := n }
noncomputable def B_spec_l1In : Code := (Tryd.f45.body).getD .skip
theorem e_spec_l1In (n : Nat) (a0 : Int) (a1 : Int) (a2 : Int) : runF (X_spec_l1In n) B_spec_l1In As_spec_l1In R_spec_l1In M_spec_l1In (a0, a1, a2, ()) = 
  bif decide (a0 ≥ a1) then
    some (decide (a0 ≤ a2), ())
  else
    some (false, ()) := by kernel_rfl
noncomputable def P_spec_l1In : Ft_spec_l1In := hid (runF (X_spec_l1In N) B_spec_l1In As_spec_l1In R_spec_l1In M_spec_l1In)
theorem h_spec_l1In : P_spec_l1In = runF (X_spec_l1In N) B_spec_l1In As_spec_l1In R_spec_l1In M_spec_l1In := hid_eq _
noncomputable def C_spec_l1In : Contract := ⟨As_spec_l1In, R_spec_l1In, M_spec_l1In, P_spec_l1In⟩
theorem s_spec_l1In : Sound Tryd.prog GG 45 C_spec_l1In := by
  unfold C_spec_l1In; rw [h_spec_l1In]
  exact sound_of_run (fn := Tryd.f45) hmix hstable (tyOK_of ttOK) (hglob (X_spec_l1In N)) (conOK_of (X := X_spec_l1In N) trivial) (mconOK_of (X := X_spec_l1In N) trivial) (by kernel_rfl) (by kernel_rfl) (by kernel_rfl) (by kernel_rfl) (by kernel_rfl) (of_decide_eq_true (by kernel_rfl))
theorem p_spec_l1In (a0 : Int) (a1 : Int) (a2 : Int) : P_spec_l1In (a0, a1, a2, ()) = 
  bif decide (a0 ≥ a1) then
    some (decide (a0 ≤ a2), ())
  else
    some (false, ()) := by
  rewrite [h_spec_l1In]
  exact e_spec_l1In N a0 a1 a2

/- 66: loop.example/g01166/spec.l12Bytes -/
abbrev As_spec_l12Bytes : List ATy := [.data false .str, .data false (.int .i64)]
abbrev R_spec_l12Bytes : List (Bool × Ty) := [(false, .bool)]
abbrev M_spec_l12Bytes : List RMode := []
abbrev Ft_spec_l12Bytes : Type := (List UInt8) × Int × Unit → Option (Bool × Unit)
noncomputable def X_spec_l12Bytes (n : Nat) (F_spec_l1In : Ft_spec_l1In) : Ctx := { types := TT, globals := [], con := [(45, ⟨As_spec_l1In, R_spec_l1In, M_spec_l1In, F_spec_l1In⟩)], keep := [(2, ⟨[.tmp 0, .tmp 1, .tmp 5], []⟩)], results := [.tmp 4], ntmps := 28, n := n }
noncomputable def B_spec_l12Bytes : Code := (Tryd.f66.body).getD .skip
noncomputable def L_spec_l12Bytes_2 (n : Nat) (F_spec_l1In : Ft_spec_l1In) (m0 : Nat) (p0 : List UInt8) (p1 : Int) (p2 : Int) : Option (denL R_spec_l12Bytes) := loopF (X_spec_l12Bytes n F_spec_l1In) B_spec_l12Bytes R_spec_l12Bytes M_spec_l12Bytes 2 [m0] [(.ver, .num 1), (.tmp 0, .val false [.str p0]), (.tmp 1, .val false [.int .i64 p1]), (.tmp 5, .val false [.int .i64 p2])]
theorem e_spec_l12Bytes (n : Nat) (F_spec_l1In : Ft_spec_l1In) (a0 : List UInt8) (a1 : Int) : runF (X_spec_l12Bytes n F_spec_l1In) B_spec_l12Bytes As_spec_l12Bytes R_spec_l12Bytes M_spec_l12Bytes (a0, a1, ()) = 
  L_spec_l12Bytes_2 n F_spec_l1In n a0 a1 0 := by kernel_rfl
theorem e_spec_l12Bytes_2 (n : Nat) (F_spec_l1In : Ft_spec_l1In) (m0 : Nat) (p0 : List UInt8) (p1 : Int) (p2 : Int) : L_spec_l12Bytes_2 n F_spec_l1In (m0 + 1) p0 p1 p2 = 
  bif decide (p2 < (List.length p0 : Int)) then
    bif inB p2 (List.length p0) then
      Option.bind (F_spec_l1In ((IntKind.wrap .i64 (byteAt p0 p2)), 32, 126, ())) fun r2 =>
      bif !r2.1 then
        some (false, ())
      else
        bif inB p2 (List.length p0) then
          bif decide ((byteAt p0 p2) = 35) then
            some (false, ())
          else
            L_spec_l12Bytes_2 n F_spec_l1In m0 p0 p1 (IntKind.wrap .i64 (p2 + 1))
        else none
    else none
  else
    some (decide ((List.length p0 : Int) ≤ p1), ()) := by kernel_rfl
noncomputable def P_spec_l12Bytes : Ft_spec_l12Bytes := hid (runF (X_spec_l12Bytes N P_spec_l1In) B_spec_l12Bytes As_spec_l12Bytes R_spec_l12Bytes M_spec_l12Bytes)
theorem h_spec_l12Bytes : P_spec_l12Bytes = runF (X_spec_l12Bytes N P_spec_l1In) B_spec_l12Bytes As_spec_l12Bytes R_spec_l12Bytes M_spec_l12Bytes := hid_eq _
noncomputable def C_spec_l12Bytes : Contract := ⟨As_spec_l12Bytes, R_spec_l12Bytes, M_spec_l12Bytes, P_spec_l12Bytes⟩
theorem s_spec_l12Bytes : Sound Tryd.prog GG 66 C_spec_l12Bytes := by
  unfold C_spec_l12Bytes; rw [h_spec_l12Bytes]
  exact sound_of_run (fn := Tryd.f66) hmix hstable (tyOK_of ttOK) (hglob (X_spec_l12Bytes N P_spec_l1In)) (conOK_of (X := X_spec_l12Bytes N P_spec_l1In) ⟨s_spec_l1In, trivial⟩) (mconOK_of (X := X_spec_l12Bytes N P_spec_l1In) trivial) (by kernel_rfl) (by kernel_rfl) (by kernel_rfl) (by kernel_rfl) (by kernel_rfl) (of_decide_eq_true (by kernel_rfl))
noncomputable def l_spec_l12Bytes_2 : Nat → (List UInt8) → Int → Int → Option (denL R_spec_l12Bytes) := hid (fun m0 p0 p1 p2 => L_spec_l12Bytes_2 N P_spec_l1In m0 p0 p1 p2)
theorem h_spec_l12Bytes_2 : l_spec_l12Bytes_2 = fun m0 p0 p1 p2 => L_spec_l12Bytes_2 N P_spec_l1In m0 p0 p1 p2 := hid_eq _
theorem p_spec_l12Bytes (a0 : List UInt8) (a1 : Int) : P_spec_l12Bytes (a0, a1, ()) = 
  l_spec_l12Bytes_2 N a0 a1 0 := by
  rewrite [h_spec_l12Bytes, h_spec_l12Bytes_2]
  exact e_spec_l12Bytes N P_spec_l1In a0 a1
theorem q_spec_l12Bytes_2 (m0 : Nat) (p0 : List UInt8) (p1 : Int) (p2 : Int) : l_spec_l12Bytes_2 (m0 + 1) p0 p1 p2 = 
  bif decide (p2 < (List.length p0 : Int)) then
    bif inB p2 (List.length p0) then
      Option.bind (P_spec_l1In ((IntKind.wrap .i64 (byteAt p0 p2)), 32, 126, ())) fun r2 =>
      bif !r2.1 then
        some (false, ())
      else
        bif inB p2 (List.length p0) then
          bif decide ((byteAt p0 p2) = 35) then
            some (false, ())
          else
            l_spec_l12Bytes_2 m0 p0 p1 (IntKind.wrap .i64 (p2 + 1))
        else none
    else none
  else
    some (decide ((List.length p0 : Int) ≤ p1), ()) := by
  rewrite [h_spec_l12Bytes_2]
  exact e_spec_l12Bytes_2 N P_spec_l1In m0 p0 p1 p2

/- 67: loop.example/g01166/spec.l1Stands -/
abbrev As_spec_l1Stands : List ATy := [.data false .str, .data false (.int .u8)]
abbrev R_spec_l1Stands : List (Bool × Ty) := [(false, .bool)]
abbrev M_spec_l1Stands : List RMode := []
abbrev Ft_spec_l1Stands : Type := (List UInt8) × Int × Unit → Option (Bool × Unit)
noncomputable def X_spec_l1Stands (n : Nat) : Ctx := { types := TT, globals := [], con := [], keep := [(2, ⟨[.tmp 0, .tmp 1, .tmp 5], []⟩)], results := [.tmp 4], ntmps := 17, n := n }
noncomputable def B_spec_l1Stands : Code := (Tryd.f67.body).getD .skip
noncomputable def L_spec_l1Stands_2 (n : Nat) (m0 : Nat) (p0 : List UInt8) (p1 : Int) (p2 : Int) : Option (denL R_spec_l1Stands) := loopF (X_spec_l1Stands n) B_spec_l1Stands R_spec_l1Stands M_spec_l1Stands 2 [m0] [(.ver, .num 1), (.tmp 0, .val false [.str p0]), (.tmp 1, .val false [.int .u8 p1]), (.tmp 5, .val false [.int .i64 p2])]
theorem e_spec_l1Stands (n : Nat) (a0 : List UInt8) (a1 : Int) : runF (X_spec_l1Stands n) B_spec_l1Stands As_spec_l1Stands R_spec_l1Stands M_spec_l1Stands (a0, a1, ()) = 
  L_spec_l1Stands_2 n n a0 a1 0 := by kernel_rfl
theorem e_spec_l1Stands_2 (n : Nat) (m0 : Nat) (p0 : List UInt8) (p1 : Int) (p2 : Int) : L_spec_l1Stands_2 n (m0 + 1) p0 p1 p2 = 
  bif decide (p2 < (List.length p0 : Int)) then
    bif inB p2 (List.length p0) then
      bif decide ((byteAt p0 p2) = p1) then
        some (true, ())
      else
        L_spec_l1Stands_2 n m0 p0 p1 (IntKind.wrap .i64 (p2 + 1))
    else none
  else
    some (false, ()) := by kernel_rfl
noncomputable def P_spec_l1Stands : Ft_spec_l1Stands := hid (runF (X_spec_l1Stands N) B_spec_l1Stands As_spec_l1Stands R_spec_l1Stands M_spec_l1Stands)
theorem h_spec_l1Stands : P_spec_l1Stands = runF (X_spec_l1Stands N) B_spec_l1Stands As_spec_l1Stands R_spec_l1Stands M_spec_l1Stands := hid_eq _
noncomputable def C_spec_l1Stands : Contract := ⟨As_spec_l1Stands, R_spec_l1Stands, M_spec_l1Stands, P_spec_l1Stands⟩
theorem s_spec_l1Stands : Sound Tryd.prog GG 67 C_spec_l1Stands := by
  unfold C_spec_l1Stands; rw [h_spec_l1Stands]
  exact sound_of_run (fn := Tryd.f67) hmix hstable (tyOK_of ttOK) (hglob (X_spec_l1Stands N)) (conOK_of (X := X_spec_l1Stands N) trivial) (mconOK_of (X := X_spec_l1Stands N) trivial) (by kernel_rfl) (by kernel_rfl) (by kernel_rfl) (by kernel_rfl) (by kernel_rfl) (of_decide_eq_true (by kernel_rfl))
noncomputable def l_spec_l1Stands_2 : Nat → (List UInt8) → Int → Int → Option (denL R_spec_l1Stands) := hid (fun m0 p0 p1 p2 => L_spec_l1Stands_2 N m0 p0 p1 p2)
theorem h_spec_l1Stands_2 : l_spec_l1Stands_2 = fun m0 p0 p1 p2 => L_spec_l1Stands_2 N m0 p0 p1 p2 := hid_eq _
theorem p_spec_l1Stands (a0 : List UInt8) (a1 : Int) : P_spec_l1Stands (a0, a1, ()) = 
  l_spec_l1Stands_2 N a0 a1 0 := by
  rewrite [h_spec_l1Stands, h_spec_l1Stands_2]
  exact e_spec_l1Stands N a0 a1
theorem q_spec_l1Stands_2 (m0 : Nat) (p0 : List UInt8) (p1 : Int) (p2 : Int) : l_spec_l1Stands_2 (m0 + 1) p0 p1 p2 = 
  bif decide (p2 < (List.length p0 : Int)) then
    bif inB p2 (List.length p0) then
      bif decide ((byteAt p0 p2) = p1) then
        some (true, ())
      else
        l_spec_l1Stands_2 m0 p0 p1 (IntKind.wrap .i64 (p2 + 1))
    else none
  else
    some (false, ()) := by
  rewrite [h_spec_l1Stands_2]
  exact e_spec_l1Stands_2 N m0 p0 p1 p2

/- 46: loop.example/g01166/spec.l12Record -/
abbrev As_spec_l12Record : List ATy := [.data true T_LogRecord]
abbrev R_spec_l12Record : List (Bool × Ty) := [(false, .bool)]
abbrev M_spec_l12Record : List RMode := []
abbrev Ft_spec_l12Record : Type := D_LogRecord × Unit → Option (Bool × Unit)
noncomputable def X_spec_l12Record (n : Nat) (F_spec_l12Bytes : Ft_spec_l12Bytes) (F_spec_l1Stands : Ft_spec_l1Stands) : Ctx := { types := TT, globals := [], con := [(66, ⟨As_spec_l12Bytes, R_spec_l12Bytes, M_spec_l12Bytes, F_spec_l12Bytes⟩), (67, ⟨As_spec_l1Stands, R_spec_l1Stands, M_spec_l1Stands, F_spec_l1Stands⟩)], keep := [], results := [.tmp 2], ntmps := 22, n := n }
noncomputable def B_spec_l12Record : Code := (Tryd.f46.body).getD .skip
theorem e_spec_l12Record (n : Nat) (F_spec_l12Bytes : Ft_spec_l12Bytes) (F_spec_l1Stands : Ft_spec_l1Stands) (a0 : D_LogRecord) : runF (X_spec_l12Record n F_spec_l12Bytes F_spec_l1Stands) B_spec_l12Record As_spec_l12Record R_spec_l12Record M_spec_l12Record (a0, ()) = 
  bif !(a0.1 == ([] : List UInt8)) then
    Option.bind (F_spec_l12Bytes (a0.1, 160, ())) fun r1 =>
    bif r1.1 then
      Option.bind (F_spec_l1Stands (a0.1, 64, ())) fun r3 =>
      bif !r3.1 then
        Option.bind (F_spec_l12Bytes (a0.2.1, 300, ())) fun r5 =>
        some (r5.1, ())
      else
        some (false, ())
    else
      some (false, ())
  else
    some (false, ()) := by kernel_rfl
noncomputable def P_spec_l12Record : Ft_spec_l12Record := hid (runF (X_spec_l12Record N P_spec_l12Bytes P_spec_l1Stands) B_spec_l12Record As_spec_l12Record R_spec_l12Record M_spec_l12Record)
theorem h_spec_l12Record : P_spec_l12Record = runF (X_spec_l12Record N P_spec_l12Bytes P_spec_l1Stands) B_spec_l12Record As_spec_l12Record R_spec_l12Record M_spec_l12Record := hid_eq _
noncomputable def C_spec_l12Record : Contract := ⟨As_spec_l12Record, R_spec_l12Record, M_spec_l12Record, P_spec_l12Record⟩
theorem s_spec_l12Record : Sound Tryd.prog GG 46 C_spec_l12Record := by
  unfold C_spec_l12Record; rw [h_spec_l12Record]
  exact sound_of_run (fn := Tryd.f46) hmix hstable (tyOK_of ttOK) (hglob (X_spec_l12Record N P_spec_l12Bytes P_spec_l1Stands)) (conOK_of (X := X_spec_l12Record N P_spec_l12Bytes P_spec_l1Stands) ⟨s_spec_l12Bytes, s_spec_l1Stands, trivial⟩) (mconOK_of (X := X_spec_l12Record N P_spec_l12Bytes P_spec_l1Stands) trivial) (by kernel_rfl) (by kernel_rfl) (by kernel_rfl) (by kernel_rfl) (by kernel_rfl) (of_decide_eq_true (by kernel_rfl))
theorem p_spec_l12Record (a0 : D_LogRecord) : P_spec_l12Record (a0, ()) = 
  bif !(a0.1 == ([] : List UInt8)) then
    Option.bind (P_spec_l12Bytes (a0.1, 160, ())) fun r1 =>
    bif r1.1 then
      Option.bind (P_spec_l1Stands (a0.1, 64, ())) fun r3 =>
      bif !r3.1 then
        Option.bind (P_spec_l12Bytes (a0.2.1, 300, ())) fun r5 =>
        some (r5.1, ())
      else
        some (false, ())
    else
      some (false, ())
  else
    some (false, ()) := by
  rewrite [h_spec_l12Record]
  exact e_spec_l12Record N P_spec_l12Bytes P_spec_l1Stands a0

/- 69: loop.example/g01166/spec.l1Num -/
abbrev As_spec_l1Num : List ATy := [.data false (.int .i64)]
abbrev R_spec_l1Num : List (Bool × Ty) := [(false, .str)]
abbrev M_spec_l1Num : List RMode := []
abbrev Ft_spec_l1Num : Type := Int × Unit → Option ((List UInt8) × Unit)
noncomputable def X_spec_l1Num (n : Nat) (F_spec_l1Num : Ft_spec_l1Num) : Ctx := { types := TT, globals := [], con := [(69, ⟨As_spec_l1Num, R_spec_l1Num, M_spec_l1Num, F_spec_l1Num⟩)], keep := [], results := [.tmp 2], ntmps := 25, n := n }
noncomputable def B_spec_l1Num : Code := (Tryd.f69.body).getD .skip
theorem e_spec_l1Num (n : Nat) (F_spec_l1Num : Ft_spec_l1Num) (a0 : Int) : runF (X_spec_l1Num n F_spec_l1Num) B_spec_l1Num As_spec_l1Num R_spec_l1Num M_spec_l1Num (a0, ()) = 
  bif decide (a0 < 0) then
    Option.bind (F_spec_l1Num ((IntKind.wrap .i64 (0 - a0)), ())) fun r1 =>
    Option.bind (catS ([45] : List UInt8) r1.1) fun r2 =>
    some (r2, ())
  else
    bif decide (a0 < 10) then
      bif (decide ((0 : Int) ≤ a0) && decide (a0 ≤ (IntKind.wrap .i64 (a0 + 1))) && decide ((IntKind.wrap .i64 (a0 + 1)) ≤ 10)) then
        some ((cut ([48, 49, 50, 51, 52, 53, 54, 55, 56, 57] : List UInt8) a0 (IntKind.wrap .i64 (a0 + 1))), ())
      else none
    else
      Option.bind (F_spec_l1Num ((IntKind.wrap .i64 (Int.tdiv a0 10)), ())) fun r2 =>
      bif (decide ((0 : Int) ≤ (Int.tmod a0 10)) && decide ((Int.tmod a0 10) ≤ (IntKind.wrap .i64 ((Int.tmod a0 10) + 1))) && decide ((IntKind.wrap .i64 ((Int.tmod a0 10) + 1)) ≤ 10)) then
        Option.bind (catS r2.1 (cut ([48, 49, 50, 51, 52, 53, 54, 55, 56, 57] : List UInt8) (Int.tmod a0 10) (IntKind.wrap .i64 ((Int.tmod a0 10) + 1)))) fun r4 =>
        some (r4, ())
      else none := by kernel_rfl
noncomputable def Pk_spec_l1Num : Nat → Ft_spec_l1Num
  | 0 => fun _ => none
  | k + 1 => runF (X_spec_l1Num N (Pk_spec_l1Num k)) B_spec_l1Num As_spec_l1Num R_spec_l1Num M_spec_l1Num
theorem sk_spec_l1Num : ∀ k, Sound Tryd.prog GG 69 ⟨As_spec_l1Num, R_spec_l1Num, M_spec_l1Num, Pk_spec_l1Num k⟩
  | 0 => sound_none
  | k + 1 => by
    have ih := sk_spec_l1Num k
    exact sound_of_run (fn := Tryd.f69) hmix hstable (tyOK_of ttOK) (hglob (X_spec_l1Num N (Pk_spec_l1Num k))) (conOK_of (X := X_spec_l1Num N (Pk_spec_l1Num k)) ⟨ih, trivial⟩) (mconOK_of (X := X_spec_l1Num N (Pk_spec_l1Num k)) trivial) (by kernel_rfl) (by kernel_rfl) (by kernel_rfl) (by kernel_rfl) (by kernel_rfl) (of_decide_eq_true (by kernel_rfl))
noncomputable def P_spec_l1Num : Ft_spec_l1Num := Pk_spec_l1Num N
noncomputable def C_spec_l1Num : Contract := ⟨As_spec_l1Num, R_spec_l1Num, M_spec_l1Num, P_spec_l1Num⟩
theorem s_spec_l1Num : Sound Tryd.prog GG 69 C_spec_l1Num := sk_spec_l1Num N
theorem p_spec_l1Num (k : Nat) (a0 : Int) : Pk_spec_l1Num (k + 1) (a0, ()) = 
  bif decide (a0 < 0) then
    Option.bind (Pk_spec_l1Num k ((IntKind.wrap .i64 (0 - a0)), ())) fun r1 =>
    Option.bind (catS ([45] : List UInt8) r1.1) fun r2 =>
    some (r2, ())
  else
    bif decide (a0 < 10) then
      bif (decide ((0 : Int) ≤ a0) && decide (a0 ≤ (IntKind.wrap .i64 (a0 + 1))) && decide ((IntKind.wrap .i64 (a0 + 1)) ≤ 10)) then
        some ((cut ([48, 49, 50, 51, 52, 53, 54, 55, 56, 57] : List UInt8) a0 (IntKind.wrap .i64 (a0 + 1))), ())
      else none
    else
      Option.bind (Pk_spec_l1Num k ((IntKind.wrap .i64 (Int.tdiv a0 10)), ())) fun r2 =>
      bif (decide ((0 : Int) ≤ (Int.tmod a0 10)) && decide ((Int.tmod a0 10) ≤ (IntKind.wrap .i64 ((Int.tmod a0 10) + 1))) && decide ((IntKind.wrap .i64 ((Int.tmod a0 10) + 1)) ≤ 10)) then
        Option.bind (catS r2.1 (cut ([48, 49, 50, 51, 52, 53, 54, 55, 56, 57] : List UInt8) (Int.tmod a0 10) (IntKind.wrap .i64 ((Int.tmod a0 10) + 1)))) fun r4 =>
        some (r4, ())
      else none := by
  exact e_spec_l1Num N (Pk_spec_l1Num k) a0

/- 81: loop.example/g01166/spec.l1Sum -/
abbrev As_spec_l1Sum : List ATy := [.data false .str]
abbrev R_spec_l1Sum : List (Bool × Ty) := [(false, (.int .i64))]
abbrev M_spec_l1Sum : List RMode := []
abbrev Ft_spec_l1Sum : Type := (List UInt8) × Unit → Option (Int × Unit)
noncomputable def X_spec_l1Sum (n : Nat) : Ctx := { types := TT, globals := [], con := [], keep := [(3, ⟨[.tmp 0, .tmp 3, .tmp 4], []⟩)], results := [.tmp 2], ntmps := 21, n := n }
noncomputable def B_spec_l1Sum : Code := (Tryd.f81.body).getD .skip
noncomputable def L_spec_l1Sum_3 (n : Nat) (m0 : Nat) (p0 : List UInt8) (p1 : Int) (p2 : Int) : Option (denL R_spec_l1Sum) := loopF (X_spec_l1Sum n) B_spec_l1Sum R_spec_l1Sum M_spec_l1Sum 3 [m0] [(.ver, .num 1), (.tmp 0, .val false [.str p0]), (.tmp 3, .val false [.int .i64 p1]), (.tmp 4, .val false [.int .i64 p2])]
theorem e_spec_l1Sum (n : Nat) (a0 : List UInt8) : runF (X_spec_l1Sum n) B_spec_l1Sum As_spec_l1Sum R_spec_l1Sum M_spec_l1Sum (a0, ()) = 
  L_spec_l1Sum_3 n n a0 7 0 := by kernel_rfl
theorem e_spec_l1Sum_3 (n : Nat) (m0 : Nat) (p0 : List UInt8) (p1 : Int) (p2 : Int) : L_spec_l1Sum_3 n (m0 + 1) p0 p1 p2 = 
  bif decide (p2 < (List.length p0 : Int)) then
    bif inB p2 (List.length p0) then
      L_spec_l1Sum_3 n m0 p0 (Int.tmod (IntKind.wrap .i64 ((IntKind.wrap .i64 ((IntKind.wrap .i64 (41 * p1)) + (IntKind.wrap .i64 (byteAt p0 p2)))) + 1)) 999979) (IntKind.wrap .i64 (p2 + 1))
    else none
  else
    some (p1, ()) := by kernel_rfl
noncomputable def P_spec_l1Sum : Ft_spec_l1Sum := hid (runF (X_spec_l1Sum N) B_spec_l1Sum As_spec_l1Sum R_spec_l1Sum M_spec_l1Sum)
theorem h_spec_l1Sum : P_spec_l1Sum = runF (X_spec_l1Sum N) B_spec_l1Sum As_spec_l1Sum R_spec_l1Sum M_spec_l1Sum := hid_eq _
noncomputable def C_spec_l1Sum : Contract := ⟨As_spec_l1Sum, R_spec_l1Sum, M_spec_l1Sum, P_spec_l1Sum⟩
theorem s_spec_l1Sum : Sound Tryd.prog GG 81 C_spec_l1Sum := by
  unfold C_spec_l1Sum; rw [h_spec_l1Sum]
  exact sound_of_run (fn := Tryd.f81) hmix hstable (tyOK_of ttOK) (hglob (X_spec_l1Sum N)) (conOK_of (X := X_spec_l1Sum N) trivial) (mconOK_of (X := X_spec_l1Sum N) trivial) (by kernel_rfl) (by kernel_rfl) (by kernel_rfl) (by kernel_rfl) (by kernel_rfl) (of_decide_eq_true (by kernel_rfl))
noncomputable def l_spec_l1Sum_3 : Nat → (List UInt8) → Int → Int → Option (denL R_spec_l1Sum) := hid (fun m0 p0 p1 p2 => L_spec_l1Sum_3 N m0 p0 p1 p2)
theorem h_spec_l1Sum_3 : l_spec_l1Sum_3 = fun m0 p0 p1 p2 => L_spec_l1Sum_3 N m0 p0 p1 p2 := hid_eq _
theorem p_spec_l1Sum (a0 : List UInt8) : P_spec_l1Sum (a0, ()) = 
  l_spec_l1Sum_3 N a0 7 0 := by
  rewrite [h_spec_l1Sum, h_spec_l1Sum_3]
  exact e_spec_l1Sum N a0
theorem q_spec_l1Sum_3 (m0 : Nat) (p0 : List UInt8) (p1 : Int) (p2 : Int) : l_spec_l1Sum_3 (m0 + 1) p0 p1 p2 = 
  bif decide (p2 < (List.length p0 : Int)) then
    bif inB p2 (List.length p0) then
      l_spec_l1Sum_3 m0 p0 (Int.tmod (IntKind.wrap .i64 ((IntKind.wrap .i64 ((IntKind.wrap .i64 (41 * p1)) + (IntKind.wrap .i64 (byteAt p0 p2)))) + 1)) 999979) (IntKind.wrap .i64 (p2 + 1))
    else none
  else
    some (p1, ()) := by
  rewrite [h_spec_l1Sum_3]
  exact e_spec_l1Sum_3 N m0 p0 p1 p2

/- 68: loop.example/g01166/spec.l1Seal -/
abbrev As_spec_l1Seal : List ATy := [.data false .str]
abbrev R_spec_l1Seal : List (Bool × Ty) := [(false, .str)]
abbrev M_spec_l1Seal : List RMode := []
abbrev Ft_spec_l1Seal : Type := (List UInt8) × Unit → Option ((List UInt8) × Unit)
noncomputable def X_spec_l1Seal (n : Nat) (F_spec_l1Num : Ft_spec_l1Num) (F_spec_l1Sum : Ft_spec_l1Sum) : Ctx := { types := TT, globals := [], con := [(69, ⟨As_spec_l1Num, R_spec_l1Num, M_spec_l1Num, F_spec_l1Num⟩), (81, ⟨As_spec_l1Sum, R_spec_l1Sum, M_spec_l1Sum, F_spec_l1Sum⟩)], keep := [], results := [.tmp 2], ntmps := 9, n := n }
noncomputable def B_spec_l1Seal : Code := (Tryd.f68.body).getD .skip
theorem e_spec_l1Seal (n : Nat) (F_spec_l1Num : Ft_spec_l1Num) (F_spec_l1Sum : Ft_spec_l1Sum) (a0 : List UInt8) : runF (X_spec_l1Seal n F_spec_l1Num F_spec_l1Sum) B_spec_l1Seal As_spec_l1Seal R_spec_l1Seal M_spec_l1Seal (a0, ()) = 
  Option.bind (catS a0 ([35] : List UInt8)) fun r0 =>
  Option.bind (F_spec_l1Sum (a0, ())) fun r1 =>
  Option.bind (F_spec_l1Num (r1.1, ())) fun r2 =>
  Option.bind (catS r0 r2.1) fun r3 =>
  some (r3, ()) := by kernel_rfl
noncomputable def P_spec_l1Seal : Ft_spec_l1Seal := hid (runF (X_spec_l1Seal N P_spec_l1Num P_spec_l1Sum) B_spec_l1Seal As_spec_l1Seal R_spec_l1Seal M_spec_l1Seal)
theorem h_spec_l1Seal : P_spec_l1Seal = runF (X_spec_l1Seal N P_spec_l1Num P_spec_l1Sum) B_spec_l1Seal As_spec_l1Seal R_spec_l1Seal M_spec_l1Seal := hid_eq _
noncomputable def C_spec_l1Seal : Contract := ⟨As_spec_l1Seal, R_spec_l1Seal, M_spec_l1Seal, P_spec_l1Seal⟩
theorem s_spec_l1Seal : Sound Tryd.prog GG 68 C_spec_l1Seal := by
  unfold C_spec_l1Seal; rw [h_spec_l1Seal]
  exact sound_of_run (fn := Tryd.f68) hmix hstable (tyOK_of ttOK) (hglob (X_spec_l1Seal N P_spec_l1Num P_spec_l1Sum)) (conOK_of (X := X_spec_l1Seal N P_spec_l1Num P_spec_l1Sum) ⟨s_spec_l1Num, s_spec_l1Sum, trivial⟩) (mconOK_of (X := X_spec_l1Seal N P_spec_l1Num P_spec_l1Sum) trivial) (by kernel_rfl) (by kernel_rfl) (by kernel_rfl) (by kernel_rfl) (by kernel_rfl) (of_decide_eq_true (by kernel_rfl))
theorem p_spec_l1Seal (a0 : List UInt8) : P_spec_l1Seal (a0, ()) = 
  Option.bind (catS a0 ([35] : List UInt8)) fun r0 =>
  Option.bind (P_spec_l1Sum (a0, ())) fun r1 =>
  Option.bind (P_spec_l1Num (r1.1, ())) fun r2 =>
  Option.bind (catS r0 r2.1) fun r3 =>
  some (r3, ()) := by
  rewrite [h_spec_l1Seal]
  exact e_spec_l1Seal N P_spec_l1Num P_spec_l1Sum a0

/- 47: loop.example/g01166/spec.l12Line -/
abbrev As_spec_l12Line : List ATy := [.data false (.int .i64), .data true T_LogRecord]
abbrev R_spec_l12Line : List (Bool × Ty) := [(false, .str)]
abbrev M_spec_l12Line : List RMode := []
abbrev Ft_spec_l12Line : Type := Int × D_LogRecord × Unit → Option ((List UInt8) × Unit)
noncomputable def X_spec_l12Line (n : Nat) (F_spec_l1Seal : Ft_spec_l1Seal) (F_spec_l1Num : Ft_spec_l1Num) : Ctx := { types := TT, globals := [], con := [(68, ⟨As_spec_l1Seal, R_spec_l1Seal, M_spec_l1Seal, F_spec_l1Seal⟩), (69, ⟨As_spec_l1Num, R_spec_l1Num, M_spec_l1Num, F_spec_l1Num⟩)], keep := [], results := [.tmp 4], ntmps := 17, n := n }
noncomputable def B_spec_l12Line : Code := (Tryd.f47.body).getD .skip
theorem e_spec_l12Line (n : Nat) (F_spec_l1Seal : Ft_spec_l1Seal) (F_spec_l1Num : Ft_spec_l1Num) (a0 : Int) (a1 : D_LogRecord) : runF (X_spec_l12Line n F_spec_l1Seal F_spec_l1Num) B_spec_l12Line As_spec_l12Line R_spec_l12Line M_spec_l12Line (a0, a1, ()) = 
  Option.bind (F_spec_l1Num (a0, ())) fun r0 =>
  Option.bind (catS r0.1 ([32] : List UInt8)) fun r1 =>
  Option.bind (catS r1 a1.1) fun r2 =>
  Option.bind (catS r2 ([64] : List UInt8)) fun r3 =>
  Option.bind (catS r3 a1.2.1) fun r4 =>
  Option.bind (F_spec_l1Seal (r4, ())) fun r5 =>
  Option.bind (catS r5.1 ([10] : List UInt8)) fun r6 =>
  some (r6, ()) := by kernel_rfl
noncomputable def P_spec_l12Line : Ft_spec_l12Line := hid (runF (X_spec_l12Line N P_spec_l1Seal P_spec_l1Num) B_spec_l12Line As_spec_l12Line R_spec_l12Line M_spec_l12Line)
theorem h_spec_l12Line : P_spec_l12Line = runF (X_spec_l12Line N P_spec_l1Seal P_spec_l1Num) B_spec_l12Line As_spec_l12Line R_spec_l12Line M_spec_l12Line := hid_eq _
noncomputable def C_spec_l12Line : Contract := ⟨As_spec_l12Line, R_spec_l12Line, M_spec_l12Line, P_spec_l12Line⟩
theorem s_spec_l12Line : Sound Tryd.prog GG 47 C_spec_l12Line := by
  unfold C_spec_l12Line; rw [h_spec_l12Line]
  exact sound_of_run (fn := Tryd.f47) hmix hstable (tyOK_of ttOK) (hglob (X_spec_l12Line N P_spec_l1Seal P_spec_l1Num)) (conOK_of (X := X_spec_l12Line N P_spec_l1Seal P_spec_l1Num) ⟨s_spec_l1Seal, s_spec_l1Num, trivial⟩) (mconOK_of (X := X_spec_l12Line N P_spec_l1Seal P_spec_l1Num) trivial) (by kernel_rfl) (by kernel_rfl) (by kernel_rfl) (by kernel_rfl) (by kernel_rfl) (of_decide_eq_true (by kernel_rfl))
theorem p_spec_l12Line (a0 : Int) (a1 : D_LogRecord) : P_spec_l12Line (a0, a1, ()) = 
  Option.bind (P_spec_l1Num (a0, ())) fun r0 =>
  Option.bind (catS r0.1 ([32] : List UInt8)) fun r1 =>
  Option.bind (catS r1 a1.1) fun r2 =>
  Option.bind (catS r2 ([64] : List UInt8)) fun r3 =>
  Option.bind (catS r3 a1.2.1) fun r4 =>
  Option.bind (P_spec_l1Seal (r4, ())) fun r5 =>
  Option.bind (catS r5.1 ([10] : List UInt8)) fun r6 =>
  some (r6, ()) := by
  rewrite [h_spec_l12Line]
  exact e_spec_l12Line N P_spec_l1Seal P_spec_l1Num a0 a1

/- 13: loop.example/g01166/spec.EncodeRecord -/
abbrev As_spec_EncodeRecord : List ATy := [.data false (.int .i64), .data true T_LogRecord]
abbrev R_spec_EncodeRecord : List (Bool × Ty) := [(false, .str), (false, .bool)]
abbrev M_spec_EncodeRecord : List RMode := []
abbrev Ft_spec_EncodeRecord : Type := Int × D_LogRecord × Unit → Option ((List UInt8) × Bool × Unit)
noncomputable def X_spec_EncodeRecord (n : Nat) (F_spec_l1In : Ft_spec_l1In) (F_spec_l12Record : Ft_spec_l12Record) (F_spec_l12Line : Ft_spec_l12Line) : Ctx := { types := TT, globals := [], con := [(45, ⟨As_spec_l1In, R_spec_l1In, M_spec_l1In, F_spec_l1In⟩), (46, ⟨As_spec_l12Record, R_spec_l12Record, M_spec_l12Record, F_spec_l12Record⟩), (47, ⟨As_spec_l12Line, R_spec_l12Line, M_spec_l12Line, F_spec_l12Line⟩)], keep := [], results := [.tmp 4, .tmp 5], ntmps := 17, n := n }
noncomputable def B_spec_EncodeRecord : Code := (Tryd.f13.body).getD .skip
theorem e_spec_EncodeRecord (n : Nat) (F_spec_l1In : Ft_spec_l1In) (F_spec_l12Record : Ft_spec_l12Record) (F_spec_l12Line : Ft_spec_l12Line) (a0 : Int) (a1 : D_LogRecord) : runF (X_spec_EncodeRecord n F_spec_l1In F_spec_l12Record F_spec_l12Line) B_spec_EncodeRecord As_spec_EncodeRecord R_spec_EncodeRecord M_spec_EncodeRecord (a0, a1, ()) = 
  Option.bind (F_spec_l1In (a0, 0, 59, ())) fun r0 =>
  bif !r0.1 then
    some (([] : List UInt8), false, ())
  else
    Option.bind (F_spec_l12Record (a1, ())) fun r2 =>
    bif !r2.1 then
      some (([] : List UInt8), false, ())
    else
      Option.bind (F_spec_l12Line (a0, a1, ())) fun r4 =>
      some (r4.1, true, ()) := by kernel_rfl
noncomputable def P_spec_EncodeRecord : Ft_spec_EncodeRecord := hid (runF (X_spec_EncodeRecord N P_spec_l1In P_spec_l12Record P_spec_l12Line) B_spec_EncodeRecord As_spec_EncodeRecord R_spec_EncodeRecord M_spec_EncodeRecord)
theorem h_spec_EncodeRecord : P_spec_EncodeRecord = runF (X_spec_EncodeRecord N P_spec_l1In P_spec_l12Record P_spec_l12Line) B_spec_EncodeRecord As_spec_EncodeRecord R_spec_EncodeRecord M_spec_EncodeRecord := hid_eq _
noncomputable def C_spec_EncodeRecord : Contract := ⟨As_spec_EncodeRecord, R_spec_EncodeRecord, M_spec_EncodeRecord, P_spec_EncodeRecord⟩
theorem s_spec_EncodeRecord : Sound Tryd.prog GG 13 C_spec_EncodeRecord := by
  unfold C_spec_EncodeRecord; rw [h_spec_EncodeRecord]
  exact sound_of_run (fn := Tryd.f13) hmix hstable (tyOK_of ttOK) (hglob (X_spec_EncodeRecord N P_spec_l1In P_spec_l12Record P_spec_l12Line)) (conOK_of (X := X_spec_EncodeRecord N P_spec_l1In P_spec_l12Record P_spec_l12Line) ⟨s_spec_l1In, s_spec_l12Record, s_spec_l12Line, trivial⟩) (mconOK_of (X := X_spec_EncodeRecord N P_spec_l1In P_spec_l12Record P_spec_l12Line) trivial) (by kernel_rfl) (by kernel_rfl) (by kernel_rfl) (by kernel_rfl) (by kernel_rfl) (of_decide_eq_true (by kernel_rfl))
theorem p_spec_EncodeRecord (a0 : Int) (a1 : D_LogRecord) : P_spec_EncodeRecord (a0, a1, ()) = 
  Option.bind (P_spec_l1In (a0, 0, 59, ())) fun r0 =>
  bif !r0.1 then
    some (([] : List UInt8), false, ())
  else
    Option.bind (P_spec_l12Record (a1, ())) fun r2 =>
    bif !r2.1 then
      some (([] : List UInt8), false, ())
    else
      Option.bind (P_spec_l12Line (a0, a1, ())) fun r4 =>
      some (r4.1, true, ()) := by
  rewrite [h_spec_EncodeRecord]
  exact e_spec_EncodeRecord N P_spec_l1In P_spec_l12Record P_spec_l12Line a0 a1

/- 14: loop.example/g01166/laws.toLogRecord -/
abbrev As_laws_toLogRecord : List ATy := [.data true T_LogRecord]
abbrev R_laws_toLogRecord : List (Bool × Ty) := [(true, T_LogRecord)]
abbrev M_laws_toLogRecord : List RMode := []
abbrev Ft_laws_toLogRecord : Type := D_LogRecord × Unit → Option (D_LogRecord × Unit)
noncomputable def X_laws_toLogRecord (n : Nat) : Ctx := { types := TT, globals := [], con := [], keep := [], results := [.cell 2 27], ntmps := 11, n := n }
noncomputable def B_laws_toLogRecord : Code := (Tryd.f14.body).getD .skip
theorem e_laws_toLogRecord (n : Nat) (a0 : D_LogRecord) : runF (X_laws_toLogRecord n) B_laws_toLogRecord As_laws_toLogRecord R_laws_toLogRecord M_laws_toLogRecord (a0, ()) = 
  some (a0, ()) := by kernel_rfl
noncomputable def P_laws_toLogRecord : Ft_laws_toLogRecord := hid (runF (X_laws_toLogRecord N) B_laws_toLogRecord As_laws_toLogRecord R_laws_toLogRecord M_laws_toLogRecord)
theorem h_laws_toLogRecord : P_laws_toLogRecord = runF (X_laws_toLogRecord N) B_laws_toLogRecord As_laws_toLogRecord R_laws_toLogRecord M_laws_toLogRecord := hid_eq _
noncomputable def C_laws_toLogRecord : Contract := ⟨As_laws_toLogRecord, R_laws_toLogRecord, M_laws_toLogRecord, P_laws_toLogRecord⟩
theorem s_laws_toLogRecord : Sound Tryd.prog GG 14 C_laws_toLogRecord := by
  unfold C_laws_toLogRecord; rw [h_laws_toLogRecord]
  exact sound_of_run (fn := Tryd.f14) hmix hstable (tyOK_of ttOK) (hglob (X_laws_toLogRecord N)) (conOK_of (X := X_laws_toLogRecord N) trivial) (mconOK_of (X := X_laws_toLogRecord N) trivial) (by kernel_rfl) (by kernel_rfl) (by kernel_rfl) (by kernel_rfl) (by kernel_rfl) (of_decide_eq_true (by kernel_rfl))
theorem p_laws_toLogRecord (a0 : D_LogRecord) : P_laws_toLogRecord (a0, ()) = 
  some (a0, ()) := by
  rewrite [h_laws_toLogRecord]
  exact e_laws_toLogRecord N a0

/- 80: strings.ContainsAny: GIVEN -/
abbrev As_strings_ContainsAny : List ATy := [.data false .str, .data false .str]
abbrev R_strings_ContainsAny : List (Bool × Ty) := [(false, .bool)]
abbrev M_strings_ContainsAny : List RMode := []
abbrev Ft_strings_ContainsAny : Type := (List UInt8) × (List UInt8) × Unit → Option (Bool × Unit)
def ascii (s : List UInt8) : Bool := decide (s.length < 4294967281) && s.all fun b => decide (b.toNat < 128)
noncomputable def P_strings_ContainsAny : Ft_strings_ContainsAny := fun x => bif ascii x.1 && ascii x.2.1 then some (Lib.containsAny x.1 x.2.1, ()) else none
noncomputable def C_strings_ContainsAny : Contract := ⟨As_strings_ContainsAny, R_strings_ContainsAny, M_strings_ContainsAny, P_strings_ContainsAny⟩
theorem ascii_at {s : List UInt8} (h : ascii s = true) (j : Nat) (b : UInt8) (hj : s[j]? = some b) : b.toNat < 128 := by
  simp only [ascii, Bool.and_eq_true, List.all_eq_true, decide_eq_true_eq] at h
  exact h.2 b (List.mem_of_getElem? hj)
theorem s_strings_ContainsAny : Sound Tryd.prog GG 80 C_strings_ContainsAny := by
  refine sound_flat (fn := Tryd.f80) (c := (Tryd.f80.body).getD .skip) (by decide) (by decide) Tryd.func80 (by kernel_rfl) (by kernel_rfl) ?_
  rintro w ⟨s, ch, ⟨⟩⟩ ⟨r, ⟨⟩⟩ _ hF
  have hF : (bif ascii s && ascii ch then some (Lib.containsAny s ch, ()) else none) = some (r, ()) := hF
  cases h : ascii s && ascii ch with
  | false => rw [h] at hF; cases hF
  | true =>
    rw [h] at hF
    simp only [Bool.and_eq_true] at h
    obtain ⟨h1, h2⟩ := h
    have hr : Lib.containsAny s ch = r := by simpa using hF
    have hl1 : s.length < 4294967281 := by simp only [ascii, Bool.and_eq_true, decide_eq_true_eq] at h1; exact h1.1
    have hl2 : ch.length < 4294967281 := by simp only [ascii, Bool.and_eq_true, decide_eq_true_eq] at h2; exact h2.1
    have := Tryd.strings_ContainsAny_laid ⟨s.toArray⟩ ⟨ch.toArray⟩ w (by simpa [ByteArray.size] using hl1) (by simpa [ByteArray.size] using hl2) (fun j b hj => ascii_at h1 j b (by simpa using hj)) (fun j b hj => ascii_at h2 j b (by simpa using hj))
    rw [← hr]
    exact this
/- 63: loop.example/g01166/impl.isPlain -/
abbrev As_impl_isPlain : List ATy := [.data false .str, .data false (.int .i64), .data false .str]
abbrev R_impl_isPlain : List (Bool × Ty) := [(false, .bool)]
abbrev M_impl_isPlain : List RMode := []
abbrev Ft_impl_isPlain : Type := (List UInt8) × Int × (List UInt8) × Unit → Option (Bool × Unit)
noncomputable def X_impl_isPlain (n : Nat) (F_strings_ContainsAny : Ft_strings_ContainsAny) : Ctx := { types := TT, globals := [], con := [(80, ⟨As_strings_ContainsAny, R_strings_ContainsAny, M_strings_ContainsAny, F_strings_ContainsAny⟩)], keep := [(2, ⟨[.tmp 0, .tmp 1, .tmp 2, .tmp 9, .tmp 10], []⟩)], results := [.tmp 6], ntmps := 34, n := n }
noncomputable def B_impl_isPlain : Code := (Tryd.f63.body).getD .skip
noncomputable def L_impl_isPlain_2 (n : Nat) (F_strings_ContainsAny : Ft_strings_ContainsAny) (m0 : Nat) (p0 : List UInt8) (p1 : Int) (p2 : List UInt8) (p3 : Int) (p4 : Int) : Option (denL R_impl_isPlain) := loopF (X_impl_isPlain n F_strings_ContainsAny) B_impl_isPlain R_impl_isPlain M_impl_isPlain 2 [m0] [(.ver, .num 1), (.tmp 0, .val false [.str p0]), (.tmp 1, .val false [.int .i64 p1]), (.tmp 2, .val false [.str p2]), (.tmp 9, .val false [.int .i64 p3]), (.tmp 10, .val false [.int .i64 p4])]
theorem e_impl_isPlain (n : Nat) (F_strings_ContainsAny : Ft_strings_ContainsAny) (a0 : List UInt8) (a1 : Int) (a2 : List UInt8) : runF (X_impl_isPlain n F_strings_ContainsAny) B_impl_isPlain As_impl_isPlain R_impl_isPlain M_impl_isPlain (a0, a1, a2, ()) = 
  L_impl_isPlain_2 n F_strings_ContainsAny n a0 a1 a2 (List.length a0 : Int) 0 := by kernel_rfl
theorem e_impl_isPlain_2 (n : Nat) (F_strings_ContainsAny : Ft_strings_ContainsAny) (m0 : Nat) (p0 : List UInt8) (p1 : Int) (p2 : List UInt8) (p3 : Int) (p4 : Int) : L_impl_isPlain_2 n F_strings_ContainsAny (m0 + 1) p0 p1 p2 p3 p4 = 
  bif decide (p4 < p3) then
    bif inB p4 (List.length p0) then
      bif decide ((byteAt p0 p4) < 32) then
        some (false, ())
      else
        bif inB p4 (List.length p0) then
          bif decide ((byteAt p0 p4) > 126) then
            some (false, ())
          else
            L_impl_isPlain_2 n F_strings_ContainsAny m0 p0 p1 p2 p3 (IntKind.wrap .i64 (p4 + 1))
        else none
    else none
  else
    bif decide ((List.length p0 : Int) ≤ p1) then
      Option.bind (F_strings_ContainsAny (p0, p2, ())) fun r2 =>
      some (!r2.1, ())
    else
      some (false, ()) := by kernel_rfl
noncomputable def P_impl_isPlain : Ft_impl_isPlain := hid (runF (X_impl_isPlain N P_strings_ContainsAny) B_impl_isPlain As_impl_isPlain R_impl_isPlain M_impl_isPlain)
theorem h_impl_isPlain : P_impl_isPlain = runF (X_impl_isPlain N P_strings_ContainsAny) B_impl_isPlain As_impl_isPlain R_impl_isPlain M_impl_isPlain := hid_eq _
noncomputable def C_impl_isPlain : Contract := ⟨As_impl_isPlain, R_impl_isPlain, M_impl_isPlain, P_impl_isPlain⟩
theorem s_impl_isPlain : Sound Tryd.prog GG 63 C_impl_isPlain := by
  unfold C_impl_isPlain; rw [h_impl_isPlain]
  exact sound_of_run (fn := Tryd.f63) hmix hstable (tyOK_of ttOK) (hglob (X_impl_isPlain N P_strings_ContainsAny)) (conOK_of (X := X_impl_isPlain N P_strings_ContainsAny) ⟨s_strings_ContainsAny, trivial⟩) (mconOK_of (X := X_impl_isPlain N P_strings_ContainsAny) trivial) (by kernel_rfl) (by kernel_rfl) (by kernel_rfl) (by kernel_rfl) (by kernel_rfl) (of_decide_eq_true (by kernel_rfl))
noncomputable def l_impl_isPlain_2 : Nat → (List UInt8) → Int → (List UInt8) → Int → Int → Option (denL R_impl_isPlain) := hid (fun m0 p0 p1 p2 p3 p4 => L_impl_isPlain_2 N P_strings_ContainsAny m0 p0 p1 p2 p3 p4)
theorem h_impl_isPlain_2 : l_impl_isPlain_2 = fun m0 p0 p1 p2 p3 p4 => L_impl_isPlain_2 N P_strings_ContainsAny m0 p0 p1 p2 p3 p4 := hid_eq _
theorem p_impl_isPlain (a0 : List UInt8) (a1 : Int) (a2 : List UInt8) : P_impl_isPlain (a0, a1, a2, ()) = 
  l_impl_isPlain_2 N a0 a1 a2 (List.length a0 : Int) 0 := by
  rewrite [h_impl_isPlain, h_impl_isPlain_2]
  exact e_impl_isPlain N P_strings_ContainsAny a0 a1 a2
theorem q_impl_isPlain_2 (m0 : Nat) (p0 : List UInt8) (p1 : Int) (p2 : List UInt8) (p3 : Int) (p4 : Int) : l_impl_isPlain_2 (m0 + 1) p0 p1 p2 p3 p4 = 
  bif decide (p4 < p3) then
    bif inB p4 (List.length p0) then
      bif decide ((byteAt p0 p4) < 32) then
        some (false, ())
      else
        bif inB p4 (List.length p0) then
          bif decide ((byteAt p0 p4) > 126) then
            some (false, ())
          else
            l_impl_isPlain_2 m0 p0 p1 p2 p3 (IntKind.wrap .i64 (p4 + 1))
        else none
    else none
  else
    bif decide ((List.length p0 : Int) ≤ p1) then
      Option.bind (P_strings_ContainsAny (p0, p2, ())) fun r2 =>
      some (!r2.1, ())
    else
      some (false, ()) := by
  rewrite [h_impl_isPlain_2]
  exact e_impl_isPlain_2 N P_strings_ContainsAny m0 p0 p1 p2 p3 p4

/- 62: loop.example/g01166/impl.isCommand -/
abbrev As_impl_isCommand : List ATy := [.data false .str]
abbrev R_impl_isCommand : List (Bool × Ty) := [(false, .bool)]
abbrev M_impl_isCommand : List RMode := []
abbrev Ft_impl_isCommand : Type := (List UInt8) × Unit → Option (Bool × Unit)
noncomputable def X_impl_isCommand (n : Nat) (F_impl_isPlain : Ft_impl_isPlain) : Ctx := { types := TT, globals := [], con := [(63, ⟨As_impl_isPlain, R_impl_isPlain, M_impl_isPlain, F_impl_isPlain⟩)], keep := [], results := [.tmp 2], ntmps := 9, n := n }
noncomputable def B_impl_isCommand : Code := (Tryd.f62.body).getD .skip
theorem e_impl_isCommand (n : Nat) (F_impl_isPlain : Ft_impl_isPlain) (a0 : List UInt8) : runF (X_impl_isCommand n F_impl_isPlain) B_impl_isCommand As_impl_isCommand R_impl_isCommand M_impl_isCommand (a0, ()) = 
  bif !(a0 == ([] : List UInt8)) then
    Option.bind (F_impl_isPlain (a0, 160, ([35, 64] : List UInt8), ())) fun r1 =>
    some (r1.1, ())
  else
    some (false, ()) := by kernel_rfl
noncomputable def P_impl_isCommand : Ft_impl_isCommand := hid (runF (X_impl_isCommand N P_impl_isPlain) B_impl_isCommand As_impl_isCommand R_impl_isCommand M_impl_isCommand)
theorem h_impl_isCommand : P_impl_isCommand = runF (X_impl_isCommand N P_impl_isPlain) B_impl_isCommand As_impl_isCommand R_impl_isCommand M_impl_isCommand := hid_eq _
noncomputable def C_impl_isCommand : Contract := ⟨As_impl_isCommand, R_impl_isCommand, M_impl_isCommand, P_impl_isCommand⟩
theorem s_impl_isCommand : Sound Tryd.prog GG 62 C_impl_isCommand := by
  unfold C_impl_isCommand; rw [h_impl_isCommand]
  exact sound_of_run (fn := Tryd.f62) hmix hstable (tyOK_of ttOK) (hglob (X_impl_isCommand N P_impl_isPlain)) (conOK_of (X := X_impl_isCommand N P_impl_isPlain) ⟨s_impl_isPlain, trivial⟩) (mconOK_of (X := X_impl_isCommand N P_impl_isPlain) trivial) (by kernel_rfl) (by kernel_rfl) (by kernel_rfl) (by kernel_rfl) (by kernel_rfl) (of_decide_eq_true (by kernel_rfl))
theorem p_impl_isCommand (a0 : List UInt8) : P_impl_isCommand (a0, ()) = 
  bif !(a0 == ([] : List UInt8)) then
    Option.bind (P_impl_isPlain (a0, 160, ([35, 64] : List UInt8), ())) fun r1 =>
    some (r1.1, ())
  else
    some (false, ()) := by
  rewrite [h_impl_isCommand]
  exact e_impl_isCommand N P_impl_isPlain a0

/- 40: loop.example/g01166/impl.IsValidRecord -/
abbrev As_impl_IsValidRecord : List ATy := [.data true T_LogRecord]
abbrev R_impl_IsValidRecord : List (Bool × Ty) := [(false, .bool)]
abbrev M_impl_IsValidRecord : List RMode := []
abbrev Ft_impl_IsValidRecord : Type := D_LogRecord × Unit → Option (Bool × Unit)
noncomputable def X_impl_IsValidRecord (n : Nat) (F_impl_isCommand : Ft_impl_isCommand) (F_impl_isPlain : Ft_impl_isPlain) : Ctx := { types := TT, globals := [], con := [(62, ⟨As_impl_isCommand, R_impl_isCommand, M_impl_isCommand, F_impl_isCommand⟩), (63, ⟨As_impl_isPlain, R_impl_isPlain, M_impl_isPlain, F_impl_isPlain⟩)], keep := [], results := [.tmp 2], ntmps := 11, n := n }
noncomputable def B_impl_IsValidRecord : Code := (Tryd.f40.body).getD .skip
theorem e_impl_IsValidRecord (n : Nat) (F_impl_isCommand : Ft_impl_isCommand) (F_impl_isPlain : Ft_impl_isPlain) (a0 : D_LogRecord) : runF (X_impl_IsValidRecord n F_impl_isCommand F_impl_isPlain) B_impl_IsValidRecord As_impl_IsValidRecord R_impl_IsValidRecord M_impl_IsValidRecord (a0, ()) = 
  Option.bind (F_impl_isCommand (a0.1, ())) fun r0 =>
  bif r0.1 then
    Option.bind (F_impl_isPlain (a0.2.1, 300, ([35] : List UInt8), ())) fun r2 =>
    some (r2.1, ())
  else
    some (false, ()) := by kernel_rfl
noncomputable def P_impl_IsValidRecord : Ft_impl_IsValidRecord := hid (runF (X_impl_IsValidRecord N P_impl_isCommand P_impl_isPlain) B_impl_IsValidRecord As_impl_IsValidRecord R_impl_IsValidRecord M_impl_IsValidRecord)
theorem h_impl_IsValidRecord : P_impl_IsValidRecord = runF (X_impl_IsValidRecord N P_impl_isCommand P_impl_isPlain) B_impl_IsValidRecord As_impl_IsValidRecord R_impl_IsValidRecord M_impl_IsValidRecord := hid_eq _
noncomputable def C_impl_IsValidRecord : Contract := ⟨As_impl_IsValidRecord, R_impl_IsValidRecord, M_impl_IsValidRecord, P_impl_IsValidRecord⟩
theorem s_impl_IsValidRecord : Sound Tryd.prog GG 40 C_impl_IsValidRecord := by
  unfold C_impl_IsValidRecord; rw [h_impl_IsValidRecord]
  exact sound_of_run (fn := Tryd.f40) hmix hstable (tyOK_of ttOK) (hglob (X_impl_IsValidRecord N P_impl_isCommand P_impl_isPlain)) (conOK_of (X := X_impl_IsValidRecord N P_impl_isCommand P_impl_isPlain) ⟨s_impl_isCommand, s_impl_isPlain, trivial⟩) (mconOK_of (X := X_impl_IsValidRecord N P_impl_isCommand P_impl_isPlain) trivial) (by kernel_rfl) (by kernel_rfl) (by kernel_rfl) (by kernel_rfl) (by kernel_rfl) (of_decide_eq_true (by kernel_rfl))
theorem p_impl_IsValidRecord (a0 : D_LogRecord) : P_impl_IsValidRecord (a0, ()) = 
  Option.bind (P_impl_isCommand (a0.1, ())) fun r0 =>
  bif r0.1 then
    Option.bind (P_impl_isPlain (a0.2.1, 300, ([35] : List UInt8), ())) fun r2 =>
    some (r2.1, ())
  else
    some (false, ()) := by
  rewrite [h_impl_IsValidRecord]
  exact e_impl_IsValidRecord N P_impl_isCommand P_impl_isPlain a0

/- 48: loop.example/g01166/impl.within -/
abbrev As_impl_within : List ATy := [.data false (.int .i64), .data false (.int .i64), .data false (.int .i64)]
abbrev R_impl_within : List (Bool × Ty) := [(false, .bool)]
abbrev M_impl_within : List RMode := []
abbrev Ft_impl_within : Type := Int × Int × Int × Unit → Option (Bool × Unit)
noncomputable def X_impl_within (n : Nat) : Ctx := { types := TT, globals := [], con := [], keep := [], results := [.tmp 6], ntmps := 15, n := n }
noncomputable def B_impl_within : Code := (Tryd.f48.body).getD .skip
theorem e_impl_within (n : Nat) (a0 : Int) (a1 : Int) (a2 : Int) : runF (X_impl_within n) B_impl_within As_impl_within R_impl_within M_impl_within (a0, a1, a2, ()) = 
  bif decide (a0 ≥ a1) then
    some (decide (a0 ≤ a2), ())
  else
    some (false, ()) := by kernel_rfl
noncomputable def P_impl_within : Ft_impl_within := hid (runF (X_impl_within N) B_impl_within As_impl_within R_impl_within M_impl_within)
theorem h_impl_within : P_impl_within = runF (X_impl_within N) B_impl_within As_impl_within R_impl_within M_impl_within := hid_eq _
noncomputable def C_impl_within : Contract := ⟨As_impl_within, R_impl_within, M_impl_within, P_impl_within⟩
theorem s_impl_within : Sound Tryd.prog GG 48 C_impl_within := by
  unfold C_impl_within; rw [h_impl_within]
  exact sound_of_run (fn := Tryd.f48) hmix hstable (tyOK_of ttOK) (hglob (X_impl_within N)) (conOK_of (X := X_impl_within N) trivial) (mconOK_of (X := X_impl_within N) trivial) (by kernel_rfl) (by kernel_rfl) (by kernel_rfl) (by kernel_rfl) (by kernel_rfl) (of_decide_eq_true (by kernel_rfl))
theorem p_impl_within (a0 : Int) (a1 : Int) (a2 : Int) : P_impl_within (a0, a1, a2, ()) = 
  bif decide (a0 ≥ a1) then
    some (decide (a0 ≤ a2), ())
  else
    some (false, ()) := by
  rewrite [h_impl_within]
  exact e_impl_within N a0 a1 a2

/- 71: loop.example/g01166/impl.checksum -/
abbrev As_impl_checksum : List ATy := [.data false .str]
abbrev R_impl_checksum : List (Bool × Ty) := [(false, (.int .i64))]
abbrev M_impl_checksum : List RMode := []
abbrev Ft_impl_checksum : Type := (List UInt8) × Unit → Option (Int × Unit)
noncomputable def X_impl_checksum (n : Nat) : Ctx := { types := TT, globals := [], con := [], keep := [(3, ⟨[.tmp 0, .tmp 3, .tmp 6, .tmp 7], []⟩)], results := [.tmp 2], ntmps := 21, n := n }
noncomputable def B_impl_checksum : Code := (Tryd.f71.body).getD .skip
noncomputable def L_impl_checksum_3 (n : Nat) (m0 : Nat) (p0 : List UInt8) (p1 : Int) (p2 : Int) (p3 : Int) : Option (denL R_impl_checksum) := loopF (X_impl_checksum n) B_impl_checksum R_impl_checksum M_impl_checksum 3 [m0] [(.ver, .num 1), (.tmp 0, .val false [.str p0]), (.tmp 3, .val false [.int .i64 p1]), (.tmp 6, .val false [.int .i64 p2]), (.tmp 7, .val false [.int .i64 p3])]
theorem e_impl_checksum (n : Nat) (a0 : List UInt8) : runF (X_impl_checksum n) B_impl_checksum As_impl_checksum R_impl_checksum M_impl_checksum (a0, ()) = 
  L_impl_checksum_3 n n a0 7 (List.length a0 : Int) 0 := by kernel_rfl
theorem e_impl_checksum_3 (n : Nat) (m0 : Nat) (p0 : List UInt8) (p1 : Int) (p2 : Int) (p3 : Int) : L_impl_checksum_3 n (m0 + 1) p0 p1 p2 p3 = 
  bif decide (p3 < p2) then
    bif inB p3 (List.length p0) then
      L_impl_checksum_3 n m0 p0 (Int.tmod (IntKind.wrap .i64 ((IntKind.wrap .i64 ((IntKind.wrap .i64 (41 * p1)) + (IntKind.wrap .i64 (byteAt p0 p3)))) + 1)) 999979) p2 (IntKind.wrap .i64 (p3 + 1))
    else none
  else
    some (p1, ()) := by kernel_rfl
noncomputable def P_impl_checksum : Ft_impl_checksum := hid (runF (X_impl_checksum N) B_impl_checksum As_impl_checksum R_impl_checksum M_impl_checksum)
theorem h_impl_checksum : P_impl_checksum = runF (X_impl_checksum N) B_impl_checksum As_impl_checksum R_impl_checksum M_impl_checksum := hid_eq _
noncomputable def C_impl_checksum : Contract := ⟨As_impl_checksum, R_impl_checksum, M_impl_checksum, P_impl_checksum⟩
theorem s_impl_checksum : Sound Tryd.prog GG 71 C_impl_checksum := by
  unfold C_impl_checksum; rw [h_impl_checksum]
  exact sound_of_run (fn := Tryd.f71) hmix hstable (tyOK_of ttOK) (hglob (X_impl_checksum N)) (conOK_of (X := X_impl_checksum N) trivial) (mconOK_of (X := X_impl_checksum N) trivial) (by kernel_rfl) (by kernel_rfl) (by kernel_rfl) (by kernel_rfl) (by kernel_rfl) (of_decide_eq_true (by kernel_rfl))
noncomputable def l_impl_checksum_3 : Nat → (List UInt8) → Int → Int → Int → Option (denL R_impl_checksum) := hid (fun m0 p0 p1 p2 p3 => L_impl_checksum_3 N m0 p0 p1 p2 p3)
theorem h_impl_checksum_3 : l_impl_checksum_3 = fun m0 p0 p1 p2 p3 => L_impl_checksum_3 N m0 p0 p1 p2 p3 := hid_eq _
theorem p_impl_checksum (a0 : List UInt8) : P_impl_checksum (a0, ()) = 
  l_impl_checksum_3 N a0 7 (List.length a0 : Int) 0 := by
  rewrite [h_impl_checksum, h_impl_checksum_3]
  exact e_impl_checksum N a0
theorem q_impl_checksum_3 (m0 : Nat) (p0 : List UInt8) (p1 : Int) (p2 : Int) (p3 : Int) : l_impl_checksum_3 (m0 + 1) p0 p1 p2 p3 = 
  bif decide (p3 < p2) then
    bif inB p3 (List.length p0) then
      l_impl_checksum_3 m0 p0 (Int.tmod (IntKind.wrap .i64 ((IntKind.wrap .i64 ((IntKind.wrap .i64 (41 * p1)) + (IntKind.wrap .i64 (byteAt p0 p3)))) + 1)) 999979) p2 (IntKind.wrap .i64 (p3 + 1))
    else none
  else
    some (p1, ()) := by
  rewrite [h_impl_checksum_3]
  exact e_impl_checksum_3 N m0 p0 p1 p2 p3

/- 50: strconv.Itoa: GIVEN -/
abbrev As_strconv_Itoa : List ATy := [.data false (.int .i64)]
abbrev R_strconv_Itoa : List (Bool × Ty) := [(false, .str)]
abbrev M_strconv_Itoa : List RMode := []
abbrev Ft_strconv_Itoa : Type := Int × Unit → Option ((List UInt8) × Unit)
noncomputable def P_strconv_Itoa : Ft_strconv_Itoa := fun x => bif decide (-9223372036854775808 ≤ x.1) && decide (x.1 ≤ 9223372036854775807) then some (Lib.itoa x.1, ()) else none
noncomputable def C_strconv_Itoa : Contract := ⟨As_strconv_Itoa, R_strconv_Itoa, M_strconv_Itoa, P_strconv_Itoa⟩
theorem s_strconv_Itoa : Sound Tryd.prog GG 50 C_strconv_Itoa := by
  refine sound_flat (fn := Tryd.f50) (c := (Tryd.f50.body).getD .skip) (by decide) (by decide) Tryd.func50 (by kernel_rfl) (by kernel_rfl) ?_
  rintro w ⟨n, ⟨⟩⟩ ⟨r, ⟨⟩⟩ hG hF
  have hF : (bif decide (-9223372036854775808 ≤ n) && decide (n ≤ 9223372036854775807) then some (Lib.itoa n, ()) else none) = some (r, ()) := hF
  cases h : decide (-9223372036854775808 ≤ n) && decide (n ≤ 9223372036854775807) with
  | false => rw [h] at hF; cases hF
  | true =>
    rw [h] at hF
    simp only [Bool.and_eq_true, decide_eq_true_eq] at h
    have hr : Lib.itoa n = r := by simpa using hF
    rw [← hr]
    refine (Tryd.strconv_Itoa n h.1 h.2 w hG.2.1).mono ?_
    rintro e w' ⟨rfl, k, os, rfl⟩
    exact ⟨rfl, below_grew w k os⟩
/- 70: strings.Contains: GIVEN -/
abbrev As_strings_Contains : List ATy := [.data false .str, .data false .str]
abbrev R_strings_Contains : List (Bool × Ty) := [(false, .bool)]
abbrev M_strings_Contains : List RMode := []
abbrev Ft_strings_Contains : Type := (List UInt8) × (List UInt8) × Unit → Option (Bool × Unit)
noncomputable def P_strings_Contains : Ft_strings_Contains := fun x => bif decide (x.2.1.length = 1) then some (decide (0 ≤ Lib.indexByte x.1 (x.2.1.headD 0)), ()) else none
noncomputable def C_strings_Contains : Contract := ⟨As_strings_Contains, R_strings_Contains, M_strings_Contains, P_strings_Contains⟩
theorem s_strings_Contains : Sound Tryd.prog GG 70 C_strings_Contains := by
  refine sound_flat (fn := Tryd.f70) (c := (Tryd.f70.body).getD .skip) (by decide) (by decide) Tryd.func70 (by kernel_rfl) (by kernel_rfl) ?_
  rintro w ⟨s, sub, ⟨⟩⟩ ⟨r, ⟨⟩⟩ _ hF
  have hF : (bif decide (sub.length = 1) then some (decide (0 ≤ Lib.indexByte s (sub.headD 0)), ()) else none) = some (r, ()) := hF
  match sub, hF with
  | [c], hF =>
    have hr : decide (0 ≤ Lib.indexByte s c) = r := by simpa using hF
    rw [← hr]
    refine (Tryd.strings_Contains_one ⟨s.toArray⟩ c w).mono ?_
    rintro e w' ⟨rfl, rfl⟩
    exact ⟨rfl, RowKit.Below.refl _ _⟩
  | [], hF => cases hF
  | _ :: _ :: _, hF =>
    simp at hF
/- 49: loop.example/g01166/impl.AppendChecksum -/
abbrev As_impl_AppendChecksum : List ATy := [.data false .str]
abbrev R_impl_AppendChecksum : List (Bool × Ty) := [(false, .str), (false, .bool)]
abbrev M_impl_AppendChecksum : List RMode := []
abbrev Ft_impl_AppendChecksum : Type := (List UInt8) × Unit → Option ((List UInt8) × Bool × Unit)
noncomputable def X_impl_AppendChecksum (n : Nat) (F_strconv_Itoa : Ft_strconv_Itoa) (F_strings_Contains : Ft_strings_Contains) (F_impl_checksum : Ft_impl_checksum) : Ctx := { types := TT, globals := [], con := [(50, ⟨As_strconv_Itoa, R_strconv_Itoa, M_strconv_Itoa, F_strconv_Itoa⟩), (70, ⟨As_strings_Contains, R_strings_Contains, M_strings_Contains, F_strings_Contains⟩), (71, ⟨As_impl_checksum, R_impl_checksum, M_impl_checksum, F_impl_checksum⟩)], keep := [], results := [.tmp 2, .tmp 3], ntmps := 22, n := n }
noncomputable def B_impl_AppendChecksum : Code := (Tryd.f49.body).getD .skip
theorem e_impl_AppendChecksum (n : Nat) (F_strconv_Itoa : Ft_strconv_Itoa) (F_strings_Contains : Ft_strings_Contains) (F_impl_checksum : Ft_impl_checksum) (a0 : List UInt8) : runF (X_impl_AppendChecksum n F_strconv_Itoa F_strings_Contains F_impl_checksum) B_impl_AppendChecksum As_impl_AppendChecksum R_impl_AppendChecksum M_impl_AppendChecksum (a0, ()) = 
  bif decide ((List.length a0 : Int) > 4000) then
    some (([] : List UInt8), false, ())
  else
    Option.bind (F_strings_Contains (a0, ([35] : List UInt8), ())) fun r1 =>
    bif r1.1 then
      some (([] : List UInt8), false, ())
    else
      Option.bind (catS a0 ([35] : List UInt8)) fun r3 =>
      Option.bind (F_impl_checksum (a0, ())) fun r4 =>
      Option.bind (F_strconv_Itoa (r4.1, ())) fun r5 =>
      Option.bind (catS r3 r5.1) fun r6 =>
      bif decide ((List.length r6 : Int) > 4000) then
        some (([] : List UInt8), false, ())
      else
        some (r6, true, ()) := by kernel_rfl
noncomputable def P_impl_AppendChecksum : Ft_impl_AppendChecksum := hid (runF (X_impl_AppendChecksum N P_strconv_Itoa P_strings_Contains P_impl_checksum) B_impl_AppendChecksum As_impl_AppendChecksum R_impl_AppendChecksum M_impl_AppendChecksum)
theorem h_impl_AppendChecksum : P_impl_AppendChecksum = runF (X_impl_AppendChecksum N P_strconv_Itoa P_strings_Contains P_impl_checksum) B_impl_AppendChecksum As_impl_AppendChecksum R_impl_AppendChecksum M_impl_AppendChecksum := hid_eq _
noncomputable def C_impl_AppendChecksum : Contract := ⟨As_impl_AppendChecksum, R_impl_AppendChecksum, M_impl_AppendChecksum, P_impl_AppendChecksum⟩
theorem s_impl_AppendChecksum : Sound Tryd.prog GG 49 C_impl_AppendChecksum := by
  unfold C_impl_AppendChecksum; rw [h_impl_AppendChecksum]
  exact sound_of_run (fn := Tryd.f49) hmix hstable (tyOK_of ttOK) (hglob (X_impl_AppendChecksum N P_strconv_Itoa P_strings_Contains P_impl_checksum)) (conOK_of (X := X_impl_AppendChecksum N P_strconv_Itoa P_strings_Contains P_impl_checksum) ⟨s_strconv_Itoa, s_strings_Contains, s_impl_checksum, trivial⟩) (mconOK_of (X := X_impl_AppendChecksum N P_strconv_Itoa P_strings_Contains P_impl_checksum) trivial) (by kernel_rfl) (by kernel_rfl) (by kernel_rfl) (by kernel_rfl) (by kernel_rfl) (of_decide_eq_true (by kernel_rfl))
theorem p_impl_AppendChecksum (a0 : List UInt8) : P_impl_AppendChecksum (a0, ()) = 
  bif decide ((List.length a0 : Int) > 4000) then
    some (([] : List UInt8), false, ())
  else
    Option.bind (P_strings_Contains (a0, ([35] : List UInt8), ())) fun r1 =>
    bif r1.1 then
      some (([] : List UInt8), false, ())
    else
      Option.bind (catS a0 ([35] : List UInt8)) fun r3 =>
      Option.bind (P_impl_checksum (a0, ())) fun r4 =>
      Option.bind (P_strconv_Itoa (r4.1, ())) fun r5 =>
      Option.bind (catS r3 r5.1) fun r6 =>
      bif decide ((List.length r6 : Int) > 4000) then
        some (([] : List UInt8), false, ())
      else
        some (r6, true, ()) := by
  rewrite [h_impl_AppendChecksum]
  exact e_impl_AppendChecksum N P_strconv_Itoa P_strings_Contains P_impl_checksum a0

/- 15: loop.example/g01166/impl.EncodeRecord -/
abbrev As_impl_EncodeRecord : List ATy := [.data false (.int .i64), .data true T_LogRecord]
abbrev R_impl_EncodeRecord : List (Bool × Ty) := [(false, .str), (false, .bool)]
abbrev M_impl_EncodeRecord : List RMode := []
abbrev Ft_impl_EncodeRecord : Type := Int × D_LogRecord × Unit → Option ((List UInt8) × Bool × Unit)
noncomputable def X_impl_EncodeRecord (n : Nat) (F_impl_IsValidRecord : Ft_impl_IsValidRecord) (F_impl_within : Ft_impl_within) (F_impl_AppendChecksum : Ft_impl_AppendChecksum) (F_strconv_Itoa : Ft_strconv_Itoa) : Ctx := { types := TT, globals := [], con := [(40, ⟨As_impl_IsValidRecord, R_impl_IsValidRecord, M_impl_IsValidRecord, F_impl_IsValidRecord⟩), (48, ⟨As_impl_within, R_impl_within, M_impl_within, F_impl_within⟩), (49, ⟨As_impl_AppendChecksum, R_impl_AppendChecksum, M_impl_AppendChecksum, F_impl_AppendChecksum⟩), (50, ⟨As_strconv_Itoa, R_strconv_Itoa, M_strconv_Itoa, F_strconv_Itoa⟩)], keep := [], results := [.tmp 4, .tmp 5], ntmps := 32, n := n }
noncomputable def B_impl_EncodeRecord : Code := (Tryd.f15.body).getD .skip
theorem e_impl_EncodeRecord (n : Nat) (F_impl_IsValidRecord : Ft_impl_IsValidRecord) (F_impl_within : Ft_impl_within) (F_impl_AppendChecksum : Ft_impl_AppendChecksum) (F_strconv_Itoa : Ft_strconv_Itoa) (a0 : Int) (a1 : D_LogRecord) : runF (X_impl_EncodeRecord n F_impl_IsValidRecord F_impl_within F_impl_AppendChecksum F_strconv_Itoa) B_impl_EncodeRecord As_impl_EncodeRecord R_impl_EncodeRecord M_impl_EncodeRecord (a0, a1, ()) = 
  Option.bind (F_impl_within (a0, 0, 59, ())) fun r0 =>
  bif !r0.1 then
    some (([] : List UInt8), false, ())
  else
    Option.bind (F_impl_IsValidRecord (a1, ())) fun r2 =>
    bif !r2.1 then
      some (([] : List UInt8), false, ())
    else
      Option.bind (F_strconv_Itoa (a0, ())) fun r4 =>
      Option.bind (catS r4.1 ([32] : List UInt8)) fun r5 =>
      Option.bind (catS r5 a1.1) fun r6 =>
      Option.bind (catS r6 ([64] : List UInt8)) fun r7 =>
      Option.bind (catS r7 a1.2.1) fun r8 =>
      Option.bind (F_impl_AppendChecksum (r8, ())) fun r9 =>
      Option.bind (catS r9.1 ([10] : List UInt8)) fun r10 =>
      some (r10, true, ()) := by kernel_rfl
noncomputable def P_impl_EncodeRecord : Ft_impl_EncodeRecord := hid (runF (X_impl_EncodeRecord N P_impl_IsValidRecord P_impl_within P_impl_AppendChecksum P_strconv_Itoa) B_impl_EncodeRecord As_impl_EncodeRecord R_impl_EncodeRecord M_impl_EncodeRecord)
theorem h_impl_EncodeRecord : P_impl_EncodeRecord = runF (X_impl_EncodeRecord N P_impl_IsValidRecord P_impl_within P_impl_AppendChecksum P_strconv_Itoa) B_impl_EncodeRecord As_impl_EncodeRecord R_impl_EncodeRecord M_impl_EncodeRecord := hid_eq _
noncomputable def C_impl_EncodeRecord : Contract := ⟨As_impl_EncodeRecord, R_impl_EncodeRecord, M_impl_EncodeRecord, P_impl_EncodeRecord⟩
theorem s_impl_EncodeRecord : Sound Tryd.prog GG 15 C_impl_EncodeRecord := by
  unfold C_impl_EncodeRecord; rw [h_impl_EncodeRecord]
  exact sound_of_run (fn := Tryd.f15) hmix hstable (tyOK_of ttOK) (hglob (X_impl_EncodeRecord N P_impl_IsValidRecord P_impl_within P_impl_AppendChecksum P_strconv_Itoa)) (conOK_of (X := X_impl_EncodeRecord N P_impl_IsValidRecord P_impl_within P_impl_AppendChecksum P_strconv_Itoa) ⟨s_impl_IsValidRecord, s_impl_within, s_impl_AppendChecksum, s_strconv_Itoa, trivial⟩) (mconOK_of (X := X_impl_EncodeRecord N P_impl_IsValidRecord P_impl_within P_impl_AppendChecksum P_strconv_Itoa) trivial) (by kernel_rfl) (by kernel_rfl) (by kernel_rfl) (by kernel_rfl) (by kernel_rfl) (of_decide_eq_true (by kernel_rfl))
theorem p_impl_EncodeRecord (a0 : Int) (a1 : D_LogRecord) : P_impl_EncodeRecord (a0, a1, ()) = 
  Option.bind (P_impl_within (a0, 0, 59, ())) fun r0 =>
  bif !r0.1 then
    some (([] : List UInt8), false, ())
  else
    Option.bind (P_impl_IsValidRecord (a1, ())) fun r2 =>
    bif !r2.1 then
      some (([] : List UInt8), false, ())
    else
      Option.bind (P_strconv_Itoa (a0, ())) fun r4 =>
      Option.bind (catS r4.1 ([32] : List UInt8)) fun r5 =>
      Option.bind (catS r5 a1.1) fun r6 =>
      Option.bind (catS r6 ([64] : List UInt8)) fun r7 =>
      Option.bind (catS r7 a1.2.1) fun r8 =>
      Option.bind (P_impl_AppendChecksum (r8, ())) fun r9 =>
      Option.bind (catS r9.1 ([10] : List UInt8)) fun r10 =>
      some (r10, true, ()) := by
  rewrite [h_impl_EncodeRecord]
  exact e_impl_EncodeRecord N P_impl_IsValidRecord P_impl_within P_impl_AppendChecksum P_strconv_Itoa a0 a1

/- 3: loop.example/g01166/laws.FnExactEncodeRecord -/
abbrev As_laws_FnExactEncodeRecord : List ATy := [.data false (.int .i64), .data true T_LogRecord]
abbrev R_laws_FnExactEncodeRecord : List (Bool × Ty) := [(false, .bool)]
abbrev M_laws_FnExactEncodeRecord : List RMode := []
abbrev Ft_laws_FnExactEncodeRecord : Type := Int × D_LogRecord × Unit → Option (Bool × Unit)
noncomputable def X_laws_FnExactEncodeRecord (n : Nat) (F_laws_szLogRecord : Ft_laws_szLogRecord) (F_spec_EncodeRecord : Ft_spec_EncodeRecord) (F_laws_toLogRecord : Ft_laws_toLogRecord) (F_impl_EncodeRecord : Ft_impl_EncodeRecord) : Ctx := { types := TT, globals := [], con := [(12, ⟨As_laws_szLogRecord, R_laws_szLogRecord, M_laws_szLogRecord, F_laws_szLogRecord⟩), (13, ⟨As_spec_EncodeRecord, R_spec_EncodeRecord, M_spec_EncodeRecord, F_spec_EncodeRecord⟩), (14, ⟨As_laws_toLogRecord, R_laws_toLogRecord, M_laws_toLogRecord, F_laws_toLogRecord⟩), (15, ⟨As_impl_EncodeRecord, R_impl_EncodeRecord, M_impl_EncodeRecord, F_impl_EncodeRecord⟩)], keep := [], results := [.tmp 4], ntmps := 37, n := n }
noncomputable def B_laws_FnExactEncodeRecord : Code := (Tryd.f3.body).getD .skip
theorem e_laws_FnExactEncodeRecord (n : Nat) (F_laws_szLogRecord : Ft_laws_szLogRecord) (F_spec_EncodeRecord : Ft_spec_EncodeRecord) (F_laws_toLogRecord : Ft_laws_toLogRecord) (F_impl_EncodeRecord : Ft_impl_EncodeRecord) (a0 : Int) (a1 : D_LogRecord) : runF (X_laws_FnExactEncodeRecord n F_laws_szLogRecord F_spec_EncodeRecord F_laws_toLogRecord F_impl_EncodeRecord) B_laws_FnExactEncodeRecord As_laws_FnExactEncodeRecord R_laws_FnExactEncodeRecord M_laws_FnExactEncodeRecord (a0, a1, ()) = 
  Option.bind (F_laws_szLogRecord (a1, 1048576, ())) fun r0 =>
  bif decide (r0.1 < 0) then
    some (true, ())
  else
    Option.bind (F_laws_toLogRecord (a1, ())) fun r2 =>
    Option.bind (F_spec_EncodeRecord (a0, r2.1, ())) fun r3 =>
    Option.bind (F_laws_toLogRecord (a1, ())) fun r4 =>
    Option.bind (F_impl_EncodeRecord (a0, r4.1, ())) fun r5 =>
    bif !(r5.1 == r3.1) then
      some (false, ())
    else
      bif !(r5.2.1 == r3.2.1) then
        some (false, ())
      else
        some (true, ()) := by kernel_rfl
noncomputable def P_laws_FnExactEncodeRecord : Ft_laws_FnExactEncodeRecord := hid (runF (X_laws_FnExactEncodeRecord N P_laws_szLogRecord P_spec_EncodeRecord P_laws_toLogRecord P_impl_EncodeRecord) B_laws_FnExactEncodeRecord As_laws_FnExactEncodeRecord R_laws_FnExactEncodeRecord M_laws_FnExactEncodeRecord)
theorem h_laws_FnExactEncodeRecord : P_laws_FnExactEncodeRecord = runF (X_laws_FnExactEncodeRecord N P_laws_szLogRecord P_spec_EncodeRecord P_laws_toLogRecord P_impl_EncodeRecord) B_laws_FnExactEncodeRecord As_laws_FnExactEncodeRecord R_laws_FnExactEncodeRecord M_laws_FnExactEncodeRecord := hid_eq _
noncomputable def C_laws_FnExactEncodeRecord : Contract := ⟨As_laws_FnExactEncodeRecord, R_laws_FnExactEncodeRecord, M_laws_FnExactEncodeRecord, P_laws_FnExactEncodeRecord⟩
theorem s_laws_FnExactEncodeRecord : Sound Tryd.prog GG 3 C_laws_FnExactEncodeRecord := by
  unfold C_laws_FnExactEncodeRecord; rw [h_laws_FnExactEncodeRecord]
  exact sound_of_run (fn := Tryd.f3) hmix hstable (tyOK_of ttOK) (hglob (X_laws_FnExactEncodeRecord N P_laws_szLogRecord P_spec_EncodeRecord P_laws_toLogRecord P_impl_EncodeRecord)) (conOK_of (X := X_laws_FnExactEncodeRecord N P_laws_szLogRecord P_spec_EncodeRecord P_laws_toLogRecord P_impl_EncodeRecord) ⟨s_laws_szLogRecord, s_spec_EncodeRecord, s_laws_toLogRecord, s_impl_EncodeRecord, trivial⟩) (mconOK_of (X := X_laws_FnExactEncodeRecord N P_laws_szLogRecord P_spec_EncodeRecord P_laws_toLogRecord P_impl_EncodeRecord) trivial) (by kernel_rfl) (by kernel_rfl) (by kernel_rfl) (by kernel_rfl) (by kernel_rfl) (of_decide_eq_true (by kernel_rfl))
theorem p_laws_FnExactEncodeRecord (a0 : Int) (a1 : D_LogRecord) : P_laws_FnExactEncodeRecord (a0, a1, ()) = 
  Option.bind (P_laws_szLogRecord (a1, 1048576, ())) fun r0 =>
  bif decide (r0.1 < 0) then
    some (true, ())
  else
    Option.bind (P_laws_toLogRecord (a1, ())) fun r2 =>
    Option.bind (P_spec_EncodeRecord (a0, r2.1, ())) fun r3 =>
    Option.bind (P_laws_toLogRecord (a1, ())) fun r4 =>
    Option.bind (P_impl_EncodeRecord (a0, r4.1, ())) fun r5 =>
    bif !(r5.1 == r3.1) then
      some (false, ())
    else
      bif !(r5.2.1 == r3.2.1) then
        some (false, ())
      else
        some (true, ()) := by
  rewrite [h_laws_FnExactEncodeRecord]
  exact e_laws_FnExactEncodeRecord N P_laws_szLogRecord P_spec_EncodeRecord P_laws_toLogRecord P_impl_EncodeRecord a0 a1

/- 73: loop.example/g01166/spec.l1Split -/
abbrev As_spec_l1Split : List ATy := [.data false .str, .data false (.int .u8)]
abbrev R_spec_l1Split : List (Bool × Ty) := [(false, (.sl .str))]
abbrev M_spec_l1Split : List RMode := [.own 9]
abbrev Ft_spec_l1Split : Type := (List UInt8) × Int × Unit → Option ((List (List UInt8)) × Unit)
noncomputable def X_spec_l1Split (n : Nat) : Ctx := { types := TT, globals := [], con := [], keep := [(4, ⟨[.tmp 0, .tmp 1, .tmp 5, .tmp 6, .tmp 7], []⟩)], results := [.tmp 4], ntmps := 35, n := n }
noncomputable def B_spec_l1Split : Code := (Tryd.f73.body).getD .skip
noncomputable def L_spec_l1Split_4 (n : Nat) (m0 : Nat) (p0 : List UInt8) (p1 : Int) (p2 : List (List UInt8)) (p3 : Int) (p4 : Int) : Option (denL R_spec_l1Split) := loopF (X_spec_l1Split n) B_spec_l1Split R_spec_l1Split M_spec_l1Split 4 [m0] [(.ver, .num 1), (.tmp 0, .val false [.str p0]), (.tmp 1, .val false [.int .u8 p1]), (.tmp 5, .val false [.own 9 .str 0 p2]), (.tmp 6, .val false [.int .i64 p3]), (.tmp 7, .val false [.int .i64 p4])]
theorem e_spec_l1Split (n : Nat) (a0 : List UInt8) (a1 : Int) : runF (X_spec_l1Split n) B_spec_l1Split As_spec_l1Split R_spec_l1Split M_spec_l1Split (a0, a1, ()) = 
  L_spec_l1Split_4 n n a0 a1 ([] : List (List UInt8)) 0 0 := by kernel_rfl
theorem e_spec_l1Split_4 (n : Nat) (m0 : Nat) (p0 : List UInt8) (p1 : Int) (p2 : List (List UInt8)) (p3 : Int) (p4 : Int) : L_spec_l1Split_4 n (m0 + 1) p0 p1 p2 p3 p4 = 
  bif decide (p4 < (List.length p0 : Int)) then
    bif inB p4 (List.length p0) then
      bif decide ((byteAt p0 p4) = p1) then
        bif (decide ((0 : Int) ≤ p3) && decide (p3 ≤ p4) && decide (p4 ≤ (List.length p0 : Int))) then
          bif (decide (((List.length p2) + (List.length ([(cut p0 p3 p4)] : List (List UInt8)))) * 16 ≤ 140737488355328) && decide (((List.length p2) + (List.length ([(cut p0 p3 p4)] : List (List UInt8)))) ≤ 140737488355328)) then
            L_spec_l1Split_4 n m0 p0 p1 (p2 ++ ([(cut p0 p3 p4)] : List (List UInt8))) (IntKind.wrap .i64 (p4 + 1)) (IntKind.wrap .i64 (p4 + 1))
          else none
        else none
      else
        L_spec_l1Split_4 n m0 p0 p1 p2 p3 (IntKind.wrap .i64 (p4 + 1))
    else none
  else
    bif (decide ((0 : Int) ≤ p3) && decide (p3 ≤ (List.length p0 : Int)) && decide ((List.length p0 : Int) ≤ (List.length p0 : Int))) then
      bif (decide (((List.length p2) + (List.length ([(cut p0 p3 (List.length p0 : Int))] : List (List UInt8)))) * 16 ≤ 140737488355328) && decide (((List.length p2) + (List.length ([(cut p0 p3 (List.length p0 : Int))] : List (List UInt8)))) ≤ 140737488355328)) then
        some ((p2 ++ ([(cut p0 p3 (List.length p0 : Int))] : List (List UInt8))), ())
      else none
    else none := by kernel_rfl
noncomputable def P_spec_l1Split : Ft_spec_l1Split := hid (runF (X_spec_l1Split N) B_spec_l1Split As_spec_l1Split R_spec_l1Split M_spec_l1Split)
theorem h_spec_l1Split : P_spec_l1Split = runF (X_spec_l1Split N) B_spec_l1Split As_spec_l1Split R_spec_l1Split M_spec_l1Split := hid_eq _
noncomputable def C_spec_l1Split : Contract := ⟨As_spec_l1Split, R_spec_l1Split, M_spec_l1Split, P_spec_l1Split⟩
theorem s_spec_l1Split : Sound Tryd.prog GG 73 C_spec_l1Split := by
  unfold C_spec_l1Split; rw [h_spec_l1Split]
  exact sound_of_run (fn := Tryd.f73) hmix hstable (tyOK_of ttOK) (hglob (X_spec_l1Split N)) (conOK_of (X := X_spec_l1Split N) trivial) (mconOK_of (X := X_spec_l1Split N) trivial) (by kernel_rfl) (by kernel_rfl) (by kernel_rfl) (by kernel_rfl) (by kernel_rfl) (of_decide_eq_true (by kernel_rfl))
noncomputable def l_spec_l1Split_4 : Nat → (List UInt8) → Int → (List (List UInt8)) → Int → Int → Option (denL R_spec_l1Split) := hid (fun m0 p0 p1 p2 p3 p4 => L_spec_l1Split_4 N m0 p0 p1 p2 p3 p4)
theorem h_spec_l1Split_4 : l_spec_l1Split_4 = fun m0 p0 p1 p2 p3 p4 => L_spec_l1Split_4 N m0 p0 p1 p2 p3 p4 := hid_eq _
theorem p_spec_l1Split (a0 : List UInt8) (a1 : Int) : P_spec_l1Split (a0, a1, ()) = 
  l_spec_l1Split_4 N a0 a1 ([] : List (List UInt8)) 0 0 := by
  rewrite [h_spec_l1Split, h_spec_l1Split_4]
  exact e_spec_l1Split N a0 a1
theorem q_spec_l1Split_4 (m0 : Nat) (p0 : List UInt8) (p1 : Int) (p2 : List (List UInt8)) (p3 : Int) (p4 : Int) : l_spec_l1Split_4 (m0 + 1) p0 p1 p2 p3 p4 = 
  bif decide (p4 < (List.length p0 : Int)) then
    bif inB p4 (List.length p0) then
      bif decide ((byteAt p0 p4) = p1) then
        bif (decide ((0 : Int) ≤ p3) && decide (p3 ≤ p4) && decide (p4 ≤ (List.length p0 : Int))) then
          bif (decide (((List.length p2) + (List.length ([(cut p0 p3 p4)] : List (List UInt8)))) * 16 ≤ 140737488355328) && decide (((List.length p2) + (List.length ([(cut p0 p3 p4)] : List (List UInt8)))) ≤ 140737488355328)) then
            l_spec_l1Split_4 m0 p0 p1 (p2 ++ ([(cut p0 p3 p4)] : List (List UInt8))) (IntKind.wrap .i64 (p4 + 1)) (IntKind.wrap .i64 (p4 + 1))
          else none
        else none
      else
        l_spec_l1Split_4 m0 p0 p1 p2 p3 (IntKind.wrap .i64 (p4 + 1))
    else none
  else
    bif (decide ((0 : Int) ≤ p3) && decide (p3 ≤ (List.length p0 : Int)) && decide ((List.length p0 : Int) ≤ (List.length p0 : Int))) then
      bif (decide (((List.length p2) + (List.length ([(cut p0 p3 (List.length p0 : Int))] : List (List UInt8)))) * 16 ≤ 140737488355328) && decide (((List.length p2) + (List.length ([(cut p0 p3 (List.length p0 : Int))] : List (List UInt8)))) ≤ 140737488355328)) then
        some ((p2 ++ ([(cut p0 p3 (List.length p0 : Int))] : List (List UInt8))), ())
      else none
    else none := by
  rewrite [h_spec_l1Split_4]
  exact e_spec_l1Split_4 N m0 p0 p1 p2 p3 p4

/- 74: loop.example/g01166/spec.l12Decode -/
abbrev As_spec_l12Decode : List ATy := [.data false .str, .data false (.int .i64)]
abbrev R_spec_l12Decode : List (Bool × Ty) := [(true, T_LogRecord), (false, .bool)]
abbrev M_spec_l12Decode : List RMode := []
abbrev Ft_spec_l12Decode : Type := (List UInt8) × Int × Unit → Option (D_LogRecord × Bool × Unit)
noncomputable def X_spec_l12Decode (n : Nat) (F_spec_l12Record : Ft_spec_l12Record) (F_spec_l12Line : Ft_spec_l12Line) (F_spec_l1Num : Ft_spec_l1Num) (F_spec_l1Split : Ft_spec_l1Split) : Ctx := { types := TT, globals := [], con := [(46, ⟨As_spec_l12Record, R_spec_l12Record, M_spec_l12Record, F_spec_l12Record⟩), (47, ⟨As_spec_l12Line, R_spec_l12Line, M_spec_l12Line, F_spec_l12Line⟩), (69, ⟨As_spec_l1Num, R_spec_l1Num, M_spec_l1Num, F_spec_l1Num⟩), (73, ⟨As_spec_l1Split, R_spec_l1Split, M_spec_l1Split, F_spec_l1Split⟩)], keep := [], results := [.cell 4 27, .tmp 5], ntmps := 64, n := n }
noncomputable def B_spec_l12Decode : Code := (Tryd.f74.body).getD .skip
theorem e_spec_l12Decode (n : Nat) (F_spec_l12Record : Ft_spec_l12Record) (F_spec_l12Line : Ft_spec_l12Line) (F_spec_l1Num : Ft_spec_l1Num) (F_spec_l1Split : Ft_spec_l1Split) (a0 : List UInt8) (a1 : Int) : runF (X_spec_l12Decode n F_spec_l12Record F_spec_l12Line F_spec_l1Num F_spec_l1Split) B_spec_l12Decode As_spec_l12Decode R_spec_l12Decode M_spec_l12Decode (a0, a1, ()) = 
  Option.bind (F_spec_l1Num (a1, ())) fun r0 =>
  Option.bind (catS r0.1 ([32] : List UInt8)) fun r1 =>
  Option.bind (F_spec_l1Split (a0, 35, ())) fun r2 =>
  bif inB 0 (List.length r2.1) then
    bif decide ((List.length (nth (.str : Ty) r2.1 0) : Int) < (List.length r1 : Int)) then
      some ((([] : List UInt8), (([] : List UInt8), ())), false, ())
    else
      bif (decide ((0 : Int) ≤ 0) && decide ((0 : Int) ≤ (List.length r1 : Int)) && decide ((List.length r1 : Int) ≤ (List.length (nth (.str : Ty) r2.1 0) : Int))) then
        bif !((cut (nth (.str : Ty) r2.1 0) 0 (List.length r1 : Int)) == r1) then
          some ((([] : List UInt8), (([] : List UInt8), ())), false, ())
        else
          bif (decide ((0 : Int) ≤ (List.length r1 : Int)) && decide ((List.length r1 : Int) ≤ (List.length (nth (.str : Ty) r2.1 0) : Int)) && decide ((List.length (nth (.str : Ty) r2.1 0) : Int) ≤ (List.length (nth (.str : Ty) r2.1 0) : Int))) then
            Option.bind (F_spec_l1Split ((cut (nth (.str : Ty) r2.1 0) (List.length r1 : Int) (List.length (nth (.str : Ty) r2.1 0) : Int)), 64, ())) fun r8 =>
            bif inB 0 (List.length r8.1) then
              bif decide ((List.length (nth (.str : Ty) r8.1 0) : Int) = (List.length (cut (nth (.str : Ty) r2.1 0) (List.length r1 : Int) (List.length (nth (.str : Ty) r2.1 0) : Int)) : Int)) then
                some ((([] : List UInt8), (([] : List UInt8), ())), false, ())
              else
                bif (decide ((0 : Int) ≤ (IntKind.wrap .i64 ((List.length (nth (.str : Ty) r8.1 0) : Int) + 1))) && decide ((IntKind.wrap .i64 ((List.length (nth (.str : Ty) r8.1 0) : Int) + 1)) ≤ (List.length (cut (nth (.str : Ty) r2.1 0) (List.length r1 : Int) (List.length (nth (.str : Ty) r2.1 0) : Int)) : Int)) && decide ((List.length (cut (nth (.str : Ty) r2.1 0) (List.length r1 : Int) (List.length (nth (.str : Ty) r2.1 0) : Int)) : Int) ≤ (List.length (cut (nth (.str : Ty) r2.1 0) (List.length r1 : Int) (List.length (nth (.str : Ty) r2.1 0) : Int)) : Int))) then
                  Option.bind (F_spec_l12Record (((nth (.str : Ty) r8.1 0), ((cut (cut (nth (.str : Ty) r2.1 0) (List.length r1 : Int) (List.length (nth (.str : Ty) r2.1 0) : Int)) (IntKind.wrap .i64 ((List.length (nth (.str : Ty) r8.1 0) : Int) + 1)) (List.length (cut (nth (.str : Ty) r2.1 0) (List.length r1 : Int) (List.length (nth (.str : Ty) r2.1 0) : Int)) : Int)), ())), ())) fun r12 =>
                  bif r12.1 then
                    Option.bind (F_spec_l12Line (a1, ((nth (.str : Ty) r8.1 0), ((cut (cut (nth (.str : Ty) r2.1 0) (List.length r1 : Int) (List.length (nth (.str : Ty) r2.1 0) : Int)) (IntKind.wrap .i64 ((List.length (nth (.str : Ty) r8.1 0) : Int) + 1)) (List.length (cut (nth (.str : Ty) r2.1 0) (List.length r1 : Int) (List.length (nth (.str : Ty) r2.1 0) : Int)) : Int)), ())), ())) fun r14 =>
                    Option.bind (catS a0 ([10] : List UInt8)) fun r15 =>
                    some (((nth (.str : Ty) r8.1 0), ((cut (cut (nth (.str : Ty) r2.1 0) (List.length r1 : Int) (List.length (nth (.str : Ty) r2.1 0) : Int)) (IntKind.wrap .i64 ((List.length (nth (.str : Ty) r8.1 0) : Int) + 1)) (List.length (cut (nth (.str : Ty) r2.1 0) (List.length r1 : Int) (List.length (nth (.str : Ty) r2.1 0) : Int)) : Int)), ())), r14.1 == r15, ())
                  else
                    some (((nth (.str : Ty) r8.1 0), ((cut (cut (nth (.str : Ty) r2.1 0) (List.length r1 : Int) (List.length (nth (.str : Ty) r2.1 0) : Int)) (IntKind.wrap .i64 ((List.length (nth (.str : Ty) r8.1 0) : Int) + 1)) (List.length (cut (nth (.str : Ty) r2.1 0) (List.length r1 : Int) (List.length (nth (.str : Ty) r2.1 0) : Int)) : Int)), ())), false, ())
                else none
            else none
          else none
      else none
  else none := by kernel_rfl
noncomputable def P_spec_l12Decode : Ft_spec_l12Decode := hid (runF (X_spec_l12Decode N P_spec_l12Record P_spec_l12Line P_spec_l1Num P_spec_l1Split) B_spec_l12Decode As_spec_l12Decode R_spec_l12Decode M_spec_l12Decode)
theorem h_spec_l12Decode : P_spec_l12Decode = runF (X_spec_l12Decode N P_spec_l12Record P_spec_l12Line P_spec_l1Num P_spec_l1Split) B_spec_l12Decode As_spec_l12Decode R_spec_l12Decode M_spec_l12Decode := hid_eq _
noncomputable def C_spec_l12Decode : Contract := ⟨As_spec_l12Decode, R_spec_l12Decode, M_spec_l12Decode, P_spec_l12Decode⟩
theorem s_spec_l12Decode : Sound Tryd.prog GG 74 C_spec_l12Decode := by
  unfold C_spec_l12Decode; rw [h_spec_l12Decode]
  exact sound_of_run (fn := Tryd.f74) hmix hstable (tyOK_of ttOK) (hglob (X_spec_l12Decode N P_spec_l12Record P_spec_l12Line P_spec_l1Num P_spec_l1Split)) (conOK_of (X := X_spec_l12Decode N P_spec_l12Record P_spec_l12Line P_spec_l1Num P_spec_l1Split) ⟨s_spec_l12Record, s_spec_l12Line, s_spec_l1Num, s_spec_l1Split, trivial⟩) (mconOK_of (X := X_spec_l12Decode N P_spec_l12Record P_spec_l12Line P_spec_l1Num P_spec_l1Split) trivial) (by kernel_rfl) (by kernel_rfl) (by kernel_rfl) (by kernel_rfl) (by kernel_rfl) (of_decide_eq_true (by kernel_rfl))
theorem p_spec_l12Decode (a0 : List UInt8) (a1 : Int) : P_spec_l12Decode (a0, a1, ()) = 
  Option.bind (P_spec_l1Num (a1, ())) fun r0 =>
  Option.bind (catS r0.1 ([32] : List UInt8)) fun r1 =>
  Option.bind (P_spec_l1Split (a0, 35, ())) fun r2 =>
  bif inB 0 (List.length r2.1) then
    bif decide ((List.length (nth (.str : Ty) r2.1 0) : Int) < (List.length r1 : Int)) then
      some ((([] : List UInt8), (([] : List UInt8), ())), false, ())
    else
      bif (decide ((0 : Int) ≤ 0) && decide ((0 : Int) ≤ (List.length r1 : Int)) && decide ((List.length r1 : Int) ≤ (List.length (nth (.str : Ty) r2.1 0) : Int))) then
        bif !((cut (nth (.str : Ty) r2.1 0) 0 (List.length r1 : Int)) == r1) then
          some ((([] : List UInt8), (([] : List UInt8), ())), false, ())
        else
          bif (decide ((0 : Int) ≤ (List.length r1 : Int)) && decide ((List.length r1 : Int) ≤ (List.length (nth (.str : Ty) r2.1 0) : Int)) && decide ((List.length (nth (.str : Ty) r2.1 0) : Int) ≤ (List.length (nth (.str : Ty) r2.1 0) : Int))) then
            Option.bind (P_spec_l1Split ((cut (nth (.str : Ty) r2.1 0) (List.length r1 : Int) (List.length (nth (.str : Ty) r2.1 0) : Int)), 64, ())) fun r8 =>
            bif inB 0 (List.length r8.1) then
              bif decide ((List.length (nth (.str : Ty) r8.1 0) : Int) = (List.length (cut (nth (.str : Ty) r2.1 0) (List.length r1 : Int) (List.length (nth (.str : Ty) r2.1 0) : Int)) : Int)) then
                some ((([] : List UInt8), (([] : List UInt8), ())), false, ())
              else
                bif (decide ((0 : Int) ≤ (IntKind.wrap .i64 ((List.length (nth (.str : Ty) r8.1 0) : Int) + 1))) && decide ((IntKind.wrap .i64 ((List.length (nth (.str : Ty) r8.1 0) : Int) + 1)) ≤ (List.length (cut (nth (.str : Ty) r2.1 0) (List.length r1 : Int) (List.length (nth (.str : Ty) r2.1 0) : Int)) : Int)) && decide ((List.length (cut (nth (.str : Ty) r2.1 0) (List.length r1 : Int) (List.length (nth (.str : Ty) r2.1 0) : Int)) : Int) ≤ (List.length (cut (nth (.str : Ty) r2.1 0) (List.length r1 : Int) (List.length (nth (.str : Ty) r2.1 0) : Int)) : Int))) then
                  Option.bind (P_spec_l12Record (((nth (.str : Ty) r8.1 0), ((cut (cut (nth (.str : Ty) r2.1 0) (List.length r1 : Int) (List.length (nth (.str : Ty) r2.1 0) : Int)) (IntKind.wrap .i64 ((List.length (nth (.str : Ty) r8.1 0) : Int) + 1)) (List.length (cut (nth (.str : Ty) r2.1 0) (List.length r1 : Int) (List.length (nth (.str : Ty) r2.1 0) : Int)) : Int)), ())), ())) fun r12 =>
                  bif r12.1 then
                    Option.bind (P_spec_l12Line (a1, ((nth (.str : Ty) r8.1 0), ((cut (cut (nth (.str : Ty) r2.1 0) (List.length r1 : Int) (List.length (nth (.str : Ty) r2.1 0) : Int)) (IntKind.wrap .i64 ((List.length (nth (.str : Ty) r8.1 0) : Int) + 1)) (List.length (cut (nth (.str : Ty) r2.1 0) (List.length r1 : Int) (List.length (nth (.str : Ty) r2.1 0) : Int)) : Int)), ())), ())) fun r14 =>
                    Option.bind (catS a0 ([10] : List UInt8)) fun r15 =>
                    some (((nth (.str : Ty) r8.1 0), ((cut (cut (nth (.str : Ty) r2.1 0) (List.length r1 : Int) (List.length (nth (.str : Ty) r2.1 0) : Int)) (IntKind.wrap .i64 ((List.length (nth (.str : Ty) r8.1 0) : Int) + 1)) (List.length (cut (nth (.str : Ty) r2.1 0) (List.length r1 : Int) (List.length (nth (.str : Ty) r2.1 0) : Int)) : Int)), ())), r14.1 == r15, ())
                  else
                    some (((nth (.str : Ty) r8.1 0), ((cut (cut (nth (.str : Ty) r2.1 0) (List.length r1 : Int) (List.length (nth (.str : Ty) r2.1 0) : Int)) (IntKind.wrap .i64 ((List.length (nth (.str : Ty) r8.1 0) : Int) + 1)) (List.length (cut (nth (.str : Ty) r2.1 0) (List.length r1 : Int) (List.length (nth (.str : Ty) r2.1 0) : Int)) : Int)), ())), false, ())
                else none
            else none
          else none
      else none
  else none := by
  rewrite [h_spec_l12Decode]
  exact e_spec_l12Decode N P_spec_l12Record P_spec_l12Line P_spec_l1Num P_spec_l1Split a0 a1

/- 51: loop.example/g01166/spec.l12Open -/
abbrev As_spec_l12Open : List ATy := [.data false .str]
abbrev R_spec_l12Open : List (Bool × Ty) := [(false, (.sl T_LogRecord)), (false, (.int .i64))]
abbrev M_spec_l12Open : List RMode := [.own 27]
abbrev Ft_spec_l12Open : Type := (List UInt8) × Unit → Option ((List D_LogRecord) × Int × Unit)
noncomputable def X_spec_l12Open (n : Nat) (F_spec_l1Split : Ft_spec_l1Split) (F_spec_l12Decode : Ft_spec_l12Decode) : Ctx := { types := TT, globals := [], con := [(73, ⟨As_spec_l1Split, R_spec_l1Split, M_spec_l1Split, F_spec_l1Split⟩), (74, ⟨As_spec_l12Decode, R_spec_l12Decode, M_spec_l12Decode, F_spec_l12Decode⟩)], keep := [(3, ⟨[.tmp 0, .tmp 4, .tmp 5], []⟩)], results := [.tmp 2, .tmp 3], ntmps := 52, n := n }
noncomputable def B_spec_l12Open : Code := (Tryd.f51.body).getD .skip
noncomputable def L_spec_l12Open_3 (n : Nat) (F_spec_l1Split : Ft_spec_l1Split) (F_spec_l12Decode : Ft_spec_l12Decode) (m0 : Nat) (p0 : List UInt8) (p1 : List D_LogRecord) (p2 : Int) : Option (denL R_spec_l12Open) := loopF (X_spec_l12Open n F_spec_l1Split F_spec_l12Decode) B_spec_l12Open R_spec_l12Open M_spec_l12Open 3 [m0] [(.ver, .num 1), (.tmp 0, .val false [.str p0]), (.tmp 4, .val false [.own 27 T_LogRecord 0 p1]), (.tmp 5, .val false [.int .i64 p2])]
theorem e_spec_l12Open (n : Nat) (F_spec_l1Split : Ft_spec_l1Split) (F_spec_l12Decode : Ft_spec_l12Decode) (a0 : List UInt8) : runF (X_spec_l12Open n F_spec_l1Split F_spec_l12Decode) B_spec_l12Open As_spec_l12Open R_spec_l12Open M_spec_l12Open (a0, ()) = 
  L_spec_l12Open_3 n F_spec_l1Split F_spec_l12Decode n a0 ([] : List D_LogRecord) 0 := by kernel_rfl
theorem e_spec_l12Open_3 (n : Nat) (F_spec_l1Split : Ft_spec_l1Split) (F_spec_l12Decode : Ft_spec_l12Decode) (m0 : Nat) (p0 : List UInt8) (p1 : List D_LogRecord) (p2 : Int) : L_spec_l12Open_3 n F_spec_l1Split F_spec_l12Decode (m0 + 1) p0 p1 p2 = 
  bif decide (p2 < (List.length p0 : Int)) then
    bif decide ((List.length p1 : Int) < 60) then
      bif (decide ((0 : Int) ≤ p2) && decide (p2 ≤ (List.length p0 : Int)) && decide ((List.length p0 : Int) ≤ (List.length p0 : Int))) then
        Option.bind (F_spec_l1Split ((cut p0 p2 (List.length p0 : Int)), 10, ())) fun r3 =>
        bif inB 0 (List.length r3.1) then
          Option.bind (F_spec_l12Decode ((nth (.str : Ty) r3.1 0), (List.length p1 : Int), ())) fun r5 =>
          bif decide ((List.length r3.1 : Int) < 2) then
            some (p1, p2, ())
          else
            bif !r5.2.1 then
              some (p1, p2, ())
            else
              bif (decide (((List.length p1) + (List.length ([r5.1] : List D_LogRecord))) * 32 ≤ 140737488355328) && decide (((List.length p1) + (List.length ([r5.1] : List D_LogRecord))) ≤ 140737488355328)) then
                bif inB 0 (List.length r3.1) then
                  L_spec_l12Open_3 n F_spec_l1Split F_spec_l12Decode m0 p0 (p1 ++ ([r5.1] : List D_LogRecord)) (IntKind.wrap .i64 ((IntKind.wrap .i64 (p2 + (List.length (nth (.str : Ty) r3.1 0) : Int))) + 1))
                else none
              else none
        else none
      else none
    else
      some (p1, p2, ())
  else
    some (p1, p2, ()) := by kernel_rfl
noncomputable def P_spec_l12Open : Ft_spec_l12Open := hid (runF (X_spec_l12Open N P_spec_l1Split P_spec_l12Decode) B_spec_l12Open As_spec_l12Open R_spec_l12Open M_spec_l12Open)
theorem h_spec_l12Open : P_spec_l12Open = runF (X_spec_l12Open N P_spec_l1Split P_spec_l12Decode) B_spec_l12Open As_spec_l12Open R_spec_l12Open M_spec_l12Open := hid_eq _
noncomputable def C_spec_l12Open : Contract := ⟨As_spec_l12Open, R_spec_l12Open, M_spec_l12Open, P_spec_l12Open⟩
theorem s_spec_l12Open : Sound Tryd.prog GG 51 C_spec_l12Open := by
  unfold C_spec_l12Open; rw [h_spec_l12Open]
  exact sound_of_run (fn := Tryd.f51) hmix hstable (tyOK_of ttOK) (hglob (X_spec_l12Open N P_spec_l1Split P_spec_l12Decode)) (conOK_of (X := X_spec_l12Open N P_spec_l1Split P_spec_l12Decode) ⟨s_spec_l1Split, s_spec_l12Decode, trivial⟩) (mconOK_of (X := X_spec_l12Open N P_spec_l1Split P_spec_l12Decode) trivial) (by kernel_rfl) (by kernel_rfl) (by kernel_rfl) (by kernel_rfl) (by kernel_rfl) (of_decide_eq_true (by kernel_rfl))
noncomputable def l_spec_l12Open_3 : Nat → (List UInt8) → (List D_LogRecord) → Int → Option (denL R_spec_l12Open) := hid (fun m0 p0 p1 p2 => L_spec_l12Open_3 N P_spec_l1Split P_spec_l12Decode m0 p0 p1 p2)
theorem h_spec_l12Open_3 : l_spec_l12Open_3 = fun m0 p0 p1 p2 => L_spec_l12Open_3 N P_spec_l1Split P_spec_l12Decode m0 p0 p1 p2 := hid_eq _
theorem p_spec_l12Open (a0 : List UInt8) : P_spec_l12Open (a0, ()) = 
  l_spec_l12Open_3 N a0 ([] : List D_LogRecord) 0 := by
  rewrite [h_spec_l12Open, h_spec_l12Open_3]
  exact e_spec_l12Open N P_spec_l1Split P_spec_l12Decode a0
theorem q_spec_l12Open_3 (m0 : Nat) (p0 : List UInt8) (p1 : List D_LogRecord) (p2 : Int) : l_spec_l12Open_3 (m0 + 1) p0 p1 p2 = 
  bif decide (p2 < (List.length p0 : Int)) then
    bif decide ((List.length p1 : Int) < 60) then
      bif (decide ((0 : Int) ≤ p2) && decide (p2 ≤ (List.length p0 : Int)) && decide ((List.length p0 : Int) ≤ (List.length p0 : Int))) then
        Option.bind (P_spec_l1Split ((cut p0 p2 (List.length p0 : Int)), 10, ())) fun r3 =>
        bif inB 0 (List.length r3.1) then
          Option.bind (P_spec_l12Decode ((nth (.str : Ty) r3.1 0), (List.length p1 : Int), ())) fun r5 =>
          bif decide ((List.length r3.1 : Int) < 2) then
            some (p1, p2, ())
          else
            bif !r5.2.1 then
              some (p1, p2, ())
            else
              bif (decide (((List.length p1) + (List.length ([r5.1] : List D_LogRecord))) * 32 ≤ 140737488355328) && decide (((List.length p1) + (List.length ([r5.1] : List D_LogRecord))) ≤ 140737488355328)) then
                bif inB 0 (List.length r3.1) then
                  l_spec_l12Open_3 m0 p0 (p1 ++ ([r5.1] : List D_LogRecord)) (IntKind.wrap .i64 ((IntKind.wrap .i64 (p2 + (List.length (nth (.str : Ty) r3.1 0) : Int))) + 1))
                else none
              else none
        else none
      else none
    else
      some (p1, p2, ())
  else
    some (p1, p2, ()) := by
  rewrite [h_spec_l12Open_3]
  exact e_spec_l12Open_3 N P_spec_l1Split P_spec_l12Decode m0 p0 p1 p2

/- 16: loop.example/g01166/spec.RecoverLog -/
abbrev As_spec_RecoverLog : List ATy := [.data false .str]
abbrev R_spec_RecoverLog : List (Bool × Ty) := [(true, T_Log), (false, (.int .i64)), (false, .bool)]
abbrev M_spec_RecoverLog : List RMode := []
abbrev Ft_spec_RecoverLog : Type := (List UInt8) × Unit → Option (D_Log × Int × Bool × Unit)
noncomputable def X_spec_RecoverLog (n : Nat) (F_spec_l12Open : Ft_spec_l12Open) : Ctx := { types := TT, globals := [], con := [(51, ⟨As_spec_l12Open, R_spec_l12Open, M_spec_l12Open, F_spec_l12Open⟩)], keep := [], results := [.cell 2 31, .tmp 3, .tmp 4], ntmps := 23, n := n }
noncomputable def B_spec_RecoverLog : Code := (Tryd.f16.body).getD .skip
theorem e_spec_RecoverLog (n : Nat) (F_spec_l12Open : Ft_spec_l12Open) (a0 : List UInt8) : runF (X_spec_RecoverLog n F_spec_l12Open) B_spec_RecoverLog As_spec_RecoverLog R_spec_RecoverLog M_spec_RecoverLog (a0, ()) = 
  bif decide ((List.length a0 : Int) > 30000) then
    some ((([] : List UInt8), (([] : List UInt8), (0, ()))), 0, false, ())
  else
    Option.bind (F_spec_l12Open (a0, ())) fun r1 =>
    bif (decide ((0 : Int) ≤ 0) && decide ((0 : Int) ≤ r1.2.1) && decide (r1.2.1 ≤ (List.length a0 : Int))) then
      some (((cut a0 0 r1.2.1), (([] : List UInt8), ((List.length r1.1 : Int), ()))), r1.2.1, true, ())
    else none := by kernel_rfl
noncomputable def P_spec_RecoverLog : Ft_spec_RecoverLog := hid (runF (X_spec_RecoverLog N P_spec_l12Open) B_spec_RecoverLog As_spec_RecoverLog R_spec_RecoverLog M_spec_RecoverLog)
theorem h_spec_RecoverLog : P_spec_RecoverLog = runF (X_spec_RecoverLog N P_spec_l12Open) B_spec_RecoverLog As_spec_RecoverLog R_spec_RecoverLog M_spec_RecoverLog := hid_eq _
noncomputable def C_spec_RecoverLog : Contract := ⟨As_spec_RecoverLog, R_spec_RecoverLog, M_spec_RecoverLog, P_spec_RecoverLog⟩
theorem s_spec_RecoverLog : Sound Tryd.prog GG 16 C_spec_RecoverLog := by
  unfold C_spec_RecoverLog; rw [h_spec_RecoverLog]
  exact sound_of_run (fn := Tryd.f16) hmix hstable (tyOK_of ttOK) (hglob (X_spec_RecoverLog N P_spec_l12Open)) (conOK_of (X := X_spec_RecoverLog N P_spec_l12Open) ⟨s_spec_l12Open, trivial⟩) (mconOK_of (X := X_spec_RecoverLog N P_spec_l12Open) trivial) (by kernel_rfl) (by kernel_rfl) (by kernel_rfl) (by kernel_rfl) (by kernel_rfl) (of_decide_eq_true (by kernel_rfl))
theorem p_spec_RecoverLog (a0 : List UInt8) : P_spec_RecoverLog (a0, ()) = 
  bif decide ((List.length a0 : Int) > 30000) then
    some ((([] : List UInt8), (([] : List UInt8), (0, ()))), 0, false, ())
  else
    Option.bind (P_spec_l12Open (a0, ())) fun r1 =>
    bif (decide ((0 : Int) ≤ 0) && decide ((0 : Int) ≤ r1.2.1) && decide (r1.2.1 ≤ (List.length a0 : Int))) then
      some (((cut a0 0 r1.2.1), (([] : List UInt8), ((List.length r1.1 : Int), ()))), r1.2.1, true, ())
    else none := by
  rewrite [h_spec_RecoverLog]
  exact e_spec_RecoverLog N P_spec_l12Open a0

/- 75: strings.Cut: GIVEN -/
abbrev As_strings_Cut : List ATy := [.data false .str, .data false .str]
abbrev R_strings_Cut : List (Bool × Ty) := [(false, .str), (false, .str), (false, .bool)]
abbrev M_strings_Cut : List RMode := []
abbrev Ft_strings_Cut : Type := (List UInt8) × (List UInt8) × Unit → Option ((List UInt8) × (List UInt8) × Bool × Unit)
noncomputable def P_strings_Cut : Ft_strings_Cut := fun x => bif decide (x.1.length < 4294967281) then some ((Lib.cut x.1 x.2.1).1, (Lib.cut x.1 x.2.1).2.1, (Lib.cut x.1 x.2.1).2.2, ()) else none
noncomputable def C_strings_Cut : Contract := ⟨As_strings_Cut, R_strings_Cut, M_strings_Cut, P_strings_Cut⟩
theorem s_strings_Cut : Sound Tryd.prog GG 75 C_strings_Cut := by
  refine sound_flat (fn := Tryd.f75) (c := (Tryd.f75.body).getD .skip) (by decide) (by decide) Tryd.func75 (by kernel_rfl) (by kernel_rfl) ?_
  rintro w ⟨s, sep, ⟨⟩⟩ ⟨r1, r2, r3, ⟨⟩⟩ hG hF
  have hF : (bif decide (s.length < 4294967281) then some ((Lib.cut s sep).1, (Lib.cut s sep).2.1, (Lib.cut s sep).2.2, ()) else none) = some (r1, r2, r3, ()) := hF
  by_cases h : s.length < 4294967281
  · rw [decide_eq_true h] at hF
    obtain ⟨_, _, m, hm⟩ := hG
    have hr : (Lib.cut s sep).1 = r1 ∧ (Lib.cut s sep).2.1 = r2 ∧ (Lib.cut s sep).2.2 = r3 := by simpa using hF
    rw [← hr.1, ← hr.2.1, ← hr.2.2]
    refine (Tryd.strings_Cut ⟨s.toArray⟩ ⟨sep.toArray⟩ m w (by simpa [ByteArray.size] using h) hm).mono ?_
    rintro e w' ⟨rfl, n, rfl⟩
    exact ⟨rfl, below_drew w n⟩
  · rw [decide_eq_false h] at hF; cases hF
/- 76: loop.example/g01166/impl.VerifyChecksum -/
abbrev As_impl_VerifyChecksum : List ATy := [.data false .str]
abbrev R_impl_VerifyChecksum : List (Bool × Ty) := [(false, .str), (false, .bool)]
abbrev M_impl_VerifyChecksum : List RMode := []
abbrev Ft_impl_VerifyChecksum : Type := (List UInt8) × Unit → Option ((List UInt8) × Bool × Unit)
noncomputable def X_impl_VerifyChecksum (n : Nat) (F_impl_AppendChecksum : Ft_impl_AppendChecksum) (F_strings_Cut : Ft_strings_Cut) : Ctx := { types := TT, globals := [], con := [(49, ⟨As_impl_AppendChecksum, R_impl_AppendChecksum, M_impl_AppendChecksum, F_impl_AppendChecksum⟩), (75, ⟨As_strings_Cut, R_strings_Cut, M_strings_Cut, F_strings_Cut⟩)], keep := [], results := [.tmp 2, .tmp 3], ntmps := 28, n := n }
noncomputable def B_impl_VerifyChecksum : Code := (Tryd.f76.body).getD .skip
theorem e_impl_VerifyChecksum (n : Nat) (F_impl_AppendChecksum : Ft_impl_AppendChecksum) (F_strings_Cut : Ft_strings_Cut) (a0 : List UInt8) : runF (X_impl_VerifyChecksum n F_impl_AppendChecksum F_strings_Cut) B_impl_VerifyChecksum As_impl_VerifyChecksum R_impl_VerifyChecksum M_impl_VerifyChecksum (a0, ()) = 
  Option.bind (F_strings_Cut (a0, ([35] : List UInt8), ())) fun r0 =>
  Option.bind (F_impl_AppendChecksum (r0.1, ())) fun r1 =>
  bif !r1.2.1 then
    some (([] : List UInt8), false, ())
  else
    bif !(r1.1 == a0) then
      some (([] : List UInt8), false, ())
    else
      some (r0.1, true, ()) := by kernel_rfl
noncomputable def P_impl_VerifyChecksum : Ft_impl_VerifyChecksum := hid (runF (X_impl_VerifyChecksum N P_impl_AppendChecksum P_strings_Cut) B_impl_VerifyChecksum As_impl_VerifyChecksum R_impl_VerifyChecksum M_impl_VerifyChecksum)
theorem h_impl_VerifyChecksum : P_impl_VerifyChecksum = runF (X_impl_VerifyChecksum N P_impl_AppendChecksum P_strings_Cut) B_impl_VerifyChecksum As_impl_VerifyChecksum R_impl_VerifyChecksum M_impl_VerifyChecksum := hid_eq _
noncomputable def C_impl_VerifyChecksum : Contract := ⟨As_impl_VerifyChecksum, R_impl_VerifyChecksum, M_impl_VerifyChecksum, P_impl_VerifyChecksum⟩
theorem s_impl_VerifyChecksum : Sound Tryd.prog GG 76 C_impl_VerifyChecksum := by
  unfold C_impl_VerifyChecksum; rw [h_impl_VerifyChecksum]
  exact sound_of_run (fn := Tryd.f76) hmix hstable (tyOK_of ttOK) (hglob (X_impl_VerifyChecksum N P_impl_AppendChecksum P_strings_Cut)) (conOK_of (X := X_impl_VerifyChecksum N P_impl_AppendChecksum P_strings_Cut) ⟨s_impl_AppendChecksum, s_strings_Cut, trivial⟩) (mconOK_of (X := X_impl_VerifyChecksum N P_impl_AppendChecksum P_strings_Cut) trivial) (by kernel_rfl) (by kernel_rfl) (by kernel_rfl) (by kernel_rfl) (by kernel_rfl) (of_decide_eq_true (by kernel_rfl))
theorem p_impl_VerifyChecksum (a0 : List UInt8) : P_impl_VerifyChecksum (a0, ()) = 
  Option.bind (P_strings_Cut (a0, ([35] : List UInt8), ())) fun r0 =>
  Option.bind (P_impl_AppendChecksum (r0.1, ())) fun r1 =>
  bif !r1.2.1 then
    some (([] : List UInt8), false, ())
  else
    bif !(r1.1 == a0) then
      some (([] : List UInt8), false, ())
    else
      some (r0.1, true, ()) := by
  rewrite [h_impl_VerifyChecksum]
  exact e_impl_VerifyChecksum N P_impl_AppendChecksum P_strings_Cut a0

/- 52: loop.example/g01166/impl.readRecords -/
abbrev As_impl_readRecords : List ATy := [.data false .str]
abbrev R_impl_readRecords : List (Bool × Ty) := [(false, (.sl T_LogRecord)), (false, (.sl (.int .i64)))]
abbrev M_impl_readRecords : List RMode := [.own 27, .own 3]
abbrev Ft_impl_readRecords : Type := (List UInt8) × Unit → Option ((List D_LogRecord) × (List Int) × Unit)
noncomputable def X_impl_readRecords (n : Nat) (F_impl_EncodeRecord : Ft_impl_EncodeRecord) (F_strings_Cut : Ft_strings_Cut) (F_impl_VerifyChecksum : Ft_impl_VerifyChecksum) : Ctx := { types := TT, globals := [], con := [(15, ⟨As_impl_EncodeRecord, R_impl_EncodeRecord, M_impl_EncodeRecord, F_impl_EncodeRecord⟩), (75, ⟨As_strings_Cut, R_strings_Cut, M_strings_Cut, F_strings_Cut⟩), (76, ⟨As_impl_VerifyChecksum, R_impl_VerifyChecksum, M_impl_VerifyChecksum, F_impl_VerifyChecksum⟩)], keep := [(2, ⟨[.tmp 0, .tmp 4, .tmp 5, .tmp 6], []⟩)], results := [.tmp 2, .tmp 3], ntmps := 83, n := n }
noncomputable def B_impl_readRecords : Code := (Tryd.f52.body).getD .skip
noncomputable def L_impl_readRecords_2 (n : Nat) (F_impl_EncodeRecord : Ft_impl_EncodeRecord) (F_strings_Cut : Ft_strings_Cut) (F_impl_VerifyChecksum : Ft_impl_VerifyChecksum) (m0 : Nat) (p0 : List UInt8) (p1 : List D_LogRecord) (p2 : List Int) (p3 : Int) : Option (denL R_impl_readRecords) := loopF (X_impl_readRecords n F_impl_EncodeRecord F_strings_Cut F_impl_VerifyChecksum) B_impl_readRecords R_impl_readRecords M_impl_readRecords 2 [m0] [(.ver, .num 1), (.tmp 0, .val false [.str p0]), (.tmp 4, .val false [.own 27 T_LogRecord 0 p1]), (.tmp 5, .val false [.own 3 (.int .i64) 0 p2]), (.tmp 6, .val false [.int .i64 p3])]
theorem e_impl_readRecords (n : Nat) (F_impl_EncodeRecord : Ft_impl_EncodeRecord) (F_strings_Cut : Ft_strings_Cut) (F_impl_VerifyChecksum : Ft_impl_VerifyChecksum) (a0 : List UInt8) : runF (X_impl_readRecords n F_impl_EncodeRecord F_strings_Cut F_impl_VerifyChecksum) B_impl_readRecords As_impl_readRecords R_impl_readRecords M_impl_readRecords (a0, ()) = 
  L_impl_readRecords_2 n F_impl_EncodeRecord F_strings_Cut F_impl_VerifyChecksum n a0 ([] : List D_LogRecord) ([0] : List Int) 0 := by kernel_rfl
theorem e_impl_readRecords_2 (n : Nat) (F_impl_EncodeRecord : Ft_impl_EncodeRecord) (F_strings_Cut : Ft_strings_Cut) (F_impl_VerifyChecksum : Ft_impl_VerifyChecksum) (m0 : Nat) (p0 : List UInt8) (p1 : List D_LogRecord) (p2 : List Int) (p3 : Int) : L_impl_readRecords_2 n F_impl_EncodeRecord F_strings_Cut F_impl_VerifyChecksum (m0 + 1) p0 p1 p2 p3 = 
  bif decide ((List.length p1 : Int) < 60) then
    bif (decide ((0 : Int) ≤ p3) && decide (p3 ≤ (List.length p0 : Int)) && decide ((List.length p0 : Int) ≤ (List.length p0 : Int))) then
      Option.bind (F_strings_Cut ((cut p0 p3 (List.length p0 : Int)), ([10] : List UInt8), ())) fun r2 =>
      bif !r2.2.2.1 then
        some (p1, p2, ())
      else
        Option.bind (F_impl_VerifyChecksum (r2.1, ())) fun r4 =>
        Option.bind (F_strings_Cut (r4.1, ([32] : List UInt8), ())) fun r5 =>
        Option.bind (F_strings_Cut (r5.2.1, ([64] : List UInt8), ())) fun r6 =>
        Option.bind (F_impl_EncodeRecord ((List.length p1 : Int), (r6.1, (r6.2.1, ())), ())) fun r7 =>
        bif !r7.2.1 then
          some (p1, p2, ())
        else
          Option.bind (catS r2.1 ([10] : List UInt8)) fun r9 =>
          bif !(r7.1 == r9) then
            some (p1, p2, ())
          else
            bif (decide (((List.length p1) + (List.length ([(r6.1, (r6.2.1, ()))] : List D_LogRecord))) * 32 ≤ 140737488355328) && decide (((List.length p1) + (List.length ([(r6.1, (r6.2.1, ()))] : List D_LogRecord))) ≤ 140737488355328)) then
              bif (decide (((List.length p2) + (List.length ([(IntKind.wrap .i64 (p3 + (IntKind.wrap .i64 ((List.length r2.1 : Int) + 1))))] : List Int))) * 8 ≤ 140737488355328) && decide (((List.length p2) + (List.length ([(IntKind.wrap .i64 (p3 + (IntKind.wrap .i64 ((List.length r2.1 : Int) + 1))))] : List Int))) ≤ 140737488355328)) then
                L_impl_readRecords_2 n F_impl_EncodeRecord F_strings_Cut F_impl_VerifyChecksum m0 p0 (p1 ++ ([(r6.1, (r6.2.1, ()))] : List D_LogRecord)) (p2 ++ ([(IntKind.wrap .i64 (p3 + (IntKind.wrap .i64 ((List.length r2.1 : Int) + 1))))] : List Int)) (IntKind.wrap .i64 (p3 + (IntKind.wrap .i64 ((List.length r2.1 : Int) + 1))))
              else none
            else none
    else none
  else
    some (p1, p2, ()) := by kernel_rfl
noncomputable def P_impl_readRecords : Ft_impl_readRecords := hid (runF (X_impl_readRecords N P_impl_EncodeRecord P_strings_Cut P_impl_VerifyChecksum) B_impl_readRecords As_impl_readRecords R_impl_readRecords M_impl_readRecords)
theorem h_impl_readRecords : P_impl_readRecords = runF (X_impl_readRecords N P_impl_EncodeRecord P_strings_Cut P_impl_VerifyChecksum) B_impl_readRecords As_impl_readRecords R_impl_readRecords M_impl_readRecords := hid_eq _
noncomputable def C_impl_readRecords : Contract := ⟨As_impl_readRecords, R_impl_readRecords, M_impl_readRecords, P_impl_readRecords⟩
theorem s_impl_readRecords : Sound Tryd.prog GG 52 C_impl_readRecords := by
  unfold C_impl_readRecords; rw [h_impl_readRecords]
  exact sound_of_run (fn := Tryd.f52) hmix hstable (tyOK_of ttOK) (hglob (X_impl_readRecords N P_impl_EncodeRecord P_strings_Cut P_impl_VerifyChecksum)) (conOK_of (X := X_impl_readRecords N P_impl_EncodeRecord P_strings_Cut P_impl_VerifyChecksum) ⟨s_impl_EncodeRecord, s_strings_Cut, s_impl_VerifyChecksum, trivial⟩) (mconOK_of (X := X_impl_readRecords N P_impl_EncodeRecord P_strings_Cut P_impl_VerifyChecksum) trivial) (by kernel_rfl) (by kernel_rfl) (by kernel_rfl) (by kernel_rfl) (by kernel_rfl) (of_decide_eq_true (by kernel_rfl))
noncomputable def l_impl_readRecords_2 : Nat → (List UInt8) → (List D_LogRecord) → (List Int) → Int → Option (denL R_impl_readRecords) := hid (fun m0 p0 p1 p2 p3 => L_impl_readRecords_2 N P_impl_EncodeRecord P_strings_Cut P_impl_VerifyChecksum m0 p0 p1 p2 p3)
theorem h_impl_readRecords_2 : l_impl_readRecords_2 = fun m0 p0 p1 p2 p3 => L_impl_readRecords_2 N P_impl_EncodeRecord P_strings_Cut P_impl_VerifyChecksum m0 p0 p1 p2 p3 := hid_eq _
theorem p_impl_readRecords (a0 : List UInt8) : P_impl_readRecords (a0, ()) = 
  l_impl_readRecords_2 N a0 ([] : List D_LogRecord) ([0] : List Int) 0 := by
  rewrite [h_impl_readRecords, h_impl_readRecords_2]
  exact e_impl_readRecords N P_impl_EncodeRecord P_strings_Cut P_impl_VerifyChecksum a0
theorem q_impl_readRecords_2 (m0 : Nat) (p0 : List UInt8) (p1 : List D_LogRecord) (p2 : List Int) (p3 : Int) : l_impl_readRecords_2 (m0 + 1) p0 p1 p2 p3 = 
  bif decide ((List.length p1 : Int) < 60) then
    bif (decide ((0 : Int) ≤ p3) && decide (p3 ≤ (List.length p0 : Int)) && decide ((List.length p0 : Int) ≤ (List.length p0 : Int))) then
      Option.bind (P_strings_Cut ((cut p0 p3 (List.length p0 : Int)), ([10] : List UInt8), ())) fun r2 =>
      bif !r2.2.2.1 then
        some (p1, p2, ())
      else
        Option.bind (P_impl_VerifyChecksum (r2.1, ())) fun r4 =>
        Option.bind (P_strings_Cut (r4.1, ([32] : List UInt8), ())) fun r5 =>
        Option.bind (P_strings_Cut (r5.2.1, ([64] : List UInt8), ())) fun r6 =>
        Option.bind (P_impl_EncodeRecord ((List.length p1 : Int), (r6.1, (r6.2.1, ())), ())) fun r7 =>
        bif !r7.2.1 then
          some (p1, p2, ())
        else
          Option.bind (catS r2.1 ([10] : List UInt8)) fun r9 =>
          bif !(r7.1 == r9) then
            some (p1, p2, ())
          else
            bif (decide (((List.length p1) + (List.length ([(r6.1, (r6.2.1, ()))] : List D_LogRecord))) * 32 ≤ 140737488355328) && decide (((List.length p1) + (List.length ([(r6.1, (r6.2.1, ()))] : List D_LogRecord))) ≤ 140737488355328)) then
              bif (decide (((List.length p2) + (List.length ([(IntKind.wrap .i64 (p3 + (IntKind.wrap .i64 ((List.length r2.1 : Int) + 1))))] : List Int))) * 8 ≤ 140737488355328) && decide (((List.length p2) + (List.length ([(IntKind.wrap .i64 (p3 + (IntKind.wrap .i64 ((List.length r2.1 : Int) + 1))))] : List Int))) ≤ 140737488355328)) then
                l_impl_readRecords_2 m0 p0 (p1 ++ ([(r6.1, (r6.2.1, ()))] : List D_LogRecord)) (p2 ++ ([(IntKind.wrap .i64 (p3 + (IntKind.wrap .i64 ((List.length r2.1 : Int) + 1))))] : List Int)) (IntKind.wrap .i64 (p3 + (IntKind.wrap .i64 ((List.length r2.1 : Int) + 1))))
              else none
            else none
    else none
  else
    some (p1, p2, ()) := by
  rewrite [h_impl_readRecords_2]
  exact e_impl_readRecords_2 N P_impl_EncodeRecord P_strings_Cut P_impl_VerifyChecksum m0 p0 p1 p2 p3

/- 17: loop.example/g01166/impl.RecoverLog -/
abbrev As_impl_RecoverLog : List ATy := [.data false .str]
abbrev R_impl_RecoverLog : List (Bool × Ty) := [(true, T_Log), (false, (.int .i64)), (false, .bool)]
abbrev M_impl_RecoverLog : List RMode := []
abbrev Ft_impl_RecoverLog : Type := (List UInt8) × Unit → Option (D_Log × Int × Bool × Unit)
noncomputable def X_impl_RecoverLog (n : Nat) (F_impl_readRecords : Ft_impl_readRecords) : Ctx := { types := TT, globals := [], con := [(52, ⟨As_impl_readRecords, R_impl_readRecords, M_impl_readRecords, F_impl_readRecords⟩)], keep := [], results := [.cell 2 31, .tmp 3, .tmp 4], ntmps := 29, n := n }
noncomputable def B_impl_RecoverLog : Code := (Tryd.f17.body).getD .skip
theorem e_impl_RecoverLog (n : Nat) (F_impl_readRecords : Ft_impl_readRecords) (a0 : List UInt8) : runF (X_impl_RecoverLog n F_impl_readRecords) B_impl_RecoverLog As_impl_RecoverLog R_impl_RecoverLog M_impl_RecoverLog (a0, ()) = 
  bif decide ((List.length a0 : Int) > 30000) then
    some ((([] : List UInt8), (([] : List UInt8), (0, ()))), 0, false, ())
  else
    Option.bind (F_impl_readRecords (a0, ())) fun r1 =>
    bif inB (List.length r1.1 : Int) (List.length r1.2.1) then
      bif (decide ((0 : Int) ≤ 0) && decide ((0 : Int) ≤ (nth ((.int .i64) : Ty) r1.2.1 (List.length r1.1 : Int))) && decide ((nth ((.int .i64) : Ty) r1.2.1 (List.length r1.1 : Int)) ≤ (List.length a0 : Int))) then
        some (((cut a0 0 (nth ((.int .i64) : Ty) r1.2.1 (List.length r1.1 : Int))), (([] : List UInt8), ((List.length r1.1 : Int), ()))), (nth ((.int .i64) : Ty) r1.2.1 (List.length r1.1 : Int)), true, ())
      else none
    else none := by kernel_rfl
noncomputable def P_impl_RecoverLog : Ft_impl_RecoverLog := hid (runF (X_impl_RecoverLog N P_impl_readRecords) B_impl_RecoverLog As_impl_RecoverLog R_impl_RecoverLog M_impl_RecoverLog)
theorem h_impl_RecoverLog : P_impl_RecoverLog = runF (X_impl_RecoverLog N P_impl_readRecords) B_impl_RecoverLog As_impl_RecoverLog R_impl_RecoverLog M_impl_RecoverLog := hid_eq _
noncomputable def C_impl_RecoverLog : Contract := ⟨As_impl_RecoverLog, R_impl_RecoverLog, M_impl_RecoverLog, P_impl_RecoverLog⟩
theorem s_impl_RecoverLog : Sound Tryd.prog GG 17 C_impl_RecoverLog := by
  unfold C_impl_RecoverLog; rw [h_impl_RecoverLog]
  exact sound_of_run (fn := Tryd.f17) hmix hstable (tyOK_of ttOK) (hglob (X_impl_RecoverLog N P_impl_readRecords)) (conOK_of (X := X_impl_RecoverLog N P_impl_readRecords) ⟨s_impl_readRecords, trivial⟩) (mconOK_of (X := X_impl_RecoverLog N P_impl_readRecords) trivial) (by kernel_rfl) (by kernel_rfl) (by kernel_rfl) (by kernel_rfl) (by kernel_rfl) (of_decide_eq_true (by kernel_rfl))
theorem p_impl_RecoverLog (a0 : List UInt8) : P_impl_RecoverLog (a0, ()) = 
  bif decide ((List.length a0 : Int) > 30000) then
    some ((([] : List UInt8), (([] : List UInt8), (0, ()))), 0, false, ())
  else
    Option.bind (P_impl_readRecords (a0, ())) fun r1 =>
    bif inB (List.length r1.1 : Int) (List.length r1.2.1) then
      bif (decide ((0 : Int) ≤ 0) && decide ((0 : Int) ≤ (nth ((.int .i64) : Ty) r1.2.1 (List.length r1.1 : Int))) && decide ((nth ((.int .i64) : Ty) r1.2.1 (List.length r1.1 : Int)) ≤ (List.length a0 : Int))) then
        some (((cut a0 0 (nth ((.int .i64) : Ty) r1.2.1 (List.length r1.1 : Int))), (([] : List UInt8), ((List.length r1.1 : Int), ()))), (nth ((.int .i64) : Ty) r1.2.1 (List.length r1.1 : Int)), true, ())
      else none
    else none := by
  rewrite [h_impl_RecoverLog]
  exact e_impl_RecoverLog N P_impl_readRecords a0

/- 18: loop.example/g01166/laws.eqLog -/
abbrev As_laws_eqLog : List ATy := [.data true T_Log, .data true T_Log]
abbrev R_laws_eqLog : List (Bool × Ty) := [(false, .bool)]
abbrev M_laws_eqLog : List RMode := []
abbrev Ft_laws_eqLog : Type := D_Log × D_Log × Unit → Option (Bool × Unit)
noncomputable def X_laws_eqLog (n : Nat) : Ctx := { types := TT, globals := [], con := [], keep := [], results := [.tmp 4], ntmps := 20, n := n }
noncomputable def B_laws_eqLog : Code := (Tryd.f18.body).getD .skip
theorem e_laws_eqLog (n : Nat) (a0 : D_Log) (a1 : D_Log) : runF (X_laws_eqLog n) B_laws_eqLog As_laws_eqLog R_laws_eqLog M_laws_eqLog (a0, a1, ()) = 
  bif !(a0.1 == a1.1) then
    some (false, ())
  else
    bif !(a0.2.1 == a1.2.1) then
      some (false, ())
    else
      bif !decide (a0.2.2.1 = a1.2.2.1) then
        some (false, ())
      else
        some (true, ()) := by kernel_rfl
noncomputable def P_laws_eqLog : Ft_laws_eqLog := hid (runF (X_laws_eqLog N) B_laws_eqLog As_laws_eqLog R_laws_eqLog M_laws_eqLog)
theorem h_laws_eqLog : P_laws_eqLog = runF (X_laws_eqLog N) B_laws_eqLog As_laws_eqLog R_laws_eqLog M_laws_eqLog := hid_eq _
noncomputable def C_laws_eqLog : Contract := ⟨As_laws_eqLog, R_laws_eqLog, M_laws_eqLog, P_laws_eqLog⟩
theorem s_laws_eqLog : Sound Tryd.prog GG 18 C_laws_eqLog := by
  unfold C_laws_eqLog; rw [h_laws_eqLog]
  exact sound_of_run (fn := Tryd.f18) hmix hstable (tyOK_of ttOK) (hglob (X_laws_eqLog N)) (conOK_of (X := X_laws_eqLog N) trivial) (mconOK_of (X := X_laws_eqLog N) trivial) (by kernel_rfl) (by kernel_rfl) (by kernel_rfl) (by kernel_rfl) (by kernel_rfl) (of_decide_eq_true (by kernel_rfl))
theorem p_laws_eqLog (a0 : D_Log) (a1 : D_Log) : P_laws_eqLog (a0, a1, ()) = 
  bif !(a0.1 == a1.1) then
    some (false, ())
  else
    bif !(a0.2.1 == a1.2.1) then
      some (false, ())
    else
      bif !decide (a0.2.2.1 = a1.2.2.1) then
        some (false, ())
      else
        some (true, ()) := by
  rewrite [h_laws_eqLog]
  exact e_laws_eqLog N a0 a1

/- 4: loop.example/g01166/laws.FnExactRecoverLog -/
abbrev As_laws_FnExactRecoverLog : List ATy := [.data false .str]
abbrev R_laws_FnExactRecoverLog : List (Bool × Ty) := [(false, .bool)]
abbrev M_laws_FnExactRecoverLog : List RMode := []
abbrev Ft_laws_FnExactRecoverLog : Type := (List UInt8) × Unit → Option (Bool × Unit)
noncomputable def X_laws_FnExactRecoverLog (n : Nat) (F_spec_RecoverLog : Ft_spec_RecoverLog) (F_impl_RecoverLog : Ft_impl_RecoverLog) (F_laws_eqLog : Ft_laws_eqLog) : Ctx := { types := TT, globals := [], con := [(16, ⟨As_spec_RecoverLog, R_spec_RecoverLog, M_spec_RecoverLog, F_spec_RecoverLog⟩), (17, ⟨As_impl_RecoverLog, R_impl_RecoverLog, M_impl_RecoverLog, F_impl_RecoverLog⟩), (18, ⟨As_laws_eqLog, R_laws_eqLog, M_laws_eqLog, F_laws_eqLog⟩)], keep := [], results := [.tmp 2], ntmps := 38, n := n }
noncomputable def B_laws_FnExactRecoverLog : Code := (Tryd.f4.body).getD .skip
theorem e_laws_FnExactRecoverLog (n : Nat) (F_spec_RecoverLog : Ft_spec_RecoverLog) (F_impl_RecoverLog : Ft_impl_RecoverLog) (F_laws_eqLog : Ft_laws_eqLog) (a0 : List UInt8) : runF (X_laws_FnExactRecoverLog n F_spec_RecoverLog F_impl_RecoverLog F_laws_eqLog) B_laws_FnExactRecoverLog As_laws_FnExactRecoverLog R_laws_FnExactRecoverLog M_laws_FnExactRecoverLog (a0, ()) = 
  bif decide ((List.length a0 : Int) > 1048576) then
    some (true, ())
  else
    Option.bind (F_spec_RecoverLog (a0, ())) fun r1 =>
    Option.bind (F_impl_RecoverLog (a0, ())) fun r2 =>
    Option.bind (F_laws_eqLog (r2.1, r1.1, ())) fun r3 =>
    bif !r3.1 then
      some (false, ())
    else
      bif !decide (r2.2.1 = r1.2.1) then
        some (false, ())
      else
        bif !(r2.2.2.1 == r1.2.2.1) then
          some (false, ())
        else
          some (true, ()) := by kernel_rfl
noncomputable def P_laws_FnExactRecoverLog : Ft_laws_FnExactRecoverLog := hid (runF (X_laws_FnExactRecoverLog N P_spec_RecoverLog P_impl_RecoverLog P_laws_eqLog) B_laws_FnExactRecoverLog As_laws_FnExactRecoverLog R_laws_FnExactRecoverLog M_laws_FnExactRecoverLog)
theorem h_laws_FnExactRecoverLog : P_laws_FnExactRecoverLog = runF (X_laws_FnExactRecoverLog N P_spec_RecoverLog P_impl_RecoverLog P_laws_eqLog) B_laws_FnExactRecoverLog As_laws_FnExactRecoverLog R_laws_FnExactRecoverLog M_laws_FnExactRecoverLog := hid_eq _
noncomputable def C_laws_FnExactRecoverLog : Contract := ⟨As_laws_FnExactRecoverLog, R_laws_FnExactRecoverLog, M_laws_FnExactRecoverLog, P_laws_FnExactRecoverLog⟩
theorem s_laws_FnExactRecoverLog : Sound Tryd.prog GG 4 C_laws_FnExactRecoverLog := by
  unfold C_laws_FnExactRecoverLog; rw [h_laws_FnExactRecoverLog]
  exact sound_of_run (fn := Tryd.f4) hmix hstable (tyOK_of ttOK) (hglob (X_laws_FnExactRecoverLog N P_spec_RecoverLog P_impl_RecoverLog P_laws_eqLog)) (conOK_of (X := X_laws_FnExactRecoverLog N P_spec_RecoverLog P_impl_RecoverLog P_laws_eqLog) ⟨s_spec_RecoverLog, s_impl_RecoverLog, s_laws_eqLog, trivial⟩) (mconOK_of (X := X_laws_FnExactRecoverLog N P_spec_RecoverLog P_impl_RecoverLog P_laws_eqLog) trivial) (by kernel_rfl) (by kernel_rfl) (by kernel_rfl) (by kernel_rfl) (by kernel_rfl) (of_decide_eq_true (by kernel_rfl))
theorem p_laws_FnExactRecoverLog (a0 : List UInt8) : P_laws_FnExactRecoverLog (a0, ()) = 
  bif decide ((List.length a0 : Int) > 1048576) then
    some (true, ())
  else
    Option.bind (P_spec_RecoverLog (a0, ())) fun r1 =>
    Option.bind (P_impl_RecoverLog (a0, ())) fun r2 =>
    Option.bind (P_laws_eqLog (r2.1, r1.1, ())) fun r3 =>
    bif !r3.1 then
      some (false, ())
    else
      bif !decide (r2.2.1 = r1.2.1) then
        some (false, ())
      else
        bif !(r2.2.2.1 == r1.2.2.1) then
          some (false, ())
        else
          some (true, ()) := by
  rewrite [h_laws_FnExactRecoverLog]
  exact e_laws_FnExactRecoverLog N P_spec_RecoverLog P_impl_RecoverLog P_laws_eqLog a0

/- 19: loop.example/g01166/laws.szLog -/
abbrev As_laws_szLog : List ATy := [.data true T_Log, .data false (.int .i64)]
abbrev R_laws_szLog : List (Bool × Ty) := [(false, (.int .i64))]
abbrev M_laws_szLog : List RMode := []
abbrev Ft_laws_szLog : Type := D_Log × Int × Unit → Option (Int × Unit)
noncomputable def X_laws_szLog (n : Nat) : Ctx := { types := TT, globals := [], con := [], keep := [], results := [.tmp 4], ntmps := 20, n := n }
noncomputable def B_laws_szLog : Code := (Tryd.f19.body).getD .skip
theorem e_laws_szLog (n : Nat) (a0 : D_Log) (a1 : Int) : runF (X_laws_szLog n) B_laws_szLog As_laws_szLog R_laws_szLog M_laws_szLog (a0, a1, ()) = 
  bif decide ((IntKind.wrap .i64 (a1 - (List.length a0.1 : Int))) < 0) then
    some ((-1), ())
  else
    bif decide ((IntKind.wrap .i64 ((IntKind.wrap .i64 (a1 - (List.length a0.1 : Int))) - (List.length a0.2.1 : Int))) < 0) then
      some ((-1), ())
    else
      some ((IntKind.wrap .i64 ((IntKind.wrap .i64 (a1 - (List.length a0.1 : Int))) - (List.length a0.2.1 : Int))), ()) := by kernel_rfl
noncomputable def P_laws_szLog : Ft_laws_szLog := hid (runF (X_laws_szLog N) B_laws_szLog As_laws_szLog R_laws_szLog M_laws_szLog)
theorem h_laws_szLog : P_laws_szLog = runF (X_laws_szLog N) B_laws_szLog As_laws_szLog R_laws_szLog M_laws_szLog := hid_eq _
noncomputable def C_laws_szLog : Contract := ⟨As_laws_szLog, R_laws_szLog, M_laws_szLog, P_laws_szLog⟩
theorem s_laws_szLog : Sound Tryd.prog GG 19 C_laws_szLog := by
  unfold C_laws_szLog; rw [h_laws_szLog]
  exact sound_of_run (fn := Tryd.f19) hmix hstable (tyOK_of ttOK) (hglob (X_laws_szLog N)) (conOK_of (X := X_laws_szLog N) trivial) (mconOK_of (X := X_laws_szLog N) trivial) (by kernel_rfl) (by kernel_rfl) (by kernel_rfl) (by kernel_rfl) (by kernel_rfl) (of_decide_eq_true (by kernel_rfl))
theorem p_laws_szLog (a0 : D_Log) (a1 : Int) : P_laws_szLog (a0, a1, ()) = 
  bif decide ((IntKind.wrap .i64 (a1 - (List.length a0.1 : Int))) < 0) then
    some ((-1), ())
  else
    bif decide ((IntKind.wrap .i64 ((IntKind.wrap .i64 (a1 - (List.length a0.1 : Int))) - (List.length a0.2.1 : Int))) < 0) then
      some ((-1), ())
    else
      some ((IntKind.wrap .i64 ((IntKind.wrap .i64 (a1 - (List.length a0.1 : Int))) - (List.length a0.2.1 : Int))), ()) := by
  rewrite [h_laws_szLog]
  exact e_laws_szLog N a0 a1

/- 53: loop.example/g01166/spec.l12Valid -/
abbrev As_spec_l12Valid : List ATy := [.data true T_Log]
abbrev R_spec_l12Valid : List (Bool × Ty) := [(false, .bool)]
abbrev M_spec_l12Valid : List RMode := []
abbrev Ft_spec_l12Valid : Type := D_Log × Unit → Option (Bool × Unit)
noncomputable def X_spec_l12Valid (n : Nat) (F_spec_l12Open : Ft_spec_l12Open) : Ctx := { types := TT, globals := [], con := [(51, ⟨As_spec_l12Open, R_spec_l12Open, M_spec_l12Open, F_spec_l12Open⟩)], keep := [], results := [.tmp 2], ntmps := 53, n := n }
noncomputable def B_spec_l12Valid : Code := (Tryd.f53.body).getD .skip
theorem e_spec_l12Valid (n : Nat) (F_spec_l12Open : Ft_spec_l12Open) (a0 : D_Log) : runF (X_spec_l12Valid n F_spec_l12Open) B_spec_l12Valid As_spec_l12Valid R_spec_l12Valid M_spec_l12Valid (a0, ()) = 
  bif decide ((IntKind.wrap .i64 ((List.length a0.1 : Int) + (List.length a0.2.1 : Int))) > 30000) then
    some (false, ())
  else
    Option.bind (catS a0.1 a0.2.1) fun r1 =>
    Option.bind (F_spec_l12Open (r1, ())) fun r2 =>
    Option.bind (F_spec_l12Open (a0.1, ())) fun r3 =>
    bif decide (r2.2.1 = (IntKind.wrap .i64 ((List.length a0.1 : Int) + (List.length a0.2.1 : Int)))) then
      bif decide (r3.2.1 = (List.length a0.1 : Int)) then
        some (decide ((List.length r2.1 : Int) = a0.2.2.1), ())
      else
        some (false, ())
    else
      some (false, ()) := by kernel_rfl
noncomputable def P_spec_l12Valid : Ft_spec_l12Valid := hid (runF (X_spec_l12Valid N P_spec_l12Open) B_spec_l12Valid As_spec_l12Valid R_spec_l12Valid M_spec_l12Valid)
theorem h_spec_l12Valid : P_spec_l12Valid = runF (X_spec_l12Valid N P_spec_l12Open) B_spec_l12Valid As_spec_l12Valid R_spec_l12Valid M_spec_l12Valid := hid_eq _
noncomputable def C_spec_l12Valid : Contract := ⟨As_spec_l12Valid, R_spec_l12Valid, M_spec_l12Valid, P_spec_l12Valid⟩
theorem s_spec_l12Valid : Sound Tryd.prog GG 53 C_spec_l12Valid := by
  unfold C_spec_l12Valid; rw [h_spec_l12Valid]
  exact sound_of_run (fn := Tryd.f53) hmix hstable (tyOK_of ttOK) (hglob (X_spec_l12Valid N P_spec_l12Open)) (conOK_of (X := X_spec_l12Valid N P_spec_l12Open) ⟨s_spec_l12Open, trivial⟩) (mconOK_of (X := X_spec_l12Valid N P_spec_l12Open) trivial) (by kernel_rfl) (by kernel_rfl) (by kernel_rfl) (by kernel_rfl) (by kernel_rfl) (of_decide_eq_true (by kernel_rfl))
theorem p_spec_l12Valid (a0 : D_Log) : P_spec_l12Valid (a0, ()) = 
  bif decide ((IntKind.wrap .i64 ((List.length a0.1 : Int) + (List.length a0.2.1 : Int))) > 30000) then
    some (false, ())
  else
    Option.bind (catS a0.1 a0.2.1) fun r1 =>
    Option.bind (P_spec_l12Open (r1, ())) fun r2 =>
    Option.bind (P_spec_l12Open (a0.1, ())) fun r3 =>
    bif decide (r2.2.1 = (IntKind.wrap .i64 ((List.length a0.1 : Int) + (List.length a0.2.1 : Int)))) then
      bif decide (r3.2.1 = (List.length a0.1 : Int)) then
        some (decide ((List.length r2.1 : Int) = a0.2.2.1), ())
      else
        some (false, ())
    else
      some (false, ()) := by
  rewrite [h_spec_l12Valid]
  exact e_spec_l12Valid N P_spec_l12Open a0

/- 20: loop.example/g01166/spec.IsValidLog -/
abbrev As_spec_IsValidLog : List ATy := [.data true T_Log]
abbrev R_spec_IsValidLog : List (Bool × Ty) := [(false, .bool)]
abbrev M_spec_IsValidLog : List RMode := []
abbrev Ft_spec_IsValidLog : Type := D_Log × Unit → Option (Bool × Unit)
noncomputable def X_spec_IsValidLog (n : Nat) (F_spec_l12Valid : Ft_spec_l12Valid) : Ctx := { types := TT, globals := [], con := [(53, ⟨As_spec_l12Valid, R_spec_l12Valid, M_spec_l12Valid, F_spec_l12Valid⟩)], keep := [], results := [.tmp 2], ntmps := 5, n := n }
noncomputable def B_spec_IsValidLog : Code := (Tryd.f20.body).getD .skip
theorem e_spec_IsValidLog (n : Nat) (F_spec_l12Valid : Ft_spec_l12Valid) (a0 : D_Log) : runF (X_spec_IsValidLog n F_spec_l12Valid) B_spec_IsValidLog As_spec_IsValidLog R_spec_IsValidLog M_spec_IsValidLog (a0, ()) = 
  Option.bind (F_spec_l12Valid (a0, ())) fun r0 =>
  some (r0.1, ()) := by kernel_rfl
noncomputable def P_spec_IsValidLog : Ft_spec_IsValidLog := hid (runF (X_spec_IsValidLog N P_spec_l12Valid) B_spec_IsValidLog As_spec_IsValidLog R_spec_IsValidLog M_spec_IsValidLog)
theorem h_spec_IsValidLog : P_spec_IsValidLog = runF (X_spec_IsValidLog N P_spec_l12Valid) B_spec_IsValidLog As_spec_IsValidLog R_spec_IsValidLog M_spec_IsValidLog := hid_eq _
noncomputable def C_spec_IsValidLog : Contract := ⟨As_spec_IsValidLog, R_spec_IsValidLog, M_spec_IsValidLog, P_spec_IsValidLog⟩
theorem s_spec_IsValidLog : Sound Tryd.prog GG 20 C_spec_IsValidLog := by
  unfold C_spec_IsValidLog; rw [h_spec_IsValidLog]
  exact sound_of_run (fn := Tryd.f20) hmix hstable (tyOK_of ttOK) (hglob (X_spec_IsValidLog N P_spec_l12Valid)) (conOK_of (X := X_spec_IsValidLog N P_spec_l12Valid) ⟨s_spec_l12Valid, trivial⟩) (mconOK_of (X := X_spec_IsValidLog N P_spec_l12Valid) trivial) (by kernel_rfl) (by kernel_rfl) (by kernel_rfl) (by kernel_rfl) (by kernel_rfl) (of_decide_eq_true (by kernel_rfl))
theorem p_spec_IsValidLog (a0 : D_Log) : P_spec_IsValidLog (a0, ()) = 
  Option.bind (P_spec_l12Valid (a0, ())) fun r0 =>
  some (r0.1, ()) := by
  rewrite [h_spec_IsValidLog]
  exact e_spec_IsValidLog N P_spec_l12Valid a0

/- 21: loop.example/g01166/laws.toLog -/
abbrev As_laws_toLog : List ATy := [.data true T_Log]
abbrev R_laws_toLog : List (Bool × Ty) := [(true, T_Log)]
abbrev M_laws_toLog : List RMode := []
abbrev Ft_laws_toLog : Type := D_Log × Unit → Option (D_Log × Unit)
noncomputable def X_laws_toLog (n : Nat) : Ctx := { types := TT, globals := [], con := [], keep := [], results := [.cell 2 31], ntmps := 14, n := n }
noncomputable def B_laws_toLog : Code := (Tryd.f21.body).getD .skip
theorem e_laws_toLog (n : Nat) (a0 : D_Log) : runF (X_laws_toLog n) B_laws_toLog As_laws_toLog R_laws_toLog M_laws_toLog (a0, ()) = 
  some (a0, ()) := by kernel_rfl
noncomputable def P_laws_toLog : Ft_laws_toLog := hid (runF (X_laws_toLog N) B_laws_toLog As_laws_toLog R_laws_toLog M_laws_toLog)
theorem h_laws_toLog : P_laws_toLog = runF (X_laws_toLog N) B_laws_toLog As_laws_toLog R_laws_toLog M_laws_toLog := hid_eq _
noncomputable def C_laws_toLog : Contract := ⟨As_laws_toLog, R_laws_toLog, M_laws_toLog, P_laws_toLog⟩
theorem s_laws_toLog : Sound Tryd.prog GG 21 C_laws_toLog := by
  unfold C_laws_toLog; rw [h_laws_toLog]
  exact sound_of_run (fn := Tryd.f21) hmix hstable (tyOK_of ttOK) (hglob (X_laws_toLog N)) (conOK_of (X := X_laws_toLog N) trivial) (mconOK_of (X := X_laws_toLog N) trivial) (by kernel_rfl) (by kernel_rfl) (by kernel_rfl) (by kernel_rfl) (by kernel_rfl) (of_decide_eq_true (by kernel_rfl))
theorem p_laws_toLog (a0 : D_Log) : P_laws_toLog (a0, ()) = 
  some (a0, ()) := by
  rewrite [h_laws_toLog]
  exact e_laws_toLog N a0

/- 77: slices.Index[[]int,int] -/
abbrev As_slices_Index_int_int : List ATy := [.data false (.sl (.int .i64)), .data false (.int .i64)]
abbrev R_slices_Index_int_int : List (Bool × Ty) := [(false, (.int .i64))]
abbrev M_slices_Index_int_int : List RMode := []
abbrev Ft_slices_Index_int_int : Type := (List Int) × Int × Unit → Option (Int × Unit)
noncomputable def X_slices_Index_int_int (n : Nat) : Ctx := { types := TT, globals := [], con := [], keep := [(2, ⟨[.tmp 0, .tmp 1, .tmp 7, .tmp 8], []⟩)], results := [.tmp 4], ntmps := 19, n := n }
noncomputable def B_slices_Index_int_int : Code := (Tryd.f77.body).getD .skip
noncomputable def L_slices_Index_int_int_2 (n : Nat) (m0 : Nat) (p0 : List Int) (p1 : Int) (p2 : Int) (p3 : Int) : Option (denL R_slices_Index_int_int) := loopF (X_slices_Index_int_int n) B_slices_Index_int_int R_slices_Index_int_int M_slices_Index_int_int 2 [m0] [(.ver, .num 1), (.tmp 0, .val false [.imm (.int .i64) p0 (some 0)]), (.tmp 1, .val false [.int .i64 p1]), (.tmp 7, .val false [.int .i64 p2]), (.tmp 8, .val false [.int .i64 p3])]
theorem e_slices_Index_int_int (n : Nat) (a0 : List Int) (a1 : Int) : runF (X_slices_Index_int_int n) B_slices_Index_int_int As_slices_Index_int_int R_slices_Index_int_int M_slices_Index_int_int (a0, a1, ()) = 
  L_slices_Index_int_int_2 n n a0 a1 (List.length a0 : Int) 0 := by kernel_rfl
theorem e_slices_Index_int_int_2 (n : Nat) (m0 : Nat) (p0 : List Int) (p1 : Int) (p2 : Int) (p3 : Int) : L_slices_Index_int_int_2 n (m0 + 1) p0 p1 p2 p3 = 
  bif decide (p3 < p2) then
    bif inB p3 (List.length p0) then
      bif decide (p1 = (nth ((.int .i64) : Ty) p0 p3)) then
        some (p3, ())
      else
        L_slices_Index_int_int_2 n m0 p0 p1 p2 (IntKind.wrap .i64 (p3 + 1))
    else none
  else
    some ((-1), ()) := by kernel_rfl
noncomputable def P_slices_Index_int_int : Ft_slices_Index_int_int := hid (runF (X_slices_Index_int_int N) B_slices_Index_int_int As_slices_Index_int_int R_slices_Index_int_int M_slices_Index_int_int)
theorem h_slices_Index_int_int : P_slices_Index_int_int = runF (X_slices_Index_int_int N) B_slices_Index_int_int As_slices_Index_int_int R_slices_Index_int_int M_slices_Index_int_int := hid_eq _
noncomputable def C_slices_Index_int_int : Contract := ⟨As_slices_Index_int_int, R_slices_Index_int_int, M_slices_Index_int_int, P_slices_Index_int_int⟩
theorem s_slices_Index_int_int : Sound Tryd.prog GG 77 C_slices_Index_int_int := by
  unfold C_slices_Index_int_int; rw [h_slices_Index_int_int]
  exact sound_of_run (fn := Tryd.f77) hmix hstable (tyOK_of ttOK) (hglob (X_slices_Index_int_int N)) (conOK_of (X := X_slices_Index_int_int N) trivial) (mconOK_of (X := X_slices_Index_int_int N) trivial) (by kernel_rfl) (by kernel_rfl) (by kernel_rfl) (by kernel_rfl) (by kernel_rfl) (of_decide_eq_true (by kernel_rfl))
noncomputable def l_slices_Index_int_int_2 : Nat → (List Int) → Int → Int → Int → Option (denL R_slices_Index_int_int) := hid (fun m0 p0 p1 p2 p3 => L_slices_Index_int_int_2 N m0 p0 p1 p2 p3)
theorem h_slices_Index_int_int_2 : l_slices_Index_int_int_2 = fun m0 p0 p1 p2 p3 => L_slices_Index_int_int_2 N m0 p0 p1 p2 p3 := hid_eq _
theorem p_slices_Index_int_int (a0 : List Int) (a1 : Int) : P_slices_Index_int_int (a0, a1, ()) = 
  l_slices_Index_int_int_2 N a0 a1 (List.length a0 : Int) 0 := by
  rewrite [h_slices_Index_int_int, h_slices_Index_int_int_2]
  exact e_slices_Index_int_int N a0 a1
theorem q_slices_Index_int_int_2 (m0 : Nat) (p0 : List Int) (p1 : Int) (p2 : Int) (p3 : Int) : l_slices_Index_int_int_2 (m0 + 1) p0 p1 p2 p3 = 
  bif decide (p3 < p2) then
    bif inB p3 (List.length p0) then
      bif decide (p1 = (nth ((.int .i64) : Ty) p0 p3)) then
        some (p3, ())
      else
        l_slices_Index_int_int_2 m0 p0 p1 p2 (IntKind.wrap .i64 (p3 + 1))
    else none
  else
    some ((-1), ()) := by
  rewrite [h_slices_Index_int_int_2]
  exact e_slices_Index_int_int_2 N m0 p0 p1 p2 p3

/- 54: slices.Contains[[]int,int] -/
abbrev As_slices_Contains_int_int : List ATy := [.data false (.sl (.int .i64)), .data false (.int .i64)]
abbrev R_slices_Contains_int_int : List (Bool × Ty) := [(false, .bool)]
abbrev M_slices_Contains_int_int : List RMode := []
abbrev Ft_slices_Contains_int_int : Type := (List Int) × Int × Unit → Option (Bool × Unit)
noncomputable def X_slices_Contains_int_int (n : Nat) (F_slices_Index_int_int : Ft_slices_Index_int_int) : Ctx := { types := TT, globals := [], con := [(77, ⟨As_slices_Index_int_int, R_slices_Index_int_int, M_slices_Index_int_int, F_slices_Index_int_int⟩)], keep := [], results := [.tmp 4], ntmps := 9, n := n }
noncomputable def B_slices_Contains_int_int : Code := (Tryd.f54.body).getD .skip
theorem e_slices_Contains_int_int (n : Nat) (F_slices_Index_int_int : Ft_slices_Index_int_int) (a0 : List Int) (a1 : Int) : runF (X_slices_Contains_int_int n F_slices_Index_int_int) B_slices_Contains_int_int As_slices_Contains_int_int R_slices_Contains_int_int M_slices_Contains_int_int (a0, a1, ()) = 
  Option.bind (F_slices_Index_int_int (a0, a1, ())) fun r0 =>
  some (decide (r0.1 ≥ 0), ()) := by kernel_rfl
noncomputable def P_slices_Contains_int_int : Ft_slices_Contains_int_int := hid (runF (X_slices_Contains_int_int N P_slices_Index_int_int) B_slices_Contains_int_int As_slices_Contains_int_int R_slices_Contains_int_int M_slices_Contains_int_int)
theorem h_slices_Contains_int_int : P_slices_Contains_int_int = runF (X_slices_Contains_int_int N P_slices_Index_int_int) B_slices_Contains_int_int As_slices_Contains_int_int R_slices_Contains_int_int M_slices_Contains_int_int := hid_eq _
noncomputable def C_slices_Contains_int_int : Contract := ⟨As_slices_Contains_int_int, R_slices_Contains_int_int, M_slices_Contains_int_int, P_slices_Contains_int_int⟩
theorem s_slices_Contains_int_int : Sound Tryd.prog GG 54 C_slices_Contains_int_int := by
  unfold C_slices_Contains_int_int; rw [h_slices_Contains_int_int]
  exact sound_of_run (fn := Tryd.f54) hmix hstable (tyOK_of ttOK) (hglob (X_slices_Contains_int_int N P_slices_Index_int_int)) (conOK_of (X := X_slices_Contains_int_int N P_slices_Index_int_int) ⟨s_slices_Index_int_int, trivial⟩) (mconOK_of (X := X_slices_Contains_int_int N P_slices_Index_int_int) trivial) (by kernel_rfl) (by kernel_rfl) (by kernel_rfl) (by kernel_rfl) (by kernel_rfl) (of_decide_eq_true (by kernel_rfl))
theorem p_slices_Contains_int_int (a0 : List Int) (a1 : Int) : P_slices_Contains_int_int (a0, a1, ()) = 
  Option.bind (P_slices_Index_int_int (a0, a1, ())) fun r0 =>
  some (decide (r0.1 ≥ 0), ()) := by
  rewrite [h_slices_Contains_int_int]
  exact e_slices_Contains_int_int N P_slices_Index_int_int a0 a1

/- 22: loop.example/g01166/impl.IsValidLog -/
abbrev As_impl_IsValidLog : List ATy := [.data true T_Log]
abbrev R_impl_IsValidLog : List (Bool × Ty) := [(false, .bool)]
abbrev M_impl_IsValidLog : List RMode := []
abbrev Ft_impl_IsValidLog : Type := D_Log × Unit → Option (Bool × Unit)
noncomputable def X_impl_IsValidLog (n : Nat) (F_impl_readRecords : Ft_impl_readRecords) (F_slices_Contains_int_int : Ft_slices_Contains_int_int) : Ctx := { types := TT, globals := [], con := [(52, ⟨As_impl_readRecords, R_impl_readRecords, M_impl_readRecords, F_impl_readRecords⟩), (54, ⟨As_slices_Contains_int_int, R_slices_Contains_int_int, M_slices_Contains_int_int, F_slices_Contains_int_int⟩)], keep := [], results := [.tmp 2], ntmps := 49, n := n }
noncomputable def B_impl_IsValidLog : Code := (Tryd.f22.body).getD .skip
theorem e_impl_IsValidLog (n : Nat) (F_impl_readRecords : Ft_impl_readRecords) (F_slices_Contains_int_int : Ft_slices_Contains_int_int) (a0 : D_Log) : runF (X_impl_IsValidLog n F_impl_readRecords F_slices_Contains_int_int) B_impl_IsValidLog As_impl_IsValidLog R_impl_IsValidLog M_impl_IsValidLog (a0, ()) = 
  bif decide ((IntKind.wrap .i64 ((List.length a0.1 : Int) + (List.length a0.2.1 : Int))) > 30000) then
    some (false, ())
  else
    Option.bind (catS a0.1 a0.2.1) fun r1 =>
    Option.bind (F_impl_readRecords (r1, ())) fun r2 =>
    bif inB (List.length r2.1 : Int) (List.length r2.2.1) then
      bif decide ((nth ((.int .i64) : Ty) r2.2.1 (List.length r2.1 : Int)) = (IntKind.wrap .i64 ((List.length a0.1 : Int) + (List.length a0.2.1 : Int)))) then
        bif decide (a0.2.2.1 = (List.length r2.1 : Int)) then
          Option.bind (F_slices_Contains_int_int (r2.2.1, (List.length a0.1 : Int), ())) fun r6 =>
          some (r6.1, ())
        else
          some (false, ())
      else
        some (false, ())
    else none := by kernel_rfl
noncomputable def P_impl_IsValidLog : Ft_impl_IsValidLog := hid (runF (X_impl_IsValidLog N P_impl_readRecords P_slices_Contains_int_int) B_impl_IsValidLog As_impl_IsValidLog R_impl_IsValidLog M_impl_IsValidLog)
theorem h_impl_IsValidLog : P_impl_IsValidLog = runF (X_impl_IsValidLog N P_impl_readRecords P_slices_Contains_int_int) B_impl_IsValidLog As_impl_IsValidLog R_impl_IsValidLog M_impl_IsValidLog := hid_eq _
noncomputable def C_impl_IsValidLog : Contract := ⟨As_impl_IsValidLog, R_impl_IsValidLog, M_impl_IsValidLog, P_impl_IsValidLog⟩
theorem s_impl_IsValidLog : Sound Tryd.prog GG 22 C_impl_IsValidLog := by
  unfold C_impl_IsValidLog; rw [h_impl_IsValidLog]
  exact sound_of_run (fn := Tryd.f22) hmix hstable (tyOK_of ttOK) (hglob (X_impl_IsValidLog N P_impl_readRecords P_slices_Contains_int_int)) (conOK_of (X := X_impl_IsValidLog N P_impl_readRecords P_slices_Contains_int_int) ⟨s_impl_readRecords, s_slices_Contains_int_int, trivial⟩) (mconOK_of (X := X_impl_IsValidLog N P_impl_readRecords P_slices_Contains_int_int) trivial) (by kernel_rfl) (by kernel_rfl) (by kernel_rfl) (by kernel_rfl) (by kernel_rfl) (of_decide_eq_true (by kernel_rfl))
theorem p_impl_IsValidLog (a0 : D_Log) : P_impl_IsValidLog (a0, ()) = 
  bif decide ((IntKind.wrap .i64 ((List.length a0.1 : Int) + (List.length a0.2.1 : Int))) > 30000) then
    some (false, ())
  else
    Option.bind (catS a0.1 a0.2.1) fun r1 =>
    Option.bind (P_impl_readRecords (r1, ())) fun r2 =>
    bif inB (List.length r2.1 : Int) (List.length r2.2.1) then
      bif decide ((nth ((.int .i64) : Ty) r2.2.1 (List.length r2.1 : Int)) = (IntKind.wrap .i64 ((List.length a0.1 : Int) + (List.length a0.2.1 : Int)))) then
        bif decide (a0.2.2.1 = (List.length r2.1 : Int)) then
          Option.bind (P_slices_Contains_int_int (r2.2.1, (List.length a0.1 : Int), ())) fun r6 =>
          some (r6.1, ())
        else
          some (false, ())
      else
        some (false, ())
    else none := by
  rewrite [h_impl_IsValidLog]
  exact e_impl_IsValidLog N P_impl_readRecords P_slices_Contains_int_int a0

/- 5: loop.example/g01166/laws.FnExactIsValidLog -/
abbrev As_laws_FnExactIsValidLog : List ATy := [.data true T_Log]
abbrev R_laws_FnExactIsValidLog : List (Bool × Ty) := [(false, .bool)]
abbrev M_laws_FnExactIsValidLog : List RMode := []
abbrev Ft_laws_FnExactIsValidLog : Type := D_Log × Unit → Option (Bool × Unit)
noncomputable def X_laws_FnExactIsValidLog (n : Nat) (F_laws_szLog : Ft_laws_szLog) (F_spec_IsValidLog : Ft_spec_IsValidLog) (F_laws_toLog : Ft_laws_toLog) (F_impl_IsValidLog : Ft_impl_IsValidLog) : Ctx := { types := TT, globals := [], con := [(19, ⟨As_laws_szLog, R_laws_szLog, M_laws_szLog, F_laws_szLog⟩), (20, ⟨As_spec_IsValidLog, R_spec_IsValidLog, M_spec_IsValidLog, F_spec_IsValidLog⟩), (21, ⟨As_laws_toLog, R_laws_toLog, M_laws_toLog, F_laws_toLog⟩), (22, ⟨As_impl_IsValidLog, R_impl_IsValidLog, M_impl_IsValidLog, F_impl_IsValidLog⟩)], keep := [], results := [.tmp 2], ntmps := 20, n := n }
noncomputable def B_laws_FnExactIsValidLog : Code := (Tryd.f5.body).getD .skip
theorem e_laws_FnExactIsValidLog (n : Nat) (F_laws_szLog : Ft_laws_szLog) (F_spec_IsValidLog : Ft_spec_IsValidLog) (F_laws_toLog : Ft_laws_toLog) (F_impl_IsValidLog : Ft_impl_IsValidLog) (a0 : D_Log) : runF (X_laws_FnExactIsValidLog n F_laws_szLog F_spec_IsValidLog F_laws_toLog F_impl_IsValidLog) B_laws_FnExactIsValidLog As_laws_FnExactIsValidLog R_laws_FnExactIsValidLog M_laws_FnExactIsValidLog (a0, ()) = 
  Option.bind (F_laws_szLog (a0, 1048576, ())) fun r0 =>
  bif decide (r0.1 < 0) then
    some (true, ())
  else
    Option.bind (F_laws_toLog (a0, ())) fun r2 =>
    Option.bind (F_spec_IsValidLog (r2.1, ())) fun r3 =>
    Option.bind (F_laws_toLog (a0, ())) fun r4 =>
    Option.bind (F_impl_IsValidLog (r4.1, ())) fun r5 =>
    bif !(r5.1 == r3.1) then
      some (false, ())
    else
      some (true, ()) := by kernel_rfl
noncomputable def P_laws_FnExactIsValidLog : Ft_laws_FnExactIsValidLog := hid (runF (X_laws_FnExactIsValidLog N P_laws_szLog P_spec_IsValidLog P_laws_toLog P_impl_IsValidLog) B_laws_FnExactIsValidLog As_laws_FnExactIsValidLog R_laws_FnExactIsValidLog M_laws_FnExactIsValidLog)
theorem h_laws_FnExactIsValidLog : P_laws_FnExactIsValidLog = runF (X_laws_FnExactIsValidLog N P_laws_szLog P_spec_IsValidLog P_laws_toLog P_impl_IsValidLog) B_laws_FnExactIsValidLog As_laws_FnExactIsValidLog R_laws_FnExactIsValidLog M_laws_FnExactIsValidLog := hid_eq _
noncomputable def C_laws_FnExactIsValidLog : Contract := ⟨As_laws_FnExactIsValidLog, R_laws_FnExactIsValidLog, M_laws_FnExactIsValidLog, P_laws_FnExactIsValidLog⟩
theorem s_laws_FnExactIsValidLog : Sound Tryd.prog GG 5 C_laws_FnExactIsValidLog := by
  unfold C_laws_FnExactIsValidLog; rw [h_laws_FnExactIsValidLog]
  exact sound_of_run (fn := Tryd.f5) hmix hstable (tyOK_of ttOK) (hglob (X_laws_FnExactIsValidLog N P_laws_szLog P_spec_IsValidLog P_laws_toLog P_impl_IsValidLog)) (conOK_of (X := X_laws_FnExactIsValidLog N P_laws_szLog P_spec_IsValidLog P_laws_toLog P_impl_IsValidLog) ⟨s_laws_szLog, s_spec_IsValidLog, s_laws_toLog, s_impl_IsValidLog, trivial⟩) (mconOK_of (X := X_laws_FnExactIsValidLog N P_laws_szLog P_spec_IsValidLog P_laws_toLog P_impl_IsValidLog) trivial) (by kernel_rfl) (by kernel_rfl) (by kernel_rfl) (by kernel_rfl) (by kernel_rfl) (of_decide_eq_true (by kernel_rfl))
theorem p_laws_FnExactIsValidLog (a0 : D_Log) : P_laws_FnExactIsValidLog (a0, ()) = 
  Option.bind (P_laws_szLog (a0, 1048576, ())) fun r0 =>
  bif decide (r0.1 < 0) then
    some (true, ())
  else
    Option.bind (P_laws_toLog (a0, ())) fun r2 =>
    Option.bind (P_spec_IsValidLog (r2.1, ())) fun r3 =>
    Option.bind (P_laws_toLog (a0, ())) fun r4 =>
    Option.bind (P_impl_IsValidLog (r4.1, ())) fun r5 =>
    bif !(r5.1 == r3.1) then
      some (false, ())
    else
      some (true, ()) := by
  rewrite [h_laws_FnExactIsValidLog]
  exact e_laws_FnExactIsValidLog N P_laws_szLog P_spec_IsValidLog P_laws_toLog P_impl_IsValidLog a0

/- 25: loop.example/g01166/spec.SyncLog -/
abbrev As_spec_SyncLog : List ATy := [.data true T_Log]
abbrev R_spec_SyncLog : List (Bool × Ty) := [(true, T_Log), (false, .bool)]
abbrev M_spec_SyncLog : List RMode := []
abbrev Ft_spec_SyncLog : Type := D_Log × Unit → Option (D_Log × Bool × Unit)
noncomputable def X_spec_SyncLog (n : Nat) (F_spec_l12Valid : Ft_spec_l12Valid) : Ctx := { types := TT, globals := [], con := [(53, ⟨As_spec_l12Valid, R_spec_l12Valid, M_spec_l12Valid, F_spec_l12Valid⟩)], keep := [], results := [.cell 2 31, .tmp 3], ntmps := 16, n := n }
noncomputable def B_spec_SyncLog : Code := (Tryd.f25.body).getD .skip
theorem e_spec_SyncLog (n : Nat) (F_spec_l12Valid : Ft_spec_l12Valid) (a0 : D_Log) : runF (X_spec_SyncLog n F_spec_l12Valid) B_spec_SyncLog As_spec_SyncLog R_spec_SyncLog M_spec_SyncLog (a0, ()) = 
  Option.bind (F_spec_l12Valid (a0, ())) fun r0 =>
  bif !r0.1 then
    some ((([] : List UInt8), (([] : List UInt8), (0, ()))), false, ())
  else
    Option.bind (catS a0.1 a0.2.1) fun r2 =>
    some ((r2, (([] : List UInt8), a0.2.2)), true, ()) := by kernel_rfl
noncomputable def P_spec_SyncLog : Ft_spec_SyncLog := hid (runF (X_spec_SyncLog N P_spec_l12Valid) B_spec_SyncLog As_spec_SyncLog R_spec_SyncLog M_spec_SyncLog)
theorem h_spec_SyncLog : P_spec_SyncLog = runF (X_spec_SyncLog N P_spec_l12Valid) B_spec_SyncLog As_spec_SyncLog R_spec_SyncLog M_spec_SyncLog := hid_eq _
noncomputable def C_spec_SyncLog : Contract := ⟨As_spec_SyncLog, R_spec_SyncLog, M_spec_SyncLog, P_spec_SyncLog⟩
theorem s_spec_SyncLog : Sound Tryd.prog GG 25 C_spec_SyncLog := by
  unfold C_spec_SyncLog; rw [h_spec_SyncLog]
  exact sound_of_run (fn := Tryd.f25) hmix hstable (tyOK_of ttOK) (hglob (X_spec_SyncLog N P_spec_l12Valid)) (conOK_of (X := X_spec_SyncLog N P_spec_l12Valid) ⟨s_spec_l12Valid, trivial⟩) (mconOK_of (X := X_spec_SyncLog N P_spec_l12Valid) trivial) (by kernel_rfl) (by kernel_rfl) (by kernel_rfl) (by kernel_rfl) (by kernel_rfl) (of_decide_eq_true (by kernel_rfl))
theorem p_spec_SyncLog (a0 : D_Log) : P_spec_SyncLog (a0, ()) = 
  Option.bind (P_spec_l12Valid (a0, ())) fun r0 =>
  bif !r0.1 then
    some ((([] : List UInt8), (([] : List UInt8), (0, ()))), false, ())
  else
    Option.bind (catS a0.1 a0.2.1) fun r2 =>
    some ((r2, (([] : List UInt8), a0.2.2)), true, ()) := by
  rewrite [h_spec_SyncLog]
  exact e_spec_SyncLog N P_spec_l12Valid a0

/- 26: loop.example/g01166/impl.SyncLog -/
abbrev As_impl_SyncLog : List ATy := [.data true T_Log]
abbrev R_impl_SyncLog : List (Bool × Ty) := [(true, T_Log), (false, .bool)]
abbrev M_impl_SyncLog : List RMode := []
abbrev Ft_impl_SyncLog : Type := D_Log × Unit → Option (D_Log × Bool × Unit)
noncomputable def X_impl_SyncLog (n : Nat) (F_impl_IsValidLog : Ft_impl_IsValidLog) : Ctx := { types := TT, globals := [], con := [(22, ⟨As_impl_IsValidLog, R_impl_IsValidLog, M_impl_IsValidLog, F_impl_IsValidLog⟩)], keep := [], results := [.cell 2 31, .tmp 3], ntmps := 16, n := n }
noncomputable def B_impl_SyncLog : Code := (Tryd.f26.body).getD .skip
theorem e_impl_SyncLog (n : Nat) (F_impl_IsValidLog : Ft_impl_IsValidLog) (a0 : D_Log) : runF (X_impl_SyncLog n F_impl_IsValidLog) B_impl_SyncLog As_impl_SyncLog R_impl_SyncLog M_impl_SyncLog (a0, ()) = 
  Option.bind (F_impl_IsValidLog (a0, ())) fun r0 =>
  bif !r0.1 then
    some ((([] : List UInt8), (([] : List UInt8), (0, ()))), false, ())
  else
    Option.bind (catS a0.1 a0.2.1) fun r2 =>
    some ((r2, (([] : List UInt8), a0.2.2)), true, ()) := by kernel_rfl
noncomputable def P_impl_SyncLog : Ft_impl_SyncLog := hid (runF (X_impl_SyncLog N P_impl_IsValidLog) B_impl_SyncLog As_impl_SyncLog R_impl_SyncLog M_impl_SyncLog)
theorem h_impl_SyncLog : P_impl_SyncLog = runF (X_impl_SyncLog N P_impl_IsValidLog) B_impl_SyncLog As_impl_SyncLog R_impl_SyncLog M_impl_SyncLog := hid_eq _
noncomputable def C_impl_SyncLog : Contract := ⟨As_impl_SyncLog, R_impl_SyncLog, M_impl_SyncLog, P_impl_SyncLog⟩
theorem s_impl_SyncLog : Sound Tryd.prog GG 26 C_impl_SyncLog := by
  unfold C_impl_SyncLog; rw [h_impl_SyncLog]
  exact sound_of_run (fn := Tryd.f26) hmix hstable (tyOK_of ttOK) (hglob (X_impl_SyncLog N P_impl_IsValidLog)) (conOK_of (X := X_impl_SyncLog N P_impl_IsValidLog) ⟨s_impl_IsValidLog, trivial⟩) (mconOK_of (X := X_impl_SyncLog N P_impl_IsValidLog) trivial) (by kernel_rfl) (by kernel_rfl) (by kernel_rfl) (by kernel_rfl) (by kernel_rfl) (of_decide_eq_true (by kernel_rfl))
theorem p_impl_SyncLog (a0 : D_Log) : P_impl_SyncLog (a0, ()) = 
  Option.bind (P_impl_IsValidLog (a0, ())) fun r0 =>
  bif !r0.1 then
    some ((([] : List UInt8), (([] : List UInt8), (0, ()))), false, ())
  else
    Option.bind (catS a0.1 a0.2.1) fun r2 =>
    some ((r2, (([] : List UInt8), a0.2.2)), true, ()) := by
  rewrite [h_impl_SyncLog]
  exact e_impl_SyncLog N P_impl_IsValidLog a0

/- 7: loop.example/g01166/laws.FnExactSyncLog -/
abbrev As_laws_FnExactSyncLog : List ATy := [.data true T_Log]
abbrev R_laws_FnExactSyncLog : List (Bool × Ty) := [(false, .bool)]
abbrev M_laws_FnExactSyncLog : List RMode := []
abbrev Ft_laws_FnExactSyncLog : Type := D_Log × Unit → Option (Bool × Unit)
noncomputable def X_laws_FnExactSyncLog (n : Nat) (F_laws_eqLog : Ft_laws_eqLog) (F_laws_szLog : Ft_laws_szLog) (F_laws_toLog : Ft_laws_toLog) (F_spec_SyncLog : Ft_spec_SyncLog) (F_impl_SyncLog : Ft_impl_SyncLog) : Ctx := { types := TT, globals := [], con := [(18, ⟨As_laws_eqLog, R_laws_eqLog, M_laws_eqLog, F_laws_eqLog⟩), (19, ⟨As_laws_szLog, R_laws_szLog, M_laws_szLog, F_laws_szLog⟩), (21, ⟨As_laws_toLog, R_laws_toLog, M_laws_toLog, F_laws_toLog⟩), (25, ⟨As_spec_SyncLog, R_spec_SyncLog, M_spec_SyncLog, F_spec_SyncLog⟩), (26, ⟨As_impl_SyncLog, R_impl_SyncLog, M_impl_SyncLog, F_impl_SyncLog⟩)], keep := [], results := [.tmp 2], ntmps := 34, n := n }
noncomputable def B_laws_FnExactSyncLog : Code := (Tryd.f7.body).getD .skip
theorem e_laws_FnExactSyncLog (n : Nat) (F_laws_eqLog : Ft_laws_eqLog) (F_laws_szLog : Ft_laws_szLog) (F_laws_toLog : Ft_laws_toLog) (F_spec_SyncLog : Ft_spec_SyncLog) (F_impl_SyncLog : Ft_impl_SyncLog) (a0 : D_Log) : runF (X_laws_FnExactSyncLog n F_laws_eqLog F_laws_szLog F_laws_toLog F_spec_SyncLog F_impl_SyncLog) B_laws_FnExactSyncLog As_laws_FnExactSyncLog R_laws_FnExactSyncLog M_laws_FnExactSyncLog (a0, ()) = 
  Option.bind (F_laws_szLog (a0, 1048576, ())) fun r0 =>
  bif decide (r0.1 < 0) then
    some (true, ())
  else
    Option.bind (F_laws_toLog (a0, ())) fun r2 =>
    Option.bind (F_spec_SyncLog (r2.1, ())) fun r3 =>
    Option.bind (F_laws_toLog (a0, ())) fun r4 =>
    Option.bind (F_impl_SyncLog (r4.1, ())) fun r5 =>
    Option.bind (F_laws_eqLog (r5.1, r3.1, ())) fun r6 =>
    bif !r6.1 then
      some (false, ())
    else
      bif !(r5.2.1 == r3.2.1) then
        some (false, ())
      else
        some (true, ()) := by kernel_rfl
noncomputable def P_laws_FnExactSyncLog : Ft_laws_FnExactSyncLog := hid (runF (X_laws_FnExactSyncLog N P_laws_eqLog P_laws_szLog P_laws_toLog P_spec_SyncLog P_impl_SyncLog) B_laws_FnExactSyncLog As_laws_FnExactSyncLog R_laws_FnExactSyncLog M_laws_FnExactSyncLog)
theorem h_laws_FnExactSyncLog : P_laws_FnExactSyncLog = runF (X_laws_FnExactSyncLog N P_laws_eqLog P_laws_szLog P_laws_toLog P_spec_SyncLog P_impl_SyncLog) B_laws_FnExactSyncLog As_laws_FnExactSyncLog R_laws_FnExactSyncLog M_laws_FnExactSyncLog := hid_eq _
noncomputable def C_laws_FnExactSyncLog : Contract := ⟨As_laws_FnExactSyncLog, R_laws_FnExactSyncLog, M_laws_FnExactSyncLog, P_laws_FnExactSyncLog⟩
theorem s_laws_FnExactSyncLog : Sound Tryd.prog GG 7 C_laws_FnExactSyncLog := by
  unfold C_laws_FnExactSyncLog; rw [h_laws_FnExactSyncLog]
  exact sound_of_run (fn := Tryd.f7) hmix hstable (tyOK_of ttOK) (hglob (X_laws_FnExactSyncLog N P_laws_eqLog P_laws_szLog P_laws_toLog P_spec_SyncLog P_impl_SyncLog)) (conOK_of (X := X_laws_FnExactSyncLog N P_laws_eqLog P_laws_szLog P_laws_toLog P_spec_SyncLog P_impl_SyncLog) ⟨s_laws_eqLog, s_laws_szLog, s_laws_toLog, s_spec_SyncLog, s_impl_SyncLog, trivial⟩) (mconOK_of (X := X_laws_FnExactSyncLog N P_laws_eqLog P_laws_szLog P_laws_toLog P_spec_SyncLog P_impl_SyncLog) trivial) (by kernel_rfl) (by kernel_rfl) (by kernel_rfl) (by kernel_rfl) (by kernel_rfl) (of_decide_eq_true (by kernel_rfl))
theorem p_laws_FnExactSyncLog (a0 : D_Log) : P_laws_FnExactSyncLog (a0, ()) = 
  Option.bind (P_laws_szLog (a0, 1048576, ())) fun r0 =>
  bif decide (r0.1 < 0) then
    some (true, ())
  else
    Option.bind (P_laws_toLog (a0, ())) fun r2 =>
    Option.bind (P_spec_SyncLog (r2.1, ())) fun r3 =>
    Option.bind (P_laws_toLog (a0, ())) fun r4 =>
    Option.bind (P_impl_SyncLog (r4.1, ())) fun r5 =>
    Option.bind (P_laws_eqLog (r5.1, r3.1, ())) fun r6 =>
    bif !r6.1 then
      some (false, ())
    else
      bif !(r5.2.1 == r3.2.1) then
        some (false, ())
      else
        some (true, ()) := by
  rewrite [h_laws_FnExactSyncLog]
  exact e_laws_FnExactSyncLog N P_laws_eqLog P_laws_szLog P_laws_toLog P_spec_SyncLog P_impl_SyncLog a0

/- 27: loop.example/g01166/spec.AppendRecord -/
abbrev As_spec_AppendRecord : List ATy := [.data true T_Log, .data true T_LogRecord]
abbrev R_spec_AppendRecord : List (Bool × Ty) := [(true, T_Log), (false, (.int .i64))]
abbrev M_spec_AppendRecord : List RMode := []
abbrev Ft_spec_AppendRecord : Type := D_Log × D_LogRecord × Unit → Option (D_Log × Int × Unit)
noncomputable def X_spec_AppendRecord (n : Nat) (F_spec_l12Record : Ft_spec_l12Record) (F_spec_l12Line : Ft_spec_l12Line) (F_spec_l12Valid : Ft_spec_l12Valid) : Ctx := { types := TT, globals := [], con := [(46, ⟨As_spec_l12Record, R_spec_l12Record, M_spec_l12Record, F_spec_l12Record⟩), (47, ⟨As_spec_l12Line, R_spec_l12Line, M_spec_l12Line, F_spec_l12Line⟩), (53, ⟨As_spec_l12Valid, R_spec_l12Valid, M_spec_l12Valid, F_spec_l12Valid⟩)], keep := [], results := [.cell 4 31, .tmp 5], ntmps := 32, n := n }
noncomputable def B_spec_AppendRecord : Code := (Tryd.f27.body).getD .skip
theorem e_spec_AppendRecord (n : Nat) (F_spec_l12Record : Ft_spec_l12Record) (F_spec_l12Line : Ft_spec_l12Line) (F_spec_l12Valid : Ft_spec_l12Valid) (a0 : D_Log) (a1 : D_LogRecord) : runF (X_spec_AppendRecord n F_spec_l12Record F_spec_l12Line F_spec_l12Valid) B_spec_AppendRecord As_spec_AppendRecord R_spec_AppendRecord M_spec_AppendRecord (a0, a1, ()) = 
  Option.bind (F_spec_l12Valid (a0, ())) fun r0 =>
  bif !r0.1 then
    some (a0, 1, ())
  else
    Option.bind (F_spec_l12Record (a1, ())) fun r2 =>
    bif !r2.1 then
      some (a0, 1, ())
    else
      bif decide (a0.2.2.1 = 60) then
        some (a0, 2, ())
      else
        Option.bind (F_spec_l12Line (a0.2.2.1, a1, ())) fun r5 =>
        Option.bind (catS a0.2.1 r5.1) fun r6 =>
        some ((a0.1, (r6, ((IntKind.wrap .i64 (a0.2.2.1 + 1)), ()))), 0, ()) := by kernel_rfl
noncomputable def P_spec_AppendRecord : Ft_spec_AppendRecord := hid (runF (X_spec_AppendRecord N P_spec_l12Record P_spec_l12Line P_spec_l12Valid) B_spec_AppendRecord As_spec_AppendRecord R_spec_AppendRecord M_spec_AppendRecord)
theorem h_spec_AppendRecord : P_spec_AppendRecord = runF (X_spec_AppendRecord N P_spec_l12Record P_spec_l12Line P_spec_l12Valid) B_spec_AppendRecord As_spec_AppendRecord R_spec_AppendRecord M_spec_AppendRecord := hid_eq _
noncomputable def C_spec_AppendRecord : Contract := ⟨As_spec_AppendRecord, R_spec_AppendRecord, M_spec_AppendRecord, P_spec_AppendRecord⟩
theorem s_spec_AppendRecord : Sound Tryd.prog GG 27 C_spec_AppendRecord := by
  unfold C_spec_AppendRecord; rw [h_spec_AppendRecord]
  exact sound_of_run (fn := Tryd.f27) hmix hstable (tyOK_of ttOK) (hglob (X_spec_AppendRecord N P_spec_l12Record P_spec_l12Line P_spec_l12Valid)) (conOK_of (X := X_spec_AppendRecord N P_spec_l12Record P_spec_l12Line P_spec_l12Valid) ⟨s_spec_l12Record, s_spec_l12Line, s_spec_l12Valid, trivial⟩) (mconOK_of (X := X_spec_AppendRecord N P_spec_l12Record P_spec_l12Line P_spec_l12Valid) trivial) (by kernel_rfl) (by kernel_rfl) (by kernel_rfl) (by kernel_rfl) (by kernel_rfl) (of_decide_eq_true (by kernel_rfl))
theorem p_spec_AppendRecord (a0 : D_Log) (a1 : D_LogRecord) : P_spec_AppendRecord (a0, a1, ()) = 
  Option.bind (P_spec_l12Valid (a0, ())) fun r0 =>
  bif !r0.1 then
    some (a0, 1, ())
  else
    Option.bind (P_spec_l12Record (a1, ())) fun r2 =>
    bif !r2.1 then
      some (a0, 1, ())
    else
      bif decide (a0.2.2.1 = 60) then
        some (a0, 2, ())
      else
        Option.bind (P_spec_l12Line (a0.2.2.1, a1, ())) fun r5 =>
        Option.bind (catS a0.2.1 r5.1) fun r6 =>
        some ((a0.1, (r6, ((IntKind.wrap .i64 (a0.2.2.1 + 1)), ()))), 0, ()) := by
  rewrite [h_spec_AppendRecord]
  exact e_spec_AppendRecord N P_spec_l12Record P_spec_l12Line P_spec_l12Valid a0 a1

/- 28: loop.example/g01166/impl.AppendRecord -/
abbrev As_impl_AppendRecord : List ATy := [.data true T_Log, .data true T_LogRecord]
abbrev R_impl_AppendRecord : List (Bool × Ty) := [(true, T_Log), (false, (.int .i64))]
abbrev M_impl_AppendRecord : List RMode := []
abbrev Ft_impl_AppendRecord : Type := D_Log × D_LogRecord × Unit → Option (D_Log × Int × Unit)
noncomputable def X_impl_AppendRecord (n : Nat) (F_impl_EncodeRecord : Ft_impl_EncodeRecord) (F_impl_IsValidLog : Ft_impl_IsValidLog) (F_impl_IsValidRecord : Ft_impl_IsValidRecord) : Ctx := { types := TT, globals := [], con := [(15, ⟨As_impl_EncodeRecord, R_impl_EncodeRecord, M_impl_EncodeRecord, F_impl_EncodeRecord⟩), (22, ⟨As_impl_IsValidLog, R_impl_IsValidLog, M_impl_IsValidLog, F_impl_IsValidLog⟩), (40, ⟨As_impl_IsValidRecord, R_impl_IsValidRecord, M_impl_IsValidRecord, F_impl_IsValidRecord⟩)], keep := [], results := [.cell 4 31, .tmp 5], ntmps := 37, n := n }
noncomputable def B_impl_AppendRecord : Code := (Tryd.f28.body).getD .skip
theorem e_impl_AppendRecord (n : Nat) (F_impl_EncodeRecord : Ft_impl_EncodeRecord) (F_impl_IsValidLog : Ft_impl_IsValidLog) (F_impl_IsValidRecord : Ft_impl_IsValidRecord) (a0 : D_Log) (a1 : D_LogRecord) : runF (X_impl_AppendRecord n F_impl_EncodeRecord F_impl_IsValidLog F_impl_IsValidRecord) B_impl_AppendRecord As_impl_AppendRecord R_impl_AppendRecord M_impl_AppendRecord (a0, a1, ()) = 
  Option.bind (F_impl_IsValidLog (a0, ())) fun r0 =>
  bif !r0.1 then
    some (a0, 1, ())
  else
    Option.bind (F_impl_IsValidRecord (a1, ())) fun r2 =>
    bif !r2.1 then
      some (a0, 1, ())
    else
      Option.bind (F_impl_EncodeRecord (a0.2.2.1, a1, ())) fun r4 =>
      bif !r4.2.1 then
        some (a0, 2, ())
      else
        Option.bind (catS a0.2.1 r4.1) fun r6 =>
        some ((a0.1, (r6, ((IntKind.wrap .i64 (a0.2.2.1 + 1)), ()))), 0, ()) := by kernel_rfl
noncomputable def P_impl_AppendRecord : Ft_impl_AppendRecord := hid (runF (X_impl_AppendRecord N P_impl_EncodeRecord P_impl_IsValidLog P_impl_IsValidRecord) B_impl_AppendRecord As_impl_AppendRecord R_impl_AppendRecord M_impl_AppendRecord)
theorem h_impl_AppendRecord : P_impl_AppendRecord = runF (X_impl_AppendRecord N P_impl_EncodeRecord P_impl_IsValidLog P_impl_IsValidRecord) B_impl_AppendRecord As_impl_AppendRecord R_impl_AppendRecord M_impl_AppendRecord := hid_eq _
noncomputable def C_impl_AppendRecord : Contract := ⟨As_impl_AppendRecord, R_impl_AppendRecord, M_impl_AppendRecord, P_impl_AppendRecord⟩
theorem s_impl_AppendRecord : Sound Tryd.prog GG 28 C_impl_AppendRecord := by
  unfold C_impl_AppendRecord; rw [h_impl_AppendRecord]
  exact sound_of_run (fn := Tryd.f28) hmix hstable (tyOK_of ttOK) (hglob (X_impl_AppendRecord N P_impl_EncodeRecord P_impl_IsValidLog P_impl_IsValidRecord)) (conOK_of (X := X_impl_AppendRecord N P_impl_EncodeRecord P_impl_IsValidLog P_impl_IsValidRecord) ⟨s_impl_EncodeRecord, s_impl_IsValidLog, s_impl_IsValidRecord, trivial⟩) (mconOK_of (X := X_impl_AppendRecord N P_impl_EncodeRecord P_impl_IsValidLog P_impl_IsValidRecord) trivial) (by kernel_rfl) (by kernel_rfl) (by kernel_rfl) (by kernel_rfl) (by kernel_rfl) (of_decide_eq_true (by kernel_rfl))
theorem p_impl_AppendRecord (a0 : D_Log) (a1 : D_LogRecord) : P_impl_AppendRecord (a0, a1, ()) = 
  Option.bind (P_impl_IsValidLog (a0, ())) fun r0 =>
  bif !r0.1 then
    some (a0, 1, ())
  else
    Option.bind (P_impl_IsValidRecord (a1, ())) fun r2 =>
    bif !r2.1 then
      some (a0, 1, ())
    else
      Option.bind (P_impl_EncodeRecord (a0.2.2.1, a1, ())) fun r4 =>
      bif !r4.2.1 then
        some (a0, 2, ())
      else
        Option.bind (catS a0.2.1 r4.1) fun r6 =>
        some ((a0.1, (r6, ((IntKind.wrap .i64 (a0.2.2.1 + 1)), ()))), 0, ()) := by
  rewrite [h_impl_AppendRecord]
  exact e_impl_AppendRecord N P_impl_EncodeRecord P_impl_IsValidLog P_impl_IsValidRecord a0 a1

/- 8: loop.example/g01166/laws.FnExactAppendRecord -/
abbrev As_laws_FnExactAppendRecord : List ATy := [.data true T_Log, .data true T_LogRecord]
abbrev R_laws_FnExactAppendRecord : List (Bool × Ty) := [(false, .bool)]
abbrev M_laws_FnExactAppendRecord : List RMode := []
abbrev Ft_laws_FnExactAppendRecord : Type := D_Log × D_LogRecord × Unit → Option (Bool × Unit)
noncomputable def X_laws_FnExactAppendRecord (n : Nat) (F_laws_szLogRecord : Ft_laws_szLogRecord) (F_laws_toLogRecord : Ft_laws_toLogRecord) (F_laws_eqLog : Ft_laws_eqLog) (F_laws_szLog : Ft_laws_szLog) (F_laws_toLog : Ft_laws_toLog) (F_spec_AppendRecord : Ft_spec_AppendRecord) (F_impl_AppendRecord : Ft_impl_AppendRecord) : Ctx := { types := TT, globals := [], con := [(12, ⟨As_laws_szLogRecord, R_laws_szLogRecord, M_laws_szLogRecord, F_laws_szLogRecord⟩), (14, ⟨As_laws_toLogRecord, R_laws_toLogRecord, M_laws_toLogRecord, F_laws_toLogRecord⟩), (18, ⟨As_laws_eqLog, R_laws_eqLog, M_laws_eqLog, F_laws_eqLog⟩), (19, ⟨As_laws_szLog, R_laws_szLog, M_laws_szLog, F_laws_szLog⟩), (21, ⟨As_laws_toLog, R_laws_toLog, M_laws_toLog, F_laws_toLog⟩), (27, ⟨As_spec_AppendRecord, R_spec_AppendRecord, M_spec_AppendRecord, F_spec_AppendRecord⟩), (28, ⟨As_impl_AppendRecord, R_impl_AppendRecord, M_impl_AppendRecord, F_impl_AppendRecord⟩)], keep := [], results := [.tmp 4], ntmps := 45, n := n }
noncomputable def B_laws_FnExactAppendRecord : Code := (Tryd.f8.body).getD .skip
theorem e_laws_FnExactAppendRecord (n : Nat) (F_laws_szLogRecord : Ft_laws_szLogRecord) (F_laws_toLogRecord : Ft_laws_toLogRecord) (F_laws_eqLog : Ft_laws_eqLog) (F_laws_szLog : Ft_laws_szLog) (F_laws_toLog : Ft_laws_toLog) (F_spec_AppendRecord : Ft_spec_AppendRecord) (F_impl_AppendRecord : Ft_impl_AppendRecord) (a0 : D_Log) (a1 : D_LogRecord) : runF (X_laws_FnExactAppendRecord n F_laws_szLogRecord F_laws_toLogRecord F_laws_eqLog F_laws_szLog F_laws_toLog F_spec_AppendRecord F_impl_AppendRecord) B_laws_FnExactAppendRecord As_laws_FnExactAppendRecord R_laws_FnExactAppendRecord M_laws_FnExactAppendRecord (a0, a1, ()) = 
  Option.bind (F_laws_szLog (a0, 1048576, ())) fun r0 =>
  bif decide (r0.1 < 0) then
    some (true, ())
  else
    Option.bind (F_laws_szLogRecord (a1, r0.1, ())) fun r2 =>
    bif decide (r2.1 < 0) then
      some (true, ())
    else
      Option.bind (F_laws_toLog (a0, ())) fun r4 =>
      Option.bind (F_laws_toLogRecord (a1, ())) fun r5 =>
      Option.bind (F_spec_AppendRecord (r4.1, r5.1, ())) fun r6 =>
      Option.bind (F_laws_toLog (a0, ())) fun r7 =>
      Option.bind (F_laws_toLogRecord (a1, ())) fun r8 =>
      Option.bind (F_impl_AppendRecord (r7.1, r8.1, ())) fun r9 =>
      Option.bind (F_laws_eqLog (r9.1, r6.1, ())) fun r10 =>
      bif !r10.1 then
        some (false, ())
      else
        bif !decide (r9.2.1 = r6.2.1) then
          some (false, ())
        else
          some (true, ()) := by kernel_rfl
noncomputable def P_laws_FnExactAppendRecord : Ft_laws_FnExactAppendRecord := hid (runF (X_laws_FnExactAppendRecord N P_laws_szLogRecord P_laws_toLogRecord P_laws_eqLog P_laws_szLog P_laws_toLog P_spec_AppendRecord P_impl_AppendRecord) B_laws_FnExactAppendRecord As_laws_FnExactAppendRecord R_laws_FnExactAppendRecord M_laws_FnExactAppendRecord)
theorem h_laws_FnExactAppendRecord : P_laws_FnExactAppendRecord = runF (X_laws_FnExactAppendRecord N P_laws_szLogRecord P_laws_toLogRecord P_laws_eqLog P_laws_szLog P_laws_toLog P_spec_AppendRecord P_impl_AppendRecord) B_laws_FnExactAppendRecord As_laws_FnExactAppendRecord R_laws_FnExactAppendRecord M_laws_FnExactAppendRecord := hid_eq _
noncomputable def C_laws_FnExactAppendRecord : Contract := ⟨As_laws_FnExactAppendRecord, R_laws_FnExactAppendRecord, M_laws_FnExactAppendRecord, P_laws_FnExactAppendRecord⟩
theorem s_laws_FnExactAppendRecord : Sound Tryd.prog GG 8 C_laws_FnExactAppendRecord := by
  unfold C_laws_FnExactAppendRecord; rw [h_laws_FnExactAppendRecord]
  exact sound_of_run (fn := Tryd.f8) hmix hstable (tyOK_of ttOK) (hglob (X_laws_FnExactAppendRecord N P_laws_szLogRecord P_laws_toLogRecord P_laws_eqLog P_laws_szLog P_laws_toLog P_spec_AppendRecord P_impl_AppendRecord)) (conOK_of (X := X_laws_FnExactAppendRecord N P_laws_szLogRecord P_laws_toLogRecord P_laws_eqLog P_laws_szLog P_laws_toLog P_spec_AppendRecord P_impl_AppendRecord) ⟨s_laws_szLogRecord, s_laws_toLogRecord, s_laws_eqLog, s_laws_szLog, s_laws_toLog, s_spec_AppendRecord, s_impl_AppendRecord, trivial⟩) (mconOK_of (X := X_laws_FnExactAppendRecord N P_laws_szLogRecord P_laws_toLogRecord P_laws_eqLog P_laws_szLog P_laws_toLog P_spec_AppendRecord P_impl_AppendRecord) trivial) (by kernel_rfl) (by kernel_rfl) (by kernel_rfl) (by kernel_rfl) (by kernel_rfl) (of_decide_eq_true (by kernel_rfl))
theorem p_laws_FnExactAppendRecord (a0 : D_Log) (a1 : D_LogRecord) : P_laws_FnExactAppendRecord (a0, a1, ()) = 
  Option.bind (P_laws_szLog (a0, 1048576, ())) fun r0 =>
  bif decide (r0.1 < 0) then
    some (true, ())
  else
    Option.bind (P_laws_szLogRecord (a1, r0.1, ())) fun r2 =>
    bif decide (r2.1 < 0) then
      some (true, ())
    else
      Option.bind (P_laws_toLog (a0, ())) fun r4 =>
      Option.bind (P_laws_toLogRecord (a1, ())) fun r5 =>
      Option.bind (P_spec_AppendRecord (r4.1, r5.1, ())) fun r6 =>
      Option.bind (P_laws_toLog (a0, ())) fun r7 =>
      Option.bind (P_laws_toLogRecord (a1, ())) fun r8 =>
      Option.bind (P_impl_AppendRecord (r7.1, r8.1, ())) fun r9 =>
      Option.bind (P_laws_eqLog (r9.1, r6.1, ())) fun r10 =>
      bif !r10.1 then
        some (false, ())
      else
        bif !decide (r9.2.1 = r6.2.1) then
          some (false, ())
        else
          some (true, ()) := by
  rewrite [h_laws_FnExactAppendRecord]
  exact e_laws_FnExactAppendRecord N P_laws_szLogRecord P_laws_toLogRecord P_laws_eqLog P_laws_szLog P_laws_toLog P_spec_AppendRecord P_impl_AppendRecord a0 a1

/- 29: loop.example/g01166/spec.LogRecords -/
abbrev As_spec_LogRecords : List ATy := [.data true T_Log]
abbrev R_spec_LogRecords : List (Bool × Ty) := [(false, (.sl T_LogRecord)), (false, .bool)]
abbrev M_spec_LogRecords : List RMode := [.own 27]
abbrev Ft_spec_LogRecords : Type := D_Log × Unit → Option ((List D_LogRecord) × Bool × Unit)
noncomputable def X_spec_LogRecords (n : Nat) (F_spec_l12Open : Ft_spec_l12Open) (F_spec_l12Valid : Ft_spec_l12Valid) : Ctx := { types := TT, globals := [], con := [(51, ⟨As_spec_l12Open, R_spec_l12Open, M_spec_l12Open, F_spec_l12Open⟩), (53, ⟨As_spec_l12Valid, R_spec_l12Valid, M_spec_l12Valid, F_spec_l12Valid⟩)], keep := [], results := [.tmp 2, .tmp 3], ntmps := 20, n := n }
noncomputable def B_spec_LogRecords : Code := (Tryd.f29.body).getD .skip
theorem e_spec_LogRecords (n : Nat) (F_spec_l12Open : Ft_spec_l12Open) (F_spec_l12Valid : Ft_spec_l12Valid) (a0 : D_Log) : runF (X_spec_LogRecords n F_spec_l12Open F_spec_l12Valid) B_spec_LogRecords As_spec_LogRecords R_spec_LogRecords M_spec_LogRecords (a0, ()) = 
  Option.bind (F_spec_l12Valid (a0, ())) fun r0 =>
  bif !r0.1 then
    some (([] : List D_LogRecord), false, ())
  else
    Option.bind (catS a0.1 a0.2.1) fun r2 =>
    Option.bind (F_spec_l12Open (r2, ())) fun r3 =>
    some (r3.1, true, ()) := by kernel_rfl
noncomputable def P_spec_LogRecords : Ft_spec_LogRecords := hid (runF (X_spec_LogRecords N P_spec_l12Open P_spec_l12Valid) B_spec_LogRecords As_spec_LogRecords R_spec_LogRecords M_spec_LogRecords)
theorem h_spec_LogRecords : P_spec_LogRecords = runF (X_spec_LogRecords N P_spec_l12Open P_spec_l12Valid) B_spec_LogRecords As_spec_LogRecords R_spec_LogRecords M_spec_LogRecords := hid_eq _
noncomputable def C_spec_LogRecords : Contract := ⟨As_spec_LogRecords, R_spec_LogRecords, M_spec_LogRecords, P_spec_LogRecords⟩
theorem s_spec_LogRecords : Sound Tryd.prog GG 29 C_spec_LogRecords := by
  unfold C_spec_LogRecords; rw [h_spec_LogRecords]
  exact sound_of_run (fn := Tryd.f29) hmix hstable (tyOK_of ttOK) (hglob (X_spec_LogRecords N P_spec_l12Open P_spec_l12Valid)) (conOK_of (X := X_spec_LogRecords N P_spec_l12Open P_spec_l12Valid) ⟨s_spec_l12Open, s_spec_l12Valid, trivial⟩) (mconOK_of (X := X_spec_LogRecords N P_spec_l12Open P_spec_l12Valid) trivial) (by kernel_rfl) (by kernel_rfl) (by kernel_rfl) (by kernel_rfl) (by kernel_rfl) (of_decide_eq_true (by kernel_rfl))
theorem p_spec_LogRecords (a0 : D_Log) : P_spec_LogRecords (a0, ()) = 
  Option.bind (P_spec_l12Valid (a0, ())) fun r0 =>
  bif !r0.1 then
    some (([] : List D_LogRecord), false, ())
  else
    Option.bind (catS a0.1 a0.2.1) fun r2 =>
    Option.bind (P_spec_l12Open (r2, ())) fun r3 =>
    some (r3.1, true, ()) := by
  rewrite [h_spec_LogRecords]
  exact e_spec_LogRecords N P_spec_l12Open P_spec_l12Valid a0

/- 30: loop.example/g01166/impl.LogRecords -/
abbrev As_impl_LogRecords : List ATy := [.data true T_Log]
abbrev R_impl_LogRecords : List (Bool × Ty) := [(false, (.sl T_LogRecord)), (false, .bool)]
abbrev M_impl_LogRecords : List RMode := [.own 27]
abbrev Ft_impl_LogRecords : Type := D_Log × Unit → Option ((List D_LogRecord) × Bool × Unit)
noncomputable def X_impl_LogRecords (n : Nat) (F_impl_IsValidLog : Ft_impl_IsValidLog) (F_impl_readRecords : Ft_impl_readRecords) : Ctx := { types := TT, globals := [], con := [(22, ⟨As_impl_IsValidLog, R_impl_IsValidLog, M_impl_IsValidLog, F_impl_IsValidLog⟩), (52, ⟨As_impl_readRecords, R_impl_readRecords, M_impl_readRecords, F_impl_readRecords⟩)], keep := [], results := [.tmp 2, .tmp 3], ntmps := 19, n := n }
noncomputable def B_impl_LogRecords : Code := (Tryd.f30.body).getD .skip
theorem e_impl_LogRecords (n : Nat) (F_impl_IsValidLog : Ft_impl_IsValidLog) (F_impl_readRecords : Ft_impl_readRecords) (a0 : D_Log) : runF (X_impl_LogRecords n F_impl_IsValidLog F_impl_readRecords) B_impl_LogRecords As_impl_LogRecords R_impl_LogRecords M_impl_LogRecords (a0, ()) = 
  Option.bind (F_impl_IsValidLog (a0, ())) fun r0 =>
  bif !r0.1 then
    some (([] : List D_LogRecord), false, ())
  else
    Option.bind (catS a0.1 a0.2.1) fun r2 =>
    Option.bind (F_impl_readRecords (r2, ())) fun r3 =>
    some (r3.1, true, ()) := by kernel_rfl
noncomputable def P_impl_LogRecords : Ft_impl_LogRecords := hid (runF (X_impl_LogRecords N P_impl_IsValidLog P_impl_readRecords) B_impl_LogRecords As_impl_LogRecords R_impl_LogRecords M_impl_LogRecords)
theorem h_impl_LogRecords : P_impl_LogRecords = runF (X_impl_LogRecords N P_impl_IsValidLog P_impl_readRecords) B_impl_LogRecords As_impl_LogRecords R_impl_LogRecords M_impl_LogRecords := hid_eq _
noncomputable def C_impl_LogRecords : Contract := ⟨As_impl_LogRecords, R_impl_LogRecords, M_impl_LogRecords, P_impl_LogRecords⟩
theorem s_impl_LogRecords : Sound Tryd.prog GG 30 C_impl_LogRecords := by
  unfold C_impl_LogRecords; rw [h_impl_LogRecords]
  exact sound_of_run (fn := Tryd.f30) hmix hstable (tyOK_of ttOK) (hglob (X_impl_LogRecords N P_impl_IsValidLog P_impl_readRecords)) (conOK_of (X := X_impl_LogRecords N P_impl_IsValidLog P_impl_readRecords) ⟨s_impl_IsValidLog, s_impl_readRecords, trivial⟩) (mconOK_of (X := X_impl_LogRecords N P_impl_IsValidLog P_impl_readRecords) trivial) (by kernel_rfl) (by kernel_rfl) (by kernel_rfl) (by kernel_rfl) (by kernel_rfl) (of_decide_eq_true (by kernel_rfl))
theorem p_impl_LogRecords (a0 : D_Log) : P_impl_LogRecords (a0, ()) = 
  Option.bind (P_impl_IsValidLog (a0, ())) fun r0 =>
  bif !r0.1 then
    some (([] : List D_LogRecord), false, ())
  else
    Option.bind (catS a0.1 a0.2.1) fun r2 =>
    Option.bind (P_impl_readRecords (r2, ())) fun r3 =>
    some (r3.1, true, ()) := by
  rewrite [h_impl_LogRecords]
  exact e_impl_LogRecords N P_impl_IsValidLog P_impl_readRecords a0

/- 55: loop.example/g01166/laws.eqLogRecord -/
abbrev As_laws_eqLogRecord : List ATy := [.data true T_LogRecord, .data true T_LogRecord]
abbrev R_laws_eqLogRecord : List (Bool × Ty) := [(false, .bool)]
abbrev M_laws_eqLogRecord : List RMode := []
abbrev Ft_laws_eqLogRecord : Type := D_LogRecord × D_LogRecord × Unit → Option (Bool × Unit)
noncomputable def X_laws_eqLogRecord (n : Nat) : Ctx := { types := TT, globals := [], con := [], keep := [], results := [.tmp 4], ntmps := 15, n := n }
noncomputable def B_laws_eqLogRecord : Code := (Tryd.f55.body).getD .skip
theorem e_laws_eqLogRecord (n : Nat) (a0 : D_LogRecord) (a1 : D_LogRecord) : runF (X_laws_eqLogRecord n) B_laws_eqLogRecord As_laws_eqLogRecord R_laws_eqLogRecord M_laws_eqLogRecord (a0, a1, ()) = 
  bif !(a0.1 == a1.1) then
    some (false, ())
  else
    bif !(a0.2.1 == a1.2.1) then
      some (false, ())
    else
      some (true, ()) := by kernel_rfl
noncomputable def P_laws_eqLogRecord : Ft_laws_eqLogRecord := hid (runF (X_laws_eqLogRecord N) B_laws_eqLogRecord As_laws_eqLogRecord R_laws_eqLogRecord M_laws_eqLogRecord)
theorem h_laws_eqLogRecord : P_laws_eqLogRecord = runF (X_laws_eqLogRecord N) B_laws_eqLogRecord As_laws_eqLogRecord R_laws_eqLogRecord M_laws_eqLogRecord := hid_eq _
noncomputable def C_laws_eqLogRecord : Contract := ⟨As_laws_eqLogRecord, R_laws_eqLogRecord, M_laws_eqLogRecord, P_laws_eqLogRecord⟩
theorem s_laws_eqLogRecord : Sound Tryd.prog GG 55 C_laws_eqLogRecord := by
  unfold C_laws_eqLogRecord; rw [h_laws_eqLogRecord]
  exact sound_of_run (fn := Tryd.f55) hmix hstable (tyOK_of ttOK) (hglob (X_laws_eqLogRecord N)) (conOK_of (X := X_laws_eqLogRecord N) trivial) (mconOK_of (X := X_laws_eqLogRecord N) trivial) (by kernel_rfl) (by kernel_rfl) (by kernel_rfl) (by kernel_rfl) (by kernel_rfl) (of_decide_eq_true (by kernel_rfl))
theorem p_laws_eqLogRecord (a0 : D_LogRecord) (a1 : D_LogRecord) : P_laws_eqLogRecord (a0, a1, ()) = 
  bif !(a0.1 == a1.1) then
    some (false, ())
  else
    bif !(a0.2.1 == a1.2.1) then
      some (false, ())
    else
      some (true, ()) := by
  rewrite [h_laws_eqLogRecord]
  exact e_laws_eqLogRecord N a0 a1

/- 31: loop.example/g01166/laws.eqLogRecordS -/
abbrev As_laws_eqLogRecordS : List ATy := [.data false (.sl T_LogRecord), .data false (.sl T_LogRecord)]
abbrev R_laws_eqLogRecordS : List (Bool × Ty) := [(false, .bool)]
abbrev M_laws_eqLogRecordS : List RMode := []
abbrev Ft_laws_eqLogRecordS : Type := (List D_LogRecord) × (List D_LogRecord) × Unit → Option (Bool × Unit)
noncomputable def X_laws_eqLogRecordS (n : Nat) (F_laws_eqLogRecord : Ft_laws_eqLogRecord) : Ctx := { types := TT, globals := [], con := [(55, ⟨As_laws_eqLogRecord, R_laws_eqLogRecord, M_laws_eqLogRecord, F_laws_eqLogRecord⟩)], keep := [(4, ⟨[.tmp 0, .tmp 1, .tmp 5], []⟩)], results := [.tmp 4], ntmps := 27, n := n }
noncomputable def B_laws_eqLogRecordS : Code := (Tryd.f31.body).getD .skip
noncomputable def L_laws_eqLogRecordS_4 (n : Nat) (F_laws_eqLogRecord : Ft_laws_eqLogRecord) (m0 : Nat) (p0 : List D_LogRecord) (p1 : List D_LogRecord) (p2 : Int) : Option (denL R_laws_eqLogRecordS) := loopF (X_laws_eqLogRecordS n F_laws_eqLogRecord) B_laws_eqLogRecordS R_laws_eqLogRecordS M_laws_eqLogRecordS 4 [m0] [(.ver, .num 1), (.tmp 0, .val false [.imm T_LogRecord p0 (some 0)]), (.tmp 1, .val false [.imm T_LogRecord p1 (some 1)]), (.tmp 5, .val false [.int .i64 p2])]
theorem e_laws_eqLogRecordS (n : Nat) (F_laws_eqLogRecord : Ft_laws_eqLogRecord) (a0 : List D_LogRecord) (a1 : List D_LogRecord) : runF (X_laws_eqLogRecordS n F_laws_eqLogRecord) B_laws_eqLogRecordS As_laws_eqLogRecordS R_laws_eqLogRecordS M_laws_eqLogRecordS (a0, a1, ()) = 
  bif !decide ((List.length a0 : Int) = (List.length a1 : Int)) then
    some (false, ())
  else
    L_laws_eqLogRecordS_4 n F_laws_eqLogRecord n a0 a1 0 := by kernel_rfl
theorem e_laws_eqLogRecordS_4 (n : Nat) (F_laws_eqLogRecord : Ft_laws_eqLogRecord) (m0 : Nat) (p0 : List D_LogRecord) (p1 : List D_LogRecord) (p2 : Int) : L_laws_eqLogRecordS_4 n F_laws_eqLogRecord (m0 + 1) p0 p1 p2 = 
  bif decide (p2 < (List.length p0 : Int)) then
    bif inB p2 (List.length p0) then
      bif inB p2 (List.length p1) then
        Option.bind (F_laws_eqLogRecord ((nth T_LogRecord p0 p2), (nth T_LogRecord p1 p2), ())) fun r3 =>
        bif !r3.1 then
          some (false, ())
        else
          L_laws_eqLogRecordS_4 n F_laws_eqLogRecord m0 p0 p1 (IntKind.wrap .i64 (p2 + 1))
      else none
    else none
  else
    some (true, ()) := by kernel_rfl
noncomputable def P_laws_eqLogRecordS : Ft_laws_eqLogRecordS := hid (runF (X_laws_eqLogRecordS N P_laws_eqLogRecord) B_laws_eqLogRecordS As_laws_eqLogRecordS R_laws_eqLogRecordS M_laws_eqLogRecordS)
theorem h_laws_eqLogRecordS : P_laws_eqLogRecordS = runF (X_laws_eqLogRecordS N P_laws_eqLogRecord) B_laws_eqLogRecordS As_laws_eqLogRecordS R_laws_eqLogRecordS M_laws_eqLogRecordS := hid_eq _
noncomputable def C_laws_eqLogRecordS : Contract := ⟨As_laws_eqLogRecordS, R_laws_eqLogRecordS, M_laws_eqLogRecordS, P_laws_eqLogRecordS⟩
theorem s_laws_eqLogRecordS : Sound Tryd.prog GG 31 C_laws_eqLogRecordS := by
  unfold C_laws_eqLogRecordS; rw [h_laws_eqLogRecordS]
  exact sound_of_run (fn := Tryd.f31) hmix hstable (tyOK_of ttOK) (hglob (X_laws_eqLogRecordS N P_laws_eqLogRecord)) (conOK_of (X := X_laws_eqLogRecordS N P_laws_eqLogRecord) ⟨s_laws_eqLogRecord, trivial⟩) (mconOK_of (X := X_laws_eqLogRecordS N P_laws_eqLogRecord) trivial) (by kernel_rfl) (by kernel_rfl) (by kernel_rfl) (by kernel_rfl) (by kernel_rfl) (of_decide_eq_true (by kernel_rfl))
noncomputable def l_laws_eqLogRecordS_4 : Nat → (List D_LogRecord) → (List D_LogRecord) → Int → Option (denL R_laws_eqLogRecordS) := hid (fun m0 p0 p1 p2 => L_laws_eqLogRecordS_4 N P_laws_eqLogRecord m0 p0 p1 p2)
theorem h_laws_eqLogRecordS_4 : l_laws_eqLogRecordS_4 = fun m0 p0 p1 p2 => L_laws_eqLogRecordS_4 N P_laws_eqLogRecord m0 p0 p1 p2 := hid_eq _
theorem p_laws_eqLogRecordS (a0 : List D_LogRecord) (a1 : List D_LogRecord) : P_laws_eqLogRecordS (a0, a1, ()) = 
  bif !decide ((List.length a0 : Int) = (List.length a1 : Int)) then
    some (false, ())
  else
    l_laws_eqLogRecordS_4 N a0 a1 0 := by
  rewrite [h_laws_eqLogRecordS, h_laws_eqLogRecordS_4]
  exact e_laws_eqLogRecordS N P_laws_eqLogRecord a0 a1
theorem q_laws_eqLogRecordS_4 (m0 : Nat) (p0 : List D_LogRecord) (p1 : List D_LogRecord) (p2 : Int) : l_laws_eqLogRecordS_4 (m0 + 1) p0 p1 p2 = 
  bif decide (p2 < (List.length p0 : Int)) then
    bif inB p2 (List.length p0) then
      bif inB p2 (List.length p1) then
        Option.bind (P_laws_eqLogRecord ((nth T_LogRecord p0 p2), (nth T_LogRecord p1 p2), ())) fun r3 =>
        bif !r3.1 then
          some (false, ())
        else
          l_laws_eqLogRecordS_4 m0 p0 p1 (IntKind.wrap .i64 (p2 + 1))
      else none
    else none
  else
    some (true, ()) := by
  rewrite [h_laws_eqLogRecordS_4]
  exact e_laws_eqLogRecordS_4 N P_laws_eqLogRecord m0 p0 p1 p2

/- 56: loop.example/g01166/laws.markText -/
abbrev As_laws_markText : List ATy := [.data false (.int .i64)]
abbrev R_laws_markText : List (Bool × Ty) := [(false, .str)]
abbrev M_laws_markText : List RMode := []
abbrev Ft_laws_markText : Type := Int × Unit → Option ((List UInt8) × Unit)
noncomputable def X_laws_markText (n : Nat) : Ctx := { types := TT, globals := [], con := [], keep := [(4, ⟨[.tmp 0, .tmp 3], []⟩)], results := [.tmp 2], ntmps := 20, n := n }
noncomputable def B_laws_markText : Code := (Tryd.f56.body).getD .skip
noncomputable def L_laws_markText_4 (n : Nat) (m0 : Nat) (p0 : Int) (p1 : List UInt8) : Option (denL R_laws_markText) := loopF (X_laws_markText n) B_laws_markText R_laws_markText M_laws_markText 4 [m0] [(.ver, .num 1), (.tmp 0, .val false [.int .i64 p0]), (.tmp 3, .val false [.str p1])]
theorem e_laws_markText (n : Nat) (a0 : Int) : runF (X_laws_markText n) B_laws_markText As_laws_markText R_laws_markText M_laws_markText (a0, ()) = 
  bif decide (a0 ≤ 0) then
    some (([109, 48] : List UInt8), ())
  else
    L_laws_markText_4 n n a0 ([] : List UInt8) := by kernel_rfl
theorem e_laws_markText_4 (n : Nat) (m0 : Nat) (p0 : Int) (p1 : List UInt8) : L_laws_markText_4 n (m0 + 1) p0 p1 = 
  bif decide (p0 > 0) then
    Option.bind (catS (List.map (fun (n : Int) => n.toNat.toUInt8) ([(IntKind.wrap .u8 (IntKind.wrap .i64 (48 + (Int.tmod p0 10))))] : List Int)) p1) fun r1 =>
    L_laws_markText_4 n m0 (IntKind.wrap .i64 (Int.tdiv p0 10)) r1
  else
    Option.bind (catS ([109] : List UInt8) p1) fun r1 =>
    some (r1, ()) := by kernel_rfl
noncomputable def P_laws_markText : Ft_laws_markText := hid (runF (X_laws_markText N) B_laws_markText As_laws_markText R_laws_markText M_laws_markText)
theorem h_laws_markText : P_laws_markText = runF (X_laws_markText N) B_laws_markText As_laws_markText R_laws_markText M_laws_markText := hid_eq _
noncomputable def C_laws_markText : Contract := ⟨As_laws_markText, R_laws_markText, M_laws_markText, P_laws_markText⟩
theorem s_laws_markText : Sound Tryd.prog GG 56 C_laws_markText := by
  unfold C_laws_markText; rw [h_laws_markText]
  exact sound_of_run (fn := Tryd.f56) hmix hstable (tyOK_of ttOK) (hglob (X_laws_markText N)) (conOK_of (X := X_laws_markText N) trivial) (mconOK_of (X := X_laws_markText N) trivial) (by kernel_rfl) (by kernel_rfl) (by kernel_rfl) (by kernel_rfl) (by kernel_rfl) (of_decide_eq_true (by kernel_rfl))
noncomputable def l_laws_markText_4 : Nat → Int → (List UInt8) → Option (denL R_laws_markText) := hid (fun m0 p0 p1 => L_laws_markText_4 N m0 p0 p1)
theorem h_laws_markText_4 : l_laws_markText_4 = fun m0 p0 p1 => L_laws_markText_4 N m0 p0 p1 := hid_eq _
theorem p_laws_markText (a0 : Int) : P_laws_markText (a0, ()) = 
  bif decide (a0 ≤ 0) then
    some (([109, 48] : List UInt8), ())
  else
    l_laws_markText_4 N a0 ([] : List UInt8) := by
  rewrite [h_laws_markText, h_laws_markText_4]
  exact e_laws_markText N a0
theorem q_laws_markText_4 (m0 : Nat) (p0 : Int) (p1 : List UInt8) : l_laws_markText_4 (m0 + 1) p0 p1 = 
  bif decide (p0 > 0) then
    Option.bind (catS (List.map (fun (N : Int) => N.toNat.toUInt8) ([(IntKind.wrap .u8 (IntKind.wrap .i64 (48 + (Int.tmod p0 10))))] : List Int)) p1) fun r1 =>
    l_laws_markText_4 m0 (IntKind.wrap .i64 (Int.tdiv p0 10)) r1
  else
    Option.bind (catS ([109] : List UInt8) p1) fun r1 =>
    some (r1, ()) := by
  rewrite [h_laws_markText_4]
  exact e_laws_markText_4 N m0 p0 p1

/- 32: loop.example/g01166/laws.markLogRecordS -/
abbrev As_laws_markLogRecordS : List ATy := [.lrow false (.sl T_LogRecord) [27], .data false (.int .i64)]
abbrev R_laws_markLogRecordS : List (Bool × Ty) := [(false, (.int .i64))]
abbrev M_laws_markLogRecordS : List RMode := []
abbrev Ft_laws_markLogRecordS : Type := (List D_LogRecord) × Int × Unit → Option ((Int × Unit) × ((List D_LogRecord) × Unit))
noncomputable def X_laws_markLogRecordS (n : Nat) (F_laws_markText : Ft_laws_markText) : Ctx := { types := TT, globals := [], con := [(56, ⟨As_laws_markText, R_laws_markText, M_laws_markText, F_laws_markText⟩)], keep := [(2, ⟨[.lent 0, .tmp 0, .tmp 1, .tmp 5], []⟩)], results := [.tmp 4], ntmps := 29, n := n }
noncomputable def B_laws_markLogRecordS : Code := (Tryd.f32.body).getD .skip
noncomputable def L_laws_markLogRecordS_2 (n : Nat) (F_laws_markText : Ft_laws_markText) (m0 : Nat) (p0 : List D_LogRecord) (p1 : Int) (p2 : Int) : Option (denL R_laws_markLogRecordS × denM As_laws_markLogRecordS) := loopFM (X_laws_markLogRecordS n F_laws_markText) B_laws_markLogRecordS As_laws_markLogRecordS R_laws_markLogRecordS M_laws_markLogRecordS 2 [m0] [(.ver, .num 1), (.lent 0, .val false [.own 27 T_LogRecord 0 p0]), (.tmp 0, .val false [.view ⟨.lent 0, 0, 0⟩ 0]), (.tmp 1, .val false [.int .i64 p1]), (.tmp 5, .val false [.int .i64 p2])]
theorem e_laws_markLogRecordS (n : Nat) (F_laws_markText : Ft_laws_markText) (a0 : List D_LogRecord) (a1 : Int) : runFM (X_laws_markLogRecordS n F_laws_markText) B_laws_markLogRecordS As_laws_markLogRecordS R_laws_markLogRecordS M_laws_markLogRecordS (a0, a1, ()) = 
  L_laws_markLogRecordS_2 n F_laws_markText n a0 a1 0 := by kernel_rfl
theorem e_laws_markLogRecordS_2 (n : Nat) (F_laws_markText : Ft_laws_markText) (m0 : Nat) (p0 : List D_LogRecord) (p1 : Int) (p2 : Int) : L_laws_markLogRecordS_2 n F_laws_markText (m0 + 1) p0 p1 p2 = 
  bif decide (p2 < (List.length p0 : Int)) then
    Option.bind (F_laws_markText (p1, ())) fun r1 =>
    bif inB p2 (List.length p0) then
      Option.bind (F_laws_markText ((IntKind.wrap .i64 (p1 + 1)), ())) fun r3 =>
      bif inB p2 (List.length (List.set p0 (Int.toNat p2) (r1.1, ((nth T_LogRecord p0 p2)).2))) then
        L_laws_markLogRecordS_2 n F_laws_markText m0 (List.set (List.set p0 (Int.toNat p2) (r1.1, ((nth T_LogRecord p0 p2)).2)) (Int.toNat p2) (((nth T_LogRecord (List.set p0 (Int.toNat p2) (r1.1, ((nth T_LogRecord p0 p2)).2)) p2)).1, (r3.1, ()))) (IntKind.wrap .i64 ((IntKind.wrap .i64 (p1 + 1)) + 1)) (IntKind.wrap .i64 (p2 + 1))
      else none
    else none
  else
    some ((p1, ()), (p0, ())) := by kernel_rfl
noncomputable def P_laws_markLogRecordS : Ft_laws_markLogRecordS := hid (runFM (X_laws_markLogRecordS N P_laws_markText) B_laws_markLogRecordS As_laws_markLogRecordS R_laws_markLogRecordS M_laws_markLogRecordS)
theorem h_laws_markLogRecordS : P_laws_markLogRecordS = runFM (X_laws_markLogRecordS N P_laws_markText) B_laws_markLogRecordS As_laws_markLogRecordS R_laws_markLogRecordS M_laws_markLogRecordS := hid_eq _
noncomputable def C_laws_markLogRecordS : MContract := ⟨As_laws_markLogRecordS, R_laws_markLogRecordS, M_laws_markLogRecordS, P_laws_markLogRecordS⟩
theorem s_laws_markLogRecordS : SoundM Tryd.prog n0 GG 32 C_laws_markLogRecordS := by
  unfold C_laws_markLogRecordS; rw [h_laws_markLogRecordS]
  exact sound_of_runM (fn := Tryd.f32) hmix hstable (tyOK_of ttOK) (hglob (X_laws_markLogRecordS N P_laws_markText)) (conOK_of (X := X_laws_markLogRecordS N P_laws_markText) ⟨s_laws_markText, trivial⟩) (mconOK_of (X := X_laws_markLogRecordS N P_laws_markText) trivial) (by kernel_rfl) (by kernel_rfl) (by kernel_rfl) (by kernel_rfl) (by kernel_rfl) (of_decide_eq_true (by kernel_rfl)) (by kernel_rfl) (by rfl)
noncomputable def l_laws_markLogRecordS_2 : Nat → (List D_LogRecord) → Int → Int → Option (denL R_laws_markLogRecordS × denM As_laws_markLogRecordS) := hid (fun m0 p0 p1 p2 => L_laws_markLogRecordS_2 N P_laws_markText m0 p0 p1 p2)
theorem h_laws_markLogRecordS_2 : l_laws_markLogRecordS_2 = fun m0 p0 p1 p2 => L_laws_markLogRecordS_2 N P_laws_markText m0 p0 p1 p2 := hid_eq _
theorem p_laws_markLogRecordS (a0 : List D_LogRecord) (a1 : Int) : P_laws_markLogRecordS (a0, a1, ()) = 
  l_laws_markLogRecordS_2 N a0 a1 0 := by
  rewrite [h_laws_markLogRecordS, h_laws_markLogRecordS_2]
  exact e_laws_markLogRecordS N P_laws_markText a0 a1
theorem q_laws_markLogRecordS_2 (m0 : Nat) (p0 : List D_LogRecord) (p1 : Int) (p2 : Int) : l_laws_markLogRecordS_2 (m0 + 1) p0 p1 p2 = 
  bif decide (p2 < (List.length p0 : Int)) then
    Option.bind (P_laws_markText (p1, ())) fun r1 =>
    bif inB p2 (List.length p0) then
      Option.bind (P_laws_markText ((IntKind.wrap .i64 (p1 + 1)), ())) fun r3 =>
      bif inB p2 (List.length (List.set p0 (Int.toNat p2) (r1.1, ((nth T_LogRecord p0 p2)).2))) then
        l_laws_markLogRecordS_2 m0 (List.set (List.set p0 (Int.toNat p2) (r1.1, ((nth T_LogRecord p0 p2)).2)) (Int.toNat p2) (((nth T_LogRecord (List.set p0 (Int.toNat p2) (r1.1, ((nth T_LogRecord p0 p2)).2)) p2)).1, (r3.1, ()))) (IntKind.wrap .i64 ((IntKind.wrap .i64 (p1 + 1)) + 1)) (IntKind.wrap .i64 (p2 + 1))
      else none
    else none
  else
    some ((p1, ()), (p0, ())) := by
  rewrite [h_laws_markLogRecordS_2]
  exact e_laws_markLogRecordS_2 N P_laws_markText m0 p0 p1 p2

/- 33: loop.example/g01166/laws.heldLogRecordS -/
abbrev As_laws_heldLogRecordS : List ATy := [.data false (.sl T_LogRecord), .data false (.int .i64)]
abbrev R_laws_heldLogRecordS : List (Bool × Ty) := [(false, (.int .i64))]
abbrev M_laws_heldLogRecordS : List RMode := []
abbrev Ft_laws_heldLogRecordS : Type := (List D_LogRecord) × Int × Unit → Option (Int × Unit)
noncomputable def X_laws_heldLogRecordS (n : Nat) (F_laws_markText : Ft_laws_markText) : Ctx := { types := TT, globals := [], con := [(56, ⟨As_laws_markText, R_laws_markText, M_laws_markText, F_laws_markText⟩)], keep := [(2, ⟨[.tmp 0, .tmp 1, .tmp 5], []⟩)], results := [.tmp 4], ntmps := 33, n := n }
noncomputable def B_laws_heldLogRecordS : Code := (Tryd.f33.body).getD .skip
noncomputable def L_laws_heldLogRecordS_2 (n : Nat) (F_laws_markText : Ft_laws_markText) (m0 : Nat) (p0 : List D_LogRecord) (p1 : Int) (p2 : Int) : Option (denL R_laws_heldLogRecordS) := loopF (X_laws_heldLogRecordS n F_laws_markText) B_laws_heldLogRecordS R_laws_heldLogRecordS M_laws_heldLogRecordS 2 [m0] [(.ver, .num 1), (.tmp 0, .val false [.imm T_LogRecord p0 (some 0)]), (.tmp 1, .val false [.int .i64 p1]), (.tmp 5, .val false [.int .i64 p2])]
theorem e_laws_heldLogRecordS (n : Nat) (F_laws_markText : Ft_laws_markText) (a0 : List D_LogRecord) (a1 : Int) : runF (X_laws_heldLogRecordS n F_laws_markText) B_laws_heldLogRecordS As_laws_heldLogRecordS R_laws_heldLogRecordS M_laws_heldLogRecordS (a0, a1, ()) = 
  L_laws_heldLogRecordS_2 n F_laws_markText n a0 a1 0 := by kernel_rfl
theorem e_laws_heldLogRecordS_2 (n : Nat) (F_laws_markText : Ft_laws_markText) (m0 : Nat) (p0 : List D_LogRecord) (p1 : Int) (p2 : Int) : L_laws_heldLogRecordS_2 n F_laws_markText (m0 + 1) p0 p1 p2 = 
  bif decide (p2 < (List.length p0 : Int)) then
    bif inB p2 (List.length p0) then
      Option.bind (F_laws_markText (p1, ())) fun r2 =>
      bif !((((nth T_LogRecord p0 p2)).1) == r2.1) then
        some ((-1), ())
      else
        bif inB p2 (List.length p0) then
          Option.bind (F_laws_markText ((IntKind.wrap .i64 (p1 + 1)), ())) fun r5 =>
          bif !(((((nth T_LogRecord p0 p2)).2).1) == r5.1) then
            some ((-1), ())
          else
            L_laws_heldLogRecordS_2 n F_laws_markText m0 p0 (IntKind.wrap .i64 ((IntKind.wrap .i64 (p1 + 1)) + 1)) (IntKind.wrap .i64 (p2 + 1))
        else none
    else none
  else
    some (p1, ()) := by kernel_rfl
noncomputable def P_laws_heldLogRecordS : Ft_laws_heldLogRecordS := hid (runF (X_laws_heldLogRecordS N P_laws_markText) B_laws_heldLogRecordS As_laws_heldLogRecordS R_laws_heldLogRecordS M_laws_heldLogRecordS)
theorem h_laws_heldLogRecordS : P_laws_heldLogRecordS = runF (X_laws_heldLogRecordS N P_laws_markText) B_laws_heldLogRecordS As_laws_heldLogRecordS R_laws_heldLogRecordS M_laws_heldLogRecordS := hid_eq _
noncomputable def C_laws_heldLogRecordS : Contract := ⟨As_laws_heldLogRecordS, R_laws_heldLogRecordS, M_laws_heldLogRecordS, P_laws_heldLogRecordS⟩
theorem s_laws_heldLogRecordS : Sound Tryd.prog GG 33 C_laws_heldLogRecordS := by
  unfold C_laws_heldLogRecordS; rw [h_laws_heldLogRecordS]
  exact sound_of_run (fn := Tryd.f33) hmix hstable (tyOK_of ttOK) (hglob (X_laws_heldLogRecordS N P_laws_markText)) (conOK_of (X := X_laws_heldLogRecordS N P_laws_markText) ⟨s_laws_markText, trivial⟩) (mconOK_of (X := X_laws_heldLogRecordS N P_laws_markText) trivial) (by kernel_rfl) (by kernel_rfl) (by kernel_rfl) (by kernel_rfl) (by kernel_rfl) (of_decide_eq_true (by kernel_rfl))
noncomputable def l_laws_heldLogRecordS_2 : Nat → (List D_LogRecord) → Int → Int → Option (denL R_laws_heldLogRecordS) := hid (fun m0 p0 p1 p2 => L_laws_heldLogRecordS_2 N P_laws_markText m0 p0 p1 p2)
theorem h_laws_heldLogRecordS_2 : l_laws_heldLogRecordS_2 = fun m0 p0 p1 p2 => L_laws_heldLogRecordS_2 N P_laws_markText m0 p0 p1 p2 := hid_eq _
theorem p_laws_heldLogRecordS (a0 : List D_LogRecord) (a1 : Int) : P_laws_heldLogRecordS (a0, a1, ()) = 
  l_laws_heldLogRecordS_2 N a0 a1 0 := by
  rewrite [h_laws_heldLogRecordS, h_laws_heldLogRecordS_2]
  exact e_laws_heldLogRecordS N P_laws_markText a0 a1
theorem q_laws_heldLogRecordS_2 (m0 : Nat) (p0 : List D_LogRecord) (p1 : Int) (p2 : Int) : l_laws_heldLogRecordS_2 (m0 + 1) p0 p1 p2 = 
  bif decide (p2 < (List.length p0 : Int)) then
    bif inB p2 (List.length p0) then
      Option.bind (P_laws_markText (p1, ())) fun r2 =>
      bif !((((nth T_LogRecord p0 p2)).1) == r2.1) then
        some ((-1), ())
      else
        bif inB p2 (List.length p0) then
          Option.bind (P_laws_markText ((IntKind.wrap .i64 (p1 + 1)), ())) fun r5 =>
          bif !(((((nth T_LogRecord p0 p2)).2).1) == r5.1) then
            some ((-1), ())
          else
            l_laws_heldLogRecordS_2 m0 p0 (IntKind.wrap .i64 ((IntKind.wrap .i64 (p1 + 1)) + 1)) (IntKind.wrap .i64 (p2 + 1))
        else none
    else none
  else
    some (p1, ()) := by
  rewrite [h_laws_heldLogRecordS_2]
  exact e_laws_heldLogRecordS_2 N P_laws_markText m0 p0 p1 p2

/- 9: loop.example/g01166/laws.FnExactLogRecords -/
abbrev As_laws_FnExactLogRecords : List ATy := [.data true T_Log]
abbrev R_laws_FnExactLogRecords : List (Bool × Ty) := [(false, .bool)]
abbrev M_laws_FnExactLogRecords : List RMode := []
abbrev Ft_laws_FnExactLogRecords : Type := D_Log × Unit → Option (Bool × Unit)
noncomputable def X_laws_FnExactLogRecords (n : Nat) (F_laws_szLog : Ft_laws_szLog) (F_laws_toLog : Ft_laws_toLog) (F_spec_LogRecords : Ft_spec_LogRecords) (F_impl_LogRecords : Ft_impl_LogRecords) (F_laws_eqLogRecordS : Ft_laws_eqLogRecordS) (F_laws_markLogRecordS : Ft_laws_markLogRecordS) (F_laws_heldLogRecordS : Ft_laws_heldLogRecordS) : Ctx := { types := TT, globals := [], con := [(19, ⟨As_laws_szLog, R_laws_szLog, M_laws_szLog, F_laws_szLog⟩), (21, ⟨As_laws_toLog, R_laws_toLog, M_laws_toLog, F_laws_toLog⟩), (29, ⟨As_spec_LogRecords, R_spec_LogRecords, M_spec_LogRecords, F_spec_LogRecords⟩), (30, ⟨As_impl_LogRecords, R_impl_LogRecords, M_impl_LogRecords, F_impl_LogRecords⟩), (31, ⟨As_laws_eqLogRecordS, R_laws_eqLogRecordS, M_laws_eqLogRecordS, F_laws_eqLogRecordS⟩), (33, ⟨As_laws_heldLogRecordS, R_laws_heldLogRecordS, M_laws_heldLogRecordS, F_laws_heldLogRecordS⟩)], mcon := [(32, ⟨As_laws_markLogRecordS, R_laws_markLogRecordS, M_laws_markLogRecordS, F_laws_markLogRecordS⟩)], keep := [], results := [.tmp 2], ntmps := 72, n := n }
noncomputable def B_laws_FnExactLogRecords : Code := (Tryd.f9.body).getD .skip
theorem e_laws_FnExactLogRecords (n : Nat) (F_laws_szLog : Ft_laws_szLog) (F_laws_toLog : Ft_laws_toLog) (F_spec_LogRecords : Ft_spec_LogRecords) (F_impl_LogRecords : Ft_impl_LogRecords) (F_laws_eqLogRecordS : Ft_laws_eqLogRecordS) (F_laws_markLogRecordS : Ft_laws_markLogRecordS) (F_laws_heldLogRecordS : Ft_laws_heldLogRecordS) (a0 : D_Log) : runF (X_laws_FnExactLogRecords n F_laws_szLog F_laws_toLog F_spec_LogRecords F_impl_LogRecords F_laws_eqLogRecordS F_laws_markLogRecordS F_laws_heldLogRecordS) B_laws_FnExactLogRecords As_laws_FnExactLogRecords R_laws_FnExactLogRecords M_laws_FnExactLogRecords (a0, ()) = 
  Option.bind (F_laws_szLog (a0, 1048576, ())) fun r0 =>
  bif decide (r0.1 < 0) then
    some (true, ())
  else
    Option.bind (F_laws_toLog (a0, ())) fun r2 =>
    Option.bind (F_spec_LogRecords (r2.1, ())) fun r3 =>
    Option.bind (F_laws_toLog (a0, ())) fun r4 =>
    Option.bind (F_impl_LogRecords (r4.1, ())) fun r5 =>
    Option.bind (F_laws_eqLogRecordS (r5.1, r3.1, ())) fun r6 =>
    bif !r6.1 then
      some (false, ())
    else
      bif !(r5.2.1 == r3.2.1) then
        some (false, ())
      else
        Option.bind (F_laws_markLogRecordS (r5.1, 1, ())) fun r9 =>
        Option.bind (F_laws_heldLogRecordS (r9.2.1, 1, ())) fun r10 =>
        bif decide (r10.1 < 0) then
          some (false, ())
        else
          bif !decide (r10.1 = r9.1.1) then
            some (false, ())
          else
            Option.bind (F_laws_toLog (a0, ())) fun r13 =>
            Option.bind (F_impl_LogRecords (r13.1, ())) fun r14 =>
            Option.bind (F_laws_eqLogRecordS (r14.1, r3.1, ())) fun r15 =>
            bif !r15.1 then
              some (false, ())
            else
              bif !(r14.2.1 == r3.2.1) then
                some (false, ())
              else
                Option.bind (F_laws_heldLogRecordS (r9.2.1, 1, ())) fun r18 =>
                bif decide (r18.1 < 0) then
                  some (false, ())
                else
                  bif !decide (r18.1 = r9.1.1) then
                    some (false, ())
                  else
                    some (true, ()) := by kernel_rfl
noncomputable def P_laws_FnExactLogRecords : Ft_laws_FnExactLogRecords := hid (runF (X_laws_FnExactLogRecords N P_laws_szLog P_laws_toLog P_spec_LogRecords P_impl_LogRecords P_laws_eqLogRecordS P_laws_markLogRecordS P_laws_heldLogRecordS) B_laws_FnExactLogRecords As_laws_FnExactLogRecords R_laws_FnExactLogRecords M_laws_FnExactLogRecords)
theorem h_laws_FnExactLogRecords : P_laws_FnExactLogRecords = runF (X_laws_FnExactLogRecords N P_laws_szLog P_laws_toLog P_spec_LogRecords P_impl_LogRecords P_laws_eqLogRecordS P_laws_markLogRecordS P_laws_heldLogRecordS) B_laws_FnExactLogRecords As_laws_FnExactLogRecords R_laws_FnExactLogRecords M_laws_FnExactLogRecords := hid_eq _
noncomputable def C_laws_FnExactLogRecords : Contract := ⟨As_laws_FnExactLogRecords, R_laws_FnExactLogRecords, M_laws_FnExactLogRecords, P_laws_FnExactLogRecords⟩
theorem s_laws_FnExactLogRecords : Sound Tryd.prog GG 9 C_laws_FnExactLogRecords := by
  unfold C_laws_FnExactLogRecords; rw [h_laws_FnExactLogRecords]
  exact sound_of_run (fn := Tryd.f9) hmix hstable (tyOK_of ttOK) (hglob (X_laws_FnExactLogRecords N P_laws_szLog P_laws_toLog P_spec_LogRecords P_impl_LogRecords P_laws_eqLogRecordS P_laws_markLogRecordS P_laws_heldLogRecordS)) (conOK_of (X := X_laws_FnExactLogRecords N P_laws_szLog P_laws_toLog P_spec_LogRecords P_impl_LogRecords P_laws_eqLogRecordS P_laws_markLogRecordS P_laws_heldLogRecordS) ⟨s_laws_szLog, s_laws_toLog, s_spec_LogRecords, s_impl_LogRecords, s_laws_eqLogRecordS, s_laws_heldLogRecordS, trivial⟩) (mconOK_of (X := X_laws_FnExactLogRecords N P_laws_szLog P_laws_toLog P_spec_LogRecords P_impl_LogRecords P_laws_eqLogRecordS P_laws_markLogRecordS P_laws_heldLogRecordS) ⟨s_laws_markLogRecordS, trivial⟩) (by kernel_rfl) (by kernel_rfl) (by kernel_rfl) (by kernel_rfl) (by kernel_rfl) (of_decide_eq_true (by kernel_rfl))
theorem p_laws_FnExactLogRecords (a0 : D_Log) : P_laws_FnExactLogRecords (a0, ()) = 
  Option.bind (P_laws_szLog (a0, 1048576, ())) fun r0 =>
  bif decide (r0.1 < 0) then
    some (true, ())
  else
    Option.bind (P_laws_toLog (a0, ())) fun r2 =>
    Option.bind (P_spec_LogRecords (r2.1, ())) fun r3 =>
    Option.bind (P_laws_toLog (a0, ())) fun r4 =>
    Option.bind (P_impl_LogRecords (r4.1, ())) fun r5 =>
    Option.bind (P_laws_eqLogRecordS (r5.1, r3.1, ())) fun r6 =>
    bif !r6.1 then
      some (false, ())
    else
      bif !(r5.2.1 == r3.2.1) then
        some (false, ())
      else
        Option.bind (P_laws_markLogRecordS (r5.1, 1, ())) fun r9 =>
        Option.bind (P_laws_heldLogRecordS (r9.2.1, 1, ())) fun r10 =>
        bif decide (r10.1 < 0) then
          some (false, ())
        else
          bif !decide (r10.1 = r9.1.1) then
            some (false, ())
          else
            Option.bind (P_laws_toLog (a0, ())) fun r13 =>
            Option.bind (P_impl_LogRecords (r13.1, ())) fun r14 =>
            Option.bind (P_laws_eqLogRecordS (r14.1, r3.1, ())) fun r15 =>
            bif !r15.1 then
              some (false, ())
            else
              bif !(r14.2.1 == r3.2.1) then
                some (false, ())
              else
                Option.bind (P_laws_heldLogRecordS (r9.2.1, 1, ())) fun r18 =>
                bif decide (r18.1 < 0) then
                  some (false, ())
                else
                  bif !decide (r18.1 = r9.1.1) then
                    some (false, ())
                  else
                    some (true, ()) := by
  rewrite [h_laws_FnExactLogRecords]
  exact e_laws_FnExactLogRecords N P_laws_szLog P_laws_toLog P_spec_LogRecords P_impl_LogRecords P_laws_eqLogRecordS P_laws_markLogRecordS P_laws_heldLogRecordS a0
end Go.VI
