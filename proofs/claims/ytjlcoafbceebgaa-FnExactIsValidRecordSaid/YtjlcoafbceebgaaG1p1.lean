/- What the functions of the seat compute, as printed by wip/tools. -/
import Derived.Test.YtjlcoafbceebgaaViLib
import Derived.Test.YtjlcoafbceebgaaTryShelf
import Derived.Test.YtjlcoafbceebgaaProg
namespace Go.VI
open Go.Proofs
set_option maxRecDepth 100000
def n0 : Nat := 0
def GG : World → Prop := fun _ => True
theorem hstable : Stable n0 GG := stable_true
theorem hmix : Try.prog.follows .mixedOrders = true := by kernel_rfl
theorem hglob (X : Ctx) (h : X.globals = [] := by rfl) (A : Fix) (_ : A.P = Try.prog) (_ : A.G = GG) : GlobOK A X := globOK_none h A
abbrev T_LogRecord : Ty := (.pair .str (.pair .str .unit))
abbrev D_LogRecord : Type := (List UInt8) × (List UInt8) × Unit
noncomputable def TT : List (TypeId × TI) := [(3, ⟨Try.t3.desc, (.int .i64), false, 8, [.int .i64 0]⟩),
  (4, ⟨Try.t4.desc, .bool, false, 1, [.bool false]⟩),
  (5, ⟨Try.t5.desc, (.int .u8), false, 1, [.int .u8 0]⟩),
  (9, ⟨Try.t9.desc, .str, false, 16, [.str ([] : List UInt8)]⟩),
  (23, ⟨Try.t22.desc, T_LogRecord, true, 32, [.str ([] : List UInt8), .str ([] : List UInt8)]⟩),
  (26, ⟨Try.t22.desc, T_LogRecord, true, 32, [.str ([] : List UInt8), .str ([] : List UInt8)]⟩)]
theorem ttOK : allP (fun q => tiB Try.prog q.1 q.2) TT :=
  ⟨⟨by kernel_rfl, by kernel_rfl, by kernel_rfl, by kernel_rfl, by kernel_rfl⟩, ⟨by kernel_rfl, by kernel_rfl, by kernel_rfl, by kernel_rfl, by kernel_rfl⟩, ⟨by kernel_rfl, by kernel_rfl, by kernel_rfl, by kernel_rfl, by kernel_rfl⟩, ⟨by kernel_rfl, by kernel_rfl, by kernel_rfl, by kernel_rfl, by kernel_rfl⟩, ⟨by kernel_rfl, by kernel_rfl, by kernel_rfl, by kernel_rfl, by kernel_rfl⟩, ⟨by kernel_rfl, by kernel_rfl, by kernel_rfl, by kernel_rfl, by kernel_rfl⟩, trivial⟩

/- 4: loop.example/g01166/laws.szLogRecord -/
abbrev As_laws_szLogRecord : List ATy := [.data true T_LogRecord, .data false (.int .i64)]
abbrev R_laws_szLogRecord : List (Bool × Ty) := [(false, (.int .i64))]
abbrev M_laws_szLogRecord : List RMode := []
abbrev Ft_laws_szLogRecord : Type := D_LogRecord × Int × Unit → Option (Int × Unit)
noncomputable def X_laws_szLogRecord (n : Nat) : Ctx := { types := TT, globals := [], con := [], keep := [], results := [.tmp 4], ntmps := 20, n := n }
noncomputable def B_laws_szLogRecord : Code := (Try.f4.body).getD .skip
theorem e_laws_szLogRecord (n : Nat) (a0 : D_LogRecord) (a1 : Int) : runF (X_laws_szLogRecord n) B_laws_szLogRecord As_laws_szLogRecord R_laws_szLogRecord M_laws_szLogRecord (a0, a1, ()) = 
  bif decide ((IntKind.wrap .i64 (a1 - (List.length a0.1 : Int))) < 0) then
    some ((-1), ())
  else
    bif decide ((IntKind.wrap .i64 ((IntKind.wrap .i64 (a1 - (List.length a0.1 : Int))) - (List.length a0.2.1 : Int))) < 0) then
      some ((-1), ())
    else
      some ((IntKind.wrap .i64 ((IntKind.wrap .i64 (a1 - (List.length a0.1 : Int))) - (List.length a0.2.1 : Int))), ()) := by kernel_rfl
noncomputable def P_laws_szLogRecord : Ft_laws_szLogRecord := hid (runF (X_laws_szLogRecord N) B_laws_szLogRecord As_laws_szLogRecord R_laws_szLogRecord M_laws_szLogRecord)
theorem h_laws_szLogRecord : P_laws_szLogRecord = runF (X_laws_szLogRecord N) B_laws_szLogRecord As_laws_szLogRecord R_laws_szLogRecord M_laws_szLogRecord := hid_eq _
noncomputable def C_laws_szLogRecord : Contract := ⟨As_laws_szLogRecord, R_laws_szLogRecord, M_laws_szLogRecord, P_laws_szLogRecord⟩
theorem s_laws_szLogRecord : Sound Try.prog GG 4 C_laws_szLogRecord := by
  unfold C_laws_szLogRecord; rw [h_laws_szLogRecord]
  exact sound_of_run (fn := Try.f4) hmix hstable (tyOK_of ttOK) (hglob (X_laws_szLogRecord N)) (conOK_of (X := X_laws_szLogRecord N) trivial) (mconOK_of (X := X_laws_szLogRecord N) trivial) (by kernel_rfl) (by kernel_rfl) (by kernel_rfl) (by kernel_rfl) (by kernel_rfl) (by decide)
theorem p_laws_szLogRecord (a0 : D_LogRecord) (a1 : Int) : P_laws_szLogRecord (a0, a1, ()) = 
  bif decide ((IntKind.wrap .i64 (a1 - (List.length a0.1 : Int))) < 0) then
    some ((-1), ())
  else
    bif decide ((IntKind.wrap .i64 ((IntKind.wrap .i64 (a1 - (List.length a0.1 : Int))) - (List.length a0.2.1 : Int))) < 0) then
      some ((-1), ())
    else
      some ((IntKind.wrap .i64 ((IntKind.wrap .i64 (a1 - (List.length a0.1 : Int))) - (List.length a0.2.1 : Int))), ()) := by
  rewrite [h_laws_szLogRecord]
  exact e_laws_szLogRecord N a0 a1

/- 14: loop.example/g01166/spec.l1In -/
abbrev As_spec_l1In : List ATy := [.data false (.int .i64), .data false (.int .i64), .data false (.int .i64)]
abbrev R_spec_l1In : List (Bool × Ty) := [(false, .bool)]
abbrev M_spec_l1In : List RMode := []
abbrev Ft_spec_l1In : Type := Int × Int × Int × Unit → Option (Bool × Unit)
noncomputable def X_spec_l1In (n : Nat) : Ctx := { types := TT, globals := [], con := [], keep := [], results := [.tmp 6], ntmps := 15, n := n }
noncomputable def B_spec_l1In : Code := (Try.f14.body).getD .skip
theorem e_spec_l1In (n : Nat) (a0 : Int) (a1 : Int) (a2 : Int) : runF (X_spec_l1In n) B_spec_l1In As_spec_l1In R_spec_l1In M_spec_l1In (a0, a1, a2, ()) = 
  bif decide (a0 ≥ a1) then
    some (decide (a0 ≤ a2), ())
  else
    some (false, ()) := by kernel_rfl
noncomputable def P_spec_l1In : Ft_spec_l1In := hid (runF (X_spec_l1In N) B_spec_l1In As_spec_l1In R_spec_l1In M_spec_l1In)
theorem h_spec_l1In : P_spec_l1In = runF (X_spec_l1In N) B_spec_l1In As_spec_l1In R_spec_l1In M_spec_l1In := hid_eq _
noncomputable def C_spec_l1In : Contract := ⟨As_spec_l1In, R_spec_l1In, M_spec_l1In, P_spec_l1In⟩
theorem s_spec_l1In : Sound Try.prog GG 14 C_spec_l1In := by
  unfold C_spec_l1In; rw [h_spec_l1In]
  exact sound_of_run (fn := Try.f14) hmix hstable (tyOK_of ttOK) (hglob (X_spec_l1In N)) (conOK_of (X := X_spec_l1In N) trivial) (mconOK_of (X := X_spec_l1In N) trivial) (by kernel_rfl) (by kernel_rfl) (by kernel_rfl) (by kernel_rfl) (by kernel_rfl) (by decide)
theorem p_spec_l1In (a0 : Int) (a1 : Int) (a2 : Int) : P_spec_l1In (a0, a1, a2, ()) = 
  bif decide (a0 ≥ a1) then
    some (decide (a0 ≤ a2), ())
  else
    some (false, ()) := by
  rewrite [h_spec_l1In]
  exact e_spec_l1In N a0 a1 a2

/- 11: loop.example/g01166/spec.l12Bytes -/
abbrev As_spec_l12Bytes : List ATy := [.data false .str, .data false (.int .i64)]
abbrev R_spec_l12Bytes : List (Bool × Ty) := [(false, .bool)]
abbrev M_spec_l12Bytes : List RMode := []
abbrev Ft_spec_l12Bytes : Type := (List UInt8) × Int × Unit → Option (Bool × Unit)
noncomputable def X_spec_l12Bytes (n : Nat) (F_spec_l1In : Ft_spec_l1In) : Ctx := { types := TT, globals := [], con := [(14, ⟨As_spec_l1In, R_spec_l1In, M_spec_l1In, F_spec_l1In⟩)], keep := [(2, ⟨[.tmp 0, .tmp 1, .tmp 5], []⟩)], results := [.tmp 4], ntmps := 28, n := n }
noncomputable def B_spec_l12Bytes : Code := (Try.f11.body).getD .skip
noncomputable def L_spec_l12Bytes_2 (n : Nat) (F_spec_l1In : Ft_spec_l1In) (m0 : Nat) (p0 : List UInt8) (p1 : Int) (p2 : Int) : Option (denL R_spec_l12Bytes) := loopF (X_spec_l12Bytes n F_spec_l1In) B_spec_l12Bytes R_spec_l12Bytes M_spec_l12Bytes 2 [m0] [(.ver, .num 1), (.tmp 0, .val false [.str p0]), (.tmp 1, .val false [.int .i64 p1]), (.tmp 5, .val false [.int .i64 p2])]
theorem e_spec_l12Bytes (n : Nat) (F_spec_l1In : Ft_spec_l1In) (a0 : List UInt8) (a1 : Int) : runF (X_spec_l12Bytes n F_spec_l1In) B_spec_l12Bytes As_spec_l12Bytes R_spec_l12Bytes M_spec_l12Bytes (a0, a1, ()) = 
  L_spec_l12Bytes_2 n F_spec_l1In n a0 a1 0 := by kernel_rfl
theorem e_spec_l12Bytes_2 (n : Nat) (F_spec_l1In : Ft_spec_l1In) (m0 : Nat) (p0 : List UInt8) (p1 : Int) (p2 : Int) : L_spec_l12Bytes_2 n F_spec_l1In (m0 + 1) p0 p1 p2 = 
  bif decide (p2 < (List.length p0 : Int)) then
    bif inB p2 (List.length p0) then
      Option.bind (F_spec_l1In ((IntKind.wrap .i64 (byteAt p0 p2)), 32, 126, ())) fun r2 =>
      bif !r2.1 then
        some (false, ())
      else
        bif inB p2 (List.length p0) then
          bif decide ((byteAt p0 p2) = 35) then
            some (false, ())
          else
            L_spec_l12Bytes_2 n F_spec_l1In m0 p0 p1 (IntKind.wrap .i64 (p2 + 1))
        else none
    else none
  else
    some (decide ((List.length p0 : Int) ≤ p1), ()) := by kernel_rfl
noncomputable def P_spec_l12Bytes : Ft_spec_l12Bytes := hid (runF (X_spec_l12Bytes N P_spec_l1In) B_spec_l12Bytes As_spec_l12Bytes R_spec_l12Bytes M_spec_l12Bytes)
theorem h_spec_l12Bytes : P_spec_l12Bytes = runF (X_spec_l12Bytes N P_spec_l1In) B_spec_l12Bytes As_spec_l12Bytes R_spec_l12Bytes M_spec_l12Bytes := hid_eq _
noncomputable def C_spec_l12Bytes : Contract := ⟨As_spec_l12Bytes, R_spec_l12Bytes, M_spec_l12Bytes, P_spec_l12Bytes⟩
theorem s_spec_l12Bytes : Sound Try.prog GG 11 C_spec_l12Bytes := by
  unfold C_spec_l12Bytes; rw [h_spec_l12Bytes]
  exact sound_of_run (fn := Try.f11) hmix hstable (tyOK_of ttOK) (hglob (X_spec_l12Bytes N P_spec_l1In)) (conOK_of (X := X_spec_l12Bytes N P_spec_l1In) ⟨s_spec_l1In, trivial⟩) (mconOK_of (X := X_spec_l12Bytes N P_spec_l1In) trivial) (by kernel_rfl) (by kernel_rfl) (by kernel_rfl) (by kernel_rfl) (by kernel_rfl) (by decide)
noncomputable def l_spec_l12Bytes_2 : Nat → (List UInt8) → Int → Int → Option (denL R_spec_l12Bytes) := hid (fun m0 p0 p1 p2 => L_spec_l12Bytes_2 N P_spec_l1In m0 p0 p1 p2)
theorem h_spec_l12Bytes_2 : l_spec_l12Bytes_2 = fun m0 p0 p1 p2 => L_spec_l12Bytes_2 N P_spec_l1In m0 p0 p1 p2 := hid_eq _
theorem p_spec_l12Bytes (a0 : List UInt8) (a1 : Int) : P_spec_l12Bytes (a0, a1, ()) = 
  l_spec_l12Bytes_2 N a0 a1 0 := by
  rewrite [h_spec_l12Bytes, h_spec_l12Bytes_2]
  exact e_spec_l12Bytes N P_spec_l1In a0 a1
theorem q_spec_l12Bytes_2 (m0 : Nat) (p0 : List UInt8) (p1 : Int) (p2 : Int) : l_spec_l12Bytes_2 (m0 + 1) p0 p1 p2 = 
  bif decide (p2 < (List.length p0 : Int)) then
    bif inB p2 (List.length p0) then
      Option.bind (P_spec_l1In ((IntKind.wrap .i64 (byteAt p0 p2)), 32, 126, ())) fun r2 =>
      bif !r2.1 then
        some (false, ())
      else
        bif inB p2 (List.length p0) then
          bif decide ((byteAt p0 p2) = 35) then
            some (false, ())
          else
            l_spec_l12Bytes_2 m0 p0 p1 (IntKind.wrap .i64 (p2 + 1))
        else none
    else none
  else
    some (decide ((List.length p0 : Int) ≤ p1), ()) := by
  rewrite [h_spec_l12Bytes_2]
  exact e_spec_l12Bytes_2 N P_spec_l1In m0 p0 p1 p2

/- 12: loop.example/g01166/spec.l1Stands -/
abbrev As_spec_l1Stands : List ATy := [.data false .str, .data false (.int .u8)]
abbrev R_spec_l1Stands : List (Bool × Ty) := [(false, .bool)]
abbrev M_spec_l1Stands : List RMode := []
abbrev Ft_spec_l1Stands : Type := (List UInt8) × Int × Unit → Option (Bool × Unit)
noncomputable def X_spec_l1Stands (n : Nat) : Ctx := { types := TT, globals := [], con := [], keep := [(2, ⟨[.tmp 0, .tmp 1, .tmp 5], []⟩)], results := [.tmp 4], ntmps := 17, n := n }
noncomputable def B_spec_l1Stands : Code := (Try.f12.body).getD .skip
noncomputable def L_spec_l1Stands_2 (n : Nat) (m0 : Nat) (p0 : List UInt8) (p1 : Int) (p2 : Int) : Option (denL R_spec_l1Stands) := loopF (X_spec_l1Stands n) B_spec_l1Stands R_spec_l1Stands M_spec_l1Stands 2 [m0] [(.ver, .num 1), (.tmp 0, .val false [.str p0]), (.tmp 1, .val false [.int .u8 p1]), (.tmp 5, .val false [.int .i64 p2])]
theorem e_spec_l1Stands (n : Nat) (a0 : List UInt8) (a1 : Int) : runF (X_spec_l1Stands n) B_spec_l1Stands As_spec_l1Stands R_spec_l1Stands M_spec_l1Stands (a0, a1, ()) = 
  L_spec_l1Stands_2 n n a0 a1 0 := by kernel_rfl
theorem e_spec_l1Stands_2 (n : Nat) (m0 : Nat) (p0 : List UInt8) (p1 : Int) (p2 : Int) : L_spec_l1Stands_2 n (m0 + 1) p0 p1 p2 = 
  bif decide (p2 < (List.length p0 : Int)) then
    bif inB p2 (List.length p0) then
      bif decide ((byteAt p0 p2) = p1) then
        some (true, ())
      else
        L_spec_l1Stands_2 n m0 p0 p1 (IntKind.wrap .i64 (p2 + 1))
    else none
  else
    some (false, ()) := by kernel_rfl
noncomputable def P_spec_l1Stands : Ft_spec_l1Stands := hid (runF (X_spec_l1Stands N) B_spec_l1Stands As_spec_l1Stands R_spec_l1Stands M_spec_l1Stands)
theorem h_spec_l1Stands : P_spec_l1Stands = runF (X_spec_l1Stands N) B_spec_l1Stands As_spec_l1Stands R_spec_l1Stands M_spec_l1Stands := hid_eq _
noncomputable def C_spec_l1Stands : Contract := ⟨As_spec_l1Stands, R_spec_l1Stands, M_spec_l1Stands, P_spec_l1Stands⟩
theorem s_spec_l1Stands : Sound Try.prog GG 12 C_spec_l1Stands := by
  unfold C_spec_l1Stands; rw [h_spec_l1Stands]
  exact sound_of_run (fn := Try.f12) hmix hstable (tyOK_of ttOK) (hglob (X_spec_l1Stands N)) (conOK_of (X := X_spec_l1Stands N) trivial) (mconOK_of (X := X_spec_l1Stands N) trivial) (by kernel_rfl) (by kernel_rfl) (by kernel_rfl) (by kernel_rfl) (by kernel_rfl) (by decide)
noncomputable def l_spec_l1Stands_2 : Nat → (List UInt8) → Int → Int → Option (denL R_spec_l1Stands) := hid (fun m0 p0 p1 p2 => L_spec_l1Stands_2 N m0 p0 p1 p2)
theorem h_spec_l1Stands_2 : l_spec_l1Stands_2 = fun m0 p0 p1 p2 => L_spec_l1Stands_2 N m0 p0 p1 p2 := hid_eq _
theorem p_spec_l1Stands (a0 : List UInt8) (a1 : Int) : P_spec_l1Stands (a0, a1, ()) = 
  l_spec_l1Stands_2 N a0 a1 0 := by
  rewrite [h_spec_l1Stands, h_spec_l1Stands_2]
  exact e_spec_l1Stands N a0 a1
theorem q_spec_l1Stands_2 (m0 : Nat) (p0 : List UInt8) (p1 : Int) (p2 : Int) : l_spec_l1Stands_2 (m0 + 1) p0 p1 p2 = 
  bif decide (p2 < (List.length p0 : Int)) then
    bif inB p2 (List.length p0) then
      bif decide ((byteAt p0 p2) = p1) then
        some (true, ())
      else
        l_spec_l1Stands_2 m0 p0 p1 (IntKind.wrap .i64 (p2 + 1))
    else none
  else
    some (false, ()) := by
  rewrite [h_spec_l1Stands_2]
  exact e_spec_l1Stands_2 N m0 p0 p1 p2

/- 8: loop.example/g01166/spec.l12Record -/
abbrev As_spec_l12Record : List ATy := [.data true T_LogRecord]
abbrev R_spec_l12Record : List (Bool × Ty) := [(false, .bool)]
abbrev M_spec_l12Record : List RMode := []
abbrev Ft_spec_l12Record : Type := D_LogRecord × Unit → Option (Bool × Unit)
noncomputable def X_spec_l12Record (n : Nat) (F_spec_l12Bytes : Ft_spec_l12Bytes) (F_spec_l1Stands : Ft_spec_l1Stands) : Ctx := { types := TT, globals := [], con := [(11, ⟨As_spec_l12Bytes, R_spec_l12Bytes, M_spec_l12Bytes, F_spec_l12Bytes⟩), (12, ⟨As_spec_l1Stands, R_spec_l1Stands, M_spec_l1Stands, F_spec_l1Stands⟩)], keep := [], results := [.tmp 2], ntmps := 22, n := n }
noncomputable def B_spec_l12Record : Code := (Try.f8.body).getD .skip
theorem e_spec_l12Record (n : Nat) (F_spec_l12Bytes : Ft_spec_l12Bytes) (F_spec_l1Stands : Ft_spec_l1Stands) (a0 : D_LogRecord) : runF (X_spec_l12Record n F_spec_l12Bytes F_spec_l1Stands) B_spec_l12Record As_spec_l12Record R_spec_l12Record M_spec_l12Record (a0, ()) = 
  bif !(a0.1 == ([] : List UInt8)) then
    Option.bind (F_spec_l12Bytes (a0.1, 160, ())) fun r1 =>
    bif r1.1 then
      Option.bind (F_spec_l1Stands (a0.1, 64, ())) fun r3 =>
      bif !r3.1 then
        Option.bind (F_spec_l12Bytes (a0.2.1, 300, ())) fun r5 =>
        some (r5.1, ())
      else
        some (false, ())
    else
      some (false, ())
  else
    some (false, ()) := by kernel_rfl
noncomputable def P_spec_l12Record : Ft_spec_l12Record := hid (runF (X_spec_l12Record N P_spec_l12Bytes P_spec_l1Stands) B_spec_l12Record As_spec_l12Record R_spec_l12Record M_spec_l12Record)
theorem h_spec_l12Record : P_spec_l12Record = runF (X_spec_l12Record N P_spec_l12Bytes P_spec_l1Stands) B_spec_l12Record As_spec_l12Record R_spec_l12Record M_spec_l12Record := hid_eq _
noncomputable def C_spec_l12Record : Contract := ⟨As_spec_l12Record, R_spec_l12Record, M_spec_l12Record, P_spec_l12Record⟩
theorem s_spec_l12Record : Sound Try.prog GG 8 C_spec_l12Record := by
  unfold C_spec_l12Record; rw [h_spec_l12Record]
  exact sound_of_run (fn := Try.f8) hmix hstable (tyOK_of ttOK) (hglob (X_spec_l12Record N P_spec_l12Bytes P_spec_l1Stands)) (conOK_of (X := X_spec_l12Record N P_spec_l12Bytes P_spec_l1Stands) ⟨s_spec_l12Bytes, s_spec_l1Stands, trivial⟩) (mconOK_of (X := X_spec_l12Record N P_spec_l12Bytes P_spec_l1Stands) trivial) (by kernel_rfl) (by kernel_rfl) (by kernel_rfl) (by kernel_rfl) (by kernel_rfl) (by decide)
theorem p_spec_l12Record (a0 : D_LogRecord) : P_spec_l12Record (a0, ()) = 
  bif !(a0.1 == ([] : List UInt8)) then
    Option.bind (P_spec_l12Bytes (a0.1, 160, ())) fun r1 =>
    bif r1.1 then
      Option.bind (P_spec_l1Stands (a0.1, 64, ())) fun r3 =>
      bif !r3.1 then
        Option.bind (P_spec_l12Bytes (a0.2.1, 300, ())) fun r5 =>
        some (r5.1, ())
      else
        some (false, ())
    else
      some (false, ())
  else
    some (false, ()) := by
  rewrite [h_spec_l12Record]
  exact e_spec_l12Record N P_spec_l12Bytes P_spec_l1Stands a0

/- 5: loop.example/g01166/spec.IsValidRecord -/
abbrev As_spec_IsValidRecord : List ATy := [.data true T_LogRecord]
abbrev R_spec_IsValidRecord : List (Bool × Ty) := [(false, .bool)]
abbrev M_spec_IsValidRecord : List RMode := []
abbrev Ft_spec_IsValidRecord : Type := D_LogRecord × Unit → Option (Bool × Unit)
noncomputable def X_spec_IsValidRecord (n : Nat) (F_spec_l12Record : Ft_spec_l12Record) : Ctx := { types := TT, globals := [], con := [(8, ⟨As_spec_l12Record, R_spec_l12Record, M_spec_l12Record, F_spec_l12Record⟩)], keep := [], results := [.tmp 2], ntmps := 5, n := n }
noncomputable def B_spec_IsValidRecord : Code := (Try.f5.body).getD .skip
theorem e_spec_IsValidRecord (n : Nat) (F_spec_l12Record : Ft_spec_l12Record) (a0 : D_LogRecord) : runF (X_spec_IsValidRecord n F_spec_l12Record) B_spec_IsValidRecord As_spec_IsValidRecord R_spec_IsValidRecord M_spec_IsValidRecord (a0, ()) = 
  Option.bind (F_spec_l12Record (a0, ())) fun r0 =>
  some (r0.1, ()) := by kernel_rfl
noncomputable def P_spec_IsValidRecord : Ft_spec_IsValidRecord := hid (runF (X_spec_IsValidRecord N P_spec_l12Record) B_spec_IsValidRecord As_spec_IsValidRecord R_spec_IsValidRecord M_spec_IsValidRecord)
theorem h_spec_IsValidRecord : P_spec_IsValidRecord = runF (X_spec_IsValidRecord N P_spec_l12Record) B_spec_IsValidRecord As_spec_IsValidRecord R_spec_IsValidRecord M_spec_IsValidRecord := hid_eq _
noncomputable def C_spec_IsValidRecord : Contract := ⟨As_spec_IsValidRecord, R_spec_IsValidRecord, M_spec_IsValidRecord, P_spec_IsValidRecord⟩
theorem s_spec_IsValidRecord : Sound Try.prog GG 5 C_spec_IsValidRecord := by
  unfold C_spec_IsValidRecord; rw [h_spec_IsValidRecord]
  exact sound_of_run (fn := Try.f5) hmix hstable (tyOK_of ttOK) (hglob (X_spec_IsValidRecord N P_spec_l12Record)) (conOK_of (X := X_spec_IsValidRecord N P_spec_l12Record) ⟨s_spec_l12Record, trivial⟩) (mconOK_of (X := X_spec_IsValidRecord N P_spec_l12Record) trivial) (by kernel_rfl) (by kernel_rfl) (by kernel_rfl) (by kernel_rfl) (by kernel_rfl) (by decide)
theorem p_spec_IsValidRecord (a0 : D_LogRecord) : P_spec_IsValidRecord (a0, ()) = 
  Option.bind (P_spec_l12Record (a0, ())) fun r0 =>
  some (r0.1, ()) := by
  rewrite [h_spec_IsValidRecord]
  exact e_spec_IsValidRecord N P_spec_l12Record a0

/- 6: loop.example/g01166/laws.toLogRecord -/
abbrev As_laws_toLogRecord : List ATy := [.data true T_LogRecord]
abbrev R_laws_toLogRecord : List (Bool × Ty) := [(true, T_LogRecord)]
abbrev M_laws_toLogRecord : List RMode := []
abbrev Ft_laws_toLogRecord : Type := D_LogRecord × Unit → Option (D_LogRecord × Unit)
noncomputable def X_laws_toLogRecord (n : Nat) : Ctx := { types := TT, globals := [], con := [], keep := [], results := [.cell 2 26], ntmps := 11, n := n }
noncomputable def B_laws_toLogRecord : Code := (Try.f6.body).getD .skip
theorem e_laws_toLogRecord (n : Nat) (a0 : D_LogRecord) : runF (X_laws_toLogRecord n) B_laws_toLogRecord As_laws_toLogRecord R_laws_toLogRecord M_laws_toLogRecord (a0, ()) = 
  some (a0, ()) := by kernel_rfl
noncomputable def P_laws_toLogRecord : Ft_laws_toLogRecord := hid (runF (X_laws_toLogRecord N) B_laws_toLogRecord As_laws_toLogRecord R_laws_toLogRecord M_laws_toLogRecord)
theorem h_laws_toLogRecord : P_laws_toLogRecord = runF (X_laws_toLogRecord N) B_laws_toLogRecord As_laws_toLogRecord R_laws_toLogRecord M_laws_toLogRecord := hid_eq _
noncomputable def C_laws_toLogRecord : Contract := ⟨As_laws_toLogRecord, R_laws_toLogRecord, M_laws_toLogRecord, P_laws_toLogRecord⟩
theorem s_laws_toLogRecord : Sound Try.prog GG 6 C_laws_toLogRecord := by
  unfold C_laws_toLogRecord; rw [h_laws_toLogRecord]
  exact sound_of_run (fn := Try.f6) hmix hstable (tyOK_of ttOK) (hglob (X_laws_toLogRecord N)) (conOK_of (X := X_laws_toLogRecord N) trivial) (mconOK_of (X := X_laws_toLogRecord N) trivial) (by kernel_rfl) (by kernel_rfl) (by kernel_rfl) (by kernel_rfl) (by kernel_rfl) (by decide)
theorem p_laws_toLogRecord (a0 : D_LogRecord) : P_laws_toLogRecord (a0, ()) = 
  some (a0, ()) := by
  rewrite [h_laws_toLogRecord]
  exact e_laws_toLogRecord N a0

/- 13: strings.ContainsAny: GIVEN -/
abbrev As_strings_ContainsAny : List ATy := [.data false .str, .data false .str]
abbrev R_strings_ContainsAny : List (Bool × Ty) := [(false, .bool)]
abbrev M_strings_ContainsAny : List RMode := []
abbrev Ft_strings_ContainsAny : Type := (List UInt8) × (List UInt8) × Unit → Option (Bool × Unit)
def ascii (s : List UInt8) : Bool := decide (s.length < 4294967281) && s.all fun b => decide (b.toNat < 128)
noncomputable def P_strings_ContainsAny : Ft_strings_ContainsAny := fun x => bif ascii x.1 && ascii x.2.1 then some (Lib.containsAny x.1 x.2.1, ()) else none
noncomputable def C_strings_ContainsAny : Contract := ⟨As_strings_ContainsAny, R_strings_ContainsAny, M_strings_ContainsAny, P_strings_ContainsAny⟩
theorem ascii_at {s : List UInt8} (h : ascii s = true) (j : Nat) (b : UInt8) (hj : s[j]? = some b) : b.toNat < 128 := by
  simp only [ascii, Bool.and_eq_true, List.all_eq_true, decide_eq_true_eq] at h
  exact h.2 b (List.mem_of_getElem? hj)
theorem s_strings_ContainsAny : Sound Try.prog GG 13 C_strings_ContainsAny := by
  refine sound_flat (fn := Try.f13) (c := (Try.f13.body).getD .skip) (by decide) (by decide) Try.func13 (by kernel_rfl) (by kernel_rfl) ?_
  rintro w ⟨s, ch, ⟨⟩⟩ ⟨r, ⟨⟩⟩ _ hF
  have hF : (bif ascii s && ascii ch then some (Lib.containsAny s ch, ()) else none) = some (r, ()) := hF
  cases h : ascii s && ascii ch with
  | false => rw [h] at hF; cases hF
  | true =>
    rw [h] at hF
    simp only [Bool.and_eq_true] at h
    obtain ⟨h1, h2⟩ := h
    have hr : Lib.containsAny s ch = r := by simpa using hF
    have hl1 : s.length < 4294967281 := by simp only [ascii, Bool.and_eq_true, decide_eq_true_eq] at h1; exact h1.1
    have hl2 : ch.length < 4294967281 := by simp only [ascii, Bool.and_eq_true, decide_eq_true_eq] at h2; exact h2.1
    have := Try.strings_ContainsAny_laid ⟨s.toArray⟩ ⟨ch.toArray⟩ w (by simpa [ByteArray.size] using hl1) (by simpa [ByteArray.size] using hl2) (fun j b hj => ascii_at h1 j b (by simpa using hj)) (fun j b hj => ascii_at h2 j b (by simpa using hj))
    rw [← hr]
    exact this
/- 10: loop.example/g01166/impl.isPlain -/
abbrev As_impl_isPlain : List ATy := [.data false .str, .data false (.int .i64), .data false .str]
abbrev R_impl_isPlain : List (Bool × Ty) := [(false, .bool)]
abbrev M_impl_isPlain : List RMode := []
abbrev Ft_impl_isPlain : Type := (List UInt8) × Int × (List UInt8) × Unit → Option (Bool × Unit)
noncomputable def X_impl_isPlain (n : Nat) (F_strings_ContainsAny : Ft_strings_ContainsAny) : Ctx := { types := TT, globals := [], con := [(13, ⟨As_strings_ContainsAny, R_strings_ContainsAny, M_strings_ContainsAny, F_strings_ContainsAny⟩)], keep := [(2, ⟨[.tmp 0, .tmp 1, .tmp 2, .tmp 9, .tmp 10], []⟩)], results := [.tmp 6], ntmps := 34, n := n }
noncomputable def B_impl_isPlain : Code := (Try.f10.body).getD .skip
noncomputable def L_impl_isPlain_2 (n : Nat) (F_strings_ContainsAny : Ft_strings_ContainsAny) (m0 : Nat) (p0 : List UInt8) (p1 : Int) (p2 : List UInt8) (p3 : Int) (p4 : Int) : Option (denL R_impl_isPlain) := loopF (X_impl_isPlain n F_strings_ContainsAny) B_impl_isPlain R_impl_isPlain M_impl_isPlain 2 [m0] [(.ver, .num 1), (.tmp 0, .val false [.str p0]), (.tmp 1, .val false [.int .i64 p1]), (.tmp 2, .val false [.str p2]), (.tmp 9, .val false [.int .i64 p3]), (.tmp 10, .val false [.int .i64 p4])]
theorem e_impl_isPlain (n : Nat) (F_strings_ContainsAny : Ft_strings_ContainsAny) (a0 : List UInt8) (a1 : Int) (a2 : List UInt8) : runF (X_impl_isPlain n F_strings_ContainsAny) B_impl_isPlain As_impl_isPlain R_impl_isPlain M_impl_isPlain (a0, a1, a2, ()) = 
  L_impl_isPlain_2 n F_strings_ContainsAny n a0 a1 a2 (List.length a0 : Int) 0 := by kernel_rfl
theorem e_impl_isPlain_2 (n : Nat) (F_strings_ContainsAny : Ft_strings_ContainsAny) (m0 : Nat) (p0 : List UInt8) (p1 : Int) (p2 : List UInt8) (p3 : Int) (p4 : Int) : L_impl_isPlain_2 n F_strings_ContainsAny (m0 + 1) p0 p1 p2 p3 p4 = 
  bif decide (p4 < p3) then
    bif inB p4 (List.length p0) then
      bif decide ((byteAt p0 p4) < 32) then
        some (false, ())
      else
        bif inB p4 (List.length p0) then
          bif decide ((byteAt p0 p4) > 126) then
            some (false, ())
          else
            L_impl_isPlain_2 n F_strings_ContainsAny m0 p0 p1 p2 p3 (IntKind.wrap .i64 (p4 + 1))
        else none
    else none
  else
    bif decide ((List.length p0 : Int) ≤ p1) then
      Option.bind (F_strings_ContainsAny (p0, p2, ())) fun r2 =>
      some (!r2.1, ())
    else
      some (false, ()) := by kernel_rfl
noncomputable def P_impl_isPlain : Ft_impl_isPlain := hid (runF (X_impl_isPlain N P_strings_ContainsAny) B_impl_isPlain As_impl_isPlain R_impl_isPlain M_impl_isPlain)
theorem h_impl_isPlain : P_impl_isPlain = runF (X_impl_isPlain N P_strings_ContainsAny) B_impl_isPlain As_impl_isPlain R_impl_isPlain M_impl_isPlain := hid_eq _
noncomputable def C_impl_isPlain : Contract := ⟨As_impl_isPlain, R_impl_isPlain, M_impl_isPlain, P_impl_isPlain⟩
theorem s_impl_isPlain : Sound Try.prog GG 10 C_impl_isPlain := by
  unfold C_impl_isPlain; rw [h_impl_isPlain]
  exact sound_of_run (fn := Try.f10) hmix hstable (tyOK_of ttOK) (hglob (X_impl_isPlain N P_strings_ContainsAny)) (conOK_of (X := X_impl_isPlain N P_strings_ContainsAny) ⟨s_strings_ContainsAny, trivial⟩) (mconOK_of (X := X_impl_isPlain N P_strings_ContainsAny) trivial) (by kernel_rfl) (by kernel_rfl) (by kernel_rfl) (by kernel_rfl) (by kernel_rfl) (by decide)
noncomputable def l_impl_isPlain_2 : Nat → (List UInt8) → Int → (List UInt8) → Int → Int → Option (denL R_impl_isPlain) := hid (fun m0 p0 p1 p2 p3 p4 => L_impl_isPlain_2 N P_strings_ContainsAny m0 p0 p1 p2 p3 p4)
theorem h_impl_isPlain_2 : l_impl_isPlain_2 = fun m0 p0 p1 p2 p3 p4 => L_impl_isPlain_2 N P_strings_ContainsAny m0 p0 p1 p2 p3 p4 := hid_eq _
theorem p_impl_isPlain (a0 : List UInt8) (a1 : Int) (a2 : List UInt8) : P_impl_isPlain (a0, a1, a2, ()) = 
  l_impl_isPlain_2 N a0 a1 a2 (List.length a0 : Int) 0 := by
  rewrite [h_impl_isPlain, h_impl_isPlain_2]
  exact e_impl_isPlain N P_strings_ContainsAny a0 a1 a2
theorem q_impl_isPlain_2 (m0 : Nat) (p0 : List UInt8) (p1 : Int) (p2 : List UInt8) (p3 : Int) (p4 : Int) : l_impl_isPlain_2 (m0 + 1) p0 p1 p2 p3 p4 = 
  bif decide (p4 < p3) then
    bif inB p4 (List.length p0) then
      bif decide ((byteAt p0 p4) < 32) then
        some (false, ())
      else
        bif inB p4 (List.length p0) then
          bif decide ((byteAt p0 p4) > 126) then
            some (false, ())
          else
            l_impl_isPlain_2 m0 p0 p1 p2 p3 (IntKind.wrap .i64 (p4 + 1))
        else none
    else none
  else
    bif decide ((List.length p0 : Int) ≤ p1) then
      Option.bind (P_strings_ContainsAny (p0, p2, ())) fun r2 =>
      some (!r2.1, ())
    else
      some (false, ()) := by
  rewrite [h_impl_isPlain_2]
  exact e_impl_isPlain_2 N P_strings_ContainsAny m0 p0 p1 p2 p3 p4

/- 9: loop.example/g01166/impl.isCommand -/
abbrev As_impl_isCommand : List ATy := [.data false .str]
abbrev R_impl_isCommand : List (Bool × Ty) := [(false, .bool)]
abbrev M_impl_isCommand : List RMode := []
abbrev Ft_impl_isCommand : Type := (List UInt8) × Unit → Option (Bool × Unit)
noncomputable def X_impl_isCommand (n : Nat) (F_impl_isPlain : Ft_impl_isPlain) : Ctx := { types := TT, globals := [], con := [(10, ⟨As_impl_isPlain, R_impl_isPlain, M_impl_isPlain, F_impl_isPlain⟩)], keep := [], results := [.tmp 2], ntmps := 9, n := n }
noncomputable def B_impl_isCommand : Code := (Try.f9.body).getD .skip
theorem e_impl_isCommand (n : Nat) (F_impl_isPlain : Ft_impl_isPlain) (a0 : List UInt8) : runF (X_impl_isCommand n F_impl_isPlain) B_impl_isCommand As_impl_isCommand R_impl_isCommand M_impl_isCommand (a0, ()) = 
  bif !(a0 == ([] : List UInt8)) then
    Option.bind (F_impl_isPlain (a0, 160, ([35, 64] : List UInt8), ())) fun r1 =>
    some (r1.1, ())
  else
    some (false, ()) := by kernel_rfl
noncomputable def P_impl_isCommand : Ft_impl_isCommand := hid (runF (X_impl_isCommand N P_impl_isPlain) B_impl_isCommand As_impl_isCommand R_impl_isCommand M_impl_isCommand)
theorem h_impl_isCommand : P_impl_isCommand = runF (X_impl_isCommand N P_impl_isPlain) B_impl_isCommand As_impl_isCommand R_impl_isCommand M_impl_isCommand := hid_eq _
noncomputable def C_impl_isCommand : Contract := ⟨As_impl_isCommand, R_impl_isCommand, M_impl_isCommand, P_impl_isCommand⟩
theorem s_impl_isCommand : Sound Try.prog GG 9 C_impl_isCommand := by
  unfold C_impl_isCommand; rw [h_impl_isCommand]
  exact sound_of_run (fn := Try.f9) hmix hstable (tyOK_of ttOK) (hglob (X_impl_isCommand N P_impl_isPlain)) (conOK_of (X := X_impl_isCommand N P_impl_isPlain) ⟨s_impl_isPlain, trivial⟩) (mconOK_of (X := X_impl_isCommand N P_impl_isPlain) trivial) (by kernel_rfl) (by kernel_rfl) (by kernel_rfl) (by kernel_rfl) (by kernel_rfl) (by decide)
theorem p_impl_isCommand (a0 : List UInt8) : P_impl_isCommand (a0, ()) = 
  bif !(a0 == ([] : List UInt8)) then
    Option.bind (P_impl_isPlain (a0, 160, ([35, 64] : List UInt8), ())) fun r1 =>
    some (r1.1, ())
  else
    some (false, ()) := by
  rewrite [h_impl_isCommand]
  exact e_impl_isCommand N P_impl_isPlain a0

/- 7: loop.example/g01166/impl.IsValidRecord -/
abbrev As_impl_IsValidRecord : List ATy := [.data true T_LogRecord]
abbrev R_impl_IsValidRecord : List (Bool × Ty) := [(false, .bool)]
abbrev M_impl_IsValidRecord : List RMode := []
abbrev Ft_impl_IsValidRecord : Type := D_LogRecord × Unit → Option (Bool × Unit)
noncomputable def X_impl_IsValidRecord (n : Nat) (F_impl_isCommand : Ft_impl_isCommand) (F_impl_isPlain : Ft_impl_isPlain) : Ctx := { types := TT, globals := [], con := [(9, ⟨As_impl_isCommand, R_impl_isCommand, M_impl_isCommand, F_impl_isCommand⟩), (10, ⟨As_impl_isPlain, R_impl_isPlain, M_impl_isPlain, F_impl_isPlain⟩)], keep := [], results := [.tmp 2], ntmps := 11, n := n }
noncomputable def B_impl_IsValidRecord : Code := (Try.f7.body).getD .skip
theorem e_impl_IsValidRecord (n : Nat) (F_impl_isCommand : Ft_impl_isCommand) (F_impl_isPlain : Ft_impl_isPlain) (a0 : D_LogRecord) : runF (X_impl_IsValidRecord n F_impl_isCommand F_impl_isPlain) B_impl_IsValidRecord As_impl_IsValidRecord R_impl_IsValidRecord M_impl_IsValidRecord (a0, ()) = 
  Option.bind (F_impl_isCommand (a0.1, ())) fun r0 =>
  bif r0.1 then
    Option.bind (F_impl_isPlain (a0.2.1, 300, ([35] : List UInt8), ())) fun r2 =>
    some (r2.1, ())
  else
    some (false, ()) := by kernel_rfl
noncomputable def P_impl_IsValidRecord : Ft_impl_IsValidRecord := hid (runF (X_impl_IsValidRecord N P_impl_isCommand P_impl_isPlain) B_impl_IsValidRecord As_impl_IsValidRecord R_impl_IsValidRecord M_impl_IsValidRecord)
theorem h_impl_IsValidRecord : P_impl_IsValidRecord = runF (X_impl_IsValidRecord N P_impl_isCommand P_impl_isPlain) B_impl_IsValidRecord As_impl_IsValidRecord R_impl_IsValidRecord M_impl_IsValidRecord := hid_eq _
noncomputable def C_impl_IsValidRecord : Contract := ⟨As_impl_IsValidRecord, R_impl_IsValidRecord, M_impl_IsValidRecord, P_impl_IsValidRecord⟩
theorem s_impl_IsValidRecord : Sound Try.prog GG 7 C_impl_IsValidRecord := by
  unfold C_impl_IsValidRecord; rw [h_impl_IsValidRecord]
  exact sound_of_run (fn := Try.f7) hmix hstable (tyOK_of ttOK) (hglob (X_impl_IsValidRecord N P_impl_isCommand P_impl_isPlain)) (conOK_of (X := X_impl_IsValidRecord N P_impl_isCommand P_impl_isPlain) ⟨s_impl_isCommand, s_impl_isPlain, trivial⟩) (mconOK_of (X := X_impl_IsValidRecord N P_impl_isCommand P_impl_isPlain) trivial) (by kernel_rfl) (by kernel_rfl) (by kernel_rfl) (by kernel_rfl) (by kernel_rfl) (by decide)
theorem p_impl_IsValidRecord (a0 : D_LogRecord) : P_impl_IsValidRecord (a0, ()) = 
  Option.bind (P_impl_isCommand (a0.1, ())) fun r0 =>
  bif r0.1 then
    Option.bind (P_impl_isPlain (a0.2.1, 300, ([35] : List UInt8), ())) fun r2 =>
    some (r2.1, ())
  else
    some (false, ()) := by
  rewrite [h_impl_IsValidRecord]
  exact e_impl_IsValidRecord N P_impl_isCommand P_impl_isPlain a0

/- 3: loop.example/g01166/laws.FnExactIsValidRecord -/
abbrev As_laws_FnExactIsValidRecord : List ATy := [.data true T_LogRecord]
abbrev R_laws_FnExactIsValidRecord : List (Bool × Ty) := [(false, .bool)]
abbrev M_laws_FnExactIsValidRecord : List RMode := []
abbrev Ft_laws_FnExactIsValidRecord : Type := D_LogRecord × Unit → Option (Bool × Unit)
noncomputable def X_laws_FnExactIsValidRecord (n : Nat) (F_laws_szLogRecord : Ft_laws_szLogRecord) (F_spec_IsValidRecord : Ft_spec_IsValidRecord) (F_laws_toLogRecord : Ft_laws_toLogRecord) (F_impl_IsValidRecord : Ft_impl_IsValidRecord) : Ctx := { types := TT, globals := [], con := [(4, ⟨As_laws_szLogRecord, R_laws_szLogRecord, M_laws_szLogRecord, F_laws_szLogRecord⟩), (5, ⟨As_spec_IsValidRecord, R_spec_IsValidRecord, M_spec_IsValidRecord, F_spec_IsValidRecord⟩), (6, ⟨As_laws_toLogRecord, R_laws_toLogRecord, M_laws_toLogRecord, F_laws_toLogRecord⟩), (7, ⟨As_impl_IsValidRecord, R_impl_IsValidRecord, M_impl_IsValidRecord, F_impl_IsValidRecord⟩)], keep := [], results := [.tmp 2], ntmps := 20, n := n }
noncomputable def B_laws_FnExactIsValidRecord : Code := (Try.f3.body).getD .skip
theorem e_laws_FnExactIsValidRecord (n : Nat) (F_laws_szLogRecord : Ft_laws_szLogRecord) (F_spec_IsValidRecord : Ft_spec_IsValidRecord) (F_laws_toLogRecord : Ft_laws_toLogRecord) (F_impl_IsValidRecord : Ft_impl_IsValidRecord) (a0 : D_LogRecord) : runF (X_laws_FnExactIsValidRecord n F_laws_szLogRecord F_spec_IsValidRecord F_laws_toLogRecord F_impl_IsValidRecord) B_laws_FnExactIsValidRecord As_laws_FnExactIsValidRecord R_laws_FnExactIsValidRecord M_laws_FnExactIsValidRecord (a0, ()) = 
  Option.bind (F_laws_szLogRecord (a0, 1048576, ())) fun r0 =>
  bif decide (r0.1 < 0) then
    some (true, ())
  else
    Option.bind (F_laws_toLogRecord (a0, ())) fun r2 =>
    Option.bind (F_spec_IsValidRecord (r2.1, ())) fun r3 =>
    Option.bind (F_laws_toLogRecord (a0, ())) fun r4 =>
    Option.bind (F_impl_IsValidRecord (r4.1, ())) fun r5 =>
    bif !(r5.1 == r3.1) then
      some (false, ())
    else
      some (true, ()) := by kernel_rfl
noncomputable def P_laws_FnExactIsValidRecord : Ft_laws_FnExactIsValidRecord := hid (runF (X_laws_FnExactIsValidRecord N P_laws_szLogRecord P_spec_IsValidRecord P_laws_toLogRecord P_impl_IsValidRecord) B_laws_FnExactIsValidRecord As_laws_FnExactIsValidRecord R_laws_FnExactIsValidRecord M_laws_FnExactIsValidRecord)
theorem h_laws_FnExactIsValidRecord : P_laws_FnExactIsValidRecord = runF (X_laws_FnExactIsValidRecord N P_laws_szLogRecord P_spec_IsValidRecord P_laws_toLogRecord P_impl_IsValidRecord) B_laws_FnExactIsValidRecord As_laws_FnExactIsValidRecord R_laws_FnExactIsValidRecord M_laws_FnExactIsValidRecord := hid_eq _
noncomputable def C_laws_FnExactIsValidRecord : Contract := ⟨As_laws_FnExactIsValidRecord, R_laws_FnExactIsValidRecord, M_laws_FnExactIsValidRecord, P_laws_FnExactIsValidRecord⟩
theorem s_laws_FnExactIsValidRecord : Sound Try.prog GG 3 C_laws_FnExactIsValidRecord := by
  unfold C_laws_FnExactIsValidRecord; rw [h_laws_FnExactIsValidRecord]
  exact sound_of_run (fn := Try.f3) hmix hstable (tyOK_of ttOK) (hglob (X_laws_FnExactIsValidRecord N P_laws_szLogRecord P_spec_IsValidRecord P_laws_toLogRecord P_impl_IsValidRecord)) (conOK_of (X := X_laws_FnExactIsValidRecord N P_laws_szLogRecord P_spec_IsValidRecord P_laws_toLogRecord P_impl_IsValidRecord) ⟨s_laws_szLogRecord, s_spec_IsValidRecord, s_laws_toLogRecord, s_impl_IsValidRecord, trivial⟩) (mconOK_of (X := X_laws_FnExactIsValidRecord N P_laws_szLogRecord P_spec_IsValidRecord P_laws_toLogRecord P_impl_IsValidRecord) trivial) (by kernel_rfl) (by kernel_rfl) (by kernel_rfl) (by kernel_rfl) (by kernel_rfl) (by decide)
theorem p_laws_FnExactIsValidRecord (a0 : D_LogRecord) : P_laws_FnExactIsValidRecord (a0, ()) = 
  Option.bind (P_laws_szLogRecord (a0, 1048576, ())) fun r0 =>
  bif decide (r0.1 < 0) then
    some (true, ())
  else
    Option.bind (P_laws_toLogRecord (a0, ())) fun r2 =>
    Option.bind (P_spec_IsValidRecord (r2.1, ())) fun r3 =>
    Option.bind (P_laws_toLogRecord (a0, ())) fun r4 =>
    Option.bind (P_impl_IsValidRecord (r4.1, ())) fun r5 =>
    bif !(r5.1 == r3.1) then
      some (false, ())
    else
      some (true, ()) := by
  rewrite [h_laws_FnExactIsValidRecord]
  exact e_laws_FnExactIsValidRecord N P_laws_szLogRecord P_spec_IsValidRecord P_laws_toLogRecord P_impl_IsValidRecord a0
end Go.VI
