/- What the functions of the seat compute, as printed by wip/tools. -/
import Derived.Test.YtpojikcnjlbgdaaDoorViLib
import Derived.Test.YtpojikcnjlbgdaaDoorTrydShelf
import Derived.Test.YtpojikcnjlbgdaaDoorProg
namespace Go.VI
open Go.Proofs Go.Sort
set_option maxRecDepth 100000
def n0 : Nat := 4
/-- What the calls lean on: a table of the library's, and that a variable of its own holds a number. -/
def GG : World → Prop := fun w => 4 ≤ w.heap.size ∧ Lib.TabIs Tryd.prog w "internal/strconv.uint64pow10" .u64 Lib.pow10Tab ∧ ∃ m, w.cell? ⟨0, 0, none⟩ = some (.int .i64 m)
theorem gPow : ∃ g, Tryd.prog.globalNamed "internal/strconv.uint64pow10" = some g ∧ g < 4 := ⟨((Tryd.prog.globalNamed "internal/strconv.uint64pow10").getD 0), by kernel_rfl, of_decide_eq_true (by kernel_rfl)⟩
theorem hstable : Stable n0 GG := by
  refine ⟨fun w h => h.1, ?_⟩
  rintro w w' ⟨h1, h2, m, h3⟩ hsz hb
  refine ⟨Nat.le_trans h1 hsz, ?_, m, ?_⟩
  · obtain ⟨g, hg, hlt⟩ := gPow
    unfold Lib.TabIs World.var? at *
    rw [hg] at h2 ⊢
    simp only [Option.bind_some] at h2 ⊢
    rw [hb g hlt]
    exact h2
  · rw [← h3]
    unfold World.cell?
    rw [hb 0 (by decide)]
theorem hmix : Tryd.prog.follows .mixedOrders = true := by kernel_rfl
theorem hglob (X : Ctx) (h : X.globals = [] := by rfl) (A : Fix) (_ : A.P = Tryd.prog) (_ : A.G = GG) : GlobOK A X := globOK_none h A
theorem below_drew (w : World) (n : Nat) : RowKit.Below w.heap.size w (w.drewN n) := ⟨rfl, rfl, rfl, Nat.le_refl _, fun _ _ => rfl⟩
theorem below_grew (w : World) (k : Nat) (os : Array Obj) : RowKit.Below w.heap.size w (grow (w.drewN k) os) :=
  ⟨rfl, rfl, rfl, by simp [grow], fun i hi => by simp [grow, Array.getElem?_append, hi]⟩
abbrev T_Log : Ty := (.pair .str (.pair .str (.pair (.int .i64) .unit)))
abbrev D_Log : Type := (List UInt8) × (List UInt8) × Int × Unit
abbrev T_A2 : Ty := (.pair (.int .i64) (.pair (.int .i64) .unit))
abbrev D_A2 : Type := Int × Int × Unit
abbrev T_A3 : Ty := (.pair (.int .i64) (.pair (.int .i64) (.pair (.int .i64) .unit)))
abbrev D_A3 : Type := Int × Int × Int × Unit
abbrev T_Heap : Ty := (.pair (.int .i64) (.pair (.int .i64) (.pair (.int .i64) (.pair (.sl T_A3) .unit))))
abbrev D_Heap : Type := Int × Int × Int × (List D_A3) × Unit
abbrev T_Bench : Ty := (.pair T_Heap (.pair (.int .i64) (.pair (.int .i64) .unit)))
abbrev D_Bench : Type := D_Heap × Int × Int × Unit
abbrev T_Console : Ty := (.pair T_Bench (.pair T_Log .unit))
abbrev D_Console : Type := D_Bench × D_Log × Unit
abbrev T_LogRecord : Ty := (.pair .str (.pair .str .unit))
abbrev D_LogRecord : Type := (List UInt8) × (List UInt8) × Unit
noncomputable def TT : List (TypeId × TI) := [(3, ⟨Tryd.t3.desc, (.int .i64), false, 8, [.int .i64 0]⟩),
  (4, ⟨Tryd.t4.desc, .bool, false, 1, [.bool false]⟩),
  (5, ⟨Tryd.t5.desc, (.int .u8), false, 1, [.int .u8 0]⟩),
  (9, ⟨Tryd.t9.desc, .str, false, 16, [.str ([] : List UInt8)]⟩),
  (23, ⟨Tryd.t22.desc, T_Log, true, 40, [.str ([] : List UInt8), .str ([] : List UInt8), .int .i64 0]⟩),
  (26, ⟨Tryd.t22.desc, T_Log, true, 40, [.str ([] : List UInt8), .str ([] : List UInt8), .int .i64 0]⟩),
  (29, ⟨Tryd.t29.desc, (.sl T_A3), false, 24, [.nil 79 T_A3]⟩),
  (31, ⟨Tryd.t30.desc, T_Heap, true, 48, [.int .i64 0, .int .i64 0, .int .i64 0, .nil 79 T_A3]⟩),
  (33, ⟨Tryd.t32.desc, T_Bench, true, 64, [.int .i64 0, .int .i64 0, .int .i64 0, .nil 79 T_A3, .int .i64 0, .int .i64 0]⟩),
  (35, ⟨Tryd.t34.desc, T_Console, true, 104, [.int .i64 0, .int .i64 0, .int .i64 0, .nil 79 T_A3, .int .i64 0, .int .i64 0, .str ([] : List UInt8), .str ([] : List UInt8), .int .i64 0]⟩),
  (38, ⟨Tryd.t30.desc, T_Heap, true, 48, [.int .i64 0, .int .i64 0, .int .i64 0, .nil 79 T_A3]⟩),
  (40, ⟨Tryd.t39.desc, T_Bench, true, 64, [.int .i64 0, .int .i64 0, .int .i64 0, .nil 79 T_A3, .int .i64 0, .int .i64 0]⟩),
  (42, ⟨Tryd.t41.desc, T_Console, true, 104, [.int .i64 0, .int .i64 0, .int .i64 0, .nil 79 T_A3, .int .i64 0, .int .i64 0, .str ([] : List UInt8), .str ([] : List UInt8), .int .i64 0]⟩),
  (46, ⟨Tryd.t46.desc, (.sl T_LogRecord), false, 24, [.nil 63 T_LogRecord]⟩),
  (47, ⟨Tryd.t47.desc, (.sl (.int .i64)), false, 24, [.nil 3 (.int .i64)]⟩),
  (63, ⟨Tryd.t62.desc, T_LogRecord, true, 32, [.str ([] : List UInt8), .str ([] : List UInt8)]⟩),
  (71, ⟨Tryd.t71.desc, (.sl .str), false, 24, [.nil 9 .str]⟩),
  (79, ⟨Tryd.t79.desc, T_A3, true, 24, [.int .i64 0, .int .i64 0, .int .i64 0]⟩),
  (82, ⟨Tryd.t79.desc, T_A3, true, 24, [.int .i64 0, .int .i64 0, .int .i64 0]⟩)]
theorem ttOK : allP (fun q => tiB Tryd.prog q.1 q.2) TT :=
  ⟨⟨by kernel_rfl, by kernel_rfl, by kernel_rfl, by kernel_rfl, by kernel_rfl⟩, ⟨by kernel_rfl, by kernel_rfl, by kernel_rfl, by kernel_rfl, by kernel_rfl⟩, ⟨by kernel_rfl, by kernel_rfl, by kernel_rfl, by kernel_rfl, by kernel_rfl⟩, ⟨by kernel_rfl, by kernel_rfl, by kernel_rfl, by kernel_rfl, by kernel_rfl⟩, ⟨by kernel_rfl, by kernel_rfl, by kernel_rfl, by kernel_rfl, by kernel_rfl⟩, ⟨by kernel_rfl, by kernel_rfl, by kernel_rfl, by kernel_rfl, by kernel_rfl⟩, ⟨by kernel_rfl, by kernel_rfl, by kernel_rfl, by kernel_rfl, by kernel_rfl⟩, ⟨by kernel_rfl, by kernel_rfl, by kernel_rfl, by kernel_rfl, by kernel_rfl⟩, ⟨by kernel_rfl, by kernel_rfl, by kernel_rfl, by kernel_rfl, by kernel_rfl⟩, ⟨by kernel_rfl, by kernel_rfl, by kernel_rfl, by kernel_rfl, by kernel_rfl⟩, ⟨by kernel_rfl, by kernel_rfl, by kernel_rfl, by kernel_rfl, by kernel_rfl⟩, ⟨by kernel_rfl, by kernel_rfl, by kernel_rfl, by kernel_rfl, by kernel_rfl⟩, ⟨by kernel_rfl, by kernel_rfl, by kernel_rfl, by kernel_rfl, by kernel_rfl⟩, ⟨by kernel_rfl, by kernel_rfl, by kernel_rfl, by kernel_rfl, by kernel_rfl⟩, ⟨by kernel_rfl, by kernel_rfl, by kernel_rfl, by kernel_rfl, by kernel_rfl⟩, ⟨by kernel_rfl, by kernel_rfl, by kernel_rfl, by kernel_rfl, by kernel_rfl⟩, ⟨by kernel_rfl, by kernel_rfl, by kernel_rfl, by kernel_rfl, by kernel_rfl⟩, ⟨by kernel_rfl, by kernel_rfl, by kernel_rfl, by kernel_rfl, by kernel_rfl⟩, ⟨by kernel_rfl, by kernel_rfl, by kernel_rfl, by kernel_rfl, by kernel_rfl⟩, trivial⟩

/- 5: loop.example/g01166/laws.szLog -/
abbrev As_laws_szLog : List ATy := [.data true T_Log, .data false (.int .i64)]
abbrev R_laws_szLog : List (Bool × Ty) := [(false, (.int .i64))]
abbrev M_laws_szLog : List RMode := []
abbrev Ft_laws_szLog : Type := D_Log × Int × Unit → Option (Int × Unit)
noncomputable def X_laws_szLog (n : Nat) : Ctx := { types := TT, globals := [], con := [], keep := [], results := [.tmp 4], ntmps := 20, n := n }
noncomputable def B_laws_szLog : Code := (Tryd.f5.body).getD .skip
theorem e_laws_szLog (n : Nat) (a0 : D_Log) (a1 : Int) : runF (X_laws_szLog n) B_laws_szLog As_laws_szLog R_laws_szLog M_laws_szLog (a0, a1, ()) = 
  bif decide ((IntKind.wrap .i64 (a1 - (List.length a0.1 : Int))) < 0) then
    some ((-1), ())
  else
    bif decide ((IntKind.wrap .i64 ((IntKind.wrap .i64 (a1 - (List.length a0.1 : Int))) - (List.length a0.2.1 : Int))) < 0) then
      some ((-1), ())
    else
      some ((IntKind.wrap .i64 ((IntKind.wrap .i64 (a1 - (List.length a0.1 : Int))) - (List.length a0.2.1 : Int))), ()) := by kernel_rfl
noncomputable def P_laws_szLog : Ft_laws_szLog := hid (runF (X_laws_szLog N) B_laws_szLog As_laws_szLog R_laws_szLog M_laws_szLog)
theorem h_laws_szLog : P_laws_szLog = runF (X_laws_szLog N) B_laws_szLog As_laws_szLog R_laws_szLog M_laws_szLog := hid_eq _
noncomputable def C_laws_szLog : Contract := ⟨As_laws_szLog, R_laws_szLog, M_laws_szLog, P_laws_szLog⟩
theorem s_laws_szLog : Sound Tryd.prog GG 5 C_laws_szLog := by
  unfold C_laws_szLog; rw [h_laws_szLog]
  exact sound_of_run (fn := Tryd.f5) hmix hstable (tyOK_of ttOK) (hglob (X_laws_szLog N)) (conOK_of (X := X_laws_szLog N) trivial) (mconOK_of (X := X_laws_szLog N) trivial) (by kernel_rfl) (by kernel_rfl) (by kernel_rfl) (by kernel_rfl) (by kernel_rfl) (of_decide_eq_true (by kernel_rfl))
theorem p_laws_szLog (a0 : D_Log) (a1 : Int) : P_laws_szLog (a0, a1, ()) = 
  bif decide ((IntKind.wrap .i64 (a1 - (List.length a0.1 : Int))) < 0) then
    some ((-1), ())
  else
    bif decide ((IntKind.wrap .i64 ((IntKind.wrap .i64 (a1 - (List.length a0.1 : Int))) - (List.length a0.2.1 : Int))) < 0) then
      some ((-1), ())
    else
      some ((IntKind.wrap .i64 ((IntKind.wrap .i64 (a1 - (List.length a0.1 : Int))) - (List.length a0.2.1 : Int))), ()) := by
  rewrite [h_laws_szLog]
  exact e_laws_szLog N a0 a1

/- 41: loop.example/g01166/laws.szIntA3S -/
abbrev As_laws_szIntA3S : List ATy := [.data false (.sl T_A3), .data false (.int .i64)]
abbrev R_laws_szIntA3S : List (Bool × Ty) := [(false, (.int .i64))]
abbrev M_laws_szIntA3S : List RMode := []
abbrev Ft_laws_szIntA3S : Type := (List D_A3) × Int × Unit → Option (Int × Unit)
noncomputable def X_laws_szIntA3S (n : Nat) : Ctx := { types := TT, globals := [], con := [], keep := [], results := [.tmp 4], ntmps := 12, n := n }
noncomputable def B_laws_szIntA3S : Code := (Tryd.f41.body).getD .skip
theorem e_laws_szIntA3S (n : Nat) (a0 : List D_A3) (a1 : Int) : runF (X_laws_szIntA3S n) B_laws_szIntA3S As_laws_szIntA3S R_laws_szIntA3S M_laws_szIntA3S (a0, a1, ()) = 
  bif decide ((IntKind.wrap .i64 (a1 - (List.length a0 : Int))) < 0) then
    some ((-1), ())
  else
    some ((IntKind.wrap .i64 (a1 - (List.length a0 : Int))), ()) := by kernel_rfl
noncomputable def P_laws_szIntA3S : Ft_laws_szIntA3S := hid (runF (X_laws_szIntA3S N) B_laws_szIntA3S As_laws_szIntA3S R_laws_szIntA3S M_laws_szIntA3S)
theorem h_laws_szIntA3S : P_laws_szIntA3S = runF (X_laws_szIntA3S N) B_laws_szIntA3S As_laws_szIntA3S R_laws_szIntA3S M_laws_szIntA3S := hid_eq _
noncomputable def C_laws_szIntA3S : Contract := ⟨As_laws_szIntA3S, R_laws_szIntA3S, M_laws_szIntA3S, P_laws_szIntA3S⟩
theorem s_laws_szIntA3S : Sound Tryd.prog GG 41 C_laws_szIntA3S := by
  unfold C_laws_szIntA3S; rw [h_laws_szIntA3S]
  exact sound_of_run (fn := Tryd.f41) hmix hstable (tyOK_of ttOK) (hglob (X_laws_szIntA3S N)) (conOK_of (X := X_laws_szIntA3S N) trivial) (mconOK_of (X := X_laws_szIntA3S N) trivial) (by kernel_rfl) (by kernel_rfl) (by kernel_rfl) (by kernel_rfl) (by kernel_rfl) (of_decide_eq_true (by kernel_rfl))
theorem p_laws_szIntA3S (a0 : List D_A3) (a1 : Int) : P_laws_szIntA3S (a0, a1, ()) = 
  bif decide ((IntKind.wrap .i64 (a1 - (List.length a0 : Int))) < 0) then
    some ((-1), ())
  else
    some ((IntKind.wrap .i64 (a1 - (List.length a0 : Int))), ()) := by
  rewrite [h_laws_szIntA3S]
  exact e_laws_szIntA3S N a0 a1

/- 28: loop.example/g01166/laws.szHeap -/
abbrev As_laws_szHeap : List ATy := [.data true T_Heap, .data false (.int .i64)]
abbrev R_laws_szHeap : List (Bool × Ty) := [(false, (.int .i64))]
abbrev M_laws_szHeap : List RMode := []
abbrev Ft_laws_szHeap : Type := D_Heap × Int × Unit → Option (Int × Unit)
noncomputable def X_laws_szHeap (n : Nat) (F_laws_szIntA3S : Ft_laws_szIntA3S) : Ctx := { types := TT, globals := [], con := [(41, ⟨As_laws_szIntA3S, R_laws_szIntA3S, M_laws_szIntA3S, F_laws_szIntA3S⟩)], keep := [], results := [.tmp 4], ntmps := 12, n := n }
noncomputable def B_laws_szHeap : Code := (Tryd.f28.body).getD .skip
theorem e_laws_szHeap (n : Nat) (F_laws_szIntA3S : Ft_laws_szIntA3S) (a0 : D_Heap) (a1 : Int) : runF (X_laws_szHeap n F_laws_szIntA3S) B_laws_szHeap As_laws_szHeap R_laws_szHeap M_laws_szHeap (a0, a1, ()) = 
  Option.bind (F_laws_szIntA3S (a0.2.2.2.1, a1, ())) fun r0 =>
  bif decide (r0.1 < 0) then
    some ((-1), ())
  else
    some (r0.1, ()) := by kernel_rfl
noncomputable def P_laws_szHeap : Ft_laws_szHeap := hid (runF (X_laws_szHeap N P_laws_szIntA3S) B_laws_szHeap As_laws_szHeap R_laws_szHeap M_laws_szHeap)
theorem h_laws_szHeap : P_laws_szHeap = runF (X_laws_szHeap N P_laws_szIntA3S) B_laws_szHeap As_laws_szHeap R_laws_szHeap M_laws_szHeap := hid_eq _
noncomputable def C_laws_szHeap : Contract := ⟨As_laws_szHeap, R_laws_szHeap, M_laws_szHeap, P_laws_szHeap⟩
theorem s_laws_szHeap : Sound Tryd.prog GG 28 C_laws_szHeap := by
  unfold C_laws_szHeap; rw [h_laws_szHeap]
  exact sound_of_run (fn := Tryd.f28) hmix hstable (tyOK_of ttOK) (hglob (X_laws_szHeap N P_laws_szIntA3S)) (conOK_of (X := X_laws_szHeap N P_laws_szIntA3S) ⟨s_laws_szIntA3S, trivial⟩) (mconOK_of (X := X_laws_szHeap N P_laws_szIntA3S) trivial) (by kernel_rfl) (by kernel_rfl) (by kernel_rfl) (by kernel_rfl) (by kernel_rfl) (of_decide_eq_true (by kernel_rfl))
theorem p_laws_szHeap (a0 : D_Heap) (a1 : Int) : P_laws_szHeap (a0, a1, ()) = 
  Option.bind (P_laws_szIntA3S (a0.2.2.2.1, a1, ())) fun r0 =>
  bif decide (r0.1 < 0) then
    some ((-1), ())
  else
    some (r0.1, ()) := by
  rewrite [h_laws_szHeap]
  exact e_laws_szHeap N P_laws_szIntA3S a0 a1

/- 17: loop.example/g01166/laws.szBench -/
abbrev As_laws_szBench : List ATy := [.data true T_Bench, .data false (.int .i64)]
abbrev R_laws_szBench : List (Bool × Ty) := [(false, (.int .i64))]
abbrev M_laws_szBench : List RMode := []
abbrev Ft_laws_szBench : Type := D_Bench × Int × Unit → Option (Int × Unit)
noncomputable def X_laws_szBench (n : Nat) (F_laws_szHeap : Ft_laws_szHeap) : Ctx := { types := TT, globals := [], con := [(28, ⟨As_laws_szHeap, R_laws_szHeap, M_laws_szHeap, F_laws_szHeap⟩)], keep := [], results := [.tmp 4], ntmps := 12, n := n }
noncomputable def B_laws_szBench : Code := (Tryd.f17.body).getD .skip
theorem e_laws_szBench (n : Nat) (F_laws_szHeap : Ft_laws_szHeap) (a0 : D_Bench) (a1 : Int) : runF (X_laws_szBench n F_laws_szHeap) B_laws_szBench As_laws_szBench R_laws_szBench M_laws_szBench (a0, a1, ()) = 
  Option.bind (F_laws_szHeap (a0.1, a1, ())) fun r0 =>
  bif decide (r0.1 < 0) then
    some ((-1), ())
  else
    some (r0.1, ()) := by kernel_rfl
noncomputable def P_laws_szBench : Ft_laws_szBench := hid (runF (X_laws_szBench N P_laws_szHeap) B_laws_szBench As_laws_szBench R_laws_szBench M_laws_szBench)
theorem h_laws_szBench : P_laws_szBench = runF (X_laws_szBench N P_laws_szHeap) B_laws_szBench As_laws_szBench R_laws_szBench M_laws_szBench := hid_eq _
noncomputable def C_laws_szBench : Contract := ⟨As_laws_szBench, R_laws_szBench, M_laws_szBench, P_laws_szBench⟩
theorem s_laws_szBench : Sound Tryd.prog GG 17 C_laws_szBench := by
  unfold C_laws_szBench; rw [h_laws_szBench]
  exact sound_of_run (fn := Tryd.f17) hmix hstable (tyOK_of ttOK) (hglob (X_laws_szBench N P_laws_szHeap)) (conOK_of (X := X_laws_szBench N P_laws_szHeap) ⟨s_laws_szHeap, trivial⟩) (mconOK_of (X := X_laws_szBench N P_laws_szHeap) trivial) (by kernel_rfl) (by kernel_rfl) (by kernel_rfl) (by kernel_rfl) (by kernel_rfl) (of_decide_eq_true (by kernel_rfl))
theorem p_laws_szBench (a0 : D_Bench) (a1 : Int) : P_laws_szBench (a0, a1, ()) = 
  Option.bind (P_laws_szHeap (a0.1, a1, ())) fun r0 =>
  bif decide (r0.1 < 0) then
    some ((-1), ())
  else
    some (r0.1, ()) := by
  rewrite [h_laws_szBench]
  exact e_laws_szBench N P_laws_szHeap a0 a1

/- 9: loop.example/g01166/laws.szConsole -/
abbrev As_laws_szConsole : List ATy := [.data true T_Console, .data false (.int .i64)]
abbrev R_laws_szConsole : List (Bool × Ty) := [(false, (.int .i64))]
abbrev M_laws_szConsole : List RMode := []
abbrev Ft_laws_szConsole : Type := D_Console × Int × Unit → Option (Int × Unit)
noncomputable def X_laws_szConsole (n : Nat) (F_laws_szLog : Ft_laws_szLog) (F_laws_szBench : Ft_laws_szBench) : Ctx := { types := TT, globals := [], con := [(5, ⟨As_laws_szLog, R_laws_szLog, M_laws_szLog, F_laws_szLog⟩), (17, ⟨As_laws_szBench, R_laws_szBench, M_laws_szBench, F_laws_szBench⟩)], keep := [], results := [.tmp 4], ntmps := 18, n := n }
noncomputable def B_laws_szConsole : Code := (Tryd.f9.body).getD .skip
theorem e_laws_szConsole (n : Nat) (F_laws_szLog : Ft_laws_szLog) (F_laws_szBench : Ft_laws_szBench) (a0 : D_Console) (a1 : Int) : runF (X_laws_szConsole n F_laws_szLog F_laws_szBench) B_laws_szConsole As_laws_szConsole R_laws_szConsole M_laws_szConsole (a0, a1, ()) = 
  Option.bind (F_laws_szBench (a0.1, a1, ())) fun r0 =>
  bif decide (r0.1 < 0) then
    some ((-1), ())
  else
    Option.bind (F_laws_szLog (a0.2.1, r0.1, ())) fun r2 =>
    bif decide (r2.1 < 0) then
      some ((-1), ())
    else
      some (r2.1, ()) := by kernel_rfl
noncomputable def P_laws_szConsole : Ft_laws_szConsole := hid (runF (X_laws_szConsole N P_laws_szLog P_laws_szBench) B_laws_szConsole As_laws_szConsole R_laws_szConsole M_laws_szConsole)
theorem h_laws_szConsole : P_laws_szConsole = runF (X_laws_szConsole N P_laws_szLog P_laws_szBench) B_laws_szConsole As_laws_szConsole R_laws_szConsole M_laws_szConsole := hid_eq _
noncomputable def C_laws_szConsole : Contract := ⟨As_laws_szConsole, R_laws_szConsole, M_laws_szConsole, P_laws_szConsole⟩
theorem s_laws_szConsole : Sound Tryd.prog GG 9 C_laws_szConsole := by
  unfold C_laws_szConsole; rw [h_laws_szConsole]
  exact sound_of_run (fn := Tryd.f9) hmix hstable (tyOK_of ttOK) (hglob (X_laws_szConsole N P_laws_szLog P_laws_szBench)) (conOK_of (X := X_laws_szConsole N P_laws_szLog P_laws_szBench) ⟨s_laws_szLog, s_laws_szBench, trivial⟩) (mconOK_of (X := X_laws_szConsole N P_laws_szLog P_laws_szBench) trivial) (by kernel_rfl) (by kernel_rfl) (by kernel_rfl) (by kernel_rfl) (by kernel_rfl) (of_decide_eq_true (by kernel_rfl))
theorem p_laws_szConsole (a0 : D_Console) (a1 : Int) : P_laws_szConsole (a0, a1, ()) = 
  Option.bind (P_laws_szBench (a0.1, a1, ())) fun r0 =>
  bif decide (r0.1 < 0) then
    some ((-1), ())
  else
    Option.bind (P_laws_szLog (a0.2.1, r0.1, ())) fun r2 =>
    bif decide (r2.1 < 0) then
      some ((-1), ())
    else
      some (r2.1, ()) := by
  rewrite [h_laws_szConsole]
  exact e_laws_szConsole N P_laws_szLog P_laws_szBench a0 a1

/- 35: loop.example/g01166/spec.l1Split -/
abbrev As_spec_l1Split : List ATy := [.data false .str, .data false (.int .u8)]
abbrev R_spec_l1Split : List (Bool × Ty) := [(false, (.sl .str))]
abbrev M_spec_l1Split : List RMode := [.own 9]
abbrev Ft_spec_l1Split : Type := (List UInt8) × Int × Unit → Option ((List (List UInt8)) × Unit)
noncomputable def X_spec_l1Split (n : Nat) : Ctx := { types := TT, globals := [], con := [], keep := [(4, ⟨[.tmp 0, .tmp 1, .tmp 5, .tmp 6, .tmp 7], []⟩)], results := [.tmp 4], ntmps := 35, n := n }
noncomputable def B_spec_l1Split : Code := (Tryd.f35.body).getD .skip
noncomputable def L_spec_l1Split_4 (n : Nat) (m0 : Nat) (p0 : List UInt8) (p1 : Int) (p2 : List (List UInt8)) (p3 : Int) (p4 : Int) : Option (denL R_spec_l1Split) := loopF (X_spec_l1Split n) B_spec_l1Split R_spec_l1Split M_spec_l1Split 4 [m0] [(.ver, .num 1), (.tmp 0, .val false [.str p0]), (.tmp 1, .val false [.int .u8 p1]), (.tmp 5, .val false [.own 9 .str 0 p2]), (.tmp 6, .val false [.int .i64 p3]), (.tmp 7, .val false [.int .i64 p4])]
theorem e_spec_l1Split (n : Nat) (a0 : List UInt8) (a1 : Int) : runF (X_spec_l1Split n) B_spec_l1Split As_spec_l1Split R_spec_l1Split M_spec_l1Split (a0, a1, ()) = 
  L_spec_l1Split_4 n n a0 a1 ([] : List (List UInt8)) 0 0 := by kernel_rfl
theorem e_spec_l1Split_4 (n : Nat) (m0 : Nat) (p0 : List UInt8) (p1 : Int) (p2 : List (List UInt8)) (p3 : Int) (p4 : Int) : L_spec_l1Split_4 n (m0 + 1) p0 p1 p2 p3 p4 = 
  bif decide (p4 < (List.length p0 : Int)) then
    bif inB p4 (List.length p0) then
      bif decide ((byteAt p0 p4) = p1) then
        bif (decide ((0 : Int) ≤ p3) && decide (p3 ≤ p4) && decide (p4 ≤ (List.length p0 : Int))) then
          bif (decide (((List.length p2) + (List.length ([(cut p0 p3 p4)] : List (List UInt8)))) * 16 ≤ 140737488355328) && decide (((List.length p2) + (List.length ([(cut p0 p3 p4)] : List (List UInt8)))) ≤ 140737488355328)) then
            L_spec_l1Split_4 n m0 p0 p1 (p2 ++ ([(cut p0 p3 p4)] : List (List UInt8))) (IntKind.wrap .i64 (p4 + 1)) (IntKind.wrap .i64 (p4 + 1))
          else none
        else none
      else
        L_spec_l1Split_4 n m0 p0 p1 p2 p3 (IntKind.wrap .i64 (p4 + 1))
    else none
  else
    bif (decide ((0 : Int) ≤ p3) && decide (p3 ≤ (List.length p0 : Int)) && decide ((List.length p0 : Int) ≤ (List.length p0 : Int))) then
      bif (decide (((List.length p2) + (List.length ([(cut p0 p3 (List.length p0 : Int))] : List (List UInt8)))) * 16 ≤ 140737488355328) && decide (((List.length p2) + (List.length ([(cut p0 p3 (List.length p0 : Int))] : List (List UInt8)))) ≤ 140737488355328)) then
        some ((p2 ++ ([(cut p0 p3 (List.length p0 : Int))] : List (List UInt8))), ())
      else none
    else none := by kernel_rfl
noncomputable def P_spec_l1Split : Ft_spec_l1Split := hid (runF (X_spec_l1Split N) B_spec_l1Split As_spec_l1Split R_spec_l1Split M_spec_l1Split)
theorem h_spec_l1Split : P_spec_l1Split = runF (X_spec_l1Split N) B_spec_l1Split As_spec_l1Split R_spec_l1Split M_spec_l1Split := hid_eq _
noncomputable def C_spec_l1Split : Contract := ⟨As_spec_l1Split, R_spec_l1Split, M_spec_l1Split, P_spec_l1Split⟩
theorem s_spec_l1Split : Sound Tryd.prog GG 35 C_spec_l1Split := by
  unfold C_spec_l1Split; rw [h_spec_l1Split]
  exact sound_of_run (fn := Tryd.f35) hmix hstable (tyOK_of ttOK) (hglob (X_spec_l1Split N)) (conOK_of (X := X_spec_l1Split N) trivial) (mconOK_of (X := X_spec_l1Split N) trivial) (by kernel_rfl) (by kernel_rfl) (by kernel_rfl) (by kernel_rfl) (by kernel_rfl) (of_decide_eq_true (by kernel_rfl))
noncomputable def l_spec_l1Split_4 : Nat → (List UInt8) → Int → (List (List UInt8)) → Int → Int → Option (denL R_spec_l1Split) := hid (fun m0 p0 p1 p2 p3 p4 => L_spec_l1Split_4 N m0 p0 p1 p2 p3 p4)
theorem h_spec_l1Split_4 : l_spec_l1Split_4 = fun m0 p0 p1 p2 p3 p4 => L_spec_l1Split_4 N m0 p0 p1 p2 p3 p4 := hid_eq _
theorem p_spec_l1Split (a0 : List UInt8) (a1 : Int) : P_spec_l1Split (a0, a1, ()) = 
  l_spec_l1Split_4 N a0 a1 ([] : List (List UInt8)) 0 0 := by
  rewrite [h_spec_l1Split, h_spec_l1Split_4]
  exact e_spec_l1Split N a0 a1
theorem q_spec_l1Split_4 (m0 : Nat) (p0 : List UInt8) (p1 : Int) (p2 : List (List UInt8)) (p3 : Int) (p4 : Int) : l_spec_l1Split_4 (m0 + 1) p0 p1 p2 p3 p4 = 
  bif decide (p4 < (List.length p0 : Int)) then
    bif inB p4 (List.length p0) then
      bif decide ((byteAt p0 p4) = p1) then
        bif (decide ((0 : Int) ≤ p3) && decide (p3 ≤ p4) && decide (p4 ≤ (List.length p0 : Int))) then
          bif (decide (((List.length p2) + (List.length ([(cut p0 p3 p4)] : List (List UInt8)))) * 16 ≤ 140737488355328) && decide (((List.length p2) + (List.length ([(cut p0 p3 p4)] : List (List UInt8)))) ≤ 140737488355328)) then
            l_spec_l1Split_4 m0 p0 p1 (p2 ++ ([(cut p0 p3 p4)] : List (List UInt8))) (IntKind.wrap .i64 (p4 + 1)) (IntKind.wrap .i64 (p4 + 1))
          else none
        else none
      else
        l_spec_l1Split_4 m0 p0 p1 p2 p3 (IntKind.wrap .i64 (p4 + 1))
    else none
  else
    bif (decide ((0 : Int) ≤ p3) && decide (p3 ≤ (List.length p0 : Int)) && decide ((List.length p0 : Int) ≤ (List.length p0 : Int))) then
      bif (decide (((List.length p2) + (List.length ([(cut p0 p3 (List.length p0 : Int))] : List (List UInt8)))) * 16 ≤ 140737488355328) && decide (((List.length p2) + (List.length ([(cut p0 p3 (List.length p0 : Int))] : List (List UInt8)))) ≤ 140737488355328)) then
        some ((p2 ++ ([(cut p0 p3 (List.length p0 : Int))] : List (List UInt8))), ())
      else none
    else none := by
  rewrite [h_spec_l1Split_4]
  exact e_spec_l1Split_4 N m0 p0 p1 p2 p3 p4

/- 51: loop.example/g01166/spec.l1Num -/
abbrev As_spec_l1Num : List ATy := [.data false (.int .i64)]
abbrev R_spec_l1Num : List (Bool × Ty) := [(false, .str)]
abbrev M_spec_l1Num : List RMode := []
abbrev Ft_spec_l1Num : Type := Int × Unit → Option ((List UInt8) × Unit)
noncomputable def X_spec_l1Num (n : Nat) (F_spec_l1Num : Ft_spec_l1Num) : Ctx := { types := TT, globals := [], con := [(51, ⟨As_spec_l1Num, R_spec_l1Num, M_spec_l1Num, F_spec_l1Num⟩)], keep := [], results := [.tmp 2], ntmps := 25, n := n }
noncomputable def B_spec_l1Num : Code := (Tryd.f51.body).getD .skip
theorem e_spec_l1Num (n : Nat) (F_spec_l1Num : Ft_spec_l1Num) (a0 : Int) : runF (X_spec_l1Num n F_spec_l1Num) B_spec_l1Num As_spec_l1Num R_spec_l1Num M_spec_l1Num (a0, ()) = 
  bif decide (a0 < 0) then
    Option.bind (F_spec_l1Num ((IntKind.wrap .i64 (0 - a0)), ())) fun r1 =>
    Option.bind (catS ([45] : List UInt8) r1.1) fun r2 =>
    some (r2, ())
  else
    bif decide (a0 < 10) then
      bif (decide ((0 : Int) ≤ a0) && decide (a0 ≤ (IntKind.wrap .i64 (a0 + 1))) && decide ((IntKind.wrap .i64 (a0 + 1)) ≤ 10)) then
        some ((cut ([48, 49, 50, 51, 52, 53, 54, 55, 56, 57] : List UInt8) a0 (IntKind.wrap .i64 (a0 + 1))), ())
      else none
    else
      Option.bind (F_spec_l1Num ((IntKind.wrap .i64 (Int.tdiv a0 10)), ())) fun r2 =>
      bif (decide ((0 : Int) ≤ (Int.tmod a0 10)) && decide ((Int.tmod a0 10) ≤ (IntKind.wrap .i64 ((Int.tmod a0 10) + 1))) && decide ((IntKind.wrap .i64 ((Int.tmod a0 10) + 1)) ≤ 10)) then
        Option.bind (catS r2.1 (cut ([48, 49, 50, 51, 52, 53, 54, 55, 56, 57] : List UInt8) (Int.tmod a0 10) (IntKind.wrap .i64 ((Int.tmod a0 10) + 1)))) fun r4 =>
        some (r4, ())
      else none := by kernel_rfl
noncomputable def Pk_spec_l1Num : Nat → Ft_spec_l1Num
  | 0 => fun _ => none
  | k + 1 => runF (X_spec_l1Num N (Pk_spec_l1Num k)) B_spec_l1Num As_spec_l1Num R_spec_l1Num M_spec_l1Num
theorem sk_spec_l1Num : ∀ k, Sound Tryd.prog GG 51 ⟨As_spec_l1Num, R_spec_l1Num, M_spec_l1Num, Pk_spec_l1Num k⟩
  | 0 => sound_none
  | k + 1 => by
    have ih := sk_spec_l1Num k
    exact sound_of_run (fn := Tryd.f51) hmix hstable (tyOK_of ttOK) (hglob (X_spec_l1Num N (Pk_spec_l1Num k))) (conOK_of (X := X_spec_l1Num N (Pk_spec_l1Num k)) ⟨ih, trivial⟩) (mconOK_of (X := X_spec_l1Num N (Pk_spec_l1Num k)) trivial) (by kernel_rfl) (by kernel_rfl) (by kernel_rfl) (by kernel_rfl) (by kernel_rfl) (of_decide_eq_true (by kernel_rfl))
noncomputable def P_spec_l1Num : Ft_spec_l1Num := Pk_spec_l1Num N
noncomputable def C_spec_l1Num : Contract := ⟨As_spec_l1Num, R_spec_l1Num, M_spec_l1Num, P_spec_l1Num⟩
theorem s_spec_l1Num : Sound Tryd.prog GG 51 C_spec_l1Num := sk_spec_l1Num N
theorem p_spec_l1Num (k : Nat) (a0 : Int) : Pk_spec_l1Num (k + 1) (a0, ()) = 
  bif decide (a0 < 0) then
    Option.bind (Pk_spec_l1Num k ((IntKind.wrap .i64 (0 - a0)), ())) fun r1 =>
    Option.bind (catS ([45] : List UInt8) r1.1) fun r2 =>
    some (r2, ())
  else
    bif decide (a0 < 10) then
      bif (decide ((0 : Int) ≤ a0) && decide (a0 ≤ (IntKind.wrap .i64 (a0 + 1))) && decide ((IntKind.wrap .i64 (a0 + 1)) ≤ 10)) then
        some ((cut ([48, 49, 50, 51, 52, 53, 54, 55, 56, 57] : List UInt8) a0 (IntKind.wrap .i64 (a0 + 1))), ())
      else none
    else
      Option.bind (Pk_spec_l1Num k ((IntKind.wrap .i64 (Int.tdiv a0 10)), ())) fun r2 =>
      bif (decide ((0 : Int) ≤ (Int.tmod a0 10)) && decide ((Int.tmod a0 10) ≤ (IntKind.wrap .i64 ((Int.tmod a0 10) + 1))) && decide ((IntKind.wrap .i64 ((Int.tmod a0 10) + 1)) ≤ 10)) then
        Option.bind (catS r2.1 (cut ([48, 49, 50, 51, 52, 53, 54, 55, 56, 57] : List UInt8) (Int.tmod a0 10) (IntKind.wrap .i64 ((Int.tmod a0 10) + 1)))) fun r4 =>
        some (r4, ())
      else none := by
  exact e_spec_l1Num N (Pk_spec_l1Num k) a0

/- 30: loop.example/g01166/spec.l1In -/
abbrev As_spec_l1In : List ATy := [.data false (.int .i64), .data false (.int .i64), .data false (.int .i64)]
abbrev R_spec_l1In : List (Bool × Ty) := [(false, .bool)]
abbrev M_spec_l1In : List RMode := []
abbrev Ft_spec_l1In : Type := Int × Int × Int × Unit → Option (Bool × Unit)
noncomputable def X_spec_l1In (n : Nat) : Ctx := { types := TT, globals := [], con := [], keep := [], results := [.tmp 6], ntmps := 15, n := n }
noncomputable def B_spec_l1In : Code := (Tryd.f30.body).getD .skip
theorem e_spec_l1In (n : Nat) (a0 : Int) (a1 : Int) (a2 : Int) : runF (X_spec_l1In n) B_spec_l1In As_spec_l1In R_spec_l1In M_spec_l1In (a0, a1, a2, ()) = 
  bif decide (a0 ≥ a1) then
    some (decide (a0 ≤ a2), ())
  else
    some (false, ()) := by kernel_rfl
noncomputable def P_spec_l1In : Ft_spec_l1In := hid (runF (X_spec_l1In N) B_spec_l1In As_spec_l1In R_spec_l1In M_spec_l1In)
theorem h_spec_l1In : P_spec_l1In = runF (X_spec_l1In N) B_spec_l1In As_spec_l1In R_spec_l1In M_spec_l1In := hid_eq _
noncomputable def C_spec_l1In : Contract := ⟨As_spec_l1In, R_spec_l1In, M_spec_l1In, P_spec_l1In⟩
theorem s_spec_l1In : Sound Tryd.prog GG 30 C_spec_l1In := by
  unfold C_spec_l1In; rw [h_spec_l1In]
  exact sound_of_run (fn := Tryd.f30) hmix hstable (tyOK_of ttOK) (hglob (X_spec_l1In N)) (conOK_of (X := X_spec_l1In N) trivial) (mconOK_of (X := X_spec_l1In N) trivial) (by kernel_rfl) (by kernel_rfl) (by kernel_rfl) (by kernel_rfl) (by kernel_rfl) (of_decide_eq_true (by kernel_rfl))
theorem p_spec_l1In (a0 : Int) (a1 : Int) (a2 : Int) : P_spec_l1In (a0, a1, a2, ()) = 
  bif decide (a0 ≥ a1) then
    some (decide (a0 ≤ a2), ())
  else
    some (false, ()) := by
  rewrite [h_spec_l1In]
  exact e_spec_l1In N a0 a1 a2

/- 63: loop.example/g01166/spec.l12Bytes -/
abbrev As_spec_l12Bytes : List ATy := [.data false .str, .data false (.int .i64)]
abbrev R_spec_l12Bytes : List (Bool × Ty) := [(false, .bool)]
abbrev M_spec_l12Bytes : List RMode := []
abbrev Ft_spec_l12Bytes : Type := (List UInt8) × Int × Unit → Option (Bool × Unit)
noncomputable def X_spec_l12Bytes (n : Nat) (F_spec_l1In : Ft_spec_l1In) : Ctx := { types := TT, globals := [], con := [(30, ⟨As_spec_l1In, R_spec_l1In, M_spec_l1In, F_spec_l1In⟩)], keep := [(2, ⟨[.tmp 0, .tmp 1, .tmp 5], []⟩)], results := [.tmp 4], ntmps := 28, n := n }
noncomputable def B_spec_l12Bytes : Code := (Tryd.f63.body).getD .skip
noncomputable def L_spec_l12Bytes_2 (n : Nat) (F_spec_l1In : Ft_spec_l1In) (m0 : Nat) (p0 : List UInt8) (p1 : Int) (p2 : Int) : Option (denL R_spec_l12Bytes) := loopF (X_spec_l12Bytes n F_spec_l1In) B_spec_l12Bytes R_spec_l12Bytes M_spec_l12Bytes 2 [m0] [(.ver, .num 1), (.tmp 0, .val false [.str p0]), (.tmp 1, .val false [.int .i64 p1]), (.tmp 5, .val false [.int .i64 p2])]
theorem e_spec_l12Bytes (n : Nat) (F_spec_l1In : Ft_spec_l1In) (a0 : List UInt8) (a1 : Int) : runF (X_spec_l12Bytes n F_spec_l1In) B_spec_l12Bytes As_spec_l12Bytes R_spec_l12Bytes M_spec_l12Bytes (a0, a1, ()) = 
  L_spec_l12Bytes_2 n F_spec_l1In n a0 a1 0 := by kernel_rfl
theorem e_spec_l12Bytes_2 (n : Nat) (F_spec_l1In : Ft_spec_l1In) (m0 : Nat) (p0 : List UInt8) (p1 : Int) (p2 : Int) : L_spec_l12Bytes_2 n F_spec_l1In (m0 + 1) p0 p1 p2 = 
  bif decide (p2 < (List.length p0 : Int)) then
    bif inB p2 (List.length p0) then
      Option.bind (F_spec_l1In ((IntKind.wrap .i64 (byteAt p0 p2)), 32, 126, ())) fun r2 =>
      bif !r2.1 then
        some (false, ())
      else
        bif inB p2 (List.length p0) then
          bif decide ((byteAt p0 p2) = 35) then
            some (false, ())
          else
            L_spec_l12Bytes_2 n F_spec_l1In m0 p0 p1 (IntKind.wrap .i64 (p2 + 1))
        else none
    else none
  else
    some (decide ((List.length p0 : Int) ≤ p1), ()) := by kernel_rfl
noncomputable def P_spec_l12Bytes : Ft_spec_l12Bytes := hid (runF (X_spec_l12Bytes N P_spec_l1In) B_spec_l12Bytes As_spec_l12Bytes R_spec_l12Bytes M_spec_l12Bytes)
theorem h_spec_l12Bytes : P_spec_l12Bytes = runF (X_spec_l12Bytes N P_spec_l1In) B_spec_l12Bytes As_spec_l12Bytes R_spec_l12Bytes M_spec_l12Bytes := hid_eq _
noncomputable def C_spec_l12Bytes : Contract := ⟨As_spec_l12Bytes, R_spec_l12Bytes, M_spec_l12Bytes, P_spec_l12Bytes⟩
theorem s_spec_l12Bytes : Sound Tryd.prog GG 63 C_spec_l12Bytes := by
  unfold C_spec_l12Bytes; rw [h_spec_l12Bytes]
  exact sound_of_run (fn := Tryd.f63) hmix hstable (tyOK_of ttOK) (hglob (X_spec_l12Bytes N P_spec_l1In)) (conOK_of (X := X_spec_l12Bytes N P_spec_l1In) ⟨s_spec_l1In, trivial⟩) (mconOK_of (X := X_spec_l12Bytes N P_spec_l1In) trivial) (by kernel_rfl) (by kernel_rfl) (by kernel_rfl) (by kernel_rfl) (by kernel_rfl) (of_decide_eq_true (by kernel_rfl))
noncomputable def l_spec_l12Bytes_2 : Nat → (List UInt8) → Int → Int → Option (denL R_spec_l12Bytes) := hid (fun m0 p0 p1 p2 => L_spec_l12Bytes_2 N P_spec_l1In m0 p0 p1 p2)
theorem h_spec_l12Bytes_2 : l_spec_l12Bytes_2 = fun m0 p0 p1 p2 => L_spec_l12Bytes_2 N P_spec_l1In m0 p0 p1 p2 := hid_eq _
theorem p_spec_l12Bytes (a0 : List UInt8) (a1 : Int) : P_spec_l12Bytes (a0, a1, ()) = 
  l_spec_l12Bytes_2 N a0 a1 0 := by
  rewrite [h_spec_l12Bytes, h_spec_l12Bytes_2]
  exact e_spec_l12Bytes N P_spec_l1In a0 a1
theorem q_spec_l12Bytes_2 (m0 : Nat) (p0 : List UInt8) (p1 : Int) (p2 : Int) : l_spec_l12Bytes_2 (m0 + 1) p0 p1 p2 = 
  bif decide (p2 < (List.length p0 : Int)) then
    bif inB p2 (List.length p0) then
      Option.bind (P_spec_l1In ((IntKind.wrap .i64 (byteAt p0 p2)), 32, 126, ())) fun r2 =>
      bif !r2.1 then
        some (false, ())
      else
        bif inB p2 (List.length p0) then
          bif decide ((byteAt p0 p2) = 35) then
            some (false, ())
          else
            l_spec_l12Bytes_2 m0 p0 p1 (IntKind.wrap .i64 (p2 + 1))
        else none
    else none
  else
    some (decide ((List.length p0 : Int) ≤ p1), ()) := by
  rewrite [h_spec_l12Bytes_2]
  exact e_spec_l12Bytes_2 N P_spec_l1In m0 p0 p1 p2

/- 64: loop.example/g01166/spec.l1Stands -/
abbrev As_spec_l1Stands : List ATy := [.data false .str, .data false (.int .u8)]
abbrev R_spec_l1Stands : List (Bool × Ty) := [(false, .bool)]
abbrev M_spec_l1Stands : List RMode := []
abbrev Ft_spec_l1Stands : Type := (List UInt8) × Int × Unit → Option (Bool × Unit)
noncomputable def X_spec_l1Stands (n : Nat) : Ctx := { types := TT, globals := [], con := [], keep := [(2, ⟨[.tmp 0, .tmp 1, .tmp 5], []⟩)], results := [.tmp 4], ntmps := 17, n := n }
noncomputable def B_spec_l1Stands : Code := (Tryd.f64.body).getD .skip
noncomputable def L_spec_l1Stands_2 (n : Nat) (m0 : Nat) (p0 : List UInt8) (p1 : Int) (p2 : Int) : Option (denL R_spec_l1Stands) := loopF (X_spec_l1Stands n) B_spec_l1Stands R_spec_l1Stands M_spec_l1Stands 2 [m0] [(.ver, .num 1), (.tmp 0, .val false [.str p0]), (.tmp 1, .val false [.int .u8 p1]), (.tmp 5, .val false [.int .i64 p2])]
theorem e_spec_l1Stands (n : Nat) (a0 : List UInt8) (a1 : Int) : runF (X_spec_l1Stands n) B_spec_l1Stands As_spec_l1Stands R_spec_l1Stands M_spec_l1Stands (a0, a1, ()) = 
  L_spec_l1Stands_2 n n a0 a1 0 := by kernel_rfl
theorem e_spec_l1Stands_2 (n : Nat) (m0 : Nat) (p0 : List UInt8) (p1 : Int) (p2 : Int) : L_spec_l1Stands_2 n (m0 + 1) p0 p1 p2 = 
  bif decide (p2 < (List.length p0 : Int)) then
    bif inB p2 (List.length p0) then
      bif decide ((byteAt p0 p2) = p1) then
        some (true, ())
      else
        L_spec_l1Stands_2 n m0 p0 p1 (IntKind.wrap .i64 (p2 + 1))
    else none
  else
    some (false, ()) := by kernel_rfl
noncomputable def P_spec_l1Stands : Ft_spec_l1Stands := hid (runF (X_spec_l1Stands N) B_spec_l1Stands As_spec_l1Stands R_spec_l1Stands M_spec_l1Stands)
theorem h_spec_l1Stands : P_spec_l1Stands = runF (X_spec_l1Stands N) B_spec_l1Stands As_spec_l1Stands R_spec_l1Stands M_spec_l1Stands := hid_eq _
noncomputable def C_spec_l1Stands : Contract := ⟨As_spec_l1Stands, R_spec_l1Stands, M_spec_l1Stands, P_spec_l1Stands⟩
theorem s_spec_l1Stands : Sound Tryd.prog GG 64 C_spec_l1Stands := by
  unfold C_spec_l1Stands; rw [h_spec_l1Stands]
  exact sound_of_run (fn := Tryd.f64) hmix hstable (tyOK_of ttOK) (hglob (X_spec_l1Stands N)) (conOK_of (X := X_spec_l1Stands N) trivial) (mconOK_of (X := X_spec_l1Stands N) trivial) (by kernel_rfl) (by kernel_rfl) (by kernel_rfl) (by kernel_rfl) (by kernel_rfl) (of_decide_eq_true (by kernel_rfl))
noncomputable def l_spec_l1Stands_2 : Nat → (List UInt8) → Int → Int → Option (denL R_spec_l1Stands) := hid (fun m0 p0 p1 p2 => L_spec_l1Stands_2 N m0 p0 p1 p2)
theorem h_spec_l1Stands_2 : l_spec_l1Stands_2 = fun m0 p0 p1 p2 => L_spec_l1Stands_2 N m0 p0 p1 p2 := hid_eq _
theorem p_spec_l1Stands (a0 : List UInt8) (a1 : Int) : P_spec_l1Stands (a0, a1, ()) = 
  l_spec_l1Stands_2 N a0 a1 0 := by
  rewrite [h_spec_l1Stands, h_spec_l1Stands_2]
  exact e_spec_l1Stands N a0 a1
theorem q_spec_l1Stands_2 (m0 : Nat) (p0 : List UInt8) (p1 : Int) (p2 : Int) : l_spec_l1Stands_2 (m0 + 1) p0 p1 p2 = 
  bif decide (p2 < (List.length p0 : Int)) then
    bif inB p2 (List.length p0) then
      bif decide ((byteAt p0 p2) = p1) then
        some (true, ())
      else
        l_spec_l1Stands_2 m0 p0 p1 (IntKind.wrap .i64 (p2 + 1))
    else none
  else
    some (false, ()) := by
  rewrite [h_spec_l1Stands_2]
  exact e_spec_l1Stands_2 N m0 p0 p1 p2

/- 52: loop.example/g01166/spec.l12Record -/
abbrev As_spec_l12Record : List ATy := [.data true T_LogRecord]
abbrev R_spec_l12Record : List (Bool × Ty) := [(false, .bool)]
abbrev M_spec_l12Record : List RMode := []
abbrev Ft_spec_l12Record : Type := D_LogRecord × Unit → Option (Bool × Unit)
noncomputable def X_spec_l12Record (n : Nat) (F_spec_l12Bytes : Ft_spec_l12Bytes) (F_spec_l1Stands : Ft_spec_l1Stands) : Ctx := { types := TT, globals := [], con := [(63, ⟨As_spec_l12Bytes, R_spec_l12Bytes, M_spec_l12Bytes, F_spec_l12Bytes⟩), (64, ⟨As_spec_l1Stands, R_spec_l1Stands, M_spec_l1Stands, F_spec_l1Stands⟩)], keep := [], results := [.tmp 2], ntmps := 22, n := n }
noncomputable def B_spec_l12Record : Code := (Tryd.f52.body).getD .skip
theorem e_spec_l12Record (n : Nat) (F_spec_l12Bytes : Ft_spec_l12Bytes) (F_spec_l1Stands : Ft_spec_l1Stands) (a0 : D_LogRecord) : runF (X_spec_l12Record n F_spec_l12Bytes F_spec_l1Stands) B_spec_l12Record As_spec_l12Record R_spec_l12Record M_spec_l12Record (a0, ()) = 
  bif !(a0.1 == ([] : List UInt8)) then
    Option.bind (F_spec_l12Bytes (a0.1, 160, ())) fun r1 =>
    bif r1.1 then
      Option.bind (F_spec_l1Stands (a0.1, 64, ())) fun r3 =>
      bif !r3.1 then
        Option.bind (F_spec_l12Bytes (a0.2.1, 300, ())) fun r5 =>
        some (r5.1, ())
      else
        some (false, ())
    else
      some (false, ())
  else
    some (false, ()) := by kernel_rfl
noncomputable def P_spec_l12Record : Ft_spec_l12Record := hid (runF (X_spec_l12Record N P_spec_l12Bytes P_spec_l1Stands) B_spec_l12Record As_spec_l12Record R_spec_l12Record M_spec_l12Record)
theorem h_spec_l12Record : P_spec_l12Record = runF (X_spec_l12Record N P_spec_l12Bytes P_spec_l1Stands) B_spec_l12Record As_spec_l12Record R_spec_l12Record M_spec_l12Record := hid_eq _
noncomputable def C_spec_l12Record : Contract := ⟨As_spec_l12Record, R_spec_l12Record, M_spec_l12Record, P_spec_l12Record⟩
theorem s_spec_l12Record : Sound Tryd.prog GG 52 C_spec_l12Record := by
  unfold C_spec_l12Record; rw [h_spec_l12Record]
  exact sound_of_run (fn := Tryd.f52) hmix hstable (tyOK_of ttOK) (hglob (X_spec_l12Record N P_spec_l12Bytes P_spec_l1Stands)) (conOK_of (X := X_spec_l12Record N P_spec_l12Bytes P_spec_l1Stands) ⟨s_spec_l12Bytes, s_spec_l1Stands, trivial⟩) (mconOK_of (X := X_spec_l12Record N P_spec_l12Bytes P_spec_l1Stands) trivial) (by kernel_rfl) (by kernel_rfl) (by kernel_rfl) (by kernel_rfl) (by kernel_rfl) (of_decide_eq_true (by kernel_rfl))
theorem p_spec_l12Record (a0 : D_LogRecord) : P_spec_l12Record (a0, ()) = 
  bif !(a0.1 == ([] : List UInt8)) then
    Option.bind (P_spec_l12Bytes (a0.1, 160, ())) fun r1 =>
    bif r1.1 then
      Option.bind (P_spec_l1Stands (a0.1, 64, ())) fun r3 =>
      bif !r3.1 then
        Option.bind (P_spec_l12Bytes (a0.2.1, 300, ())) fun r5 =>
        some (r5.1, ())
      else
        some (false, ())
    else
      some (false, ())
  else
    some (false, ()) := by
  rewrite [h_spec_l12Record]
  exact e_spec_l12Record N P_spec_l12Bytes P_spec_l1Stands a0

/- 74: loop.example/g01166/spec.l1Sum -/
abbrev As_spec_l1Sum : List ATy := [.data false .str]
abbrev R_spec_l1Sum : List (Bool × Ty) := [(false, (.int .i64))]
abbrev M_spec_l1Sum : List RMode := []
abbrev Ft_spec_l1Sum : Type := (List UInt8) × Unit → Option (Int × Unit)
noncomputable def X_spec_l1Sum (n : Nat) : Ctx := { types := TT, globals := [], con := [], keep := [(3, ⟨[.tmp 0, .tmp 3, .tmp 4], []⟩)], results := [.tmp 2], ntmps := 21, n := n }
noncomputable def B_spec_l1Sum : Code := (Tryd.f74.body).getD .skip
noncomputable def L_spec_l1Sum_3 (n : Nat) (m0 : Nat) (p0 : List UInt8) (p1 : Int) (p2 : Int) : Option (denL R_spec_l1Sum) := loopF (X_spec_l1Sum n) B_spec_l1Sum R_spec_l1Sum M_spec_l1Sum 3 [m0] [(.ver, .num 1), (.tmp 0, .val false [.str p0]), (.tmp 3, .val false [.int .i64 p1]), (.tmp 4, .val false [.int .i64 p2])]
theorem e_spec_l1Sum (n : Nat) (a0 : List UInt8) : runF (X_spec_l1Sum n) B_spec_l1Sum As_spec_l1Sum R_spec_l1Sum M_spec_l1Sum (a0, ()) = 
  L_spec_l1Sum_3 n n a0 7 0 := by kernel_rfl
theorem e_spec_l1Sum_3 (n : Nat) (m0 : Nat) (p0 : List UInt8) (p1 : Int) (p2 : Int) : L_spec_l1Sum_3 n (m0 + 1) p0 p1 p2 = 
  bif decide (p2 < (List.length p0 : Int)) then
    bif inB p2 (List.length p0) then
      L_spec_l1Sum_3 n m0 p0 (Int.tmod (IntKind.wrap .i64 ((IntKind.wrap .i64 ((IntKind.wrap .i64 (41 * p1)) + (IntKind.wrap .i64 (byteAt p0 p2)))) + 1)) 999979) (IntKind.wrap .i64 (p2 + 1))
    else none
  else
    some (p1, ()) := by kernel_rfl
noncomputable def P_spec_l1Sum : Ft_spec_l1Sum := hid (runF (X_spec_l1Sum N) B_spec_l1Sum As_spec_l1Sum R_spec_l1Sum M_spec_l1Sum)
theorem h_spec_l1Sum : P_spec_l1Sum = runF (X_spec_l1Sum N) B_spec_l1Sum As_spec_l1Sum R_spec_l1Sum M_spec_l1Sum := hid_eq _
noncomputable def C_spec_l1Sum : Contract := ⟨As_spec_l1Sum, R_spec_l1Sum, M_spec_l1Sum, P_spec_l1Sum⟩
theorem s_spec_l1Sum : Sound Tryd.prog GG 74 C_spec_l1Sum := by
  unfold C_spec_l1Sum; rw [h_spec_l1Sum]
  exact sound_of_run (fn := Tryd.f74) hmix hstable (tyOK_of ttOK) (hglob (X_spec_l1Sum N)) (conOK_of (X := X_spec_l1Sum N) trivial) (mconOK_of (X := X_spec_l1Sum N) trivial) (by kernel_rfl) (by kernel_rfl) (by kernel_rfl) (by kernel_rfl) (by kernel_rfl) (of_decide_eq_true (by kernel_rfl))
noncomputable def l_spec_l1Sum_3 : Nat → (List UInt8) → Int → Int → Option (denL R_spec_l1Sum) := hid (fun m0 p0 p1 p2 => L_spec_l1Sum_3 N m0 p0 p1 p2)
theorem h_spec_l1Sum_3 : l_spec_l1Sum_3 = fun m0 p0 p1 p2 => L_spec_l1Sum_3 N m0 p0 p1 p2 := hid_eq _
theorem p_spec_l1Sum (a0 : List UInt8) : P_spec_l1Sum (a0, ()) = 
  l_spec_l1Sum_3 N a0 7 0 := by
  rewrite [h_spec_l1Sum, h_spec_l1Sum_3]
  exact e_spec_l1Sum N a0
theorem q_spec_l1Sum_3 (m0 : Nat) (p0 : List UInt8) (p1 : Int) (p2 : Int) : l_spec_l1Sum_3 (m0 + 1) p0 p1 p2 = 
  bif decide (p2 < (List.length p0 : Int)) then
    bif inB p2 (List.length p0) then
      l_spec_l1Sum_3 m0 p0 (Int.tmod (IntKind.wrap .i64 ((IntKind.wrap .i64 ((IntKind.wrap .i64 (41 * p1)) + (IntKind.wrap .i64 (byteAt p0 p2)))) + 1)) 999979) (IntKind.wrap .i64 (p2 + 1))
    else none
  else
    some (p1, ()) := by
  rewrite [h_spec_l1Sum_3]
  exact e_spec_l1Sum_3 N m0 p0 p1 p2

/- 65: loop.example/g01166/spec.l1Seal -/
abbrev As_spec_l1Seal : List ATy := [.data false .str]
abbrev R_spec_l1Seal : List (Bool × Ty) := [(false, .str)]
abbrev M_spec_l1Seal : List RMode := []
abbrev Ft_spec_l1Seal : Type := (List UInt8) × Unit → Option ((List UInt8) × Unit)
noncomputable def X_spec_l1Seal (n : Nat) (F_spec_l1Num : Ft_spec_l1Num) (F_spec_l1Sum : Ft_spec_l1Sum) : Ctx := { types := TT, globals := [], con := [(51, ⟨As_spec_l1Num, R_spec_l1Num, M_spec_l1Num, F_spec_l1Num⟩), (74, ⟨As_spec_l1Sum, R_spec_l1Sum, M_spec_l1Sum, F_spec_l1Sum⟩)], keep := [], results := [.tmp 2], ntmps := 9, n := n }
noncomputable def B_spec_l1Seal : Code := (Tryd.f65.body).getD .skip
theorem e_spec_l1Seal (n : Nat) (F_spec_l1Num : Ft_spec_l1Num) (F_spec_l1Sum : Ft_spec_l1Sum) (a0 : List UInt8) : runF (X_spec_l1Seal n F_spec_l1Num F_spec_l1Sum) B_spec_l1Seal As_spec_l1Seal R_spec_l1Seal M_spec_l1Seal (a0, ()) = 
  Option.bind (catS a0 ([35] : List UInt8)) fun r0 =>
  Option.bind (F_spec_l1Sum (a0, ())) fun r1 =>
  Option.bind (F_spec_l1Num (r1.1, ())) fun r2 =>
  Option.bind (catS r0 r2.1) fun r3 =>
  some (r3, ()) := by kernel_rfl
noncomputable def P_spec_l1Seal : Ft_spec_l1Seal := hid (runF (X_spec_l1Seal N P_spec_l1Num P_spec_l1Sum) B_spec_l1Seal As_spec_l1Seal R_spec_l1Seal M_spec_l1Seal)
theorem h_spec_l1Seal : P_spec_l1Seal = runF (X_spec_l1Seal N P_spec_l1Num P_spec_l1Sum) B_spec_l1Seal As_spec_l1Seal R_spec_l1Seal M_spec_l1Seal := hid_eq _
noncomputable def C_spec_l1Seal : Contract := ⟨As_spec_l1Seal, R_spec_l1Seal, M_spec_l1Seal, P_spec_l1Seal⟩
theorem s_spec_l1Seal : Sound Tryd.prog GG 65 C_spec_l1Seal := by
  unfold C_spec_l1Seal; rw [h_spec_l1Seal]
  exact sound_of_run (fn := Tryd.f65) hmix hstable (tyOK_of ttOK) (hglob (X_spec_l1Seal N P_spec_l1Num P_spec_l1Sum)) (conOK_of (X := X_spec_l1Seal N P_spec_l1Num P_spec_l1Sum) ⟨s_spec_l1Num, s_spec_l1Sum, trivial⟩) (mconOK_of (X := X_spec_l1Seal N P_spec_l1Num P_spec_l1Sum) trivial) (by kernel_rfl) (by kernel_rfl) (by kernel_rfl) (by kernel_rfl) (by kernel_rfl) (of_decide_eq_true (by kernel_rfl))
theorem p_spec_l1Seal (a0 : List UInt8) : P_spec_l1Seal (a0, ()) = 
  Option.bind (catS a0 ([35] : List UInt8)) fun r0 =>
  Option.bind (P_spec_l1Sum (a0, ())) fun r1 =>
  Option.bind (P_spec_l1Num (r1.1, ())) fun r2 =>
  Option.bind (catS r0 r2.1) fun r3 =>
  some (r3, ()) := by
  rewrite [h_spec_l1Seal]
  exact e_spec_l1Seal N P_spec_l1Num P_spec_l1Sum a0

/- 53: loop.example/g01166/spec.l12Line -/
abbrev As_spec_l12Line : List ATy := [.data false (.int .i64), .data true T_LogRecord]
abbrev R_spec_l12Line : List (Bool × Ty) := [(false, .str)]
abbrev M_spec_l12Line : List RMode := []
abbrev Ft_spec_l12Line : Type := Int × D_LogRecord × Unit → Option ((List UInt8) × Unit)
noncomputable def X_spec_l12Line (n : Nat) (F_spec_l1Num : Ft_spec_l1Num) (F_spec_l1Seal : Ft_spec_l1Seal) : Ctx := { types := TT, globals := [], con := [(51, ⟨As_spec_l1Num, R_spec_l1Num, M_spec_l1Num, F_spec_l1Num⟩), (65, ⟨As_spec_l1Seal, R_spec_l1Seal, M_spec_l1Seal, F_spec_l1Seal⟩)], keep := [], results := [.tmp 4], ntmps := 17, n := n }
noncomputable def B_spec_l12Line : Code := (Tryd.f53.body).getD .skip
theorem e_spec_l12Line (n : Nat) (F_spec_l1Num : Ft_spec_l1Num) (F_spec_l1Seal : Ft_spec_l1Seal) (a0 : Int) (a1 : D_LogRecord) : runF (X_spec_l12Line n F_spec_l1Num F_spec_l1Seal) B_spec_l12Line As_spec_l12Line R_spec_l12Line M_spec_l12Line (a0, a1, ()) = 
  Option.bind (F_spec_l1Num (a0, ())) fun r0 =>
  Option.bind (catS r0.1 ([32] : List UInt8)) fun r1 =>
  Option.bind (catS r1 a1.1) fun r2 =>
  Option.bind (catS r2 ([64] : List UInt8)) fun r3 =>
  Option.bind (catS r3 a1.2.1) fun r4 =>
  Option.bind (F_spec_l1Seal (r4, ())) fun r5 =>
  Option.bind (catS r5.1 ([10] : List UInt8)) fun r6 =>
  some (r6, ()) := by kernel_rfl
noncomputable def P_spec_l12Line : Ft_spec_l12Line := hid (runF (X_spec_l12Line N P_spec_l1Num P_spec_l1Seal) B_spec_l12Line As_spec_l12Line R_spec_l12Line M_spec_l12Line)
theorem h_spec_l12Line : P_spec_l12Line = runF (X_spec_l12Line N P_spec_l1Num P_spec_l1Seal) B_spec_l12Line As_spec_l12Line R_spec_l12Line M_spec_l12Line := hid_eq _
noncomputable def C_spec_l12Line : Contract := ⟨As_spec_l12Line, R_spec_l12Line, M_spec_l12Line, P_spec_l12Line⟩
theorem s_spec_l12Line : Sound Tryd.prog GG 53 C_spec_l12Line := by
  unfold C_spec_l12Line; rw [h_spec_l12Line]
  exact sound_of_run (fn := Tryd.f53) hmix hstable (tyOK_of ttOK) (hglob (X_spec_l12Line N P_spec_l1Num P_spec_l1Seal)) (conOK_of (X := X_spec_l12Line N P_spec_l1Num P_spec_l1Seal) ⟨s_spec_l1Num, s_spec_l1Seal, trivial⟩) (mconOK_of (X := X_spec_l12Line N P_spec_l1Num P_spec_l1Seal) trivial) (by kernel_rfl) (by kernel_rfl) (by kernel_rfl) (by kernel_rfl) (by kernel_rfl) (of_decide_eq_true (by kernel_rfl))
theorem p_spec_l12Line (a0 : Int) (a1 : D_LogRecord) : P_spec_l12Line (a0, a1, ()) = 
  Option.bind (P_spec_l1Num (a0, ())) fun r0 =>
  Option.bind (catS r0.1 ([32] : List UInt8)) fun r1 =>
  Option.bind (catS r1 a1.1) fun r2 =>
  Option.bind (catS r2 ([64] : List UInt8)) fun r3 =>
  Option.bind (catS r3 a1.2.1) fun r4 =>
  Option.bind (P_spec_l1Seal (r4, ())) fun r5 =>
  Option.bind (catS r5.1 ([10] : List UInt8)) fun r6 =>
  some (r6, ()) := by
  rewrite [h_spec_l12Line]
  exact e_spec_l12Line N P_spec_l1Num P_spec_l1Seal a0 a1

/- 36: loop.example/g01166/spec.l12Decode -/
abbrev As_spec_l12Decode : List ATy := [.data false .str, .data false (.int .i64)]
abbrev R_spec_l12Decode : List (Bool × Ty) := [(true, T_LogRecord), (false, .bool)]
abbrev M_spec_l12Decode : List RMode := []
abbrev Ft_spec_l12Decode : Type := (List UInt8) × Int × Unit → Option (D_LogRecord × Bool × Unit)
noncomputable def X_spec_l12Decode (n : Nat) (F_spec_l1Split : Ft_spec_l1Split) (F_spec_l1Num : Ft_spec_l1Num) (F_spec_l12Record : Ft_spec_l12Record) (F_spec_l12Line : Ft_spec_l12Line) : Ctx := { types := TT, globals := [], con := [(35, ⟨As_spec_l1Split, R_spec_l1Split, M_spec_l1Split, F_spec_l1Split⟩), (51, ⟨As_spec_l1Num, R_spec_l1Num, M_spec_l1Num, F_spec_l1Num⟩), (52, ⟨As_spec_l12Record, R_spec_l12Record, M_spec_l12Record, F_spec_l12Record⟩), (53, ⟨As_spec_l12Line, R_spec_l12Line, M_spec_l12Line, F_spec_l12Line⟩)], keep := [], results := [.cell 4 63, .tmp 5], ntmps := 64, n := n }
noncomputable def B_spec_l12Decode : Code := (Tryd.f36.body).getD .skip
theorem e_spec_l12Decode (n : Nat) (F_spec_l1Split : Ft_spec_l1Split) (F_spec_l1Num : Ft_spec_l1Num) (F_spec_l12Record : Ft_spec_l12Record) (F_spec_l12Line : Ft_spec_l12Line) (a0 : List UInt8) (a1 : Int) : runF (X_spec_l12Decode n F_spec_l1Split F_spec_l1Num F_spec_l12Record F_spec_l12Line) B_spec_l12Decode As_spec_l12Decode R_spec_l12Decode M_spec_l12Decode (a0, a1, ()) = 
  Option.bind (F_spec_l1Num (a1, ())) fun r0 =>
  Option.bind (catS r0.1 ([32] : List UInt8)) fun r1 =>
  Option.bind (F_spec_l1Split (a0, 35, ())) fun r2 =>
  bif inB 0 (List.length r2.1) then
    bif decide ((List.length (nth (.str : Ty) r2.1 0) : Int) < (List.length r1 : Int)) then
      some ((([] : List UInt8), (([] : List UInt8), ())), false, ())
    else
      bif (decide ((0 : Int) ≤ 0) && decide ((0 : Int) ≤ (List.length r1 : Int)) && decide ((List.length r1 : Int) ≤ (List.length (nth (.str : Ty) r2.1 0) : Int))) then
        bif !((cut (nth (.str : Ty) r2.1 0) 0 (List.length r1 : Int)) == r1) then
          some ((([] : List UInt8), (([] : List UInt8), ())), false, ())
        else
          bif (decide ((0 : Int) ≤ (List.length r1 : Int)) && decide ((List.length r1 : Int) ≤ (List.length (nth (.str : Ty) r2.1 0) : Int)) && decide ((List.length (nth (.str : Ty) r2.1 0) : Int) ≤ (List.length (nth (.str : Ty) r2.1 0) : Int))) then
            Option.bind (F_spec_l1Split ((cut (nth (.str : Ty) r2.1 0) (List.length r1 : Int) (List.length (nth (.str : Ty) r2.1 0) : Int)), 64, ())) fun r8 =>
            bif inB 0 (List.length r8.1) then
              bif decide ((List.length (nth (.str : Ty) r8.1 0) : Int) = (List.length (cut (nth (.str : Ty) r2.1 0) (List.length r1 : Int) (List.length (nth (.str : Ty) r2.1 0) : Int)) : Int)) then
                some ((([] : List UInt8), (([] : List UInt8), ())), false, ())
              else
                bif (decide ((0 : Int) ≤ (IntKind.wrap .i64 ((List.length (nth (.str : Ty) r8.1 0) : Int) + 1))) && decide ((IntKind.wrap .i64 ((List.length (nth (.str : Ty) r8.1 0) : Int) + 1)) ≤ (List.length (cut (nth (.str : Ty) r2.1 0) (List.length r1 : Int) (List.length (nth (.str : Ty) r2.1 0) : Int)) : Int)) && decide ((List.length (cut (nth (.str : Ty) r2.1 0) (List.length r1 : Int) (List.length (nth (.str : Ty) r2.1 0) : Int)) : Int) ≤ (List.length (cut (nth (.str : Ty) r2.1 0) (List.length r1 : Int) (List.length (nth (.str : Ty) r2.1 0) : Int)) : Int))) then
                  Option.bind (F_spec_l12Record (((nth (.str : Ty) r8.1 0), ((cut (cut (nth (.str : Ty) r2.1 0) (List.length r1 : Int) (List.length (nth (.str : Ty) r2.1 0) : Int)) (IntKind.wrap .i64 ((List.length (nth (.str : Ty) r8.1 0) : Int) + 1)) (List.length (cut (nth (.str : Ty) r2.1 0) (List.length r1 : Int) (List.length (nth (.str : Ty) r2.1 0) : Int)) : Int)), ())), ())) fun r12 =>
                  bif r12.1 then
                    Option.bind (F_spec_l12Line (a1, ((nth (.str : Ty) r8.1 0), ((cut (cut (nth (.str : Ty) r2.1 0) (List.length r1 : Int) (List.length (nth (.str : Ty) r2.1 0) : Int)) (IntKind.wrap .i64 ((List.length (nth (.str : Ty) r8.1 0) : Int) + 1)) (List.length (cut (nth (.str : Ty) r2.1 0) (List.length r1 : Int) (List.length (nth (.str : Ty) r2.1 0) : Int)) : Int)), ())), ())) fun r14 =>
                    Option.bind (catS a0 ([10] : List UInt8)) fun r15 =>
                    some (((nth (.str : Ty) r8.1 0), ((cut (cut (nth (.str : Ty) r2.1 0) (List.length r1 : Int) (List.length (nth (.str : Ty) r2.1 0) : Int)) (IntKind.wrap .i64 ((List.length (nth (.str : Ty) r8.1 0) : Int) + 1)) (List.length (cut (nth (.str : Ty) r2.1 0) (List.length r1 : Int) (List.length (nth (.str : Ty) r2.1 0) : Int)) : Int)), ())), r14.1 == r15, ())
                  else
                    some (((nth (.str : Ty) r8.1 0), ((cut (cut (nth (.str : Ty) r2.1 0) (List.length r1 : Int) (List.length (nth (.str : Ty) r2.1 0) : Int)) (IntKind.wrap .i64 ((List.length (nth (.str : Ty) r8.1 0) : Int) + 1)) (List.length (cut (nth (.str : Ty) r2.1 0) (List.length r1 : Int) (List.length (nth (.str : Ty) r2.1 0) : Int)) : Int)), ())), false, ())
                else none
            else none
          else none
      else none
  else none := by kernel_rfl
noncomputable def P_spec_l12Decode : Ft_spec_l12Decode := hid (runF (X_spec_l12Decode N P_spec_l1Split P_spec_l1Num P_spec_l12Record P_spec_l12Line) B_spec_l12Decode As_spec_l12Decode R_spec_l12Decode M_spec_l12Decode)
theorem h_spec_l12Decode : P_spec_l12Decode = runF (X_spec_l12Decode N P_spec_l1Split P_spec_l1Num P_spec_l12Record P_spec_l12Line) B_spec_l12Decode As_spec_l12Decode R_spec_l12Decode M_spec_l12Decode := hid_eq _
noncomputable def C_spec_l12Decode : Contract := ⟨As_spec_l12Decode, R_spec_l12Decode, M_spec_l12Decode, P_spec_l12Decode⟩
theorem s_spec_l12Decode : Sound Tryd.prog GG 36 C_spec_l12Decode := by
  unfold C_spec_l12Decode; rw [h_spec_l12Decode]
  exact sound_of_run (fn := Tryd.f36) hmix hstable (tyOK_of ttOK) (hglob (X_spec_l12Decode N P_spec_l1Split P_spec_l1Num P_spec_l12Record P_spec_l12Line)) (conOK_of (X := X_spec_l12Decode N P_spec_l1Split P_spec_l1Num P_spec_l12Record P_spec_l12Line) ⟨s_spec_l1Split, s_spec_l1Num, s_spec_l12Record, s_spec_l12Line, trivial⟩) (mconOK_of (X := X_spec_l12Decode N P_spec_l1Split P_spec_l1Num P_spec_l12Record P_spec_l12Line) trivial) (by kernel_rfl) (by kernel_rfl) (by kernel_rfl) (by kernel_rfl) (by kernel_rfl) (of_decide_eq_true (by kernel_rfl))
theorem p_spec_l12Decode (a0 : List UInt8) (a1 : Int) : P_spec_l12Decode (a0, a1, ()) = 
  Option.bind (P_spec_l1Num (a1, ())) fun r0 =>
  Option.bind (catS r0.1 ([32] : List UInt8)) fun r1 =>
  Option.bind (P_spec_l1Split (a0, 35, ())) fun r2 =>
  bif inB 0 (List.length r2.1) then
    bif decide ((List.length (nth (.str : Ty) r2.1 0) : Int) < (List.length r1 : Int)) then
      some ((([] : List UInt8), (([] : List UInt8), ())), false, ())
    else
      bif (decide ((0 : Int) ≤ 0) && decide ((0 : Int) ≤ (List.length r1 : Int)) && decide ((List.length r1 : Int) ≤ (List.length (nth (.str : Ty) r2.1 0) : Int))) then
        bif !((cut (nth (.str : Ty) r2.1 0) 0 (List.length r1 : Int)) == r1) then
          some ((([] : List UInt8), (([] : List UInt8), ())), false, ())
        else
          bif (decide ((0 : Int) ≤ (List.length r1 : Int)) && decide ((List.length r1 : Int) ≤ (List.length (nth (.str : Ty) r2.1 0) : Int)) && decide ((List.length (nth (.str : Ty) r2.1 0) : Int) ≤ (List.length (nth (.str : Ty) r2.1 0) : Int))) then
            Option.bind (P_spec_l1Split ((cut (nth (.str : Ty) r2.1 0) (List.length r1 : Int) (List.length (nth (.str : Ty) r2.1 0) : Int)), 64, ())) fun r8 =>
            bif inB 0 (List.length r8.1) then
              bif decide ((List.length (nth (.str : Ty) r8.1 0) : Int) = (List.length (cut (nth (.str : Ty) r2.1 0) (List.length r1 : Int) (List.length (nth (.str : Ty) r2.1 0) : Int)) : Int)) then
                some ((([] : List UInt8), (([] : List UInt8), ())), false, ())
              else
                bif (decide ((0 : Int) ≤ (IntKind.wrap .i64 ((List.length (nth (.str : Ty) r8.1 0) : Int) + 1))) && decide ((IntKind.wrap .i64 ((List.length (nth (.str : Ty) r8.1 0) : Int) + 1)) ≤ (List.length (cut (nth (.str : Ty) r2.1 0) (List.length r1 : Int) (List.length (nth (.str : Ty) r2.1 0) : Int)) : Int)) && decide ((List.length (cut (nth (.str : Ty) r2.1 0) (List.length r1 : Int) (List.length (nth (.str : Ty) r2.1 0) : Int)) : Int) ≤ (List.length (cut (nth (.str : Ty) r2.1 0) (List.length r1 : Int) (List.length (nth (.str : Ty) r2.1 0) : Int)) : Int))) then
                  Option.bind (P_spec_l12Record (((nth (.str : Ty) r8.1 0), ((cut (cut (nth (.str : Ty) r2.1 0) (List.length r1 : Int) (List.length (nth (.str : Ty) r2.1 0) : Int)) (IntKind.wrap .i64 ((List.length (nth (.str : Ty) r8.1 0) : Int) + 1)) (List.length (cut (nth (.str : Ty) r2.1 0) (List.length r1 : Int) (List.length (nth (.str : Ty) r2.1 0) : Int)) : Int)), ())), ())) fun r12 =>
                  bif r12.1 then
                    Option.bind (P_spec_l12Line (a1, ((nth (.str : Ty) r8.1 0), ((cut (cut (nth (.str : Ty) r2.1 0) (List.length r1 : Int) (List.length (nth (.str : Ty) r2.1 0) : Int)) (IntKind.wrap .i64 ((List.length (nth (.str : Ty) r8.1 0) : Int) + 1)) (List.length (cut (nth (.str : Ty) r2.1 0) (List.length r1 : Int) (List.length (nth (.str : Ty) r2.1 0) : Int)) : Int)), ())), ())) fun r14 =>
                    Option.bind (catS a0 ([10] : List UInt8)) fun r15 =>
                    some (((nth (.str : Ty) r8.1 0), ((cut (cut (nth (.str : Ty) r2.1 0) (List.length r1 : Int) (List.length (nth (.str : Ty) r2.1 0) : Int)) (IntKind.wrap .i64 ((List.length (nth (.str : Ty) r8.1 0) : Int) + 1)) (List.length (cut (nth (.str : Ty) r2.1 0) (List.length r1 : Int) (List.length (nth (.str : Ty) r2.1 0) : Int)) : Int)), ())), r14.1 == r15, ())
                  else
                    some (((nth (.str : Ty) r8.1 0), ((cut (cut (nth (.str : Ty) r2.1 0) (List.length r1 : Int) (List.length (nth (.str : Ty) r2.1 0) : Int)) (IntKind.wrap .i64 ((List.length (nth (.str : Ty) r8.1 0) : Int) + 1)) (List.length (cut (nth (.str : Ty) r2.1 0) (List.length r1 : Int) (List.length (nth (.str : Ty) r2.1 0) : Int)) : Int)), ())), false, ())
                else none
            else none
          else none
      else none
  else none := by
  rewrite [h_spec_l12Decode]
  exact e_spec_l12Decode N P_spec_l1Split P_spec_l1Num P_spec_l12Record P_spec_l12Line a0 a1

/- 23: loop.example/g01166/spec.l12Open -/
abbrev As_spec_l12Open : List ATy := [.data false .str]
abbrev R_spec_l12Open : List (Bool × Ty) := [(false, (.sl T_LogRecord)), (false, (.int .i64))]
abbrev M_spec_l12Open : List RMode := [.own 63]
abbrev Ft_spec_l12Open : Type := (List UInt8) × Unit → Option ((List D_LogRecord) × Int × Unit)
noncomputable def X_spec_l12Open (n : Nat) (F_spec_l1Split : Ft_spec_l1Split) (F_spec_l12Decode : Ft_spec_l12Decode) : Ctx := { types := TT, globals := [], con := [(35, ⟨As_spec_l1Split, R_spec_l1Split, M_spec_l1Split, F_spec_l1Split⟩), (36, ⟨As_spec_l12Decode, R_spec_l12Decode, M_spec_l12Decode, F_spec_l12Decode⟩)], keep := [(3, ⟨[.tmp 0, .tmp 4, .tmp 5], []⟩)], results := [.tmp 2, .tmp 3], ntmps := 52, n := n }
noncomputable def B_spec_l12Open : Code := (Tryd.f23.body).getD .skip
noncomputable def L_spec_l12Open_3 (n : Nat) (F_spec_l1Split : Ft_spec_l1Split) (F_spec_l12Decode : Ft_spec_l12Decode) (m0 : Nat) (p0 : List UInt8) (p1 : List D_LogRecord) (p2 : Int) : Option (denL R_spec_l12Open) := loopF (X_spec_l12Open n F_spec_l1Split F_spec_l12Decode) B_spec_l12Open R_spec_l12Open M_spec_l12Open 3 [m0] [(.ver, .num 1), (.tmp 0, .val false [.str p0]), (.tmp 4, .val false [.own 63 T_LogRecord 0 p1]), (.tmp 5, .val false [.int .i64 p2])]
theorem e_spec_l12Open (n : Nat) (F_spec_l1Split : Ft_spec_l1Split) (F_spec_l12Decode : Ft_spec_l12Decode) (a0 : List UInt8) : runF (X_spec_l12Open n F_spec_l1Split F_spec_l12Decode) B_spec_l12Open As_spec_l12Open R_spec_l12Open M_spec_l12Open (a0, ()) = 
  L_spec_l12Open_3 n F_spec_l1Split F_spec_l12Decode n a0 ([] : List D_LogRecord) 0 := by kernel_rfl
theorem e_spec_l12Open_3 (n : Nat) (F_spec_l1Split : Ft_spec_l1Split) (F_spec_l12Decode : Ft_spec_l12Decode) (m0 : Nat) (p0 : List UInt8) (p1 : List D_LogRecord) (p2 : Int) : L_spec_l12Open_3 n F_spec_l1Split F_spec_l12Decode (m0 + 1) p0 p1 p2 = 
  bif decide (p2 < (List.length p0 : Int)) then
    bif decide ((List.length p1 : Int) < 60) then
      bif (decide ((0 : Int) ≤ p2) && decide (p2 ≤ (List.length p0 : Int)) && decide ((List.length p0 : Int) ≤ (List.length p0 : Int))) then
        Option.bind (F_spec_l1Split ((cut p0 p2 (List.length p0 : Int)), 10, ())) fun r3 =>
        bif inB 0 (List.length r3.1) then
          Option.bind (F_spec_l12Decode ((nth (.str : Ty) r3.1 0), (List.length p1 : Int), ())) fun r5 =>
          bif decide ((List.length r3.1 : Int) < 2) then
            some (p1, p2, ())
          else
            bif !r5.2.1 then
              some (p1, p2, ())
            else
              bif (decide (((List.length p1) + (List.length ([r5.1] : List D_LogRecord))) * 32 ≤ 140737488355328) && decide (((List.length p1) + (List.length ([r5.1] : List D_LogRecord))) ≤ 140737488355328)) then
                bif inB 0 (List.length r3.1) then
                  L_spec_l12Open_3 n F_spec_l1Split F_spec_l12Decode m0 p0 (p1 ++ ([r5.1] : List D_LogRecord)) (IntKind.wrap .i64 ((IntKind.wrap .i64 (p2 + (List.length (nth (.str : Ty) r3.1 0) : Int))) + 1))
                else none
              else none
        else none
      else none
    else
      some (p1, p2, ())
  else
    some (p1, p2, ()) := by kernel_rfl
noncomputable def P_spec_l12Open : Ft_spec_l12Open := hid (runF (X_spec_l12Open N P_spec_l1Split P_spec_l12Decode) B_spec_l12Open As_spec_l12Open R_spec_l12Open M_spec_l12Open)
theorem h_spec_l12Open : P_spec_l12Open = runF (X_spec_l12Open N P_spec_l1Split P_spec_l12Decode) B_spec_l12Open As_spec_l12Open R_spec_l12Open M_spec_l12Open := hid_eq _
noncomputable def C_spec_l12Open : Contract := ⟨As_spec_l12Open, R_spec_l12Open, M_spec_l12Open, P_spec_l12Open⟩
theorem s_spec_l12Open : Sound Tryd.prog GG 23 C_spec_l12Open := by
  unfold C_spec_l12Open; rw [h_spec_l12Open]
  exact sound_of_run (fn := Tryd.f23) hmix hstable (tyOK_of ttOK) (hglob (X_spec_l12Open N P_spec_l1Split P_spec_l12Decode)) (conOK_of (X := X_spec_l12Open N P_spec_l1Split P_spec_l12Decode) ⟨s_spec_l1Split, s_spec_l12Decode, trivial⟩) (mconOK_of (X := X_spec_l12Open N P_spec_l1Split P_spec_l12Decode) trivial) (by kernel_rfl) (by kernel_rfl) (by kernel_rfl) (by kernel_rfl) (by kernel_rfl) (of_decide_eq_true (by kernel_rfl))
noncomputable def l_spec_l12Open_3 : Nat → (List UInt8) → (List D_LogRecord) → Int → Option (denL R_spec_l12Open) := hid (fun m0 p0 p1 p2 => L_spec_l12Open_3 N P_spec_l1Split P_spec_l12Decode m0 p0 p1 p2)
theorem h_spec_l12Open_3 : l_spec_l12Open_3 = fun m0 p0 p1 p2 => L_spec_l12Open_3 N P_spec_l1Split P_spec_l12Decode m0 p0 p1 p2 := hid_eq _
theorem p_spec_l12Open (a0 : List UInt8) : P_spec_l12Open (a0, ()) = 
  l_spec_l12Open_3 N a0 ([] : List D_LogRecord) 0 := by
  rewrite [h_spec_l12Open, h_spec_l12Open_3]
  exact e_spec_l12Open N P_spec_l1Split P_spec_l12Decode a0
theorem q_spec_l12Open_3 (m0 : Nat) (p0 : List UInt8) (p1 : List D_LogRecord) (p2 : Int) : l_spec_l12Open_3 (m0 + 1) p0 p1 p2 = 
  bif decide (p2 < (List.length p0 : Int)) then
    bif decide ((List.length p1 : Int) < 60) then
      bif (decide ((0 : Int) ≤ p2) && decide (p2 ≤ (List.length p0 : Int)) && decide ((List.length p0 : Int) ≤ (List.length p0 : Int))) then
        Option.bind (P_spec_l1Split ((cut p0 p2 (List.length p0 : Int)), 10, ())) fun r3 =>
        bif inB 0 (List.length r3.1) then
          Option.bind (P_spec_l12Decode ((nth (.str : Ty) r3.1 0), (List.length p1 : Int), ())) fun r5 =>
          bif decide ((List.length r3.1 : Int) < 2) then
            some (p1, p2, ())
          else
            bif !r5.2.1 then
              some (p1, p2, ())
            else
              bif (decide (((List.length p1) + (List.length ([r5.1] : List D_LogRecord))) * 32 ≤ 140737488355328) && decide (((List.length p1) + (List.length ([r5.1] : List D_LogRecord))) ≤ 140737488355328)) then
                bif inB 0 (List.length r3.1) then
                  l_spec_l12Open_3 m0 p0 (p1 ++ ([r5.1] : List D_LogRecord)) (IntKind.wrap .i64 ((IntKind.wrap .i64 (p2 + (List.length (nth (.str : Ty) r3.1 0) : Int))) + 1))
                else none
              else none
        else none
      else none
    else
      some (p1, p2, ())
  else
    some (p1, p2, ()) := by
  rewrite [h_spec_l12Open_3]
  exact e_spec_l12Open_3 N P_spec_l1Split P_spec_l12Decode m0 p0 p1 p2

/- 14: loop.example/g01166/spec.l12Valid -/
abbrev As_spec_l12Valid : List ATy := [.data true T_Log]
abbrev R_spec_l12Valid : List (Bool × Ty) := [(false, .bool)]
abbrev M_spec_l12Valid : List RMode := []
abbrev Ft_spec_l12Valid : Type := D_Log × Unit → Option (Bool × Unit)
noncomputable def X_spec_l12Valid (n : Nat) (F_spec_l12Open : Ft_spec_l12Open) : Ctx := { types := TT, globals := [], con := [(23, ⟨As_spec_l12Open, R_spec_l12Open, M_spec_l12Open, F_spec_l12Open⟩)], keep := [], results := [.tmp 2], ntmps := 53, n := n }
noncomputable def B_spec_l12Valid : Code := (Tryd.f14.body).getD .skip
theorem e_spec_l12Valid (n : Nat) (F_spec_l12Open : Ft_spec_l12Open) (a0 : D_Log) : runF (X_spec_l12Valid n F_spec_l12Open) B_spec_l12Valid As_spec_l12Valid R_spec_l12Valid M_spec_l12Valid (a0, ()) = 
  bif decide ((IntKind.wrap .i64 ((List.length a0.1 : Int) + (List.length a0.2.1 : Int))) > 30000) then
    some (false, ())
  else
    Option.bind (catS a0.1 a0.2.1) fun r1 =>
    Option.bind (F_spec_l12Open (r1, ())) fun r2 =>
    Option.bind (F_spec_l12Open (a0.1, ())) fun r3 =>
    bif decide (r2.2.1 = (IntKind.wrap .i64 ((List.length a0.1 : Int) + (List.length a0.2.1 : Int)))) then
      bif decide (r3.2.1 = (List.length a0.1 : Int)) then
        some (decide ((List.length r2.1 : Int) = a0.2.2.1), ())
      else
        some (false, ())
    else
      some (false, ()) := by kernel_rfl
noncomputable def P_spec_l12Valid : Ft_spec_l12Valid := hid (runF (X_spec_l12Valid N P_spec_l12Open) B_spec_l12Valid As_spec_l12Valid R_spec_l12Valid M_spec_l12Valid)
theorem h_spec_l12Valid : P_spec_l12Valid = runF (X_spec_l12Valid N P_spec_l12Open) B_spec_l12Valid As_spec_l12Valid R_spec_l12Valid M_spec_l12Valid := hid_eq _
noncomputable def C_spec_l12Valid : Contract := ⟨As_spec_l12Valid, R_spec_l12Valid, M_spec_l12Valid, P_spec_l12Valid⟩
theorem s_spec_l12Valid : Sound Tryd.prog GG 14 C_spec_l12Valid := by
  unfold C_spec_l12Valid; rw [h_spec_l12Valid]
  exact sound_of_run (fn := Tryd.f14) hmix hstable (tyOK_of ttOK) (hglob (X_spec_l12Valid N P_spec_l12Open)) (conOK_of (X := X_spec_l12Valid N P_spec_l12Open) ⟨s_spec_l12Open, trivial⟩) (mconOK_of (X := X_spec_l12Valid N P_spec_l12Open) trivial) (by kernel_rfl) (by kernel_rfl) (by kernel_rfl) (by kernel_rfl) (by kernel_rfl) (of_decide_eq_true (by kernel_rfl))
theorem p_spec_l12Valid (a0 : D_Log) : P_spec_l12Valid (a0, ()) = 
  bif decide ((IntKind.wrap .i64 ((List.length a0.1 : Int) + (List.length a0.2.1 : Int))) > 30000) then
    some (false, ())
  else
    Option.bind (catS a0.1 a0.2.1) fun r1 =>
    Option.bind (P_spec_l12Open (r1, ())) fun r2 =>
    Option.bind (P_spec_l12Open (a0.1, ())) fun r3 =>
    bif decide (r2.2.1 = (IntKind.wrap .i64 ((List.length a0.1 : Int) + (List.length a0.2.1 : Int)))) then
      bif decide (r3.2.1 = (List.length a0.1 : Int)) then
        some (decide ((List.length r2.1 : Int) = a0.2.2.1), ())
      else
        some (false, ())
    else
      some (false, ()) := by
  rewrite [h_spec_l12Valid]
  exact e_spec_l12Valid N P_spec_l12Open a0

/- 42: loop.example/g01166/spec.l2Sides -/
abbrev As_spec_l2Sides : List ATy := [.data false (.int .i64), .data false (.int .i64), .data false (.int .i64)]
abbrev R_spec_l2Sides : List (Bool × Ty) := [(false, .bool)]
abbrev M_spec_l2Sides : List RMode := []
abbrev Ft_spec_l2Sides : Type := Int × Int × Int × Unit → Option (Bool × Unit)
noncomputable def X_spec_l2Sides (n : Nat) (F_spec_l1In : Ft_spec_l1In) : Ctx := { types := TT, globals := [], con := [(30, ⟨As_spec_l1In, R_spec_l1In, M_spec_l1In, F_spec_l1In⟩)], keep := [], results := [.tmp 6], ntmps := 17, n := n }
noncomputable def B_spec_l2Sides : Code := (Tryd.f42.body).getD .skip
theorem e_spec_l2Sides (n : Nat) (F_spec_l1In : Ft_spec_l1In) (a0 : Int) (a1 : Int) (a2 : Int) : runF (X_spec_l2Sides n F_spec_l1In) B_spec_l2Sides As_spec_l2Sides R_spec_l2Sides M_spec_l2Sides (a0, a1, a2, ()) = 
  Option.bind (F_spec_l1In (a0, 1, 4, ())) fun r0 =>
  bif r0.1 then
    Option.bind (F_spec_l1In (a1, 1, 4, ())) fun r2 =>
    bif r2.1 then
      Option.bind (F_spec_l1In (a2, 1, 4, ())) fun r4 =>
      some (r4.1, ())
    else
      some (false, ())
  else
    some (false, ()) := by kernel_rfl
noncomputable def P_spec_l2Sides : Ft_spec_l2Sides := hid (runF (X_spec_l2Sides N P_spec_l1In) B_spec_l2Sides As_spec_l2Sides R_spec_l2Sides M_spec_l2Sides)
theorem h_spec_l2Sides : P_spec_l2Sides = runF (X_spec_l2Sides N P_spec_l1In) B_spec_l2Sides As_spec_l2Sides R_spec_l2Sides M_spec_l2Sides := hid_eq _
noncomputable def C_spec_l2Sides : Contract := ⟨As_spec_l2Sides, R_spec_l2Sides, M_spec_l2Sides, P_spec_l2Sides⟩
theorem s_spec_l2Sides : Sound Tryd.prog GG 42 C_spec_l2Sides := by
  unfold C_spec_l2Sides; rw [h_spec_l2Sides]
  exact sound_of_run (fn := Tryd.f42) hmix hstable (tyOK_of ttOK) (hglob (X_spec_l2Sides N P_spec_l1In)) (conOK_of (X := X_spec_l2Sides N P_spec_l1In) ⟨s_spec_l1In, trivial⟩) (mconOK_of (X := X_spec_l2Sides N P_spec_l1In) trivial) (by kernel_rfl) (by kernel_rfl) (by kernel_rfl) (by kernel_rfl) (by kernel_rfl) (of_decide_eq_true (by kernel_rfl))
theorem p_spec_l2Sides (a0 : Int) (a1 : Int) (a2 : Int) : P_spec_l2Sides (a0, a1, a2, ()) = 
  Option.bind (P_spec_l1In (a0, 1, 4, ())) fun r0 =>
  bif r0.1 then
    Option.bind (P_spec_l1In (a1, 1, 4, ())) fun r2 =>
    bif r2.1 then
      Option.bind (P_spec_l1In (a2, 1, 4, ())) fun r4 =>
      some (r4.1, ())
    else
      some (false, ())
  else
    some (false, ()) := by
  rewrite [h_spec_l2Sides]
  exact e_spec_l2Sides N P_spec_l1In a0 a1 a2

/- 43: loop.example/g01166/spec.l2In -/
abbrev As_spec_l2In : List ATy := [.data true T_Heap, .data true T_A3]
abbrev R_spec_l2In : List (Bool × Ty) := [(false, .bool)]
abbrev M_spec_l2In : List RMode := []
abbrev Ft_spec_l2In : Type := D_Heap × D_A3 × Unit → Option (Bool × Unit)
noncomputable def X_spec_l2In (n : Nat) (F_spec_l1In : Ft_spec_l1In) : Ctx := { types := TT, globals := [], con := [(30, ⟨As_spec_l1In, R_spec_l1In, M_spec_l1In, F_spec_l1In⟩)], keep := [], results := [.tmp 4], ntmps := 27, n := n }
noncomputable def B_spec_l2In : Code := (Tryd.f43.body).getD .skip
theorem e_spec_l2In (n : Nat) (F_spec_l1In : Ft_spec_l1In) (a0 : D_Heap) (a1 : D_A3) : runF (X_spec_l2In n F_spec_l1In) B_spec_l2In As_spec_l2In R_spec_l2In M_spec_l2In (a0, a1, ()) = 
  Option.bind (F_spec_l1In (a1.1, 0, (IntKind.wrap .i64 (a0.1 - 1)), ())) fun r0 =>
  bif r0.1 then
    Option.bind (F_spec_l1In (a1.2.1, 0, (IntKind.wrap .i64 (a0.2.1 - 1)), ())) fun r2 =>
    bif r2.1 then
      Option.bind (F_spec_l1In (a1.2.2.1, 0, (IntKind.wrap .i64 (a0.2.2.1 - 1)), ())) fun r4 =>
      some (r4.1, ())
    else
      some (false, ())
  else
    some (false, ()) := by kernel_rfl
noncomputable def P_spec_l2In : Ft_spec_l2In := hid (runF (X_spec_l2In N P_spec_l1In) B_spec_l2In As_spec_l2In R_spec_l2In M_spec_l2In)
theorem h_spec_l2In : P_spec_l2In = runF (X_spec_l2In N P_spec_l1In) B_spec_l2In As_spec_l2In R_spec_l2In M_spec_l2In := hid_eq _
noncomputable def C_spec_l2In : Contract := ⟨As_spec_l2In, R_spec_l2In, M_spec_l2In, P_spec_l2In⟩
theorem s_spec_l2In : Sound Tryd.prog GG 43 C_spec_l2In := by
  unfold C_spec_l2In; rw [h_spec_l2In]
  exact sound_of_run (fn := Tryd.f43) hmix hstable (tyOK_of ttOK) (hglob (X_spec_l2In N P_spec_l1In)) (conOK_of (X := X_spec_l2In N P_spec_l1In) ⟨s_spec_l1In, trivial⟩) (mconOK_of (X := X_spec_l2In N P_spec_l1In) trivial) (by kernel_rfl) (by kernel_rfl) (by kernel_rfl) (by kernel_rfl) (by kernel_rfl) (of_decide_eq_true (by kernel_rfl))
theorem p_spec_l2In (a0 : D_Heap) (a1 : D_A3) : P_spec_l2In (a0, a1, ()) = 
  Option.bind (P_spec_l1In (a1.1, 0, (IntKind.wrap .i64 (a0.1 - 1)), ())) fun r0 =>
  bif r0.1 then
    Option.bind (P_spec_l1In (a1.2.1, 0, (IntKind.wrap .i64 (a0.2.1 - 1)), ())) fun r2 =>
    bif r2.1 then
      Option.bind (P_spec_l1In (a1.2.2.1, 0, (IntKind.wrap .i64 (a0.2.2.1 - 1)), ())) fun r4 =>
      some (r4.1, ())
    else
      some (false, ())
  else
    some (false, ()) := by
  rewrite [h_spec_l2In]
  exact e_spec_l2In N P_spec_l1In a0 a1

/- 44: loop.example/g01166/spec.l2Before -/
abbrev As_spec_l2Before : List ATy := [.data true T_A3, .data true T_A3]
abbrev R_spec_l2Before : List (Bool × Ty) := [(false, .bool)]
abbrev M_spec_l2Before : List RMode := []
abbrev Ft_spec_l2Before : Type := D_A3 × D_A3 × Unit → Option (Bool × Unit)
noncomputable def X_spec_l2Before (n : Nat) : Ctx := { types := TT, globals := [], con := [], keep := [(2, ⟨[.box 2, .box 3, .tmp 2, .tmp 3, .tmp 5], []⟩)], results := [.tmp 4], ntmps := 24, n := n }
noncomputable def B_spec_l2Before : Code := (Tryd.f44.body).getD .skip
noncomputable def L_spec_l2Before_2 (n : Nat) (m0 : Nat) (p0 : Int) (p1 : Int) (p2 : Int) (p3 : Int) (p4 : Int) (p5 : Int) (p6 : Int) : Option (denL R_spec_l2Before) := loopF (X_spec_l2Before n) B_spec_l2Before R_spec_l2Before M_spec_l2Before 2 [m0] [(.ver, .num 1), (.box 2, .box 0 false [.int .i64 p0, .int .i64 p1, .int .i64 p2]), (.box 3, .box 0 false [.int .i64 p3, .int .i64 p4, .int .i64 p5]), (.tmp 2, .val false [.addr 2 0 0]), (.tmp 3, .val false [.addr 3 0 0]), (.tmp 5, .val false [.int .i64 p6])]
theorem e_spec_l2Before (n : Nat) (a0 : D_A3) (a1 : D_A3) : runF (X_spec_l2Before n) B_spec_l2Before As_spec_l2Before R_spec_l2Before M_spec_l2Before (a0, a1, ()) = 
  L_spec_l2Before_2 n n a0.1 a0.2.1 a0.2.2.1 a1.1 a1.2.1 a1.2.2.1 0 := by kernel_rfl
theorem e_spec_l2Before_2 (n : Nat) (m0 : Nat) (p0 : Int) (p1 : Int) (p2 : Int) (p3 : Int) (p4 : Int) (p5 : Int) (p6 : Int) : L_spec_l2Before_2 n (m0 + 1) p0 p1 p2 p3 p4 p5 p6 = 
  bif decide (p6 < 3) then
    bif inB p6 3 then
      bif inB p6 3 then
        bif !decide ((bif decide (p6 = (0 : Int)) then p0 else (bif decide (p6 = (1 : Int)) then p1 else p2)) = (bif decide (p6 = (0 : Int)) then p3 else (bif decide (p6 = (1 : Int)) then p4 else p5))) then
          bif inB p6 3 then
            bif inB p6 3 then
              some (decide ((bif decide (p6 = (0 : Int)) then p0 else (bif decide (p6 = (1 : Int)) then p1 else p2)) < (bif decide (p6 = (0 : Int)) then p3 else (bif decide (p6 = (1 : Int)) then p4 else p5))), ())
            else none
          else none
        else
          L_spec_l2Before_2 n m0 p0 p1 p2 p3 p4 p5 (IntKind.wrap .i64 (p6 + 1))
      else none
    else none
  else
    some (false, ()) := by kernel_rfl
noncomputable def P_spec_l2Before : Ft_spec_l2Before := hid (runF (X_spec_l2Before N) B_spec_l2Before As_spec_l2Before R_spec_l2Before M_spec_l2Before)
theorem h_spec_l2Before : P_spec_l2Before = runF (X_spec_l2Before N) B_spec_l2Before As_spec_l2Before R_spec_l2Before M_spec_l2Before := hid_eq _
noncomputable def C_spec_l2Before : Contract := ⟨As_spec_l2Before, R_spec_l2Before, M_spec_l2Before, P_spec_l2Before⟩
theorem s_spec_l2Before : Sound Tryd.prog GG 44 C_spec_l2Before := by
  unfold C_spec_l2Before; rw [h_spec_l2Before]
  exact sound_of_run (fn := Tryd.f44) hmix hstable (tyOK_of ttOK) (hglob (X_spec_l2Before N)) (conOK_of (X := X_spec_l2Before N) trivial) (mconOK_of (X := X_spec_l2Before N) trivial) (by kernel_rfl) (by kernel_rfl) (by kernel_rfl) (by kernel_rfl) (by kernel_rfl) (of_decide_eq_true (by kernel_rfl))
noncomputable def l_spec_l2Before_2 : Nat → Int → Int → Int → Int → Int → Int → Int → Option (denL R_spec_l2Before) := hid (fun m0 p0 p1 p2 p3 p4 p5 p6 => L_spec_l2Before_2 N m0 p0 p1 p2 p3 p4 p5 p6)
theorem h_spec_l2Before_2 : l_spec_l2Before_2 = fun m0 p0 p1 p2 p3 p4 p5 p6 => L_spec_l2Before_2 N m0 p0 p1 p2 p3 p4 p5 p6 := hid_eq _
theorem p_spec_l2Before (a0 : D_A3) (a1 : D_A3) : P_spec_l2Before (a0, a1, ()) = 
  l_spec_l2Before_2 N a0.1 a0.2.1 a0.2.2.1 a1.1 a1.2.1 a1.2.2.1 0 := by
  rewrite [h_spec_l2Before, h_spec_l2Before_2]
  exact e_spec_l2Before N a0 a1
theorem q_spec_l2Before_2 (m0 : Nat) (p0 : Int) (p1 : Int) (p2 : Int) (p3 : Int) (p4 : Int) (p5 : Int) (p6 : Int) : l_spec_l2Before_2 (m0 + 1) p0 p1 p2 p3 p4 p5 p6 = 
  bif decide (p6 < 3) then
    bif inB p6 3 then
      bif inB p6 3 then
        bif !decide ((bif decide (p6 = (0 : Int)) then p0 else (bif decide (p6 = (1 : Int)) then p1 else p2)) = (bif decide (p6 = (0 : Int)) then p3 else (bif decide (p6 = (1 : Int)) then p4 else p5))) then
          bif inB p6 3 then
            bif inB p6 3 then
              some (decide ((bif decide (p6 = (0 : Int)) then p0 else (bif decide (p6 = (1 : Int)) then p1 else p2)) < (bif decide (p6 = (0 : Int)) then p3 else (bif decide (p6 = (1 : Int)) then p4 else p5))), ())
            else none
          else none
        else
          l_spec_l2Before_2 m0 p0 p1 p2 p3 p4 p5 (IntKind.wrap .i64 (p6 + 1))
      else none
    else none
  else
    some (false, ()) := by
  rewrite [h_spec_l2Before_2]
  exact e_spec_l2Before_2 N m0 p0 p1 p2 p3 p4 p5 p6

/- 29: loop.example/g01166/spec.l2Heap -/
abbrev As_spec_l2Heap : List ATy := [.data true T_Heap]
abbrev R_spec_l2Heap : List (Bool × Ty) := [(false, .bool)]
abbrev M_spec_l2Heap : List RMode := []
abbrev Ft_spec_l2Heap : Type := D_Heap × Unit → Option (Bool × Unit)
noncomputable def X_spec_l2Heap (n : Nat) (F_spec_l2Sides : Ft_spec_l2Sides) (F_spec_l2In : Ft_spec_l2In) (F_spec_l2Before : Ft_spec_l2Before) : Ctx := { types := TT, globals := [], con := [(42, ⟨As_spec_l2Sides, R_spec_l2Sides, M_spec_l2Sides, F_spec_l2Sides⟩), (43, ⟨As_spec_l2In, R_spec_l2In, M_spec_l2In, F_spec_l2In⟩), (44, ⟨As_spec_l2Before, R_spec_l2Before, M_spec_l2Before, F_spec_l2Before⟩)], keep := [(4, ⟨[.box 1, .tmp 1, .tmp 3], []⟩)], results := [.tmp 2], ntmps := 46, n := n }
noncomputable def B_spec_l2Heap : Code := (Tryd.f29.body).getD .skip
noncomputable def L_spec_l2Heap_4 (n : Nat) (F_spec_l2Sides : Ft_spec_l2Sides) (F_spec_l2In : Ft_spec_l2In) (F_spec_l2Before : Ft_spec_l2Before) (m0 : Nat) (p0 : Int) (p1 : Int) (p2 : Int) (p3 : List D_A3) (p4 : Int) : Option (denL R_spec_l2Heap) := loopF (X_spec_l2Heap n F_spec_l2Sides F_spec_l2In F_spec_l2Before) B_spec_l2Heap R_spec_l2Heap M_spec_l2Heap 4 [m0] [(.ver, .num 1), (.box 1, .box 0 false [.int .i64 p0, .int .i64 p1, .int .i64 p2, .imm T_A3 p3 (some 3)]), (.tmp 1, .val false [.addr 1 0 0]), (.tmp 3, .val false [.int .i64 p4])]
theorem e_spec_l2Heap (n : Nat) (F_spec_l2Sides : Ft_spec_l2Sides) (F_spec_l2In : Ft_spec_l2In) (F_spec_l2Before : Ft_spec_l2Before) (a0 : D_Heap) : runF (X_spec_l2Heap n F_spec_l2Sides F_spec_l2In F_spec_l2Before) B_spec_l2Heap As_spec_l2Heap R_spec_l2Heap M_spec_l2Heap (a0, ()) = 
  Option.bind (F_spec_l2Sides (a0.1, a0.2.1, a0.2.2.1, ())) fun r0 =>
  bif !r0.1 then
    some (false, ())
  else
    L_spec_l2Heap_4 n F_spec_l2Sides F_spec_l2In F_spec_l2Before n a0.1 a0.2.1 a0.2.2.1 a0.2.2.2.1 0 := by kernel_rfl
theorem e_spec_l2Heap_4 (n : Nat) (F_spec_l2Sides : Ft_spec_l2Sides) (F_spec_l2In : Ft_spec_l2In) (F_spec_l2Before : Ft_spec_l2Before) (m0 : Nat) (p0 : Int) (p1 : Int) (p2 : Int) (p3 : List D_A3) (p4 : Int) : L_spec_l2Heap_4 n F_spec_l2Sides F_spec_l2In F_spec_l2Before (m0 + 1) p0 p1 p2 p3 p4 = 
  bif decide (p4 < (List.length p3 : Int)) then
    bif inB p4 (List.length p3) then
      Option.bind (F_spec_l2In ((p0, (p1, (p2, (p3, ())))), (nth T_A3 p3 p4), ())) fun r2 =>
      bif !r2.1 then
        some (false, ())
      else
        bif decide (p4 > 0) then
          bif inB (IntKind.wrap .i64 (p4 - 1)) (List.length p3) then
            bif inB p4 (List.length p3) then
              Option.bind (F_spec_l2Before ((nth T_A3 p3 (IntKind.wrap .i64 (p4 - 1))), (nth T_A3 p3 p4), ())) fun r7 =>
              bif !r7.1 then
                some (false, ())
              else
                L_spec_l2Heap_4 n F_spec_l2Sides F_spec_l2In F_spec_l2Before m0 p0 p1 p2 p3 (IntKind.wrap .i64 (p4 + 1))
            else none
          else none
        else
          L_spec_l2Heap_4 n F_spec_l2Sides F_spec_l2In F_spec_l2Before m0 p0 p1 p2 p3 (IntKind.wrap .i64 (p4 + 1))
    else none
  else
    some (true, ()) := by kernel_rfl
noncomputable def P_spec_l2Heap : Ft_spec_l2Heap := hid (runF (X_spec_l2Heap N P_spec_l2Sides P_spec_l2In P_spec_l2Before) B_spec_l2Heap As_spec_l2Heap R_spec_l2Heap M_spec_l2Heap)
theorem h_spec_l2Heap : P_spec_l2Heap = runF (X_spec_l2Heap N P_spec_l2Sides P_spec_l2In P_spec_l2Before) B_spec_l2Heap As_spec_l2Heap R_spec_l2Heap M_spec_l2Heap := hid_eq _
noncomputable def C_spec_l2Heap : Contract := ⟨As_spec_l2Heap, R_spec_l2Heap, M_spec_l2Heap, P_spec_l2Heap⟩
theorem s_spec_l2Heap : Sound Tryd.prog GG 29 C_spec_l2Heap := by
  unfold C_spec_l2Heap; rw [h_spec_l2Heap]
  exact sound_of_run (fn := Tryd.f29) hmix hstable (tyOK_of ttOK) (hglob (X_spec_l2Heap N P_spec_l2Sides P_spec_l2In P_spec_l2Before)) (conOK_of (X := X_spec_l2Heap N P_spec_l2Sides P_spec_l2In P_spec_l2Before) ⟨s_spec_l2Sides, s_spec_l2In, s_spec_l2Before, trivial⟩) (mconOK_of (X := X_spec_l2Heap N P_spec_l2Sides P_spec_l2In P_spec_l2Before) trivial) (by kernel_rfl) (by kernel_rfl) (by kernel_rfl) (by kernel_rfl) (by kernel_rfl) (of_decide_eq_true (by kernel_rfl))
noncomputable def l_spec_l2Heap_4 : Nat → Int → Int → Int → (List D_A3) → Int → Option (denL R_spec_l2Heap) := hid (fun m0 p0 p1 p2 p3 p4 => L_spec_l2Heap_4 N P_spec_l2Sides P_spec_l2In P_spec_l2Before m0 p0 p1 p2 p3 p4)
theorem h_spec_l2Heap_4 : l_spec_l2Heap_4 = fun m0 p0 p1 p2 p3 p4 => L_spec_l2Heap_4 N P_spec_l2Sides P_spec_l2In P_spec_l2Before m0 p0 p1 p2 p3 p4 := hid_eq _
theorem p_spec_l2Heap (a0 : D_Heap) : P_spec_l2Heap (a0, ()) = 
  Option.bind (P_spec_l2Sides (a0.1, a0.2.1, a0.2.2.1, ())) fun r0 =>
  bif !r0.1 then
    some (false, ())
  else
    l_spec_l2Heap_4 N a0.1 a0.2.1 a0.2.2.1 a0.2.2.2.1 0 := by
  rewrite [h_spec_l2Heap, h_spec_l2Heap_4]
  exact e_spec_l2Heap N P_spec_l2Sides P_spec_l2In P_spec_l2Before a0
theorem q_spec_l2Heap_4 (m0 : Nat) (p0 : Int) (p1 : Int) (p2 : Int) (p3 : List D_A3) (p4 : Int) : l_spec_l2Heap_4 (m0 + 1) p0 p1 p2 p3 p4 = 
  bif decide (p4 < (List.length p3 : Int)) then
    bif inB p4 (List.length p3) then
      Option.bind (P_spec_l2In ((p0, (p1, (p2, (p3, ())))), (nth T_A3 p3 p4), ())) fun r2 =>
      bif !r2.1 then
        some (false, ())
      else
        bif decide (p4 > 0) then
          bif inB (IntKind.wrap .i64 (p4 - 1)) (List.length p3) then
            bif inB p4 (List.length p3) then
              Option.bind (P_spec_l2Before ((nth T_A3 p3 (IntKind.wrap .i64 (p4 - 1))), (nth T_A3 p3 p4), ())) fun r7 =>
              bif !r7.1 then
                some (false, ())
              else
                l_spec_l2Heap_4 m0 p0 p1 p2 p3 (IntKind.wrap .i64 (p4 + 1))
            else none
          else none
        else
          l_spec_l2Heap_4 m0 p0 p1 p2 p3 (IntKind.wrap .i64 (p4 + 1))
    else none
  else
    some (true, ()) := by
  rewrite [h_spec_l2Heap_4]
  exact e_spec_l2Heap_4 N P_spec_l2Sides P_spec_l2In P_spec_l2Before m0 p0 p1 p2 p3 p4

/- 18: loop.example/g01166/spec.l12Good -/
abbrev As_spec_l12Good : List ATy := [.data true T_Bench]
abbrev R_spec_l12Good : List (Bool × Ty) := [(false, .bool)]
abbrev M_spec_l12Good : List RMode := []
abbrev Ft_spec_l12Good : Type := D_Bench × Unit → Option (Bool × Unit)
noncomputable def X_spec_l12Good (n : Nat) (F_spec_l2Heap : Ft_spec_l2Heap) (F_spec_l1In : Ft_spec_l1In) : Ctx := { types := TT, globals := [], con := [(29, ⟨As_spec_l2Heap, R_spec_l2Heap, M_spec_l2Heap, F_spec_l2Heap⟩), (30, ⟨As_spec_l1In, R_spec_l1In, M_spec_l1In, F_spec_l1In⟩)], keep := [], results := [.tmp 2], ntmps := 20, n := n }
noncomputable def B_spec_l12Good : Code := (Tryd.f18.body).getD .skip
theorem e_spec_l12Good (n : Nat) (F_spec_l2Heap : Ft_spec_l2Heap) (F_spec_l1In : Ft_spec_l1In) (a0 : D_Bench) : runF (X_spec_l12Good n F_spec_l2Heap F_spec_l1In) B_spec_l12Good As_spec_l12Good R_spec_l12Good M_spec_l12Good (a0, ()) = 
  Option.bind (F_spec_l2Heap (a0.1, ())) fun r0 =>
  bif r0.1 then
    Option.bind (F_spec_l1In (a0.2.2.1, 0, 1000, ())) fun r2 =>
    bif r2.1 then
      Option.bind (F_spec_l1In (a0.2.1, 0, (List.length a0.1.2.2.2.1 : Int), ())) fun r4 =>
      some (r4.1, ())
    else
      some (false, ())
  else
    some (false, ()) := by kernel_rfl
noncomputable def P_spec_l12Good : Ft_spec_l12Good := hid (runF (X_spec_l12Good N P_spec_l2Heap P_spec_l1In) B_spec_l12Good As_spec_l12Good R_spec_l12Good M_spec_l12Good)
theorem h_spec_l12Good : P_spec_l12Good = runF (X_spec_l12Good N P_spec_l2Heap P_spec_l1In) B_spec_l12Good As_spec_l12Good R_spec_l12Good M_spec_l12Good := hid_eq _
noncomputable def C_spec_l12Good : Contract := ⟨As_spec_l12Good, R_spec_l12Good, M_spec_l12Good, P_spec_l12Good⟩
theorem s_spec_l12Good : Sound Tryd.prog GG 18 C_spec_l12Good := by
  unfold C_spec_l12Good; rw [h_spec_l12Good]
  exact sound_of_run (fn := Tryd.f18) hmix hstable (tyOK_of ttOK) (hglob (X_spec_l12Good N P_spec_l2Heap P_spec_l1In)) (conOK_of (X := X_spec_l12Good N P_spec_l2Heap P_spec_l1In) ⟨s_spec_l2Heap, s_spec_l1In, trivial⟩) (mconOK_of (X := X_spec_l12Good N P_spec_l2Heap P_spec_l1In) trivial) (by kernel_rfl) (by kernel_rfl) (by kernel_rfl) (by kernel_rfl) (by kernel_rfl) (of_decide_eq_true (by kernel_rfl))
theorem p_spec_l12Good (a0 : D_Bench) : P_spec_l12Good (a0, ()) = 
  Option.bind (P_spec_l2Heap (a0.1, ())) fun r0 =>
  bif r0.1 then
    Option.bind (P_spec_l1In (a0.2.2.1, 0, 1000, ())) fun r2 =>
    bif r2.1 then
      Option.bind (P_spec_l1In (a0.2.1, 0, (List.length a0.1.2.2.2.1 : Int), ())) fun r4 =>
      some (r4.1, ())
    else
      some (false, ())
  else
    some (false, ()) := by
  rewrite [h_spec_l12Good]
  exact e_spec_l12Good N P_spec_l2Heap P_spec_l1In a0

/- 10: loop.example/g01166/spec.IsValidConsole -/
abbrev As_spec_IsValidConsole : List ATy := [.data true T_Console]
abbrev R_spec_IsValidConsole : List (Bool × Ty) := [(false, .bool)]
abbrev M_spec_IsValidConsole : List RMode := []
abbrev Ft_spec_IsValidConsole : Type := D_Console × Unit → Option (Bool × Unit)
noncomputable def X_spec_IsValidConsole (n : Nat) (F_spec_l12Valid : Ft_spec_l12Valid) (F_spec_l12Good : Ft_spec_l12Good) : Ctx := { types := TT, globals := [], con := [(14, ⟨As_spec_l12Valid, R_spec_l12Valid, M_spec_l12Valid, F_spec_l12Valid⟩), (18, ⟨As_spec_l12Good, R_spec_l12Good, M_spec_l12Good, F_spec_l12Good⟩)], keep := [], results := [.tmp 2], ntmps := 11, n := n }
noncomputable def B_spec_IsValidConsole : Code := (Tryd.f10.body).getD .skip
theorem e_spec_IsValidConsole (n : Nat) (F_spec_l12Valid : Ft_spec_l12Valid) (F_spec_l12Good : Ft_spec_l12Good) (a0 : D_Console) : runF (X_spec_IsValidConsole n F_spec_l12Valid F_spec_l12Good) B_spec_IsValidConsole As_spec_IsValidConsole R_spec_IsValidConsole M_spec_IsValidConsole (a0, ()) = 
  Option.bind (F_spec_l12Good (a0.1, ())) fun r0 =>
  bif r0.1 then
    Option.bind (F_spec_l12Valid (a0.2.1, ())) fun r2 =>
    some (r2.1, ())
  else
    some (false, ()) := by kernel_rfl
noncomputable def P_spec_IsValidConsole : Ft_spec_IsValidConsole := hid (runF (X_spec_IsValidConsole N P_spec_l12Valid P_spec_l12Good) B_spec_IsValidConsole As_spec_IsValidConsole R_spec_IsValidConsole M_spec_IsValidConsole)
theorem h_spec_IsValidConsole : P_spec_IsValidConsole = runF (X_spec_IsValidConsole N P_spec_l12Valid P_spec_l12Good) B_spec_IsValidConsole As_spec_IsValidConsole R_spec_IsValidConsole M_spec_IsValidConsole := hid_eq _
noncomputable def C_spec_IsValidConsole : Contract := ⟨As_spec_IsValidConsole, R_spec_IsValidConsole, M_spec_IsValidConsole, P_spec_IsValidConsole⟩
theorem s_spec_IsValidConsole : Sound Tryd.prog GG 10 C_spec_IsValidConsole := by
  unfold C_spec_IsValidConsole; rw [h_spec_IsValidConsole]
  exact sound_of_run (fn := Tryd.f10) hmix hstable (tyOK_of ttOK) (hglob (X_spec_IsValidConsole N P_spec_l12Valid P_spec_l12Good)) (conOK_of (X := X_spec_IsValidConsole N P_spec_l12Valid P_spec_l12Good) ⟨s_spec_l12Valid, s_spec_l12Good, trivial⟩) (mconOK_of (X := X_spec_IsValidConsole N P_spec_l12Valid P_spec_l12Good) trivial) (by kernel_rfl) (by kernel_rfl) (by kernel_rfl) (by kernel_rfl) (by kernel_rfl) (of_decide_eq_true (by kernel_rfl))
theorem p_spec_IsValidConsole (a0 : D_Console) : P_spec_IsValidConsole (a0, ()) = 
  Option.bind (P_spec_l12Good (a0.1, ())) fun r0 =>
  bif r0.1 then
    Option.bind (P_spec_l12Valid (a0.2.1, ())) fun r2 =>
    some (r2.1, ())
  else
    some (false, ()) := by
  rewrite [h_spec_IsValidConsole]
  exact e_spec_IsValidConsole N P_spec_l12Valid P_spec_l12Good a0

/- 7: loop.example/g01166/laws.toLog -/
abbrev As_laws_toLog : List ATy := [.data true T_Log]
abbrev R_laws_toLog : List (Bool × Ty) := [(true, T_Log)]
abbrev M_laws_toLog : List RMode := []
abbrev Ft_laws_toLog : Type := D_Log × Unit → Option (D_Log × Unit)
noncomputable def X_laws_toLog (n : Nat) : Ctx := { types := TT, globals := [], con := [], keep := [], results := [.cell 2 26], ntmps := 14, n := n }
noncomputable def B_laws_toLog : Code := (Tryd.f7.body).getD .skip
theorem e_laws_toLog (n : Nat) (a0 : D_Log) : runF (X_laws_toLog n) B_laws_toLog As_laws_toLog R_laws_toLog M_laws_toLog (a0, ()) = 
  some (a0, ()) := by kernel_rfl
noncomputable def P_laws_toLog : Ft_laws_toLog := hid (runF (X_laws_toLog N) B_laws_toLog As_laws_toLog R_laws_toLog M_laws_toLog)
theorem h_laws_toLog : P_laws_toLog = runF (X_laws_toLog N) B_laws_toLog As_laws_toLog R_laws_toLog M_laws_toLog := hid_eq _
noncomputable def C_laws_toLog : Contract := ⟨As_laws_toLog, R_laws_toLog, M_laws_toLog, P_laws_toLog⟩
theorem s_laws_toLog : Sound Tryd.prog GG 7 C_laws_toLog := by
  unfold C_laws_toLog; rw [h_laws_toLog]
  exact sound_of_run (fn := Tryd.f7) hmix hstable (tyOK_of ttOK) (hglob (X_laws_toLog N)) (conOK_of (X := X_laws_toLog N) trivial) (mconOK_of (X := X_laws_toLog N) trivial) (by kernel_rfl) (by kernel_rfl) (by kernel_rfl) (by kernel_rfl) (by kernel_rfl) (of_decide_eq_true (by kernel_rfl))
theorem p_laws_toLog (a0 : D_Log) : P_laws_toLog (a0, ()) = 
  some (a0, ()) := by
  rewrite [h_laws_toLog]
  exact e_laws_toLog N a0

/- 60: loop.example/g01166/laws.toIntA3 -/
abbrev As_laws_toIntA3 : List ATy := [.data true T_A3]
abbrev R_laws_toIntA3 : List (Bool × Ty) := [(true, T_A3)]
abbrev M_laws_toIntA3 : List RMode := []
abbrev Ft_laws_toIntA3 : Type := D_A3 × Unit → Option (D_A3 × Unit)
noncomputable def X_laws_toIntA3 (n : Nat) : Ctx := { types := TT, globals := [], con := [], keep := [(3, ⟨[.box 1, .box 2, .box 3, .tmp 1, .tmp 2, .tmp 3, .tmp 4], []⟩)], results := [.cell 2 79], ntmps := 15, n := n }
noncomputable def B_laws_toIntA3 : Code := (Tryd.f60.body).getD .skip
noncomputable def L_laws_toIntA3_3 (n : Nat) (m0 : Nat) (p0 : Int) (p1 : Int) (p2 : Int) (p3 : Int) (p4 : Int) (p5 : Int) (p6 : Int) (p7 : Int) (p8 : Int) (p9 : Int) : Option (denL R_laws_toIntA3) := loopF (X_laws_toIntA3 n) B_laws_toIntA3 R_laws_toIntA3 M_laws_toIntA3 3 [m0] [(.ver, .num 1), (.box 1, .box 0 false [.int .i64 p0, .int .i64 p1, .int .i64 p2]), (.box 2, .box 0 false [.int .i64 p3, .int .i64 p4, .int .i64 p5]), (.box 3, .box 0 false [.int .i64 p6, .int .i64 p7, .int .i64 p8]), (.tmp 1, .val false [.addr 1 0 0]), (.tmp 2, .val false [.addr 2 0 0]), (.tmp 3, .val false [.addr 3 0 0]), (.tmp 4, .val false [.int .i64 p9])]
theorem e_laws_toIntA3 (n : Nat) (a0 : D_A3) : runF (X_laws_toIntA3 n) B_laws_toIntA3 As_laws_toIntA3 R_laws_toIntA3 M_laws_toIntA3 (a0, ()) = 
  L_laws_toIntA3_3 n n a0.1 a0.2.1 a0.2.2.1 0 0 0 0 0 0 0 := by kernel_rfl
theorem e_laws_toIntA3_3 (n : Nat) (m0 : Nat) (p0 : Int) (p1 : Int) (p2 : Int) (p3 : Int) (p4 : Int) (p5 : Int) (p6 : Int) (p7 : Int) (p8 : Int) (p9 : Int) : L_laws_toIntA3_3 n (m0 + 1) p0 p1 p2 p3 p4 p5 p6 p7 p8 p9 = 
  bif decide (p9 < 3) then
    bif inB p9 3 then
      bif inB p9 3 then
        L_laws_toIntA3_3 n m0 p0 p1 p2 p3 p4 p5 (bif decide (p9 = (0 : Int)) then (bif decide (p9 = (0 : Int)) then p0 else (bif decide (p9 = (1 : Int)) then p1 else p2)) else p6) (bif decide (p9 = (1 : Int)) then (bif decide (p9 = (0 : Int)) then p0 else (bif decide (p9 = (1 : Int)) then p1 else p2)) else p7) (bif decide (p9 = (2 : Int)) then (bif decide (p9 = (0 : Int)) then p0 else (bif decide (p9 = (1 : Int)) then p1 else p2)) else p8) (IntKind.wrap .i64 (p9 + 1))
      else none
    else none
  else
    some ((p6, (p7, (p8, ()))), ()) := by kernel_rfl
noncomputable def P_laws_toIntA3 : Ft_laws_toIntA3 := hid (runF (X_laws_toIntA3 N) B_laws_toIntA3 As_laws_toIntA3 R_laws_toIntA3 M_laws_toIntA3)
theorem h_laws_toIntA3 : P_laws_toIntA3 = runF (X_laws_toIntA3 N) B_laws_toIntA3 As_laws_toIntA3 R_laws_toIntA3 M_laws_toIntA3 := hid_eq _
noncomputable def C_laws_toIntA3 : Contract := ⟨As_laws_toIntA3, R_laws_toIntA3, M_laws_toIntA3, P_laws_toIntA3⟩
theorem s_laws_toIntA3 : Sound Tryd.prog GG 60 C_laws_toIntA3 := by
  unfold C_laws_toIntA3; rw [h_laws_toIntA3]
  exact sound_of_run (fn := Tryd.f60) hmix hstable (tyOK_of ttOK) (hglob (X_laws_toIntA3 N)) (conOK_of (X := X_laws_toIntA3 N) trivial) (mconOK_of (X := X_laws_toIntA3 N) trivial) (by kernel_rfl) (by kernel_rfl) (by kernel_rfl) (by kernel_rfl) (by kernel_rfl) (of_decide_eq_true (by kernel_rfl))
noncomputable def l_laws_toIntA3_3 : Nat → Int → Int → Int → Int → Int → Int → Int → Int → Int → Int → Option (denL R_laws_toIntA3) := hid (fun m0 p0 p1 p2 p3 p4 p5 p6 p7 p8 p9 => L_laws_toIntA3_3 N m0 p0 p1 p2 p3 p4 p5 p6 p7 p8 p9)
theorem h_laws_toIntA3_3 : l_laws_toIntA3_3 = fun m0 p0 p1 p2 p3 p4 p5 p6 p7 p8 p9 => L_laws_toIntA3_3 N m0 p0 p1 p2 p3 p4 p5 p6 p7 p8 p9 := hid_eq _
theorem p_laws_toIntA3 (a0 : D_A3) : P_laws_toIntA3 (a0, ()) = 
  l_laws_toIntA3_3 N a0.1 a0.2.1 a0.2.2.1 0 0 0 0 0 0 0 := by
  rewrite [h_laws_toIntA3, h_laws_toIntA3_3]
  exact e_laws_toIntA3 N a0
theorem q_laws_toIntA3_3 (m0 : Nat) (p0 : Int) (p1 : Int) (p2 : Int) (p3 : Int) (p4 : Int) (p5 : Int) (p6 : Int) (p7 : Int) (p8 : Int) (p9 : Int) : l_laws_toIntA3_3 (m0 + 1) p0 p1 p2 p3 p4 p5 p6 p7 p8 p9 = 
  bif decide (p9 < 3) then
    bif inB p9 3 then
      bif inB p9 3 then
        l_laws_toIntA3_3 m0 p0 p1 p2 p3 p4 p5 (bif decide (p9 = (0 : Int)) then (bif decide (p9 = (0 : Int)) then p0 else (bif decide (p9 = (1 : Int)) then p1 else p2)) else p6) (bif decide (p9 = (1 : Int)) then (bif decide (p9 = (0 : Int)) then p0 else (bif decide (p9 = (1 : Int)) then p1 else p2)) else p7) (bif decide (p9 = (2 : Int)) then (bif decide (p9 = (0 : Int)) then p0 else (bif decide (p9 = (1 : Int)) then p1 else p2)) else p8) (IntKind.wrap .i64 (p9 + 1))
      else none
    else none
  else
    some ((p6, (p7, (p8, ()))), ()) := by
  rewrite [h_laws_toIntA3_3]
  exact e_laws_toIntA3_3 N m0 p0 p1 p2 p3 p4 p5 p6 p7 p8 p9

/- 45: loop.example/g01166/laws.toIntA3S -/
abbrev As_laws_toIntA3S : List ATy := [.data false (.sl T_A3)]
abbrev R_laws_toIntA3S : List (Bool × Ty) := [(false, (.sl T_A3))]
abbrev M_laws_toIntA3S : List RMode := [.own 79]
abbrev Ft_laws_toIntA3S : Type := (List D_A3) × Unit → Option ((List D_A3) × Unit)
noncomputable def X_laws_toIntA3S (n : Nat) (F_laws_toIntA3 : Ft_laws_toIntA3) : Ctx := { types := TT, globals := [], con := [(60, ⟨As_laws_toIntA3, R_laws_toIntA3, M_laws_toIntA3, F_laws_toIntA3⟩)], keep := [(3, ⟨[.tmp 0, .tmp 3, .tmp 4], []⟩)], results := [.tmp 2], ntmps := 23, n := n }
noncomputable def B_laws_toIntA3S : Code := (Tryd.f45.body).getD .skip
noncomputable def L_laws_toIntA3S_3 (n : Nat) (F_laws_toIntA3 : Ft_laws_toIntA3) (m0 : Nat) (p0 : List D_A3) (p1 : List D_A3) (p2 : Int) : Option (denL R_laws_toIntA3S) := loopF (X_laws_toIntA3S n F_laws_toIntA3) B_laws_toIntA3S R_laws_toIntA3S M_laws_toIntA3S 3 [m0] [(.ver, .num 1), (.tmp 0, .val false [.imm T_A3 p0 (some 0)]), (.tmp 3, .val false [.own 79 T_A3 0 p1]), (.tmp 4, .val false [.int .i64 p2])]
theorem e_laws_toIntA3S (n : Nat) (F_laws_toIntA3 : Ft_laws_toIntA3) (a0 : List D_A3) : runF (X_laws_toIntA3S n F_laws_toIntA3) B_laws_toIntA3S As_laws_toIntA3S R_laws_toIntA3S M_laws_toIntA3S (a0, ()) = 
  bif (decide ((0 : Int) ≤ (List.length a0 : Int)) && decide (((List.length a0 : Int) : Int) ≤ (List.length a0 : Int)) && decide (((List.length a0 : Int) : Int) * (24 : Nat) ≤ 140737488355328) && decide (((List.length a0 : Int) : Int) ≤ 140737488355328)) then
    L_laws_toIntA3S_3 n F_laws_toIntA3 n a0 (List.replicate (Int.toNat (List.length a0 : Int)) (Ty.dflt T_A3)) 0
  else none := by kernel_rfl
theorem e_laws_toIntA3S_3 (n : Nat) (F_laws_toIntA3 : Ft_laws_toIntA3) (m0 : Nat) (p0 : List D_A3) (p1 : List D_A3) (p2 : Int) : L_laws_toIntA3S_3 n F_laws_toIntA3 (m0 + 1) p0 p1 p2 = 
  bif decide (p2 < (List.length p0 : Int)) then
    bif inB p2 (List.length p0) then
      Option.bind (F_laws_toIntA3 ((nth T_A3 p0 p2), ())) fun r2 =>
      bif inB p2 (List.length p1) then
        L_laws_toIntA3S_3 n F_laws_toIntA3 m0 p0 (List.set p1 (Int.toNat p2) r2.1) (IntKind.wrap .i64 (p2 + 1))
      else none
    else none
  else
    some (p1, ()) := by kernel_rfl
noncomputable def P_laws_toIntA3S : Ft_laws_toIntA3S := hid (runF (X_laws_toIntA3S N P_laws_toIntA3) B_laws_toIntA3S As_laws_toIntA3S R_laws_toIntA3S M_laws_toIntA3S)
theorem h_laws_toIntA3S : P_laws_toIntA3S = runF (X_laws_toIntA3S N P_laws_toIntA3) B_laws_toIntA3S As_laws_toIntA3S R_laws_toIntA3S M_laws_toIntA3S := hid_eq _
noncomputable def C_laws_toIntA3S : Contract := ⟨As_laws_toIntA3S, R_laws_toIntA3S, M_laws_toIntA3S, P_laws_toIntA3S⟩
theorem s_laws_toIntA3S : Sound Tryd.prog GG 45 C_laws_toIntA3S := by
  unfold C_laws_toIntA3S; rw [h_laws_toIntA3S]
  exact sound_of_run (fn := Tryd.f45) hmix hstable (tyOK_of ttOK) (hglob (X_laws_toIntA3S N P_laws_toIntA3)) (conOK_of (X := X_laws_toIntA3S N P_laws_toIntA3) ⟨s_laws_toIntA3, trivial⟩) (mconOK_of (X := X_laws_toIntA3S N P_laws_toIntA3) trivial) (by kernel_rfl) (by kernel_rfl) (by kernel_rfl) (by kernel_rfl) (by kernel_rfl) (of_decide_eq_true (by kernel_rfl))
noncomputable def l_laws_toIntA3S_3 : Nat → (List D_A3) → (List D_A3) → Int → Option (denL R_laws_toIntA3S) := hid (fun m0 p0 p1 p2 => L_laws_toIntA3S_3 N P_laws_toIntA3 m0 p0 p1 p2)
theorem h_laws_toIntA3S_3 : l_laws_toIntA3S_3 = fun m0 p0 p1 p2 => L_laws_toIntA3S_3 N P_laws_toIntA3 m0 p0 p1 p2 := hid_eq _
theorem p_laws_toIntA3S (a0 : List D_A3) : P_laws_toIntA3S (a0, ()) = 
  bif (decide ((0 : Int) ≤ (List.length a0 : Int)) && decide (((List.length a0 : Int) : Int) ≤ (List.length a0 : Int)) && decide (((List.length a0 : Int) : Int) * (24 : Nat) ≤ 140737488355328) && decide (((List.length a0 : Int) : Int) ≤ 140737488355328)) then
    l_laws_toIntA3S_3 N a0 (List.replicate (Int.toNat (List.length a0 : Int)) (Ty.dflt T_A3)) 0
  else none := by
  rewrite [h_laws_toIntA3S, h_laws_toIntA3S_3]
  exact e_laws_toIntA3S N P_laws_toIntA3 a0
theorem q_laws_toIntA3S_3 (m0 : Nat) (p0 : List D_A3) (p1 : List D_A3) (p2 : Int) : l_laws_toIntA3S_3 (m0 + 1) p0 p1 p2 = 
  bif decide (p2 < (List.length p0 : Int)) then
    bif inB p2 (List.length p0) then
      Option.bind (P_laws_toIntA3 ((nth T_A3 p0 p2), ())) fun r2 =>
      bif inB p2 (List.length p1) then
        l_laws_toIntA3S_3 m0 p0 (List.set p1 (Int.toNat p2) r2.1) (IntKind.wrap .i64 (p2 + 1))
      else none
    else none
  else
    some (p1, ()) := by
  rewrite [h_laws_toIntA3S_3]
  exact e_laws_toIntA3S_3 N P_laws_toIntA3 m0 p0 p1 p2

/- 31: loop.example/g01166/laws.toHeap -/
abbrev As_laws_toHeap : List ATy := [.data true T_Heap]
abbrev R_laws_toHeap : List (Bool × Ty) := [(true, T_Heap)]
abbrev M_laws_toHeap : List RMode := [.own 79]
abbrev Ft_laws_toHeap : Type := D_Heap × Unit → Option (D_Heap × Unit)
noncomputable def X_laws_toHeap (n : Nat) (F_laws_toIntA3S : Ft_laws_toIntA3S) : Ctx := { types := TT, globals := [], con := [(45, ⟨As_laws_toIntA3S, R_laws_toIntA3S, M_laws_toIntA3S, F_laws_toIntA3S⟩)], keep := [], results := [.cell 2 38], ntmps := 18, n := n }
noncomputable def B_laws_toHeap : Code := (Tryd.f31.body).getD .skip
theorem e_laws_toHeap (n : Nat) (F_laws_toIntA3S : Ft_laws_toIntA3S) (a0 : D_Heap) : runF (X_laws_toHeap n F_laws_toIntA3S) B_laws_toHeap As_laws_toHeap R_laws_toHeap M_laws_toHeap (a0, ()) = 
  Option.bind (F_laws_toIntA3S (a0.2.2.2.1, ())) fun r0 =>
  some ((a0.1, (a0.2.1, (a0.2.2.1, (r0.1, ())))), ()) := by kernel_rfl
noncomputable def P_laws_toHeap : Ft_laws_toHeap := hid (runF (X_laws_toHeap N P_laws_toIntA3S) B_laws_toHeap As_laws_toHeap R_laws_toHeap M_laws_toHeap)
theorem h_laws_toHeap : P_laws_toHeap = runF (X_laws_toHeap N P_laws_toIntA3S) B_laws_toHeap As_laws_toHeap R_laws_toHeap M_laws_toHeap := hid_eq _
noncomputable def C_laws_toHeap : Contract := ⟨As_laws_toHeap, R_laws_toHeap, M_laws_toHeap, P_laws_toHeap⟩
theorem s_laws_toHeap : Sound Tryd.prog GG 31 C_laws_toHeap := by
  unfold C_laws_toHeap; rw [h_laws_toHeap]
  exact sound_of_run (fn := Tryd.f31) hmix hstable (tyOK_of ttOK) (hglob (X_laws_toHeap N P_laws_toIntA3S)) (conOK_of (X := X_laws_toHeap N P_laws_toIntA3S) ⟨s_laws_toIntA3S, trivial⟩) (mconOK_of (X := X_laws_toHeap N P_laws_toIntA3S) trivial) (by kernel_rfl) (by kernel_rfl) (by kernel_rfl) (by kernel_rfl) (by kernel_rfl) (of_decide_eq_true (by kernel_rfl))
theorem p_laws_toHeap (a0 : D_Heap) : P_laws_toHeap (a0, ()) = 
  Option.bind (P_laws_toIntA3S (a0.2.2.2.1, ())) fun r0 =>
  some ((a0.1, (a0.2.1, (a0.2.2.1, (r0.1, ())))), ()) := by
  rewrite [h_laws_toHeap]
  exact e_laws_toHeap N P_laws_toIntA3S a0

/- 19: loop.example/g01166/laws.toBench -/
abbrev As_laws_toBench : List ATy := [.data true T_Bench]
abbrev R_laws_toBench : List (Bool × Ty) := [(true, T_Bench)]
abbrev M_laws_toBench : List RMode := [.own 79]
abbrev Ft_laws_toBench : Type := D_Bench × Unit → Option (D_Bench × Unit)
noncomputable def X_laws_toBench (n : Nat) (F_laws_toHeap : Ft_laws_toHeap) : Ctx := { types := TT, globals := [], con := [(31, ⟨As_laws_toHeap, R_laws_toHeap, M_laws_toHeap, F_laws_toHeap⟩)], keep := [], results := [.cell 2 40], ntmps := 15, n := n }
noncomputable def B_laws_toBench : Code := (Tryd.f19.body).getD .skip
theorem e_laws_toBench (n : Nat) (F_laws_toHeap : Ft_laws_toHeap) (a0 : D_Bench) : runF (X_laws_toBench n F_laws_toHeap) B_laws_toBench As_laws_toBench R_laws_toBench M_laws_toBench (a0, ()) = 
  Option.bind (F_laws_toHeap (a0.1, ())) fun r0 =>
  some ((r0.1, a0.2), ()) := by kernel_rfl
noncomputable def P_laws_toBench : Ft_laws_toBench := hid (runF (X_laws_toBench N P_laws_toHeap) B_laws_toBench As_laws_toBench R_laws_toBench M_laws_toBench)
theorem h_laws_toBench : P_laws_toBench = runF (X_laws_toBench N P_laws_toHeap) B_laws_toBench As_laws_toBench R_laws_toBench M_laws_toBench := hid_eq _
noncomputable def C_laws_toBench : Contract := ⟨As_laws_toBench, R_laws_toBench, M_laws_toBench, P_laws_toBench⟩
theorem s_laws_toBench : Sound Tryd.prog GG 19 C_laws_toBench := by
  unfold C_laws_toBench; rw [h_laws_toBench]
  exact sound_of_run (fn := Tryd.f19) hmix hstable (tyOK_of ttOK) (hglob (X_laws_toBench N P_laws_toHeap)) (conOK_of (X := X_laws_toBench N P_laws_toHeap) ⟨s_laws_toHeap, trivial⟩) (mconOK_of (X := X_laws_toBench N P_laws_toHeap) trivial) (by kernel_rfl) (by kernel_rfl) (by kernel_rfl) (by kernel_rfl) (by kernel_rfl) (of_decide_eq_true (by kernel_rfl))
theorem p_laws_toBench (a0 : D_Bench) : P_laws_toBench (a0, ()) = 
  Option.bind (P_laws_toHeap (a0.1, ())) fun r0 =>
  some ((r0.1, a0.2), ()) := by
  rewrite [h_laws_toBench]
  exact e_laws_toBench N P_laws_toHeap a0

/- 11: loop.example/g01166/laws.toConsole -/
abbrev As_laws_toConsole : List ATy := [.data true T_Console]
abbrev R_laws_toConsole : List (Bool × Ty) := [(true, T_Console)]
abbrev M_laws_toConsole : List RMode := [.own 79]
abbrev Ft_laws_toConsole : Type := D_Console × Unit → Option (D_Console × Unit)
noncomputable def X_laws_toConsole (n : Nat) (F_laws_toLog : Ft_laws_toLog) (F_laws_toBench : Ft_laws_toBench) : Ctx := { types := TT, globals := [], con := [(7, ⟨As_laws_toLog, R_laws_toLog, M_laws_toLog, F_laws_toLog⟩), (19, ⟨As_laws_toBench, R_laws_toBench, M_laws_toBench, F_laws_toBench⟩)], keep := [], results := [.cell 2 42], ntmps := 13, n := n }
noncomputable def B_laws_toConsole : Code := (Tryd.f11.body).getD .skip
theorem e_laws_toConsole (n : Nat) (F_laws_toLog : Ft_laws_toLog) (F_laws_toBench : Ft_laws_toBench) (a0 : D_Console) : runF (X_laws_toConsole n F_laws_toLog F_laws_toBench) B_laws_toConsole As_laws_toConsole R_laws_toConsole M_laws_toConsole (a0, ()) = 
  Option.bind (F_laws_toBench (a0.1, ())) fun r0 =>
  Option.bind (F_laws_toLog (a0.2.1, ())) fun r1 =>
  some ((r0.1, (r1.1, ())), ()) := by kernel_rfl
noncomputable def P_laws_toConsole : Ft_laws_toConsole := hid (runF (X_laws_toConsole N P_laws_toLog P_laws_toBench) B_laws_toConsole As_laws_toConsole R_laws_toConsole M_laws_toConsole)
theorem h_laws_toConsole : P_laws_toConsole = runF (X_laws_toConsole N P_laws_toLog P_laws_toBench) B_laws_toConsole As_laws_toConsole R_laws_toConsole M_laws_toConsole := hid_eq _
noncomputable def C_laws_toConsole : Contract := ⟨As_laws_toConsole, R_laws_toConsole, M_laws_toConsole, P_laws_toConsole⟩
theorem s_laws_toConsole : Sound Tryd.prog GG 11 C_laws_toConsole := by
  unfold C_laws_toConsole; rw [h_laws_toConsole]
  exact sound_of_run (fn := Tryd.f11) hmix hstable (tyOK_of ttOK) (hglob (X_laws_toConsole N P_laws_toLog P_laws_toBench)) (conOK_of (X := X_laws_toConsole N P_laws_toLog P_laws_toBench) ⟨s_laws_toLog, s_laws_toBench, trivial⟩) (mconOK_of (X := X_laws_toConsole N P_laws_toLog P_laws_toBench) trivial) (by kernel_rfl) (by kernel_rfl) (by kernel_rfl) (by kernel_rfl) (by kernel_rfl) (of_decide_eq_true (by kernel_rfl))
theorem p_laws_toConsole (a0 : D_Console) : P_laws_toConsole (a0, ()) = 
  Option.bind (P_laws_toBench (a0.1, ())) fun r0 =>
  Option.bind (P_laws_toLog (a0.2.1, ())) fun r1 =>
  some ((r0.1, (r1.1, ())), ()) := by
  rewrite [h_laws_toConsole]
  exact e_laws_toConsole N P_laws_toLog P_laws_toBench a0

/- 56: loop.example/g01166/impl.checksum -/
abbrev As_impl_checksum : List ATy := [.data false .str]
abbrev R_impl_checksum : List (Bool × Ty) := [(false, (.int .i64))]
abbrev M_impl_checksum : List RMode := []
abbrev Ft_impl_checksum : Type := (List UInt8) × Unit → Option (Int × Unit)
noncomputable def X_impl_checksum (n : Nat) : Ctx := { types := TT, globals := [], con := [], keep := [(3, ⟨[.tmp 0, .tmp 3, .tmp 6, .tmp 7], []⟩)], results := [.tmp 2], ntmps := 21, n := n }
noncomputable def B_impl_checksum : Code := (Tryd.f56.body).getD .skip
noncomputable def L_impl_checksum_3 (n : Nat) (m0 : Nat) (p0 : List UInt8) (p1 : Int) (p2 : Int) (p3 : Int) : Option (denL R_impl_checksum) := loopF (X_impl_checksum n) B_impl_checksum R_impl_checksum M_impl_checksum 3 [m0] [(.ver, .num 1), (.tmp 0, .val false [.str p0]), (.tmp 3, .val false [.int .i64 p1]), (.tmp 6, .val false [.int .i64 p2]), (.tmp 7, .val false [.int .i64 p3])]
theorem e_impl_checksum (n : Nat) (a0 : List UInt8) : runF (X_impl_checksum n) B_impl_checksum As_impl_checksum R_impl_checksum M_impl_checksum (a0, ()) = 
  L_impl_checksum_3 n n a0 7 (List.length a0 : Int) 0 := by kernel_rfl
theorem e_impl_checksum_3 (n : Nat) (m0 : Nat) (p0 : List UInt8) (p1 : Int) (p2 : Int) (p3 : Int) : L_impl_checksum_3 n (m0 + 1) p0 p1 p2 p3 = 
  bif decide (p3 < p2) then
    bif inB p3 (List.length p0) then
      L_impl_checksum_3 n m0 p0 (Int.tmod (IntKind.wrap .i64 ((IntKind.wrap .i64 ((IntKind.wrap .i64 (41 * p1)) + (IntKind.wrap .i64 (byteAt p0 p3)))) + 1)) 999979) p2 (IntKind.wrap .i64 (p3 + 1))
    else none
  else
    some (p1, ()) := by kernel_rfl
noncomputable def P_impl_checksum : Ft_impl_checksum := hid (runF (X_impl_checksum N) B_impl_checksum As_impl_checksum R_impl_checksum M_impl_checksum)
theorem h_impl_checksum : P_impl_checksum = runF (X_impl_checksum N) B_impl_checksum As_impl_checksum R_impl_checksum M_impl_checksum := hid_eq _
noncomputable def C_impl_checksum : Contract := ⟨As_impl_checksum, R_impl_checksum, M_impl_checksum, P_impl_checksum⟩
theorem s_impl_checksum : Sound Tryd.prog GG 56 C_impl_checksum := by
  unfold C_impl_checksum; rw [h_impl_checksum]
  exact sound_of_run (fn := Tryd.f56) hmix hstable (tyOK_of ttOK) (hglob (X_impl_checksum N)) (conOK_of (X := X_impl_checksum N) trivial) (mconOK_of (X := X_impl_checksum N) trivial) (by kernel_rfl) (by kernel_rfl) (by kernel_rfl) (by kernel_rfl) (by kernel_rfl) (of_decide_eq_true (by kernel_rfl))
noncomputable def l_impl_checksum_3 : Nat → (List UInt8) → Int → Int → Int → Option (denL R_impl_checksum) := hid (fun m0 p0 p1 p2 p3 => L_impl_checksum_3 N m0 p0 p1 p2 p3)
theorem h_impl_checksum_3 : l_impl_checksum_3 = fun m0 p0 p1 p2 p3 => L_impl_checksum_3 N m0 p0 p1 p2 p3 := hid_eq _
theorem p_impl_checksum (a0 : List UInt8) : P_impl_checksum (a0, ()) = 
  l_impl_checksum_3 N a0 7 (List.length a0 : Int) 0 := by
  rewrite [h_impl_checksum, h_impl_checksum_3]
  exact e_impl_checksum N a0
theorem q_impl_checksum_3 (m0 : Nat) (p0 : List UInt8) (p1 : Int) (p2 : Int) (p3 : Int) : l_impl_checksum_3 (m0 + 1) p0 p1 p2 p3 = 
  bif decide (p3 < p2) then
    bif inB p3 (List.length p0) then
      l_impl_checksum_3 m0 p0 (Int.tmod (IntKind.wrap .i64 ((IntKind.wrap .i64 ((IntKind.wrap .i64 (41 * p1)) + (IntKind.wrap .i64 (byteAt p0 p3)))) + 1)) 999979) p2 (IntKind.wrap .i64 (p3 + 1))
    else none
  else
    some (p1, ()) := by
  rewrite [h_impl_checksum_3]
  exact e_impl_checksum_3 N m0 p0 p1 p2 p3

/- 40: strconv.Itoa: GIVEN -/
abbrev As_strconv_Itoa : List ATy := [.data false (.int .i64)]
abbrev R_strconv_Itoa : List (Bool × Ty) := [(false, .str)]
abbrev M_strconv_Itoa : List RMode := []
abbrev Ft_strconv_Itoa : Type := Int × Unit → Option ((List UInt8) × Unit)
noncomputable def P_strconv_Itoa : Ft_strconv_Itoa := fun x => bif decide (-9223372036854775808 ≤ x.1) && decide (x.1 ≤ 9223372036854775807) then some (Lib.itoa x.1, ()) else none
noncomputable def C_strconv_Itoa : Contract := ⟨As_strconv_Itoa, R_strconv_Itoa, M_strconv_Itoa, P_strconv_Itoa⟩
theorem s_strconv_Itoa : Sound Tryd.prog GG 40 C_strconv_Itoa := by
  refine sound_flat (fn := Tryd.f40) (c := (Tryd.f40.body).getD .skip) (by decide) (by decide) Tryd.func40 (by kernel_rfl) (by kernel_rfl) ?_
  rintro w ⟨n, ⟨⟩⟩ ⟨r, ⟨⟩⟩ hG hF
  have hF : (bif decide (-9223372036854775808 ≤ n) && decide (n ≤ 9223372036854775807) then some (Lib.itoa n, ()) else none) = some (r, ()) := hF
  cases h : decide (-9223372036854775808 ≤ n) && decide (n ≤ 9223372036854775807) with
  | false => rw [h] at hF; cases hF
  | true =>
    rw [h] at hF
    simp only [Bool.and_eq_true, decide_eq_true_eq] at h
    have hr : Lib.itoa n = r := by simpa using hF
    rw [← hr]
    refine (Tryd.strconv_Itoa n h.1 h.2 w hG.2.1).mono ?_
    rintro e w' ⟨rfl, k, os, rfl⟩
    exact ⟨rfl, below_grew w k os⟩
/- 55: strings.Contains: GIVEN -/
abbrev As_strings_Contains : List ATy := [.data false .str, .data false .str]
abbrev R_strings_Contains : List (Bool × Ty) := [(false, .bool)]
abbrev M_strings_Contains : List RMode := []
abbrev Ft_strings_Contains : Type := (List UInt8) × (List UInt8) × Unit → Option (Bool × Unit)
noncomputable def P_strings_Contains : Ft_strings_Contains := fun x => bif decide (x.2.1.length = 1) then some (decide (0 ≤ Lib.indexByte x.1 (x.2.1.headD 0)), ()) else none
noncomputable def C_strings_Contains : Contract := ⟨As_strings_Contains, R_strings_Contains, M_strings_Contains, P_strings_Contains⟩
theorem s_strings_Contains : Sound Tryd.prog GG 55 C_strings_Contains := by
  refine sound_flat (fn := Tryd.f55) (c := (Tryd.f55.body).getD .skip) (by decide) (by decide) Tryd.func55 (by kernel_rfl) (by kernel_rfl) ?_
  rintro w ⟨s, sub, ⟨⟩⟩ ⟨r, ⟨⟩⟩ _ hF
  have hF : (bif decide (sub.length = 1) then some (decide (0 ≤ Lib.indexByte s (sub.headD 0)), ()) else none) = some (r, ()) := hF
  match sub, hF with
  | [c], hF =>
    have hr : decide (0 ≤ Lib.indexByte s c) = r := by simpa using hF
    rw [← hr]
    refine (Tryd.strings_Contains_one ⟨s.toArray⟩ c w).mono ?_
    rintro e w' ⟨rfl, rfl⟩
    exact ⟨rfl, RowKit.Below.refl _ _⟩
  | [], hF => cases hF
  | _ :: _ :: _, hF =>
    simp at hF
/- 38: loop.example/g01166/impl.AppendChecksum -/
abbrev As_impl_AppendChecksum : List ATy := [.data false .str]
abbrev R_impl_AppendChecksum : List (Bool × Ty) := [(false, .str), (false, .bool)]
abbrev M_impl_AppendChecksum : List RMode := []
abbrev Ft_impl_AppendChecksum : Type := (List UInt8) × Unit → Option ((List UInt8) × Bool × Unit)
noncomputable def X_impl_AppendChecksum (n : Nat) (F_strconv_Itoa : Ft_strconv_Itoa) (F_strings_Contains : Ft_strings_Contains) (F_impl_checksum : Ft_impl_checksum) : Ctx := { types := TT, globals := [], con := [(40, ⟨As_strconv_Itoa, R_strconv_Itoa, M_strconv_Itoa, F_strconv_Itoa⟩), (55, ⟨As_strings_Contains, R_strings_Contains, M_strings_Contains, F_strings_Contains⟩), (56, ⟨As_impl_checksum, R_impl_checksum, M_impl_checksum, F_impl_checksum⟩)], keep := [], results := [.tmp 2, .tmp 3], ntmps := 22, n := n }
noncomputable def B_impl_AppendChecksum : Code := (Tryd.f38.body).getD .skip
theorem e_impl_AppendChecksum (n : Nat) (F_strconv_Itoa : Ft_strconv_Itoa) (F_strings_Contains : Ft_strings_Contains) (F_impl_checksum : Ft_impl_checksum) (a0 : List UInt8) : runF (X_impl_AppendChecksum n F_strconv_Itoa F_strings_Contains F_impl_checksum) B_impl_AppendChecksum As_impl_AppendChecksum R_impl_AppendChecksum M_impl_AppendChecksum (a0, ()) = 
  bif decide ((List.length a0 : Int) > 4000) then
    some (([] : List UInt8), false, ())
  else
    Option.bind (F_strings_Contains (a0, ([35] : List UInt8), ())) fun r1 =>
    bif r1.1 then
      some (([] : List UInt8), false, ())
    else
      Option.bind (catS a0 ([35] : List UInt8)) fun r3 =>
      Option.bind (F_impl_checksum (a0, ())) fun r4 =>
      Option.bind (F_strconv_Itoa (r4.1, ())) fun r5 =>
      Option.bind (catS r3 r5.1) fun r6 =>
      bif decide ((List.length r6 : Int) > 4000) then
        some (([] : List UInt8), false, ())
      else
        some (r6, true, ()) := by kernel_rfl
noncomputable def P_impl_AppendChecksum : Ft_impl_AppendChecksum := hid (runF (X_impl_AppendChecksum N P_strconv_Itoa P_strings_Contains P_impl_checksum) B_impl_AppendChecksum As_impl_AppendChecksum R_impl_AppendChecksum M_impl_AppendChecksum)
theorem h_impl_AppendChecksum : P_impl_AppendChecksum = runF (X_impl_AppendChecksum N P_strconv_Itoa P_strings_Contains P_impl_checksum) B_impl_AppendChecksum As_impl_AppendChecksum R_impl_AppendChecksum M_impl_AppendChecksum := hid_eq _
noncomputable def C_impl_AppendChecksum : Contract := ⟨As_impl_AppendChecksum, R_impl_AppendChecksum, M_impl_AppendChecksum, P_impl_AppendChecksum⟩
theorem s_impl_AppendChecksum : Sound Tryd.prog GG 38 C_impl_AppendChecksum := by
  unfold C_impl_AppendChecksum; rw [h_impl_AppendChecksum]
  exact sound_of_run (fn := Tryd.f38) hmix hstable (tyOK_of ttOK) (hglob (X_impl_AppendChecksum N P_strconv_Itoa P_strings_Contains P_impl_checksum)) (conOK_of (X := X_impl_AppendChecksum N P_strconv_Itoa P_strings_Contains P_impl_checksum) ⟨s_strconv_Itoa, s_strings_Contains, s_impl_checksum, trivial⟩) (mconOK_of (X := X_impl_AppendChecksum N P_strconv_Itoa P_strings_Contains P_impl_checksum) trivial) (by kernel_rfl) (by kernel_rfl) (by kernel_rfl) (by kernel_rfl) (by kernel_rfl) (of_decide_eq_true (by kernel_rfl))
theorem p_impl_AppendChecksum (a0 : List UInt8) : P_impl_AppendChecksum (a0, ()) = 
  bif decide ((List.length a0 : Int) > 4000) then
    some (([] : List UInt8), false, ())
  else
    Option.bind (P_strings_Contains (a0, ([35] : List UInt8), ())) fun r1 =>
    bif r1.1 then
      some (([] : List UInt8), false, ())
    else
      Option.bind (catS a0 ([35] : List UInt8)) fun r3 =>
      Option.bind (P_impl_checksum (a0, ())) fun r4 =>
      Option.bind (P_strconv_Itoa (r4.1, ())) fun r5 =>
      Option.bind (catS r3 r5.1) fun r6 =>
      bif decide ((List.length r6 : Int) > 4000) then
        some (([] : List UInt8), false, ())
      else
        some (r6, true, ()) := by
  rewrite [h_impl_AppendChecksum]
  exact e_impl_AppendChecksum N P_strconv_Itoa P_strings_Contains P_impl_checksum a0

/- 24: strings.Cut: GIVEN -/
abbrev As_strings_Cut : List ATy := [.data false .str, .data false .str]
abbrev R_strings_Cut : List (Bool × Ty) := [(false, .str), (false, .str), (false, .bool)]
abbrev M_strings_Cut : List RMode := []
abbrev Ft_strings_Cut : Type := (List UInt8) × (List UInt8) × Unit → Option ((List UInt8) × (List UInt8) × Bool × Unit)
noncomputable def P_strings_Cut : Ft_strings_Cut := fun x => bif decide (x.1.length < 4294967281) then some ((Lib.cut x.1 x.2.1).1, (Lib.cut x.1 x.2.1).2.1, (Lib.cut x.1 x.2.1).2.2, ()) else none
noncomputable def C_strings_Cut : Contract := ⟨As_strings_Cut, R_strings_Cut, M_strings_Cut, P_strings_Cut⟩
theorem s_strings_Cut : Sound Tryd.prog GG 24 C_strings_Cut := by
  refine sound_flat (fn := Tryd.f24) (c := (Tryd.f24.body).getD .skip) (by decide) (by decide) Tryd.func24 (by kernel_rfl) (by kernel_rfl) ?_
  rintro w ⟨s, sep, ⟨⟩⟩ ⟨r1, r2, r3, ⟨⟩⟩ hG hF
  have hF : (bif decide (s.length < 4294967281) then some ((Lib.cut s sep).1, (Lib.cut s sep).2.1, (Lib.cut s sep).2.2, ()) else none) = some (r1, r2, r3, ()) := hF
  by_cases h : s.length < 4294967281
  · rw [decide_eq_true h] at hF
    obtain ⟨_, _, m, hm⟩ := hG
    have hr : (Lib.cut s sep).1 = r1 ∧ (Lib.cut s sep).2.1 = r2 ∧ (Lib.cut s sep).2.2 = r3 := by simpa using hF
    rw [← hr.1, ← hr.2.1, ← hr.2.2]
    refine (Tryd.strings_Cut ⟨s.toArray⟩ ⟨sep.toArray⟩ m w (by simpa [ByteArray.size] using h) hm).mono ?_
    rintro e w' ⟨rfl, n, rfl⟩
    exact ⟨rfl, below_drew w n⟩
  · rw [decide_eq_false h] at hF; cases hF
/- 25: loop.example/g01166/impl.VerifyChecksum -/
abbrev As_impl_VerifyChecksum : List ATy := [.data false .str]
abbrev R_impl_VerifyChecksum : List (Bool × Ty) := [(false, .str), (false, .bool)]
abbrev M_impl_VerifyChecksum : List RMode := []
abbrev Ft_impl_VerifyChecksum : Type := (List UInt8) × Unit → Option ((List UInt8) × Bool × Unit)
noncomputable def X_impl_VerifyChecksum (n : Nat) (F_strings_Cut : Ft_strings_Cut) (F_impl_AppendChecksum : Ft_impl_AppendChecksum) : Ctx := { types := TT, globals := [], con := [(24, ⟨As_strings_Cut, R_strings_Cut, M_strings_Cut, F_strings_Cut⟩), (38, ⟨As_impl_AppendChecksum, R_impl_AppendChecksum, M_impl_AppendChecksum, F_impl_AppendChecksum⟩)], keep := [], results := [.tmp 2, .tmp 3], ntmps := 28, n := n }
noncomputable def B_impl_VerifyChecksum : Code := (Tryd.f25.body).getD .skip
theorem e_impl_VerifyChecksum (n : Nat) (F_strings_Cut : Ft_strings_Cut) (F_impl_AppendChecksum : Ft_impl_AppendChecksum) (a0 : List UInt8) : runF (X_impl_VerifyChecksum n F_strings_Cut F_impl_AppendChecksum) B_impl_VerifyChecksum As_impl_VerifyChecksum R_impl_VerifyChecksum M_impl_VerifyChecksum (a0, ()) = 
  Option.bind (F_strings_Cut (a0, ([35] : List UInt8), ())) fun r0 =>
  Option.bind (F_impl_AppendChecksum (r0.1, ())) fun r1 =>
  bif !r1.2.1 then
    some (([] : List UInt8), false, ())
  else
    bif !(r1.1 == a0) then
      some (([] : List UInt8), false, ())
    else
      some (r0.1, true, ()) := by kernel_rfl
noncomputable def P_impl_VerifyChecksum : Ft_impl_VerifyChecksum := hid (runF (X_impl_VerifyChecksum N P_strings_Cut P_impl_AppendChecksum) B_impl_VerifyChecksum As_impl_VerifyChecksum R_impl_VerifyChecksum M_impl_VerifyChecksum)
theorem h_impl_VerifyChecksum : P_impl_VerifyChecksum = runF (X_impl_VerifyChecksum N P_strings_Cut P_impl_AppendChecksum) B_impl_VerifyChecksum As_impl_VerifyChecksum R_impl_VerifyChecksum M_impl_VerifyChecksum := hid_eq _
noncomputable def C_impl_VerifyChecksum : Contract := ⟨As_impl_VerifyChecksum, R_impl_VerifyChecksum, M_impl_VerifyChecksum, P_impl_VerifyChecksum⟩
theorem s_impl_VerifyChecksum : Sound Tryd.prog GG 25 C_impl_VerifyChecksum := by
  unfold C_impl_VerifyChecksum; rw [h_impl_VerifyChecksum]
  exact sound_of_run (fn := Tryd.f25) hmix hstable (tyOK_of ttOK) (hglob (X_impl_VerifyChecksum N P_strings_Cut P_impl_AppendChecksum)) (conOK_of (X := X_impl_VerifyChecksum N P_strings_Cut P_impl_AppendChecksum) ⟨s_strings_Cut, s_impl_AppendChecksum, trivial⟩) (mconOK_of (X := X_impl_VerifyChecksum N P_strings_Cut P_impl_AppendChecksum) trivial) (by kernel_rfl) (by kernel_rfl) (by kernel_rfl) (by kernel_rfl) (by kernel_rfl) (of_decide_eq_true (by kernel_rfl))
theorem p_impl_VerifyChecksum (a0 : List UInt8) : P_impl_VerifyChecksum (a0, ()) = 
  Option.bind (P_strings_Cut (a0, ([35] : List UInt8), ())) fun r0 =>
  Option.bind (P_impl_AppendChecksum (r0.1, ())) fun r1 =>
  bif !r1.2.1 then
    some (([] : List UInt8), false, ())
  else
    bif !(r1.1 == a0) then
      some (([] : List UInt8), false, ())
    else
      some (r0.1, true, ()) := by
  rewrite [h_impl_VerifyChecksum]
  exact e_impl_VerifyChecksum N P_strings_Cut P_impl_AppendChecksum a0

/- 33: loop.example/g01166/impl.within -/
abbrev As_impl_within : List ATy := [.data false (.int .i64), .data false (.int .i64), .data false (.int .i64)]
abbrev R_impl_within : List (Bool × Ty) := [(false, .bool)]
abbrev M_impl_within : List RMode := []
abbrev Ft_impl_within : Type := Int × Int × Int × Unit → Option (Bool × Unit)
noncomputable def X_impl_within (n : Nat) : Ctx := { types := TT, globals := [], con := [], keep := [], results := [.tmp 6], ntmps := 15, n := n }
noncomputable def B_impl_within : Code := (Tryd.f33.body).getD .skip
theorem e_impl_within (n : Nat) (a0 : Int) (a1 : Int) (a2 : Int) : runF (X_impl_within n) B_impl_within As_impl_within R_impl_within M_impl_within (a0, a1, a2, ()) = 
  bif decide (a0 ≥ a1) then
    some (decide (a0 ≤ a2), ())
  else
    some (false, ()) := by kernel_rfl
noncomputable def P_impl_within : Ft_impl_within := hid (runF (X_impl_within N) B_impl_within As_impl_within R_impl_within M_impl_within)
theorem h_impl_within : P_impl_within = runF (X_impl_within N) B_impl_within As_impl_within R_impl_within M_impl_within := hid_eq _
noncomputable def C_impl_within : Contract := ⟨As_impl_within, R_impl_within, M_impl_within, P_impl_within⟩
theorem s_impl_within : Sound Tryd.prog GG 33 C_impl_within := by
  unfold C_impl_within; rw [h_impl_within]
  exact sound_of_run (fn := Tryd.f33) hmix hstable (tyOK_of ttOK) (hglob (X_impl_within N)) (conOK_of (X := X_impl_within N) trivial) (mconOK_of (X := X_impl_within N) trivial) (by kernel_rfl) (by kernel_rfl) (by kernel_rfl) (by kernel_rfl) (by kernel_rfl) (of_decide_eq_true (by kernel_rfl))
theorem p_impl_within (a0 : Int) (a1 : Int) (a2 : Int) : P_impl_within (a0, a1, a2, ()) = 
  bif decide (a0 ≥ a1) then
    some (decide (a0 ≤ a2), ())
  else
    some (false, ()) := by
  rewrite [h_impl_within]
  exact e_impl_within N a0 a1 a2

/- 71: strings.ContainsAny: GIVEN -/
abbrev As_strings_ContainsAny : List ATy := [.data false .str, .data false .str]
abbrev R_strings_ContainsAny : List (Bool × Ty) := [(false, .bool)]
abbrev M_strings_ContainsAny : List RMode := []
abbrev Ft_strings_ContainsAny : Type := (List UInt8) × (List UInt8) × Unit → Option (Bool × Unit)
def ascii (s : List UInt8) : Bool := decide (s.length < 4294967281) && s.all fun b => decide (b.toNat < 128)
noncomputable def P_strings_ContainsAny : Ft_strings_ContainsAny := fun x => bif ascii x.1 && ascii x.2.1 then some (Lib.containsAny x.1 x.2.1, ()) else none
noncomputable def C_strings_ContainsAny : Contract := ⟨As_strings_ContainsAny, R_strings_ContainsAny, M_strings_ContainsAny, P_strings_ContainsAny⟩
theorem ascii_at {s : List UInt8} (h : ascii s = true) (j : Nat) (b : UInt8) (hj : s[j]? = some b) : b.toNat < 128 := by
  simp only [ascii, Bool.and_eq_true, List.all_eq_true, decide_eq_true_eq] at h
  exact h.2 b (List.mem_of_getElem? hj)
theorem s_strings_ContainsAny : Sound Tryd.prog GG 71 C_strings_ContainsAny := by
  refine sound_flat (fn := Tryd.f71) (c := (Tryd.f71.body).getD .skip) (by decide) (by decide) Tryd.func71 (by kernel_rfl) (by kernel_rfl) ?_
  rintro w ⟨s, ch, ⟨⟩⟩ ⟨r, ⟨⟩⟩ _ hF
  have hF : (bif ascii s && ascii ch then some (Lib.containsAny s ch, ()) else none) = some (r, ()) := hF
  cases h : ascii s && ascii ch with
  | false => rw [h] at hF; cases hF
  | true =>
    rw [h] at hF
    simp only [Bool.and_eq_true] at h
    obtain ⟨h1, h2⟩ := h
    have hr : Lib.containsAny s ch = r := by simpa using hF
    have hl1 : s.length < 4294967281 := by simp only [ascii, Bool.and_eq_true, decide_eq_true_eq] at h1; exact h1.1
    have hl2 : ch.length < 4294967281 := by simp only [ascii, Bool.and_eq_true, decide_eq_true_eq] at h2; exact h2.1
    have := Tryd.strings_ContainsAny_laid ⟨s.toArray⟩ ⟨ch.toArray⟩ w (by simpa [ByteArray.size] using hl1) (by simpa [ByteArray.size] using hl2) (fun j b hj => ascii_at h1 j b (by simpa using hj)) (fun j b hj => ascii_at h2 j b (by simpa using hj))
    rw [← hr]
    exact this
/- 58: loop.example/g01166/impl.isPlain -/
abbrev As_impl_isPlain : List ATy := [.data false .str, .data false (.int .i64), .data false .str]
abbrev R_impl_isPlain : List (Bool × Ty) := [(false, .bool)]
abbrev M_impl_isPlain : List RMode := []
abbrev Ft_impl_isPlain : Type := (List UInt8) × Int × (List UInt8) × Unit → Option (Bool × Unit)
noncomputable def X_impl_isPlain (n : Nat) (F_strings_ContainsAny : Ft_strings_ContainsAny) : Ctx := { types := TT, globals := [], con := [(71, ⟨As_strings_ContainsAny, R_strings_ContainsAny, M_strings_ContainsAny, F_strings_ContainsAny⟩)], keep := [(2, ⟨[.tmp 0, .tmp 1, .tmp 2, .tmp 9, .tmp 10], []⟩)], results := [.tmp 6], ntmps := 34, n := n }
noncomputable def B_impl_isPlain : Code := (Tryd.f58.body).getD .skip
noncomputable def L_impl_isPlain_2 (n : Nat) (F_strings_ContainsAny : Ft_strings_ContainsAny) (m0 : Nat) (p0 : List UInt8) (p1 : Int) (p2 : List UInt8) (p3 : Int) (p4 : Int) : Option (denL R_impl_isPlain) := loopF (X_impl_isPlain n F_strings_ContainsAny) B_impl_isPlain R_impl_isPlain M_impl_isPlain 2 [m0] [(.ver, .num 1), (.tmp 0, .val false [.str p0]), (.tmp 1, .val false [.int .i64 p1]), (.tmp 2, .val false [.str p2]), (.tmp 9, .val false [.int .i64 p3]), (.tmp 10, .val false [.int .i64 p4])]
theorem e_impl_isPlain (n : Nat) (F_strings_ContainsAny : Ft_strings_ContainsAny) (a0 : List UInt8) (a1 : Int) (a2 : List UInt8) : runF (X_impl_isPlain n F_strings_ContainsAny) B_impl_isPlain As_impl_isPlain R_impl_isPlain M_impl_isPlain (a0, a1, a2, ()) = 
  L_impl_isPlain_2 n F_strings_ContainsAny n a0 a1 a2 (List.length a0 : Int) 0 := by kernel_rfl
theorem e_impl_isPlain_2 (n : Nat) (F_strings_ContainsAny : Ft_strings_ContainsAny) (m0 : Nat) (p0 : List UInt8) (p1 : Int) (p2 : List UInt8) (p3 : Int) (p4 : Int) : L_impl_isPlain_2 n F_strings_ContainsAny (m0 + 1) p0 p1 p2 p3 p4 = 
  bif decide (p4 < p3) then
    bif inB p4 (List.length p0) then
      bif decide ((byteAt p0 p4) < 32) then
        some (false, ())
      else
        bif inB p4 (List.length p0) then
          bif decide ((byteAt p0 p4) > 126) then
            some (false, ())
          else
            L_impl_isPlain_2 n F_strings_ContainsAny m0 p0 p1 p2 p3 (IntKind.wrap .i64 (p4 + 1))
        else none
    else none
  else
    bif decide ((List.length p0 : Int) ≤ p1) then
      Option.bind (F_strings_ContainsAny (p0, p2, ())) fun r2 =>
      some (!r2.1, ())
    else
      some (false, ()) := by kernel_rfl
noncomputable def P_impl_isPlain : Ft_impl_isPlain := hid (runF (X_impl_isPlain N P_strings_ContainsAny) B_impl_isPlain As_impl_isPlain R_impl_isPlain M_impl_isPlain)
theorem h_impl_isPlain : P_impl_isPlain = runF (X_impl_isPlain N P_strings_ContainsAny) B_impl_isPlain As_impl_isPlain R_impl_isPlain M_impl_isPlain := hid_eq _
noncomputable def C_impl_isPlain : Contract := ⟨As_impl_isPlain, R_impl_isPlain, M_impl_isPlain, P_impl_isPlain⟩
theorem s_impl_isPlain : Sound Tryd.prog GG 58 C_impl_isPlain := by
  unfold C_impl_isPlain; rw [h_impl_isPlain]
  exact sound_of_run (fn := Tryd.f58) hmix hstable (tyOK_of ttOK) (hglob (X_impl_isPlain N P_strings_ContainsAny)) (conOK_of (X := X_impl_isPlain N P_strings_ContainsAny) ⟨s_strings_ContainsAny, trivial⟩) (mconOK_of (X := X_impl_isPlain N P_strings_ContainsAny) trivial) (by kernel_rfl) (by kernel_rfl) (by kernel_rfl) (by kernel_rfl) (by kernel_rfl) (of_decide_eq_true (by kernel_rfl))
noncomputable def l_impl_isPlain_2 : Nat → (List UInt8) → Int → (List UInt8) → Int → Int → Option (denL R_impl_isPlain) := hid (fun m0 p0 p1 p2 p3 p4 => L_impl_isPlain_2 N P_strings_ContainsAny m0 p0 p1 p2 p3 p4)
theorem h_impl_isPlain_2 : l_impl_isPlain_2 = fun m0 p0 p1 p2 p3 p4 => L_impl_isPlain_2 N P_strings_ContainsAny m0 p0 p1 p2 p3 p4 := hid_eq _
theorem p_impl_isPlain (a0 : List UInt8) (a1 : Int) (a2 : List UInt8) : P_impl_isPlain (a0, a1, a2, ()) = 
  l_impl_isPlain_2 N a0 a1 a2 (List.length a0 : Int) 0 := by
  rewrite [h_impl_isPlain, h_impl_isPlain_2]
  exact e_impl_isPlain N P_strings_ContainsAny a0 a1 a2
theorem q_impl_isPlain_2 (m0 : Nat) (p0 : List UInt8) (p1 : Int) (p2 : List UInt8) (p3 : Int) (p4 : Int) : l_impl_isPlain_2 (m0 + 1) p0 p1 p2 p3 p4 = 
  bif decide (p4 < p3) then
    bif inB p4 (List.length p0) then
      bif decide ((byteAt p0 p4) < 32) then
        some (false, ())
      else
        bif inB p4 (List.length p0) then
          bif decide ((byteAt p0 p4) > 126) then
            some (false, ())
          else
            l_impl_isPlain_2 m0 p0 p1 p2 p3 (IntKind.wrap .i64 (p4 + 1))
        else none
    else none
  else
    bif decide ((List.length p0 : Int) ≤ p1) then
      Option.bind (P_strings_ContainsAny (p0, p2, ())) fun r2 =>
      some (!r2.1, ())
    else
      some (false, ()) := by
  rewrite [h_impl_isPlain_2]
  exact e_impl_isPlain_2 N P_strings_ContainsAny m0 p0 p1 p2 p3 p4

/- 57: loop.example/g01166/impl.isCommand -/
abbrev As_impl_isCommand : List ATy := [.data false .str]
abbrev R_impl_isCommand : List (Bool × Ty) := [(false, .bool)]
abbrev M_impl_isCommand : List RMode := []
abbrev Ft_impl_isCommand : Type := (List UInt8) × Unit → Option (Bool × Unit)
noncomputable def X_impl_isCommand (n : Nat) (F_impl_isPlain : Ft_impl_isPlain) : Ctx := { types := TT, globals := [], con := [(58, ⟨As_impl_isPlain, R_impl_isPlain, M_impl_isPlain, F_impl_isPlain⟩)], keep := [], results := [.tmp 2], ntmps := 9, n := n }
noncomputable def B_impl_isCommand : Code := (Tryd.f57.body).getD .skip
theorem e_impl_isCommand (n : Nat) (F_impl_isPlain : Ft_impl_isPlain) (a0 : List UInt8) : runF (X_impl_isCommand n F_impl_isPlain) B_impl_isCommand As_impl_isCommand R_impl_isCommand M_impl_isCommand (a0, ()) = 
  bif !(a0 == ([] : List UInt8)) then
    Option.bind (F_impl_isPlain (a0, 160, ([35, 64] : List UInt8), ())) fun r1 =>
    some (r1.1, ())
  else
    some (false, ()) := by kernel_rfl
noncomputable def P_impl_isCommand : Ft_impl_isCommand := hid (runF (X_impl_isCommand N P_impl_isPlain) B_impl_isCommand As_impl_isCommand R_impl_isCommand M_impl_isCommand)
theorem h_impl_isCommand : P_impl_isCommand = runF (X_impl_isCommand N P_impl_isPlain) B_impl_isCommand As_impl_isCommand R_impl_isCommand M_impl_isCommand := hid_eq _
noncomputable def C_impl_isCommand : Contract := ⟨As_impl_isCommand, R_impl_isCommand, M_impl_isCommand, P_impl_isCommand⟩
theorem s_impl_isCommand : Sound Tryd.prog GG 57 C_impl_isCommand := by
  unfold C_impl_isCommand; rw [h_impl_isCommand]
  exact sound_of_run (fn := Tryd.f57) hmix hstable (tyOK_of ttOK) (hglob (X_impl_isCommand N P_impl_isPlain)) (conOK_of (X := X_impl_isCommand N P_impl_isPlain) ⟨s_impl_isPlain, trivial⟩) (mconOK_of (X := X_impl_isCommand N P_impl_isPlain) trivial) (by kernel_rfl) (by kernel_rfl) (by kernel_rfl) (by kernel_rfl) (by kernel_rfl) (of_decide_eq_true (by kernel_rfl))
theorem p_impl_isCommand (a0 : List UInt8) : P_impl_isCommand (a0, ()) = 
  bif !(a0 == ([] : List UInt8)) then
    Option.bind (P_impl_isPlain (a0, 160, ([35, 64] : List UInt8), ())) fun r1 =>
    some (r1.1, ())
  else
    some (false, ()) := by
  rewrite [h_impl_isCommand]
  exact e_impl_isCommand N P_impl_isPlain a0

/- 39: loop.example/g01166/impl.IsValidRecord -/
abbrev As_impl_IsValidRecord : List ATy := [.data true T_LogRecord]
abbrev R_impl_IsValidRecord : List (Bool × Ty) := [(false, .bool)]
abbrev M_impl_IsValidRecord : List RMode := []
abbrev Ft_impl_IsValidRecord : Type := D_LogRecord × Unit → Option (Bool × Unit)
noncomputable def X_impl_IsValidRecord (n : Nat) (F_impl_isCommand : Ft_impl_isCommand) (F_impl_isPlain : Ft_impl_isPlain) : Ctx := { types := TT, globals := [], con := [(57, ⟨As_impl_isCommand, R_impl_isCommand, M_impl_isCommand, F_impl_isCommand⟩), (58, ⟨As_impl_isPlain, R_impl_isPlain, M_impl_isPlain, F_impl_isPlain⟩)], keep := [], results := [.tmp 2], ntmps := 11, n := n }
noncomputable def B_impl_IsValidRecord : Code := (Tryd.f39.body).getD .skip
theorem e_impl_IsValidRecord (n : Nat) (F_impl_isCommand : Ft_impl_isCommand) (F_impl_isPlain : Ft_impl_isPlain) (a0 : D_LogRecord) : runF (X_impl_IsValidRecord n F_impl_isCommand F_impl_isPlain) B_impl_IsValidRecord As_impl_IsValidRecord R_impl_IsValidRecord M_impl_IsValidRecord (a0, ()) = 
  Option.bind (F_impl_isCommand (a0.1, ())) fun r0 =>
  bif r0.1 then
    Option.bind (F_impl_isPlain (a0.2.1, 300, ([35] : List UInt8), ())) fun r2 =>
    some (r2.1, ())
  else
    some (false, ()) := by kernel_rfl
noncomputable def P_impl_IsValidRecord : Ft_impl_IsValidRecord := hid (runF (X_impl_IsValidRecord N P_impl_isCommand P_impl_isPlain) B_impl_IsValidRecord As_impl_IsValidRecord R_impl_IsValidRecord M_impl_IsValidRecord)
theorem h_impl_IsValidRecord : P_impl_IsValidRecord = runF (X_impl_IsValidRecord N P_impl_isCommand P_impl_isPlain) B_impl_IsValidRecord As_impl_IsValidRecord R_impl_IsValidRecord M_impl_IsValidRecord := hid_eq _
noncomputable def C_impl_IsValidRecord : Contract := ⟨As_impl_IsValidRecord, R_impl_IsValidRecord, M_impl_IsValidRecord, P_impl_IsValidRecord⟩
theorem s_impl_IsValidRecord : Sound Tryd.prog GG 39 C_impl_IsValidRecord := by
  unfold C_impl_IsValidRecord; rw [h_impl_IsValidRecord]
  exact sound_of_run (fn := Tryd.f39) hmix hstable (tyOK_of ttOK) (hglob (X_impl_IsValidRecord N P_impl_isCommand P_impl_isPlain)) (conOK_of (X := X_impl_IsValidRecord N P_impl_isCommand P_impl_isPlain) ⟨s_impl_isCommand, s_impl_isPlain, trivial⟩) (mconOK_of (X := X_impl_IsValidRecord N P_impl_isCommand P_impl_isPlain) trivial) (by kernel_rfl) (by kernel_rfl) (by kernel_rfl) (by kernel_rfl) (by kernel_rfl) (of_decide_eq_true (by kernel_rfl))
theorem p_impl_IsValidRecord (a0 : D_LogRecord) : P_impl_IsValidRecord (a0, ()) = 
  Option.bind (P_impl_isCommand (a0.1, ())) fun r0 =>
  bif r0.1 then
    Option.bind (P_impl_isPlain (a0.2.1, 300, ([35] : List UInt8), ())) fun r2 =>
    some (r2.1, ())
  else
    some (false, ()) := by
  rewrite [h_impl_IsValidRecord]
  exact e_impl_IsValidRecord N P_impl_isCommand P_impl_isPlain a0

/- 26: loop.example/g01166/impl.EncodeRecord -/
abbrev As_impl_EncodeRecord : List ATy := [.data false (.int .i64), .data true T_LogRecord]
abbrev R_impl_EncodeRecord : List (Bool × Ty) := [(false, .str), (false, .bool)]
abbrev M_impl_EncodeRecord : List RMode := []
abbrev Ft_impl_EncodeRecord : Type := Int × D_LogRecord × Unit → Option ((List UInt8) × Bool × Unit)
noncomputable def X_impl_EncodeRecord (n : Nat) (F_impl_within : Ft_impl_within) (F_impl_AppendChecksum : Ft_impl_AppendChecksum) (F_impl_IsValidRecord : Ft_impl_IsValidRecord) (F_strconv_Itoa : Ft_strconv_Itoa) : Ctx := { types := TT, globals := [], con := [(33, ⟨As_impl_within, R_impl_within, M_impl_within, F_impl_within⟩), (38, ⟨As_impl_AppendChecksum, R_impl_AppendChecksum, M_impl_AppendChecksum, F_impl_AppendChecksum⟩), (39, ⟨As_impl_IsValidRecord, R_impl_IsValidRecord, M_impl_IsValidRecord, F_impl_IsValidRecord⟩), (40, ⟨As_strconv_Itoa, R_strconv_Itoa, M_strconv_Itoa, F_strconv_Itoa⟩)], keep := [], results := [.tmp 4, .tmp 5], ntmps := 32, n := n }
noncomputable def B_impl_EncodeRecord : Code := (Tryd.f26.body).getD .skip
theorem e_impl_EncodeRecord (n : Nat) (F_impl_within : Ft_impl_within) (F_impl_AppendChecksum : Ft_impl_AppendChecksum) (F_impl_IsValidRecord : Ft_impl_IsValidRecord) (F_strconv_Itoa : Ft_strconv_Itoa) (a0 : Int) (a1 : D_LogRecord) : runF (X_impl_EncodeRecord n F_impl_within F_impl_AppendChecksum F_impl_IsValidRecord F_strconv_Itoa) B_impl_EncodeRecord As_impl_EncodeRecord R_impl_EncodeRecord M_impl_EncodeRecord (a0, a1, ()) = 
  Option.bind (F_impl_within (a0, 0, 59, ())) fun r0 =>
  bif !r0.1 then
    some (([] : List UInt8), false, ())
  else
    Option.bind (F_impl_IsValidRecord (a1, ())) fun r2 =>
    bif !r2.1 then
      some (([] : List UInt8), false, ())
    else
      Option.bind (F_strconv_Itoa (a0, ())) fun r4 =>
      Option.bind (catS r4.1 ([32] : List UInt8)) fun r5 =>
      Option.bind (catS r5 a1.1) fun r6 =>
      Option.bind (catS r6 ([64] : List UInt8)) fun r7 =>
      Option.bind (catS r7 a1.2.1) fun r8 =>
      Option.bind (F_impl_AppendChecksum (r8, ())) fun r9 =>
      Option.bind (catS r9.1 ([10] : List UInt8)) fun r10 =>
      some (r10, true, ()) := by kernel_rfl
noncomputable def P_impl_EncodeRecord : Ft_impl_EncodeRecord := hid (runF (X_impl_EncodeRecord N P_impl_within P_impl_AppendChecksum P_impl_IsValidRecord P_strconv_Itoa) B_impl_EncodeRecord As_impl_EncodeRecord R_impl_EncodeRecord M_impl_EncodeRecord)
theorem h_impl_EncodeRecord : P_impl_EncodeRecord = runF (X_impl_EncodeRecord N P_impl_within P_impl_AppendChecksum P_impl_IsValidRecord P_strconv_Itoa) B_impl_EncodeRecord As_impl_EncodeRecord R_impl_EncodeRecord M_impl_EncodeRecord := hid_eq _
noncomputable def C_impl_EncodeRecord : Contract := ⟨As_impl_EncodeRecord, R_impl_EncodeRecord, M_impl_EncodeRecord, P_impl_EncodeRecord⟩
theorem s_impl_EncodeRecord : Sound Tryd.prog GG 26 C_impl_EncodeRecord := by
  unfold C_impl_EncodeRecord; rw [h_impl_EncodeRecord]
  exact sound_of_run (fn := Tryd.f26) hmix hstable (tyOK_of ttOK) (hglob (X_impl_EncodeRecord N P_impl_within P_impl_AppendChecksum P_impl_IsValidRecord P_strconv_Itoa)) (conOK_of (X := X_impl_EncodeRecord N P_impl_within P_impl_AppendChecksum P_impl_IsValidRecord P_strconv_Itoa) ⟨s_impl_within, s_impl_AppendChecksum, s_impl_IsValidRecord, s_strconv_Itoa, trivial⟩) (mconOK_of (X := X_impl_EncodeRecord N P_impl_within P_impl_AppendChecksum P_impl_IsValidRecord P_strconv_Itoa) trivial) (by kernel_rfl) (by kernel_rfl) (by kernel_rfl) (by kernel_rfl) (by kernel_rfl) (of_decide_eq_true (by kernel_rfl))
theorem p_impl_EncodeRecord (a0 : Int) (a1 : D_LogRecord) : P_impl_EncodeRecord (a0, a1, ()) = 
  Option.bind (P_impl_within (a0, 0, 59, ())) fun r0 =>
  bif !r0.1 then
    some (([] : List UInt8), false, ())
  else
    Option.bind (P_impl_IsValidRecord (a1, ())) fun r2 =>
    bif !r2.1 then
      some (([] : List UInt8), false, ())
    else
      Option.bind (P_strconv_Itoa (a0, ())) fun r4 =>
      Option.bind (catS r4.1 ([32] : List UInt8)) fun r5 =>
      Option.bind (catS r5 a1.1) fun r6 =>
      Option.bind (catS r6 ([64] : List UInt8)) fun r7 =>
      Option.bind (catS r7 a1.2.1) fun r8 =>
      Option.bind (P_impl_AppendChecksum (r8, ())) fun r9 =>
      Option.bind (catS r9.1 ([10] : List UInt8)) fun r10 =>
      some (r10, true, ()) := by
  rewrite [h_impl_EncodeRecord]
  exact e_impl_EncodeRecord N P_impl_within P_impl_AppendChecksum P_impl_IsValidRecord P_strconv_Itoa a0 a1

/- 15: loop.example/g01166/impl.readRecords -/
abbrev As_impl_readRecords : List ATy := [.data false .str]
abbrev R_impl_readRecords : List (Bool × Ty) := [(false, (.sl T_LogRecord)), (false, (.sl (.int .i64)))]
abbrev M_impl_readRecords : List RMode := [.own 63, .own 3]
abbrev Ft_impl_readRecords : Type := (List UInt8) × Unit → Option ((List D_LogRecord) × (List Int) × Unit)
noncomputable def X_impl_readRecords (n : Nat) (F_strings_Cut : Ft_strings_Cut) (F_impl_VerifyChecksum : Ft_impl_VerifyChecksum) (F_impl_EncodeRecord : Ft_impl_EncodeRecord) : Ctx := { types := TT, globals := [], con := [(24, ⟨As_strings_Cut, R_strings_Cut, M_strings_Cut, F_strings_Cut⟩), (25, ⟨As_impl_VerifyChecksum, R_impl_VerifyChecksum, M_impl_VerifyChecksum, F_impl_VerifyChecksum⟩), (26, ⟨As_impl_EncodeRecord, R_impl_EncodeRecord, M_impl_EncodeRecord, F_impl_EncodeRecord⟩)], keep := [(2, ⟨[.tmp 0, .tmp 4, .tmp 5, .tmp 6], []⟩)], results := [.tmp 2, .tmp 3], ntmps := 83, n := n }
noncomputable def B_impl_readRecords : Code := (Tryd.f15.body).getD .skip
noncomputable def L_impl_readRecords_2 (n : Nat) (F_strings_Cut : Ft_strings_Cut) (F_impl_VerifyChecksum : Ft_impl_VerifyChecksum) (F_impl_EncodeRecord : Ft_impl_EncodeRecord) (m0 : Nat) (p0 : List UInt8) (p1 : List D_LogRecord) (p2 : List Int) (p3 : Int) : Option (denL R_impl_readRecords) := loopF (X_impl_readRecords n F_strings_Cut F_impl_VerifyChecksum F_impl_EncodeRecord) B_impl_readRecords R_impl_readRecords M_impl_readRecords 2 [m0] [(.ver, .num 1), (.tmp 0, .val false [.str p0]), (.tmp 4, .val false [.own 63 T_LogRecord 0 p1]), (.tmp 5, .val false [.own 3 (.int .i64) 0 p2]), (.tmp 6, .val false [.int .i64 p3])]
theorem e_impl_readRecords (n : Nat) (F_strings_Cut : Ft_strings_Cut) (F_impl_VerifyChecksum : Ft_impl_VerifyChecksum) (F_impl_EncodeRecord : Ft_impl_EncodeRecord) (a0 : List UInt8) : runF (X_impl_readRecords n F_strings_Cut F_impl_VerifyChecksum F_impl_EncodeRecord) B_impl_readRecords As_impl_readRecords R_impl_readRecords M_impl_readRecords (a0, ()) = 
  L_impl_readRecords_2 n F_strings_Cut F_impl_VerifyChecksum F_impl_EncodeRecord n a0 ([] : List D_LogRecord) ([0] : List Int) 0 := by kernel_rfl
theorem e_impl_readRecords_2 (n : Nat) (F_strings_Cut : Ft_strings_Cut) (F_impl_VerifyChecksum : Ft_impl_VerifyChecksum) (F_impl_EncodeRecord : Ft_impl_EncodeRecord) (m0 : Nat) (p0 : List UInt8) (p1 : List D_LogRecord) (p2 : List Int) (p3 : Int) : L_impl_readRecords_2 n F_strings_Cut F_impl_VerifyChecksum F_impl_EncodeRecord (m0 + 1) p0 p1 p2 p3 = 
  bif decide ((List.length p1 : Int) < 60) then
    bif (decide ((0 : Int) ≤ p3) && decide (p3 ≤ (List.length p0 : Int)) && decide ((List.length p0 : Int) ≤ (List.length p0 : Int))) then
      Option.bind (F_strings_Cut ((cut p0 p3 (List.length p0 : Int)), ([10] : List UInt8), ())) fun r2 =>
      bif !r2.2.2.1 then
        some (p1, p2, ())
      else
        Option.bind (F_impl_VerifyChecksum (r2.1, ())) fun r4 =>
        Option.bind (F_strings_Cut (r4.1, ([32] : List UInt8), ())) fun r5 =>
        Option.bind (F_strings_Cut (r5.2.1, ([64] : List UInt8), ())) fun r6 =>
        Option.bind (F_impl_EncodeRecord ((List.length p1 : Int), (r6.1, (r6.2.1, ())), ())) fun r7 =>
        bif !r7.2.1 then
          some (p1, p2, ())
        else
          Option.bind (catS r2.1 ([10] : List UInt8)) fun r9 =>
          bif !(r7.1 == r9) then
            some (p1, p2, ())
          else
            bif (decide (((List.length p1) + (List.length ([(r6.1, (r6.2.1, ()))] : List D_LogRecord))) * 32 ≤ 140737488355328) && decide (((List.length p1) + (List.length ([(r6.1, (r6.2.1, ()))] : List D_LogRecord))) ≤ 140737488355328)) then
              bif (decide (((List.length p2) + (List.length ([(IntKind.wrap .i64 (p3 + (IntKind.wrap .i64 ((List.length r2.1 : Int) + 1))))] : List Int))) * 8 ≤ 140737488355328) && decide (((List.length p2) + (List.length ([(IntKind.wrap .i64 (p3 + (IntKind.wrap .i64 ((List.length r2.1 : Int) + 1))))] : List Int))) ≤ 140737488355328)) then
                L_impl_readRecords_2 n F_strings_Cut F_impl_VerifyChecksum F_impl_EncodeRecord m0 p0 (p1 ++ ([(r6.1, (r6.2.1, ()))] : List D_LogRecord)) (p2 ++ ([(IntKind.wrap .i64 (p3 + (IntKind.wrap .i64 ((List.length r2.1 : Int) + 1))))] : List Int)) (IntKind.wrap .i64 (p3 + (IntKind.wrap .i64 ((List.length r2.1 : Int) + 1))))
              else none
            else none
    else none
  else
    some (p1, p2, ()) := by kernel_rfl
noncomputable def P_impl_readRecords : Ft_impl_readRecords := hid (runF (X_impl_readRecords N P_strings_Cut P_impl_VerifyChecksum P_impl_EncodeRecord) B_impl_readRecords As_impl_readRecords R_impl_readRecords M_impl_readRecords)
theorem h_impl_readRecords : P_impl_readRecords = runF (X_impl_readRecords N P_strings_Cut P_impl_VerifyChecksum P_impl_EncodeRecord) B_impl_readRecords As_impl_readRecords R_impl_readRecords M_impl_readRecords := hid_eq _
noncomputable def C_impl_readRecords : Contract := ⟨As_impl_readRecords, R_impl_readRecords, M_impl_readRecords, P_impl_readRecords⟩
theorem s_impl_readRecords : Sound Tryd.prog GG 15 C_impl_readRecords := by
  unfold C_impl_readRecords; rw [h_impl_readRecords]
  exact sound_of_run (fn := Tryd.f15) hmix hstable (tyOK_of ttOK) (hglob (X_impl_readRecords N P_strings_Cut P_impl_VerifyChecksum P_impl_EncodeRecord)) (conOK_of (X := X_impl_readRecords N P_strings_Cut P_impl_VerifyChecksum P_impl_EncodeRecord) ⟨s_strings_Cut, s_impl_VerifyChecksum, s_impl_EncodeRecord, trivial⟩) (mconOK_of (X := X_impl_readRecords N P_strings_Cut P_impl_VerifyChecksum P_impl_EncodeRecord) trivial) (by kernel_rfl) (by kernel_rfl) (by kernel_rfl) (by kernel_rfl) (by kernel_rfl) (of_decide_eq_true (by kernel_rfl))
noncomputable def l_impl_readRecords_2 : Nat → (List UInt8) → (List D_LogRecord) → (List Int) → Int → Option (denL R_impl_readRecords) := hid (fun m0 p0 p1 p2 p3 => L_impl_readRecords_2 N P_strings_Cut P_impl_VerifyChecksum P_impl_EncodeRecord m0 p0 p1 p2 p3)
theorem h_impl_readRecords_2 : l_impl_readRecords_2 = fun m0 p0 p1 p2 p3 => L_impl_readRecords_2 N P_strings_Cut P_impl_VerifyChecksum P_impl_EncodeRecord m0 p0 p1 p2 p3 := hid_eq _
theorem p_impl_readRecords (a0 : List UInt8) : P_impl_readRecords (a0, ()) = 
  l_impl_readRecords_2 N a0 ([] : List D_LogRecord) ([0] : List Int) 0 := by
  rewrite [h_impl_readRecords, h_impl_readRecords_2]
  exact e_impl_readRecords N P_strings_Cut P_impl_VerifyChecksum P_impl_EncodeRecord a0
theorem q_impl_readRecords_2 (m0 : Nat) (p0 : List UInt8) (p1 : List D_LogRecord) (p2 : List Int) (p3 : Int) : l_impl_readRecords_2 (m0 + 1) p0 p1 p2 p3 = 
  bif decide ((List.length p1 : Int) < 60) then
    bif (decide ((0 : Int) ≤ p3) && decide (p3 ≤ (List.length p0 : Int)) && decide ((List.length p0 : Int) ≤ (List.length p0 : Int))) then
      Option.bind (P_strings_Cut ((cut p0 p3 (List.length p0 : Int)), ([10] : List UInt8), ())) fun r2 =>
      bif !r2.2.2.1 then
        some (p1, p2, ())
      else
        Option.bind (P_impl_VerifyChecksum (r2.1, ())) fun r4 =>
        Option.bind (P_strings_Cut (r4.1, ([32] : List UInt8), ())) fun r5 =>
        Option.bind (P_strings_Cut (r5.2.1, ([64] : List UInt8), ())) fun r6 =>
        Option.bind (P_impl_EncodeRecord ((List.length p1 : Int), (r6.1, (r6.2.1, ())), ())) fun r7 =>
        bif !r7.2.1 then
          some (p1, p2, ())
        else
          Option.bind (catS r2.1 ([10] : List UInt8)) fun r9 =>
          bif !(r7.1 == r9) then
            some (p1, p2, ())
          else
            bif (decide (((List.length p1) + (List.length ([(r6.1, (r6.2.1, ()))] : List D_LogRecord))) * 32 ≤ 140737488355328) && decide (((List.length p1) + (List.length ([(r6.1, (r6.2.1, ()))] : List D_LogRecord))) ≤ 140737488355328)) then
              bif (decide (((List.length p2) + (List.length ([(IntKind.wrap .i64 (p3 + (IntKind.wrap .i64 ((List.length r2.1 : Int) + 1))))] : List Int))) * 8 ≤ 140737488355328) && decide (((List.length p2) + (List.length ([(IntKind.wrap .i64 (p3 + (IntKind.wrap .i64 ((List.length r2.1 : Int) + 1))))] : List Int))) ≤ 140737488355328)) then
                l_impl_readRecords_2 m0 p0 (p1 ++ ([(r6.1, (r6.2.1, ()))] : List D_LogRecord)) (p2 ++ ([(IntKind.wrap .i64 (p3 + (IntKind.wrap .i64 ((List.length r2.1 : Int) + 1))))] : List Int)) (IntKind.wrap .i64 (p3 + (IntKind.wrap .i64 ((List.length r2.1 : Int) + 1))))
              else none
            else none
    else none
  else
    some (p1, p2, ()) := by
  rewrite [h_impl_readRecords_2]
  exact e_impl_readRecords_2 N P_strings_Cut P_impl_VerifyChecksum P_impl_EncodeRecord m0 p0 p1 p2 p3

/- 27: slices.Index[[]int,int] -/
abbrev As_slices_Index_int_int : List ATy := [.data false (.sl (.int .i64)), .data false (.int .i64)]
abbrev R_slices_Index_int_int : List (Bool × Ty) := [(false, (.int .i64))]
abbrev M_slices_Index_int_int : List RMode := []
abbrev Ft_slices_Index_int_int : Type := (List Int) × Int × Unit → Option (Int × Unit)
noncomputable def X_slices_Index_int_int (n : Nat) : Ctx := { types := TT, globals := [], con := [], keep := [(2, ⟨[.tmp 0, .tmp 1, .tmp 7, .tmp 8], []⟩)], results := [.tmp 4], ntmps := 19, n := n }
noncomputable def B_slices_Index_int_int : Code := (Tryd.f27.body).getD .skip
noncomputable def L_slices_Index_int_int_2 (n : Nat) (m0 : Nat) (p0 : List Int) (p1 : Int) (p2 : Int) (p3 : Int) : Option (denL R_slices_Index_int_int) := loopF (X_slices_Index_int_int n) B_slices_Index_int_int R_slices_Index_int_int M_slices_Index_int_int 2 [m0] [(.ver, .num 1), (.tmp 0, .val false [.imm (.int .i64) p0 (some 0)]), (.tmp 1, .val false [.int .i64 p1]), (.tmp 7, .val false [.int .i64 p2]), (.tmp 8, .val false [.int .i64 p3])]
theorem e_slices_Index_int_int (n : Nat) (a0 : List Int) (a1 : Int) : runF (X_slices_Index_int_int n) B_slices_Index_int_int As_slices_Index_int_int R_slices_Index_int_int M_slices_Index_int_int (a0, a1, ()) = 
  L_slices_Index_int_int_2 n n a0 a1 (List.length a0 : Int) 0 := by kernel_rfl
theorem e_slices_Index_int_int_2 (n : Nat) (m0 : Nat) (p0 : List Int) (p1 : Int) (p2 : Int) (p3 : Int) : L_slices_Index_int_int_2 n (m0 + 1) p0 p1 p2 p3 = 
  bif decide (p3 < p2) then
    bif inB p3 (List.length p0) then
      bif decide (p1 = (nth ((.int .i64) : Ty) p0 p3)) then
        some (p3, ())
      else
        L_slices_Index_int_int_2 n m0 p0 p1 p2 (IntKind.wrap .i64 (p3 + 1))
    else none
  else
    some ((-1), ()) := by kernel_rfl
noncomputable def P_slices_Index_int_int : Ft_slices_Index_int_int := hid (runF (X_slices_Index_int_int N) B_slices_Index_int_int As_slices_Index_int_int R_slices_Index_int_int M_slices_Index_int_int)
theorem h_slices_Index_int_int : P_slices_Index_int_int = runF (X_slices_Index_int_int N) B_slices_Index_int_int As_slices_Index_int_int R_slices_Index_int_int M_slices_Index_int_int := hid_eq _
noncomputable def C_slices_Index_int_int : Contract := ⟨As_slices_Index_int_int, R_slices_Index_int_int, M_slices_Index_int_int, P_slices_Index_int_int⟩
theorem s_slices_Index_int_int : Sound Tryd.prog GG 27 C_slices_Index_int_int := by
  unfold C_slices_Index_int_int; rw [h_slices_Index_int_int]
  exact sound_of_run (fn := Tryd.f27) hmix hstable (tyOK_of ttOK) (hglob (X_slices_Index_int_int N)) (conOK_of (X := X_slices_Index_int_int N) trivial) (mconOK_of (X := X_slices_Index_int_int N) trivial) (by kernel_rfl) (by kernel_rfl) (by kernel_rfl) (by kernel_rfl) (by kernel_rfl) (of_decide_eq_true (by kernel_rfl))
noncomputable def l_slices_Index_int_int_2 : Nat → (List Int) → Int → Int → Int → Option (denL R_slices_Index_int_int) := hid (fun m0 p0 p1 p2 p3 => L_slices_Index_int_int_2 N m0 p0 p1 p2 p3)
theorem h_slices_Index_int_int_2 : l_slices_Index_int_int_2 = fun m0 p0 p1 p2 p3 => L_slices_Index_int_int_2 N m0 p0 p1 p2 p3 := hid_eq _
theorem p_slices_Index_int_int (a0 : List Int) (a1 : Int) : P_slices_Index_int_int (a0, a1, ()) = 
  l_slices_Index_int_int_2 N a0 a1 (List.length a0 : Int) 0 := by
  rewrite [h_slices_Index_int_int, h_slices_Index_int_int_2]
  exact e_slices_Index_int_int N a0 a1
theorem q_slices_Index_int_int_2 (m0 : Nat) (p0 : List Int) (p1 : Int) (p2 : Int) (p3 : Int) : l_slices_Index_int_int_2 (m0 + 1) p0 p1 p2 p3 = 
  bif decide (p3 < p2) then
    bif inB p3 (List.length p0) then
      bif decide (p1 = (nth ((.int .i64) : Ty) p0 p3)) then
        some (p3, ())
      else
        l_slices_Index_int_int_2 m0 p0 p1 p2 (IntKind.wrap .i64 (p3 + 1))
    else none
  else
    some ((-1), ()) := by
  rewrite [h_slices_Index_int_int_2]
  exact e_slices_Index_int_int_2 N m0 p0 p1 p2 p3

/- 16: slices.Contains[[]int,int] -/
abbrev As_slices_Contains_int_int : List ATy := [.data false (.sl (.int .i64)), .data false (.int .i64)]
abbrev R_slices_Contains_int_int : List (Bool × Ty) := [(false, .bool)]
abbrev M_slices_Contains_int_int : List RMode := []
abbrev Ft_slices_Contains_int_int : Type := (List Int) × Int × Unit → Option (Bool × Unit)
noncomputable def X_slices_Contains_int_int (n : Nat) (F_slices_Index_int_int : Ft_slices_Index_int_int) : Ctx := { types := TT, globals := [], con := [(27, ⟨As_slices_Index_int_int, R_slices_Index_int_int, M_slices_Index_int_int, F_slices_Index_int_int⟩)], keep := [], results := [.tmp 4], ntmps := 9, n := n }
noncomputable def B_slices_Contains_int_int : Code := (Tryd.f16.body).getD .skip
theorem e_slices_Contains_int_int (n : Nat) (F_slices_Index_int_int : Ft_slices_Index_int_int) (a0 : List Int) (a1 : Int) : runF (X_slices_Contains_int_int n F_slices_Index_int_int) B_slices_Contains_int_int As_slices_Contains_int_int R_slices_Contains_int_int M_slices_Contains_int_int (a0, a1, ()) = 
  Option.bind (F_slices_Index_int_int (a0, a1, ())) fun r0 =>
  some (decide (r0.1 ≥ 0), ()) := by kernel_rfl
noncomputable def P_slices_Contains_int_int : Ft_slices_Contains_int_int := hid (runF (X_slices_Contains_int_int N P_slices_Index_int_int) B_slices_Contains_int_int As_slices_Contains_int_int R_slices_Contains_int_int M_slices_Contains_int_int)
theorem h_slices_Contains_int_int : P_slices_Contains_int_int = runF (X_slices_Contains_int_int N P_slices_Index_int_int) B_slices_Contains_int_int As_slices_Contains_int_int R_slices_Contains_int_int M_slices_Contains_int_int := hid_eq _
noncomputable def C_slices_Contains_int_int : Contract := ⟨As_slices_Contains_int_int, R_slices_Contains_int_int, M_slices_Contains_int_int, P_slices_Contains_int_int⟩
theorem s_slices_Contains_int_int : Sound Tryd.prog GG 16 C_slices_Contains_int_int := by
  unfold C_slices_Contains_int_int; rw [h_slices_Contains_int_int]
  exact sound_of_run (fn := Tryd.f16) hmix hstable (tyOK_of ttOK) (hglob (X_slices_Contains_int_int N P_slices_Index_int_int)) (conOK_of (X := X_slices_Contains_int_int N P_slices_Index_int_int) ⟨s_slices_Index_int_int, trivial⟩) (mconOK_of (X := X_slices_Contains_int_int N P_slices_Index_int_int) trivial) (by kernel_rfl) (by kernel_rfl) (by kernel_rfl) (by kernel_rfl) (by kernel_rfl) (of_decide_eq_true (by kernel_rfl))
theorem p_slices_Contains_int_int (a0 : List Int) (a1 : Int) : P_slices_Contains_int_int (a0, a1, ()) = 
  Option.bind (P_slices_Index_int_int (a0, a1, ())) fun r0 =>
  some (decide (r0.1 ≥ 0), ()) := by
  rewrite [h_slices_Contains_int_int]
  exact e_slices_Contains_int_int N P_slices_Index_int_int a0 a1

/- 8: loop.example/g01166/impl.IsValidLog -/
abbrev As_impl_IsValidLog : List ATy := [.data true T_Log]
abbrev R_impl_IsValidLog : List (Bool × Ty) := [(false, .bool)]
abbrev M_impl_IsValidLog : List RMode := []
abbrev Ft_impl_IsValidLog : Type := D_Log × Unit → Option (Bool × Unit)
noncomputable def X_impl_IsValidLog (n : Nat) (F_impl_readRecords : Ft_impl_readRecords) (F_slices_Contains_int_int : Ft_slices_Contains_int_int) : Ctx := { types := TT, globals := [], con := [(15, ⟨As_impl_readRecords, R_impl_readRecords, M_impl_readRecords, F_impl_readRecords⟩), (16, ⟨As_slices_Contains_int_int, R_slices_Contains_int_int, M_slices_Contains_int_int, F_slices_Contains_int_int⟩)], keep := [], results := [.tmp 2], ntmps := 49, n := n }
noncomputable def B_impl_IsValidLog : Code := (Tryd.f8.body).getD .skip
theorem e_impl_IsValidLog (n : Nat) (F_impl_readRecords : Ft_impl_readRecords) (F_slices_Contains_int_int : Ft_slices_Contains_int_int) (a0 : D_Log) : runF (X_impl_IsValidLog n F_impl_readRecords F_slices_Contains_int_int) B_impl_IsValidLog As_impl_IsValidLog R_impl_IsValidLog M_impl_IsValidLog (a0, ()) = 
  bif decide ((IntKind.wrap .i64 ((List.length a0.1 : Int) + (List.length a0.2.1 : Int))) > 30000) then
    some (false, ())
  else
    Option.bind (catS a0.1 a0.2.1) fun r1 =>
    Option.bind (F_impl_readRecords (r1, ())) fun r2 =>
    bif inB (List.length r2.1 : Int) (List.length r2.2.1) then
      bif decide ((nth ((.int .i64) : Ty) r2.2.1 (List.length r2.1 : Int)) = (IntKind.wrap .i64 ((List.length a0.1 : Int) + (List.length a0.2.1 : Int)))) then
        bif decide (a0.2.2.1 = (List.length r2.1 : Int)) then
          Option.bind (F_slices_Contains_int_int (r2.2.1, (List.length a0.1 : Int), ())) fun r6 =>
          some (r6.1, ())
        else
          some (false, ())
      else
        some (false, ())
    else none := by kernel_rfl
noncomputable def P_impl_IsValidLog : Ft_impl_IsValidLog := hid (runF (X_impl_IsValidLog N P_impl_readRecords P_slices_Contains_int_int) B_impl_IsValidLog As_impl_IsValidLog R_impl_IsValidLog M_impl_IsValidLog)
theorem h_impl_IsValidLog : P_impl_IsValidLog = runF (X_impl_IsValidLog N P_impl_readRecords P_slices_Contains_int_int) B_impl_IsValidLog As_impl_IsValidLog R_impl_IsValidLog M_impl_IsValidLog := hid_eq _
noncomputable def C_impl_IsValidLog : Contract := ⟨As_impl_IsValidLog, R_impl_IsValidLog, M_impl_IsValidLog, P_impl_IsValidLog⟩
theorem s_impl_IsValidLog : Sound Tryd.prog GG 8 C_impl_IsValidLog := by
  unfold C_impl_IsValidLog; rw [h_impl_IsValidLog]
  exact sound_of_run (fn := Tryd.f8) hmix hstable (tyOK_of ttOK) (hglob (X_impl_IsValidLog N P_impl_readRecords P_slices_Contains_int_int)) (conOK_of (X := X_impl_IsValidLog N P_impl_readRecords P_slices_Contains_int_int) ⟨s_impl_readRecords, s_slices_Contains_int_int, trivial⟩) (mconOK_of (X := X_impl_IsValidLog N P_impl_readRecords P_slices_Contains_int_int) trivial) (by kernel_rfl) (by kernel_rfl) (by kernel_rfl) (by kernel_rfl) (by kernel_rfl) (of_decide_eq_true (by kernel_rfl))
theorem p_impl_IsValidLog (a0 : D_Log) : P_impl_IsValidLog (a0, ()) = 
  bif decide ((IntKind.wrap .i64 ((List.length a0.1 : Int) + (List.length a0.2.1 : Int))) > 30000) then
    some (false, ())
  else
    Option.bind (catS a0.1 a0.2.1) fun r1 =>
    Option.bind (P_impl_readRecords (r1, ())) fun r2 =>
    bif inB (List.length r2.1 : Int) (List.length r2.2.1) then
      bif decide ((nth ((.int .i64) : Ty) r2.2.1 (List.length r2.1 : Int)) = (IntKind.wrap .i64 ((List.length a0.1 : Int) + (List.length a0.2.1 : Int)))) then
        bif decide (a0.2.2.1 = (List.length r2.1 : Int)) then
          Option.bind (P_slices_Contains_int_int (r2.2.1, (List.length a0.1 : Int), ())) fun r6 =>
          some (r6.1, ())
        else
          some (false, ())
      else
        some (false, ())
    else none := by
  rewrite [h_impl_IsValidLog]
  exact e_impl_IsValidLog N P_impl_readRecords P_slices_Contains_int_int a0

/- 46: (loop.example/g01166/impl.Heap).box -/
abbrev As_Heap_box : List ATy := [.data true T_Heap]
abbrev R_Heap_box : List (Bool × Ty) := [(true, T_A3)]
abbrev M_Heap_box : List RMode := []
abbrev Ft_Heap_box : Type := D_Heap × Unit → Option (D_A3 × Unit)
noncomputable def X_Heap_box (n : Nat) : Ctx := { types := TT, globals := [], con := [], keep := [], results := [.cell 2 82], ntmps := 10, n := n }
noncomputable def B_Heap_box : Code := (Tryd.f46.body).getD .skip
theorem e_Heap_box (n : Nat) (a0 : D_Heap) : runF (X_Heap_box n) B_Heap_box As_Heap_box R_Heap_box M_Heap_box (a0, ()) = 
  some ((a0.1, (a0.2.1, (a0.2.2.1, ()))), ()) := by kernel_rfl
noncomputable def P_Heap_box : Ft_Heap_box := hid (runF (X_Heap_box N) B_Heap_box As_Heap_box R_Heap_box M_Heap_box)
theorem h_Heap_box : P_Heap_box = runF (X_Heap_box N) B_Heap_box As_Heap_box R_Heap_box M_Heap_box := hid_eq _
noncomputable def C_Heap_box : Contract := ⟨As_Heap_box, R_Heap_box, M_Heap_box, P_Heap_box⟩
theorem s_Heap_box : Sound Tryd.prog GG 46 C_Heap_box := by
  unfold C_Heap_box; rw [h_Heap_box]
  exact sound_of_run (fn := Tryd.f46) hmix hstable (tyOK_of ttOK) (hglob (X_Heap_box N)) (conOK_of (X := X_Heap_box N) trivial) (mconOK_of (X := X_Heap_box N) trivial) (by kernel_rfl) (by kernel_rfl) (by kernel_rfl) (by kernel_rfl) (by kernel_rfl) (of_decide_eq_true (by kernel_rfl))
theorem p_Heap_box (a0 : D_Heap) : P_Heap_box (a0, ()) = 
  some ((a0.1, (a0.2.1, (a0.2.2.1, ()))), ()) := by
  rewrite [h_Heap_box]
  exact e_Heap_box N a0

/- 47: (loop.example/g01166/impl.box).valid -/
abbrev As_box_valid : List ATy := [.data true T_A3]
abbrev R_box_valid : List (Bool × Ty) := [(false, .bool)]
abbrev M_box_valid : List RMode := []
abbrev Ft_box_valid : Type := D_A3 × Unit → Option (Bool × Unit)
noncomputable def X_box_valid (n : Nat) (F_impl_within : Ft_impl_within) : Ctx := { types := TT, globals := [], con := [(33, ⟨As_impl_within, R_impl_within, M_impl_within, F_impl_within⟩)], keep := [], results := [.tmp 2], ntmps := 16, n := n }
noncomputable def B_box_valid : Code := (Tryd.f47.body).getD .skip
theorem e_box_valid (n : Nat) (F_impl_within : Ft_impl_within) (a0 : D_A3) : runF (X_box_valid n F_impl_within) B_box_valid As_box_valid R_box_valid M_box_valid (a0, ()) = 
  Option.bind (F_impl_within (a0.1, 1, 4, ())) fun r0 =>
  bif r0.1 then
    Option.bind (F_impl_within (a0.2.1, 1, 4, ())) fun r2 =>
    bif r2.1 then
      Option.bind (F_impl_within (a0.2.2.1, 1, 4, ())) fun r4 =>
      some (r4.1, ())
    else
      some (false, ())
  else
    some (false, ()) := by kernel_rfl
noncomputable def P_box_valid : Ft_box_valid := hid (runF (X_box_valid N P_impl_within) B_box_valid As_box_valid R_box_valid M_box_valid)
theorem h_box_valid : P_box_valid = runF (X_box_valid N P_impl_within) B_box_valid As_box_valid R_box_valid M_box_valid := hid_eq _
noncomputable def C_box_valid : Contract := ⟨As_box_valid, R_box_valid, M_box_valid, P_box_valid⟩
theorem s_box_valid : Sound Tryd.prog GG 47 C_box_valid := by
  unfold C_box_valid; rw [h_box_valid]
  exact sound_of_run (fn := Tryd.f47) hmix hstable (tyOK_of ttOK) (hglob (X_box_valid N P_impl_within)) (conOK_of (X := X_box_valid N P_impl_within) ⟨s_impl_within, trivial⟩) (mconOK_of (X := X_box_valid N P_impl_within) trivial) (by kernel_rfl) (by kernel_rfl) (by kernel_rfl) (by kernel_rfl) (by kernel_rfl) (of_decide_eq_true (by kernel_rfl))
theorem p_box_valid (a0 : D_A3) : P_box_valid (a0, ()) = 
  Option.bind (P_impl_within (a0.1, 1, 4, ())) fun r0 =>
  bif r0.1 then
    Option.bind (P_impl_within (a0.2.1, 1, 4, ())) fun r2 =>
    bif r2.1 then
      Option.bind (P_impl_within (a0.2.2.1, 1, 4, ())) fun r4 =>
      some (r4.1, ())
    else
      some (false, ())
  else
    some (false, ()) := by
  rewrite [h_box_valid]
  exact e_box_valid N P_impl_within a0

/- 48: (loop.example/g01166/impl.box).has -/
abbrev As_box_has : List ATy := [.data true T_A3, .data true T_A3]
abbrev R_box_has : List (Bool × Ty) := [(false, .bool)]
abbrev M_box_has : List RMode := []
abbrev Ft_box_has : Type := D_A3 × D_A3 × Unit → Option (Bool × Unit)
noncomputable def X_box_has (n : Nat) (F_impl_within : Ft_impl_within) : Ctx := { types := TT, globals := [], con := [(33, ⟨As_impl_within, R_impl_within, M_impl_within, F_impl_within⟩)], keep := [], results := [.tmp 4], ntmps := 27, n := n }
noncomputable def B_box_has : Code := (Tryd.f48.body).getD .skip
theorem e_box_has (n : Nat) (F_impl_within : Ft_impl_within) (a0 : D_A3) (a1 : D_A3) : runF (X_box_has n F_impl_within) B_box_has As_box_has R_box_has M_box_has (a0, a1, ()) = 
  Option.bind (F_impl_within (a1.1, 0, (IntKind.wrap .i64 (a0.1 - 1)), ())) fun r0 =>
  bif r0.1 then
    Option.bind (F_impl_within (a1.2.1, 0, (IntKind.wrap .i64 (a0.2.1 - 1)), ())) fun r2 =>
    bif r2.1 then
      Option.bind (F_impl_within (a1.2.2.1, 0, (IntKind.wrap .i64 (a0.2.2.1 - 1)), ())) fun r4 =>
      some (r4.1, ())
    else
      some (false, ())
  else
    some (false, ()) := by kernel_rfl
noncomputable def P_box_has : Ft_box_has := hid (runF (X_box_has N P_impl_within) B_box_has As_box_has R_box_has M_box_has)
theorem h_box_has : P_box_has = runF (X_box_has N P_impl_within) B_box_has As_box_has R_box_has M_box_has := hid_eq _
noncomputable def C_box_has : Contract := ⟨As_box_has, R_box_has, M_box_has, P_box_has⟩
theorem s_box_has : Sound Tryd.prog GG 48 C_box_has := by
  unfold C_box_has; rw [h_box_has]
  exact sound_of_run (fn := Tryd.f48) hmix hstable (tyOK_of ttOK) (hglob (X_box_has N P_impl_within)) (conOK_of (X := X_box_has N P_impl_within) ⟨s_impl_within, trivial⟩) (mconOK_of (X := X_box_has N P_impl_within) trivial) (by kernel_rfl) (by kernel_rfl) (by kernel_rfl) (by kernel_rfl) (by kernel_rfl) (of_decide_eq_true (by kernel_rfl))
theorem p_box_has (a0 : D_A3) (a1 : D_A3) : P_box_has (a0, a1, ()) = 
  Option.bind (P_impl_within (a1.1, 0, (IntKind.wrap .i64 (a0.1 - 1)), ())) fun r0 =>
  bif r0.1 then
    Option.bind (P_impl_within (a1.2.1, 0, (IntKind.wrap .i64 (a0.2.1 - 1)), ())) fun r2 =>
    bif r2.1 then
      Option.bind (P_impl_within (a1.2.2.1, 0, (IntKind.wrap .i64 (a0.2.2.1 - 1)), ())) fun r4 =>
      some (r4.1, ())
    else
      some (false, ())
  else
    some (false, ()) := by
  rewrite [h_box_has]
  exact e_box_has N P_impl_within a0 a1

/- 82: cmp.isNaN[int] -/
abbrev As_cmp_isNaN_int : List ATy := [.data false (.int .i64)]
abbrev R_cmp_isNaN_int : List (Bool × Ty) := [(false, .bool)]
abbrev M_cmp_isNaN_int : List RMode := []
abbrev Ft_cmp_isNaN_int : Type := Int × Unit → Option (Bool × Unit)
noncomputable def X_cmp_isNaN_int (n : Nat) : Ctx := { types := TT, globals := [], con := [], keep := [], results := [.tmp 2], ntmps := 6, n := n }
noncomputable def B_cmp_isNaN_int : Code := (Tryd.f82.body).getD .skip
theorem e_cmp_isNaN_int (n : Nat) (a0 : Int) : runF (X_cmp_isNaN_int n) B_cmp_isNaN_int As_cmp_isNaN_int R_cmp_isNaN_int M_cmp_isNaN_int (a0, ()) = 
  some (!decide (a0 = a0), ()) := by kernel_rfl
noncomputable def P_cmp_isNaN_int : Ft_cmp_isNaN_int := hid (runF (X_cmp_isNaN_int N) B_cmp_isNaN_int As_cmp_isNaN_int R_cmp_isNaN_int M_cmp_isNaN_int)
theorem h_cmp_isNaN_int : P_cmp_isNaN_int = runF (X_cmp_isNaN_int N) B_cmp_isNaN_int As_cmp_isNaN_int R_cmp_isNaN_int M_cmp_isNaN_int := hid_eq _
noncomputable def C_cmp_isNaN_int : Contract := ⟨As_cmp_isNaN_int, R_cmp_isNaN_int, M_cmp_isNaN_int, P_cmp_isNaN_int⟩
theorem s_cmp_isNaN_int : Sound Tryd.prog GG 82 C_cmp_isNaN_int := by
  unfold C_cmp_isNaN_int; rw [h_cmp_isNaN_int]
  exact sound_of_run (fn := Tryd.f82) hmix hstable (tyOK_of ttOK) (hglob (X_cmp_isNaN_int N)) (conOK_of (X := X_cmp_isNaN_int N) trivial) (mconOK_of (X := X_cmp_isNaN_int N) trivial) (by kernel_rfl) (by kernel_rfl) (by kernel_rfl) (by kernel_rfl) (by kernel_rfl) (of_decide_eq_true (by kernel_rfl))
theorem p_cmp_isNaN_int (a0 : Int) : P_cmp_isNaN_int (a0, ()) = 
  some (!decide (a0 = a0), ()) := by
  rewrite [h_cmp_isNaN_int]
  exact e_cmp_isNaN_int N a0

/- 73: cmp.Compare[int] -/
abbrev As_cmp_Compare_int : List ATy := [.data false (.int .i64), .data false (.int .i64)]
abbrev R_cmp_Compare_int : List (Bool × Ty) := [(false, (.int .i64))]
abbrev M_cmp_Compare_int : List RMode := []
abbrev Ft_cmp_Compare_int : Type := Int × Int × Unit → Option (Int × Unit)
noncomputable def X_cmp_Compare_int (n : Nat) (F_cmp_isNaN_int : Ft_cmp_isNaN_int) : Ctx := { types := TT, globals := [], con := [(82, ⟨As_cmp_isNaN_int, R_cmp_isNaN_int, M_cmp_isNaN_int, F_cmp_isNaN_int⟩)], keep := [], results := [.tmp 4], ntmps := 20, n := n }
noncomputable def B_cmp_Compare_int : Code := (Tryd.f73.body).getD .skip
theorem e_cmp_Compare_int (n : Nat) (F_cmp_isNaN_int : Ft_cmp_isNaN_int) (a0 : Int) (a1 : Int) : runF (X_cmp_Compare_int n F_cmp_isNaN_int) B_cmp_Compare_int As_cmp_Compare_int R_cmp_Compare_int M_cmp_Compare_int (a0, a1, ()) = 
  Option.bind (F_cmp_isNaN_int (a0, ())) fun r0 =>
  Option.bind (F_cmp_isNaN_int (a1, ())) fun r1 =>
  bif r0.1 then
    bif r1.1 then
      some (0, ())
    else
      some ((-1), ())
  else
    bif r1.1 then
      some (1, ())
    else
      bif decide (a0 < a1) then
        some ((-1), ())
      else
        bif decide (a0 > a1) then
          some (1, ())
        else
          some (0, ()) := by kernel_rfl
noncomputable def P_cmp_Compare_int : Ft_cmp_Compare_int := hid (runF (X_cmp_Compare_int N P_cmp_isNaN_int) B_cmp_Compare_int As_cmp_Compare_int R_cmp_Compare_int M_cmp_Compare_int)
theorem h_cmp_Compare_int : P_cmp_Compare_int = runF (X_cmp_Compare_int N P_cmp_isNaN_int) B_cmp_Compare_int As_cmp_Compare_int R_cmp_Compare_int M_cmp_Compare_int := hid_eq _
noncomputable def C_cmp_Compare_int : Contract := ⟨As_cmp_Compare_int, R_cmp_Compare_int, M_cmp_Compare_int, P_cmp_Compare_int⟩
theorem s_cmp_Compare_int : Sound Tryd.prog GG 73 C_cmp_Compare_int := by
  unfold C_cmp_Compare_int; rw [h_cmp_Compare_int]
  exact sound_of_run (fn := Tryd.f73) hmix hstable (tyOK_of ttOK) (hglob (X_cmp_Compare_int N P_cmp_isNaN_int)) (conOK_of (X := X_cmp_Compare_int N P_cmp_isNaN_int) ⟨s_cmp_isNaN_int, trivial⟩) (mconOK_of (X := X_cmp_Compare_int N P_cmp_isNaN_int) trivial) (by kernel_rfl) (by kernel_rfl) (by kernel_rfl) (by kernel_rfl) (by kernel_rfl) (of_decide_eq_true (by kernel_rfl))
theorem p_cmp_Compare_int (a0 : Int) (a1 : Int) : P_cmp_Compare_int (a0, a1, ()) = 
  Option.bind (P_cmp_isNaN_int (a0, ())) fun r0 =>
  Option.bind (P_cmp_isNaN_int (a1, ())) fun r1 =>
  bif r0.1 then
    bif r1.1 then
      some (0, ())
    else
      some ((-1), ())
  else
    bif r1.1 then
      some (1, ())
    else
      bif decide (a0 < a1) then
        some ((-1), ())
      else
        bif decide (a0 > a1) then
          some (1, ())
        else
          some (0, ()) := by
  rewrite [h_cmp_Compare_int]
  exact e_cmp_Compare_int N P_cmp_isNaN_int a0 a1

/- 61: slices.Compare[[]int,int] -/
abbrev As_slices_Compare_int_int : List ATy := [.data false (.sl (.int .i64)), .data false (.sl (.int .i64))]
abbrev R_slices_Compare_int_int : List (Bool × Ty) := [(false, (.int .i64))]
abbrev M_slices_Compare_int_int : List RMode := []
abbrev Ft_slices_Compare_int_int : Type := (List Int) × (List Int) × Unit → Option (Int × Unit)
noncomputable def X_slices_Compare_int_int (n : Nat) (F_cmp_Compare_int : Ft_cmp_Compare_int) : Ctx := { types := TT, globals := [], con := [(73, ⟨As_cmp_Compare_int, R_cmp_Compare_int, M_cmp_Compare_int, F_cmp_Compare_int⟩)], keep := [(2, ⟨[.tmp 0, .tmp 1, .tmp 9, .tmp 10, .tmp 11], []⟩)], results := [.tmp 4], ntmps := 36, n := n }
noncomputable def B_slices_Compare_int_int : Code := (Tryd.f61.body).getD .skip
noncomputable def L_slices_Compare_int_int_2 (n : Nat) (F_cmp_Compare_int : Ft_cmp_Compare_int) (m0 : Nat) (p0 : List Int) (p1 : List Int) (p2 : List Int) (p3 : Int) (p4 : Int) : Option (denL R_slices_Compare_int_int) := loopF (X_slices_Compare_int_int n F_cmp_Compare_int) B_slices_Compare_int_int R_slices_Compare_int_int M_slices_Compare_int_int 2 [m0] [(.ver, .num 1), (.tmp 0, .val false [.imm (.int .i64) p0 (some 0)]), (.tmp 1, .val false [.imm (.int .i64) p1 (some 1)]), (.tmp 9, .val false [.imm (.int .i64) p2 (some 0)]), (.tmp 10, .val false [.int .i64 p3]), (.tmp 11, .val false [.int .i64 p4])]
theorem e_slices_Compare_int_int (n : Nat) (F_cmp_Compare_int : Ft_cmp_Compare_int) (a0 : List Int) (a1 : List Int) : runF (X_slices_Compare_int_int n F_cmp_Compare_int) B_slices_Compare_int_int As_slices_Compare_int_int R_slices_Compare_int_int M_slices_Compare_int_int (a0, a1, ()) = 
  L_slices_Compare_int_int_2 n F_cmp_Compare_int n a0 a1 a0 (List.length a0 : Int) 0 := by kernel_rfl
theorem e_slices_Compare_int_int_2 (n : Nat) (F_cmp_Compare_int : Ft_cmp_Compare_int) (m0 : Nat) (p0 : List Int) (p1 : List Int) (p2 : List Int) (p3 : Int) (p4 : Int) : L_slices_Compare_int_int_2 n F_cmp_Compare_int (m0 + 1) p0 p1 p2 p3 p4 = 
  bif decide (p4 < p3) then
    bif inB p4 (List.length p2) then
      bif decide (p4 ≥ (List.length p1 : Int)) then
        some (1, ())
      else
        bif inB p4 (List.length p1) then
          Option.bind (F_cmp_Compare_int ((nth ((.int .i64) : Ty) p2 p4), (nth ((.int .i64) : Ty) p1 p4), ())) fun r4 =>
          bif !decide (r4.1 = 0) then
            some (r4.1, ())
          else
            L_slices_Compare_int_int_2 n F_cmp_Compare_int m0 p0 p1 p2 p3 (IntKind.wrap .i64 (p4 + 1))
        else none
    else none
  else
    bif decide ((List.length p0 : Int) < (List.length p1 : Int)) then
      some ((-1), ())
    else
      some (0, ()) := by kernel_rfl
noncomputable def P_slices_Compare_int_int : Ft_slices_Compare_int_int := hid (runF (X_slices_Compare_int_int N P_cmp_Compare_int) B_slices_Compare_int_int As_slices_Compare_int_int R_slices_Compare_int_int M_slices_Compare_int_int)
theorem h_slices_Compare_int_int : P_slices_Compare_int_int = runF (X_slices_Compare_int_int N P_cmp_Compare_int) B_slices_Compare_int_int As_slices_Compare_int_int R_slices_Compare_int_int M_slices_Compare_int_int := hid_eq _
noncomputable def C_slices_Compare_int_int : Contract := ⟨As_slices_Compare_int_int, R_slices_Compare_int_int, M_slices_Compare_int_int, P_slices_Compare_int_int⟩
theorem s_slices_Compare_int_int : Sound Tryd.prog GG 61 C_slices_Compare_int_int := by
  unfold C_slices_Compare_int_int; rw [h_slices_Compare_int_int]
  exact sound_of_run (fn := Tryd.f61) hmix hstable (tyOK_of ttOK) (hglob (X_slices_Compare_int_int N P_cmp_Compare_int)) (conOK_of (X := X_slices_Compare_int_int N P_cmp_Compare_int) ⟨s_cmp_Compare_int, trivial⟩) (mconOK_of (X := X_slices_Compare_int_int N P_cmp_Compare_int) trivial) (by kernel_rfl) (by kernel_rfl) (by kernel_rfl) (by kernel_rfl) (by kernel_rfl) (of_decide_eq_true (by kernel_rfl))
noncomputable def l_slices_Compare_int_int_2 : Nat → (List Int) → (List Int) → (List Int) → Int → Int → Option (denL R_slices_Compare_int_int) := hid (fun m0 p0 p1 p2 p3 p4 => L_slices_Compare_int_int_2 N P_cmp_Compare_int m0 p0 p1 p2 p3 p4)
theorem h_slices_Compare_int_int_2 : l_slices_Compare_int_int_2 = fun m0 p0 p1 p2 p3 p4 => L_slices_Compare_int_int_2 N P_cmp_Compare_int m0 p0 p1 p2 p3 p4 := hid_eq _
theorem p_slices_Compare_int_int (a0 : List Int) (a1 : List Int) : P_slices_Compare_int_int (a0, a1, ()) = 
  l_slices_Compare_int_int_2 N a0 a1 a0 (List.length a0 : Int) 0 := by
  rewrite [h_slices_Compare_int_int, h_slices_Compare_int_int_2]
  exact e_slices_Compare_int_int N P_cmp_Compare_int a0 a1
theorem q_slices_Compare_int_int_2 (m0 : Nat) (p0 : List Int) (p1 : List Int) (p2 : List Int) (p3 : Int) (p4 : Int) : l_slices_Compare_int_int_2 (m0 + 1) p0 p1 p2 p3 p4 = 
  bif decide (p4 < p3) then
    bif inB p4 (List.length p2) then
      bif decide (p4 ≥ (List.length p1 : Int)) then
        some (1, ())
      else
        bif inB p4 (List.length p1) then
          Option.bind (P_cmp_Compare_int ((nth ((.int .i64) : Ty) p2 p4), (nth ((.int .i64) : Ty) p1 p4), ())) fun r4 =>
          bif !decide (r4.1 = 0) then
            some (r4.1, ())
          else
            l_slices_Compare_int_int_2 m0 p0 p1 p2 p3 (IntKind.wrap .i64 (p4 + 1))
        else none
    else none
  else
    bif decide ((List.length p0 : Int) < (List.length p1 : Int)) then
      some ((-1), ())
    else
      some (0, ()) := by
  rewrite [h_slices_Compare_int_int_2]
  exact e_slices_Compare_int_int_2 N P_cmp_Compare_int m0 p0 p1 p2 p3 p4

/- 49: loop.example/g01166/impl.compareCells -/
abbrev As_impl_compareCells : List ATy := [.data true T_A3, .data true T_A3]
abbrev R_impl_compareCells : List (Bool × Ty) := [(false, (.int .i64))]
abbrev M_impl_compareCells : List RMode := []
abbrev Ft_impl_compareCells : Type := D_A3 × D_A3 × Unit → Option (Int × Unit)
noncomputable def X_impl_compareCells (n : Nat) (F_slices_Compare_int_int : Ft_slices_Compare_int_int) : Ctx := { types := TT, globals := [], con := [(61, ⟨As_slices_Compare_int_int, R_slices_Compare_int_int, M_slices_Compare_int_int, F_slices_Compare_int_int⟩)], keep := [], results := [.tmp 4], ntmps := 8, n := n }
noncomputable def B_impl_compareCells : Code := (Tryd.f49.body).getD .skip
theorem e_impl_compareCells (n : Nat) (F_slices_Compare_int_int : Ft_slices_Compare_int_int) (a0 : D_A3) (a1 : D_A3) : runF (X_impl_compareCells n F_slices_Compare_int_int) B_impl_compareCells As_impl_compareCells R_impl_compareCells M_impl_compareCells (a0, a1, ()) = 
  Option.bind (F_slices_Compare_int_int (([a0.1, a0.2.1, a0.2.2.1] : List Int), ([a1.1, a1.2.1, a1.2.2.1] : List Int), ())) fun r0 =>
  some (r0.1, ()) := by kernel_rfl
noncomputable def P_impl_compareCells : Ft_impl_compareCells := hid (runF (X_impl_compareCells N P_slices_Compare_int_int) B_impl_compareCells As_impl_compareCells R_impl_compareCells M_impl_compareCells)
theorem h_impl_compareCells : P_impl_compareCells = runF (X_impl_compareCells N P_slices_Compare_int_int) B_impl_compareCells As_impl_compareCells R_impl_compareCells M_impl_compareCells := hid_eq _
noncomputable def C_impl_compareCells : Contract := ⟨As_impl_compareCells, R_impl_compareCells, M_impl_compareCells, P_impl_compareCells⟩
theorem s_impl_compareCells : Sound Tryd.prog GG 49 C_impl_compareCells := by
  unfold C_impl_compareCells; rw [h_impl_compareCells]
  exact sound_of_run (fn := Tryd.f49) hmix hstable (tyOK_of ttOK) (hglob (X_impl_compareCells N P_slices_Compare_int_int)) (conOK_of (X := X_impl_compareCells N P_slices_Compare_int_int) ⟨s_slices_Compare_int_int, trivial⟩) (mconOK_of (X := X_impl_compareCells N P_slices_Compare_int_int) trivial) (by kernel_rfl) (by kernel_rfl) (by kernel_rfl) (by kernel_rfl) (by kernel_rfl) (of_decide_eq_true (by kernel_rfl))
theorem p_impl_compareCells (a0 : D_A3) (a1 : D_A3) : P_impl_compareCells (a0, a1, ()) = 
  Option.bind (P_slices_Compare_int_int (([a0.1, a0.2.1, a0.2.2.1] : List Int), ([a1.1, a1.2.1, a1.2.2.1] : List Int), ())) fun r0 =>
  some (r0.1, ()) := by
  rewrite [h_impl_compareCells]
  exact e_impl_compareCells N P_slices_Compare_int_int a0 a1

/- 32: loop.example/g01166/impl.IsHeap -/
abbrev As_impl_IsHeap : List ATy := [.data true T_Heap]
abbrev R_impl_IsHeap : List (Bool × Ty) := [(false, .bool)]
abbrev M_impl_IsHeap : List RMode := []
abbrev Ft_impl_IsHeap : Type := D_Heap × Unit → Option (Bool × Unit)
noncomputable def X_impl_IsHeap (n : Nat) (F_Heap_box : Ft_Heap_box) (F_box_valid : Ft_box_valid) (F_box_has : Ft_box_has) (F_impl_compareCells : Ft_impl_compareCells) : Ctx := { types := TT, globals := [], con := [(46, ⟨As_Heap_box, R_Heap_box, M_Heap_box, F_Heap_box⟩), (47, ⟨As_box_valid, R_box_valid, M_box_valid, F_box_valid⟩), (48, ⟨As_box_has, R_box_has, M_box_has, F_box_has⟩), (49, ⟨As_impl_compareCells, R_impl_compareCells, M_impl_compareCells, F_impl_compareCells⟩)], keep := [(4, ⟨[.box 1, .tmp 1, .tmp 10, .tmp 11, .tmp 12], []⟩)], results := [.tmp 2], ntmps := 38, n := n }
noncomputable def B_impl_IsHeap : Code := (Tryd.f32.body).getD .skip
noncomputable def L_impl_IsHeap_4 (n : Nat) (F_Heap_box : Ft_Heap_box) (F_box_valid : Ft_box_valid) (F_box_has : Ft_box_has) (F_impl_compareCells : Ft_impl_compareCells) (m0 : Nat) (p0 : Int) (p1 : Int) (p2 : Int) (p3 : List D_A3) (p4 : List D_A3) (p5 : Int) (p6 : Int) : Option (denL R_impl_IsHeap) := loopF (X_impl_IsHeap n F_Heap_box F_box_valid F_box_has F_impl_compareCells) B_impl_IsHeap R_impl_IsHeap M_impl_IsHeap 4 [m0] [(.ver, .num 1), (.box 1, .box 0 false [.int .i64 p0, .int .i64 p1, .int .i64 p2, .imm T_A3 p3 (some 3)]), (.tmp 1, .val false [.addr 1 0 0]), (.tmp 10, .val false [.imm T_A3 p4 (some 3)]), (.tmp 11, .val false [.int .i64 p5]), (.tmp 12, .val false [.int .i64 p6])]
theorem e_impl_IsHeap (n : Nat) (F_Heap_box : Ft_Heap_box) (F_box_valid : Ft_box_valid) (F_box_has : Ft_box_has) (F_impl_compareCells : Ft_impl_compareCells) (a0 : D_Heap) : runF (X_impl_IsHeap n F_Heap_box F_box_valid F_box_has F_impl_compareCells) B_impl_IsHeap As_impl_IsHeap R_impl_IsHeap M_impl_IsHeap (a0, ()) = 
  Option.bind (F_Heap_box (a0, ())) fun r0 =>
  Option.bind (F_box_valid (r0.1, ())) fun r1 =>
  bif !r1.1 then
    some (false, ())
  else
    L_impl_IsHeap_4 n F_Heap_box F_box_valid F_box_has F_impl_compareCells n a0.1 a0.2.1 a0.2.2.1 a0.2.2.2.1 a0.2.2.2.1 (List.length a0.2.2.2.1 : Int) 0 := by kernel_rfl
theorem e_impl_IsHeap_4 (n : Nat) (F_Heap_box : Ft_Heap_box) (F_box_valid : Ft_box_valid) (F_box_has : Ft_box_has) (F_impl_compareCells : Ft_impl_compareCells) (m0 : Nat) (p0 : Int) (p1 : Int) (p2 : Int) (p3 : List D_A3) (p4 : List D_A3) (p5 : Int) (p6 : Int) : L_impl_IsHeap_4 n F_Heap_box F_box_valid F_box_has F_impl_compareCells (m0 + 1) p0 p1 p2 p3 p4 p5 p6 = 
  bif decide (p6 < p5) then
    bif inB p6 (List.length p4) then
      Option.bind (F_Heap_box ((p0, (p1, (p2, (p3, ())))), ())) fun r2 =>
      Option.bind (F_box_has (r2.1, (nth T_A3 p4 p6), ())) fun r3 =>
      bif !r3.1 then
        some (false, ())
      else
        bif decide (p6 > 0) then
          bif inB (IntKind.wrap .i64 (p6 - 1)) (List.length p3) then
            Option.bind (F_impl_compareCells ((nth T_A3 p3 (IntKind.wrap .i64 (p6 - 1))), (nth T_A3 p4 p6), ())) fun r7 =>
            bif decide (r7.1 ≥ 0) then
              some (false, ())
            else
              L_impl_IsHeap_4 n F_Heap_box F_box_valid F_box_has F_impl_compareCells m0 p0 p1 p2 p3 p4 p5 (IntKind.wrap .i64 (p6 + 1))
          else none
        else
          L_impl_IsHeap_4 n F_Heap_box F_box_valid F_box_has F_impl_compareCells m0 p0 p1 p2 p3 p4 p5 (IntKind.wrap .i64 (p6 + 1))
    else none
  else
    some (true, ()) := by kernel_rfl
noncomputable def P_impl_IsHeap : Ft_impl_IsHeap := hid (runF (X_impl_IsHeap N P_Heap_box P_box_valid P_box_has P_impl_compareCells) B_impl_IsHeap As_impl_IsHeap R_impl_IsHeap M_impl_IsHeap)
theorem h_impl_IsHeap : P_impl_IsHeap = runF (X_impl_IsHeap N P_Heap_box P_box_valid P_box_has P_impl_compareCells) B_impl_IsHeap As_impl_IsHeap R_impl_IsHeap M_impl_IsHeap := hid_eq _
noncomputable def C_impl_IsHeap : Contract := ⟨As_impl_IsHeap, R_impl_IsHeap, M_impl_IsHeap, P_impl_IsHeap⟩
theorem s_impl_IsHeap : Sound Tryd.prog GG 32 C_impl_IsHeap := by
  unfold C_impl_IsHeap; rw [h_impl_IsHeap]
  exact sound_of_run (fn := Tryd.f32) hmix hstable (tyOK_of ttOK) (hglob (X_impl_IsHeap N P_Heap_box P_box_valid P_box_has P_impl_compareCells)) (conOK_of (X := X_impl_IsHeap N P_Heap_box P_box_valid P_box_has P_impl_compareCells) ⟨s_Heap_box, s_box_valid, s_box_has, s_impl_compareCells, trivial⟩) (mconOK_of (X := X_impl_IsHeap N P_Heap_box P_box_valid P_box_has P_impl_compareCells) trivial) (by kernel_rfl) (by kernel_rfl) (by kernel_rfl) (by kernel_rfl) (by kernel_rfl) (of_decide_eq_true (by kernel_rfl))
noncomputable def l_impl_IsHeap_4 : Nat → Int → Int → Int → (List D_A3) → (List D_A3) → Int → Int → Option (denL R_impl_IsHeap) := hid (fun m0 p0 p1 p2 p3 p4 p5 p6 => L_impl_IsHeap_4 N P_Heap_box P_box_valid P_box_has P_impl_compareCells m0 p0 p1 p2 p3 p4 p5 p6)
theorem h_impl_IsHeap_4 : l_impl_IsHeap_4 = fun m0 p0 p1 p2 p3 p4 p5 p6 => L_impl_IsHeap_4 N P_Heap_box P_box_valid P_box_has P_impl_compareCells m0 p0 p1 p2 p3 p4 p5 p6 := hid_eq _
theorem p_impl_IsHeap (a0 : D_Heap) : P_impl_IsHeap (a0, ()) = 
  Option.bind (P_Heap_box (a0, ())) fun r0 =>
  Option.bind (P_box_valid (r0.1, ())) fun r1 =>
  bif !r1.1 then
    some (false, ())
  else
    l_impl_IsHeap_4 N a0.1 a0.2.1 a0.2.2.1 a0.2.2.2.1 a0.2.2.2.1 (List.length a0.2.2.2.1 : Int) 0 := by
  rewrite [h_impl_IsHeap, h_impl_IsHeap_4]
  exact e_impl_IsHeap N P_Heap_box P_box_valid P_box_has P_impl_compareCells a0
theorem q_impl_IsHeap_4 (m0 : Nat) (p0 : Int) (p1 : Int) (p2 : Int) (p3 : List D_A3) (p4 : List D_A3) (p5 : Int) (p6 : Int) : l_impl_IsHeap_4 (m0 + 1) p0 p1 p2 p3 p4 p5 p6 = 
  bif decide (p6 < p5) then
    bif inB p6 (List.length p4) then
      Option.bind (P_Heap_box ((p0, (p1, (p2, (p3, ())))), ())) fun r2 =>
      Option.bind (P_box_has (r2.1, (nth T_A3 p4 p6), ())) fun r3 =>
      bif !r3.1 then
        some (false, ())
      else
        bif decide (p6 > 0) then
          bif inB (IntKind.wrap .i64 (p6 - 1)) (List.length p3) then
            Option.bind (P_impl_compareCells ((nth T_A3 p3 (IntKind.wrap .i64 (p6 - 1))), (nth T_A3 p4 p6), ())) fun r7 =>
            bif decide (r7.1 ≥ 0) then
              some (false, ())
            else
              l_impl_IsHeap_4 m0 p0 p1 p2 p3 p4 p5 (IntKind.wrap .i64 (p6 + 1))
          else none
        else
          l_impl_IsHeap_4 m0 p0 p1 p2 p3 p4 p5 (IntKind.wrap .i64 (p6 + 1))
    else none
  else
    some (true, ()) := by
  rewrite [h_impl_IsHeap_4]
  exact e_impl_IsHeap_4 N P_Heap_box P_box_valid P_box_has P_impl_compareCells m0 p0 p1 p2 p3 p4 p5 p6

/- 20: loop.example/g01166/impl.IsBench -/
abbrev As_impl_IsBench : List ATy := [.data true T_Bench]
abbrev R_impl_IsBench : List (Bool × Ty) := [(false, .bool)]
abbrev M_impl_IsBench : List RMode := []
abbrev Ft_impl_IsBench : Type := D_Bench × Unit → Option (Bool × Unit)
noncomputable def X_impl_IsBench (n : Nat) (F_impl_IsHeap : Ft_impl_IsHeap) (F_impl_within : Ft_impl_within) : Ctx := { types := TT, globals := [], con := [(32, ⟨As_impl_IsHeap, R_impl_IsHeap, M_impl_IsHeap, F_impl_IsHeap⟩), (33, ⟨As_impl_within, R_impl_within, M_impl_within, F_impl_within⟩)], keep := [], results := [.tmp 2], ntmps := 20, n := n }
noncomputable def B_impl_IsBench : Code := (Tryd.f20.body).getD .skip
theorem e_impl_IsBench (n : Nat) (F_impl_IsHeap : Ft_impl_IsHeap) (F_impl_within : Ft_impl_within) (a0 : D_Bench) : runF (X_impl_IsBench n F_impl_IsHeap F_impl_within) B_impl_IsBench As_impl_IsBench R_impl_IsBench M_impl_IsBench (a0, ()) = 
  Option.bind (F_impl_IsHeap (a0.1, ())) fun r0 =>
  bif r0.1 then
    Option.bind (F_impl_within (a0.2.1, 0, (List.length a0.1.2.2.2.1 : Int), ())) fun r2 =>
    bif r2.1 then
      Option.bind (F_impl_within (a0.2.2.1, 0, 1000, ())) fun r4 =>
      some (r4.1, ())
    else
      some (false, ())
  else
    some (false, ()) := by kernel_rfl
noncomputable def P_impl_IsBench : Ft_impl_IsBench := hid (runF (X_impl_IsBench N P_impl_IsHeap P_impl_within) B_impl_IsBench As_impl_IsBench R_impl_IsBench M_impl_IsBench)
theorem h_impl_IsBench : P_impl_IsBench = runF (X_impl_IsBench N P_impl_IsHeap P_impl_within) B_impl_IsBench As_impl_IsBench R_impl_IsBench M_impl_IsBench := hid_eq _
noncomputable def C_impl_IsBench : Contract := ⟨As_impl_IsBench, R_impl_IsBench, M_impl_IsBench, P_impl_IsBench⟩
theorem s_impl_IsBench : Sound Tryd.prog GG 20 C_impl_IsBench := by
  unfold C_impl_IsBench; rw [h_impl_IsBench]
  exact sound_of_run (fn := Tryd.f20) hmix hstable (tyOK_of ttOK) (hglob (X_impl_IsBench N P_impl_IsHeap P_impl_within)) (conOK_of (X := X_impl_IsBench N P_impl_IsHeap P_impl_within) ⟨s_impl_IsHeap, s_impl_within, trivial⟩) (mconOK_of (X := X_impl_IsBench N P_impl_IsHeap P_impl_within) trivial) (by kernel_rfl) (by kernel_rfl) (by kernel_rfl) (by kernel_rfl) (by kernel_rfl) (of_decide_eq_true (by kernel_rfl))
theorem p_impl_IsBench (a0 : D_Bench) : P_impl_IsBench (a0, ()) = 
  Option.bind (P_impl_IsHeap (a0.1, ())) fun r0 =>
  bif r0.1 then
    Option.bind (P_impl_within (a0.2.1, 0, (List.length a0.1.2.2.2.1 : Int), ())) fun r2 =>
    bif r2.1 then
      Option.bind (P_impl_within (a0.2.2.1, 0, 1000, ())) fun r4 =>
      some (r4.1, ())
    else
      some (false, ())
  else
    some (false, ()) := by
  rewrite [h_impl_IsBench]
  exact e_impl_IsBench N P_impl_IsHeap P_impl_within a0

/- 12: loop.example/g01166/impl.IsValidConsole -/
abbrev As_impl_IsValidConsole : List ATy := [.data true T_Console]
abbrev R_impl_IsValidConsole : List (Bool × Ty) := [(false, .bool)]
abbrev M_impl_IsValidConsole : List RMode := []
abbrev Ft_impl_IsValidConsole : Type := D_Console × Unit → Option (Bool × Unit)
noncomputable def X_impl_IsValidConsole (n : Nat) (F_impl_IsValidLog : Ft_impl_IsValidLog) (F_impl_IsBench : Ft_impl_IsBench) : Ctx := { types := TT, globals := [], con := [(8, ⟨As_impl_IsValidLog, R_impl_IsValidLog, M_impl_IsValidLog, F_impl_IsValidLog⟩), (20, ⟨As_impl_IsBench, R_impl_IsBench, M_impl_IsBench, F_impl_IsBench⟩)], keep := [], results := [.tmp 2], ntmps := 11, n := n }
noncomputable def B_impl_IsValidConsole : Code := (Tryd.f12.body).getD .skip
theorem e_impl_IsValidConsole (n : Nat) (F_impl_IsValidLog : Ft_impl_IsValidLog) (F_impl_IsBench : Ft_impl_IsBench) (a0 : D_Console) : runF (X_impl_IsValidConsole n F_impl_IsValidLog F_impl_IsBench) B_impl_IsValidConsole As_impl_IsValidConsole R_impl_IsValidConsole M_impl_IsValidConsole (a0, ()) = 
  Option.bind (F_impl_IsBench (a0.1, ())) fun r0 =>
  bif r0.1 then
    Option.bind (F_impl_IsValidLog (a0.2.1, ())) fun r2 =>
    some (r2.1, ())
  else
    some (false, ()) := by kernel_rfl
noncomputable def P_impl_IsValidConsole : Ft_impl_IsValidConsole := hid (runF (X_impl_IsValidConsole N P_impl_IsValidLog P_impl_IsBench) B_impl_IsValidConsole As_impl_IsValidConsole R_impl_IsValidConsole M_impl_IsValidConsole)
theorem h_impl_IsValidConsole : P_impl_IsValidConsole = runF (X_impl_IsValidConsole N P_impl_IsValidLog P_impl_IsBench) B_impl_IsValidConsole As_impl_IsValidConsole R_impl_IsValidConsole M_impl_IsValidConsole := hid_eq _
noncomputable def C_impl_IsValidConsole : Contract := ⟨As_impl_IsValidConsole, R_impl_IsValidConsole, M_impl_IsValidConsole, P_impl_IsValidConsole⟩
theorem s_impl_IsValidConsole : Sound Tryd.prog GG 12 C_impl_IsValidConsole := by
  unfold C_impl_IsValidConsole; rw [h_impl_IsValidConsole]
  exact sound_of_run (fn := Tryd.f12) hmix hstable (tyOK_of ttOK) (hglob (X_impl_IsValidConsole N P_impl_IsValidLog P_impl_IsBench)) (conOK_of (X := X_impl_IsValidConsole N P_impl_IsValidLog P_impl_IsBench) ⟨s_impl_IsValidLog, s_impl_IsBench, trivial⟩) (mconOK_of (X := X_impl_IsValidConsole N P_impl_IsValidLog P_impl_IsBench) trivial) (by kernel_rfl) (by kernel_rfl) (by kernel_rfl) (by kernel_rfl) (by kernel_rfl) (of_decide_eq_true (by kernel_rfl))
theorem p_impl_IsValidConsole (a0 : D_Console) : P_impl_IsValidConsole (a0, ()) = 
  Option.bind (P_impl_IsBench (a0.1, ())) fun r0 =>
  bif r0.1 then
    Option.bind (P_impl_IsValidLog (a0.2.1, ())) fun r2 =>
    some (r2.1, ())
  else
    some (false, ()) := by
  rewrite [h_impl_IsValidConsole]
  exact e_impl_IsValidConsole N P_impl_IsValidLog P_impl_IsBench a0

/- 62: loop.example/g01166/laws.eqIntA3 -/
abbrev As_laws_eqIntA3 : List ATy := [.data true T_A3, .data true T_A3]
abbrev R_laws_eqIntA3 : List (Bool × Ty) := [(false, .bool)]
abbrev M_laws_eqIntA3 : List RMode := []
abbrev Ft_laws_eqIntA3 : Type := D_A3 × D_A3 × Unit → Option (Bool × Unit)
noncomputable def X_laws_eqIntA3 (n : Nat) : Ctx := { types := TT, globals := [], con := [], keep := [(2, ⟨[.box 2, .box 3, .tmp 2, .tmp 3, .tmp 5], []⟩)], results := [.tmp 4], ntmps := 17, n := n }
noncomputable def B_laws_eqIntA3 : Code := (Tryd.f62.body).getD .skip
noncomputable def L_laws_eqIntA3_2 (n : Nat) (m0 : Nat) (p0 : Int) (p1 : Int) (p2 : Int) (p3 : Int) (p4 : Int) (p5 : Int) (p6 : Int) : Option (denL R_laws_eqIntA3) := loopF (X_laws_eqIntA3 n) B_laws_eqIntA3 R_laws_eqIntA3 M_laws_eqIntA3 2 [m0] [(.ver, .num 1), (.box 2, .box 0 false [.int .i64 p0, .int .i64 p1, .int .i64 p2]), (.box 3, .box 0 false [.int .i64 p3, .int .i64 p4, .int .i64 p5]), (.tmp 2, .val false [.addr 2 0 0]), (.tmp 3, .val false [.addr 3 0 0]), (.tmp 5, .val false [.int .i64 p6])]
theorem e_laws_eqIntA3 (n : Nat) (a0 : D_A3) (a1 : D_A3) : runF (X_laws_eqIntA3 n) B_laws_eqIntA3 As_laws_eqIntA3 R_laws_eqIntA3 M_laws_eqIntA3 (a0, a1, ()) = 
  L_laws_eqIntA3_2 n n a0.1 a0.2.1 a0.2.2.1 a1.1 a1.2.1 a1.2.2.1 0 := by kernel_rfl
theorem e_laws_eqIntA3_2 (n : Nat) (m0 : Nat) (p0 : Int) (p1 : Int) (p2 : Int) (p3 : Int) (p4 : Int) (p5 : Int) (p6 : Int) : L_laws_eqIntA3_2 n (m0 + 1) p0 p1 p2 p3 p4 p5 p6 = 
  bif decide (p6 < 3) then
    bif inB p6 3 then
      bif inB p6 3 then
        bif !decide ((bif decide (p6 = (0 : Int)) then p0 else (bif decide (p6 = (1 : Int)) then p1 else p2)) = (bif decide (p6 = (0 : Int)) then p3 else (bif decide (p6 = (1 : Int)) then p4 else p5))) then
          some (false, ())
        else
          L_laws_eqIntA3_2 n m0 p0 p1 p2 p3 p4 p5 (IntKind.wrap .i64 (p6 + 1))
      else none
    else none
  else
    some (true, ()) := by kernel_rfl
noncomputable def P_laws_eqIntA3 : Ft_laws_eqIntA3 := hid (runF (X_laws_eqIntA3 N) B_laws_eqIntA3 As_laws_eqIntA3 R_laws_eqIntA3 M_laws_eqIntA3)
theorem h_laws_eqIntA3 : P_laws_eqIntA3 = runF (X_laws_eqIntA3 N) B_laws_eqIntA3 As_laws_eqIntA3 R_laws_eqIntA3 M_laws_eqIntA3 := hid_eq _
noncomputable def C_laws_eqIntA3 : Contract := ⟨As_laws_eqIntA3, R_laws_eqIntA3, M_laws_eqIntA3, P_laws_eqIntA3⟩
theorem s_laws_eqIntA3 : Sound Tryd.prog GG 62 C_laws_eqIntA3 := by
  unfold C_laws_eqIntA3; rw [h_laws_eqIntA3]
  exact sound_of_run (fn := Tryd.f62) hmix hstable (tyOK_of ttOK) (hglob (X_laws_eqIntA3 N)) (conOK_of (X := X_laws_eqIntA3 N) trivial) (mconOK_of (X := X_laws_eqIntA3 N) trivial) (by kernel_rfl) (by kernel_rfl) (by kernel_rfl) (by kernel_rfl) (by kernel_rfl) (of_decide_eq_true (by kernel_rfl))
noncomputable def l_laws_eqIntA3_2 : Nat → Int → Int → Int → Int → Int → Int → Int → Option (denL R_laws_eqIntA3) := hid (fun m0 p0 p1 p2 p3 p4 p5 p6 => L_laws_eqIntA3_2 N m0 p0 p1 p2 p3 p4 p5 p6)
theorem h_laws_eqIntA3_2 : l_laws_eqIntA3_2 = fun m0 p0 p1 p2 p3 p4 p5 p6 => L_laws_eqIntA3_2 N m0 p0 p1 p2 p3 p4 p5 p6 := hid_eq _
theorem p_laws_eqIntA3 (a0 : D_A3) (a1 : D_A3) : P_laws_eqIntA3 (a0, a1, ()) = 
  l_laws_eqIntA3_2 N a0.1 a0.2.1 a0.2.2.1 a1.1 a1.2.1 a1.2.2.1 0 := by
  rewrite [h_laws_eqIntA3, h_laws_eqIntA3_2]
  exact e_laws_eqIntA3 N a0 a1
theorem q_laws_eqIntA3_2 (m0 : Nat) (p0 : Int) (p1 : Int) (p2 : Int) (p3 : Int) (p4 : Int) (p5 : Int) (p6 : Int) : l_laws_eqIntA3_2 (m0 + 1) p0 p1 p2 p3 p4 p5 p6 = 
  bif decide (p6 < 3) then
    bif inB p6 3 then
      bif inB p6 3 then
        bif !decide ((bif decide (p6 = (0 : Int)) then p0 else (bif decide (p6 = (1 : Int)) then p1 else p2)) = (bif decide (p6 = (0 : Int)) then p3 else (bif decide (p6 = (1 : Int)) then p4 else p5))) then
          some (false, ())
        else
          l_laws_eqIntA3_2 m0 p0 p1 p2 p3 p4 p5 (IntKind.wrap .i64 (p6 + 1))
      else none
    else none
  else
    some (true, ()) := by
  rewrite [h_laws_eqIntA3_2]
  exact e_laws_eqIntA3_2 N m0 p0 p1 p2 p3 p4 p5 p6

/- 50: loop.example/g01166/laws.eqIntA3S -/
abbrev As_laws_eqIntA3S : List ATy := [.data false (.sl T_A3), .data false (.sl T_A3)]
abbrev R_laws_eqIntA3S : List (Bool × Ty) := [(false, .bool)]
abbrev M_laws_eqIntA3S : List RMode := []
abbrev Ft_laws_eqIntA3S : Type := (List D_A3) × (List D_A3) × Unit → Option (Bool × Unit)
noncomputable def X_laws_eqIntA3S (n : Nat) (F_laws_eqIntA3 : Ft_laws_eqIntA3) : Ctx := { types := TT, globals := [], con := [(62, ⟨As_laws_eqIntA3, R_laws_eqIntA3, M_laws_eqIntA3, F_laws_eqIntA3⟩)], keep := [(4, ⟨[.tmp 0, .tmp 1, .tmp 5], []⟩)], results := [.tmp 4], ntmps := 27, n := n }
noncomputable def B_laws_eqIntA3S : Code := (Tryd.f50.body).getD .skip
noncomputable def L_laws_eqIntA3S_4 (n : Nat) (F_laws_eqIntA3 : Ft_laws_eqIntA3) (m0 : Nat) (p0 : List D_A3) (p1 : List D_A3) (p2 : Int) : Option (denL R_laws_eqIntA3S) := loopF (X_laws_eqIntA3S n F_laws_eqIntA3) B_laws_eqIntA3S R_laws_eqIntA3S M_laws_eqIntA3S 4 [m0] [(.ver, .num 1), (.tmp 0, .val false [.imm T_A3 p0 (some 0)]), (.tmp 1, .val false [.imm T_A3 p1 (some 1)]), (.tmp 5, .val false [.int .i64 p2])]
theorem e_laws_eqIntA3S (n : Nat) (F_laws_eqIntA3 : Ft_laws_eqIntA3) (a0 : List D_A3) (a1 : List D_A3) : runF (X_laws_eqIntA3S n F_laws_eqIntA3) B_laws_eqIntA3S As_laws_eqIntA3S R_laws_eqIntA3S M_laws_eqIntA3S (a0, a1, ()) = 
  bif !decide ((List.length a0 : Int) = (List.length a1 : Int)) then
    some (false, ())
  else
    L_laws_eqIntA3S_4 n F_laws_eqIntA3 n a0 a1 0 := by kernel_rfl
theorem e_laws_eqIntA3S_4 (n : Nat) (F_laws_eqIntA3 : Ft_laws_eqIntA3) (m0 : Nat) (p0 : List D_A3) (p1 : List D_A3) (p2 : Int) : L_laws_eqIntA3S_4 n F_laws_eqIntA3 (m0 + 1) p0 p1 p2 = 
  bif decide (p2 < (List.length p0 : Int)) then
    bif inB p2 (List.length p0) then
      bif inB p2 (List.length p1) then
        Option.bind (F_laws_eqIntA3 ((nth T_A3 p0 p2), (nth T_A3 p1 p2), ())) fun r3 =>
        bif !r3.1 then
          some (false, ())
        else
          L_laws_eqIntA3S_4 n F_laws_eqIntA3 m0 p0 p1 (IntKind.wrap .i64 (p2 + 1))
      else none
    else none
  else
    some (true, ()) := by kernel_rfl
noncomputable def P_laws_eqIntA3S : Ft_laws_eqIntA3S := hid (runF (X_laws_eqIntA3S N P_laws_eqIntA3) B_laws_eqIntA3S As_laws_eqIntA3S R_laws_eqIntA3S M_laws_eqIntA3S)
theorem h_laws_eqIntA3S : P_laws_eqIntA3S = runF (X_laws_eqIntA3S N P_laws_eqIntA3) B_laws_eqIntA3S As_laws_eqIntA3S R_laws_eqIntA3S M_laws_eqIntA3S := hid_eq _
noncomputable def C_laws_eqIntA3S : Contract := ⟨As_laws_eqIntA3S, R_laws_eqIntA3S, M_laws_eqIntA3S, P_laws_eqIntA3S⟩
theorem s_laws_eqIntA3S : Sound Tryd.prog GG 50 C_laws_eqIntA3S := by
  unfold C_laws_eqIntA3S; rw [h_laws_eqIntA3S]
  exact sound_of_run (fn := Tryd.f50) hmix hstable (tyOK_of ttOK) (hglob (X_laws_eqIntA3S N P_laws_eqIntA3)) (conOK_of (X := X_laws_eqIntA3S N P_laws_eqIntA3) ⟨s_laws_eqIntA3, trivial⟩) (mconOK_of (X := X_laws_eqIntA3S N P_laws_eqIntA3) trivial) (by kernel_rfl) (by kernel_rfl) (by kernel_rfl) (by kernel_rfl) (by kernel_rfl) (of_decide_eq_true (by kernel_rfl))
noncomputable def l_laws_eqIntA3S_4 : Nat → (List D_A3) → (List D_A3) → Int → Option (denL R_laws_eqIntA3S) := hid (fun m0 p0 p1 p2 => L_laws_eqIntA3S_4 N P_laws_eqIntA3 m0 p0 p1 p2)
theorem h_laws_eqIntA3S_4 : l_laws_eqIntA3S_4 = fun m0 p0 p1 p2 => L_laws_eqIntA3S_4 N P_laws_eqIntA3 m0 p0 p1 p2 := hid_eq _
theorem p_laws_eqIntA3S (a0 : List D_A3) (a1 : List D_A3) : P_laws_eqIntA3S (a0, a1, ()) = 
  bif !decide ((List.length a0 : Int) = (List.length a1 : Int)) then
    some (false, ())
  else
    l_laws_eqIntA3S_4 N a0 a1 0 := by
  rewrite [h_laws_eqIntA3S, h_laws_eqIntA3S_4]
  exact e_laws_eqIntA3S N P_laws_eqIntA3 a0 a1
theorem q_laws_eqIntA3S_4 (m0 : Nat) (p0 : List D_A3) (p1 : List D_A3) (p2 : Int) : l_laws_eqIntA3S_4 (m0 + 1) p0 p1 p2 = 
  bif decide (p2 < (List.length p0 : Int)) then
    bif inB p2 (List.length p0) then
      bif inB p2 (List.length p1) then
        Option.bind (P_laws_eqIntA3 ((nth T_A3 p0 p2), (nth T_A3 p1 p2), ())) fun r3 =>
        bif !r3.1 then
          some (false, ())
        else
          l_laws_eqIntA3S_4 m0 p0 p1 (IntKind.wrap .i64 (p2 + 1))
      else none
    else none
  else
    some (true, ()) := by
  rewrite [h_laws_eqIntA3S_4]
  exact e_laws_eqIntA3S_4 N P_laws_eqIntA3 m0 p0 p1 p2

/- 34: loop.example/g01166/laws.eqHeap -/
abbrev As_laws_eqHeap : List ATy := [.data true T_Heap, .data true T_Heap]
abbrev R_laws_eqHeap : List (Bool × Ty) := [(false, .bool)]
abbrev M_laws_eqHeap : List RMode := []
abbrev Ft_laws_eqHeap : Type := D_Heap × D_Heap × Unit → Option (Bool × Unit)
noncomputable def X_laws_eqHeap (n : Nat) (F_laws_eqIntA3S : Ft_laws_eqIntA3S) : Ctx := { types := TT, globals := [], con := [(50, ⟨As_laws_eqIntA3S, R_laws_eqIntA3S, M_laws_eqIntA3S, F_laws_eqIntA3S⟩)], keep := [], results := [.tmp 4], ntmps := 26, n := n }
noncomputable def B_laws_eqHeap : Code := (Tryd.f34.body).getD .skip
theorem e_laws_eqHeap (n : Nat) (F_laws_eqIntA3S : Ft_laws_eqIntA3S) (a0 : D_Heap) (a1 : D_Heap) : runF (X_laws_eqHeap n F_laws_eqIntA3S) B_laws_eqHeap As_laws_eqHeap R_laws_eqHeap M_laws_eqHeap (a0, a1, ()) = 
  bif !decide (a0.1 = a1.1) then
    some (false, ())
  else
    bif !decide (a0.2.1 = a1.2.1) then
      some (false, ())
    else
      bif !decide (a0.2.2.1 = a1.2.2.1) then
        some (false, ())
      else
        Option.bind (F_laws_eqIntA3S (a0.2.2.2.1, a1.2.2.2.1, ())) fun r3 =>
        bif !r3.1 then
          some (false, ())
        else
          some (true, ()) := by kernel_rfl
noncomputable def P_laws_eqHeap : Ft_laws_eqHeap := hid (runF (X_laws_eqHeap N P_laws_eqIntA3S) B_laws_eqHeap As_laws_eqHeap R_laws_eqHeap M_laws_eqHeap)
theorem h_laws_eqHeap : P_laws_eqHeap = runF (X_laws_eqHeap N P_laws_eqIntA3S) B_laws_eqHeap As_laws_eqHeap R_laws_eqHeap M_laws_eqHeap := hid_eq _
noncomputable def C_laws_eqHeap : Contract := ⟨As_laws_eqHeap, R_laws_eqHeap, M_laws_eqHeap, P_laws_eqHeap⟩
theorem s_laws_eqHeap : Sound Tryd.prog GG 34 C_laws_eqHeap := by
  unfold C_laws_eqHeap; rw [h_laws_eqHeap]
  exact sound_of_run (fn := Tryd.f34) hmix hstable (tyOK_of ttOK) (hglob (X_laws_eqHeap N P_laws_eqIntA3S)) (conOK_of (X := X_laws_eqHeap N P_laws_eqIntA3S) ⟨s_laws_eqIntA3S, trivial⟩) (mconOK_of (X := X_laws_eqHeap N P_laws_eqIntA3S) trivial) (by kernel_rfl) (by kernel_rfl) (by kernel_rfl) (by kernel_rfl) (by kernel_rfl) (of_decide_eq_true (by kernel_rfl))
theorem p_laws_eqHeap (a0 : D_Heap) (a1 : D_Heap) : P_laws_eqHeap (a0, a1, ()) = 
  bif !decide (a0.1 = a1.1) then
    some (false, ())
  else
    bif !decide (a0.2.1 = a1.2.1) then
      some (false, ())
    else
      bif !decide (a0.2.2.1 = a1.2.2.1) then
        some (false, ())
      else
        Option.bind (P_laws_eqIntA3S (a0.2.2.2.1, a1.2.2.2.1, ())) fun r3 =>
        bif !r3.1 then
          some (false, ())
        else
          some (true, ()) := by
  rewrite [h_laws_eqHeap]
  exact e_laws_eqHeap N P_laws_eqIntA3S a0 a1

/- 21: loop.example/g01166/laws.eqBench -/
abbrev As_laws_eqBench : List ATy := [.data true T_Bench, .data true T_Bench]
abbrev R_laws_eqBench : List (Bool × Ty) := [(false, .bool)]
abbrev M_laws_eqBench : List RMode := []
abbrev Ft_laws_eqBench : Type := D_Bench × D_Bench × Unit → Option (Bool × Unit)
noncomputable def X_laws_eqBench (n : Nat) (F_laws_eqHeap : Ft_laws_eqHeap) : Ctx := { types := TT, globals := [], con := [(34, ⟨As_laws_eqHeap, R_laws_eqHeap, M_laws_eqHeap, F_laws_eqHeap⟩)], keep := [], results := [.tmp 4], ntmps := 21, n := n }
noncomputable def B_laws_eqBench : Code := (Tryd.f21.body).getD .skip
theorem e_laws_eqBench (n : Nat) (F_laws_eqHeap : Ft_laws_eqHeap) (a0 : D_Bench) (a1 : D_Bench) : runF (X_laws_eqBench n F_laws_eqHeap) B_laws_eqBench As_laws_eqBench R_laws_eqBench M_laws_eqBench (a0, a1, ()) = 
  Option.bind (F_laws_eqHeap (a0.1, a1.1, ())) fun r0 =>
  bif !r0.1 then
    some (false, ())
  else
    bif !decide (a0.2.1 = a1.2.1) then
      some (false, ())
    else
      bif !decide (a0.2.2.1 = a1.2.2.1) then
        some (false, ())
      else
        some (true, ()) := by kernel_rfl
noncomputable def P_laws_eqBench : Ft_laws_eqBench := hid (runF (X_laws_eqBench N P_laws_eqHeap) B_laws_eqBench As_laws_eqBench R_laws_eqBench M_laws_eqBench)
theorem h_laws_eqBench : P_laws_eqBench = runF (X_laws_eqBench N P_laws_eqHeap) B_laws_eqBench As_laws_eqBench R_laws_eqBench M_laws_eqBench := hid_eq _
noncomputable def C_laws_eqBench : Contract := ⟨As_laws_eqBench, R_laws_eqBench, M_laws_eqBench, P_laws_eqBench⟩
theorem s_laws_eqBench : Sound Tryd.prog GG 21 C_laws_eqBench := by
  unfold C_laws_eqBench; rw [h_laws_eqBench]
  exact sound_of_run (fn := Tryd.f21) hmix hstable (tyOK_of ttOK) (hglob (X_laws_eqBench N P_laws_eqHeap)) (conOK_of (X := X_laws_eqBench N P_laws_eqHeap) ⟨s_laws_eqHeap, trivial⟩) (mconOK_of (X := X_laws_eqBench N P_laws_eqHeap) trivial) (by kernel_rfl) (by kernel_rfl) (by kernel_rfl) (by kernel_rfl) (by kernel_rfl) (of_decide_eq_true (by kernel_rfl))
theorem p_laws_eqBench (a0 : D_Bench) (a1 : D_Bench) : P_laws_eqBench (a0, a1, ()) = 
  Option.bind (P_laws_eqHeap (a0.1, a1.1, ())) fun r0 =>
  bif !r0.1 then
    some (false, ())
  else
    bif !decide (a0.2.1 = a1.2.1) then
      some (false, ())
    else
      bif !decide (a0.2.2.1 = a1.2.2.1) then
        some (false, ())
      else
        some (true, ()) := by
  rewrite [h_laws_eqBench]
  exact e_laws_eqBench N P_laws_eqHeap a0 a1

/- 22: loop.example/g01166/laws.eqLog -/
abbrev As_laws_eqLog : List ATy := [.data true T_Log, .data true T_Log]
abbrev R_laws_eqLog : List (Bool × Ty) := [(false, .bool)]
abbrev M_laws_eqLog : List RMode := []
abbrev Ft_laws_eqLog : Type := D_Log × D_Log × Unit → Option (Bool × Unit)
noncomputable def X_laws_eqLog (n : Nat) : Ctx := { types := TT, globals := [], con := [], keep := [], results := [.tmp 4], ntmps := 20, n := n }
noncomputable def B_laws_eqLog : Code := (Tryd.f22.body).getD .skip
theorem e_laws_eqLog (n : Nat) (a0 : D_Log) (a1 : D_Log) : runF (X_laws_eqLog n) B_laws_eqLog As_laws_eqLog R_laws_eqLog M_laws_eqLog (a0, a1, ()) = 
  bif !(a0.1 == a1.1) then
    some (false, ())
  else
    bif !(a0.2.1 == a1.2.1) then
      some (false, ())
    else
      bif !decide (a0.2.2.1 = a1.2.2.1) then
        some (false, ())
      else
        some (true, ()) := by kernel_rfl
noncomputable def P_laws_eqLog : Ft_laws_eqLog := hid (runF (X_laws_eqLog N) B_laws_eqLog As_laws_eqLog R_laws_eqLog M_laws_eqLog)
theorem h_laws_eqLog : P_laws_eqLog = runF (X_laws_eqLog N) B_laws_eqLog As_laws_eqLog R_laws_eqLog M_laws_eqLog := hid_eq _
noncomputable def C_laws_eqLog : Contract := ⟨As_laws_eqLog, R_laws_eqLog, M_laws_eqLog, P_laws_eqLog⟩
theorem s_laws_eqLog : Sound Tryd.prog GG 22 C_laws_eqLog := by
  unfold C_laws_eqLog; rw [h_laws_eqLog]
  exact sound_of_run (fn := Tryd.f22) hmix hstable (tyOK_of ttOK) (hglob (X_laws_eqLog N)) (conOK_of (X := X_laws_eqLog N) trivial) (mconOK_of (X := X_laws_eqLog N) trivial) (by kernel_rfl) (by kernel_rfl) (by kernel_rfl) (by kernel_rfl) (by kernel_rfl) (of_decide_eq_true (by kernel_rfl))
theorem p_laws_eqLog (a0 : D_Log) (a1 : D_Log) : P_laws_eqLog (a0, a1, ()) = 
  bif !(a0.1 == a1.1) then
    some (false, ())
  else
    bif !(a0.2.1 == a1.2.1) then
      some (false, ())
    else
      bif !decide (a0.2.2.1 = a1.2.2.1) then
        some (false, ())
      else
        some (true, ()) := by
  rewrite [h_laws_eqLog]
  exact e_laws_eqLog N a0 a1

/- 13: loop.example/g01166/laws.eqConsole -/
abbrev As_laws_eqConsole : List ATy := [.data true T_Console, .data true T_Console]
abbrev R_laws_eqConsole : List (Bool × Ty) := [(false, .bool)]
abbrev M_laws_eqConsole : List RMode := []
abbrev Ft_laws_eqConsole : Type := D_Console × D_Console × Unit → Option (Bool × Unit)
noncomputable def X_laws_eqConsole (n : Nat) (F_laws_eqBench : Ft_laws_eqBench) (F_laws_eqLog : Ft_laws_eqLog) : Ctx := { types := TT, globals := [], con := [(21, ⟨As_laws_eqBench, R_laws_eqBench, M_laws_eqBench, F_laws_eqBench⟩), (22, ⟨As_laws_eqLog, R_laws_eqLog, M_laws_eqLog, F_laws_eqLog⟩)], keep := [], results := [.tmp 4], ntmps := 17, n := n }
noncomputable def B_laws_eqConsole : Code := (Tryd.f13.body).getD .skip
theorem e_laws_eqConsole (n : Nat) (F_laws_eqBench : Ft_laws_eqBench) (F_laws_eqLog : Ft_laws_eqLog) (a0 : D_Console) (a1 : D_Console) : runF (X_laws_eqConsole n F_laws_eqBench F_laws_eqLog) B_laws_eqConsole As_laws_eqConsole R_laws_eqConsole M_laws_eqConsole (a0, a1, ()) = 
  Option.bind (F_laws_eqBench (a0.1, a1.1, ())) fun r0 =>
  bif !r0.1 then
    some (false, ())
  else
    Option.bind (F_laws_eqLog (a0.2.1, a1.2.1, ())) fun r2 =>
    bif !r2.1 then
      some (false, ())
    else
      some (true, ()) := by kernel_rfl
noncomputable def P_laws_eqConsole : Ft_laws_eqConsole := hid (runF (X_laws_eqConsole N P_laws_eqBench P_laws_eqLog) B_laws_eqConsole As_laws_eqConsole R_laws_eqConsole M_laws_eqConsole)
theorem h_laws_eqConsole : P_laws_eqConsole = runF (X_laws_eqConsole N P_laws_eqBench P_laws_eqLog) B_laws_eqConsole As_laws_eqConsole R_laws_eqConsole M_laws_eqConsole := hid_eq _
noncomputable def C_laws_eqConsole : Contract := ⟨As_laws_eqConsole, R_laws_eqConsole, M_laws_eqConsole, P_laws_eqConsole⟩
theorem s_laws_eqConsole : Sound Tryd.prog GG 13 C_laws_eqConsole := by
  unfold C_laws_eqConsole; rw [h_laws_eqConsole]
  exact sound_of_run (fn := Tryd.f13) hmix hstable (tyOK_of ttOK) (hglob (X_laws_eqConsole N P_laws_eqBench P_laws_eqLog)) (conOK_of (X := X_laws_eqConsole N P_laws_eqBench P_laws_eqLog) ⟨s_laws_eqBench, s_laws_eqLog, trivial⟩) (mconOK_of (X := X_laws_eqConsole N P_laws_eqBench P_laws_eqLog) trivial) (by kernel_rfl) (by kernel_rfl) (by kernel_rfl) (by kernel_rfl) (by kernel_rfl) (of_decide_eq_true (by kernel_rfl))
theorem p_laws_eqConsole (a0 : D_Console) (a1 : D_Console) : P_laws_eqConsole (a0, a1, ()) = 
  Option.bind (P_laws_eqBench (a0.1, a1.1, ())) fun r0 =>
  bif !r0.1 then
    some (false, ())
  else
    Option.bind (P_laws_eqLog (a0.2.1, a1.2.1, ())) fun r2 =>
    bif !r2.1 then
      some (false, ())
    else
      some (true, ()) := by
  rewrite [h_laws_eqConsole]
  exact e_laws_eqConsole N P_laws_eqBench P_laws_eqLog a0 a1

/- 4: loop.example/g01166/laws.FnExactIsValidConsole -/
abbrev As_laws_FnExactIsValidConsole : List ATy := [.data true T_Console]
abbrev R_laws_FnExactIsValidConsole : List (Bool × Ty) := [(false, .bool)]
abbrev M_laws_FnExactIsValidConsole : List RMode := []
abbrev Ft_laws_FnExactIsValidConsole : Type := D_Console × Unit → Option (Bool × Unit)
noncomputable def X_laws_FnExactIsValidConsole (n : Nat) (F_laws_szConsole : Ft_laws_szConsole) (F_spec_IsValidConsole : Ft_spec_IsValidConsole) (F_laws_toConsole : Ft_laws_toConsole) (F_impl_IsValidConsole : Ft_impl_IsValidConsole) (F_laws_eqConsole : Ft_laws_eqConsole) : Ctx := { types := TT, globals := [], con := [(9, ⟨As_laws_szConsole, R_laws_szConsole, M_laws_szConsole, F_laws_szConsole⟩), (10, ⟨As_spec_IsValidConsole, R_spec_IsValidConsole, M_spec_IsValidConsole, F_spec_IsValidConsole⟩), (11, ⟨As_laws_toConsole, R_laws_toConsole, M_laws_toConsole, F_laws_toConsole⟩), (12, ⟨As_impl_IsValidConsole, R_impl_IsValidConsole, M_impl_IsValidConsole, F_impl_IsValidConsole⟩), (13, ⟨As_laws_eqConsole, R_laws_eqConsole, M_laws_eqConsole, F_laws_eqConsole⟩)], keep := [], results := [.tmp 2], ntmps := 27, n := n }
noncomputable def B_laws_FnExactIsValidConsole : Code := (Tryd.f4.body).getD .skip
theorem e_laws_FnExactIsValidConsole (n : Nat) (F_laws_szConsole : Ft_laws_szConsole) (F_spec_IsValidConsole : Ft_spec_IsValidConsole) (F_laws_toConsole : Ft_laws_toConsole) (F_impl_IsValidConsole : Ft_impl_IsValidConsole) (F_laws_eqConsole : Ft_laws_eqConsole) (a0 : D_Console) : runF (X_laws_FnExactIsValidConsole n F_laws_szConsole F_spec_IsValidConsole F_laws_toConsole F_impl_IsValidConsole F_laws_eqConsole) B_laws_FnExactIsValidConsole As_laws_FnExactIsValidConsole R_laws_FnExactIsValidConsole M_laws_FnExactIsValidConsole (a0, ()) = 
  Option.bind (F_laws_szConsole (a0, 1048576, ())) fun r0 =>
  bif decide (r0.1 < 0) then
    some (true, ())
  else
    Option.bind (F_laws_toConsole (a0, ())) fun r2 =>
    Option.bind (F_spec_IsValidConsole (r2.1, ())) fun r3 =>
    Option.bind (F_laws_toConsole (a0, ())) fun r4 =>
    Option.bind (F_impl_IsValidConsole (r4.1, ())) fun r5 =>
    bif !(r5.1 == r3.1) then
      some (false, ())
    else
      Option.bind (F_laws_toConsole (a0, ())) fun r7 =>
      Option.bind (F_laws_eqConsole (r4.1, r7.1, ())) fun r8 =>
      bif !r8.1 then
        some (false, ())
      else
        some (true, ()) := by kernel_rfl
noncomputable def P_laws_FnExactIsValidConsole : Ft_laws_FnExactIsValidConsole := hid (runF (X_laws_FnExactIsValidConsole N P_laws_szConsole P_spec_IsValidConsole P_laws_toConsole P_impl_IsValidConsole P_laws_eqConsole) B_laws_FnExactIsValidConsole As_laws_FnExactIsValidConsole R_laws_FnExactIsValidConsole M_laws_FnExactIsValidConsole)
theorem h_laws_FnExactIsValidConsole : P_laws_FnExactIsValidConsole = runF (X_laws_FnExactIsValidConsole N P_laws_szConsole P_spec_IsValidConsole P_laws_toConsole P_impl_IsValidConsole P_laws_eqConsole) B_laws_FnExactIsValidConsole As_laws_FnExactIsValidConsole R_laws_FnExactIsValidConsole M_laws_FnExactIsValidConsole := hid_eq _
noncomputable def C_laws_FnExactIsValidConsole : Contract := ⟨As_laws_FnExactIsValidConsole, R_laws_FnExactIsValidConsole, M_laws_FnExactIsValidConsole, P_laws_FnExactIsValidConsole⟩
theorem s_laws_FnExactIsValidConsole : Sound Tryd.prog GG 4 C_laws_FnExactIsValidConsole := by
  unfold C_laws_FnExactIsValidConsole; rw [h_laws_FnExactIsValidConsole]
  exact sound_of_run (fn := Tryd.f4) hmix hstable (tyOK_of ttOK) (hglob (X_laws_FnExactIsValidConsole N P_laws_szConsole P_spec_IsValidConsole P_laws_toConsole P_impl_IsValidConsole P_laws_eqConsole)) (conOK_of (X := X_laws_FnExactIsValidConsole N P_laws_szConsole P_spec_IsValidConsole P_laws_toConsole P_impl_IsValidConsole P_laws_eqConsole) ⟨s_laws_szConsole, s_spec_IsValidConsole, s_laws_toConsole, s_impl_IsValidConsole, s_laws_eqConsole, trivial⟩) (mconOK_of (X := X_laws_FnExactIsValidConsole N P_laws_szConsole P_spec_IsValidConsole P_laws_toConsole P_impl_IsValidConsole P_laws_eqConsole) trivial) (by kernel_rfl) (by kernel_rfl) (by kernel_rfl) (by kernel_rfl) (by kernel_rfl) (of_decide_eq_true (by kernel_rfl))
theorem p_laws_FnExactIsValidConsole (a0 : D_Console) : P_laws_FnExactIsValidConsole (a0, ()) = 
  Option.bind (P_laws_szConsole (a0, 1048576, ())) fun r0 =>
  bif decide (r0.1 < 0) then
    some (true, ())
  else
    Option.bind (P_laws_toConsole (a0, ())) fun r2 =>
    Option.bind (P_spec_IsValidConsole (r2.1, ())) fun r3 =>
    Option.bind (P_laws_toConsole (a0, ())) fun r4 =>
    Option.bind (P_impl_IsValidConsole (r4.1, ())) fun r5 =>
    bif !(r5.1 == r3.1) then
      some (false, ())
    else
      Option.bind (P_laws_toConsole (a0, ())) fun r7 =>
      Option.bind (P_laws_eqConsole (r4.1, r7.1, ())) fun r8 =>
      bif !r8.1 then
        some (false, ())
      else
        some (true, ()) := by
  rewrite [h_laws_FnExactIsValidConsole]
  exact e_laws_FnExactIsValidConsole N P_laws_szConsole P_spec_IsValidConsole P_laws_toConsole P_impl_IsValidConsole P_laws_eqConsole a0
end Go.VI
