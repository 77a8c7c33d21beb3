/- What the functions of the seat compute, as printed by wip/tools. -/
import Derived.Test.YtlnfgikipeiaiaaGreatViFunM
import Derived.Test.YtlnfgikipeiaiaaGreatProg
namespace Go.VI
open Go.Proofs
set_option maxRecDepth 100000
noncomputable section
def n0 : Nat := 0
def GG : World → Prop := fun _ => True
theorem i2q : Stable n0 GG := i4u
theorem k0m : Tryz.prog.follows .mixedOrders = true := by kernel_rfl
theorem j7b (X : Ctx) (h : X.globals = [] := by rfl) (A : Fix) (_ : A.P = Tryz.prog) (_ : A.G = GG) : g7w A X := i3s h A
abbrev k1i : Ty := (.pair (.int .i64) (.pair (.int .i64) .unit))
abbrev i9g : Type := Int × Int × Unit
abbrev a0e : Ty := (.pair (.int .i64) (.pair (.int .i64) (.pair (.int .i64) .unit)))
abbrev a0a : Type := Int × Int × Int × Unit
abbrev a0f : Ty := (.pair (.int .i64) (.pair (.int .i64) (.pair (.int .i64) (.pair (.sl a0e) .unit))))
abbrev a0b : Type := Int × Int × Int × (List a0a) × Unit
abbrev a1h : Ty := (.pair a0e (.pair a0e .unit))
abbrev a0c : Type := a0a × a0a × Unit
abbrev d3h : Ty := (.pair (.sl (.int .u8)) (.pair (.int .i64) (.pair (.int .u64) .unit)))
abbrev a6m : Type := (List Int) × Int × Int × Unit
def TT : List (TypeId × TI) := [(3, ⟨Tryz.t3.desc, (.int .i64), false, 8, [.int .i64 0], false⟩),
 (5, ⟨Tryz.t5.desc, (.int .u8), false, 1, [.int .u8 0], false⟩),
 (22, ⟨Tryz.t22.desc, (.sl a0e), false, 24, [.nil 55 a0e], false⟩),
 (24, ⟨Tryz.t23.desc, a0f, true, 48, [.int .i64 0, .int .i64 0, .int .i64 0, .nil 55 a0e], false⟩),
 (26, ⟨Tryz.t26.desc, (.sl a0f), false, 24, [.nil 29 a0f], false⟩),
 (29, ⟨Tryz.t23.desc, a0f, true, 48, [.int .i64 0, .int .i64 0, .int .i64 0, .nil 55 a0e], false⟩),
 (36, ⟨Tryz.t36.desc, (.sl (.int .u8)), false, 24, [.nil 5 (.int .u8)], false⟩),
 (44, ⟨Tryz.t44.desc, (.sl (.sl a0e)), false, 24, [.nil 22 (.sl a0e)], false⟩),
 (52, ⟨Tryz.t52.desc, (.sl a1h), false, 24, [.nil 57 a1h], false⟩),
 (55, ⟨Tryz.t55.desc, a0e, true, 24, [.int .i64 0, .int .i64 0, .int .i64 0], false⟩),
 (57, ⟨Tryz.t56.desc, a1h, true, 48, [.int .i64 0, .int .i64 0, .int .i64 0, .int .i64 0, .int .i64 0, .int .i64 0], false⟩),
 (72, ⟨Tryz.t72.desc, (.int .u64), false, 8, [.int .u64 0], false⟩),
 (74, ⟨Tryz.t73.desc, d3h, true, 40, [.nil 5 (.int .u8), .int .i64 0, .int .u64 0], false⟩),
 (76, ⟨Tryz.t76.desc, (.sl (.int .i64)), false, 24, [.nil 3 (.int .i64)], false⟩),
 (80, ⟨Tryz.t80.desc, (.sl (.int .u64)), false, 24, [.nil 84 (.int .u64)], false⟩),
 (81, ⟨Tryz.t55.desc, a0e, true, 24, [.int .i64 0, .int .i64 0, .int .i64 0], false⟩),
 (84, ⟨Tryz.t72.desc, (.int .u64), false, 8, [.int .u64 0], false⟩),
 (98, ⟨Tryz.t98.desc, (.sl a1h), false, 24, [.nil 101 a1h], false⟩),
 (101, ⟨Tryz.t100.desc, a1h, true, 48, [.int .i64 0, .int .i64 0, .int .i64 0, .int .i64 0, .int .i64 0, .int .i64 0], false⟩),
 (111, ⟨Tryz.t111.desc, (.pair a0e (.pair a0e (.pair a0e (.pair a0e (.pair a0e (.pair a0e .unit)))))), true, 144, [.int .i64 0, .int .i64 0, .int .i64 0, .int .i64 0, .int .i64 0, .int .i64 0, .int .i64 0, .int .i64 0, .int .i64 0, .int .i64 0, .int .i64 0, .int .i64 0, .int .i64 0, .int .i64 0, .int .i64 0, .int .i64 0, .int .i64 0, .int .i64 0], false⟩),
 (141, ⟨Tryz.t141.desc, k1i, true, 16, [.int .i64 0, .int .i64 0], false⟩)]
theorem k1m : i9d (fun q => tiB Tryz.prog q.1 q.2) TT :=
 ⟨⟨by kernel_rfl, by kernel_rfl, by kernel_rfl, by kernel_rfl, by kernel_rfl, by kernel_rfl⟩, ⟨by kernel_rfl, by kernel_rfl, by kernel_rfl, by kernel_rfl, by kernel_rfl, by kernel_rfl⟩, ⟨by kernel_rfl, by kernel_rfl, by kernel_rfl, by kernel_rfl, by kernel_rfl, by kernel_rfl⟩, ⟨by kernel_rfl, by kernel_rfl, by kernel_rfl, by kernel_rfl, by kernel_rfl, by kernel_rfl⟩, ⟨by kernel_rfl, by kernel_rfl, by kernel_rfl, by kernel_rfl, by kernel_rfl, by kernel_rfl⟩, ⟨by kernel_rfl, by kernel_rfl, by kernel_rfl, by kernel_rfl, by kernel_rfl, by kernel_rfl⟩, ⟨by kernel_rfl, by kernel_rfl, by kernel_rfl, by kernel_rfl, by kernel_rfl, by kernel_rfl⟩, ⟨by kernel_rfl, by kernel_rfl, by kernel_rfl, by kernel_rfl, by kernel_rfl, by kernel_rfl⟩, ⟨by kernel_rfl, by kernel_rfl, by kernel_rfl, by kernel_rfl, by kernel_rfl, by kernel_rfl⟩, ⟨by kernel_rfl, by kernel_rfl, by kernel_rfl, by kernel_rfl, by kernel_rfl, by kernel_rfl⟩, ⟨by kernel_rfl, by kernel_rfl, by kernel_rfl, by kernel_rfl, by kernel_rfl, by kernel_rfl⟩, ⟨by kernel_rfl, by kernel_rfl, by kernel_rfl, by kernel_rfl, by kernel_rfl, by kernel_rfl⟩, ⟨by kernel_rfl, by kernel_rfl, by kernel_rfl, by kernel_rfl, by kernel_rfl, by kernel_rfl⟩, ⟨by kernel_rfl, by kernel_rfl, by kernel_rfl, by kernel_rfl, by kernel_rfl, by kernel_rfl⟩, ⟨by kernel_rfl, by kernel_rfl, by kernel_rfl, by kernel_rfl, by kernel_rfl, by kernel_rfl⟩, ⟨by kernel_rfl, by kernel_rfl, by kernel_rfl, by kernel_rfl, by kernel_rfl, by kernel_rfl⟩, ⟨by kernel_rfl, by kernel_rfl, by kernel_rfl, by kernel_rfl, by kernel_rfl, by kernel_rfl⟩, ⟨by kernel_rfl, by kernel_rfl, by kernel_rfl, by kernel_rfl, by kernel_rfl, by kernel_rfl⟩, ⟨by kernel_rfl, by kernel_rfl, by kernel_rfl, by kernel_rfl, by kernel_rfl, by kernel_rfl⟩, ⟨by kernel_rfl, by kernel_rfl, by kernel_rfl, by kernel_rfl, by kernel_rfl, by kernel_rfl⟩, ⟨by kernel_rfl, by kernel_rfl, by kernel_rfl, by kernel_rfl, by kernel_rfl, by kernel_rfl⟩, trivial⟩
theorem mkS {f : FuncId} {c : Code} {X : Ctx} {As : List ATy} {R : List (Bool × Ty)} {M : List RMode} (fn : Func) (hc : i9d (fun p => Sound Tryz.prog GG p.1 p.2) X.con) (hm : i9d (fun p => c4m Tryz.prog n0 GG p.1 p.2) X.mcon) (hT : X.types = TT := by rfl) (hg : X.globals = [] := by rfl) (hf : Tryz.prog.funcs[f]? = some fn := by kernel_rfl) (hb : fn.body = some c := by kernel_rfl) (hn : (fn.name == "runtime.NumGoroutine") = false := by kernel_rfl) (hr : X.results = fn.results.toList := by kernel_rfl) (ht : X.ntmps = fn.ntmps := by kernel_rfl) (hA : decide (As.length ≤ X.ntmps ∧ X.ntmps ≤ a0s) = true := by kernel_rfl) : Sound Tryz.prog GG f ⟨As, R, M, a1g X c As R M⟩ :=
 g0g k0m i2q (i4m (by rw [hT]; exact k1m)) (j7b X hg) (h4d hc) (g5s hm) hf hb hn hr ht (of_decide_eq_true hA)
theorem j5n {f : FuncId} {c : Code} {X : Ctx} {As : List ATy} {R : List (Bool × Ty)} {M : List RMode} (fn : Func) (hc : i9d (fun p => Sound Tryz.prog GG p.1 p.2) X.con) (hm : i9d (fun p => c4m Tryz.prog n0 GG p.1 p.2) X.mcon) (hT : X.types = TT := by rfl) (hg : X.globals = [] := by rfl) (hf : Tryz.prog.funcs[f]? = some fn := by kernel_rfl) (hb : fn.body = some c := by kernel_rfl) (hn : (fn.name == "runtime.NumGoroutine") = false := by kernel_rfl) (hr : X.results = fn.results.toList := by kernel_rfl) (ht : X.ntmps = fn.ntmps := by kernel_rfl) (hA : decide (As.length ≤ X.ntmps ∧ X.ntmps ≤ a0s) = true := by kernel_rfl) (hR : R.length = X.results.length := by kernel_rfl) (hms : (M.all fun | .pass _ => false | _ => true) = true := by rfl) : c4m Tryz.prog n0 GG f ⟨As, R, M, d6p X c As R M⟩ :=
 h7e k0m i2q (i4m (by rw [hT]; exact k1m)) (j7b X hg) (h4d hc) (g5s hm) hf hb hn hr ht (of_decide_eq_true hA) hR hms
abbrev e4m : List ATy := [.data false (.int .i64), .data false (.int .i64), .data false (.int .i64)]
abbrev f0k : List (Bool × Ty) := [(false, .bool)]
abbrev f0d : List RMode := []
abbrev i0k : Type := Int × Int × Int × Unit → Option (Bool × Unit)
def g6p : Ctx := { types := TT, globals := [], con := [], keep := [], results := [.tmp 6], ntmps := 15, n := N }
def g8d : Code := (Tryz.f51.body).getD .skip
def a6e : i0k := hid (a1g g6p g8d e4m f0k f0d)
theorem g5x : a6e = a1g g6p g8d e4m f0k f0d := a0d _
def b9p : Contract := ⟨e4m, f0k, f0d, a6e⟩
theorem d6i : Sound Tryz.prog GG 51 b9p := by
 unfold b9p; rw [g5x]
 exact mkS Tryz.f51 trivial trivial
theorem i4j (a0 a1 a2 : Int) : a6e (a0, a1, a2, ()) =
 bif decide (a0 ≥ a1) then
 some (decide (a0 ≤ a2), ())
 else
 some (false, ()) := by
 rewrite [g5x]
 kernel_rfl
abbrev c2u : List ATy := [.data true a0e, .data true a0e]
abbrev b2l : List (Bool × Ty) := [(false, .bool)]
abbrev b8p : List RMode := []
abbrev g2q : Type := a0a × a0a × Unit → Option (Bool × Unit)
def c6x : Ctx := { types := TT, globals := [], con := [], keep := [(2, ⟨[.box 2, .box 3, .tmp 2, .tmp 3, .tmp 5], []⟩)], results := [.tmp 4], ntmps := 24, n := N }
def c8k : Code := (Tryz.f111.body).getD .skip
def d4m (m0 : Nat) (p0 p1 p2 p3 p4 p5 p6 : Int) : Option (a1y b2l) := a2h c6x c8k b2l b8p 2 [m0] [(.ver, .num 1), (.box 2, .box 0 false [.int .i64 p0, .int .i64 p1, .int .i64 p2]), (.box 3, .box 0 false [.int .i64 p3, .int .i64 p4, .int .i64 p5]), (.tmp 2, .val false [.addr 2 0 0]), (.tmp 3, .val false [.addr 3 0 0]), (.tmp 5, .val false [.int .i64 p6])]
def a4z : g2q := hid (a1g c6x c8k c2u b2l b8p)
theorem e5o : a4z = a1g c6x c8k c2u b2l b8p := a0d _
def b2v : Contract := ⟨c2u, b2l, b8p, a4z⟩
theorem c6h : Sound Tryz.prog GG 111 b2v := by
 unfold b2v; rw [e5o]
 exact mkS Tryz.f111 trivial trivial
def b3i := hid (d4m)
theorem d4a : b3i = d4m := a0d _
theorem g5v (a0 a1 : a0a) : a4z (a0, a1, ()) =
 b3i N a0.1 a0.2.1 a0.2.2.1 a1.1 a1.2.1 a1.2.2.1 0 := by
 rewrite [e5o, d4a]
 kernel_rfl
theorem b2y (m0 : Nat) (p0 p1 p2 p3 p4 p5 p6 : Int) : b3i (m0 + 1) p0 p1 p2 p3 p4 p5 p6 =
 bif decide (p6 < 3) then
 bif inB p6 3 then
 bif inB p6 3 then
 bif !decide ((bif decide (p6 = (0 : Int)) then p0 else (bif decide (p6 = (1 : Int)) then p1 else p2)) = (bif decide (p6 = (0 : Int)) then p3 else (bif decide (p6 = (1 : Int)) then p4 else p5))) then
 bif inB p6 3 then
 bif inB p6 3 then
 some (decide ((bif decide (p6 = (0 : Int)) then p0 else (bif decide (p6 = (1 : Int)) then p1 else p2)) < (bif decide (p6 = (0 : Int)) then p3 else (bif decide (p6 = (1 : Int)) then p4 else p5))), ())
 else none
 else none
 else
 b3i m0 p0 p1 p2 p3 p4 p5 (IntKind.wrap .i64 (p6 + 1))
 else none
 else none
 else
 some (false, ()) := by
 rewrite [d4a]
 kernel_rfl
abbrev d2l : List ATy := [.data true a0f, .data true a0f]
abbrev b6x : List (Bool × Ty) := [(false, .bool)]
abbrev c5c : List RMode := []
abbrev h0q : Type := a0b × a0b × Unit → Option (Bool × Unit)
def d7j : Ctx := { types := TT, globals := [], con := [(111, b2v)], keep := [(5, ⟨[.box 2, .box 3, .tmp 2, .tmp 3, .tmp 7], []⟩)], results := [.tmp 4], ntmps := 71, n := N }
def d6t : Code := (Tryz.f78.body).getD .skip
def e1j (m0 : Nat) (p0 p1 p2 : Int) (p3 : List a0a) (p4 p5 p6 : Int) (p7 : List a0a) (p8 : Int) : Option (a1y b6x) := a2h d7j d6t b6x c5c 5 [m0] [(.ver, .num 1), (.box 2, .box 0 false [.int .i64 p0, .int .i64 p1, .int .i64 p2, .imm a0e p3 (some 3)]), (.box 3, .box 0 false [.int .i64 p4, .int .i64 p5, .int .i64 p6, .imm a0e p7 (some 7)]), (.tmp 2, .val false [.addr 2 0 0]), (.tmp 3, .val false [.addr 3 0 0]), (.tmp 7, .val false [.int .i64 p8])]
def a4q : h0q := hid (a1g d7j d6t d2l b6x c5c)
theorem f3i : a4q = a1g d7j d6t d2l b6x c5c := a0d _
def b8o : Contract := ⟨d2l, b6x, c5c, a4q⟩
theorem d8a : Sound Tryz.prog GG 78 b8o := by
 unfold b8o; rw [f3i]
 exact mkS Tryz.f78 ⟨c6h, trivial⟩ trivial
def b2w := hid (e1j)
theorem e4q : b2w = e1j := a0d _
theorem h7o (a0 a1 : a0b) : a4q (a0, a1, ()) =
 bif !(decide (a0.1 = a1.1) && (decide (a0.2.1 = a1.2.1) && (decide (a0.2.2.1 = a1.2.2.1) && true))) then
 Option.bind (a4z ((a0.1, (a0.2.1, (a0.2.2.1, ()))), (a1.1, (a1.2.1, (a1.2.2.1, ()))), ())) fun r1 =>
 some (r1.1, ())
 else
 b2w N a0.1 a0.2.1 a0.2.2.1 a0.2.2.2.1 a1.1 a1.2.1 a1.2.2.1 a1.2.2.2.1 0 := by
 rewrite [f3i, e4q]
 kernel_rfl
theorem g7y (m0 : Nat) (p0 p1 p2 : Int) (p3 : List a0a) (p4 p5 p6 : Int) (p7 : List a0a) (p8 : Int) : b2w (m0 + 1) p0 p1 p2 p3 p4 p5 p6 p7 p8 =
 bif decide (p8 < (List.length p3 : Int)) then
 bif decide (p8 < (List.length p7 : Int)) then
 bif inB p8 (List.length p3) then
 bif inB p8 (List.length p7) then
 bif !(decide (((nth a0e p3 p8)).1 = ((nth a0e p7 p8)).1) && (decide ((((nth a0e p3 p8)).2).1 = (((nth a0e p7 p8)).2).1) && (decide (((((nth a0e p3 p8)).2).2).1 = ((((nth a0e p7 p8)).2).2).1) && true))) then
 bif inB p8 (List.length p3) then
 bif inB p8 (List.length p7) then
 Option.bind (a4z ((nth a0e p3 p8), (nth a0e p7 p8), ())) fun r7 =>
 some (r7.1, ())
 else none
 else none
 else
 b2w m0 p0 p1 p2 p3 p4 p5 p6 p7 (IntKind.wrap .i64 (p8 + 1))
 else none
 else none
 else
 some (decide ((List.length p3 : Int) < (List.length p7 : Int)), ())
 else
 some (decide ((List.length p3 : Int) < (List.length p7 : Int)), ()) := by
 rewrite [e4q]
 kernel_rfl
abbrev d3b : List ATy := [.data true a0f, .data true a0f]
abbrev d5x : List (Bool × Ty) := [(false, .bool)]
abbrev d5s : List RMode := []
abbrev g8v : Type := a0b × a0b × Unit → Option (Bool × Unit)
def f3q : Ctx := { types := TT, globals := [], con := [(78, b8o)], keep := [], results := [.tmp 4], ntmps := 15, n := N }
def f3k : Code := (Tryz.f79.body).getD .skip
def a8a : g8v := hid (a1g f3q f3k d3b d5x d5s)
theorem f6f : a8a = a1g f3q f3k d3b d5x d5s := a0d _
def c5e : Contract := ⟨d3b, d5x, d5s, a8a⟩
theorem f6p : Sound Tryz.prog GG 79 c5e := by
 unfold c5e; rw [f6f]
 exact mkS Tryz.f79 ⟨d8a, trivial⟩ trivial
theorem h7f (a0 a1 : a0b) : a8a (a0, a1, ()) =
 Option.bind (a4q (a0, a1, ())) fun r0 =>
 bif !r0.1 then
 Option.bind (a4q (a1, a0, ())) fun r2 =>
 some (!r2.1, ())
 else
 some (false, ()) := by
 rewrite [f6f]
 kernel_rfl
abbrev c3u : List ATy := [.data false (.sl a0f), .data true a0f]
abbrev b2r : List (Bool × Ty) := [(false, (.sl a0f))]
abbrev b8k : List RMode := [.imm]
abbrev g2j : Type := (List a0b) × a0b × Unit → Option ((List a0b) × Unit)
def c7n : Ctx := { types := TT, globals := [], con := [(78, b8o), (79, c5e)], keep := [(2, ⟨[.box 3, .tmp 0, .tmp 3, .tmp 5], []⟩)], results := [.tmp 4], ntmps := 45, n := N }
def c7b : Code := (Tryz.f32.body).getD .skip
def d3u (m0 : Nat) (p0 p1 p2 : Int) (p3 : List a0a) (p4 : List a0b) (p5 : Int) : Option (a1y b2r) := a2h c7n c7b b2r b8k 2 [m0] [(.ver, .num 1), (.box 3, .box 0 false [.int .i64 p0, .int .i64 p1, .int .i64 p2, .imm a0e p3 (some 4)]), (.tmp 0, .val false [.imm a0f p4 (some 0)]), (.tmp 3, .val false [.addr 3 0 0]), (.tmp 5, .val false [.int .i64 p5])]
def a9z : g2j := hid (a1g c7n c7b c3u b2r b8k)
theorem e3c : a9z = a1g c7n c7b c3u b2r b8k := a0d _
def b6y : Contract := ⟨c3u, b2r, b8k, a9z⟩
theorem e4e : Sound Tryz.prog GG 32 b6y := by
 unfold b6y; rw [e3c]
 exact mkS Tryz.f32 ⟨d8a, f6p, trivial⟩ trivial
def a9x := hid (d3u)
theorem d3v : a9x = d3u := a0d _
theorem g5z (a0 : List a0b) (a1 : a0b) : a9z (a0, a1, ()) =
 a9x N a1.1 a1.2.1 a1.2.2.1 a1.2.2.2.1 a0 0 := by
 rewrite [e3c, d3v]
 kernel_rfl
theorem f8i (m0 : Nat) (p0 p1 p2 : Int) (p3 : List a0a) (p4 : List a0b) (p5 : Int) : a9x (m0 + 1) p0 p1 p2 p3 p4 p5 =
 bif decide (p5 < (List.length p4 : Int)) then
 bif inB p5 (List.length p4) then
 Option.bind (a4q ((nth a0f p4 p5), (p0, (p1, (p2, (p3, ())))), ())) fun r2 =>
 bif r2.1 then
 a9x m0 p0 p1 p2 p3 p4 (IntKind.wrap .i64 (p5 + 1))
 else
 bif decide (p5 < (List.length p4 : Int)) then
 bif inB p5 (List.length p4) then
 Option.bind (a8a ((nth a0f p4 p5), (p0, (p1, (p2, (p3, ())))), ())) fun r6 =>
 bif r6.1 then
 some (p4, ())
 else
 bif (decide ((0 : Int) ≤ 0) && decide ((0 : Int) ≤ p5) && decide (p5 ≤ (List.length p4 : Int))) then
 bif (decide (((List.length ([] : List a0b)) + (List.length (cut p4 0 p5))) * 48 ≤ 140737488355328) && decide (((List.length ([] : List a0b)) + (List.length (cut p4 0 p5))) ≤ 140737488355328)) then
 bif (decide (((List.length (([] : List a0b) ++ (cut p4 0 p5))) + (List.length ([(p0, (p1, (p2, (p3, ()))))] : List a0b))) * 48 ≤ 140737488355328) && decide (((List.length (([] : List a0b) ++ (cut p4 0 p5))) + (List.length ([(p0, (p1, (p2, (p3, ()))))] : List a0b))) ≤ 140737488355328)) then
 bif (decide ((0 : Int) ≤ p5) && decide (p5 ≤ (List.length p4 : Int)) && decide ((List.length p4 : Int) ≤ (List.length p4 : Int))) then
 bif (decide (((List.length ((([] : List a0b) ++ (cut p4 0 p5)) ++ ([(p0, (p1, (p2, (p3, ()))))] : List a0b))) + (List.length (cut p4 p5 (List.length p4 : Int)))) * 48 ≤ 140737488355328) && decide (((List.length ((([] : List a0b) ++ (cut p4 0 p5)) ++ ([(p0, (p1, (p2, (p3, ()))))] : List a0b))) + (List.length (cut p4 p5 (List.length p4 : Int)))) ≤ 140737488355328)) then
 some ((((([] : List a0b) ++ (cut p4 0 p5)) ++ ([(p0, (p1, (p2, (p3, ()))))] : List a0b)) ++ (cut p4 p5 (List.length p4 : Int))), ())
 else none
 else none
 else none
 else none
 else none
 else none
 else
 bif (decide ((0 : Int) ≤ 0) && decide ((0 : Int) ≤ p5) && decide (p5 ≤ (List.length p4 : Int))) then
 bif (decide (((List.length ([] : List a0b)) + (List.length (cut p4 0 p5))) * 48 ≤ 140737488355328) && decide (((List.length ([] : List a0b)) + (List.length (cut p4 0 p5))) ≤ 140737488355328)) then
 bif (decide (((List.length (([] : List a0b) ++ (cut p4 0 p5))) + (List.length ([(p0, (p1, (p2, (p3, ()))))] : List a0b))) * 48 ≤ 140737488355328) && decide (((List.length (([] : List a0b) ++ (cut p4 0 p5))) + (List.length ([(p0, (p1, (p2, (p3, ()))))] : List a0b))) ≤ 140737488355328)) then
 bif (decide ((0 : Int) ≤ p5) && decide (p5 ≤ (List.length p4 : Int)) && decide ((List.length p4 : Int) ≤ (List.length p4 : Int))) then
 bif (decide (((List.length ((([] : List a0b) ++ (cut p4 0 p5)) ++ ([(p0, (p1, (p2, (p3, ()))))] : List a0b))) + (List.length (cut p4 p5 (List.length p4 : Int)))) * 48 ≤ 140737488355328) && decide (((List.length ((([] : List a0b) ++ (cut p4 0 p5)) ++ ([(p0, (p1, (p2, (p3, ()))))] : List a0b))) + (List.length (cut p4 p5 (List.length p4 : Int)))) ≤ 140737488355328)) then
 some ((((([] : List a0b) ++ (cut p4 0 p5)) ++ ([(p0, (p1, (p2, (p3, ()))))] : List a0b)) ++ (cut p4 p5 (List.length p4 : Int))), ())
 else none
 else none
 else none
 else none
 else none
 else none
 else
 bif decide (p5 < (List.length p4 : Int)) then
 bif inB p5 (List.length p4) then
 Option.bind (a8a ((nth a0f p4 p5), (p0, (p1, (p2, (p3, ())))), ())) fun r3 =>
 bif r3.1 then
 some (p4, ())
 else
 bif (decide ((0 : Int) ≤ 0) && decide ((0 : Int) ≤ p5) && decide (p5 ≤ (List.length p4 : Int))) then
 bif (decide (((List.length ([] : List a0b)) + (List.length (cut p4 0 p5))) * 48 ≤ 140737488355328) && decide (((List.length ([] : List a0b)) + (List.length (cut p4 0 p5))) ≤ 140737488355328)) then
 bif (decide (((List.length (([] : List a0b) ++ (cut p4 0 p5))) + (List.length ([(p0, (p1, (p2, (p3, ()))))] : List a0b))) * 48 ≤ 140737488355328) && decide (((List.length (([] : List a0b) ++ (cut p4 0 p5))) + (List.length ([(p0, (p1, (p2, (p3, ()))))] : List a0b))) ≤ 140737488355328)) then
 bif (decide ((0 : Int) ≤ p5) && decide (p5 ≤ (List.length p4 : Int)) && decide ((List.length p4 : Int) ≤ (List.length p4 : Int))) then
 bif (decide (((List.length ((([] : List a0b) ++ (cut p4 0 p5)) ++ ([(p0, (p1, (p2, (p3, ()))))] : List a0b))) + (List.length (cut p4 p5 (List.length p4 : Int)))) * 48 ≤ 140737488355328) && decide (((List.length ((([] : List a0b) ++ (cut p4 0 p5)) ++ ([(p0, (p1, (p2, (p3, ()))))] : List a0b))) + (List.length (cut p4 p5 (List.length p4 : Int)))) ≤ 140737488355328)) then
 some ((((([] : List a0b) ++ (cut p4 0 p5)) ++ ([(p0, (p1, (p2, (p3, ()))))] : List a0b)) ++ (cut p4 p5 (List.length p4 : Int))), ())
 else none
 else none
 else none
 else none
 else none
 else none
 else
 bif (decide ((0 : Int) ≤ 0) && decide ((0 : Int) ≤ p5) && decide (p5 ≤ (List.length p4 : Int))) then
 bif (decide (((List.length ([] : List a0b)) + (List.length (cut p4 0 p5))) * 48 ≤ 140737488355328) && decide (((List.length ([] : List a0b)) + (List.length (cut p4 0 p5))) ≤ 140737488355328)) then
 bif (decide (((List.length (([] : List a0b) ++ (cut p4 0 p5))) + (List.length ([(p0, (p1, (p2, (p3, ()))))] : List a0b))) * 48 ≤ 140737488355328) && decide (((List.length (([] : List a0b) ++ (cut p4 0 p5))) + (List.length ([(p0, (p1, (p2, (p3, ()))))] : List a0b))) ≤ 140737488355328)) then
 bif (decide ((0 : Int) ≤ p5) && decide (p5 ≤ (List.length p4 : Int)) && decide ((List.length p4 : Int) ≤ (List.length p4 : Int))) then
 bif (decide (((List.length ((([] : List a0b) ++ (cut p4 0 p5)) ++ ([(p0, (p1, (p2, (p3, ()))))] : List a0b))) + (List.length (cut p4 p5 (List.length p4 : Int)))) * 48 ≤ 140737488355328) && decide (((List.length ((([] : List a0b) ++ (cut p4 0 p5)) ++ ([(p0, (p1, (p2, (p3, ()))))] : List a0b))) + (List.length (cut p4 p5 (List.length p4 : Int)))) ≤ 140737488355328)) then
 some ((((([] : List a0b) ++ (cut p4 0 p5)) ++ ([(p0, (p1, (p2, (p3, ()))))] : List a0b)) ++ (cut p4 p5 (List.length p4 : Int))), ())
 else none
 else none
 else none
 else none
 else none := by
 rewrite [d3v]
 kernel_rfl
abbrev c7f : List ATy := [.data true a0f, .data true a0e]
abbrev b4m : List (Bool × Ty) := [(false, (.sl a0e))]
abbrev c1r : List RMode := [.own 55]
abbrev g7o : Type := a0b × a0a × Unit → Option ((List a0a) × Unit)
def d2i : Ctx := { types := TT, globals := [], con := [], keep := [(3, ⟨[.box 2, .box 3, .tmp 2, .tmp 3, .tmp 5, .tmp 6], []⟩)], results := [.tmp 4], ntmps := 41, n := N }
def d2x : Code := (Tryz.f30.body).getD .skip
def e0f (m0 : Nat) (p0 p1 p2 : Int) (p3 : List a0a) (p4 p5 p6 : Int) (p7 : List a0a) (p8 : Int) : Option (a1y b4m) := a2h d2i d2x b4m c1r 3 [m0] [(.ver, .num 1), (.box 2, .box 0 false [.int .i64 p0, .int .i64 p1, .int .i64 p2, .imm a0e p3 (some 3)]), (.box 3, .box 0 false [.int .i64 p4, .int .i64 p5, .int .i64 p6]), (.tmp 2, .val false [.addr 2 0 0]), (.tmp 3, .val false [.addr 3 0 0]), (.tmp 5, .val false [.own 55 a0e 0 p7]), (.tmp 6, .val false [.int .i64 p8])]
def a2z : g7o := hid (a1g d2i d2x c7f b4m c1r)
theorem e8e : a2z = a1g d2i d2x c7f b4m c1r := a0d _
def b1f : Contract := ⟨c7f, b4m, c1r, a2z⟩
theorem c1g : Sound Tryz.prog GG 30 b1f := by
 unfold b1f; rw [e8e]
 exact mkS Tryz.f30 trivial trivial
def b0r := hid (e0f)
theorem d8z : b0r = e0f := a0d _
theorem h0m (a0 : a0b) (a1 : a0a) : a2z (a0, a1, ()) =
 b0r N a0.1 a0.2.1 a0.2.2.1 a0.2.2.2.1 a1.1 a1.2.1 a1.2.2.1 ([] : List a0a) 0 := by
 rewrite [e8e, d8z]
 kernel_rfl
theorem g2h (m0 : Nat) (p0 p1 p2 : Int) (p3 : List a0a) (p4 p5 p6 : Int) (p7 : List a0a) (p8 : Int) : b0r (m0 + 1) p0 p1 p2 p3 p4 p5 p6 p7 p8 =
 bif decide (p8 < (List.length p3 : Int)) then
 bif inB p8 (List.length p3) then
 bif (decide (((List.length p7) + (List.length ([((IntKind.wrap .i64 (((nth a0e p3 p8)).1 + p4)), ((IntKind.wrap .i64 ((((nth a0e p3 p8)).2).1 + p5)), ((IntKind.wrap .i64 (((((nth a0e p3 p8)).2).2).1 + p6)), ())))] : List a0a))) * 24 ≤ 140737488355328) && decide (((List.length p7) + (List.length ([((IntKind.wrap .i64 (((nth a0e p3 p8)).1 + p4)), ((IntKind.wrap .i64 ((((nth a0e p3 p8)).2).1 + p5)), ((IntKind.wrap .i64 (((((nth a0e p3 p8)).2).2).1 + p6)), ())))] : List a0a))) ≤ 140737488355328)) then
 b0r m0 p0 p1 p2 p3 p4 p5 p6 (p7 ++ ([((IntKind.wrap .i64 (((nth a0e p3 p8)).1 + p4)), ((IntKind.wrap .i64 ((((nth a0e p3 p8)).2).1 + p5)), ((IntKind.wrap .i64 (((((nth a0e p3 p8)).2).2).1 + p6)), ())))] : List a0a)) (IntKind.wrap .i64 (p8 + 1))
 else none
 else none
 else
 some (p7, ()) := by
 rewrite [d8z]
 kernel_rfl
abbrev c6n : List ATy := [.data false (.int .i64), .data false (.int .i64)]
abbrev d3g : List (Bool × Ty) := [(false, (.int .i64))]
abbrev d2s : List RMode := []
abbrev g5m : Type := Int × Int × Unit → Option (Int × Unit)
def e8s : Ctx := { types := TT, globals := [], con := [], keep := [], results := [.tmp 4], ntmps := 10, n := N }
def e8k : Code := (Tryz.f66.body).getD .skip
def a6s : g5m := hid (a1g e8s e8k c6n d3g d2s)
theorem e7k : a6s = a1g e8s e8k c6n d3g d2s := a0d _
def d1d : Contract := ⟨c6n, d3g, d2s, a6s⟩
theorem g9d : Sound Tryz.prog GG 66 d1d := by
 unfold d1d; rw [e7k]
 exact mkS Tryz.f66 trivial trivial
theorem g9o (a0 a1 : Int) : a6s (a0, a1, ()) =
 bif decide (a0 < a1) then
 some (a0, ())
 else
 some (a1, ()) := by
 rewrite [e7k]
 kernel_rfl
abbrev d1s : List ATy := [.data false (.int .i64), .data false (.int .i64)]
abbrev d7l : List (Bool × Ty) := [(false, (.int .i64))]
abbrev d7d : List RMode := []
abbrev g8w : Type := Int × Int × Unit → Option (Int × Unit)
def f5a : Ctx := { types := TT, globals := [], con := [], keep := [], results := [.tmp 4], ntmps := 10, n := N }
def f4h : Code := (Tryz.f67.body).getD .skip
def a1i : g8w := hid (a1g f5a f4h d1s d7l d7d)
theorem f2x : a1i = a1g f5a f4h d1s d7l d7d := a0d _
def b3m : Contract := ⟨d1s, d7l, d7d, a1i⟩
theorem c4w : Sound Tryz.prog GG 67 b3m := by
 unfold b3m; rw [f2x]
 exact mkS Tryz.f67 trivial trivial
theorem f3r (a0 a1 : Int) : a1i (a0, a1, ()) =
 bif decide (a0 > a1) then
 some (a0, ())
 else
 some (a1, ()) := by
 rewrite [f2x]
 kernel_rfl
abbrev c8c : List ATy := [.data false (.int .i64), .data false (.int .i64), .data false (.int .i64)]
abbrev d3j : List (Bool × Ty) := [(true, a0f)]
abbrev d1k : List RMode := [.own 55]
abbrev g6o : Type := Int × Int × Int × Unit → Option (a0b × Unit)
def e9l : Ctx := { types := TT, globals := [], con := [], keep := [], results := [.cell 6 29], ntmps := 12, n := N }
def e7r : Code := (Tryz.f68.body).getD .skip
def a1l : g6o := hid (a1g e9l e7r c8c d3j d1k)
theorem e9m : a1l = a1g e9l e7r c8c d3j d1k := a0d _
def a2c : Contract := ⟨c8c, d3j, d1k, a1l⟩
theorem a2v : Sound Tryz.prog GG 68 a2c := by
 unfold a2c; rw [e9m]
 exact mkS Tryz.f68 trivial trivial
theorem a2x (a0 a1 a2 : Int) : a1l (a0, a1, a2, ()) =
 some ((a0, (a1, (a2, (([] : List a0a), ())))), ()) := by
 rewrite [e9m]
 kernel_rfl
abbrev c0i : List ATy := [.data true a0f]
abbrev a5x : List (Bool × Ty) := [(true, a0f)]
abbrev b1b : List RMode := [.own 55]
abbrev f8c : Type := a0b × Unit → Option (a0b × Unit)
def b5b : Ctx := { types := TT, globals := [], con := [(30, b1f), (66, d1d), (67, b3m), (68, a2c)], keep := [(3, ⟨[.box 1, .box 2, .box 3, .box 4, .tmp 1, .tmp 2, .tmp 3, .tmp 4, .tmp 5], []⟩), (6, ⟨[.box 1, .box 2, .box 3, .box 4, .tmp 1, .tmp 2, .tmp 3, .tmp 4, .tmp 5, .tmp 6], []⟩)], results := [.cell 2 29], ntmps := 86, n := N }
def b5j : Code := (Tryz.f26.body).getD .skip
def d0m (m0 : Nat) (p0 p1 p2 : Int) (p3 : List a0a) (p4 p5 p6 : Int) (p7 : List a0a) (p8 p9 p10 p11 p12 p13 p14 : Int) : Option (a1y a5x) := a2h b5b b5j a5x b1b 3 [m0] [(.ver, .num 1), (.box 1, .box 0 false [.int .i64 p0, .int .i64 p1, .int .i64 p2, .imm a0e p3 (some 3)]), (.box 2, .box 0 false [.int .i64 p4, .int .i64 p5, .int .i64 p6, .own 55 a0e 0 p7]), (.box 3, .box 0 false [.int .i64 p8, .int .i64 p9, .int .i64 p10]), (.box 4, .box 0 false [.int .i64 p11, .int .i64 p12, .int .i64 p13]), (.tmp 1, .val false [.addr 1 0 0]), (.tmp 2, .val false [.addr 2 0 0]), (.tmp 3, .val false [.addr 3 0 0]), (.tmp 4, .val false [.addr 4 0 0]), (.tmp 5, .val false [.int .i64 p14])]
def d0i (m0 m1 : Nat) (p0 p1 p2 : Int) (p3 : List a0a) (p4 p5 p6 : Int) (p7 : List a0a) (p8 p9 p10 p11 p12 p13 p14 p15 : Int) : Option (a1y a5x) := a2h b5b b5j a5x b1b 6 [m0, m1] [(.ver, .num 1), (.box 1, .box 0 false [.int .i64 p0, .int .i64 p1, .int .i64 p2, .imm a0e p3 (some 3)]), (.box 2, .box 0 false [.int .i64 p4, .int .i64 p5, .int .i64 p6, .own 55 a0e 0 p7]), (.box 3, .box 0 false [.int .i64 p8, .int .i64 p9, .int .i64 p10]), (.box 4, .box 0 false [.int .i64 p11, .int .i64 p12, .int .i64 p13]), (.tmp 1, .val false [.addr 1 0 0]), (.tmp 2, .val false [.addr 2 0 0]), (.tmp 3, .val false [.addr 3 0 0]), (.tmp 4, .val false [.addr 4 0 0]), (.tmp 5, .val false [.int .i64 p14]), (.tmp 6, .val false [.int .i64 p15])]
def a2k : f8c := hid (a1g b5b b5j c0i a5x b1b)
theorem d9r : a2k = a1g b5b b5j c0i a5x b1b := a0d _
def b1a : Contract := ⟨c0i, a5x, b1b, a2k⟩
theorem c3a : Sound Tryz.prog GG 26 b1a := by
 unfold b1a; rw [d9r]
 exact mkS Tryz.f26 ⟨c1g, g9d, c4w, a2v, trivial⟩ trivial
def a3w := hid (d0m)
theorem b8s : a3w = d0m := a0d _
def a2t := hid (d0i)
theorem c9y : a2t = d0i := a0d _
theorem g1w (a0 : a0b) : a2k (a0, ()) =
 bif inB 0 (List.length a0.2.2.2.1) then
 bif inB 0 (List.length a0.2.2.2.1) then
 a3w N a0.1 a0.2.1 a0.2.2.1 a0.2.2.2.1 0 0 0 ([] : List a0a) (((nth a0e a0.2.2.2.1 0)).1) ((((nth a0e a0.2.2.2.1 0)).2).1) (((((nth a0e a0.2.2.2.1 0)).2).2).1) (((nth a0e a0.2.2.2.1 0)).1) ((((nth a0e a0.2.2.2.1 0)).2).1) (((((nth a0e a0.2.2.2.1 0)).2).2).1) 0
 else none
 else none := by
 rewrite [d9r, b8s]
 kernel_rfl
theorem f4m (m0 : Nat) (p0 p1 p2 : Int) (p3 : List a0a) (p4 p5 p6 : Int) (p7 : List a0a) (p8 p9 p10 p11 p12 p13 p14 : Int) : a3w (m0 + 1) p0 p1 p2 p3 p4 p5 p6 p7 p8 p9 p10 p11 p12 p13 p14 =
 bif decide (p14 < (List.length p3 : Int)) then
 a2t m0 N p0 p1 p2 p3 p4 p5 p6 p7 p8 p9 p10 p11 p12 p13 p14 0
 else
 Option.bind (a1l ((IntKind.wrap .i64 ((IntKind.wrap .i64 (p11 - p8)) + 1)), (IntKind.wrap .i64 ((IntKind.wrap .i64 (p12 - p9)) + 1)), (IntKind.wrap .i64 ((IntKind.wrap .i64 (p13 - p10)) + 1)), ())) fun r1 =>
 Option.bind (a2z ((p0, (p1, (p2, (p3, ())))), ((IntKind.wrap .i64 (0 - p8)), ((IntKind.wrap .i64 (0 - p9)), ((IntKind.wrap .i64 (0 - p10)), ()))), ())) fun r2 =>
 some ((r1.1.1, (r1.1.2.1, (r1.1.2.2.1, (r2.1, ())))), ()) := by
 rewrite [b8s, c9y]
 kernel_rfl
theorem b2a (m0 m1 : Nat) (p0 p1 p2 : Int) (p3 : List a0a) (p4 p5 p6 : Int) (p7 : List a0a) (p8 p9 p10 p11 p12 p13 p14 p15 : Int) : a2t m0 (m1 + 1) p0 p1 p2 p3 p4 p5 p6 p7 p8 p9 p10 p11 p12 p13 p14 p15 =
 bif decide (p15 < 3) then
 bif inB p15 3 then
 bif inB p14 (List.length p3) then
 bif inB p15 3 then
 Option.bind (a6s ((bif decide (p15 = (0 : Int)) then p8 else (bif decide (p15 = (1 : Int)) then p9 else p10)), (bif decide (p15 = (0 : Int)) then ((nth a0e p3 p14)).1 else (bif decide (p15 = (1 : Int)) then (((nth a0e p3 p14)).2).1 else ((((nth a0e p3 p14)).2).2).1)), ())) fun r4 =>
 bif inB p15 3 then
 bif inB p15 3 then
 bif inB p14 (List.length p3) then
 bif inB p15 3 then
 Option.bind (a1i ((bif decide (p15 = (0 : Int)) then p11 else (bif decide (p15 = (1 : Int)) then p12 else p13)), (bif decide (p15 = (0 : Int)) then ((nth a0e p3 p14)).1 else (bif decide (p15 = (1 : Int)) then (((nth a0e p3 p14)).2).1 else ((((nth a0e p3 p14)).2).2).1)), ())) fun r9 =>
 bif inB p15 3 then
 a2t m0 m1 p0 p1 p2 p3 p4 p5 p6 p7 (bif decide (p15 = (0 : Int)) then r4.1 else p8) (bif decide (p15 = (1 : Int)) then r4.1 else p9) (bif decide (p15 = (2 : Int)) then r4.1 else p10) (bif decide (p15 = (0 : Int)) then r9.1 else p11) (bif decide (p15 = (1 : Int)) then r9.1 else p12) (bif decide (p15 = (2 : Int)) then r9.1 else p13) p14 (IntKind.wrap .i64 (p15 + 1))
 else none
 else none
 else none
 else none
 else none
 else none
 else none
 else none
 else
 a3w m0 p0 p1 p2 p3 p4 p5 p6 p7 p8 p9 p10 p11 p12 p13 (IntKind.wrap .i64 (p14 + 1)) := by
 rewrite [b8s, c9y]
 kernel_rfl
abbrev d5l : List ATy := [.data true a0e]
abbrev a3l : List (Bool × Ty) := [(false, (.int .i64))]
abbrev c2c : List RMode := []
abbrev f6a : Type := a0a × Unit → Option (Int × Unit)
def d0f : Ctx := { types := TT, globals := [], con := [], keep := [(3, ⟨[.box 1, .tmp 1, .tmp 3, .tmp 4], []⟩), (6, ⟨[.box 1, .tmp 1, .tmp 3, .tmp 4, .tmp 5], []⟩)], results := [.tmp 2], ntmps := 26, n := N }
def d0p : Code := (Tryz.f69.body).getD .skip
def e7x (m0 : Nat) (p0 p1 p2 p3 p4 : Int) : Option (a1y a3l) := a2h d0f d0p a3l c2c 3 [m0] [(.ver, .num 1), (.box 1, .box 0 false [.int .i64 p0, .int .i64 p1, .int .i64 p2]), (.tmp 1, .val false [.addr 1 0 0]), (.tmp 3, .val false [.int .i64 p3]), (.tmp 4, .val false [.int .i64 p4])]
def e9j (m0 m1 : Nat) (p0 p1 p2 p3 p4 p5 : Int) : Option (a1y a3l) := a2h d0f d0p a3l c2c 6 [m0, m1] [(.ver, .num 1), (.box 1, .box 0 false [.int .i64 p0, .int .i64 p1, .int .i64 p2]), (.tmp 1, .val false [.addr 1 0 0]), (.tmp 3, .val false [.int .i64 p3]), (.tmp 4, .val false [.int .i64 p4]), (.tmp 5, .val false [.int .i64 p5])]
def b6k : f6a := hid (a1g d0f d0p d5l a3l c2c)
theorem g0t : b6k = a1g d0f d0p d5l a3l c2c := a0d _
def e2r : Contract := ⟨d5l, a3l, c2c, b6k⟩
theorem h9m : Sound Tryz.prog GG 69 e2r := by
 unfold e2r; rw [g0t]
 exact mkS Tryz.f69 trivial trivial
def b1o := hid (e7x)
theorem d1f : b1o = e7x := a0d _
def b1d := hid (e9j)
theorem e8o : b1d = e9j := a0d _
theorem i1d (a0 : a0a) : b6k (a0, ()) =
 b1o N a0.1 a0.2.1 a0.2.2.1 0 0 := by
 rewrite [g0t, d1f]
 kernel_rfl
theorem h0i (m0 : Nat) (p0 p1 p2 p3 p4 : Int) : b1o (m0 + 1) p0 p1 p2 p3 p4 =
 bif decide (p4 < 3) then
 b1d m0 N p0 p1 p2 p3 p4 0
 else
 some ((Int.tmod p3 2), ()) := by
 rewrite [d1f, e8o]
 kernel_rfl
theorem g9z (m0 m1 : Nat) (p0 p1 p2 p3 p4 p5 : Int) : b1d m0 (m1 + 1) p0 p1 p2 p3 p4 p5 =
 bif decide (p5 < p4) then
 bif inB p5 3 then
 bif inB p4 3 then
 bif decide ((bif decide (p5 = (0 : Int)) then p0 else (bif decide (p5 = (1 : Int)) then p1 else p2)) > (bif decide (p4 = (0 : Int)) then p0 else (bif decide (p4 = (1 : Int)) then p1 else p2))) then
 b1d m0 m1 p0 p1 p2 (IntKind.wrap .i64 (p3 + 1)) p4 (IntKind.wrap .i64 (p5 + 1))
 else
 b1d m0 m1 p0 p1 p2 p3 p4 (IntKind.wrap .i64 (p5 + 1))
 else none
 else none
 else
 b1o m0 p0 p1 p2 p3 (IntKind.wrap .i64 (p4 + 1)) := by
 rewrite [d1f, e8o]
 kernel_rfl
abbrev c7x : List ATy := []
abbrev a0w : List (Bool × Ty) := [(false, (.sl a1h))]
abbrev b1e : List RMode := [.own 57]
abbrev e3v : Type := Unit → Option ((List a0c) × Unit)
def b4i : Ctx := { types := TT, globals := [], con := [(69, e2r)], keep := [(3, ⟨[.tmp 1, .tmp 2], []⟩), (6, ⟨[.tmp 1, .tmp 2, .tmp 3], []⟩), (9, ⟨[.tmp 1, .tmp 2, .tmp 3, .tmp 4], []⟩)], results := [.tmp 0], ntmps := 62, n := N }
def b4v : Code := (Tryz.f27.body).getD .skip
def d9j (m0 : Nat) (p0 : List a0c) (p1 : Int) : Option (a1y a0w) := a2h b4i b4v a0w b1e 3 [m0] [(.ver, .num 1), (.tmp 1, .val false [.own 57 a1h 0 p0]), (.tmp 2, .val false [.int .i64 p1])]
def d9u (m0 m1 : Nat) (p0 : List a0c) (p1 p2 : Int) : Option (a1y a0w) := a2h b4i b4v a0w b1e 6 [m0, m1] [(.ver, .num 1), (.tmp 1, .val false [.own 57 a1h 0 p0]), (.tmp 2, .val false [.int .i64 p1]), (.tmp 3, .val false [.int .i64 p2])]
def d9a (m0 m1 m2 : Nat) (p0 : List a0c) (p1 p2 p3 : Int) : Option (a1y a0w) := a2h b4i b4v a0w b1e 9 [m0, m1, m2] [(.ver, .num 1), (.tmp 1, .val false [.own 57 a1h 0 p0]), (.tmp 2, .val false [.int .i64 p1]), (.tmp 3, .val false [.int .i64 p2]), (.tmp 4, .val false [.int .i64 p3])]
def a6r : e3v := hid (a1g b4i b4v c7x a0w b1e)
theorem e7q : a6r = a1g b4i b4v c7x a0w b1e := a0d _
def c1f : Contract := ⟨c7x, a0w, b1e, a6r⟩
theorem e8g : Sound Tryz.prog GG 27 c1f := by
 unfold c1f; rw [e7q]
 exact mkS Tryz.f27 ⟨h9m, trivial⟩ trivial
def a6d := hid (d9j)
theorem c2z : a6d = d9j := a0d _
def a5w := hid (d9u)
theorem c3v : a5w = d9u := a0d _
def a7v := hid (d9a)
theorem e0q : a7v = d9a := a0d _
theorem g9j  : a6r (()) =
 a6d N ([] : List a0c) 0 := by
 rewrite [e7q, c2z]
 kernel_rfl
theorem g2x (m0 : Nat) (p0 : List a0c) (p1 : Int) : a6d (m0 + 1) p0 p1 =
 bif decide (p1 < 3) then
 a5w m0 N p0 p1 0
 else
 some (p0, ()) := by
 rewrite [c2z, c3v]
 kernel_rfl
theorem g1r (m0 m1 : Nat) (p0 : List a0c) (p1 p2 : Int) : a5w m0 (m1 + 1) p0 p1 p2 =
 bif decide (p2 < 3) then
 a7v m0 m1 N p0 p1 p2 0
 else
 a6d m0 p0 (IntKind.wrap .i64 (p1 + 1)) := by
 rewrite [c2z, c3v, e0q]
 kernel_rfl
theorem g1x (m0 m1 m2 : Nat) (p0 : List a0c) (p1 p2 p3 : Int) : a7v m0 m1 (m2 + 1) p0 p1 p2 p3 =
 bif decide (p3 < 8) then
 bif !decide (p1 = p2) then
 Option.bind (b6k ((p1, (p2, ((IntKind.wrap .i64 ((IntKind.wrap .i64 (3 - p1)) - p2)), ()))), ())) fun r2 =>
 bif decide (r2.1 = (Int.tmod (IntKind.wrap .i64 ((IntKind.wrap .i64 ((intBits .and .i64 (b9x .i64 p3 2) 1) + (intBits .and .i64 (b9x .i64 p3 1) 1))) + (intBits .and .i64 p3 1))) 2)) then
 bif (decide (((List.length p0) + (List.length ([((p1, (p2, ((IntKind.wrap .i64 ((IntKind.wrap .i64 (3 - p1)) - p2)), ()))), (((intBits .and .i64 (b9x .i64 p3 2) 1), ((intBits .and .i64 (b9x .i64 p3 1) 1), ((intBits .and .i64 p3 1), ()))), ()))] : List a0c))) * 48 ≤ 140737488355328) && decide (((List.length p0) + (List.length ([((p1, (p2, ((IntKind.wrap .i64 ((IntKind.wrap .i64 (3 - p1)) - p2)), ()))), (((intBits .and .i64 (b9x .i64 p3 2) 1), ((intBits .and .i64 (b9x .i64 p3 1) 1), ((intBits .and .i64 p3 1), ()))), ()))] : List a0c))) ≤ 140737488355328)) then
 a7v m0 m1 m2 (p0 ++ ([((p1, (p2, ((IntKind.wrap .i64 ((IntKind.wrap .i64 (3 - p1)) - p2)), ()))), (((intBits .and .i64 (b9x .i64 p3 2) 1), ((intBits .and .i64 (b9x .i64 p3 1) 1), ((intBits .and .i64 p3 1), ()))), ()))] : List a0c)) p1 p2 (IntKind.wrap .i64 (p3 + 1))
 else none
 else
 a7v m0 m1 m2 p0 p1 p2 (IntKind.wrap .i64 (p3 + 1))
 else
 a5w m0 m1 p0 p1 (IntKind.wrap .i64 (p2 + 1))
 else
 a5w m0 m1 p0 p1 (IntKind.wrap .i64 (p2 + 1)) := by
 rewrite [c3v, e0q]
 kernel_rfl
abbrev d1e : List ATy := [.data true a0f, .data false (.int .i64)]
abbrev d5r : List (Bool × Ty) := [(false, (.int .i64))]
abbrev d6w : List RMode := []
abbrev g9r : Type := a0b × Int × Unit → Option (Int × Unit)
def f5j : Ctx := { types := TT, globals := [], con := [], keep := [], results := [.tmp 4], ntmps := 14, n := N }
def f6b : Code := (Tryz.f70.body).getD .skip
def a1e : g9r := hid (a1g f5j f6b d1e d5r d6w)
theorem f4n : a1e = a1g f5j f6b d1e d5r d6w := a0d _
def b7q : Contract := ⟨d1e, d5r, d6w, a1e⟩
theorem d6m : Sound Tryz.prog GG 70 b7q := by
 unfold b7q; rw [f4n]
 exact mkS Tryz.f70 trivial trivial
theorem b7l (a0 : a0b) (a1 : Int) : a1e (a0, a1, ()) =
 bif inB a1 3 then
 some ((bif decide (a1 = (0 : Int)) then a0.1 else (bif decide (a1 = (1 : Int)) then a0.2.1 else a0.2.2.1)), ())
 else none := by
 rewrite [f4n]
 kernel_rfl
abbrev d2y : List ATy := [.data true a0f, .data false (.sl a0e)]
abbrev d5p : List (Bool × Ty) := [(true, a0f)]
abbrev d6b : List RMode := [.pass 4]
abbrev g9p : Type := a0b × (List a0a) × Unit → Option (a0b × Unit)
def f4e : Ctx := { types := TT, globals := [], con := [], keep := [], results := [.cell 4 29], ntmps := 13, n := N }
def f6m : Code := (Tryz.f73.body).getD .skip
def a4t : g9p := hid (a1g f4e f6m d2y d5p d6b)
theorem f6j : a4t = a1g f4e f6m d2y d5p d6b := a0d _
def b3h : Contract := ⟨d2y, d5p, d6b, a4t⟩
theorem c5k : Sound Tryz.prog GG 73 b3h := by
 unfold b3h; rw [f6j]
 exact mkS Tryz.f73 trivial trivial
theorem b8q (a0 : a0b) (a1 : List a0a) : a4t (a0, a1, ()) =
 some ((a0.1, (a0.2.1, (a0.2.2.1, (a1, ())))), ()) := by
 rewrite [f6j]
 kernel_rfl
abbrev d8f : List ATy := [.data true a0f]
abbrev e1a : List (Bool × Ty) := [(true, a0f)]
abbrev e2k : List RMode := [.own 55]
abbrev h6e : Type := a0b × Unit → Option (a0b × Unit)
def g1b : Ctx := { types := TT, globals := [], con := [(73, b3h)], keep := [], results := [.cell 2 29], ntmps := 9, n := N }
def g1h : Code := (Tryz.f75.body).getD .skip
def b2j : h6e := hid (a1g g1b g1h d8f e1a e2k)
theorem g0k : b2j = a1g g1b g1h d8f e1a e2k := a0d _
def d0l : Contract := ⟨d8f, e1a, e2k, b2j⟩
theorem f9p : Sound Tryz.prog GG 75 d0l := by
 unfold d0l; rw [g0k]
 exact mkS Tryz.f75 ⟨c5k, trivial⟩ trivial
theorem i0i (a0 : a0b) : b2j (a0, ()) =
 bif (decide (((List.length ([] : List a0a)) + (List.length a0.2.2.2.1)) * 24 ≤ 140737488355328) && decide (((List.length ([] : List a0a)) + (List.length a0.2.2.2.1)) ≤ 140737488355328)) then
 Option.bind (a4t (a0, (([] : List a0a) ++ a0.2.2.2.1), ())) fun r1 =>
 some ((r1.1.1, (r1.1.2.1, (r1.1.2.2.1, ((([] : List a0a) ++ a0.2.2.2.1), ())))), ())
 else none := by
 rewrite [g0k]
 kernel_rfl
abbrev d1j : List ATy := [.data true a0f, .data true a0e]
abbrev b8g : List (Bool × Ty) := [(true, a0f)]
abbrev c5n : List RMode := [.own 55]
abbrev g9q : Type := a0b × a0a × Unit → Option (a0b × Unit)
def d7i : Ctx := { types := TT, globals := [], con := [(73, b3h), (75, d0l), (111, b2v)], keep := [(2, ⟨[.box 2, .box 3, .box 4, .tmp 2, .tmp 3, .tmp 4, .tmp 5], []⟩)], results := [.cell 4 29], ntmps := 54, n := N }
def d8i : Code := (Tryz.f71.body).getD .skip
def e0z (m0 : Nat) (p0 p1 p2 : Int) (p3 : List a0a) (p4 p5 p6 p7 p8 p9 : Int) (p10 : List a0a) (p11 : Int) : Option (a1y b8g) := a2h d7i d8i b8g c5n 2 [m0] [(.ver, .num 1), (.box 2, .box 0 false [.int .i64 p0, .int .i64 p1, .int .i64 p2, .imm a0e p3 (some 3)]), (.box 3, .box 0 false [.int .i64 p4, .int .i64 p5, .int .i64 p6]), (.box 4, .box 0 false [.int .i64 p7, .int .i64 p8, .int .i64 p9, .own 55 a0e 0 p10]), (.tmp 2, .val false [.addr 2 0 0]), (.tmp 3, .val false [.addr 3 0 0]), (.tmp 4, .val false [.addr 4 0 0]), (.tmp 5, .val false [.int .i64 p11])]
def a4s : g9q := hid (a1g d7i d8i d1j b8g c5n)
theorem f5u : a4s = a1g d7i d8i d1j b8g c5n := a0d _
def b0e : Contract := ⟨d1j, b8g, c5n, a4s⟩
theorem b7a : Sound Tryz.prog GG 71 b0e := by
 unfold b0e; rw [f5u]
 exact mkS Tryz.f71 ⟨c5k, f9p, c6h, trivial⟩ trivial
def b2c := hid (e0z)
theorem e5a : b2c = e0z := a0d _
theorem h5i (a0 : a0b) (a1 : a0a) : a4s (a0, a1, ()) =
 b2c N a0.1 a0.2.1 a0.2.2.1 a0.2.2.2.1 a1.1 a1.2.1 a1.2.2.1 0 0 0 ([] : List a0a) 0 := by
 rewrite [f5u, e5a]
 kernel_rfl
theorem g4i (m0 : Nat) (p0 p1 p2 : Int) (p3 : List a0a) (p4 p5 p6 p7 p8 p9 : Int) (p10 : List a0a) (p11 : Int) : b2c (m0 + 1) p0 p1 p2 p3 p4 p5 p6 p7 p8 p9 p10 p11 =
 bif decide (p11 < (List.length p3 : Int)) then
 bif inB p11 (List.length p3) then
 Option.bind (a4z ((nth a0e p3 p11), (p4, (p5, (p6, ()))), ())) fun r2 =>
 bif r2.1 then
 b2c m0 p0 p1 p2 p3 p4 p5 p6 p7 p8 p9 p10 (IntKind.wrap .i64 (p11 + 1))
 else
 bif decide (p11 < (List.length p3 : Int)) then
 bif inB p11 (List.length p3) then
 bif (decide (((nth a0e p3 p11)).1 = p4) && (decide ((((nth a0e p3 p11)).2).1 = p5) && (decide (((((nth a0e p3 p11)).2).2).1 = p6) && true))) then
 Option.bind (b2j ((p0, (p1, (p2, (p3, ())))), ())) fun r7 =>
 some (r7.1, ())
 else
 bif (decide ((0 : Int) ≤ 0) && decide ((0 : Int) ≤ p11) && decide (p11 ≤ (List.length p3 : Int))) then
 bif (decide (((List.length ([] : List a0a)) + (List.length (cut p3 0 p11))) * 24 ≤ 140737488355328) && decide (((List.length ([] : List a0a)) + (List.length (cut p3 0 p11))) ≤ 140737488355328)) then
 bif (decide (((List.length (([] : List a0a) ++ (cut p3 0 p11))) + (List.length ([(p4, (p5, (p6, ())))] : List a0a))) * 24 ≤ 140737488355328) && decide (((List.length (([] : List a0a) ++ (cut p3 0 p11))) + (List.length ([(p4, (p5, (p6, ())))] : List a0a))) ≤ 140737488355328)) then
 bif (decide ((0 : Int) ≤ p11) && decide (p11 ≤ (List.length p3 : Int)) && decide ((List.length p3 : Int) ≤ (List.length p3 : Int))) then
 bif (decide (((List.length ((([] : List a0a) ++ (cut p3 0 p11)) ++ ([(p4, (p5, (p6, ())))] : List a0a))) + (List.length (cut p3 p11 (List.length p3 : Int)))) * 24 ≤ 140737488355328) && decide (((List.length ((([] : List a0a) ++ (cut p3 0 p11)) ++ ([(p4, (p5, (p6, ())))] : List a0a))) + (List.length (cut p3 p11 (List.length p3 : Int)))) ≤ 140737488355328)) then
 Option.bind (a4t ((p0, (p1, (p2, (p3, ())))), (((([] : List a0a) ++ (cut p3 0 p11)) ++ ([(p4, (p5, (p6, ())))] : List a0a)) ++ (cut p3 p11 (List.length p3 : Int))), ())) fun r12 =>
 some ((r12.1.1, (r12.1.2.1, (r12.1.2.2.1, ((((([] : List a0a) ++ (cut p3 0 p11)) ++ ([(p4, (p5, (p6, ())))] : List a0a)) ++ (cut p3 p11 (List.length p3 : Int))), ())))), ())
 else none
 else none
 else none
 else none
 else none
 else none
 else
 bif (decide ((0 : Int) ≤ 0) && decide ((0 : Int) ≤ p11) && decide (p11 ≤ (List.length p3 : Int))) then
 bif (decide (((List.length ([] : List a0a)) + (List.length (cut p3 0 p11))) * 24 ≤ 140737488355328) && decide (((List.length ([] : List a0a)) + (List.length (cut p3 0 p11))) ≤ 140737488355328)) then
 bif (decide (((List.length (([] : List a0a) ++ (cut p3 0 p11))) + (List.length ([(p4, (p5, (p6, ())))] : List a0a))) * 24 ≤ 140737488355328) && decide (((List.length (([] : List a0a) ++ (cut p3 0 p11))) + (List.length ([(p4, (p5, (p6, ())))] : List a0a))) ≤ 140737488355328)) then
 bif (decide ((0 : Int) ≤ p11) && decide (p11 ≤ (List.length p3 : Int)) && decide ((List.length p3 : Int) ≤ (List.length p3 : Int))) then
 bif (decide (((List.length ((([] : List a0a) ++ (cut p3 0 p11)) ++ ([(p4, (p5, (p6, ())))] : List a0a))) + (List.length (cut p3 p11 (List.length p3 : Int)))) * 24 ≤ 140737488355328) && decide (((List.length ((([] : List a0a) ++ (cut p3 0 p11)) ++ ([(p4, (p5, (p6, ())))] : List a0a))) + (List.length (cut p3 p11 (List.length p3 : Int)))) ≤ 140737488355328)) then
 Option.bind (a4t ((p0, (p1, (p2, (p3, ())))), (((([] : List a0a) ++ (cut p3 0 p11)) ++ ([(p4, (p5, (p6, ())))] : List a0a)) ++ (cut p3 p11 (List.length p3 : Int))), ())) fun r10 =>
 some ((r10.1.1, (r10.1.2.1, (r10.1.2.2.1, ((((([] : List a0a) ++ (cut p3 0 p11)) ++ ([(p4, (p5, (p6, ())))] : List a0a)) ++ (cut p3 p11 (List.length p3 : Int))), ())))), ())
 else none
 else none
 else none
 else none
 else none
 else none
 else
 bif decide (p11 < (List.length p3 : Int)) then
 bif inB p11 (List.length p3) then
 bif (decide (((nth a0e p3 p11)).1 = p4) && (decide ((((nth a0e p3 p11)).2).1 = p5) && (decide (((((nth a0e p3 p11)).2).2).1 = p6) && true))) then
 Option.bind (b2j ((p0, (p1, (p2, (p3, ())))), ())) fun r4 =>
 some (r4.1, ())
 else
 bif (decide ((0 : Int) ≤ 0) && decide ((0 : Int) ≤ p11) && decide (p11 ≤ (List.length p3 : Int))) then
 bif (decide (((List.length ([] : List a0a)) + (List.length (cut p3 0 p11))) * 24 ≤ 140737488355328) && decide (((List.length ([] : List a0a)) + (List.length (cut p3 0 p11))) ≤ 140737488355328)) then
 bif (decide (((List.length (([] : List a0a) ++ (cut p3 0 p11))) + (List.length ([(p4, (p5, (p6, ())))] : List a0a))) * 24 ≤ 140737488355328) && decide (((List.length (([] : List a0a) ++ (cut p3 0 p11))) + (List.length ([(p4, (p5, (p6, ())))] : List a0a))) ≤ 140737488355328)) then
 bif (decide ((0 : Int) ≤ p11) && decide (p11 ≤ (List.length p3 : Int)) && decide ((List.length p3 : Int) ≤ (List.length p3 : Int))) then
 bif (decide (((List.length ((([] : List a0a) ++ (cut p3 0 p11)) ++ ([(p4, (p5, (p6, ())))] : List a0a))) + (List.length (cut p3 p11 (List.length p3 : Int)))) * 24 ≤ 140737488355328) && decide (((List.length ((([] : List a0a) ++ (cut p3 0 p11)) ++ ([(p4, (p5, (p6, ())))] : List a0a))) + (List.length (cut p3 p11 (List.length p3 : Int)))) ≤ 140737488355328)) then
 Option.bind (a4t ((p0, (p1, (p2, (p3, ())))), (((([] : List a0a) ++ (cut p3 0 p11)) ++ ([(p4, (p5, (p6, ())))] : List a0a)) ++ (cut p3 p11 (List.length p3 : Int))), ())) fun r9 =>
 some ((r9.1.1, (r9.1.2.1, (r9.1.2.2.1, ((((([] : List a0a) ++ (cut p3 0 p11)) ++ ([(p4, (p5, (p6, ())))] : List a0a)) ++ (cut p3 p11 (List.length p3 : Int))), ())))), ())
 else none
 else none
 else none
 else none
 else none
 else none
 else
 bif (decide ((0 : Int) ≤ 0) && decide ((0 : Int) ≤ p11) && decide (p11 ≤ (List.length p3 : Int))) then
 bif (decide (((List.length ([] : List a0a)) + (List.length (cut p3 0 p11))) * 24 ≤ 140737488355328) && decide (((List.length ([] : List a0a)) + (List.length (cut p3 0 p11))) ≤ 140737488355328)) then
 bif (decide (((List.length (([] : List a0a) ++ (cut p3 0 p11))) + (List.length ([(p4, (p5, (p6, ())))] : List a0a))) * 24 ≤ 140737488355328) && decide (((List.length (([] : List a0a) ++ (cut p3 0 p11))) + (List.length ([(p4, (p5, (p6, ())))] : List a0a))) ≤ 140737488355328)) then
 bif (decide ((0 : Int) ≤ p11) && decide (p11 ≤ (List.length p3 : Int)) && decide ((List.length p3 : Int) ≤ (List.length p3 : Int))) then
 bif (decide (((List.length ((([] : List a0a) ++ (cut p3 0 p11)) ++ ([(p4, (p5, (p6, ())))] : List a0a))) + (List.length (cut p3 p11 (List.length p3 : Int)))) * 24 ≤ 140737488355328) && decide (((List.length ((([] : List a0a) ++ (cut p3 0 p11)) ++ ([(p4, (p5, (p6, ())))] : List a0a))) + (List.length (cut p3 p11 (List.length p3 : Int)))) ≤ 140737488355328)) then
 Option.bind (a4t ((p0, (p1, (p2, (p3, ())))), (((([] : List a0a) ++ (cut p3 0 p11)) ++ ([(p4, (p5, (p6, ())))] : List a0a)) ++ (cut p3 p11 (List.length p3 : Int))), ())) fun r7 =>
 some ((r7.1.1, (r7.1.2.1, (r7.1.2.2.1, ((((([] : List a0a) ++ (cut p3 0 p11)) ++ ([(p4, (p5, (p6, ())))] : List a0a)) ++ (cut p3 p11 (List.length p3 : Int))), ())))), ())
 else none
 else none
 else none
 else none
 else none := by
 rewrite [e5a]
 kernel_rfl
abbrev d2v : List ATy := [.data true a0f, .data true a1h]
abbrev b0n : List (Bool × Ty) := [(true, a0f)]
abbrev b9j : List RMode := [.own 55]
abbrev h0v : Type := a0b × a0c × Unit → Option (a0b × Unit)
def c4s : Ctx := { types := TT, globals := [], con := [(68, a2c), (70, b7q), (71, b0e)], keep := [(3, ⟨[.box 2, .box 3, .box 4, .box 5, .tmp 2, .tmp 3, .tmp 4, .tmp 5, .tmp 6], []⟩), (7, ⟨[.box 2, .box 3, .box 4, .box 5, .box 7, .tmp 2, .tmp 3, .tmp 4, .tmp 5, .tmp 6, .tmp 7, .tmp 8], []⟩)], results := [.cell 4 29], ntmps := 71, n := N }
def c4p : Code := (Tryz.f28.body).getD .skip
def e3w (m0 : Nat) (p0 p1 p2 : Int) (p3 : List a0a) (p4 p5 p6 p7 p8 p9 p10 p11 p12 : Int) (p13 : List a0a) (p14 p15 p16 : Int) (p17 : List a0a) (p18 : Int) : Option (a1y b0n) := a2h c4s c4p b0n b9j 3 [m0] [(.ver, .num 1), (.box 2, .box 0 false [.int .i64 p0, .int .i64 p1, .int .i64 p2, .imm a0e p3 (some 3)]), (.box 3, .box 0 false [.int .i64 p4, .int .i64 p5, .int .i64 p6, .int .i64 p7, .int .i64 p8, .int .i64 p9]), (.box 4, .box 0 false [.int .i64 p10, .int .i64 p11, .int .i64 p12, .own 55 a0e 0 p13]), (.box 5, .box 0 false [.int .i64 p14, .int .i64 p15, .int .i64 p16, .own 55 a0e 0 p17]), (.tmp 2, .val false [.addr 2 0 0]), (.tmp 3, .val false [.addr 3 0 0]), (.tmp 4, .val false [.addr 4 0 0]), (.tmp 5, .val false [.addr 5 0 0]), (.tmp 6, .val false [.int .i64 p18])]
def e3o (m0 m1 : Nat) (p0 p1 p2 : Int) (p3 : List a0a) (p4 p5 p6 p7 p8 p9 p10 p11 p12 : Int) (p13 : List a0a) (p14 p15 p16 : Int) (p17 : List a0a) (p18 p19 p20 p21 p22 : Int) : Option (a1y b0n) := a2h c4s c4p b0n b9j 7 [m0, m1] [(.ver, .num 1), (.box 2, .box 0 false [.int .i64 p0, .int .i64 p1, .int .i64 p2, .imm a0e p3 (some 3)]), (.box 3, .box 0 false [.int .i64 p4, .int .i64 p5, .int .i64 p6, .int .i64 p7, .int .i64 p8, .int .i64 p9]), (.box 4, .box 0 false [.int .i64 p10, .int .i64 p11, .int .i64 p12, .own 55 a0e 0 p13]), (.box 5, .box 0 false [.int .i64 p14, .int .i64 p15, .int .i64 p16, .own 55 a0e 0 p17]), (.box 7, .box 0 false [.int .i64 p18, .int .i64 p19, .int .i64 p20]), (.tmp 2, .val false [.addr 2 0 0]), (.tmp 3, .val false [.addr 3 0 0]), (.tmp 4, .val false [.addr 4 0 0]), (.tmp 5, .val false [.addr 5 0 0]), (.tmp 6, .val false [.int .i64 p21]), (.tmp 7, .val false [.addr 7 0 0]), (.tmp 8, .val false [.int .i64 p22])]
def b0l : h0v := hid (a1g c4s c4p d2v b0n b9j)
theorem f2o : b0l = a1g c4s c4p d2v b0n b9j := a0d _
def c5d : Contract := ⟨d2v, b0n, b9j, b0l⟩
theorem f4o : Sound Tryz.prog GG 28 c5d := by
 unfold c5d; rw [f2o]
 exact mkS Tryz.f28 ⟨a2v, d6m, b7a, trivial⟩ trivial
def a9k := hid (e3w)
theorem c6a : a9k = e3w := a0d _
def a2a := hid (e3o)
theorem e0w : a2a = e3o := a0d _
theorem h7b (a0 : a0b) (a1 : a0c) : b0l (a0, a1, ()) =
 Option.bind (a1e (a0, a1.1.1, ())) fun r0 =>
 Option.bind (a1e (a0, a1.1.2.1, ())) fun r1 =>
 Option.bind (a1e (a0, a1.1.2.2.1, ())) fun r2 =>
 Option.bind (a1l (r0.1, r1.1, r2.1, ())) fun r3 =>
 a9k N a0.1 a0.2.1 a0.2.2.1 a0.2.2.2.1 a1.1.1 a1.1.2.1 a1.1.2.2.1 a1.2.1.1 a1.2.1.2.1 a1.2.1.2.2.1 0 0 0 ([] : List a0a) r3.1.1 r3.1.2.1 r3.1.2.2.1 r3.1.2.2.2.1 0 := by
 rewrite [f2o, c6a]
 kernel_rfl
theorem g8a (m0 : Nat) (p0 p1 p2 : Int) (p3 : List a0a) (p4 p5 p6 p7 p8 p9 p10 p11 p12 : Int) (p13 : List a0a) (p14 p15 p16 : Int) (p17 : List a0a) (p18 : Int) : a9k (m0 + 1) p0 p1 p2 p3 p4 p5 p6 p7 p8 p9 p10 p11 p12 p13 p14 p15 p16 p17 p18 =
 bif decide (p18 < (List.length p3 : Int)) then
 a2a m0 N p0 p1 p2 p3 p4 p5 p6 p7 p8 p9 p10 p11 p12 p13 p14 p15 p16 p17 0 0 0 p18 0
 else
 some ((p14, (p15, (p16, (p17, ())))), ()) := by
 rewrite [c6a, e0w]
 kernel_rfl
theorem b7d (m0 m1 : Nat) (p0 p1 p2 : Int) (p3 : List a0a) (p4 p5 p6 p7 p8 p9 p10 p11 p12 : Int) (p13 : List a0a) (p14 p15 p16 : Int) (p17 : List a0a) (p18 p19 p20 p21 p22 : Int) : a2a m0 (m1 + 1) p0 p1 p2 p3 p4 p5 p6 p7 p8 p9 p10 p11 p12 p13 p14 p15 p16 p17 p18 p19 p20 p21 p22 =
 bif decide (p22 < 3) then
 bif inB p22 3 then
 bif inB p21 (List.length p3) then
 bif inB (bif decide (p22 = (0 : Int)) then p4 else (bif decide (p22 = (1 : Int)) then p5 else p6)) 3 then
 bif inB p22 3 then
 bif inB p22 3 then
 bif decide ((bif decide (p22 = (0 : Int)) then p7 else (bif decide (p22 = (1 : Int)) then p8 else p9)) = 1) then
 bif inB p22 3 then
 Option.bind (a1e ((p0, (p1, (p2, (p3, ())))), (bif decide (p22 = (0 : Int)) then p4 else (bif decide (p22 = (1 : Int)) then p5 else p6)), ())) fun r8 =>
 bif inB p22 3 then
 bif inB p22 3 then
 a2a m0 m1 p0 p1 p2 p3 p4 p5 p6 p7 p8 p9 p10 p11 p12 p13 p14 p15 p16 p17 (bif decide (p22 = (0 : Int)) then (IntKind.wrap .i64 ((IntKind.wrap .i64 (r8.1 - 1)) - (bif decide (p22 = (0 : Int)) then (bif decide (p22 = (0 : Int)) then (bif decide ((bif decide (p22 = (0 : Int)) then p4 else (bif decide (p22 = (1 : Int)) then p5 else p6)) = (0 : Int)) then ((nth a0e p3 p21)).1 else (bif decide ((bif decide (p22 = (0 : Int)) then p4 else (bif decide (p22 = (1 : Int)) then p5 else p6)) = (1 : Int)) then (((nth a0e p3 p21)).2).1 else ((((nth a0e p3 p21)).2).2).1)) else p18) else (bif decide (p22 = (1 : Int)) then (bif decide (p22 = (1 : Int)) then (bif decide ((bif decide (p22 = (0 : Int)) then p4 else (bif decide (p22 = (1 : Int)) then p5 else p6)) = (0 : Int)) then ((nth a0e p3 p21)).1 else (bif decide ((bif decide (p22 = (0 : Int)) then p4 else (bif decide (p22 = (1 : Int)) then p5 else p6)) = (1 : Int)) then (((nth a0e p3 p21)).2).1 else ((((nth a0e p3 p21)).2).2).1)) else p19) else (bif decide (p22 = (2 : Int)) then (bif decide ((bif decide (p22 = (0 : Int)) then p4 else (bif decide (p22 = (1 : Int)) then p5 else p6)) = (0 : Int)) then ((nth a0e p3 p21)).1 else (bif decide ((bif decide (p22 = (0 : Int)) then p4 else (bif decide (p22 = (1 : Int)) then p5 else p6)) = (1 : Int)) then (((nth a0e p3 p21)).2).1 else ((((nth a0e p3 p21)).2).2).1)) else p20))))) else (bif decide (p22 = (0 : Int)) then (bif decide ((bif decide (p22 = (0 : Int)) then p4 else (bif decide (p22 = (1 : Int)) then p5 else p6)) = (0 : Int)) then ((nth a0e p3 p21)).1 else (bif decide ((bif decide (p22 = (0 : Int)) then p4 else (bif decide (p22 = (1 : Int)) then p5 else p6)) = (1 : Int)) then (((nth a0e p3 p21)).2).1 else ((((nth a0e p3 p21)).2).2).1)) else p18)) (bif decide (p22 = (1 : Int)) then (IntKind.wrap .i64 ((IntKind.wrap .i64 (r8.1 - 1)) - (bif decide (p22 = (0 : Int)) then (bif decide (p22 = (0 : Int)) then (bif decide ((bif decide (p22 = (0 : Int)) then p4 else (bif decide (p22 = (1 : Int)) then p5 else p6)) = (0 : Int)) then ((nth a0e p3 p21)).1 else (bif decide ((bif decide (p22 = (0 : Int)) then p4 else (bif decide (p22 = (1 : Int)) then p5 else p6)) = (1 : Int)) then (((nth a0e p3 p21)).2).1 else ((((nth a0e p3 p21)).2).2).1)) else p18) else (bif decide (p22 = (1 : Int)) then (bif decide (p22 = (1 : Int)) then (bif decide ((bif decide (p22 = (0 : Int)) then p4 else (bif decide (p22 = (1 : Int)) then p5 else p6)) = (0 : Int)) then ((nth a0e p3 p21)).1 else (bif decide ((bif decide (p22 = (0 : Int)) then p4 else (bif decide (p22 = (1 : Int)) then p5 else p6)) = (1 : Int)) then (((nth a0e p3 p21)).2).1 else ((((nth a0e p3 p21)).2).2).1)) else p19) else (bif decide (p22 = (2 : Int)) then (bif decide ((bif decide (p22 = (0 : Int)) then p4 else (bif decide (p22 = (1 : Int)) then p5 else p6)) = (0 : Int)) then ((nth a0e p3 p21)).1 else (bif decide ((bif decide (p22 = (0 : Int)) then p4 else (bif decide (p22 = (1 : Int)) then p5 else p6)) = (1 : Int)) then (((nth a0e p3 p21)).2).1 else ((((nth a0e p3 p21)).2).2).1)) else p20))))) else (bif decide (p22 = (1 : Int)) then (bif decide ((bif decide (p22 = (0 : Int)) then p4 else (bif decide (p22 = (1 : Int)) then p5 else p6)) = (0 : Int)) then ((nth a0e p3 p21)).1 else (bif decide ((bif decide (p22 = (0 : Int)) then p4 else (bif decide (p22 = (1 : Int)) then p5 else p6)) = (1 : Int)) then (((nth a0e p3 p21)).2).1 else ((((nth a0e p3 p21)).2).2).1)) else p19)) (bif decide (p22 = (2 : Int)) then (IntKind.wrap .i64 ((IntKind.wrap .i64 (r8.1 - 1)) - (bif decide (p22 = (0 : Int)) then (bif decide (p22 = (0 : Int)) then (bif decide ((bif decide (p22 = (0 : Int)) then p4 else (bif decide (p22 = (1 : Int)) then p5 else p6)) = (0 : Int)) then ((nth a0e p3 p21)).1 else (bif decide ((bif decide (p22 = (0 : Int)) then p4 else (bif decide (p22 = (1 : Int)) then p5 else p6)) = (1 : Int)) then (((nth a0e p3 p21)).2).1 else ((((nth a0e p3 p21)).2).2).1)) else p18) else (bif decide (p22 = (1 : Int)) then (bif decide (p22 = (1 : Int)) then (bif decide ((bif decide (p22 = (0 : Int)) then p4 else (bif decide (p22 = (1 : Int)) then p5 else p6)) = (0 : Int)) then ((nth a0e p3 p21)).1 else (bif decide ((bif decide (p22 = (0 : Int)) then p4 else (bif decide (p22 = (1 : Int)) then p5 else p6)) = (1 : Int)) then (((nth a0e p3 p21)).2).1 else ((((nth a0e p3 p21)).2).2).1)) else p19) else (bif decide (p22 = (2 : Int)) then (bif decide ((bif decide (p22 = (0 : Int)) then p4 else (bif decide (p22 = (1 : Int)) then p5 else p6)) = (0 : Int)) then ((nth a0e p3 p21)).1 else (bif decide ((bif decide (p22 = (0 : Int)) then p4 else (bif decide (p22 = (1 : Int)) then p5 else p6)) = (1 : Int)) then (((nth a0e p3 p21)).2).1 else ((((nth a0e p3 p21)).2).2).1)) else p20))))) else (bif decide (p22 = (2 : Int)) then (bif decide ((bif decide (p22 = (0 : Int)) then p4 else (bif decide (p22 = (1 : Int)) then p5 else p6)) = (0 : Int)) then ((nth a0e p3 p21)).1 else (bif decide ((bif decide (p22 = (0 : Int)) then p4 else (bif decide (p22 = (1 : Int)) then p5 else p6)) = (1 : Int)) then (((nth a0e p3 p21)).2).1 else ((((nth a0e p3 p21)).2).2).1)) else p20)) p21 (IntKind.wrap .i64 (p22 + 1))
 else none
 else none
 else none
 else
 a2a m0 m1 p0 p1 p2 p3 p4 p5 p6 p7 p8 p9 p10 p11 p12 p13 p14 p15 p16 p17 (bif decide (p22 = (0 : Int)) then (bif decide ((bif decide (p22 = (0 : Int)) then p4 else (bif decide (p22 = (1 : Int)) then p5 else p6)) = (0 : Int)) then ((nth a0e p3 p21)).1 else (bif decide ((bif decide (p22 = (0 : Int)) then p4 else (bif decide (p22 = (1 : Int)) then p5 else p6)) = (1 : Int)) then (((nth a0e p3 p21)).2).1 else ((((nth a0e p3 p21)).2).2).1)) else p18) (bif decide (p22 = (1 : Int)) then (bif decide ((bif decide (p22 = (0 : Int)) then p4 else (bif decide (p22 = (1 : Int)) then p5 else p6)) = (0 : Int)) then ((nth a0e p3 p21)).1 else (bif decide ((bif decide (p22 = (0 : Int)) then p4 else (bif decide (p22 = (1 : Int)) then p5 else p6)) = (1 : Int)) then (((nth a0e p3 p21)).2).1 else ((((nth a0e p3 p21)).2).2).1)) else p19) (bif decide (p22 = (2 : Int)) then (bif decide ((bif decide (p22 = (0 : Int)) then p4 else (bif decide (p22 = (1 : Int)) then p5 else p6)) = (0 : Int)) then ((nth a0e p3 p21)).1 else (bif decide ((bif decide (p22 = (0 : Int)) then p4 else (bif decide (p22 = (1 : Int)) then p5 else p6)) = (1 : Int)) then (((nth a0e p3 p21)).2).1 else ((((nth a0e p3 p21)).2).2).1)) else p20) p21 (IntKind.wrap .i64 (p22 + 1))
 else none
 else none
 else none
 else none
 else none
 else
 Option.bind (a4s ((p14, (p15, (p16, (p17, ())))), (p18, (p19, (p20, ()))), ())) fun r1 =>
 a9k m0 p0 p1 p2 p3 p4 p5 p6 p7 p8 p9 p10 p11 p12 p13 r1.1.1 r1.1.2.1 r1.1.2.2.1 r1.1.2.2.2.1 (IntKind.wrap .i64 (p21 + 1)) := by
 rewrite [c6a, e0w]
 kernel_rfl
abbrev c8n : List ATy := [.data true a0f]
abbrev b4r : List (Bool × Ty) := [(true, a0f)]
abbrev c1u : List RMode := [.own 55]
abbrev g4w : Type := a0b × Unit → Option (a0b × Unit)
def d1g : Ctx := { types := TT, globals := [], con := [(26, b1a), (27, c1f), (28, c5d), (78, b8o)], keep := [(3, ⟨[.box 1, .box 2, .box 3, .tmp 1, .tmp 2, .tmp 3, .tmp 4, .tmp 5], []⟩)], results := [.cell 2 29], ntmps := 28, n := N }
def d1h : Code := (Tryz.f33.body).getD .skip
def d9q (m0 : Nat) (p0 p1 p2 : Int) (p3 : List a0a) (p4 p5 p6 : Int) (p7 : List a0a) (p8 p9 p10 : Int) (p11 : List a0a) (p12 : List a0c) (p13 : Int) : Option (a1y b4r) := a2h d1g d1h b4r c1u 3 [m0] [(.ver, .num 1), (.box 1, .box 0 false [.int .i64 p0, .int .i64 p1, .int .i64 p2, .imm a0e p3 (some 3)]), (.box 2, .box 0 false [.int .i64 p4, .int .i64 p5, .int .i64 p6, .own 55 a0e 0 p7]), (.box 3, .box 0 false [.int .i64 p8, .int .i64 p9, .int .i64 p10, .own 55 a0e 0 p11]), (.tmp 1, .val false [.addr 1 0 0]), (.tmp 2, .val false [.addr 2 0 0]), (.tmp 3, .val false [.addr 3 0 0]), (.tmp 4, .val false [.own 57 a1h 0 p12]), (.tmp 5, .val false [.int .i64 p13])]
def a3q : g4w := hid (a1g d1g d1h c8n b4r c1u)
theorem e9i : a3q = a1g d1g d1h c8n b4r c1u := a0d _
def b4y : Contract := ⟨c8n, b4r, c1u, a3q⟩
theorem d2g : Sound Tryz.prog GG 33 b4y := by
 unfold b4y; rw [e9i]
 exact mkS Tryz.f33 ⟨c3a, e8g, f4o, d8a, trivial⟩ trivial
def a7y := hid (d9q)
theorem d9p : a7y = d9q := a0d _
theorem g9l (a0 : a0b) : a3q (a0, ()) =
 Option.bind (a2k (a0, ())) fun r0 =>
 Option.bind (a6r (())) fun r1 =>
 a7y N a0.1 a0.2.1 a0.2.2.1 a0.2.2.2.1 0 0 0 ([] : List a0a) r0.1.1 r0.1.2.1 r0.1.2.2.1 r0.1.2.2.2.1 r1.1 0 := by
 rewrite [e9i, d9p]
 kernel_rfl
theorem g2c (m0 : Nat) (p0 p1 p2 : Int) (p3 : List a0a) (p4 p5 p6 : Int) (p7 : List a0a) (p8 p9 p10 : Int) (p11 : List a0a) (p12 : List a0c) (p13 : Int) : a7y (m0 + 1) p0 p1 p2 p3 p4 p5 p6 p7 p8 p9 p10 p11 p12 p13 =
 bif decide (p13 < (List.length p12 : Int)) then
 bif inB p13 (List.length p12) then
 Option.bind (b0l ((p0, (p1, (p2, (p3, ())))), (nth a1h p12 p13), ())) fun r2 =>
 Option.bind (a2k (r2.1, ())) fun r3 =>
 Option.bind (a4q (r3.1, (p8, (p9, (p10, (p11, ())))), ())) fun r4 =>
 bif r4.1 then
 a7y m0 p0 p1 p2 p3 p4 p5 p6 p7 r3.1.1 r3.1.2.1 r3.1.2.2.1 r3.1.2.2.2.1 p12 (IntKind.wrap .i64 (p13 + 1))
 else
 a7y m0 p0 p1 p2 p3 p4 p5 p6 p7 p8 p9 p10 p11 p12 (IntKind.wrap .i64 (p13 + 1))
 else none
 else
 some ((p8, (p9, (p10, (p11, ())))), ()) := by
 rewrite [d9p]
 kernel_rfl
abbrev d8g : List ATy := [.data true a0f]
abbrev a8d : List (Bool × Ty) := [(false, (.sl a0e))]
abbrev b6i : List RMode := [.own 55]
abbrev h6y : Type := a0b × Unit → Option ((List a0a) × Unit)
def c2m : Ctx := { types := TT, globals := [], con := [], keep := [(3, ⟨[.box 1, .tmp 1, .tmp 3, .tmp 4], []⟩), (6, ⟨[.box 1, .tmp 1, .tmp 3, .tmp 4, .tmp 5], []⟩), (9, ⟨[.box 1, .tmp 1, .tmp 3, .tmp 4, .tmp 5, .tmp 6], []⟩)], results := [.tmp 2], ntmps := 34, n := N }
def c2i : Code := (Tryz.f121.body).getD .skip
def e9g (m0 : Nat) (p0 p1 p2 : Int) (p3 p4 : List a0a) (p5 : Int) : Option (a1y a8d) := a2h c2m c2i a8d b6i 3 [m0] [(.ver, .num 1), (.box 1, .box 0 false [.int .i64 p0, .int .i64 p1, .int .i64 p2, .imm a0e p3 (some 3)]), (.tmp 1, .val false [.addr 1 0 0]), (.tmp 3, .val false [.own 55 a0e 0 p4]), (.tmp 4, .val false [.int .i64 p5])]
def e9h (m0 m1 : Nat) (p0 p1 p2 : Int) (p3 p4 : List a0a) (p5 p6 : Int) : Option (a1y a8d) := a2h c2m c2i a8d b6i 6 [m0, m1] [(.ver, .num 1), (.box 1, .box 0 false [.int .i64 p0, .int .i64 p1, .int .i64 p2, .imm a0e p3 (some 3)]), (.tmp 1, .val false [.addr 1 0 0]), (.tmp 3, .val false [.own 55 a0e 0 p4]), (.tmp 4, .val false [.int .i64 p5]), (.tmp 5, .val false [.int .i64 p6])]
def e8i (m0 m1 m2 : Nat) (p0 p1 p2 : Int) (p3 p4 : List a0a) (p5 p6 p7 : Int) : Option (a1y a8d) := a2h c2m c2i a8d b6i 9 [m0, m1, m2] [(.ver, .num 1), (.box 1, .box 0 false [.int .i64 p0, .int .i64 p1, .int .i64 p2, .imm a0e p3 (some 3)]), (.tmp 1, .val false [.addr 1 0 0]), (.tmp 3, .val false [.own 55 a0e 0 p4]), (.tmp 4, .val false [.int .i64 p5]), (.tmp 5, .val false [.int .i64 p6]), (.tmp 6, .val false [.int .i64 p7])]
def a8e : h6y := hid (a1g c2m c2i d8g a8d b6i)
theorem g0z : a8e = a1g c2m c2i d8g a8d b6i := a0d _
def b6n : Contract := ⟨d8g, a8d, b6i, a8e⟩
theorem c9n : Sound Tryz.prog GG 121 b6n := by
 unfold b6n; rw [g0z]
 exact mkS Tryz.f121 trivial trivial
def b1q := hid (e9g)
theorem d1t : b1q = e9g := a0d _
def b1l := hid (e9h)
theorem d1p : b1l = e9h := a0d _
def b4l := hid (e8i)
theorem e7z : b4l = e8i := a0d _
theorem h9u (a0 : a0b) : a8e (a0, ()) =
 b1q N a0.1 a0.2.1 a0.2.2.1 a0.2.2.2.1 ([] : List a0a) 0 := by
 rewrite [g0z, d1t]
 kernel_rfl
theorem e8q (m0 : Nat) (p0 p1 p2 : Int) (p3 p4 : List a0a) (p5 : Int) : b1q (m0 + 1) p0 p1 p2 p3 p4 p5 =
 bif decide (p5 < p0) then
 b1l m0 N p0 p1 p2 p3 p4 p5 0
 else
 some (p4, ()) := by
 rewrite [d1t, d1p]
 kernel_rfl
theorem e9e (m0 m1 : Nat) (p0 p1 p2 : Int) (p3 p4 : List a0a) (p5 p6 : Int) : b1l m0 (m1 + 1) p0 p1 p2 p3 p4 p5 p6 =
 bif decide (p6 < p1) then
 b4l m0 m1 N p0 p1 p2 p3 p4 p5 p6 0
 else
 b1q m0 p0 p1 p2 p3 p4 (IntKind.wrap .i64 (p5 + 1)) := by
 rewrite [d1t, d1p, e7z]
 kernel_rfl
theorem e8x (m0 m1 m2 : Nat) (p0 p1 p2 : Int) (p3 p4 : List a0a) (p5 p6 p7 : Int) : b4l m0 m1 (m2 + 1) p0 p1 p2 p3 p4 p5 p6 p7 =
 bif decide (p7 < p2) then
 bif (decide (((List.length p4) + (List.length ([(p5, (p6, (p7, ())))] : List a0a))) * 24 ≤ 140737488355328) && decide (((List.length p4) + (List.length ([(p5, (p6, (p7, ())))] : List a0a))) ≤ 140737488355328)) then
 b4l m0 m1 m2 p0 p1 p2 p3 (p4 ++ ([(p5, (p6, (p7, ())))] : List a0a)) p5 p6 (IntKind.wrap .i64 (p7 + 1))
 else none
 else
 b1l m0 m1 p0 p1 p2 p3 p4 p5 (IntKind.wrap .i64 (p6 + 1)) := by
 rewrite [d1p, e7z]
 kernel_rfl
abbrev d5z : List ATy := [.data false (.int .i64), .data false (.int .i64), .data false (.int .i64)]
abbrev e4a : List (Bool × Ty) := [(true, a0f)]
abbrev e5n : List RMode := [.own 55]
abbrev h4s : Type := Int × Int × Int × Unit → Option (a0b × Unit)
def g0c : Ctx := { types := TT, globals := [], con := [(68, a2c), (121, b6n)], keep := [], results := [.cell 6 29], ntmps := 16, n := N }
def f9o : Code := (Tryz.f95.body).getD .skip
def b2e : h4s := hid (a1g g0c f9o d5z e4a e5n)
theorem g0n : b2e = a1g g0c f9o d5z e4a e5n := a0d _
def d0c : Contract := ⟨d5z, e4a, e5n, b2e⟩
theorem f9q : Sound Tryz.prog GG 95 d0c := by
 unfold d0c; rw [g0n]
 exact mkS Tryz.f95 ⟨a2v, c9n, trivial⟩ trivial
theorem h7r (a0 a1 a2 : Int) : b2e (a0, a1, a2, ()) =
 Option.bind (a1l (a0, a1, a2, ())) fun r0 =>
 Option.bind (a8e (r0.1, ())) fun r1 =>
 some ((r0.1.1, (r0.1.2.1, (r0.1.2.2.1, (r1.1, ())))), ()) := by
 rewrite [g0n]
 kernel_rfl
abbrev d5q : List ATy := [.data true a0f, .data true a0e]
abbrev c2o : List (Bool × Ty) := [(false, .bool)]
abbrev d0x : List RMode := []
abbrev h4g : Type := a0b × a0a × Unit → Option (Bool × Unit)
def e1m : Ctx := { types := TT, globals := [], con := [], keep := [(2, ⟨[.box 2, .box 3, .tmp 2, .tmp 3, .tmp 5], []⟩)], results := [.tmp 4], ntmps := 20, n := N }
def e5k : Code := (Tryz.f72.body).getD .skip
def e9c (m0 : Nat) (p0 p1 p2 : Int) (p3 : List a0a) (p4 p5 p6 p7 : Int) : Option (a1y c2o) := a2h e1m e5k c2o d0x 2 [m0] [(.ver, .num 1), (.box 2, .box 0 false [.int .i64 p0, .int .i64 p1, .int .i64 p2, .imm a0e p3 (some 3)]), (.box 3, .box 0 false [.int .i64 p4, .int .i64 p5, .int .i64 p6]), (.tmp 2, .val false [.addr 2 0 0]), (.tmp 3, .val false [.addr 3 0 0]), (.tmp 5, .val false [.int .i64 p7])]
def b2x : h4g := hid (a1g e1m e5k d5q c2o d0x)
theorem g0f : b2x = a1g e1m e5k d5q c2o d0x := a0d _
def c2d : Contract := ⟨d5q, c2o, d0x, b2x⟩
theorem e1r : Sound Tryz.prog GG 72 c2d := by
 unfold c2d; rw [g0f]
 exact mkS Tryz.f72 trivial trivial
def b4u := hid (e9c)
theorem e7o : b4u = e9c := a0d _
theorem i0z (a0 : a0b) (a1 : a0a) : b2x (a0, a1, ()) =
 b4u N a0.1 a0.2.1 a0.2.2.1 a0.2.2.2.1 a1.1 a1.2.1 a1.2.2.1 0 := by
 rewrite [g0f, e7o]
 kernel_rfl
theorem g9x (m0 : Nat) (p0 p1 p2 : Int) (p3 : List a0a) (p4 p5 p6 p7 : Int) : b4u (m0 + 1) p0 p1 p2 p3 p4 p5 p6 p7 =
 bif decide (p7 < (List.length p3 : Int)) then
 bif inB p7 (List.length p3) then
 bif (decide (((nth a0e p3 p7)).1 = p4) && (decide ((((nth a0e p3 p7)).2).1 = p5) && (decide (((((nth a0e p3 p7)).2).2).1 = p6) && true))) then
 some (true, ())
 else
 b4u m0 p0 p1 p2 p3 p4 p5 p6 (IntKind.wrap .i64 (p7 + 1))
 else none
 else
 some (false, ()) := by
 rewrite [e7o]
 kernel_rfl
abbrev e3a : List ATy := [.data true a0f, .data true a0e]
abbrev f0p : List (Bool × Ty) := [(false, .bool)]
abbrev e9q : List RMode := []
abbrev h9e : Type := a0b × a0a × Unit → Option (Bool × Unit)
def g7k : Ctx := { types := TT, globals := [], con := [(51, b9p)], keep := [], results := [.tmp 4], ntmps := 27, n := N }
def g6j : Code := (Tryz.f74.body).getD .skip
def b5t : h9e := hid (a1g g7k g6j e3a f0p e9q)
theorem g7b : b5t = a1g g7k g6j e3a f0p e9q := a0d _
def c6e : Contract := ⟨e3a, f0p, e9q, b5t⟩
theorem f1d : Sound Tryz.prog GG 74 c6e := by
 unfold c6e; rw [g7b]
 exact mkS Tryz.f74 ⟨d6i, trivial⟩ trivial
theorem i4q (a0 : a0b) (a1 : a0a) : b5t (a0, a1, ()) =
 Option.bind (a6e (a1.1, 0, (IntKind.wrap .i64 (a0.1 - 1)), ())) fun r0 =>
 bif r0.1 then
 Option.bind (a6e (a1.2.1, 0, (IntKind.wrap .i64 (a0.2.1 - 1)), ())) fun r2 =>
 bif r2.1 then
 Option.bind (a6e (a1.2.2.1, 0, (IntKind.wrap .i64 (a0.2.2.1 - 1)), ())) fun r4 =>
 some (r4.1, ())
 else
 some (false, ())
 else
 some (false, ()) := by
 rewrite [g7b]
 kernel_rfl
abbrev c8f : List ATy := [.data true a0f, .data true a0e]
abbrev a8t : List (Bool × Ty) := [(true, a0f), (false, .bool)]
abbrev b4w : List RMode := [.own 55]
abbrev g6h : Type := a0b × a0a × Unit → Option (a0b × Bool × Unit)
def c1i : Ctx := { types := TT, globals := [], con := [(30, b1f), (67, b3m), (68, a2c), (71, b0e), (72, c2d), (73, b3h), (74, c6e)], keep := [(5, ⟨[.box 2, .box 3, .box 4, .box 6, .tmp 2, .tmp 3, .tmp 4, .tmp 6, .tmp 7], []⟩), (11, ⟨[.box 4, .box 8, .tmp 4, .tmp 8, .tmp 9, .tmp 10], []⟩)], results := [.cell 4 29, .tmp 5], ntmps := 58, n := N }
def c1e : Code := (Tryz.f96.body).getD .skip
def d9d (m0 : Nat) (p0 p1 p2 : Int) (p3 : List a0a) (p4 p5 p6 p7 p8 p9 : Int) (p10 : List a0a) (p11 p12 p13 p14 : Int) : Option (a1y a8t) := a2h c1i c1e a8t b4w 5 [m0] [(.ver, .num 1), (.box 2, .box 0 false [.int .i64 p0, .int .i64 p1, .int .i64 p2, .imm a0e p3 (some 3)]), (.box 3, .box 0 false [.int .i64 p4, .int .i64 p5, .int .i64 p6]), (.box 4, .box 0 false [.int .i64 p7, .int .i64 p8, .int .i64 p9, .own 55 a0e 0 p10]), (.box 6, .box 0 false [.int .i64 p11, .int .i64 p12, .int .i64 p13]), (.tmp 2, .val false [.addr 2 0 0]), (.tmp 3, .val false [.addr 3 0 0]), (.tmp 4, .val false [.addr 4 0 0]), (.tmp 6, .val false [.addr 6 0 0]), (.tmp 7, .val false [.int .i64 p14])]
def d5h (m0 : Nat) (p0 p1 p2 : Int) (p3 : List a0a) (p4 p5 p6 : Int) (p7 p8 : List a0a) (p9 : Int) : Option (a1y a8t) := a2h c1i c1e a8t b4w 11 [m0] [(.ver, .num 1), (.box 4, .box 0 false [.int .i64 p0, .int .i64 p1, .int .i64 p2, .own 55 a0e 0 p3]), (.box 8, .box 0 false [.int .i64 p4, .int .i64 p5, .int .i64 p6, .own 55 a0e 0 p7]), (.tmp 4, .val false [.addr 4 0 0]), (.tmp 8, .val false [.addr 8 0 0]), (.tmp 9, .val false [.own 55 a0e 0 p8]), (.tmp 10, .val false [.int .i64 p9])]
def a3r : g6h := hid (a1g c1i c1e c8f a8t b4w)
theorem e8l : a3r = a1g c1i c1e c8f a8t b4w := a0d _
def c1h : Contract := ⟨c8f, a8t, b4w, a3r⟩
theorem e8j : Sound Tryz.prog GG 96 c1h := by
 unfold c1h; rw [e8l]
 exact mkS Tryz.f96 ⟨c1g, c4w, a2v, b7a, e1r, c5k, f1d, trivial⟩ trivial
def a4b := hid (d9d)
theorem e0a : a4b = d9d := a0d _
def a4p := hid (d5h)
theorem d4q : a4p = d5h := a0d _
theorem h0p (a0 : a0b) (a1 : a0a) : a3r (a0, a1, ()) =
 Option.bind (b2x (a0, a1, ())) fun r0 =>
 bif r0.1 then
 some ((0, (0, (0, (([] : List a0a), ())))), false, ())
 else
 a4b N a0.1 a0.2.1 a0.2.2.1 a0.2.2.2.1 a1.1 a1.2.1 a1.2.2.1 0 0 0 ([] : List a0a) 0 0 0 0 := by
 rewrite [e8l, e0a]
 kernel_rfl
theorem b5g (m0 : Nat) (p0 p1 p2 : Int) (p3 : List a0a) (p4 p5 p6 p7 p8 p9 : Int) (p10 : List a0a) (p11 p12 p13 p14 : Int) : a4b (m0 + 1) p0 p1 p2 p3 p4 p5 p6 p7 p8 p9 p10 p11 p12 p13 p14 =
 bif decide (p14 < 3) then
 bif inB p14 3 then
 Option.bind (a1i (0, (IntKind.wrap .i64 (0 - (bif decide (p14 = (0 : Int)) then p4 else (bif decide (p14 = (1 : Int)) then p5 else p6)))), ())) fun r2 =>
 bif inB p14 3 then
 a4b m0 p0 p1 p2 p3 p4 p5 p6 p7 p8 p9 p10 (bif decide (p14 = (0 : Int)) then r2.1 else p11) (bif decide (p14 = (1 : Int)) then r2.1 else p12) (bif decide (p14 = (2 : Int)) then r2.1 else p13) (IntKind.wrap .i64 (p14 + 1))
 else none
 else none
 else
 Option.bind (a1l (4, 4, 4, ())) fun r1 =>
 bif (decide (((List.length ([(p4, (p5, (p6, ())))] : List a0a)) + (List.length p3)) * 24 ≤ 140737488355328) && decide (((List.length ([(p4, (p5, (p6, ())))] : List a0a)) + (List.length p3)) ≤ 140737488355328)) then
 Option.bind (a4t ((p0, (p1, (p2, (p3, ())))), (([(p4, (p5, (p6, ())))] : List a0a) ++ p3), ())) fun r3 =>
 Option.bind (a2z ((r3.1.1, (r3.1.2.1, (r3.1.2.2.1, ((([(p4, (p5, (p6, ())))] : List a0a) ++ p3), ())))), (p11, (p12, (p13, ()))), ())) fun r4 =>
 a4p N p7 p8 p9 p10 r1.1.1 r1.1.2.1 r1.1.2.2.1 r1.1.2.2.2.1 r4.1 0
 else none := by
 rewrite [e0a, d4q]
 kernel_rfl
theorem f8x (m0 : Nat) (p0 p1 p2 : Int) (p3 : List a0a) (p4 p5 p6 : Int) (p7 p8 : List a0a) (p9 : Int) : a4p (m0 + 1) p0 p1 p2 p3 p4 p5 p6 p7 p8 p9 =
 bif decide (p9 < (List.length p8 : Int)) then
 bif inB p9 (List.length p8) then
 Option.bind (b5t ((p4, (p5, (p6, (p7, ())))), (nth a0e p8 p9), ())) fun r2 =>
 bif !r2.1 then
 some ((0, (0, (0, (([] : List a0a), ())))), false, ())
 else
 bif inB p9 (List.length p8) then
 Option.bind (a4s ((p4, (p5, (p6, (p7, ())))), (nth a0e p8 p9), ())) fun r5 =>
 a4p m0 p0 p1 p2 p3 r5.1.1 r5.1.2.1 r5.1.2.2.1 r5.1.2.2.2.1 p8 (IntKind.wrap .i64 (p9 + 1))
 else none
 else none
 else
 some ((p4, (p5, (p6, (p7, ())))), true, ()) := by
 rewrite [d4q]
 kernel_rfl
abbrev c3x : List ATy := [.data true a0e, .data true a0e]
abbrev c7l : List (Bool × Ty) := [(true, a0e)]
abbrev c7a : List RMode := []
abbrev g1u : Type := a0a × a0a × Unit → Option (a0a × Unit)
def e3e : Ctx := { types := TT, globals := [], con := [], keep := [], results := [.cell 4 55], ntmps := 21, n := N }
def e5l : Code := (Tryz.f97.body).getD .skip
def a7d : g1u := hid (a1g e3e e5l c3x c7l c7a)
theorem e2u : a7d = a1g e3e e5l c3x c7l c7a := a0d _
def b9h : Contract := ⟨c3x, c7l, c7a, a7d⟩
theorem e1n : Sound Tryz.prog GG 97 b9h := by
 unfold b9h; rw [e2u]
 exact mkS Tryz.f97 trivial trivial
theorem g3y (a0 a1 : a0a) : a7d (a0, a1, ()) =
 some (((IntKind.wrap .i64 (a0.1 + a1.1)), ((IntKind.wrap .i64 (a0.2.1 + a1.2.1)), ((IntKind.wrap .i64 (a0.2.2.1 + a1.2.2.1)), ()))), ()) := by
 rewrite [e2u]
 kernel_rfl
abbrev c8p : List ATy := []
abbrev d3k : List (Bool × Ty) := [(true, (.pair a0e (.pair a0e (.pair a0e (.pair a0e (.pair a0e (.pair a0e .unit)))))))]
abbrev d1y : List RMode := []
abbrev g8c : Type := Unit → Option ((a0a × a0a × a0a × a0a × a0c) × Unit)
def e9a : Ctx := { types := TT, globals := [], con := [], keep := [], results := [.cell 0 111], ntmps := 8, n := N }
def e7b : Code := (Tryz.f98.body).getD .skip
def b4p : g8c := hid (a1g e9a e7b c8p d3k d1y)
theorem e7g : b4p = a1g e9a e7b c8p d3k d1y := a0d _
def c1n : Contract := ⟨c8p, d3k, d1y, b4p⟩
theorem e6x : Sound Tryz.prog GG 98 c1n := by
 unfold c1n; rw [e7g]
 exact mkS Tryz.f98 trivial trivial
theorem e7p  : b4p (()) =
 some ((((-1), (0, (0, ()))), ((1, (0, (0, ()))), ((0, ((-1), (0, ()))), ((0, (1, (0, ()))), ((0, (0, ((-1), ()))), ((0, (0, (1, ()))), ())))))), ()) := by
 rewrite [e7g]
 kernel_rfl
abbrev c5v : List ATy := [.data false (.int .i64)]
abbrev a2y : List (Bool × Ty) := [(false, (.sl a0f))]
abbrev a8q : List RMode := [.imm]
abbrev g6q : Type := Int × Unit → Option ((List a0b) × Unit)
def b1j : Ctx := { types := TT, globals := [], con := [(32, b6y), (33, b4y), (95, d0c), (96, c1h), (97, b9h), (98, c1n)], keep := [(3, ⟨[.tmp 0, .tmp 3, .tmp 4], [.tmp 3]⟩), (7, ⟨[.tmp 0, .tmp 3, .tmp 4, .tmp 5, .tmp 6], [.tmp 5]⟩), (10, ⟨[.tmp 0, .tmp 3, .tmp 4, .tmp 5, .tmp 6, .tmp 7], [.tmp 5]⟩), (13, ⟨[.tmp 0, .tmp 3, .tmp 4, .tmp 5, .tmp 6, .tmp 7, .tmp 8], [.tmp 5]⟩)], results := [.tmp 2], ntmps := 66, n := N }
def b1m : Code := (Tryz.f52.body).getD .skip
def d9w (m0 : Nat) (p0 : Int) (p1 : List a0b) (p2 : Int) : Option (a1y a2y) := a2h b1j b1m a2y a8q 3 [m0] [(.ver, .num 1), (.tmp 0, .val false [.int .i64 p0]), (.tmp 3, .val false [.imm a0f p1 none]), (.tmp 4, .val false [.int .i64 p2])]
def d9v (m0 m1 : Nat) (p0 : Int) (p1 : List a0b) (p2 : Int) (p3 : List a0b) (p4 : Int) : Option (a1y a2y) := a2h b1j b1m a2y a8q 7 [m0, m1] [(.ver, .num 1), (.tmp 0, .val false [.int .i64 p0]), (.tmp 3, .val false [.imm a0f p1 none]), (.tmp 4, .val false [.int .i64 p2]), (.tmp 5, .val false [.imm a0f p3 none]), (.tmp 6, .val false [.int .i64 p4])]
def d4b (m0 m1 m2 : Nat) (p0 : Int) (p1 : List a0b) (p2 : Int) (p3 : List a0b) (p4 p5 : Int) : Option (a1y a2y) := a2h b1j b1m a2y a8q 10 [m0, m1, m2] [(.ver, .num 1), (.tmp 0, .val false [.int .i64 p0]), (.tmp 3, .val false [.imm a0f p1 none]), (.tmp 4, .val false [.int .i64 p2]), (.tmp 5, .val false [.imm a0f p3 none]), (.tmp 6, .val false [.int .i64 p4]), (.tmp 7, .val false [.int .i64 p5])]
def d3t (m0 m1 m2 m3 : Nat) (p0 : Int) (p1 : List a0b) (p2 : Int) (p3 : List a0b) (p4 p5 p6 : Int) : Option (a1y a2y) := a2h b1j b1m a2y a8q 13 [m0, m1, m2, m3] [(.ver, .num 1), (.tmp 0, .val false [.int .i64 p0]), (.tmp 3, .val false [.imm a0f p1 none]), (.tmp 4, .val false [.int .i64 p2]), (.tmp 5, .val false [.imm a0f p3 none]), (.tmp 6, .val false [.int .i64 p4]), (.tmp 7, .val false [.int .i64 p5]), (.tmp 8, .val false [.int .i64 p6])]
def b1i : g6q := hid (a1g b1j b1m c5v a2y a8q)
theorem e8z : b1i = a1g b1j b1m c5v a2y a8q := a0d _
def c1q : Contract := ⟨c5v, a2y, a8q, b1i⟩
theorem e8t : Sound Tryz.prog GG 52 c1q := by
 unfold c1q; rw [e8z]
 exact mkS Tryz.f52 ⟨e4e, d2g, f9q, e8j, e1n, e6x, trivial⟩ trivial
def a4a := hid (d9w)
theorem c3d : a4a = d9w := a0d _
def a6a := hid (d9v)
theorem c2v : a6a = d9v := a0d _
def a4k := hid (d4b)
theorem b9v : a4k = d4b := a0d _
def a4l := hid (d3t)
theorem d4c : a4l = d3t := a0d _
theorem c1o (a0 : Int) : b1i (a0, ()) =
 Option.bind (b2e (1, 1, 1, ())) fun r0 =>
 a4a N a0 ([r0.1] : List a0b) 1 := by
 rewrite [e8z, c3d]
 kernel_rfl
theorem e0j (m0 : Nat) (p0 : Int) (p1 : List a0b) (p2 : Int) : a4a (m0 + 1) p0 p1 p2 =
 bif decide (p2 < p0) then
 a6a m0 N p0 p1 p2 ([] : List a0b) 0
 else
 some (p1, ()) := by
 rewrite [c3d, c2v]
 kernel_rfl
theorem e0m (m0 m1 : Nat) (p0 : Int) (p1 : List a0b) (p2 : Int) (p3 : List a0b) (p4 : Int) : a6a m0 (m1 + 1) p0 p1 p2 p3 p4 =
 bif decide (p4 < (List.length p1 : Int)) then
 a4k m0 m1 N p0 p1 p2 p3 p4 0
 else
 a4a m0 p0 p3 (IntKind.wrap .i64 (p2 + 1)) := by
 rewrite [c3d, c2v, b9v]
 kernel_rfl
theorem d3p (m0 m1 m2 : Nat) (p0 : Int) (p1 : List a0b) (p2 : Int) (p3 : List a0b) (p4 p5 : Int) : a4k m0 m1 (m2 + 1) p0 p1 p2 p3 p4 p5 =
 bif inB p4 (List.length p1) then
 bif decide (p5 < (List.length ((((((nth a0f p1 p4)).2).2).2).1) : Int)) then
 a4l m0 m1 m2 N p0 p1 p2 p3 p4 p5 0
 else
 a6a m0 m1 p0 p1 p2 p3 (IntKind.wrap .i64 (p4 + 1))
 else none := by
 rewrite [c2v, b9v, d4c]
 kernel_rfl
theorem d4n (m0 m1 m2 m3 : Nat) (p0 : Int) (p1 : List a0b) (p2 : Int) (p3 : List a0b) (p4 p5 p6 : Int) : a4l m0 m1 m2 (m3 + 1) p0 p1 p2 p3 p4 p5 p6 =
 bif decide (p6 < 6) then
 bif inB p4 (List.length p1) then
 bif inB p4 (List.length p1) then
 bif inB p5 (List.length ((((((nth a0f p1 p4)).2).2).2).1)) then
 Option.bind (b4p (())) fun r4 =>
 bif inB p6 6 then
 Option.bind (a7d ((nth a0e ((((((nth a0f p1 p4)).2).2).2).1) p5), ((bif decide (p6 = (0 : Int)) then r4.1.1.1 else (bif decide (p6 = (1 : Int)) then r4.1.2.1.1 else (bif decide (p6 = (2 : Int)) then r4.1.2.2.1.1 else (bif decide (p6 = (3 : Int)) then r4.1.2.2.2.1.1 else (bif decide (p6 = (4 : Int)) then r4.1.2.2.2.2.1.1 else r4.1.2.2.2.2.2.1.1))))), ((bif decide (p6 = (0 : Int)) then r4.1.1.2.1 else (bif decide (p6 = (1 : Int)) then r4.1.2.1.2.1 else (bif decide (p6 = (2 : Int)) then r4.1.2.2.1.2.1 else (bif decide (p6 = (3 : Int)) then r4.1.2.2.2.1.2.1 else (bif decide (p6 = (4 : Int)) then r4.1.2.2.2.2.1.2.1 else r4.1.2.2.2.2.2.1.2.1))))), ((bif decide (p6 = (0 : Int)) then r4.1.1.2.2.1 else (bif decide (p6 = (1 : Int)) then r4.1.2.1.2.2.1 else (bif decide (p6 = (2 : Int)) then r4.1.2.2.1.2.2.1 else (bif decide (p6 = (3 : Int)) then r4.1.2.2.2.1.2.2.1 else (bif decide (p6 = (4 : Int)) then r4.1.2.2.2.2.1.2.2.1 else r4.1.2.2.2.2.2.1.2.2.1))))), ()))), ())) fun r6 =>
 Option.bind (a3r ((nth a0f p1 p4), r6.1, ())) fun r7 =>
 bif r7.2.1 then
 Option.bind (a3q (r7.1, ())) fun r9 =>
 Option.bind (a9z (p3, r9.1, ())) fun r10 =>
 a4l m0 m1 m2 m3 p0 p1 p2 r10.1 p4 p5 (IntKind.wrap .i64 (p6 + 1))
 else
 a4l m0 m1 m2 m3 p0 p1 p2 p3 p4 p5 (IntKind.wrap .i64 (p6 + 1))
 else none
 else none
 else none
 else none
 else
 a4k m0 m1 m2 p0 p1 p2 p3 p4 (IntKind.wrap .i64 (p5 + 1)) := by
 rewrite [b9v, d4c]
 kernel_rfl
abbrev c6o : List ATy := [.data false (.int .i64)]
abbrev d1n : List (Bool × Ty) := [(false, (.sl a0f)), (false, .bool)]
abbrev d2m : List RMode := [.imm]
abbrev g4s : Type := Int × Unit → Option ((List a0b) × Bool × Unit)
def e7w : Ctx := { types := TT, globals := [], con := [(51, b9p), (52, c1q)], keep := [], results := [.tmp 2, .tmp 3], ntmps := 10, n := N }
def e8n : Code := (Tryz.f17.body).getD .skip
def b1p : g4s := hid (a1g e7w e8n c6o d1n d2m)
theorem e7m : b1p = a1g e7w e8n c6o d1n d2m := a0d _
def d2u : Contract := ⟨c6o, d1n, d2m, b1p⟩
theorem g9n : Sound Tryz.prog GG 17 d2u := by
 unfold d2u; rw [e7m]
 exact mkS Tryz.f17 ⟨d6i, e8t, trivial⟩ trivial
theorem e8u (a0 : Int) : b1p (a0, ()) =
 Option.bind (a6e (a0, 1, 4, ())) fun r0 =>
 bif !r0.1 then
 some (([] : List a0b), false, ())
 else
 Option.bind (b1i (a0, ())) fun r2 =>
 some (r2.1, true, ()) := by
 rewrite [e7m]
 kernel_rfl
abbrev d2q : List ATy := [.data false (.int .i64), .data false (.int .i64), .data false (.int .i64)]
abbrev d8b : List (Bool × Ty) := [(false, .bool)]
abbrev d7v : List RMode := []
abbrev g9g : Type := Int × Int × Int × Unit → Option (Bool × Unit)
def f5c : Ctx := { types := TT, globals := [], con := [], keep := [], results := [.tmp 6], ntmps := 15, n := N }
def f4x : Code := (Tryz.f49.body).getD .skip
def a1x : g9g := hid (a1g f5c f4x d2q d8b d7v)
theorem f5z : a1x = a1g f5c f4x d2q d8b d7v := a0d _
def b8i : Contract := ⟨d2q, d8b, d7v, a1x⟩
theorem c4q : Sound Tryz.prog GG 49 b8i := by
 unfold b8i; rw [f5z]
 exact mkS Tryz.f49 trivial trivial
theorem h5p (a0 a1 a2 : Int) : a1x (a0, a1, a2, ()) =
 bif decide (a0 ≥ a1) then
 some (decide (a0 ≤ a2), ())
 else
 some (false, ()) := by
 rewrite [f5z]
 kernel_rfl
abbrev f0v : List ATy := [.data true a0f]
abbrev f8j : List (Bool × Ty) := [(true, a0e)]
abbrev f7z : List RMode := []
abbrev i3e : Type := a0b × Unit → Option (a0a × Unit)
def h1p : Ctx := { types := TT, globals := [], con := [], keep := [], results := [.cell 2 81], ntmps := 10, n := N }
def h3e : Code := (Tryz.f57.body).getD .skip
def a3n : i3e := hid (a1g h1p h3e f0v f8j f7z)
theorem h1y : a3n = a1g h1p h3e f0v f8j f7z := a0d _
def a9e : Contract := ⟨f0v, f8j, f7z, a3n⟩
theorem b3p : Sound Tryz.prog GG 57 a9e := by
 unfold a9e; rw [h1y]
 exact mkS Tryz.f57 trivial trivial
theorem i7f (a0 : a0b) : a3n (a0, ()) =
 some ((a0.1, (a0.2.1, (a0.2.2.1, ()))), ()) := by
 rewrite [h1y]
 kernel_rfl
abbrev e2z : List ATy := [.data true a0e]
abbrev f1y : List (Bool × Ty) := [(false, .bool)]
abbrev f0t : List RMode := []
abbrev h8h : Type := a0a × Unit → Option (Bool × Unit)
def g7q : Ctx := { types := TT, globals := [], con := [(49, b8i)], keep := [], results := [.tmp 2], ntmps := 16, n := N }
def g7u : Code := (Tryz.f101.body).getD .skip
def c8a : h8h := hid (a1g g7q g7u e2z f1y f0t)
theorem g7j : c8a = a1g g7q g7u e2z f1y f0t := a0d _
def f0u : Contract := ⟨e2z, f1y, f0t, c8a⟩
theorem i4d : Sound Tryz.prog GG 101 f0u := by
 unfold f0u; rw [g7j]
 exact mkS Tryz.f101 ⟨c4q, trivial⟩ trivial
theorem i2e (a0 : a0a) : c8a (a0, ()) =
 Option.bind (a1x (a0.1, 1, 4, ())) fun r0 =>
 bif r0.1 then
 Option.bind (a1x (a0.2.1, 1, 4, ())) fun r2 =>
 bif r2.1 then
 Option.bind (a1x (a0.2.2.1, 1, 4, ())) fun r4 =>
 some (r4.1, ())
 else
 some (false, ())
 else
 some (false, ()) := by
 rewrite [g7j]
 kernel_rfl
abbrev f8t : List ATy := [.data true a0e, .data true a0e]
abbrev g4g : List (Bool × Ty) := [(false, .bool)]
abbrev g7g : List RMode := []
abbrev i7e : Type := a0a × a0a × Unit → Option (Bool × Unit)
def h8e : Ctx := { types := TT, globals := [], con := [(49, b8i)], keep := [], results := [.tmp 4], ntmps := 27, n := N }
def i0x : Code := (Tryz.f102.body).getD .skip
def d3o : i7e := hid (a1g h8e i0x f8t g4g g7g)
theorem h8w : d3o = a1g h8e i0x f8t g4g g7g := a0d _
def f3p : Contract := ⟨f8t, g4g, g7g, d3o⟩
theorem h8d : Sound Tryz.prog GG 102 f3p := by
 unfold f3p; rw [h8w]
 exact mkS Tryz.f102 ⟨c4q, trivial⟩ trivial
theorem j1v (a0 a1 : a0a) : d3o (a0, a1, ()) =
 Option.bind (a1x (a1.1, 0, (IntKind.wrap .i64 (a0.1 - 1)), ())) fun r0 =>
 bif r0.1 then
 Option.bind (a1x (a1.2.1, 0, (IntKind.wrap .i64 (a0.2.1 - 1)), ())) fun r2 =>
 bif r2.1 then
 Option.bind (a1x (a1.2.2.1, 0, (IntKind.wrap .i64 (a0.2.2.1 - 1)), ())) fun r4 =>
 some (r4.1, ())
 else
 some (false, ())
 else
 some (false, ()) := by
 rewrite [h8w]
 kernel_rfl
abbrev c3f : List ATy := [.data false (.int .i64)]
abbrev c6q : List (Bool × Ty) := [(false, .bool)]
abbrev c7u : List RMode := []
abbrev g1q : Type := Int × Unit → Option (Bool × Unit)
def e5b : Ctx := { types := TT, globals := [], con := [], keep := [], results := [.tmp 2], ntmps := 6, n := N }
def e4u : Code := (Tryz.f142.body).getD .skip
def a9b : g1q := hid (a1g e5b e4u c3f c6q c7u)
theorem e3q : a9b = a1g e5b e4u c3f c6q c7u := a0d _
def c8t : Contract := ⟨c3f, c6q, c7u, a9b⟩
theorem g4c : Sound Tryz.prog GG 142 c8t := by
 unfold c8t; rw [e3q]
 exact mkS Tryz.f142 trivial trivial
theorem g4y (a0 : Int) : a9b (a0, ()) =
 some (!decide (a0 = a0), ()) := by
 rewrite [e3q]
 kernel_rfl
abbrev b7r : List ATy := [.data false (.int .i64), .data false (.int .i64)]
abbrev c0k : List (Bool × Ty) := [(false, (.int .i64))]
abbrev c0w : List RMode := []
abbrev f4c : Type := Int × Int × Unit → Option (Int × Unit)
def d4w : Ctx := { types := TT, globals := [], con := [(142, c8t)], keep := [], results := [.tmp 4], ntmps := 20, n := N }
def d4r : Code := (Tryz.f130.body).getD .skip
def a9u : f4c := hid (a1g d4w d4r b7r c0k c0w)
theorem d5b : a9u = a1g d4w d4r b7r c0k c0w := a0d _
def c0f : Contract := ⟨b7r, c0k, c0w, a9u⟩
theorem f8e : Sound Tryz.prog GG 130 c0f := by
 unfold c0f; rw [d5b]
 exact mkS Tryz.f130 ⟨g4c, trivial⟩ trivial
theorem f7h (a0 a1 : Int) : a9u (a0, a1, ()) =
 Option.bind (a9b (a0, ())) fun r0 =>
 Option.bind (a9b (a1, ())) fun r1 =>
 bif r0.1 then
 bif r1.1 then
 some (0, ())
 else
 some ((-1), ())
 else
 bif r1.1 then
 some (1, ())
 else
 bif decide (a0 < a1) then
 some ((-1), ())
 else
 bif decide (a0 > a1) then
 some (1, ())
 else
 some (0, ()) := by
 rewrite [d5b]
 kernel_rfl
abbrev a8r : List ATy := [.data false (.sl (.int .i64)), .data false (.sl (.int .i64))]
abbrev a3m : List (Bool × Ty) := [(false, (.int .i64))]
abbrev a5i : List RMode := []
abbrev d2k : Type := (List Int) × (List Int) × Unit → Option (Int × Unit)
def a9r : Ctx := { types := TT, globals := [], con := [(130, c0f)], keep := [(2, ⟨[.tmp 0, .tmp 1, .tmp 9, .tmp 10, .tmp 11], []⟩)], results := [.tmp 4], ntmps := 36, n := N }
def a9j : Code := (Tryz.f115.body).getD .skip
def b3r (m0 : Nat) (p0 p1 p2 : List Int) (p3 p4 : Int) : Option (a1y a3m) := a2h a9r a9j a3m a5i 2 [m0] [(.ver, .num 1), (.tmp 0, .val false [.imm (.int .i64) p0 (some 0)]), (.tmp 1, .val false [.imm (.int .i64) p1 (some 1)]), (.tmp 9, .val false [.imm (.int .i64) p2 (some 0)]), (.tmp 10, .val false [.int .i64 p3]), (.tmp 11, .val false [.int .i64 p4])]
def a1p : d2k := hid (a1g a9r a9j a8r a3m a5i)
theorem b6p : a1p = a1g a9r a9j a8r a3m a5i := a0d _
def a5j : Contract := ⟨a8r, a3m, a5i, a1p⟩
theorem b6h : Sound Tryz.prog GG 115 a5j := by
 unfold a5j; rw [b6p]
 exact mkS Tryz.f115 ⟨f8e, trivial⟩ trivial
def a4g := hid (b3r)
theorem b3s : a4g = b3r := a0d _
theorem d3w (a0 a1 : List Int) : a1p (a0, a1, ()) =
 a4g N a0 a1 a0 (List.length a0 : Int) 0 := by
 rewrite [b6p, b3s]
 kernel_rfl
theorem a4e (m0 : Nat) (p0 p1 p2 : List Int) (p3 p4 : Int) : a4g (m0 + 1) p0 p1 p2 p3 p4 =
 bif decide (p4 < p3) then
 bif inB p4 (List.length p2) then
 bif decide (p4 ≥ (List.length p1 : Int)) then
 some (1, ())
 else
 bif inB p4 (List.length p1) then
 Option.bind (a9u ((nth ((.int .i64) : Ty) p2 p4), (nth ((.int .i64) : Ty) p1 p4), ())) fun r4 =>
 bif !decide (r4.1 = 0) then
 some (r4.1, ())
 else
 a4g m0 p0 p1 p2 p3 (IntKind.wrap .i64 (p4 + 1))
 else none
 else none
 else
 bif decide ((List.length p0 : Int) < (List.length p1 : Int)) then
 some ((-1), ())
 else
 some (0, ()) := by
 rewrite [b3s]
 kernel_rfl
abbrev b3y : List ATy := [.data true a0e, .data true a0e]
abbrev b5r : List (Bool × Ty) := [(false, (.int .i64))]
abbrev b5u : List RMode := []
abbrev e6u : Type := a0a × a0a × Unit → Option (Int × Unit)
def c7o : Ctx := { types := TT, globals := [], con := [(115, a5j)], keep := [], results := [.tmp 4], ntmps := 8, n := N }
def c5x : Code := (Tryz.f103.body).getD .skip
def a3f : e6u := hid (a1g c7o c5x b3y b5r b5u)
theorem c8i : a3f = a1g c7o c5x b3y b5r b5u := a0d _
def b0k : Contract := ⟨b3y, b5r, b5u, a3f⟩
theorem c5y : Sound Tryz.prog GG 103 b0k := by
 unfold b0k; rw [c8i]
 exact mkS Tryz.f103 ⟨b6h, trivial⟩ trivial
theorem c6d (a0 a1 : a0a) : a3f (a0, a1, ()) =
 Option.bind (a1p (([a0.1, a0.2.1, a0.2.2.1] : List Int), ([a1.1, a1.2.1, a1.2.2.1] : List Int), ())) fun r0 =>
 some (r0.1, ()) := by
 rewrite [c8i]
 kernel_rfl
abbrev d1l : List ATy := [.data true a0f]
abbrev b7c : List (Bool × Ty) := [(false, .bool)]
abbrev c4x : List RMode := []
abbrev h0w : Type := a0b × Unit → Option (Bool × Unit)
def d7c : Ctx := { types := TT, globals := [], con := [(57, a9e), (101, f0u), (102, f3p), (103, b0k)], keep := [(4, ⟨[.box 1, .tmp 1, .tmp 10, .tmp 11, .tmp 12], []⟩)], results := [.tmp 2], ntmps := 38, n := N }
def d5v : Code := (Tryz.f56.body).getD .skip
def e1h (m0 : Nat) (p0 p1 p2 : Int) (p3 p4 : List a0a) (p5 p6 : Int) : Option (a1y b7c) := a2h d7c d5v b7c c4x 4 [m0] [(.ver, .num 1), (.box 1, .box 0 false [.int .i64 p0, .int .i64 p1, .int .i64 p2, .imm a0e p3 (some 3)]), (.tmp 1, .val false [.addr 1 0 0]), (.tmp 10, .val false [.imm a0e p4 (some 3)]), (.tmp 11, .val false [.int .i64 p5]), (.tmp 12, .val false [.int .i64 p6])]
def a6p : h0w := hid (a1g d7c d5v d1l b7c c4x)
theorem f3s : a6p = a1g d7c d5v d1l b7c c4x := a0d _
def b0f : Contract := ⟨d1l, b7c, c4x, a6p⟩
theorem b7f : Sound Tryz.prog GG 56 b0f := by
 unfold b0f; rw [f3s]
 exact mkS Tryz.f56 ⟨b3p, i4d, h8d, c5y, trivial⟩ trivial
def a9h := hid (e1h)
theorem e0s : a9h = e1h := a0d _
theorem h5j (a0 : a0b) : a6p (a0, ()) =
 Option.bind (a3n (a0, ())) fun r0 =>
 Option.bind (c8a (r0.1, ())) fun r1 =>
 bif !r1.1 then
 some (false, ())
 else
 a9h N a0.1 a0.2.1 a0.2.2.1 a0.2.2.2.1 a0.2.2.2.1 (List.length a0.2.2.2.1 : Int) 0 := by
 rewrite [f3s, e0s]
 kernel_rfl
theorem g5f (m0 : Nat) (p0 p1 p2 : Int) (p3 p4 : List a0a) (p5 p6 : Int) : a9h (m0 + 1) p0 p1 p2 p3 p4 p5 p6 =
 bif decide (p6 < p5) then
 bif inB p6 (List.length p4) then
 Option.bind (a3n ((p0, (p1, (p2, (p3, ())))), ())) fun r2 =>
 Option.bind (d3o (r2.1, (nth a0e p4 p6), ())) fun r3 =>
 bif !r3.1 then
 some (false, ())
 else
 bif decide (p6 > 0) then
 bif inB (IntKind.wrap .i64 (p6 - 1)) (List.length p3) then
 Option.bind (a3f ((nth a0e p3 (IntKind.wrap .i64 (p6 - 1))), (nth a0e p4 p6), ())) fun r7 =>
 bif decide (r7.1 ≥ 0) then
 some (false, ())
 else
 a9h m0 p0 p1 p2 p3 p4 p5 (IntKind.wrap .i64 (p6 + 1))
 else none
 else
 a9h m0 p0 p1 p2 p3 p4 p5 (IntKind.wrap .i64 (p6 + 1))
 else none
 else
 some (true, ()) := by
 rewrite [e0s]
 kernel_rfl
abbrev e4s : List ATy := [.data true a0e, .data true a0e]
abbrev f1i : List (Bool × Ty) := [(false, (.int .i64))]
abbrev e9w : List RMode := []
abbrev h8p : Type := a0a × a0a × Unit → Option (Int × Unit)
def g4x : Ctx := { types := TT, globals := [], con := [], keep := [], results := [.tmp 4], ntmps := 19, n := N }
def g4j : Code := (Tryz.f86.body).getD .skip
def b2q : h8p := hid (a1g g4x g4j e4s f1i e9w)
theorem g8h : b2q = a1g g4x g4j e4s f1i e9w := a0d _
def c0r : Contract := ⟨e4s, f1i, e9w, b2q⟩
theorem d7u : Sound Tryz.prog GG 86 c0r := by
 unfold c0r; rw [g8h]
 exact mkS Tryz.f86 trivial trivial
theorem i4b (a0 a1 : a0a) : b2q (a0, a1, ()) =
 some ((IntKind.wrap .i64 ((IntKind.wrap .i64 ((IntKind.wrap .i64 ((IntKind.wrap .i64 (a1.1 * a0.2.1)) + a1.2.1)) * a0.2.2.1)) + a1.2.2.1)), ()) := by
 rewrite [g8h]
 kernel_rfl
abbrev f0s : List ATy := [.data true a0e]
abbrev f7k : List (Bool × Ty) := [(false, (.int .i64))]
abbrev f8u : List RMode := []
abbrev i4n : Type := a0a × Unit → Option (Int × Unit)
def h2w : Ctx := { types := TT, globals := [], con := [], keep := [], results := [.tmp 2], ntmps := 11, n := N }
def h1g : Code := (Tryz.f105.body).getD .skip
def c5q : i4n := hid (a1g h2w h1g f0s f7k f8u)
theorem h2y : c5q = a1g h2w h1g f0s f7k f8u := a0d _
def e5u : Contract := ⟨f0s, f7k, f8u, c5q⟩
theorem h2o : Sound Tryz.prog GG 105 e5u := by
 unfold e5u; rw [h2y]
 exact mkS Tryz.f105 trivial trivial
theorem h2p (a0 : a0a) : c5q (a0, ()) =
 some ((IntKind.wrap .i64 ((IntKind.wrap .i64 (a0.1 * a0.2.1)) * a0.2.2.1)), ()) := by
 rewrite [h2y]
 kernel_rfl
abbrev f8h : List ATy := [.data false (.int .u64), .data false (.int .i64)]
abbrev g5o : List (Bool × Ty) := [(false, .bool)]
abbrev g7s : List RMode := []
abbrev i7i : Type := Int × Int × Unit → Option (Bool × Unit)
def i0h : Ctx := { types := TT, globals := [], con := [], keep := [], results := [.tmp 4], ntmps := 10, n := N }
def h7v : Code := (Tryz.f106.body).getD .skip
def d4d : i7i := hid (a1g i0h h7v f8h g5o g7s)
theorem h9a : d4d = a1g i0h h7v f8h g5o g7s := a0d _
def f5f : Contract := ⟨f8h, g5o, g7s, d4d⟩
theorem h7w : Sound Tryz.prog GG 106 f5f := by
 unfold f5f; rw [h9a]
 exact mkS Tryz.f106 trivial trivial
theorem j1a (a0 a1 : Int) : d4d (a0, a1, ()) =
 bif decide ((0 : Int) ≤ a1) then
 some (decide ((intBits .and .u64 (b9x .u64 a0 a1) 1) = 1), ())
 else none := by
 rewrite [h9a]
 kernel_rfl
abbrev f1k : List ATy := [.data true a0e, .data false (.int .i64)]
abbrev f7p : List (Bool × Ty) := [(true, a0e)]
abbrev f7w : List RMode := []
abbrev i2d : Type := a0a × Int × Unit → Option (a0a × Unit)
def h1t : Ctx := { types := TT, globals := [], con := [], keep := [], results := [.cell 4 55], ntmps := 24, n := N }
def h1s : Code := (Tryz.f107.body).getD .skip
def c5s : i2d := hid (a1g h1t h1s f1k f7p f7w)
theorem h1q : c5s = a1g h1t h1s f1k f7p f7w := a0d _
def e6d : Contract := ⟨f1k, f7p, f7w, c5s⟩
theorem h1n : Sound Tryz.prog GG 107 e6d := by
 unfold e6d; rw [h1q]
 exact mkS Tryz.f107 trivial trivial
theorem i7t (a0 : a0a) (a1 : Int) : c5s (a0, a1, ()) =
 bif !decide (a0.2.2.1 = 0) then
 bif !decide (a0.2.1 = 0) then
 bif !decide (a0.2.2.1 = 0) then
 bif !decide (a0.2.1 = 0) then
 bif !decide (a0.2.2.1 = 0) then
 some (((IntKind.wrap .i64 (Int.tdiv (IntKind.wrap .i64 (Int.tdiv a1 a0.2.2.1)) a0.2.1)), ((Int.tmod (IntKind.wrap .i64 (Int.tdiv a1 a0.2.2.1)) a0.2.1), ((Int.tmod a1 a0.2.2.1), ()))), ())
 else none
 else none
 else none
 else none
 else none := by
 rewrite [h1q]
 kernel_rfl
abbrev f0c : List ATy := [.data true a0e, .data false (.int .u64)]
abbrev d5f : List (Bool × Ty) := [(false, (.sl a0e))]
abbrev e5w : List RMode := [.own 55]
abbrev i3v : Type := a0a × Int × Unit → Option ((List a0a) × Unit)
def f8b : Ctx := { types := TT, globals := [], con := [(105, e5u), (106, f5f), (107, e6d)], keep := [(3, ⟨[.box 2, .tmp 1, .tmp 2, .tmp 5, .tmp 9, .tmp 10], []⟩)], results := [.tmp 4], ntmps := 24, n := N }
def f7o : Code := (Tryz.f60.body).getD .skip
def g0q (m0 : Nat) (p0 p1 p2 p3 : Int) (p4 : List a0a) (p5 p6 : Int) : Option (a1y d5f) := a2h f8b f7o d5f e5w 3 [m0] [(.ver, .num 1), (.box 2, .box 0 false [.int .i64 p0, .int .i64 p1, .int .i64 p2]), (.tmp 1, .val false [.int .u64 p3]), (.tmp 2, .val false [.addr 2 0 0]), (.tmp 5, .val false [.own 55 a0e 0 p4]), (.tmp 9, .val false [.int .i64 p5]), (.tmp 10, .val false [.int .i64 p6])]
def c5t : i3v := hid (a1g f8b f7o f0c d5f e5w)
theorem h2a : c5t = a1g f8b f7o f0c d5f e5w := a0d _
def e6e : Contract := ⟨f0c, d5f, e5w, c5t⟩
theorem h1e : Sound Tryz.prog GG 60 e6e := by
 unfold e6e; rw [h2a]
 exact mkS Tryz.f60 ⟨h2o, h7w, h1n, trivial⟩ trivial
def b6l := hid (g0q)
theorem g1a : b6l = g0q := a0d _
theorem i8g (a0 : a0a) (a1 : Int) : c5t (a0, a1, ()) =
 Option.bind (c5q (a0, ())) fun r0 =>
 b6l N a0.1 a0.2.1 a0.2.2.1 a1 ([] : List a0a) r0.1 0 := by
 rewrite [h2a, g1a]
 kernel_rfl
theorem g1d (m0 : Nat) (p0 p1 p2 p3 : Int) (p4 : List a0a) (p5 p6 : Int) : b6l (m0 + 1) p0 p1 p2 p3 p4 p5 p6 =
 bif decide (p6 < p5) then
 Option.bind (d4d (p3, p6, ())) fun r1 =>
 bif r1.1 then
 Option.bind (c5s ((p0, (p1, (p2, ()))), p6, ())) fun r3 =>
 bif (decide (((List.length p4) + (List.length ([r3.1] : List a0a))) * 24 ≤ 140737488355328) && decide (((List.length p4) + (List.length ([r3.1] : List a0a))) ≤ 140737488355328)) then
 b6l m0 p0 p1 p2 p3 (p4 ++ ([r3.1] : List a0a)) p5 (IntKind.wrap .i64 (p6 + 1))
 else none
 else
 b6l m0 p0 p1 p2 p3 p4 p5 (IntKind.wrap .i64 (p6 + 1))
 else
 some (p4, ()) := by
 rewrite [g1a]
 kernel_rfl
abbrev e9o : List ATy := [.data true a0e, .data false (.int .u64)]
abbrev f8s : List (Bool × Ty) := [(true, a0f)]
abbrev f7e : List RMode := [.own 55]
abbrev i4k : Type := a0a × Int × Unit → Option (a0b × Unit)
def h1r : Ctx := { types := TT, globals := [], con := [(60, e6e)], keep := [], results := [.cell 4 29], ntmps := 15, n := N }
def h1l : Code := (Tryz.f87.body).getD .skip
def c5r : i4k := hid (a1g h1r h1l e9o f8s f7e)
theorem h2u : c5r = a1g h1r h1l e9o f8s f7e := a0d _
def e6f : Contract := ⟨e9o, f8s, f7e, c5r⟩
theorem h3m : Sound Tryz.prog GG 87 e6f := by
 unfold e6f; rw [h2u]
 exact mkS Tryz.f87 ⟨h1e, trivial⟩ trivial
theorem i8o (a0 : a0a) (a1 : Int) : c5r (a0, a1, ()) =
 Option.bind (c5t (a0, a1, ())) fun r0 =>
 some ((a0.1, (a0.2.1, (a0.2.2.1, (r0.1, ())))), ()) := by
 rewrite [h2u]
 kernel_rfl
abbrev d7n : List ATy := [.data true a0f, .data true a0e, .clo [(true, a0e)] [(true, a0e)]]
abbrev c2g : List (Bool × Ty) := [(true, a0f)]
abbrev d0k : List RMode := [.own 55]
abbrev h6z : Type := a0b × a0a × ((a0a × Unit) → Option (a0a × Unit)) × Unit → Option (a0b × Unit)
def e2f : Ctx := { types := TT, globals := [], con := [(86, c0r), (87, e6f)], keep := [(3, ⟨[.box 4, .box 6, .tmp 2, .tmp 4, .tmp 6, .tmp 7, .tmp 11, .tmp 12, .tmp 13], []⟩)], results := [.cell 6 29], ntmps := 29, n := N }
def e4j : Code := (Tryz.f81.body).getD .skip
def e6y (m0 : Nat) (p0 p1 p2 p3 p4 p5 : Int) (p6 : List a0a) (p7 : (a0a × Unit) → Option (a0a × Unit)) (p8 : Int) (p9 : List a0a) (p10 p11 : Int) : Option (a1y c2g) := a2h e2f e4j c2g d0k 3 [m0] [(.ver, .num 1), (.box 4, .box 0 false [.int .i64 p0, .int .i64 p1, .int .i64 p2]), (.box 6, .box 0 false [.int .i64 p3, .int .i64 p4, .int .i64 p5, .own 55 a0e 0 p6]), (.tmp 2, .val false [.clo [(true, a0e)] [(true, a0e)] p7]), (.tmp 4, .val false [.addr 4 0 0]), (.tmp 6, .val false [.addr 6 0 0]), (.tmp 7, .val false [.int .u64 p8]), (.tmp 11, .val false [.imm a0e p9 (some 3)]), (.tmp 12, .val false [.int .i64 p10]), (.tmp 13, .val false [.int .i64 p11])]
def a6u : h6z := hid (a1g e2f e4j d7n c2g d0k)
theorem f9g : a6u = a1g e2f e4j d7n c2g d0k := a0d _
def c2l : Contract := ⟨d7n, c2g, d0k, a6u⟩
theorem e0v : Sound Tryz.prog GG 81 c2l := by
 unfold c2l; rw [f9g]
 exact mkS Tryz.f81 ⟨d7u, h3m, trivial⟩ trivial
def b4d := hid (e6y)
theorem e8y : b4d = e6y := a0d _
theorem h9w (a0 : a0b) (a1 : a0a) (a2 : (a0a × Unit) → Option (a0a × Unit)) : a6u (a0, a1, a2, ()) =
 b4d N a1.1 a1.2.1 a1.2.2.1 0 0 0 ([] : List a0a) a2 0 a0.2.2.2.1 (List.length a0.2.2.2.1 : Int) 0 := by
 rewrite [f9g, e8y]
 kernel_rfl
theorem g9u (m0 : Nat) (p0 p1 p2 p3 p4 p5 : Int) (p6 : List a0a) (p7 : (a0a × Unit) → Option (a0a × Unit)) (p8 : Int) (p9 : List a0a) (p10 p11 : Int) : b4d (m0 + 1) p0 p1 p2 p3 p4 p5 p6 p7 p8 p9 p10 p11 =
 bif decide (p11 < p10) then
 bif inB p11 (List.length p9) then
 Option.bind (p7 ((nth a0e p9 p11), ())) fun r2 =>
 Option.bind (b2q ((p0, (p1, (p2, ()))), r2.1, ())) fun r3 =>
 bif decide ((0 : Int) ≤ r3.1) then
 b4d m0 p0 p1 p2 p3 p4 p5 p6 p7 (intBits .or .u64 p8 (j4u .u64 1 r3.1)) p9 p10 (IntKind.wrap .i64 (p11 + 1))
 else none
 else none
 else
 Option.bind (c5r ((p0, (p1, (p2, ()))), p8, ())) fun r1 =>
 some (r1.1, ()) := by
 rewrite [e8y]
 kernel_rfl
abbrev b5x : List ATy := [.data false (.int .i64)]
abbrev b7p : List (Bool × Ty) := [(false, .bool)]
abbrev b7z : List RMode := []
abbrev e9t : Type := Int × Unit → Option (Bool × Unit)
def c9t : Ctx := { types := TT, globals := [], con := [(49, b8i)], keep := [], results := [.tmp 2], ntmps := 5, n := N }
def d0g : Code := (Tryz.f122.body).getD .skip
def a8i : e9t := hid (a1g c9t d0g b5x b7p b7z)
theorem c9g : a8i = a1g c9t d0g b5x b7p b7z := a0d _
def b8x : Contract := ⟨b5x, b7p, b7z, a8i⟩
theorem f4v : Sound Tryz.prog GG 122 b8x := by
 unfold b8x; rw [c9g]
 exact mkS Tryz.f122 ⟨c4q, trivial⟩ trivial
theorem f3l (a0 : Int) : a8i (a0, ()) =
 Option.bind (a1x (a0, 0, 2, ())) fun r0 =>
 some (r0.1, ()) := by
 rewrite [c9g]
 kernel_rfl
abbrev d5t : List ATy := [.data true a0e, .data true a0e, .data false (.int .i64)]
abbrev e4w : List (Bool × Ty) := [(true, a0e)]
abbrev e0x : List RMode := []
abbrev h5h : Type := a0a × a0a × Int × Unit → Option (a0a × Unit)
def g0y : Ctx := { types := TT, globals := [], con := [], keep := [], results := [.cell 6 55], ntmps := 18, n := N }
def f9r : Code := (Tryz.f124.body).getD .skip
def d0b : h5h := hid (a1g g0y f9r d5t e4w e0x)
theorem g1j : d0b = a1g g0y f9r d5t e4w e0x := a0d _
def e1e : Contract := ⟨d5t, e4w, e0x, d0b⟩
theorem h9i : Sound Tryz.prog GG 124 e1e := by
 unfold e1e; rw [g1j]
 exact mkS Tryz.f124 trivial trivial
theorem h8q (a0 a1 : a0a) (a2 : Int) : d0b (a0, a1, a2, ()) =
 bif inB a2 3 then
 bif inB a2 3 then
 bif inB a2 3 then
 some (((bif decide (a2 = (0 : Int)) then (IntKind.wrap .i64 ((IntKind.wrap .i64 ((bif decide (a2 = (0 : Int)) then a0.1 else (bif decide (a2 = (1 : Int)) then a0.2.1 else a0.2.2.1)) - 1)) - (bif decide (a2 = (0 : Int)) then a1.1 else (bif decide (a2 = (1 : Int)) then a1.2.1 else a1.2.2.1)))) else a1.1), ((bif decide (a2 = (1 : Int)) then (IntKind.wrap .i64 ((IntKind.wrap .i64 ((bif decide (a2 = (0 : Int)) then a0.1 else (bif decide (a2 = (1 : Int)) then a0.2.1 else a0.2.2.1)) - 1)) - (bif decide (a2 = (0 : Int)) then a1.1 else (bif decide (a2 = (1 : Int)) then a1.2.1 else a1.2.2.1)))) else a1.2.1), ((bif decide (a2 = (2 : Int)) then (IntKind.wrap .i64 ((IntKind.wrap .i64 ((bif decide (a2 = (0 : Int)) then a0.1 else (bif decide (a2 = (1 : Int)) then a0.2.1 else a0.2.2.1)) - 1)) - (bif decide (a2 = (0 : Int)) then a1.1 else (bif decide (a2 = (1 : Int)) then a1.2.1 else a1.2.2.1)))) else a1.2.2.1), ()))), ())
 else none
 else none
 else none := by
 rewrite [g1j]
 kernel_rfl
abbrev b3w : List ATy := [.data true a0e, .ptr a0f, .ptr (.int .i64)]
abbrev b5y : List (Bool × Ty) := [(true, a0e)]
abbrev b5s : List RMode := []
abbrev e6q : Type := a0a × a0b × Int × Unit → Option (a0a × Unit)
def c8d : Ctx := { types := TT, globals := [], con := [(57, a9e), (124, e1e)], keep := [], results := [.cell 4 55], ntmps := 10, n := N }
def c6k : Code := (Tryz.f123.body).getD .skip
def a3e : e6q := hid (a1g c8d c6k b3w b5y b5s)
theorem c8g : a3e = a1g c8d c6k b3w b5y b5s := a0d _
def b6d : Contract := ⟨b3w, b5y, b5s, a3e⟩
theorem f0z : Sound Tryz.prog GG 123 b6d := by
 unfold b6d; rw [c8g]
 exact mkS Tryz.f123 ⟨b3p, h9i, trivial⟩ trivial
theorem e9v (a0 : a0a) (a1 : a0b) (a2 : Int) : a3e (a0, a1, a2, ()) =
 Option.bind (a3n (a1, ())) fun r0 =>
 Option.bind (d0b (r0.1, a0, a2, ())) fun r1 =>
 some (r1.1, ()) := by
 rewrite [c8g]
 kernel_rfl
abbrev b9c : List ATy := [.data true a0f, .data false (.int .i64)]
abbrev c0q : List (Bool × Ty) := [(true, a0f), (false, .bool)]
abbrev c0z : List RMode := [.own 55]
abbrev f3z : Type := a0b × Int × Unit → Option (a0b × Bool × Unit)
def d4u : Ctx := { types := TT, globals := [], con := [(56, b0f), (57, a9e), (81, c2l), (122, b8x), (123, b6d)], keep := [], results := [.cell 4 29, .tmp 5], ntmps := 20, n := N }
def d5j : Code := (Tryz.f99.body).getD .skip
def a9g : f3z := hid (a1g d4u d5j b9c c0q c0z)
theorem d4z : a9g = a1g d4u d5j b9c c0q c0z := a0d _
def c0s : Contract := ⟨b9c, c0q, c0z, a9g⟩
theorem f8a : Sound Tryz.prog GG 99 c0s := by
 unfold c0s; rw [d4z]
 exact mkS Tryz.f99 ⟨b7f, b3p, e0v, f4v, f0z, trivial⟩ trivial
theorem f8q (a0 : a0b) (a1 : Int) : a9g (a0, a1, ()) =
 Option.bind (a6p (a0, ())) fun r0 =>
 bif !r0.1 then
 some ((0, (0, (0, (([] : List a0a), ())))), false, ())
 else
 Option.bind (a8i (a1, ())) fun r2 =>
 bif !r2.1 then
 some ((0, (0, (0, (([] : List a0a), ())))), false, ())
 else
 Option.bind (a3n (a0, ())) fun r4 =>
 Option.bind (a6u (a0, r4.1, (fun (y : a0a × Unit) => a3e (y.1, a0, a1, ())), ())) fun r5 =>
 some (r5.1, true, ()) := by
 rewrite [d4z]
 kernel_rfl
abbrev a7l : List ATy := [.data false (.sl a0e), .data false (.sl a0e)]
abbrev a2p : List (Bool × Ty) := [(false, .bool)]
abbrev a4f : List RMode := []
abbrev c7z : Type := (List a0a) × (List a0a) × Unit → Option (Bool × Unit)
def a7s : Ctx := { types := TT, globals := [], con := [], keep := [(4, ⟨[.tmp 0, .tmp 1, .tmp 12, .tmp 13], []⟩)], results := [.tmp 4], ntmps := 26, n := N }
def a7r : Code := (Tryz.f119.body).getD .skip
def b1z (m0 : Nat) (p0 p1 : List a0a) (p2 p3 : Int) : Option (a1y a2p) := a2h a7s a7r a2p a4f 4 [m0] [(.ver, .num 1), (.tmp 0, .val false [.imm a0e p0 (some 0)]), (.tmp 1, .val false [.imm a0e p1 (some 1)]), (.tmp 12, .val false [.int .i64 p2]), (.tmp 13, .val false [.int .i64 p3])]
def a2o : c7z := hid (a1g a7s a7r a7l a2p a4f)
theorem b3t : a2o = a1g a7s a7r a7l a2p a4f := a0d _
def a7o : Contract := ⟨a7l, a2p, a4f, a2o⟩
theorem c8y : Sound Tryz.prog GG 119 a7o := by
 unfold a7o; rw [b3t]
 exact mkS Tryz.f119 trivial trivial
def a2f := hid (b1z)
theorem b1u : a2f = b1z := a0d _
theorem c9f (a0 a1 : List a0a) : a2o (a0, a1, ()) =
 bif !decide ((List.length a0 : Int) = (List.length a1 : Int)) then
 some (false, ())
 else
 a2f N a0 a1 (List.length a0 : Int) 0 := by
 rewrite [b3t, b1u]
 kernel_rfl
theorem c5f (m0 : Nat) (p0 p1 : List a0a) (p2 p3 : Int) : a2f (m0 + 1) p0 p1 p2 p3 =
 bif decide (p3 < p2) then
 bif inB p3 (List.length p0) then
 bif inB p3 (List.length p1) then
 bif !(decide (((nth a0e p0 p3)).1 = ((nth a0e p1 p3)).1) && (decide ((((nth a0e p0 p3)).2).1 = (((nth a0e p1 p3)).2).1) && (decide (((((nth a0e p0 p3)).2).2).1 = ((((nth a0e p1 p3)).2).2).1) && true))) then
 some (false, ())
 else
 a2f m0 p0 p1 p2 (IntKind.wrap .i64 (p3 + 1))
 else none
 else none
 else
 some (true, ()) := by
 rewrite [b1u]
 kernel_rfl
abbrev e5c : List ATy := [.data true a0f, .data true a0f]
abbrev f0x : List (Bool × Ty) := [(false, .bool)]
abbrev f0i : List RMode := []
abbrev h9k : Type := a0b × a0b × Unit → Option (Bool × Unit)
def g6a : Ctx := { types := TT, globals := [], con := [(57, a9e), (119, a7o)], keep := [], results := [.tmp 4], ntmps := 17, n := N }
def g7e : Code := (Tryz.f92.body).getD .skip
def b0h : h9k := hid (a1g g6a g7e e5c f0x f0i)
theorem g8g : b0h = a1g g6a g7e e5c f0x f0i := a0d _
def f1x : Contract := ⟨e5c, f0x, f0i, b0h⟩
theorem g7m : Sound Tryz.prog GG 92 f1x := by
 unfold f1x; rw [g8g]
 exact mkS Tryz.f92 ⟨b3p, c8y, trivial⟩ trivial
theorem i4t (a0 a1 : a0b) : b0h (a0, a1, ()) =
 Option.bind (a3n (a0, ())) fun r0 =>
 Option.bind (a3n (a1, ())) fun r1 =>
 bif (decide (r0.1.1 = r1.1.1) && (decide (r0.1.2.1 = r1.1.2.1) && (decide (r0.1.2.2.1 = r1.1.2.2.1) && true))) then
 Option.bind (a2o (a0.2.2.2.1, a1.2.2.2.1, ())) fun r3 =>
 some (r3.1, ())
 else
 some (false, ()) := by
 rewrite [g8g]
 kernel_rfl
abbrev d6o : List ATy := [.data true a0e, .data true a0e]
abbrev e1p : List (Bool × Ty) := [(true, a0e)]
abbrev e0u : List RMode := []
abbrev h3y : Type := a0a × a0a × Unit → Option (a0a × Unit)
def f9a : Ctx := { types := TT, globals := [], con := [], keep := [], results := [.cell 4 55], ntmps := 21, n := N }
def f9v : Code := (Tryz.f38.body).getD .skip
def a1w : h3y := hid (a1g f9a f9v d6o e1p e0u)
theorem f9k : a1w = a1g f9a f9v d6o e1p e0u := a0d _
def c2b : Contract := ⟨d6o, e1p, e0u, a1w⟩
theorem d0v : Sound Tryz.prog GG 38 c2b := by
 unfold c2b; rw [f9k]
 exact mkS Tryz.f38 trivial trivial
theorem e3z (a0 a1 : a0a) : a1w (a0, a1, ()) =
 some (((IntKind.wrap .i64 (a0.1 + a1.1)), ((IntKind.wrap .i64 (a0.2.1 + a1.2.1)), ((IntKind.wrap .i64 (a0.2.2.1 + a1.2.2.1)), ()))), ()) := by
 rewrite [f9k]
 kernel_rfl
abbrev d1b : List ATy := [.data false (.sl a0e)]
abbrev a6o : List (Bool × Ty) := [(true, a0f)]
abbrev b3l : List RMode := [.own 55]
abbrev g9i : Type := (List a0a) × Unit → Option (a0b × Unit)
def b8e : Ctx := { types := TT, globals := [], con := [(38, c2b), (86, c0r), (87, e6f)], keep := [(3, ⟨[.box 2, .box 3, .box 4, .tmp 0, .tmp 2, .tmp 3, .tmp 4, .tmp 19, .tmp 20, .tmp 21], []⟩), (6, ⟨[.box 2, .box 3, .box 4, .box 6, .tmp 0, .tmp 2, .tmp 3, .tmp 4, .tmp 6, .tmp 19, .tmp 20, .tmp 21, .tmp 25], []⟩), (14, ⟨[.box 2, .box 8, .box 9, .tmp 2, .tmp 8, .tmp 9, .tmp 10, .tmp 63, .tmp 64, .tmp 65], []⟩)], results := [.cell 2 29], ntmps := 81, n := N }
def b8y : Code := (Tryz.f42.body).getD .skip
def e3f (m0 : Nat) (p0 p1 p2 : Int) (p3 : List a0a) (p4 p5 p6 p7 p8 p9 : Int) (p10 p11 : List a0a) (p12 p13 : Int) : Option (a1y a6o) := a2h b8e b8y a6o b3l 3 [m0] [(.ver, .num 1), (.box 2, .box 0 false [.int .i64 p0, .int .i64 p1, .int .i64 p2, .own 55 a0e 0 p3]), (.box 3, .box 0 false [.int .i64 p4, .int .i64 p5, .int .i64 p6]), (.box 4, .box 0 false [.int .i64 p7, .int .i64 p8, .int .i64 p9]), (.tmp 0, .val false [.imm a0e p10 (some 0)]), (.tmp 2, .val false [.addr 2 0 0]), (.tmp 3, .val false [.addr 3 0 0]), (.tmp 4, .val false [.addr 4 0 0]), (.tmp 19, .val false [.imm a0e p11 (some 0)]), (.tmp 20, .val false [.int .i64 p12]), (.tmp 21, .val false [.int .i64 p13])]
def e1o (m0 m1 : Nat) (p0 p1 p2 : Int) (p3 : List a0a) (p4 p5 p6 p7 p8 p9 p10 p11 p12 : Int) (p13 p14 : List a0a) (p15 p16 p17 : Int) : Option (a1y a6o) := a2h b8e b8y a6o b3l 6 [m0, m1] [(.ver, .num 1), (.box 2, .box 0 false [.int .i64 p0, .int .i64 p1, .int .i64 p2, .own 55 a0e 0 p3]), (.box 3, .box 0 false [.int .i64 p4, .int .i64 p5, .int .i64 p6]), (.box 4, .box 0 false [.int .i64 p7, .int .i64 p8, .int .i64 p9]), (.box 6, .box 0 false [.int .i64 p10, .int .i64 p11, .int .i64 p12]), (.tmp 0, .val false [.imm a0e p13 (some 0)]), (.tmp 2, .val false [.addr 2 0 0]), (.tmp 3, .val false [.addr 3 0 0]), (.tmp 4, .val false [.addr 4 0 0]), (.tmp 6, .val false [.addr 6 0 0]), (.tmp 19, .val false [.imm a0e p14 (some 0)]), (.tmp 20, .val false [.int .i64 p15]), (.tmp 21, .val false [.int .i64 p16]), (.tmp 25, .val false [.int .i64 p17])]
def e0i (m0 : Nat) (p0 p1 p2 : Int) (p3 : List a0a) (p4 p5 p6 p7 p8 p9 p10 : Int) (p11 : List a0a) (p12 p13 : Int) : Option (a1y a6o) := a2h b8e b8y a6o b3l 14 [m0] [(.ver, .num 1), (.box 2, .box 0 false [.int .i64 p0, .int .i64 p1, .int .i64 p2, .own 55 a0e 0 p3]), (.box 8, .box 0 false [.int .i64 p4, .int .i64 p5, .int .i64 p6]), (.box 9, .box 0 false [.int .i64 p7, .int .i64 p8, .int .i64 p9]), (.tmp 2, .val false [.addr 2 0 0]), (.tmp 8, .val false [.addr 8 0 0]), (.tmp 9, .val false [.addr 9 0 0]), (.tmp 10, .val false [.int .u64 p10]), (.tmp 63, .val false [.imm a0e p11 (some 0)]), (.tmp 64, .val false [.int .i64 p12]), (.tmp 65, .val false [.int .i64 p13])]
def a2l : g9i := hid (a1g b8e b8y d1b a6o b3l)
theorem f2c : a2l = a1g b8e b8y d1b a6o b3l := a0d _
def f3f : Contract := ⟨d1b, a6o, b3l, a2l⟩
theorem h6p : Sound Tryz.prog GG 42 f3f := by
 unfold f3f; rw [f2c]
 exact mkS Tryz.f42 ⟨d0v, d7u, h3m, trivial⟩ trivial
def a7c := hid (e3f)
theorem c7t : a7c = e3f := a0d _
def a5a := hid (e1o)
theorem e1q : a5a = e1o := a0d _
def a5u := hid (e0i)
theorem e0h : a5u = e0i := a0d _
theorem h3u (a0 : List a0a) : a2l (a0, ()) =
 bif inB 0 (List.length a0) then
 bif inB 0 (List.length a0) then
 a7c N 0 0 0 ([] : List a0a) (((nth a0e a0 0)).1) ((((nth a0e a0 0)).2).1) (((((nth a0e a0 0)).2).2).1) (((nth a0e a0 0)).1) ((((nth a0e a0 0)).2).1) (((((nth a0e a0 0)).2).2).1) a0 a0 (List.length a0 : Int) 0
 else none
 else none := by
 rewrite [f2c, c7t]
 kernel_rfl
theorem g6k (m0 : Nat) (p0 p1 p2 : Int) (p3 : List a0a) (p4 p5 p6 p7 p8 p9 : Int) (p10 p11 : List a0a) (p12 p13 : Int) : a7c (m0 + 1) p0 p1 p2 p3 p4 p5 p6 p7 p8 p9 p10 p11 p12 p13 =
 bif decide (p13 < p12) then
 bif inB p13 (List.length p11) then
 a5a m0 N p0 p1 p2 p3 p4 p5 p6 p7 p8 p9 (((nth a0e p11 p13)).1) ((((nth a0e p11 p13)).2).1) (((((nth a0e p11 p13)).2).2).1) p10 p11 p12 p13 0
 else none
 else
 Option.bind (a1w ((p7, (p8, (p9, ()))), ((IntKind.wrap .i64 (0 - p4)), ((IntKind.wrap .i64 (0 - p5)), ((IntKind.wrap .i64 (0 - p6)), ()))), ())) fun r1 =>
 Option.bind (a1w (r1.1, (1, (1, (1, ()))), ())) fun r2 =>
 a5u N p0 p1 p2 p3 (IntKind.wrap .i64 (0 - p4)) (IntKind.wrap .i64 (0 - p5)) (IntKind.wrap .i64 (0 - p6)) r2.1.1 r2.1.2.1 r2.1.2.2.1 0 p10 (List.length p10 : Int) 0 := by
 rewrite [c7t, e1q, e0h]
 kernel_rfl
theorem b6z (m0 m1 : Nat) (p0 p1 p2 : Int) (p3 : List a0a) (p4 p5 p6 p7 p8 p9 p10 p11 p12 : Int) (p13 p14 : List a0a) (p15 p16 p17 : Int) : a5a m0 (m1 + 1) p0 p1 p2 p3 p4 p5 p6 p7 p8 p9 p10 p11 p12 p13 p14 p15 p16 p17 =
 bif decide (p17 < 3) then
 bif inB p17 3 then
 bif inB p17 3 then
 bif inB p17 3 then
 bif inB p17 3 then
 bif inB p17 3 then
 bif inB p17 3 then
 a5a m0 m1 p0 p1 p2 p3 (bif decide (p17 = (0 : Int)) then (bif decide ((bif decide (p17 = (0 : Int)) then p10 else (bif decide (p17 = (1 : Int)) then p11 else p12)) < (bif decide (p17 = (0 : Int)) then p4 else (bif decide (p17 = (1 : Int)) then p5 else p6))) then (bif decide (p17 = (0 : Int)) then p10 else (bif decide (p17 = (1 : Int)) then p11 else p12)) else (bif decide (p17 = (0 : Int)) then p4 else (bif decide (p17 = (1 : Int)) then p5 else p6))) else p4) (bif decide (p17 = (1 : Int)) then (bif decide ((bif decide (p17 = (0 : Int)) then p10 else (bif decide (p17 = (1 : Int)) then p11 else p12)) < (bif decide (p17 = (0 : Int)) then p4 else (bif decide (p17 = (1 : Int)) then p5 else p6))) then (bif decide (p17 = (0 : Int)) then p10 else (bif decide (p17 = (1 : Int)) then p11 else p12)) else (bif decide (p17 = (0 : Int)) then p4 else (bif decide (p17 = (1 : Int)) then p5 else p6))) else p5) (bif decide (p17 = (2 : Int)) then (bif decide ((bif decide (p17 = (0 : Int)) then p10 else (bif decide (p17 = (1 : Int)) then p11 else p12)) < (bif decide (p17 = (0 : Int)) then p4 else (bif decide (p17 = (1 : Int)) then p5 else p6))) then (bif decide (p17 = (0 : Int)) then p10 else (bif decide (p17 = (1 : Int)) then p11 else p12)) else (bif decide (p17 = (0 : Int)) then p4 else (bif decide (p17 = (1 : Int)) then p5 else p6))) else p6) (bif decide (p17 = (0 : Int)) then (bif decide ((bif decide (p17 = (0 : Int)) then p10 else (bif decide (p17 = (1 : Int)) then p11 else p12)) > (bif decide (p17 = (0 : Int)) then p7 else (bif decide (p17 = (1 : Int)) then p8 else p9))) then (bif decide (p17 = (0 : Int)) then p10 else (bif decide (p17 = (1 : Int)) then p11 else p12)) else (bif decide (p17 = (0 : Int)) then p7 else (bif decide (p17 = (1 : Int)) then p8 else p9))) else p7) (bif decide (p17 = (1 : Int)) then (bif decide ((bif decide (p17 = (0 : Int)) then p10 else (bif decide (p17 = (1 : Int)) then p11 else p12)) > (bif decide (p17 = (0 : Int)) then p7 else (bif decide (p17 = (1 : Int)) then p8 else p9))) then (bif decide (p17 = (0 : Int)) then p10 else (bif decide (p17 = (1 : Int)) then p11 else p12)) else (bif decide (p17 = (0 : Int)) then p7 else (bif decide (p17 = (1 : Int)) then p8 else p9))) else p8) (bif decide (p17 = (2 : Int)) then (bif decide ((bif decide (p17 = (0 : Int)) then p10 else (bif decide (p17 = (1 : Int)) then p11 else p12)) > (bif decide (p17 = (0 : Int)) then p7 else (bif decide (p17 = (1 : Int)) then p8 else p9))) then (bif decide (p17 = (0 : Int)) then p10 else (bif decide (p17 = (1 : Int)) then p11 else p12)) else (bif decide (p17 = (0 : Int)) then p7 else (bif decide (p17 = (1 : Int)) then p8 else p9))) else p9) p10 p11 p12 p13 p14 p15 p16 (IntKind.wrap .i64 (p17 + 1))
 else none
 else none
 else none
 else none
 else none
 else none
 else
 a7c m0 p0 p1 p2 p3 p4 p5 p6 p7 p8 p9 p13 p14 p15 (IntKind.wrap .i64 (p16 + 1)) := by
 rewrite [c7t, e1q]
 kernel_rfl
theorem g3a (m0 : Nat) (p0 p1 p2 : Int) (p3 : List a0a) (p4 p5 p6 p7 p8 p9 p10 : Int) (p11 : List a0a) (p12 p13 : Int) : a5u (m0 + 1) p0 p1 p2 p3 p4 p5 p6 p7 p8 p9 p10 p11 p12 p13 =
 bif decide (p13 < p12) then
 bif inB p13 (List.length p11) then
 Option.bind (a1w ((nth a0e p11 p13), (p4, (p5, (p6, ()))), ())) fun r2 =>
 Option.bind (b2q ((p7, (p8, (p9, ()))), r2.1, ())) fun r3 =>
 bif decide ((0 : Int) ≤ r3.1) then
 a5u m0 p0 p1 p2 p3 p4 p5 p6 p7 p8 p9 (intBits .or .u64 p10 (j4u .u64 1 r3.1)) p11 p12 (IntKind.wrap .i64 (p13 + 1))
 else none
 else none
 else
 Option.bind (c5r ((p7, (p8, (p9, ()))), p10, ())) fun r1 =>
 some (r1.1, ()) := by
 rewrite [e0h]
 kernel_rfl
abbrev d3i : List ATy := [.data true a0e, .data false (.int .i64)]
abbrev d8o : List (Bool × Ty) := [(true, a0e)]
abbrev d8e : List RMode := []
abbrev g8u : Type := a0a × Int × Unit → Option (a0a × Unit)
def f4p : Ctx := { types := TT, globals := [], con := [], keep := [], results := [.cell 4 55], ntmps := 16, n := N }
def f4b : Code := (Tryz.f40.body).getD .skip
def a3t : g8u := hid (a1g f4p f4b d3i d8o d8e)
theorem f6h : a3t = a1g f4p f4b d3i d8o d8e := a0d _
def f5x : Contract := ⟨d3i, d8o, d8e, a3t⟩
theorem h7l : Sound Tryz.prog GG 40 f5x := by
 unfold f5x; rw [f6h]
 exact mkS Tryz.f40 trivial trivial
theorem b0g (a0 : a0a) (a1 : Int) : a3t (a0, a1, ()) =
 bif inB (IntKind.wrap .i64 (Int.tdiv a1 2)) 3 then
 bif inB (IntKind.wrap .i64 (Int.tdiv a1 2)) 3 then
 some (((bif decide ((IntKind.wrap .i64 (Int.tdiv a1 2)) = (0 : Int)) then (IntKind.wrap .i64 ((bif decide ((IntKind.wrap .i64 (Int.tdiv a1 2)) = (0 : Int)) then a0.1 else (bif decide ((IntKind.wrap .i64 (Int.tdiv a1 2)) = (1 : Int)) then a0.2.1 else a0.2.2.1)) + (IntKind.wrap .i64 ((IntKind.wrap .i64 (2 * (Int.tmod a1 2))) - 1)))) else a0.1), ((bif decide ((IntKind.wrap .i64 (Int.tdiv a1 2)) = (1 : Int)) then (IntKind.wrap .i64 ((bif decide ((IntKind.wrap .i64 (Int.tdiv a1 2)) = (0 : Int)) then a0.1 else (bif decide ((IntKind.wrap .i64 (Int.tdiv a1 2)) = (1 : Int)) then a0.2.1 else a0.2.2.1)) + (IntKind.wrap .i64 ((IntKind.wrap .i64 (2 * (Int.tmod a1 2))) - 1)))) else a0.2.1), ((bif decide ((IntKind.wrap .i64 (Int.tdiv a1 2)) = (2 : Int)) then (IntKind.wrap .i64 ((bif decide ((IntKind.wrap .i64 (Int.tdiv a1 2)) = (0 : Int)) then a0.1 else (bif decide ((IntKind.wrap .i64 (Int.tdiv a1 2)) = (1 : Int)) then a0.2.1 else a0.2.2.1)) + (IntKind.wrap .i64 ((IntKind.wrap .i64 (2 * (Int.tmod a1 2))) - 1)))) else a0.2.2.1), ()))), ())
 else none
 else none := by
 rewrite [f6h]
 kernel_rfl
abbrev a7f : List ATy := [.data false (.sl a0e), .data true a0e]
abbrev a2q : List (Bool × Ty) := [(false, (.int .i64))]
abbrev a4h : List RMode := []
abbrev c7r : Type := (List a0a) × a0a × Unit → Option (Int × Unit)
def a7p : Ctx := { types := TT, globals := [], con := [], keep := [(2, ⟨[.box 3, .tmp 0, .tmp 3, .tmp 7, .tmp 8], []⟩)], results := [.tmp 4], ntmps := 19, n := N }
def a7t : Code := (Tryz.f85.body).getD .skip
def b1y (m0 : Nat) (p0 p1 p2 : Int) (p3 : List a0a) (p4 p5 : Int) : Option (a1y a2q) := a2h a7p a7t a2q a4h 2 [m0] [(.ver, .num 1), (.box 3, .box 0 false [.int .i64 p0, .int .i64 p1, .int .i64 p2]), (.tmp 0, .val false [.imm a0e p3 (some 0)]), (.tmp 3, .val false [.addr 3 0 0]), (.tmp 7, .val false [.int .i64 p4]), (.tmp 8, .val false [.int .i64 p5])]
def a2n : c7r := hid (a1g a7p a7t a7f a2q a4h)
theorem b3q : a2n = a1g a7p a7t a7f a2q a4h := a0d _
def a7q : Contract := ⟨a7f, a2q, a4h, a2n⟩
theorem c9a : Sound Tryz.prog GG 85 a7q := by
 unfold a7q; rw [b3q]
 exact mkS Tryz.f85 trivial trivial
def a2e := hid (b1y)
theorem b1x : a2e = b1y := a0d _
theorem c9c (a0 : List a0a) (a1 : a0a) : a2n (a0, a1, ()) =
 a2e N a1.1 a1.2.1 a1.2.2.1 a0 (List.length a0 : Int) 0 := by
 rewrite [b3q, b1x]
 kernel_rfl
theorem c4r (m0 : Nat) (p0 p1 p2 : Int) (p3 : List a0a) (p4 p5 : Int) : a2e (m0 + 1) p0 p1 p2 p3 p4 p5 =
 bif decide (p5 < p4) then
 bif inB p5 (List.length p3) then
 bif (decide (p0 = ((nth a0e p3 p5)).1) && (decide (p1 = (((nth a0e p3 p5)).2).1) && (decide (p2 = ((((nth a0e p3 p5)).2).2).1) && true))) then
 some (p5, ())
 else
 a2e m0 p0 p1 p2 p3 p4 (IntKind.wrap .i64 (p5 + 1))
 else none
 else
 some ((-1), ()) := by
 rewrite [b1x]
 kernel_rfl
abbrev a4x : List ATy := [.data false (.sl a0e), .data true a0e]
abbrev a5y : List (Bool × Ty) := [(false, .bool)]
abbrev a6f : List RMode := []
abbrev c2e : Type := (List a0a) × a0a × Unit → Option (Bool × Unit)
def b1c : Ctx := { types := TT, globals := [], con := [(85, a7q)], keep := [], results := [.tmp 4], ntmps := 9, n := N }
def b0v : Code := (Tryz.f39.body).getD .skip
def a1b : c2e := hid (a1g b1c b0v a4x a5y a6f)
theorem b0x : a1b = a1g b1c b0v a4x a5y a6f := a0d _
def b0p : Contract := ⟨a4x, a5y, a6f, a1b⟩
theorem c3q : Sound Tryz.prog GG 39 b0p := by
 unfold b0p; rw [b0x]
 exact mkS Tryz.f39 ⟨c9a, trivial⟩ trivial
theorem c2w (a0 : List a0a) (a1 : a0a) : a1b (a0, a1, ()) =
 Option.bind (a2n (a0, a1, ())) fun r0 =>
 some (decide (r0.1 ≥ 0), ()) := by
 rewrite [b0x]
 kernel_rfl
abbrev a1q : List ATy := [.data false (.sl a0e), .data false (.sl a0e), .clo [(true, a0e), (true, a0e)] [(false, (.int .i64))]]
abbrev a0v : List (Bool × Ty) := [(false, (.int .i64))]
abbrev a1d : List RMode := []
abbrev a9p : Type := (List a0a) × (List a0a) × ((a0a × a0a × Unit) → Option (Int × Unit)) × Unit → Option (Int × Unit)
def a1t : Ctx := { types := TT, globals := [], con := [], keep := [(2, ⟨[.tmp 0, .tmp 1, .tmp 2, .tmp 11, .tmp 12, .tmp 13], []⟩)], results := [.tmp 6], ntmps := 39, n := N }
def a1v : Code := (Tryz.f116.body).getD .skip
def a3b (m0 : Nat) (p0 p1 : List a0a) (p2 : (a0a × a0a × Unit) → Option (Int × Unit)) (p3 : List a0a) (p4 p5 : Int) : Option (a1y a0v) := a2h a1t a1v a0v a1d 2 [m0] [(.ver, .num 1), (.tmp 0, .val false [.imm a0e p0 (some 0)]), (.tmp 1, .val false [.imm a0e p1 (some 1)]), (.tmp 2, .val false [.clo [(true, a0e), (true, a0e)] [(false, (.int .i64))] p2]), (.tmp 11, .val false [.imm a0e p3 (some 0)]), (.tmp 12, .val false [.int .i64 p4]), (.tmp 13, .val false [.int .i64 p5])]
def a1c : a9p := hid (a1g a1t a1v a1q a0v a1d)
theorem a3p : a1c = a1g a1t a1v a1q a0v a1d := a0d _
def a1u : Contract := ⟨a1q, a0v, a1d, a1c⟩
theorem b0a : Sound Tryz.prog GG 116 a1u := by
 unfold a1u; rw [a3p]
 exact mkS Tryz.f116 trivial trivial
def a0q := hid (a3b)
theorem a3c : a0q = a3b := a0d _
theorem b0b (a0 a1 : List a0a) (a2 : (a0a × a0a × Unit) → Option (Int × Unit)) : a1c (a0, a1, a2, ()) =
 a0q N a0 a1 a2 a0 (List.length a0 : Int) 0 := by
 rewrite [a3p, a3c]
 kernel_rfl
theorem a8x (m0 : Nat) (p0 p1 : List a0a) (p2 : (a0a × a0a × Unit) → Option (Int × Unit)) (p3 : List a0a) (p4 p5 : Int) : a0q (m0 + 1) p0 p1 p2 p3 p4 p5 =
 bif decide (p5 < p4) then
 bif inB p5 (List.length p3) then
 bif decide (p5 ≥ (List.length p1 : Int)) then
 some (1, ())
 else
 bif inB p5 (List.length p1) then
 Option.bind (p2 ((nth a0e p3 p5), (nth a0e p1 p5), ())) fun r4 =>
 bif !decide (r4.1 = 0) then
 some (r4.1, ())
 else
 a0q m0 p0 p1 p2 p3 p4 (IntKind.wrap .i64 (p5 + 1))
 else none
 else none
 else
 bif decide ((List.length p0 : Int) < (List.length p1 : Int)) then
 some ((-1), ())
 else
 some (0, ()) := by
 rewrite [a3c]
 kernel_rfl
abbrev b3x : List ATy := [.data true a0f, .data true a0f]
abbrev b5q : List (Bool × Ty) := [(false, (.int .i64))]
abbrev b6b : List RMode := []
abbrev e6s : Type := a0b × a0b × Unit → Option (Int × Unit)
def c6r : Ctx := { types := TT, globals := [], con := [(57, a9e), (103, b0k), (115, a5j), (116, a1u)], keep := [], results := [.tmp 4], ntmps := 23, n := N }
def c6j : Code := (Tryz.f89.body).getD .skip
def a1m : e6s := hid (a1g c6r c6j b3x b5q b6b)
theorem c8h : a1m = a1g c6r c6j b3x b5q b6b := a0d _
def c7m : Contract := ⟨b3x, b5q, b6b, a1m⟩
theorem f1u : Sound Tryz.prog GG 89 c7m := by
 unfold c7m; rw [c8h]
 exact mkS Tryz.f89 ⟨b3p, c5y, b6h, b0a, trivial⟩ trivial
theorem e9r (a0 a1 : a0b) : a1m (a0, a1, ()) =
 Option.bind (a3n (a0, ())) fun r0 =>
 Option.bind (a3n (a1, ())) fun r1 =>
 Option.bind (a1p (([r0.1.1, r0.1.2.1, r0.1.2.2.1] : List Int), ([r1.1.1, r1.1.2.1, r1.1.2.2.1] : List Int), ())) fun r2 =>
 bif !decide (r2.1 = 0) then
 some (r2.1, ())
 else
 Option.bind (a1c (a0.2.2.2.1, a1.2.2.2.1, (fun (y : a0a × a0a × Unit) => a3f (y.1, y.2.1, ())), ())) fun r4 =>
 some (r4.1, ()) := by
 rewrite [c8h]
 kernel_rfl
abbrev d3l : List ATy := []
abbrev d6q : List (Bool × Ty) := [(false, (.sl a0e))]
abbrev d6l : List RMode := [.own 55]
abbrev e8w : Type := Unit → Option ((List a0a) × Unit)
def f5i : Ctx := { types := TT, globals := [], con := [], keep := [], results := [.tmp 0], ntmps := 8, n := N }
def f3t : Code := (Tryz.f113.body).getD .skip
def b3n : e8w := hid (a1g f5i f3t d3l d6q d6l)
theorem f5m : b3n = a1g f5i f3t d3l d6q d6l := a0d _
def d7x : Contract := ⟨d3l, d6q, d6l, b3n⟩
theorem h3w : Sound Tryz.prog GG 113 d7x := by
 unfold d7x; rw [f5m]
 exact mkS Tryz.f113 trivial trivial
theorem h6v  : b3n (()) =
 some (([(0, (1, (2, ()))), (0, (2, (1, ()))), (1, (0, (2, ()))), (1, (2, (0, ()))), (2, (0, (1, ()))), (2, (1, (0, ())))] : List a0a), ()) := by
 rewrite [f5m]
 kernel_rfl
abbrev c3i : List ATy := []
abbrev a0h : List (Bool × Ty) := [(false, (.sl a1h))]
abbrev a7h : List RMode := [.own 101]
abbrev d9l : Type := Unit → Option ((List a0c) × Unit)
def a9n : Ctx := { types := TT, globals := [], con := [(113, d7x)], keep := [(3, ⟨[.tmp 1, .tmp 10, .tmp 11, .tmp 12], []⟩), (7, ⟨[.box 3, .tmp 1, .tmp 3, .tmp 4, .tmp 10, .tmp 11, .tmp 12, .tmp 16], []⟩), (10, ⟨[.box 3, .tmp 1, .tmp 3, .tmp 4, .tmp 5, .tmp 10, .tmp 11, .tmp 12, .tmp 16, .tmp 19, .tmp 20], []⟩), (17, ⟨[.box 3, .tmp 1, .tmp 3, .tmp 4, .tmp 10, .tmp 11, .tmp 12, .tmp 34], []⟩)], results := [.tmp 0], ntmps := 66, n := N }
def a9q : Code := (Tryz.f83.body).getD .skip
def d5k (m0 : Nat) (p0 : List a0c) (p1 : List a0a) (p2 p3 : Int) : Option (a1y a0h) := a2h a9n a9q a0h a7h 3 [m0] [(.ver, .num 1), (.tmp 1, .val false [.own 101 a1h 0 p0]), (.tmp 10, .val false [.own 55 a0e 0 p1]), (.tmp 11, .val false [.int .i64 p2]), (.tmp 12, .val false [.int .i64 p3])]
def d3y (m0 m1 : Nat) (p0 p1 p2 : Int) (p3 : List a0c) (p4 : Int) (p5 : List a0a) (p6 p7 p8 : Int) : Option (a1y a0h) := a2h a9n a9q a0h a7h 7 [m0, m1] [(.ver, .num 1), (.box 3, .box 0 false [.int .i64 p0, .int .i64 p1, .int .i64 p2]), (.tmp 1, .val false [.own 101 a1h 0 p3]), (.tmp 3, .val false [.addr 3 0 0]), (.tmp 4, .val false [.int .i64 p4]), (.tmp 10, .val false [.own 55 a0e 0 p5]), (.tmp 11, .val false [.int .i64 p6]), (.tmp 12, .val false [.int .i64 p7]), (.tmp 16, .val false [.int .i64 p8])]
def c9m (m0 m1 m2 : Nat) (p0 p1 p2 : Int) (p3 : List a0c) (p4 p5 : Int) (p6 : List a0a) (p7 p8 p9 p10 p11 : Int) : Option (a1y a0h) := a2h a9n a9q a0h a7h 10 [m0, m1, m2] [(.ver, .num 1), (.box 3, .box 0 false [.int .i64 p0, .int .i64 p1, .int .i64 p2]), (.tmp 1, .val false [.own 101 a1h 0 p3]), (.tmp 3, .val false [.addr 3 0 0]), (.tmp 4, .val false [.int .i64 p4]), (.tmp 5, .val false [.int .i64 p5]), (.tmp 10, .val false [.own 55 a0e 0 p6]), (.tmp 11, .val false [.int .i64 p7]), (.tmp 12, .val false [.int .i64 p8]), (.tmp 16, .val false [.int .i64 p9]), (.tmp 19, .val false [.int .i64 p10]), (.tmp 20, .val false [.int .i64 p11])]
def d0r (m0 m1 : Nat) (p0 p1 p2 : Int) (p3 : List a0c) (p4 : Int) (p5 : List a0a) (p6 p7 p8 : Int) : Option (a1y a0h) := a2h a9n a9q a0h a7h 17 [m0, m1] [(.ver, .num 1), (.box 3, .box 0 false [.int .i64 p0, .int .i64 p1, .int .i64 p2]), (.tmp 1, .val false [.own 101 a1h 0 p3]), (.tmp 3, .val false [.addr 3 0 0]), (.tmp 4, .val false [.int .i64 p4]), (.tmp 10, .val false [.own 55 a0e 0 p5]), (.tmp 11, .val false [.int .i64 p6]), (.tmp 12, .val false [.int .i64 p7]), (.tmp 34, .val false [.int .i64 p8])]
def a2u : d9l := hid (a1g a9n a9q c3i a0h a7h)
theorem e0r : a2u = a1g a9n a9q c3i a0h a7h := a0d _
def e3y : Contract := ⟨c3i, a0h, a7h, a2u⟩
theorem g7l : Sound Tryz.prog GG 83 e3y := by
 unfold e3y; rw [e0r]
 exact mkS Tryz.f83 ⟨h3w, trivial⟩ trivial
def a3o := hid (d5k)
theorem b9y : a3o = d5k := a0d _
def a6y := hid (d3y)
theorem b9t : a6y = d3y := a0d _
def a5s := hid (c9m)
theorem d0q : a5s = c9m := a0d _
def a5k := hid (d0r)
theorem d1a : a5k = d0r := a0d _
theorem g5q  : a2u (()) =
 Option.bind (b3n (())) fun r0 =>
 a3o N ([] : List a0c) r0.1 (List.length r0.1 : Int) 0 := by
 rewrite [e0r, b9y]
 kernel_rfl
theorem f8k (m0 : Nat) (p0 : List a0c) (p1 : List a0a) (p2 p3 : Int) : a3o (m0 + 1) p0 p1 p2 p3 =
 bif decide (p3 < p2) then
 bif inB p3 (List.length p1) then
 a6y m0 N (((nth a0e p1 p3)).1) ((((nth a0e p1 p3)).2).1) (((((nth a0e p1 p3)).2).2).1) p0 0 p1 p2 p3 0
 else none
 else
 some (p0, ()) := by
 rewrite [b9y, b9t]
 kernel_rfl
theorem f8g (m0 m1 : Nat) (p0 p1 p2 : Int) (p3 : List a0c) (p4 : Int) (p5 : List a0a) (p6 p7 p8 : Int) : a6y m0 (m1 + 1) p0 p1 p2 p3 p4 p5 p6 p7 p8 =
 bif decide (p8 < 3) then
 a5s m0 m1 N p0 p1 p2 p3 p4 p8 p5 p6 p7 p8 p8 0
 else
 a5k m0 N p0 p1 p2 p3 p4 p5 p6 p7 0 := by
 rewrite [b9t, d0q, d1a]
 kernel_rfl
theorem f4g (m0 m1 m2 : Nat) (p0 p1 p2 : Int) (p3 : List a0c) (p4 p5 : Int) (p6 : List a0a) (p7 p8 p9 p10 p11 : Int) : a5s m0 m1 (m2 + 1) p0 p1 p2 p3 p4 p5 p6 p7 p8 p9 p10 p11 =
 bif decide (p11 < p10) then
 bif inB p11 3 then
 bif inB p5 3 then
 bif decide ((bif decide (p11 = (0 : Int)) then p0 else (bif decide (p11 = (1 : Int)) then p1 else p2)) > (bif decide (p5 = (0 : Int)) then p0 else (bif decide (p5 = (1 : Int)) then p1 else p2))) then
 a5s m0 m1 m2 p0 p1 p2 p3 (IntKind.wrap .i64 (p4 + 1)) p5 p6 p7 p8 p9 p10 (IntKind.wrap .i64 (p11 + 1))
 else
 a5s m0 m1 m2 p0 p1 p2 p3 p4 p5 p6 p7 p8 p9 p10 (IntKind.wrap .i64 (p11 + 1))
 else none
 else none
 else
 a6y m0 m1 p0 p1 p2 p3 p4 p6 p7 p8 (IntKind.wrap .i64 (p9 + 1)) := by
 rewrite [b9t, d0q]
 kernel_rfl
theorem f4k (m0 m1 : Nat) (p0 p1 p2 : Int) (p3 : List a0c) (p4 : Int) (p5 : List a0a) (p6 p7 p8 : Int) : a5k m0 (m1 + 1) p0 p1 p2 p3 p4 p5 p6 p7 p8 =
 bif decide (p8 < 8) then
 bif decide ((Int.tmod (IntKind.wrap .i64 ((IntKind.wrap .i64 ((IntKind.wrap .i64 (p4 + (b9x .i64 p8 2))) + (intBits .and .i64 (b9x .i64 p8 1) 1))) + (intBits .and .i64 p8 1))) 2) = 0) then
 bif (decide (((List.length p3) + (List.length ([((p0, (p1, (p2, ()))), (((b9x .i64 p8 2), ((intBits .and .i64 (b9x .i64 p8 1) 1), ((intBits .and .i64 p8 1), ()))), ()))] : List a0c))) * 48 ≤ 140737488355328) && decide (((List.length p3) + (List.length ([((p0, (p1, (p2, ()))), (((b9x .i64 p8 2), ((intBits .and .i64 (b9x .i64 p8 1) 1), ((intBits .and .i64 p8 1), ()))), ()))] : List a0c))) ≤ 140737488355328)) then
 a5k m0 m1 p0 p1 p2 (p3 ++ ([((p0, (p1, (p2, ()))), (((b9x .i64 p8 2), ((intBits .and .i64 (b9x .i64 p8 1) 1), ((intBits .and .i64 p8 1), ()))), ()))] : List a0c)) p4 p5 p6 p7 (IntKind.wrap .i64 (p8 + 1))
 else none
 else
 a5k m0 m1 p0 p1 p2 p3 p4 p5 p6 p7 (IntKind.wrap .i64 (p8 + 1))
 else
 a3o m0 p3 p5 p6 (IntKind.wrap .i64 (p7 + 1)) := by
 rewrite [b9y, d1a]
 kernel_rfl
abbrev b8v : List ATy := [.data true a0e, .ptr a0e]
abbrev c0e : List (Bool × Ty) := [(true, a0e)]
abbrev b9w : List RMode := []
abbrev f5k : Type := a0a × a0a × Unit → Option (a0a × Unit)
def d5a : Ctx := { types := TT, globals := [], con := [(38, c2b)], keep := [], results := [.cell 3 55], ntmps := 7, n := N }
def d5e : Code := (Tryz.f82.body).getD .skip
def a9c : f5k := hid (a1g d5a d5e b8v c0e b9w)
theorem d5c : a9c = a1g d5a d5e b8v c0e b9w := a0d _
def c0o : Contract := ⟨b8v, c0e, b9w, a9c⟩
theorem f6x : Sound Tryz.prog GG 82 c0o := by
 unfold c0o; rw [d5c]
 exact mkS Tryz.f82 ⟨d0v, trivial⟩ trivial
theorem f7u (a0 a1 : a0a) : a9c (a0, a1, ()) =
 Option.bind (a1w (a0, a1, ())) fun r0 =>
 some (r0.1, ()) := by
 rewrite [d5c]
 kernel_rfl
abbrev c3w : List ATy := [.data true a0f]
abbrev a7i : List (Bool × Ty) := [(true, a0f), (false, .bool)]
abbrev b2s : List RMode := [.own 55]
abbrev g2t : Type := a0b × Unit → Option (a0b × Bool × Unit)
def b8a : Ctx := { types := TT, globals := [], con := [(38, c2b), (56, b0f), (81, c2l), (82, c0o)], keep := [(5, ⟨[.box 1, .box 2, .box 4, .box 5, .tmp 1, .tmp 2, .tmp 4, .tmp 5, .tmp 29, .tmp 30, .tmp 31], []⟩), (8, ⟨[.box 1, .box 2, .box 4, .box 5, .box 7, .tmp 1, .tmp 2, .tmp 4, .tmp 5, .tmp 7, .tmp 29, .tmp 30, .tmp 31, .tmp 35], []⟩)], results := [.cell 2 29, .tmp 3], ntmps := 76, n := N }
def b9f : Code := (Tryz.f36.body).getD .skip
def d4p (m0 : Nat) (p0 p1 p2 : Int) (p3 : List a0a) (p4 p5 p6 : Int) (p7 : List a0a) (p8 p9 p10 p11 p12 p13 : Int) (p14 : List a0a) (p15 p16 : Int) : Option (a1y a7i) := a2h b8a b9f a7i b2s 5 [m0] [(.ver, .num 1), (.box 1, .box 0 false [.int .i64 p0, .int .i64 p1, .int .i64 p2, .imm a0e p3 (some 3)]), (.box 2, .box 0 false [.int .i64 p4, .int .i64 p5, .int .i64 p6, .own 55 a0e 0 p7]), (.box 4, .box 0 false [.int .i64 p8, .int .i64 p9, .int .i64 p10]), (.box 5, .box 0 false [.int .i64 p11, .int .i64 p12, .int .i64 p13]), (.tmp 1, .val false [.addr 1 0 0]), (.tmp 2, .val false [.addr 2 0 0]), (.tmp 4, .val false [.addr 4 0 0]), (.tmp 5, .val false [.addr 5 0 0]), (.tmp 29, .val false [.imm a0e p14 (some 3)]), (.tmp 30, .val false [.int .i64 p15]), (.tmp 31, .val false [.int .i64 p16])]
def d4i (m0 m1 : Nat) (p0 p1 p2 : Int) (p3 : List a0a) (p4 p5 p6 : Int) (p7 : List a0a) (p8 p9 p10 p11 p12 p13 p14 p15 p16 : Int) (p17 : List a0a) (p18 p19 p20 : Int) : Option (a1y a7i) := a2h b8a b9f a7i b2s 8 [m0, m1] [(.ver, .num 1), (.box 1, .box 0 false [.int .i64 p0, .int .i64 p1, .int .i64 p2, .imm a0e p3 (some 3)]), (.box 2, .box 0 false [.int .i64 p4, .int .i64 p5, .int .i64 p6, .own 55 a0e 0 p7]), (.box 4, .box 0 false [.int .i64 p8, .int .i64 p9, .int .i64 p10]), (.box 5, .box 0 false [.int .i64 p11, .int .i64 p12, .int .i64 p13]), (.box 7, .box 0 false [.int .i64 p14, .int .i64 p15, .int .i64 p16]), (.tmp 1, .val false [.addr 1 0 0]), (.tmp 2, .val false [.addr 2 0 0]), (.tmp 4, .val false [.addr 4 0 0]), (.tmp 5, .val false [.addr 5 0 0]), (.tmp 7, .val false [.addr 7 0 0]), (.tmp 29, .val false [.imm a0e p17 (some 3)]), (.tmp 30, .val false [.int .i64 p18]), (.tmp 31, .val false [.int .i64 p19]), (.tmp 35, .val false [.int .i64 p20])]
def a2j : g2t := hid (a1g b8a b9f c3w a7i b2s)
theorem e5h : a2j = a1g b8a b9f c3w a7i b2s := a0d _
def e2t : Contract := ⟨c3w, a7i, b2s, a2j⟩
theorem g6r : Sound Tryz.prog GG 36 e2t := by
 unfold e2t; rw [e5h]
 exact mkS Tryz.f36 ⟨d0v, b7f, e0v, f6x, trivial⟩ trivial
def a6w := hid (d4p)
theorem b9z : a6w = d4p := a0d _
def a3k := hid (d4i)
theorem d4l : a3k = d4i := a0d _
theorem g4t (a0 : a0b) : a2j (a0, ()) =
 Option.bind (a6p (a0, ())) fun r0 =>
 bif !r0.1 then
 some ((0, (0, (0, (([] : List a0a), ())))), false, ())
 else
 bif decide ((List.length a0.2.2.2.1 : Int) = 0) then
 some ((0, (0, (0, (([] : List a0a), ())))), false, ())
 else
 bif inB 0 (List.length a0.2.2.2.1) then
 bif inB 0 (List.length a0.2.2.2.1) then
 a6w N a0.1 a0.2.1 a0.2.2.1 a0.2.2.2.1 0 0 0 ([] : List a0a) (((nth a0e a0.2.2.2.1 0)).1) ((((nth a0e a0.2.2.2.1 0)).2).1) (((((nth a0e a0.2.2.2.1 0)).2).2).1) (((nth a0e a0.2.2.2.1 0)).1) ((((nth a0e a0.2.2.2.1 0)).2).1) (((((nth a0e a0.2.2.2.1 0)).2).2).1) a0.2.2.2.1 (List.length a0.2.2.2.1 : Int) 0
 else none
 else none := by
 rewrite [e5h, b9z]
 kernel_rfl
theorem f8l (m0 : Nat) (p0 p1 p2 : Int) (p3 : List a0a) (p4 p5 p6 : Int) (p7 : List a0a) (p8 p9 p10 p11 p12 p13 : Int) (p14 : List a0a) (p15 p16 : Int) : a6w (m0 + 1) p0 p1 p2 p3 p4 p5 p6 p7 p8 p9 p10 p11 p12 p13 p14 p15 p16 =
 bif decide (p16 < p15) then
 bif inB p16 (List.length p14) then
 a3k m0 N p0 p1 p2 p3 p4 p5 p6 p7 p8 p9 p10 p11 p12 p13 (((nth a0e p14 p16)).1) ((((nth a0e p14 p16)).2).1) (((((nth a0e p14 p16)).2).2).1) p14 p15 p16 0
 else none
 else
 Option.bind (a1w ((p11, (p12, (p13, ()))), ((IntKind.wrap .i64 (0 - p8)), ((IntKind.wrap .i64 (0 - p9)), ((IntKind.wrap .i64 (0 - p10)), ()))), ())) fun r1 =>
 Option.bind (a1w (r1.1, (1, (1, (1, ()))), ())) fun r2 =>
 Option.bind (a6u ((p0, (p1, (p2, (p3, ())))), r2.1, (fun (y : a0a × Unit) => a9c (y.1, ((IntKind.wrap .i64 (0 - p8)), ((IntKind.wrap .i64 (0 - p9)), ((IntKind.wrap .i64 (0 - p10)), ()))), ())), ())) fun r3 =>
 some (r3.1, true, ()) := by
 rewrite [b9z, d4l]
 kernel_rfl
theorem b3e (m0 m1 : Nat) (p0 p1 p2 : Int) (p3 : List a0a) (p4 p5 p6 : Int) (p7 : List a0a) (p8 p9 p10 p11 p12 p13 p14 p15 p16 : Int) (p17 : List a0a) (p18 p19 p20 : Int) : a3k m0 (m1 + 1) p0 p1 p2 p3 p4 p5 p6 p7 p8 p9 p10 p11 p12 p13 p14 p15 p16 p17 p18 p19 p20 =
 bif decide (p20 < 3) then
 bif inB p20 3 then
 bif inB p20 3 then
 bif inB p20 3 then
 bif inB p20 3 then
 bif inB p20 3 then
 bif inB p20 3 then
 a3k m0 m1 p0 p1 p2 p3 p4 p5 p6 p7 (bif decide (p20 = (0 : Int)) then (bif decide ((bif decide (p20 = (0 : Int)) then p14 else (bif decide (p20 = (1 : Int)) then p15 else p16)) < (bif decide (p20 = (0 : Int)) then p8 else (bif decide (p20 = (1 : Int)) then p9 else p10))) then (bif decide (p20 = (0 : Int)) then p14 else (bif decide (p20 = (1 : Int)) then p15 else p16)) else (bif decide (p20 = (0 : Int)) then p8 else (bif decide (p20 = (1 : Int)) then p9 else p10))) else p8) (bif decide (p20 = (1 : Int)) then (bif decide ((bif decide (p20 = (0 : Int)) then p14 else (bif decide (p20 = (1 : Int)) then p15 else p16)) < (bif decide (p20 = (0 : Int)) then p8 else (bif decide (p20 = (1 : Int)) then p9 else p10))) then (bif decide (p20 = (0 : Int)) then p14 else (bif decide (p20 = (1 : Int)) then p15 else p16)) else (bif decide (p20 = (0 : Int)) then p8 else (bif decide (p20 = (1 : Int)) then p9 else p10))) else p9) (bif decide (p20 = (2 : Int)) then (bif decide ((bif decide (p20 = (0 : Int)) then p14 else (bif decide (p20 = (1 : Int)) then p15 else p16)) < (bif decide (p20 = (0 : Int)) then p8 else (bif decide (p20 = (1 : Int)) then p9 else p10))) then (bif decide (p20 = (0 : Int)) then p14 else (bif decide (p20 = (1 : Int)) then p15 else p16)) else (bif decide (p20 = (0 : Int)) then p8 else (bif decide (p20 = (1 : Int)) then p9 else p10))) else p10) (bif decide (p20 = (0 : Int)) then (bif decide ((bif decide (p20 = (0 : Int)) then p14 else (bif decide (p20 = (1 : Int)) then p15 else p16)) > (bif decide (p20 = (0 : Int)) then p11 else (bif decide (p20 = (1 : Int)) then p12 else p13))) then (bif decide (p20 = (0 : Int)) then p14 else (bif decide (p20 = (1 : Int)) then p15 else p16)) else (bif decide (p20 = (0 : Int)) then p11 else (bif decide (p20 = (1 : Int)) then p12 else p13))) else p11) (bif decide (p20 = (1 : Int)) then (bif decide ((bif decide (p20 = (0 : Int)) then p14 else (bif decide (p20 = (1 : Int)) then p15 else p16)) > (bif decide (p20 = (0 : Int)) then p11 else (bif decide (p20 = (1 : Int)) then p12 else p13))) then (bif decide (p20 = (0 : Int)) then p14 else (bif decide (p20 = (1 : Int)) then p15 else p16)) else (bif decide (p20 = (0 : Int)) then p11 else (bif decide (p20 = (1 : Int)) then p12 else p13))) else p12) (bif decide (p20 = (2 : Int)) then (bif decide ((bif decide (p20 = (0 : Int)) then p14 else (bif decide (p20 = (1 : Int)) then p15 else p16)) > (bif decide (p20 = (0 : Int)) then p11 else (bif decide (p20 = (1 : Int)) then p12 else p13))) then (bif decide (p20 = (0 : Int)) then p14 else (bif decide (p20 = (1 : Int)) then p15 else p16)) else (bif decide (p20 = (0 : Int)) then p11 else (bif decide (p20 = (1 : Int)) then p12 else p13))) else p13) p14 p15 p16 p17 p18 p19 (IntKind.wrap .i64 (p20 + 1))
 else none
 else none
 else none
 else none
 else none
 else none
 else
 a6w m0 p0 p1 p2 p3 p4 p5 p6 p7 p8 p9 p10 p11 p12 p13 p17 p18 (IntKind.wrap .i64 (p19 + 1)) := by
 rewrite [b9z, d4l]
 kernel_rfl
abbrev c8q : List ATy := [.data true a0e, .ptr a1h, .ptr a0e]
abbrev b4q : List (Bool × Ty) := [(true, a0e)]
abbrev c1d : List RMode := []
abbrev g7d : Type := a0a × a0c × a0a × Unit → Option (a0a × Unit)
def d3e : Ctx := { types := TT, globals := [], con := [], keep := [(3, ⟨[.box 3, .box 4, .box 5, .tmp 1, .tmp 2, .tmp 3, .tmp 4, .tmp 5, .tmp 10, .tmp 11], []⟩)], results := [.cell 4 55], ntmps := 37, n := N }
def d1r : Code := (Tryz.f114.body).getD .skip
def d9i (m0 : Nat) (p0 p1 p2 p3 p4 p5 p6 p7 p8 : Int) (p9 : a0c) (p10 : a0a) (p11 p12 p13 p14 : Int) : Option (a1y b4q) := a2h d3e d1r b4q c1d 3 [m0] [(.ver, .num 1), (.box 3, .box 0 false [.int .i64 p0, .int .i64 p1, .int .i64 p2]), (.box 4, .box 0 false [.int .i64 p3, .int .i64 p4, .int .i64 p5]), (.box 5, .box 0 false [.int .i64 p6, .int .i64 p7, .int .i64 p8]), (.tmp 1, .val false [.iptr a1h p9 0]), (.tmp 2, .val false [.iptr a0e p10 0]), (.tmp 3, .val false [.addr 3 0 0]), (.tmp 4, .val false [.addr 4 0 0]), (.tmp 5, .val false [.addr 5 0 0]), (.tmp 10, .val true [.int .i64 p11, .int .i64 p12, .int .i64 p13]), (.tmp 11, .val false [.int .i64 p14])]
def a8v : g7d := hid (a1g d3e d1r c8q b4q c1d)
theorem e7h : a8v = a1g d3e d1r c8q b4q c1d := a0d _
def d2z : Contract := ⟨c8q, b4q, c1d, a8v⟩
theorem h0b : Sound Tryz.prog GG 114 d2z := by
 unfold d2z; rw [e7h]
 exact mkS Tryz.f114 trivial trivial
def a1z := hid (d9i)
theorem d8y : a1z = d9i := a0d _
theorem h0n (a0 : a0a) (a1 : a0c) (a2 : a0a) : a8v (a0, a1, a2, ()) =
 a1z N a0.1 a0.2.1 a0.2.2.1 0 0 0 0 0 0 a1 a2 a1.1.1 a1.1.2.1 a1.1.2.2.1 0 := by
 rewrite [e7h, d8y]
 kernel_rfl
theorem b5l (m0 : Nat) (p0 p1 p2 p3 p4 p5 p6 p7 p8 : Int) (p9 : a0c) (p10 : a0a) (p11 p12 p13 p14 : Int) : a1z (m0 + 1) p0 p1 p2 p3 p4 p5 p6 p7 p8 p9 p10 p11 p12 p13 p14 =
 bif decide (p14 < 3) then
 bif inB p14 3 then
 bif inB (bif decide (p14 = (0 : Int)) then p11 else (bif decide (p14 = (1 : Int)) then p12 else p13)) 3 then
 bif inB p14 3 then
 bif inB p14 3 then
 bif decide ((bif decide (p14 = (0 : Int)) then p9.2.1.1 else (bif decide (p14 = (1 : Int)) then p9.2.1.2.1 else p9.2.1.2.2.1)) = 1) then
 bif inB p14 3 then
 bif inB (bif decide (p14 = (0 : Int)) then p11 else (bif decide (p14 = (1 : Int)) then p12 else p13)) 3 then
 bif inB p14 3 then
 a1z m0 p0 p1 p2 p3 p4 p5 (bif decide (p14 = (0 : Int)) then (IntKind.wrap .i64 ((IntKind.wrap .i64 ((bif decide (p14 = (0 : Int)) then p10.1 else (bif decide (p14 = (1 : Int)) then p10.2.1 else p10.2.2.1)) - 1)) - (bif decide ((bif decide (p14 = (0 : Int)) then p11 else (bif decide (p14 = (1 : Int)) then p12 else p13)) = (0 : Int)) then p0 else (bif decide ((bif decide (p14 = (0 : Int)) then p11 else (bif decide (p14 = (1 : Int)) then p12 else p13)) = (1 : Int)) then p1 else p2)))) else (bif decide (p14 = (0 : Int)) then (bif decide ((bif decide (p14 = (0 : Int)) then p11 else (bif decide (p14 = (1 : Int)) then p12 else p13)) = (0 : Int)) then p0 else (bif decide ((bif decide (p14 = (0 : Int)) then p11 else (bif decide (p14 = (1 : Int)) then p12 else p13)) = (1 : Int)) then p1 else p2)) else p6)) (bif decide (p14 = (1 : Int)) then (IntKind.wrap .i64 ((IntKind.wrap .i64 ((bif decide (p14 = (0 : Int)) then p10.1 else (bif decide (p14 = (1 : Int)) then p10.2.1 else p10.2.2.1)) - 1)) - (bif decide ((bif decide (p14 = (0 : Int)) then p11 else (bif decide (p14 = (1 : Int)) then p12 else p13)) = (0 : Int)) then p0 else (bif decide ((bif decide (p14 = (0 : Int)) then p11 else (bif decide (p14 = (1 : Int)) then p12 else p13)) = (1 : Int)) then p1 else p2)))) else (bif decide (p14 = (1 : Int)) then (bif decide ((bif decide (p14 = (0 : Int)) then p11 else (bif decide (p14 = (1 : Int)) then p12 else p13)) = (0 : Int)) then p0 else (bif decide ((bif decide (p14 = (0 : Int)) then p11 else (bif decide (p14 = (1 : Int)) then p12 else p13)) = (1 : Int)) then p1 else p2)) else p7)) (bif decide (p14 = (2 : Int)) then (IntKind.wrap .i64 ((IntKind.wrap .i64 ((bif decide (p14 = (0 : Int)) then p10.1 else (bif decide (p14 = (1 : Int)) then p10.2.1 else p10.2.2.1)) - 1)) - (bif decide ((bif decide (p14 = (0 : Int)) then p11 else (bif decide (p14 = (1 : Int)) then p12 else p13)) = (0 : Int)) then p0 else (bif decide ((bif decide (p14 = (0 : Int)) then p11 else (bif decide (p14 = (1 : Int)) then p12 else p13)) = (1 : Int)) then p1 else p2)))) else (bif decide (p14 = (2 : Int)) then (bif decide ((bif decide (p14 = (0 : Int)) then p11 else (bif decide (p14 = (1 : Int)) then p12 else p13)) = (0 : Int)) then p0 else (bif decide ((bif decide (p14 = (0 : Int)) then p11 else (bif decide (p14 = (1 : Int)) then p12 else p13)) = (1 : Int)) then p1 else p2)) else p8)) p9 p10 p11 p12 p13 (IntKind.wrap .i64 (p14 + 1))
 else none
 else none
 else none
 else
 a1z m0 p0 p1 p2 p3 p4 p5 (bif decide (p14 = (0 : Int)) then (bif decide ((bif decide (p14 = (0 : Int)) then p11 else (bif decide (p14 = (1 : Int)) then p12 else p13)) = (0 : Int)) then p0 else (bif decide ((bif decide (p14 = (0 : Int)) then p11 else (bif decide (p14 = (1 : Int)) then p12 else p13)) = (1 : Int)) then p1 else p2)) else p6) (bif decide (p14 = (1 : Int)) then (bif decide ((bif decide (p14 = (0 : Int)) then p11 else (bif decide (p14 = (1 : Int)) then p12 else p13)) = (0 : Int)) then p0 else (bif decide ((bif decide (p14 = (0 : Int)) then p11 else (bif decide (p14 = (1 : Int)) then p12 else p13)) = (1 : Int)) then p1 else p2)) else p7) (bif decide (p14 = (2 : Int)) then (bif decide ((bif decide (p14 = (0 : Int)) then p11 else (bif decide (p14 = (1 : Int)) then p12 else p13)) = (0 : Int)) then p0 else (bif decide ((bif decide (p14 = (0 : Int)) then p11 else (bif decide (p14 = (1 : Int)) then p12 else p13)) = (1 : Int)) then p1 else p2)) else p8) p9 p10 p11 p12 p13 (IntKind.wrap .i64 (p14 + 1))
 else none
 else none
 else none
 else none
 else
 some ((p6, (p7, (p8, ()))), ()) := by
 rewrite [d8y]
 kernel_rfl
abbrev d8p : List ATy := [.data true a1h, .data true a0f]
abbrev e1l : List (Bool × Ty) := [(true, a0f)]
abbrev e4x : List RMode := [.own 55]
abbrev h4h : Type := a0c × a0b × Unit → Option (a0b × Unit)
def f9f : Ctx := { types := TT, globals := [], con := [(57, a9e), (81, c2l), (114, d2z)], keep := [], results := [.cell 4 29], ntmps := 29, n := N }
def g0u : Code := (Tryz.f84.body).getD .skip
def a4v : h4h := hid (a1g f9f g0u d8p e1l e4x)
theorem g0d : a4v = a1g f9f g0u d8p e1l e4x := a0d _
def g0i : Contract := ⟨d8p, e1l, e4x, a4v⟩
theorem h9f : Sound Tryz.prog GG 84 g0i := by
 unfold g0i; rw [g0d]
 exact mkS Tryz.f84 ⟨b3p, e0v, h0b, trivial⟩ trivial
theorem h9z (a0 : a0c) (a1 : a0b) : a4v (a0, a1, ()) =
 Option.bind (a3n (a1, ())) fun r0 =>
 bif inB a0.1.1 3 then
 bif inB a0.1.2.1 3 then
 bif inB a0.1.2.2.1 3 then
 Option.bind (a6u (a1, ((bif decide (a0.1.1 = (0 : Int)) then r0.1.1 else (bif decide (a0.1.1 = (1 : Int)) then r0.1.2.1 else r0.1.2.2.1)), ((bif decide (a0.1.2.1 = (0 : Int)) then r0.1.1 else (bif decide (a0.1.2.1 = (1 : Int)) then r0.1.2.1 else r0.1.2.2.1)), ((bif decide (a0.1.2.2.1 = (0 : Int)) then r0.1.1 else (bif decide (a0.1.2.2.1 = (1 : Int)) then r0.1.2.1 else r0.1.2.2.1)), ()))), (fun (y : a0a × Unit) => a8v (y.1, a0, ((bif decide (a0.1.1 = (0 : Int)) then r0.1.1 else (bif decide (a0.1.1 = (1 : Int)) then r0.1.2.1 else r0.1.2.2.1)), ((bif decide (a0.1.2.1 = (0 : Int)) then r0.1.1 else (bif decide (a0.1.2.1 = (1 : Int)) then r0.1.2.1 else r0.1.2.2.1)), ((bif decide (a0.1.2.2.1 = (0 : Int)) then r0.1.1 else (bif decide (a0.1.2.2.1 = (1 : Int)) then r0.1.2.1 else r0.1.2.2.1)), ()))), ())), ())) fun r4 =>
 some (r4.1, ())
 else none
 else none
 else none := by
 rewrite [g0d]
 kernel_rfl
abbrev b9b : List ATy := [.data true a0f, .data false (.int .i64)]
abbrev a9t : List (Bool × Ty) := [(true, a0f)]
abbrev b3f : List RMode := [.own 55]
abbrev f6v : Type := a0b × Int × Unit → Option (a0b × Unit)
def c0n : Ctx := { types := TT, globals := [], con := [(68, a2c), (70, b7q), (71, b0e)], keep := [(3, ⟨[.box 2, .box 4, .box 5, .tmp 1, .tmp 2, .tmp 4, .tmp 5, .tmp 6], []⟩)], results := [.cell 4 29], ntmps := 41, n := N }
def c0l : Code := (Tryz.f100.body).getD .skip
def c8m (m0 : Nat) (p0 p1 p2 : Int) (p3 : List a0a) (p4 p5 p6 : Int) (p7 : List a0a) (p8 p9 p10 : Int) (p11 : List a0a) (p12 p13 : Int) : Option (a1y a9t) := a2h c0n c0l a9t b3f 3 [m0] [(.ver, .num 1), (.box 2, .box 0 false [.int .i64 p0, .int .i64 p1, .int .i64 p2, .imm a0e p3 (some 3)]), (.box 4, .box 0 false [.int .i64 p4, .int .i64 p5, .int .i64 p6, .own 55 a0e 0 p7]), (.box 5, .box 0 false [.int .i64 p8, .int .i64 p9, .int .i64 p10, .own 55 a0e 0 p11]), (.tmp 1, .val false [.int .i64 p12]), (.tmp 2, .val false [.addr 2 0 0]), (.tmp 4, .val false [.addr 4 0 0]), (.tmp 5, .val false [.addr 5 0 0]), (.tmp 6, .val false [.int .i64 p13])]
def a9m : f6v := hid (a1g c0n c0l b9b a9t b3f)
theorem d5d : a9m = a1g c0n c0l b9b a9t b3f := a0d _
def c0t : Contract := ⟨b9b, a9t, b3f, a9m⟩
theorem f7s : Sound Tryz.prog GG 100 c0t := by
 unfold c0t; rw [d5d]
 exact mkS Tryz.f100 ⟨a2v, d6m, b7a, trivial⟩ trivial
def a4m := hid (c8m)
theorem c8w : a4m = c8m := a0d _
theorem f7d (a0 : a0b) (a1 : Int) : a9m (a0, a1, ()) =
 Option.bind (a1l (a0.1, a0.2.1, a0.2.2.1, ())) fun r0 =>
 a4m N a0.1 a0.2.1 a0.2.2.1 a0.2.2.2.1 0 0 0 ([] : List a0a) r0.1.1 r0.1.2.1 r0.1.2.2.1 r0.1.2.2.2.1 a1 0 := by
 rewrite [d5d, c8w]
 kernel_rfl
theorem f1p (m0 : Nat) (p0 p1 p2 : Int) (p3 : List a0a) (p4 p5 p6 : Int) (p7 : List a0a) (p8 p9 p10 : Int) (p11 : List a0a) (p12 p13 : Int) : a4m (m0 + 1) p0 p1 p2 p3 p4 p5 p6 p7 p8 p9 p10 p11 p12 p13 =
 bif decide (p13 < (List.length p3 : Int)) then
 bif inB p13 (List.length p3) then
 Option.bind (a1e ((p0, (p1, (p2, (p3, ())))), p12, ())) fun r2 =>
 bif inB p12 3 then
 bif inB p12 3 then
 Option.bind (a4s ((p8, (p9, (p10, (p11, ())))), ((bif decide (p12 = (0 : Int)) then (IntKind.wrap .i64 ((IntKind.wrap .i64 (r2.1 - 1)) - (bif decide (p12 = (0 : Int)) then ((nth a0e p3 p13)).1 else (bif decide (p12 = (1 : Int)) then (((nth a0e p3 p13)).2).1 else ((((nth a0e p3 p13)).2).2).1)))) else ((nth a0e p3 p13)).1), ((bif decide (p12 = (1 : Int)) then (IntKind.wrap .i64 ((IntKind.wrap .i64 (r2.1 - 1)) - (bif decide (p12 = (0 : Int)) then ((nth a0e p3 p13)).1 else (bif decide (p12 = (1 : Int)) then (((nth a0e p3 p13)).2).1 else ((((nth a0e p3 p13)).2).2).1)))) else (((nth a0e p3 p13)).2).1), ((bif decide (p12 = (2 : Int)) then (IntKind.wrap .i64 ((IntKind.wrap .i64 (r2.1 - 1)) - (bif decide (p12 = (0 : Int)) then ((nth a0e p3 p13)).1 else (bif decide (p12 = (1 : Int)) then (((nth a0e p3 p13)).2).1 else ((((nth a0e p3 p13)).2).2).1)))) else ((((nth a0e p3 p13)).2).2).1), ()))), ())) fun r5 =>
 a4m m0 p0 p1 p2 p3 p4 p5 p6 p7 r5.1.1 r5.1.2.1 r5.1.2.2.1 r5.1.2.2.2.1 p12 (IntKind.wrap .i64 (p13 + 1))
 else none
 else none
 else none
 else
 some ((p8, (p9, (p10, (p11, ())))), ()) := by
 rewrite [c8w]
 kernel_rfl
abbrev c3l : List ATy := [.data true a0f]
abbrev c6c : List (Bool × Ty) := [(false, .bool)]
abbrev c8b : List RMode := []
abbrev g2e : Type := a0b × Unit → Option (Bool × Unit)
def e1x : Ctx := { types := TT, globals := [], con := [(33, b4y), (79, c5e), (100, c0t)], keep := [], results := [.tmp 2], ntmps := 10, n := N }
def e1s : Code := (Tryz.f54.body).getD .skip
def b2p : g2e := hid (a1g e1x e1s c3l c6c c8b)
theorem e3g : b2p = a1g e1x e1s c3l c6c c8b := a0d _
def c6g : Contract := ⟨c3l, c6c, c8b, b2p⟩
theorem g6i : Sound Tryz.prog GG 54 c6g := by
 unfold c6g; rw [e3g]
 exact mkS Tryz.f54 ⟨d2g, f6p, f7s, trivial⟩ trivial
theorem g7i (a0 : a0b) : b2p (a0, ()) =
 Option.bind (a9m (a0, 0, ())) fun r0 =>
 Option.bind (a3q (r0.1, ())) fun r1 =>
 Option.bind (a3q (a0, ())) fun r2 =>
 Option.bind (a8a (r1.1, r2.1, ())) fun r3 =>
 some (!r3.1, ()) := by
 rewrite [e3g]
 kernel_rfl
abbrev b5n : List ATy := [.data false (.int .i64)]
abbrev a8f : List (Bool × Ty) := [(false, (.int .i64)), (false, .bool)]
abbrev b1w : List RMode := []
abbrev e9x : Type := Int × Unit → Option (Int × Bool × Unit)
def b8b : Ctx := { types := TT, globals := [], con := [(51, b9p), (52, c1q), (54, c6g)], keep := [(5, ⟨[.tmp 4, .tmp 5, .tmp 6], []⟩)], results := [.tmp 2, .tmp 3], ntmps := 26, n := N }
def b7s : Code := (Tryz.f19.body).getD .skip
def c4l (m0 : Nat) (p0 : Int) (p1 : List a0b) (p2 : Int) : Option (a1y a8f) := a2h b8b b7s a8f b1w 5 [m0] [(.ver, .num 1), (.tmp 4, .val false [.int .i64 p0]), (.tmp 5, .val false [.imm a0f p1 none]), (.tmp 6, .val false [.int .i64 p2])]
def a5p : e9x := hid (a1g b8b b7s b5n a8f b1w)
theorem d0y : a5p = a1g b8b b7s b5n a8f b1w := a0d _
def b8z : Contract := ⟨b5n, a8f, b1w, a5p⟩
theorem f5b : Sound Tryz.prog GG 19 b8z := by
 unfold b8z; rw [d0y]
 exact mkS Tryz.f19 ⟨d6i, e8t, g6i, trivial⟩ trivial
def a3y := hid (c4l)
theorem c4f : a3y = c4l := a0d _
theorem c9z (a0 : Int) : a5p (a0, ()) =
 Option.bind (a6e (a0, 1, 4, ())) fun r0 =>
 bif !r0.1 then
 some (0, false, ())
 else
 Option.bind (b1i (a0, ())) fun r2 =>
 a3y N 0 r2.1 0 := by
 rewrite [d0y, c4f]
 kernel_rfl
theorem e6w (m0 : Nat) (p0 : Int) (p1 : List a0b) (p2 : Int) : a3y (m0 + 1) p0 p1 p2 =
 bif decide (p2 < (List.length p1 : Int)) then
 bif inB p2 (List.length p1) then
 Option.bind (b2p ((nth a0f p1 p2), ())) fun r2 =>
 bif r2.1 then
 a3y m0 (IntKind.wrap .i64 (p0 + 1)) p1 (IntKind.wrap .i64 (p2 + 1))
 else
 a3y m0 p0 p1 (IntKind.wrap .i64 (p2 + 1))
 else none
 else
 some (p0, true, ()) := by
 rewrite [c4f]
 kernel_rfl
abbrev f0r : List ATy := [.data true a0e, .data true a0e]
abbrev c0h : List (Bool × Ty) := [(false, (.int .u64))]
abbrev d3s : List RMode := []
abbrev i2m : Type := a0a × a0a × Unit → Option (Int × Unit)
def e5t : Ctx := { types := TT, globals := [], con := [(86, c0r), (102, f3p)], keep := [(3, ⟨[.box 2, .box 3, .tmp 2, .tmp 3, .tmp 5, .tmp 10], []⟩), (6, ⟨[.box 2, .box 3, .tmp 2, .tmp 3, .tmp 5, .tmp 6, .tmp 10, .tmp 13, .tmp 14], []⟩)], results := [.tmp 4], ntmps := 36, n := N }
def e6b : Code := (Tryz.f125.body).getD .skip
def f9y (m0 : Nat) (p0 p1 p2 p3 p4 p5 p6 p7 : Int) : Option (a1y c0h) := a2h e5t e6b c0h d3s 3 [m0] [(.ver, .num 1), (.box 2, .box 0 false [.int .i64 p0, .int .i64 p1, .int .i64 p2]), (.box 3, .box 0 false [.int .i64 p3, .int .i64 p4, .int .i64 p5]), (.tmp 2, .val false [.addr 2 0 0]), (.tmp 3, .val false [.addr 3 0 0]), (.tmp 5, .val false [.int .u64 p6]), (.tmp 10, .val false [.int .i64 p7])]
def f9z (m0 m1 : Nat) (p0 p1 p2 p3 p4 p5 p6 p7 p8 p9 p10 p11 : Int) : Option (a1y c0h) := a2h e5t e6b c0h d3s 6 [m0, m1] [(.ver, .num 1), (.box 2, .box 0 false [.int .i64 p0, .int .i64 p1, .int .i64 p2]), (.box 3, .box 0 false [.int .i64 p3, .int .i64 p4, .int .i64 p5]), (.tmp 2, .val false [.addr 2 0 0]), (.tmp 3, .val false [.addr 3 0 0]), (.tmp 5, .val false [.int .u64 p6]), (.tmp 6, .val false [.int .i64 p7]), (.tmp 10, .val false [.int .i64 p8]), (.tmp 13, .val true [.int .i64 p9, .int .i64 p10]), (.tmp 14, .val false [.int .i64 p11])]
def d3x : i2m := hid (a1g e5t e6b f0r c0h d3s)
theorem h1h : d3x = a1g e5t e6b f0r c0h d3s := a0d _
def f8r : Contract := ⟨f0r, c0h, d3s, d3x⟩
theorem i7x : Sound Tryz.prog GG 125 f8r := by
 unfold f8r; rw [h1h]
 exact mkS Tryz.f125 ⟨d7u, h8d, trivial⟩ trivial
def a6t := hid (f9y)
theorem e2o : a6t = f9y := a0d _
def a8g := hid (f9z)
theorem f9d : a8g = f9z := a0d _
theorem i8b (a0 a1 : a0a) : d3x (a0, a1, ()) =
 a6t N a0.1 a0.2.1 a0.2.2.1 a1.1 a1.2.1 a1.2.2.1 0 0 := by
 rewrite [h1h, e2o]
 kernel_rfl
theorem g1n (m0 : Nat) (p0 p1 p2 p3 p4 p5 p6 p7 : Int) : a6t (m0 + 1) p0 p1 p2 p3 p4 p5 p6 p7 =
 bif decide (p7 < 3) then
 a8g m0 N p0 p1 p2 p3 p4 p5 p6 p7 p7 (-1) 1 0
 else
 some (p6, ()) := by
 rewrite [e2o, f9d]
 kernel_rfl
theorem g1c (m0 m1 : Nat) (p0 p1 p2 p3 p4 p5 p6 p7 p8 p9 p10 p11 : Int) : a8g m0 (m1 + 1) p0 p1 p2 p3 p4 p5 p6 p7 p8 p9 p10 p11 =
 bif decide (p11 < 2) then
 bif inB p11 2 then
 bif inB p7 3 then
 bif inB p7 3 then
 Option.bind (d3o ((p0, (p1, (p2, ()))), ((bif decide (p7 = (0 : Int)) then (IntKind.wrap .i64 ((bif decide (p7 = (0 : Int)) then p3 else (bif decide (p7 = (1 : Int)) then p4 else p5)) + (bif decide (p11 = (0 : Int)) then p9 else p10))) else p3), ((bif decide (p7 = (1 : Int)) then (IntKind.wrap .i64 ((bif decide (p7 = (0 : Int)) then p3 else (bif decide (p7 = (1 : Int)) then p4 else p5)) + (bif decide (p11 = (0 : Int)) then p9 else p10))) else p4), ((bif decide (p7 = (2 : Int)) then (IntKind.wrap .i64 ((bif decide (p7 = (0 : Int)) then p3 else (bif decide (p7 = (1 : Int)) then p4 else p5)) + (bif decide (p11 = (0 : Int)) then p9 else p10))) else p5), ()))), ())) fun r4 =>
 bif r4.1 then
 Option.bind (b2q ((p0, (p1, (p2, ()))), ((bif decide (p7 = (0 : Int)) then (IntKind.wrap .i64 ((bif decide (p7 = (0 : Int)) then p3 else (bif decide (p7 = (1 : Int)) then p4 else p5)) + (bif decide (p11 = (0 : Int)) then p9 else p10))) else p3), ((bif decide (p7 = (1 : Int)) then (IntKind.wrap .i64 ((bif decide (p7 = (0 : Int)) then p3 else (bif decide (p7 = (1 : Int)) then p4 else p5)) + (bif decide (p11 = (0 : Int)) then p9 else p10))) else p4), ((bif decide (p7 = (2 : Int)) then (IntKind.wrap .i64 ((bif decide (p7 = (0 : Int)) then p3 else (bif decide (p7 = (1 : Int)) then p4 else p5)) + (bif decide (p11 = (0 : Int)) then p9 else p10))) else p5), ()))), ())) fun r6 =>
 bif decide ((0 : Int) ≤ r6.1) then
 a8g m0 m1 p0 p1 p2 p3 p4 p5 (intBits .or .u64 p6 (j4u .u64 1 r6.1)) p7 p8 p9 p10 (IntKind.wrap .i64 (p11 + 1))
 else none
 else
 a8g m0 m1 p0 p1 p2 p3 p4 p5 p6 p7 p8 p9 p10 (IntKind.wrap .i64 (p11 + 1))
 else none
 else none
 else none
 else
 a6t m0 p0 p1 p2 p3 p4 p5 p6 (IntKind.wrap .i64 (p8 + 1)) := by
 rewrite [e2o, f9d]
 kernel_rfl
abbrev e4k : List ATy := [.data true a0e, .data false (.int .u64), .data false (.int .u64)]
abbrev b6e : List (Bool × Ty) := [(false, (.int .u64))]
abbrev c6z : List RMode := []
abbrev h9t : Type := a0a × Int × Int × Unit → Option (Int × Unit)
def d6c : Ctx := { types := TT, globals := [], con := [(105, e5u), (106, f5f), (107, e6d), (125, f8r)], keep := [(1, ⟨[.box 3, .tmp 1, .tmp 2, .tmp 3], []⟩), (3, ⟨[.box 3, .tmp 1, .tmp 2, .tmp 3, .tmp 7, .tmp 11, .tmp 12], []⟩)], results := [.tmp 6], ntmps := 33, n := N }
def d8h : Code := (Tryz.f104.body).getD .skip
def f4r (m0 : Nat) (p0 p1 p2 p3 p4 : Int) : Option (a1y b6e) := a2h d6c d8h b6e c6z 1 [m0] [(.ver, .num 1), (.box 3, .box 0 false [.int .i64 p0, .int .i64 p1, .int .i64 p2]), (.tmp 1, .val false [.int .u64 p3]), (.tmp 2, .val false [.int .u64 p4]), (.tmp 3, .val false [.addr 3 0 0])]
def f6n (m0 m1 : Nat) (p0 p1 p2 p3 p4 p5 p6 p7 : Int) : Option (a1y b6e) := a2h d6c d8h b6e c6z 3 [m0, m1] [(.ver, .num 1), (.box 3, .box 0 false [.int .i64 p0, .int .i64 p1, .int .i64 p2]), (.tmp 1, .val false [.int .u64 p3]), (.tmp 2, .val false [.int .u64 p4]), (.tmp 3, .val false [.addr 3 0 0]), (.tmp 7, .val false [.int .u64 p5]), (.tmp 11, .val false [.int .i64 p6]), (.tmp 12, .val false [.int .i64 p7])]
def c7p : h9t := hid (a1g d6c d8h e4k b6e c6z)
theorem g5j : c7p = a1g d6c d8h e4k b6e c6z := a0d _
def e9s : Contract := ⟨e4k, b6e, c6z, c7p⟩
theorem i4c : Sound Tryz.prog GG 104 e9s := by
 unfold e9s; rw [g5j]
 exact mkS Tryz.f104 ⟨h2o, h7w, h1n, i7x, trivial⟩ trivial
def a8l := hid (f4r)
theorem d7z : a8l = f4r := a0d _
def b3b := hid (f6n)
theorem f5l : b3b = f6n := a0d _
theorem i2i (a0 : a0a) (a1 a2 : Int) : c7p (a0, a1, a2, ()) =
 a8l N a0.1 a0.2.1 a0.2.2.1 a1 a2 := by
 rewrite [g5j, d7z]
 kernel_rfl
theorem h6r (m0 : Nat) (p0 p1 p2 p3 p4 : Int) : a8l (m0 + 1) p0 p1 p2 p3 p4 =
 Option.bind (c5q ((p0, (p1, (p2, ()))), ())) fun r0 =>
 b3b m0 N p0 p1 p2 p3 p4 p3 r0.1 0 := by
 rewrite [d7z, f5l]
 kernel_rfl
theorem h5f (m0 m1 : Nat) (p0 p1 p2 p3 p4 p5 p6 p7 : Int) : b3b m0 (m1 + 1) p0 p1 p2 p3 p4 p5 p6 p7 =
 bif decide (p7 < p6) then
 Option.bind (d4d (p3, p7, ())) fun r1 =>
 bif r1.1 then
 Option.bind (c5s ((p0, (p1, (p2, ()))), p7, ())) fun r3 =>
 Option.bind (d3x ((p0, (p1, (p2, ()))), r3.1, ())) fun r4 =>
 b3b m0 m1 p0 p1 p2 p3 p4 (intBits .or .u64 p5 (intBits .and .u64 r4.1 p4)) p6 (IntKind.wrap .i64 (p7 + 1))
 else
 b3b m0 m1 p0 p1 p2 p3 p4 p5 p6 (IntKind.wrap .i64 (p7 + 1))
 else
 bif decide (p5 = p3) then
 some (p3, ())
 else
 a8l m0 p0 p1 p2 p5 p4 := by
 rewrite [d7z, f5l]
 kernel_rfl
abbrev e1y : List ATy := [.data true a0e, .data false (.int .u64)]
abbrev c6p : List (Bool × Ty) := [(false, (.sl (.int .u64)))]
abbrev d8r : List RMode := [.own 84]
abbrev h7x : Type := a0a × Int × Unit → Option ((List Int) × Unit)
def f1l : Ctx := { types := TT, globals := [], con := [(104, e9s)], keep := [(2, ⟨[.box 2, .tmp 1, .tmp 2, .tmp 5], []⟩)], results := [.tmp 4], ntmps := 25, n := N }
def f1v : Code := (Tryz.f58.body).getD .skip
def f6k (m0 : Nat) (p0 p1 p2 p3 : Int) (p4 : List Int) : Option (a1y c6p) := a2h f1l f1v c6p d8r 2 [m0] [(.ver, .num 1), (.box 2, .box 0 false [.int .i64 p0, .int .i64 p1, .int .i64 p2]), (.tmp 1, .val false [.int .u64 p3]), (.tmp 2, .val false [.addr 2 0 0]), (.tmp 5, .val false [.own 84 (.int .u64) 0 p4])]
def b9r : h7x := hid (a1g f1l f1v e1y c6p d8r)
theorem g5r : b9r = a1g f1l f1v e1y c6p d8r := a0d _
def d7s : Contract := ⟨e1y, c6p, d8r, b9r⟩
theorem g4f : Sound Tryz.prog GG 58 d7s := by
 unfold d7s; rw [g5r]
 exact mkS Tryz.f58 ⟨i4c, trivial⟩ trivial
def b2z := hid (f6k)
theorem f5e : b2z = f6k := a0d _
theorem g6b (a0 : a0a) (a1 : Int) : b9r (a0, a1, ()) =
 b2z N a0.1 a0.2.1 a0.2.2.1 a1 ([] : List Int) := by
 rewrite [g5r, f5e]
 kernel_rfl
theorem f3m (m0 : Nat) (p0 p1 p2 p3 : Int) (p4 : List Int) : b2z (m0 + 1) p0 p1 p2 p3 p4 =
 bif !decide (p3 = 0) then
 Option.bind (c7p ((p0, (p1, (p2, ()))), (intBits .and .u64 p3 (IntKind.wrap .u64 (0 - p3))), p3, ())) fun r1 =>
 bif (decide (((List.length p4) + (List.length ([r1.1] : List Int))) * 8 ≤ 140737488355328) && decide (((List.length p4) + (List.length ([r1.1] : List Int))) ≤ 140737488355328)) then
 b2z m0 p0 p1 p2 (intBits .andNot .u64 p3 r1.1) (p4 ++ ([r1.1] : List Int))
 else none
 else
 some (p4, ()) := by
 rewrite [f5e]
 kernel_rfl
abbrev d7b : List ATy := [.data true a0f]
abbrev c2k : List (Bool × Ty) := [(false, (.int .u64))]
abbrev d0e : List RMode := []
abbrev h3q : Type := a0b × Unit → Option (Int × Unit)
def e4r : Ctx := { types := TT, globals := [], con := [(57, a9e), (86, c0r)], keep := [(3, ⟨[.box 1, .tmp 1, .tmp 3, .tmp 7, .tmp 8, .tmp 9], []⟩)], results := [.tmp 2], ntmps := 22, n := N }
def e3h : Code := (Tryz.f59.body).getD .skip
def e7f (m0 : Nat) (p0 p1 p2 : Int) (p3 : List a0a) (p4 : Int) (p5 : List a0a) (p6 p7 : Int) : Option (a1y c2k) := a2h e4r e3h c2k d0e 3 [m0] [(.ver, .num 1), (.box 1, .box 0 false [.int .i64 p0, .int .i64 p1, .int .i64 p2, .imm a0e p3 (some 3)]), (.tmp 1, .val false [.addr 1 0 0]), (.tmp 3, .val false [.int .u64 p4]), (.tmp 7, .val false [.imm a0e p5 (some 3)]), (.tmp 8, .val false [.int .i64 p6]), (.tmp 9, .val false [.int .i64 p7])]
def b2m : h3q := hid (a1g e4r e3h d7b c2k d0e)
theorem g1m : b2m = a1g e4r e3h d7b c2k d0e := a0d _
def d0w : Contract := ⟨d7b, c2k, d0e, b2m⟩
theorem f9u : Sound Tryz.prog GG 59 d0w := by
 unfold d0w; rw [g1m]
 exact mkS Tryz.f59 ⟨b3p, d7u, trivial⟩ trivial
def b4k := hid (e7f)
theorem e8c : b4k = e7f := a0d _
theorem h9q (a0 : a0b) : b2m (a0, ()) =
 b4k N a0.1 a0.2.1 a0.2.2.1 a0.2.2.2.1 0 a0.2.2.2.1 (List.length a0.2.2.2.1 : Int) 0 := by
 rewrite [g1m, e8c]
 kernel_rfl
theorem g9c (m0 : Nat) (p0 p1 p2 : Int) (p3 : List a0a) (p4 : Int) (p5 : List a0a) (p6 p7 : Int) : b4k (m0 + 1) p0 p1 p2 p3 p4 p5 p6 p7 =
 bif decide (p7 < p6) then
 bif inB p7 (List.length p5) then
 Option.bind (a3n ((p0, (p1, (p2, (p3, ())))), ())) fun r2 =>
 Option.bind (b2q (r2.1, (nth a0e p5 p7), ())) fun r3 =>
 bif decide ((0 : Int) ≤ r3.1) then
 b4k m0 p0 p1 p2 p3 (intBits .or .u64 p4 (j4u .u64 1 r3.1)) p5 p6 (IntKind.wrap .i64 (p7 + 1))
 else none
 else none
 else
 some (p4, ()) := by
 rewrite [e8c]
 kernel_rfl
abbrev b5a : List ATy := [.data true a0f]
abbrev c8v : List (Bool × Ty) := [(false, .bool)]
abbrev c6l : List RMode := []
abbrev g2l : Type := a0b × Unit → Option (Bool × Unit)
def e5d : Ctx := { types := TT, globals := [], con := [(56, b0f), (57, a9e), (58, d7s), (59, d0w)], keep := [], results := [.tmp 2], ntmps := 14, n := N }
def e1u : Code := (Tryz.f35.body).getD .skip
def a3v : g2l := hid (a1g e5d e1u b5a c8v c6l)
theorem e2n : a3v = a1g e5d e1u b5a c8v c6l := a0d _
def e2s : Contract := ⟨b5a, c8v, c6l, a3v⟩
theorem g5k : Sound Tryz.prog GG 35 e2s := by
 unfold e2s; rw [e2n]
 exact mkS Tryz.f35 ⟨b7f, b3p, g4f, f9u, trivial⟩ trivial
theorem g5a (a0 : a0b) : a3v (a0, ()) =
 Option.bind (a6p (a0, ())) fun r0 =>
 bif r0.1 then
 Option.bind (a3n (a0, ())) fun r2 =>
 Option.bind (b2m (a0, ())) fun r3 =>
 Option.bind (b9r (r2.1, r3.1, ())) fun r4 =>
 some (decide ((List.length r4.1 : Int) = 1), ())
 else
 some (false, ()) := by
 rewrite [e2n]
 kernel_rfl
abbrev c0g : List ATy := [.data true a0f, .data true a0e]
abbrev b0q : List (Bool × Ty) := [(true, a0f)]
abbrev b5e : List RMode := [.own 55]
abbrev f8f : Type := a0b × a0a × Unit → Option (a0b × Unit)
def c3c : Ctx := { types := TT, globals := [], con := [(68, a2c)], keep := [(3, ⟨[.box 2, .box 3, .box 4, .box 5, .tmp 2, .tmp 3, .tmp 4, .tmp 5, .tmp 6], []⟩)], results := [.cell 4 29], ntmps := 39, n := N }
def c3j : Code := (Tryz.f76.body).getD .skip
def d0s (m0 : Nat) (p0 p1 p2 : Int) (p3 : List a0a) (p4 p5 p6 p7 p8 p9 : Int) (p10 : List a0a) (p11 p12 p13 : Int) (p14 : List a0a) (p15 : Int) : Option (a1y b0q) := a2h c3c c3j b0q b5e 3 [m0] [(.ver, .num 1), (.box 2, .box 0 false [.int .i64 p0, .int .i64 p1, .int .i64 p2, .imm a0e p3 (some 3)]), (.box 3, .box 0 false [.int .i64 p4, .int .i64 p5, .int .i64 p6]), (.box 4, .box 0 false [.int .i64 p7, .int .i64 p8, .int .i64 p9, .own 55 a0e 0 p10]), (.box 5, .box 0 false [.int .i64 p11, .int .i64 p12, .int .i64 p13, .own 55 a0e 0 p14]), (.tmp 2, .val false [.addr 2 0 0]), (.tmp 3, .val false [.addr 3 0 0]), (.tmp 4, .val false [.addr 4 0 0]), (.tmp 5, .val false [.addr 5 0 0]), (.tmp 6, .val false [.int .i64 p15])]
def a7x : f8f := hid (a1g c3c c3j c0g b0q b5e)
theorem e0b : a7x = a1g c3c c3j c0g b0q b5e := a0d _
def c3p : Contract := ⟨c0g, b0q, b5e, a7x⟩
theorem g2a : Sound Tryz.prog GG 76 c3p := by
 unfold c3p; rw [e0b]
 exact mkS Tryz.f76 ⟨a2v, trivial⟩ trivial
def a5g := hid (d0s)
theorem c9x : a5g = d0s := a0d _
theorem g2b (a0 : a0b) (a1 : a0a) : a7x (a0, a1, ()) =
 Option.bind (a1l (a0.1, a0.2.1, a0.2.2.1, ())) fun r0 =>
 a5g N a0.1 a0.2.1 a0.2.2.1 a0.2.2.2.1 a1.1 a1.2.1 a1.2.2.1 0 0 0 ([] : List a0a) r0.1.1 r0.1.2.1 r0.1.2.2.1 r0.1.2.2.2.1 0 := by
 rewrite [e0b, c9x]
 kernel_rfl
theorem f6q (m0 : Nat) (p0 p1 p2 : Int) (p3 : List a0a) (p4 p5 p6 p7 p8 p9 : Int) (p10 : List a0a) (p11 p12 p13 : Int) (p14 : List a0a) (p15 : Int) : a5g (m0 + 1) p0 p1 p2 p3 p4 p5 p6 p7 p8 p9 p10 p11 p12 p13 p14 p15 =
 bif decide (p15 < (List.length p3 : Int)) then
 bif inB p15 (List.length p3) then
 bif !(decide (((nth a0e p3 p15)).1 = p4) && (decide ((((nth a0e p3 p15)).2).1 = p5) && (decide (((((nth a0e p3 p15)).2).2).1 = p6) && true))) then
 bif inB p15 (List.length p3) then
 bif (decide (((List.length p14) + (List.length ([(nth a0e p3 p15)] : List a0a))) * 24 ≤ 140737488355328) && decide (((List.length p14) + (List.length ([(nth a0e p3 p15)] : List a0a))) ≤ 140737488355328)) then
 a5g m0 p0 p1 p2 p3 p4 p5 p6 p7 p8 p9 p10 p11 p12 p13 (p14 ++ ([(nth a0e p3 p15)] : List a0a)) (IntKind.wrap .i64 (p15 + 1))
 else none
 else none
 else
 a5g m0 p0 p1 p2 p3 p4 p5 p6 p7 p8 p9 p10 p11 p12 p13 p14 (IntKind.wrap .i64 (p15 + 1))
 else none
 else
 some ((p11, (p12, (p13, (p14, ())))), ()) := by
 rewrite [c9x]
 kernel_rfl
abbrev c6m : List ATy := [.data true a0e, .data true a0e]
abbrev b4f : List (Bool × Ty) := [(false, (.int .i64))]
abbrev c1l : List RMode := []
abbrev g4m : Type := a0a × a0a × Unit → Option (Int × Unit)
def d1i : Ctx := { types := TT, globals := [], con := [(67, b3m)], keep := [(3, ⟨[.box 2, .box 3, .tmp 2, .tmp 3, .tmp 5, .tmp 6], []⟩)], results := [.tmp 4], ntmps := 29, n := N }
def d2r : Code := (Tryz.f112.body).getD .skip
def d9c (m0 : Nat) (p0 p1 p2 p3 p4 p5 p6 p7 : Int) : Option (a1y b4f) := a2h d1i d2r b4f c1l 3 [m0] [(.ver, .num 1), (.box 2, .box 0 false [.int .i64 p0, .int .i64 p1, .int .i64 p2]), (.box 3, .box 0 false [.int .i64 p3, .int .i64 p4, .int .i64 p5]), (.tmp 2, .val false [.addr 2 0 0]), (.tmp 3, .val false [.addr 3 0 0]), (.tmp 5, .val false [.int .i64 p6]), (.tmp 6, .val false [.int .i64 p7])]
def b1h : g4m := hid (a1g d1i d2r c6m b4f c1l)
theorem e7e : b1h = a1g d1i d2r c6m b4f c1l := a0d _
def d2d : Contract := ⟨c6m, b4f, c1l, b1h⟩
theorem g9v : Sound Tryz.prog GG 112 d2d := by
 unfold d2d; rw [e7e]
 exact mkS Tryz.f112 ⟨c4w, trivial⟩ trivial
def a4c := hid (d9c)
theorem d9h : a4c = d9c := a0d _
theorem h0o (a0 a1 : a0a) : b1h (a0, a1, ()) =
 a4c N a0.1 a0.2.1 a0.2.2.1 a1.1 a1.2.1 a1.2.2.1 0 0 := by
 rewrite [e7e, d9h]
 kernel_rfl
theorem d9m (m0 : Nat) (p0 p1 p2 p3 p4 p5 p6 p7 : Int) : a4c (m0 + 1) p0 p1 p2 p3 p4 p5 p6 p7 =
 bif decide (p7 < 3) then
 bif inB p7 3 then
 bif inB p7 3 then
 bif inB p7 3 then
 bif inB p7 3 then
 Option.bind (a1i ((IntKind.wrap .i64 ((bif decide (p7 = (0 : Int)) then p0 else (bif decide (p7 = (1 : Int)) then p1 else p2)) - (bif decide (p7 = (0 : Int)) then p3 else (bif decide (p7 = (1 : Int)) then p4 else p5)))), (IntKind.wrap .i64 ((bif decide (p7 = (0 : Int)) then p3 else (bif decide (p7 = (1 : Int)) then p4 else p5)) - (bif decide (p7 = (0 : Int)) then p0 else (bif decide (p7 = (1 : Int)) then p1 else p2)))), ())) fun r5 =>
 a4c m0 p0 p1 p2 p3 p4 p5 (IntKind.wrap .i64 (p6 + r5.1)) (IntKind.wrap .i64 (p7 + 1))
 else none
 else none
 else none
 else none
 else
 some (p6, ()) := by
 rewrite [d9h]
 kernel_rfl
abbrev d1w : List ATy := [.data true a0f, .data true a0e]
abbrev b7m : List (Bool × Ty) := [(false, (.sl a0e))]
abbrev c5j : List RMode := [.own 55]
abbrev g9k : Type := a0b × a0a × Unit → Option ((List a0a) × Unit)
def d7a : Ctx := { types := TT, globals := [], con := [(112, d2d)], keep := [(3, ⟨[.box 2, .box 3, .tmp 2, .tmp 3, .tmp 5, .tmp 6], []⟩)], results := [.tmp 4], ntmps := 32, n := N }
def d6v : Code := (Tryz.f77.body).getD .skip
def e5g (m0 : Nat) (p0 p1 p2 : Int) (p3 : List a0a) (p4 p5 p6 : Int) (p7 : List a0a) (p8 : Int) : Option (a1y b7m) := a2h d7a d6v b7m c5j 3 [m0] [(.ver, .num 1), (.box 2, .box 0 false [.int .i64 p0, .int .i64 p1, .int .i64 p2, .imm a0e p3 (some 3)]), (.box 3, .box 0 false [.int .i64 p4, .int .i64 p5, .int .i64 p6]), (.tmp 2, .val false [.addr 2 0 0]), (.tmp 3, .val false [.addr 3 0 0]), (.tmp 5, .val false [.own 55 a0e 0 p7]), (.tmp 6, .val false [.int .i64 p8])]
def b8u : g9k := hid (a1g d7a d6v d1w b7m c5j)
theorem f2y : b8u = a1g d7a d6v d1w b7m c5j := a0d _
def d7t : Contract := ⟨d1w, b7m, c5j, b8u⟩
theorem h6a : Sound Tryz.prog GG 77 d7t := by
 unfold d7t; rw [f2y]
 exact mkS Tryz.f77 ⟨g9v, trivial⟩ trivial
def a9s := hid (e5g)
theorem e3u : a9s = e5g := a0d _
theorem h4t (a0 : a0b) (a1 : a0a) : b8u (a0, a1, ()) =
 a9s N a0.1 a0.2.1 a0.2.2.1 a0.2.2.2.1 a1.1 a1.2.1 a1.2.2.1 ([] : List a0a) 0 := by
 rewrite [f2y, e3u]
 kernel_rfl
theorem g6z (m0 : Nat) (p0 p1 p2 : Int) (p3 : List a0a) (p4 p5 p6 : Int) (p7 : List a0a) (p8 : Int) : a9s (m0 + 1) p0 p1 p2 p3 p4 p5 p6 p7 p8 =
 bif decide (p8 < (List.length p3 : Int)) then
 bif inB p8 (List.length p3) then
 Option.bind (b1h ((nth a0e p3 p8), (p4, (p5, (p6, ()))), ())) fun r2 =>
 bif decide (r2.1 = 1) then
 bif inB p8 (List.length p3) then
 bif (decide (((List.length p7) + (List.length ([(nth a0e p3 p8)] : List a0a))) * 24 ≤ 140737488355328) && decide (((List.length p7) + (List.length ([(nth a0e p3 p8)] : List a0a))) ≤ 140737488355328)) then
 a9s m0 p0 p1 p2 p3 p4 p5 p6 (p7 ++ ([(nth a0e p3 p8)] : List a0a)) (IntKind.wrap .i64 (p8 + 1))
 else none
 else none
 else
 a9s m0 p0 p1 p2 p3 p4 p5 p6 p7 (IntKind.wrap .i64 (p8 + 1))
 else none
 else
 some (p7, ()) := by
 rewrite [e3u]
 kernel_rfl
abbrev c6b : List ATy := [.data true a0f]
abbrev a4r : List (Bool × Ty) := [(false, (.sl (.sl a0e)))]
abbrev b1n : List RMode := [.own 22]
abbrev g5p : Type := a0b × Unit → Option ((List (List a0a)) × Unit)
def b4e : Ctx := { types := TT, globals := [], con := [(68, a2c), (71, b0e), (75, d0l), (76, c3p), (77, d7t)], keep := [(2, ⟨[.box 1, .box 4, .tmp 1, .tmp 3, .tmp 4], []⟩), (6, ⟨[.box 1, .box 4, .box 5, .tmp 1, .tmp 3, .tmp 4, .tmp 5, .tmp 6, .tmp 7], []⟩), (11, ⟨[.box 1, .box 4, .box 5, .tmp 1, .tmp 3, .tmp 4, .tmp 5, .tmp 6, .tmp 7, .tmp 8, .tmp 9], []⟩)], results := [.tmp 2], ntmps := 77, n := N }
def b4n : Code := (Tryz.f31.body).getD .skip
def d9x (m0 : Nat) (p0 p1 p2 : Int) (p3 : List a0a) (p4 p5 p6 : Int) (p7 : List a0a) (p8 : List (List a0a)) : Option (a1y a4r) := a2h b4e b4n a4r b1n 2 [m0] [(.ver, .num 1), (.box 1, .box 0 false [.int .i64 p0, .int .i64 p1, .int .i64 p2, .imm a0e p3 (some 3)]), (.box 4, .box 0 false [.int .i64 p4, .int .i64 p5, .int .i64 p6, .own 55 a0e 0 p7]), (.tmp 1, .val false [.addr 1 0 0]), (.tmp 3, .val false [.own 22 (.sl a0e) 0 p8]), (.tmp 4, .val false [.addr 4 0 0])]
def d9f (m0 m1 : Nat) (p0 p1 p2 : Int) (p3 : List a0a) (p4 p5 p6 : Int) (p7 : List a0a) (p8 p9 p10 : Int) (p11 : List a0a) (p12 : List (List a0a)) (p13 : List a0a) (p14 : Int) : Option (a1y a4r) := a2h b4e b4n a4r b1n 6 [m0, m1] [(.ver, .num 1), (.box 1, .box 0 false [.int .i64 p0, .int .i64 p1, .int .i64 p2, .imm a0e p3 (some 3)]), (.box 4, .box 0 false [.int .i64 p4, .int .i64 p5, .int .i64 p6, .own 55 a0e 0 p7]), (.box 5, .box 0 false [.int .i64 p8, .int .i64 p9, .int .i64 p10, .own 55 a0e 0 p11]), (.tmp 1, .val false [.addr 1 0 0]), (.tmp 3, .val false [.own 22 (.sl a0e) 0 p12]), (.tmp 4, .val false [.addr 4 0 0]), (.tmp 5, .val false [.addr 5 0 0]), (.tmp 6, .val false [.own 55 a0e 0 p13]), (.tmp 7, .val false [.int .i64 p14])]
def d4h (m0 m1 m2 : Nat) (p0 p1 p2 : Int) (p3 : List a0a) (p4 p5 p6 : Int) (p7 : List a0a) (p8 p9 p10 : Int) (p11 : List a0a) (p12 : List (List a0a)) (p13 : List a0a) (p14 : Int) (p15 : List a0a) (p16 : Int) : Option (a1y a4r) := a2h b4e b4n a4r b1n 11 [m0, m1, m2] [(.ver, .num 1), (.box 1, .box 0 false [.int .i64 p0, .int .i64 p1, .int .i64 p2, .imm a0e p3 (some 3)]), (.box 4, .box 0 false [.int .i64 p4, .int .i64 p5, .int .i64 p6, .own 55 a0e 0 p7]), (.box 5, .box 0 false [.int .i64 p8, .int .i64 p9, .int .i64 p10, .own 55 a0e 0 p11]), (.tmp 1, .val false [.addr 1 0 0]), (.tmp 3, .val false [.own 22 (.sl a0e) 0 p12]), (.tmp 4, .val false [.addr 4 0 0]), (.tmp 5, .val false [.addr 5 0 0]), (.tmp 6, .val false [.own 55 a0e 0 p13]), (.tmp 7, .val false [.int .i64 p14]), (.tmp 8, .val false [.own 55 a0e 0 p15]), (.tmp 9, .val false [.int .i64 p16])]
def a8p : g5p := hid (a1g b4e b4n c6b a4r b1n)
theorem e9n : a8p = a1g b4e b4n c6b a4r b1n := a0d _
def c1j : Contract := ⟨c6b, a4r, b1n, a8p⟩
theorem e7i : Sound Tryz.prog GG 31 c1j := by
 unfold c1j; rw [e9n]
 exact mkS Tryz.f31 ⟨a2v, b7a, f9p, g2a, h6a, trivial⟩ trivial
def a7w := hid (d9x)
theorem c3t : a7w = d9x := a0d _
def a6g := hid (d9f)
theorem c3e : a6g = d9f := a0d _
def a6v := hid (d4h)
theorem d5g : a6v = d4h := a0d _
theorem h0t (a0 : a0b) : a8p (a0, ()) =
 Option.bind (b2j (a0, ())) fun r0 =>
 a7w N a0.1 a0.2.1 a0.2.2.1 a0.2.2.2.1 r0.1.1 r0.1.2.1 r0.1.2.2.1 r0.1.2.2.2.1 ([] : List (List a0a)) := by
 rewrite [e9n, c3t]
 kernel_rfl
theorem e0p (m0 : Nat) (p0 p1 p2 : Int) (p3 : List a0a) (p4 p5 p6 : Int) (p7 : List a0a) (p8 : List (List a0a)) : a7w (m0 + 1) p0 p1 p2 p3 p4 p5 p6 p7 p8 =
 bif decide ((List.length p7 : Int) > 0) then
 Option.bind (a1l (p0, p1, p2, ())) fun r1 =>
 bif inB 0 (List.length p7) then
 bif inB 0 (List.length ([(nth a0e p7 0)] : List a0a)) then
 Option.bind (a7x ((p4, (p5, (p6, (p7, ())))), (nth a0e ([(nth a0e p7 0)] : List a0a) 0), ())) fun r4 =>
 a6g m0 N p0 p1 p2 p3 r4.1.1 r4.1.2.1 r4.1.2.2.1 r4.1.2.2.2.1 r1.1.1 r1.1.2.1 r1.1.2.2.1 r1.1.2.2.2.1 p8 ([(nth a0e p7 0)] : List a0a) 0
 else none
 else none
 else
 some (p8, ()) := by
 rewrite [c3t, c3e]
 kernel_rfl
theorem g2k (m0 m1 : Nat) (p0 p1 p2 : Int) (p3 : List a0a) (p4 p5 p6 : Int) (p7 : List a0a) (p8 p9 p10 : Int) (p11 : List a0a) (p12 : List (List a0a)) (p13 : List a0a) (p14 : Int) : a6g m0 (m1 + 1) p0 p1 p2 p3 p4 p5 p6 p7 p8 p9 p10 p11 p12 p13 p14 =
 bif decide (p14 < (List.length p13 : Int)) then
 bif inB p14 (List.length p13) then
 Option.bind (a4s ((p8, (p9, (p10, (p11, ())))), (nth a0e p13 p14), ())) fun r2 =>
 bif inB p14 (List.length p13) then
 Option.bind (b8u ((p4, (p5, (p6, (p7, ())))), (nth a0e p13 p14), ())) fun r4 =>
 a6v m0 m1 N p0 p1 p2 p3 p4 p5 p6 p7 r2.1.1 r2.1.2.1 r2.1.2.2.1 r2.1.2.2.2.1 p12 p13 p14 r4.1 0
 else none
 else none
 else
 bif (decide (((List.length p12) + (List.length ([p11] : List (List a0a)))) * 24 ≤ 140737488355328) && decide (((List.length p12) + (List.length ([p11] : List (List a0a)))) ≤ 140737488355328)) then
 a7w m0 p0 p1 p2 p3 p4 p5 p6 p7 (p12 ++ ([p11] : List (List a0a)))
 else none := by
 rewrite [c3t, c3e, d5g]
 kernel_rfl
theorem f7t (m0 m1 m2 : Nat) (p0 p1 p2 : Int) (p3 : List a0a) (p4 p5 p6 : Int) (p7 : List a0a) (p8 p9 p10 : Int) (p11 : List a0a) (p12 : List (List a0a)) (p13 : List a0a) (p14 : Int) (p15 : List a0a) (p16 : Int) : a6v m0 m1 (m2 + 1) p0 p1 p2 p3 p4 p5 p6 p7 p8 p9 p10 p11 p12 p13 p14 p15 p16 =
 bif decide (p16 < (List.length p15 : Int)) then
 bif inB p16 (List.length p15) then
 bif (decide (((List.length p13) + (List.length ([(nth a0e p15 p16)] : List a0a))) * 24 ≤ 140737488355328) && decide (((List.length p13) + (List.length ([(nth a0e p15 p16)] : List a0a))) ≤ 140737488355328)) then
 bif inB p16 (List.length p15) then
 Option.bind (a7x ((p4, (p5, (p6, (p7, ())))), (nth a0e p15 p16), ())) fun r4 =>
 a6v m0 m1 m2 p0 p1 p2 p3 r4.1.1 r4.1.2.1 r4.1.2.2.1 r4.1.2.2.2.1 p8 p9 p10 p11 p12 (p13 ++ ([(nth a0e p15 p16)] : List a0a)) p14 p15 (IntKind.wrap .i64 (p16 + 1))
 else none
 else none
 else none
 else
 a6g m0 m1 p0 p1 p2 p3 p4 p5 p6 p7 p8 p9 p10 p11 p12 p13 (IntKind.wrap .i64 (p14 + 1)) := by
 rewrite [c3e, d5g]
 kernel_rfl
abbrev c8j : List ATy := [.data false (.int .i64), .data false (.int .i64), .data false (.int .i64)]
abbrev d3a : List (Bool × Ty) := [(false, .bool)]
abbrev d1o : List RMode := []
abbrev g4d : Type := Int × Int × Int × Unit → Option (Bool × Unit)
def e8p : Ctx := { types := TT, globals := [], con := [(51, b9p)], keep := [], results := [.tmp 6], ntmps := 17, n := N }
def e8h : Code := (Tryz.f126.body).getD .skip
def b1k : g4d := hid (a1g e8p e8h c8j d3a d1o)
theorem e8r : b1k = a1g e8p e8h c8j d3a d1o := a0d _
def c1m : Contract := ⟨c8j, d3a, d1o, b1k⟩
theorem e9f : Sound Tryz.prog GG 126 c1m := by
 unfold c1m; rw [e8r]
 exact mkS Tryz.f126 ⟨d6i, trivial⟩ trivial
theorem g8y (a0 a1 a2 : Int) : b1k (a0, a1, a2, ()) =
 Option.bind (a6e (a0, 1, 4, ())) fun r0 =>
 bif r0.1 then
 Option.bind (a6e (a1, 1, 4, ())) fun r2 =>
 bif r2.1 then
 Option.bind (a6e (a2, 1, 4, ())) fun r4 =>
 some (r4.1, ())
 else
 some (false, ())
 else
 some (false, ()) := by
 rewrite [e8r]
 kernel_rfl
abbrev d1x : List ATy := [.data true a0f]
abbrev b8j : List (Bool × Ty) := [(false, .bool)]
abbrev c5b : List RMode := []
abbrev g9a : Type := a0b × Unit → Option (Bool × Unit)
def d7w : Ctx := { types := TT, globals := [], con := [(74, c6e), (111, b2v), (126, c1m)], keep := [(4, ⟨[.box 1, .tmp 1, .tmp 3], []⟩)], results := [.tmp 2], ntmps := 46, n := N }
def d8t : Code := (Tryz.f110.body).getD .skip
def e3l (m0 : Nat) (p0 p1 p2 : Int) (p3 : List a0a) (p4 : Int) : Option (a1y b8j) := a2h d7w d8t b8j c5b 4 [m0] [(.ver, .num 1), (.box 1, .box 0 false [.int .i64 p0, .int .i64 p1, .int .i64 p2, .imm a0e p3 (some 3)]), (.tmp 1, .val false [.addr 1 0 0]), (.tmp 3, .val false [.int .i64 p4])]
def b3o : g9a := hid (a1g d7w d8t d1x b8j c5b)
theorem f2h : b3o = a1g d7w d8t d1x b8j c5b := a0d _
def c5o : Contract := ⟨d1x, b8j, c5b, b3o⟩
theorem f5q : Sound Tryz.prog GG 110 c5o := by
 unfold c5o; rw [f2h]
 exact mkS Tryz.f110 ⟨f1d, c6h, e9f, trivial⟩ trivial
def a9a := hid (e3l)
theorem e2p : a9a = e3l := a0d _
theorem h3o (a0 : a0b) : b3o (a0, ()) =
 Option.bind (b1k (a0.1, a0.2.1, a0.2.2.1, ())) fun r0 =>
 bif !r0.1 then
 some (false, ())
 else
 a9a N a0.1 a0.2.1 a0.2.2.1 a0.2.2.2.1 0 := by
 rewrite [f2h, e2p]
 kernel_rfl
theorem g8l (m0 : Nat) (p0 p1 p2 : Int) (p3 : List a0a) (p4 : Int) : a9a (m0 + 1) p0 p1 p2 p3 p4 =
 bif decide (p4 < (List.length p3 : Int)) then
 bif inB p4 (List.length p3) then
 Option.bind (b5t ((p0, (p1, (p2, (p3, ())))), (nth a0e p3 p4), ())) fun r2 =>
 bif !r2.1 then
 some (false, ())
 else
 bif decide (p4 > 0) then
 bif inB (IntKind.wrap .i64 (p4 - 1)) (List.length p3) then
 bif inB p4 (List.length p3) then
 Option.bind (a4z ((nth a0e p3 (IntKind.wrap .i64 (p4 - 1))), (nth a0e p3 p4), ())) fun r7 =>
 bif !r7.1 then
 some (false, ())
 else
 a9a m0 p0 p1 p2 p3 (IntKind.wrap .i64 (p4 + 1))
 else none
 else none
 else
 a9a m0 p0 p1 p2 p3 (IntKind.wrap .i64 (p4 + 1))
 else none
 else
 some (true, ()) := by
 rewrite [e2p]
 kernel_rfl
abbrev d2b : List ATy := [.data true a0f]
abbrev d8k : List (Bool × Ty) := [(false, .bool)]
abbrev d8j : List RMode := []
abbrev g9w : Type := a0b × Unit → Option (Bool × Unit)
def f6t : Ctx := { types := TT, globals := [], con := [(110, c5o)], keep := [], results := [.tmp 2], ntmps := 11, n := N }
def f2u : Code := (Tryz.f65.body).getD .skip
def c5h : g9w := hid (a1g f6t f2u d2b d8k d8j)
theorem f4l : c5h = a1g f6t f2u d2b d8k d8j := a0d _
def d7y : Contract := ⟨d2b, d8k, d8j, c5h⟩
theorem h6j : Sound Tryz.prog GG 65 d7y := by
 unfold d7y; rw [f4l]
 exact mkS Tryz.f65 ⟨f5q, trivial⟩ trivial
theorem h5l (a0 : a0b) : c5h (a0, ()) =
 Option.bind (b3o (a0, ())) fun r0 =>
 bif r0.1 then
 some (decide ((List.length a0.2.2.2.1 : Int) > 0), ())
 else
 some (false, ()) := by
 rewrite [f4l]
 kernel_rfl
abbrev d2w : List ATy := [.data true a0f]
abbrev d7q : List (Bool × Ty) := [(false, .bool)]
abbrev d5w : List RMode := []
abbrev g8t : Type := a0b × Unit → Option (Bool × Unit)
def f2s : Ctx := { types := TT, globals := [], con := [(31, c1j), (65, d7y)], keep := [], results := [.tmp 2], ntmps := 11, n := N }
def f2r : Code := (Tryz.f25.body).getD .skip
def b3c : g8t := hid (a1g f2s f2r d2w d7q d5w)
theorem f2g : b3c = a1g f2s f2r d2w d7q d5w := a0d _
def d7r : Contract := ⟨d2w, d7q, d5w, b3c⟩
theorem h4f : Sound Tryz.prog GG 25 d7r := by
 unfold d7r; rw [f2g]
 exact mkS Tryz.f25 ⟨e7i, h6j, trivial⟩ trivial
theorem h4w (a0 : a0b) : b3c (a0, ()) =
 Option.bind (c5h (a0, ())) fun r0 =>
 bif r0.1 then
 Option.bind (a8p (a0, ())) fun r2 =>
 some (decide ((List.length r2.1 : Int) = 1), ())
 else
 some (false, ()) := by
 rewrite [f2g]
 kernel_rfl
end
end Go.VI
