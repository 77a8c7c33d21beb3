/- What the functions of the seat compute: part 2. -/
import Derived.Test.YtlnfgikipeiaiaaGreatG30p1
namespace Go.VI
open Go.Proofs
set_option maxRecDepth 100000
noncomputable section
abbrev d2h : List ATy := [.data true a0f, .data false (.sl a0e)]
abbrev a6l : List (Bool × Ty) := [(true, a0f), (false, .bool)]
abbrev b3g : List RMode := [.own 55]
abbrev h0h : Type := a0b × (List a0a) × Unit → Option (a0b × Bool × Unit)
def b7k : Ctx := { types := TT, globals := [], con := [(30, b1f), (67, b3m), (68, a2c), (71, b0e), (72, c2d), (73, b3h), (74, c6e)], keep := [(3, ⟨[.box 2, .box 4, .box 6, .tmp 1, .tmp 2, .tmp 4, .tmp 6, .tmp 7], []⟩), (8, ⟨[.box 2, .box 4, .box 6, .tmp 1, .tmp 2, .tmp 4, .tmp 6, .tmp 7, .tmp 8], []⟩), (14, ⟨[.box 4, .box 9, .tmp 4, .tmp 9, .tmp 10, .tmp 11], []⟩)], results := [.cell 4 29, .tmp 5], ntmps := 75, n := N }
def b7o : Code := (Tryz.f29.body).getD .skip
def e5j (m0 : Nat) (p0 p1 p2 : Int) (p3 : List a0a) (p4 p5 p6 : Int) (p7 : List a0a) (p8 p9 p10 : Int) (p11 : List a0a) (p12 : Int) : Option (a1y a6l) := a2h b7k b7o a6l b3g 3 [m0] [(.ver, .num 1), (.box 2, .box 0 false [.int .i64 p0, .int .i64 p1, .int .i64 p2, .imm a0e p3 (some 3)]), (.box 4, .box 0 false [.int .i64 p4, .int .i64 p5, .int .i64 p6, .own 55 a0e 0 p7]), (.box 6, .box 0 false [.int .i64 p8, .int .i64 p9, .int .i64 p10]), (.tmp 1, .val false [.imm a0e p11 (some 4)]), (.tmp 2, .val false [.addr 2 0 0]), (.tmp 4, .val false [.addr 4 0 0]), (.tmp 6, .val false [.addr 6 0 0]), (.tmp 7, .val false [.int .i64 p12])]
def e5i (m0 m1 : Nat) (p0 p1 p2 : Int) (p3 : List a0a) (p4 p5 p6 : Int) (p7 : List a0a) (p8 p9 p10 : Int) (p11 : List a0a) (p12 p13 : Int) : Option (a1y a6l) := a2h b7k b7o a6l b3g 8 [m0, m1] [(.ver, .num 1), (.box 2, .box 0 false [.int .i64 p0, .int .i64 p1, .int .i64 p2, .imm a0e p3 (some 3)]), (.box 4, .box 0 false [.int .i64 p4, .int .i64 p5, .int .i64 p6, .own 55 a0e 0 p7]), (.box 6, .box 0 false [.int .i64 p8, .int .i64 p9, .int .i64 p10]), (.tmp 1, .val false [.imm a0e p11 (some 4)]), (.tmp 2, .val false [.addr 2 0 0]), (.tmp 4, .val false [.addr 4 0 0]), (.tmp 6, .val false [.addr 6 0 0]), (.tmp 7, .val false [.int .i64 p12]), (.tmp 8, .val false [.int .i64 p13])]
def d9z (m0 : Nat) (p0 p1 p2 : Int) (p3 : List a0a) (p4 p5 p6 : Int) (p7 p8 : List a0a) (p9 : Int) : Option (a1y a6l) := a2h b7k b7o a6l b3g 14 [m0] [(.ver, .num 1), (.box 4, .box 0 false [.int .i64 p0, .int .i64 p1, .int .i64 p2, .own 55 a0e 0 p3]), (.box 9, .box 0 false [.int .i64 p4, .int .i64 p5, .int .i64 p6, .own 55 a0e 0 p7]), (.tmp 4, .val false [.addr 4 0 0]), (.tmp 9, .val false [.addr 9 0 0]), (.tmp 10, .val false [.own 55 a0e 0 p8]), (.tmp 11, .val false [.int .i64 p9])]
def a6n : h0h := hid (a1g b7k b7o d2h a6l b3g)
theorem f6l : a6n = a1g b7k b7o d2h a6l b3g := a0d _
def d6k : Contract := ⟨d2h, a6l, b3g, a6n⟩
theorem h4j : Sound Tryz.prog GG 29 d6k := by
 unfold d6k; rw [f6l]
 exact mkS Tryz.f29 ⟨c1g, c4w, a2v, b7a, e1r, c5k, f1d, trivial⟩ trivial
def a4y := hid (e5j)
theorem c5w : a4y = e5j := a0d _
def a4w := hid (e5i)
theorem e2v : a4w = e5i := a0d _
def a6c := hid (d9z)
theorem e0c : a6c = d9z := a0d _
theorem h4m (a0 : a0b) (a1 : List a0a) : a6n (a0, a1, ()) =
 a4y N a0.1 a0.2.1 a0.2.2.1 a0.2.2.2.1 0 0 0 ([] : List a0a) 0 0 0 a1 0 := by
 rewrite [f6l, c5w]
 kernel_rfl
theorem g7c (m0 : Nat) (p0 p1 p2 : Int) (p3 : List a0a) (p4 p5 p6 : Int) (p7 : List a0a) (p8 p9 p10 : Int) (p11 : List a0a) (p12 : Int) : a4y (m0 + 1) p0 p1 p2 p3 p4 p5 p6 p7 p8 p9 p10 p11 p12 =
 bif decide (p12 < (List.length p11 : Int)) then
 bif inB p12 (List.length p11) then
 Option.bind (b2x ((p0, (p1, (p2, (p3, ())))), (nth a0e p11 p12), ())) fun r2 =>
 bif r2.1 then
 some ((0, (0, (0, (([] : List a0a), ())))), false, ())
 else
 a4w m0 N p0 p1 p2 p3 p4 p5 p6 p7 p8 p9 p10 p11 p12 0
 else none
 else
 Option.bind (a1l (4, 4, 4, ())) fun r1 =>
 bif (decide (((List.length ([] : List a0a)) + (List.length p3)) * 24 ≤ 140737488355328) && decide (((List.length ([] : List a0a)) + (List.length p3)) ≤ 140737488355328)) then
 bif (decide (((List.length (([] : List a0a) ++ p3)) + (List.length p11)) * 24 ≤ 140737488355328) && decide (((List.length (([] : List a0a) ++ p3)) + (List.length p11)) ≤ 140737488355328)) then
 Option.bind (a4t ((p0, (p1, (p2, (p3, ())))), ((([] : List a0a) ++ p3) ++ p11), ())) fun r4 =>
 Option.bind (a2z ((r4.1.1, (r4.1.2.1, (r4.1.2.2.1, (((([] : List a0a) ++ p3) ++ p11), ())))), (p8, (p9, (p10, ()))), ())) fun r5 =>
 a6c N p4 p5 p6 p7 r1.1.1 r1.1.2.1 r1.1.2.2.1 r1.1.2.2.2.1 r5.1 0
 else none
 else none := by
 rewrite [c5w, e2v, e0c]
 kernel_rfl
theorem b7u (m0 m1 : Nat) (p0 p1 p2 : Int) (p3 : List a0a) (p4 p5 p6 : Int) (p7 : List a0a) (p8 p9 p10 : Int) (p11 : List a0a) (p12 p13 : Int) : a4w m0 (m1 + 1) p0 p1 p2 p3 p4 p5 p6 p7 p8 p9 p10 p11 p12 p13 =
 bif decide (p13 < 3) then
 bif inB p13 3 then
 bif inB p12 (List.length p11) then
 bif inB p13 3 then
 Option.bind (a1i ((bif decide (p13 = (0 : Int)) then p8 else (bif decide (p13 = (1 : Int)) then p9 else p10)), (IntKind.wrap .i64 (0 - (bif decide (p13 = (0 : Int)) then ((nth a0e p11 p12)).1 else (bif decide (p13 = (1 : Int)) then (((nth a0e p11 p12)).2).1 else ((((nth a0e p11 p12)).2).2).1)))), ())) fun r4 =>
 bif inB p13 3 then
 a4w m0 m1 p0 p1 p2 p3 p4 p5 p6 p7 (bif decide (p13 = (0 : Int)) then r4.1 else p8) (bif decide (p13 = (1 : Int)) then r4.1 else p9) (bif decide (p13 = (2 : Int)) then r4.1 else p10) p11 p12 (IntKind.wrap .i64 (p13 + 1))
 else none
 else none
 else none
 else none
 else
 a4y m0 p0 p1 p2 p3 p4 p5 p6 p7 p8 p9 p10 p11 (IntKind.wrap .i64 (p12 + 1)) := by
 rewrite [c5w, e2v]
 kernel_rfl
theorem g1y (m0 : Nat) (p0 p1 p2 : Int) (p3 : List a0a) (p4 p5 p6 : Int) (p7 p8 : List a0a) (p9 : Int) : a6c (m0 + 1) p0 p1 p2 p3 p4 p5 p6 p7 p8 p9 =
 bif decide (p9 < (List.length p8 : Int)) then
 bif inB p9 (List.length p8) then
 Option.bind (b5t ((p4, (p5, (p6, (p7, ())))), (nth a0e p8 p9), ())) fun r2 =>
 bif !r2.1 then
 some ((0, (0, (0, (([] : List a0a), ())))), false, ())
 else
 bif inB p9 (List.length p8) then
 Option.bind (a4s ((p4, (p5, (p6, (p7, ())))), (nth a0e p8 p9), ())) fun r5 =>
 a6c m0 p0 p1 p2 p3 r5.1.1 r5.1.2.1 r5.1.2.2.1 r5.1.2.2.2.1 p8 (IntKind.wrap .i64 (p9 + 1))
 else none
 else none
 else
 some ((p4, (p5, (p6, (p7, ())))), true, ()) := by
 rewrite [e0c]
 kernel_rfl
abbrev b9m : List ATy := [.data true a0f, .data true a0f]
abbrev a2b : List (Bool × Ty) := [(false, (.sl a0f)), (false, .bool)]
abbrev a6b : List RMode := [.imm]
abbrev f8w : Type := a0b × a0b × Unit → Option ((List a0b) × Bool × Unit)
def a7u : Ctx := { types := TT, globals := [], con := [(25, d7r), (26, b1a), (27, c1f), (28, c5d), (29, d6k), (30, b1f), (31, c1j), (32, b6y), (33, b4y)], keep := [(6, ⟨[.box 3, .box 7, .tmp 3, .tmp 6, .tmp 7, .tmp 8, .tmp 9], [.tmp 6]⟩), (10, ⟨[.box 3, .box 7, .box 10, .tmp 3, .tmp 6, .tmp 7, .tmp 8, .tmp 9, .tmp 10, .tmp 11], [.tmp 6]⟩), (13, ⟨[.box 3, .box 7, .box 10, .tmp 3, .tmp 6, .tmp 7, .tmp 8, .tmp 9, .tmp 10, .tmp 11, .tmp 12], [.tmp 6]⟩), (16, ⟨[.box 3, .box 7, .box 10, .tmp 3, .tmp 6, .tmp 7, .tmp 8, .tmp 9, .tmp 10, .tmp 11, .tmp 12, .tmp 13], [.tmp 6]⟩)], results := [.tmp 4, .tmp 5], ntmps := 87, n := N }
def a7z : Code := (Tryz.f6.body).getD .skip
def c9p (m0 : Nat) (p0 p1 p2 : Int) (p3 : List a0a) (p4 p5 p6 : Int) (p7 : List a0a) (p8 : List a0b) (p9 : List a0c) (p10 : Int) : Option (a1y a2b) := a2h a7u a7z a2b a6b 6 [m0] [(.ver, .num 1), (.box 3, .box 0 false [.int .i64 p0, .int .i64 p1, .int .i64 p2, .imm a0e p3 (some 7)]), (.box 7, .box 0 false [.int .i64 p4, .int .i64 p5, .int .i64 p6, .own 55 a0e 0 p7]), (.tmp 3, .val false [.addr 3 0 0]), (.tmp 6, .val false [.imm a0f p8 none]), (.tmp 7, .val false [.addr 7 0 0]), (.tmp 8, .val false [.own 57 a1h 0 p9]), (.tmp 9, .val false [.int .i64 p10])]
def c6t (m0 m1 : Nat) (p0 p1 p2 : Int) (p3 : List a0a) (p4 p5 p6 : Int) (p7 : List a0a) (p8 p9 p10 : Int) (p11 : List a0a) (p12 : List a0b) (p13 : List a0c) (p14 p15 : Int) : Option (a1y a2b) := a2h a7u a7z a2b a6b 10 [m0, m1] [(.ver, .num 1), (.box 3, .box 0 false [.int .i64 p0, .int .i64 p1, .int .i64 p2, .imm a0e p3 (some 7)]), (.box 7, .box 0 false [.int .i64 p4, .int .i64 p5, .int .i64 p6, .own 55 a0e 0 p7]), (.box 10, .box 0 false [.int .i64 p8, .int .i64 p9, .int .i64 p10, .own 55 a0e 0 p11]), (.tmp 3, .val false [.addr 3 0 0]), (.tmp 6, .val false [.imm a0f p12 none]), (.tmp 7, .val false [.addr 7 0 0]), (.tmp 8, .val false [.own 57 a1h 0 p13]), (.tmp 9, .val false [.int .i64 p14]), (.tmp 10, .val false [.addr 10 0 0]), (.tmp 11, .val false [.int .i64 p15])]
def c7d (m0 m1 m2 : Nat) (p0 p1 p2 : Int) (p3 : List a0a) (p4 p5 p6 : Int) (p7 : List a0a) (p8 p9 p10 : Int) (p11 : List a0a) (p12 : List a0b) (p13 : List a0c) (p14 p15 p16 : Int) : Option (a1y a2b) := a2h a7u a7z a2b a6b 13 [m0, m1, m2] [(.ver, .num 1), (.box 3, .box 0 false [.int .i64 p0, .int .i64 p1, .int .i64 p2, .imm a0e p3 (some 7)]), (.box 7, .box 0 false [.int .i64 p4, .int .i64 p5, .int .i64 p6, .own 55 a0e 0 p7]), (.box 10, .box 0 false [.int .i64 p8, .int .i64 p9, .int .i64 p10, .own 55 a0e 0 p11]), (.tmp 3, .val false [.addr 3 0 0]), (.tmp 6, .val false [.imm a0f p12 none]), (.tmp 7, .val false [.addr 7 0 0]), (.tmp 8, .val false [.own 57 a1h 0 p13]), (.tmp 9, .val false [.int .i64 p14]), (.tmp 10, .val false [.addr 10 0 0]), (.tmp 11, .val false [.int .i64 p15]), (.tmp 12, .val false [.int .i64 p16])]
def c7k (m0 m1 m2 m3 : Nat) (p0 p1 p2 : Int) (p3 : List a0a) (p4 p5 p6 : Int) (p7 : List a0a) (p8 p9 p10 : Int) (p11 : List a0a) (p12 : List a0b) (p13 : List a0c) (p14 p15 p16 p17 : Int) : Option (a1y a2b) := a2h a7u a7z a2b a6b 16 [m0, m1, m2, m3] [(.ver, .num 1), (.box 3, .box 0 false [.int .i64 p0, .int .i64 p1, .int .i64 p2, .imm a0e p3 (some 7)]), (.box 7, .box 0 false [.int .i64 p4, .int .i64 p5, .int .i64 p6, .own 55 a0e 0 p7]), (.box 10, .box 0 false [.int .i64 p8, .int .i64 p9, .int .i64 p10, .own 55 a0e 0 p11]), (.tmp 3, .val false [.addr 3 0 0]), (.tmp 6, .val false [.imm a0f p12 none]), (.tmp 7, .val false [.addr 7 0 0]), (.tmp 8, .val false [.own 57 a1h 0 p13]), (.tmp 9, .val false [.int .i64 p14]), (.tmp 10, .val false [.addr 10 0 0]), (.tmp 11, .val false [.int .i64 p15]), (.tmp 12, .val false [.int .i64 p16]), (.tmp 13, .val false [.int .i64 p17])]
def a4d : f8w := hid (a1g a7u a7z b9m a2b a6b)
theorem d9b : a4d = a1g a7u a7z b9m a2b a6b := a0d _
def c2y : Contract := ⟨b9m, a2b, a6b, a4d⟩
theorem g2f : Sound Tryz.prog GG 6 c2y := by
 unfold c2y; rw [d9b]
 exact mkS Tryz.f6 ⟨h4f, c3a, e8g, f4o, h4j, c1g, e7i, e4e, d2g, trivial⟩ trivial
def a5r := hid (c9p)
theorem b8w : a5r = c9p := a0d _
def a4o := hid (c6t)
theorem b5v : a4o = c6t := a0d _
def a3d := hid (c7d)
theorem b5w : a3d = c7d := a0d _
def a2i := hid (c7k)
theorem c7s : a2i = c7k := a0d _
theorem e0d (a0 a1 : a0b) : a4d (a0, a1, ()) =
 Option.bind (b3c (a0, ())) fun r0 =>
 bif !r0.1 then
 some (([] : List a0b), false, ())
 else
 Option.bind (b3c (a1, ())) fun r2 =>
 bif !r2.1 then
 some (([] : List a0b), false, ())
 else
 bif decide ((IntKind.wrap .i64 ((List.length a0.2.2.2.1 : Int) + (List.length a1.2.2.2.1 : Int))) > 4) then
 some (([] : List a0b), false, ())
 else
 Option.bind (a2k (a0, ())) fun r5 =>
 Option.bind (a6r (())) fun r6 =>
 a5r N a1.1 a1.2.1 a1.2.2.1 a1.2.2.2.1 r5.1.1 r5.1.2.1 r5.1.2.2.1 r5.1.2.2.2.1 ([] : List a0b) r6.1 0 := by
 rewrite [d9b, b8w]
 kernel_rfl
theorem f2l (m0 : Nat) (p0 p1 p2 : Int) (p3 : List a0a) (p4 p5 p6 : Int) (p7 : List a0a) (p8 : List a0b) (p9 : List a0c) (p10 : Int) : a5r (m0 + 1) p0 p1 p2 p3 p4 p5 p6 p7 p8 p9 p10 =
 bif decide (p10 < (List.length p9 : Int)) then
 bif inB p10 (List.length p9) then
 Option.bind (b0l ((p0, (p1, (p2, (p3, ())))), (nth a1h p9 p10), ())) fun r2 =>
 Option.bind (a2k (r2.1, ())) fun r3 =>
 a4o m0 N p0 p1 p2 p3 p4 p5 p6 p7 r3.1.1 r3.1.2.1 r3.1.2.2.1 r3.1.2.2.2.1 p8 p9 p10 (-4)
 else none
 else
 some (p8, true, ()) := by
 rewrite [b8w, b5v]
 kernel_rfl
theorem f0j (m0 m1 : Nat) (p0 p1 p2 : Int) (p3 : List a0a) (p4 p5 p6 : Int) (p7 : List a0a) (p8 p9 p10 : Int) (p11 : List a0a) (p12 : List a0b) (p13 : List a0c) (p14 p15 : Int) : a4o m0 (m1 + 1) p0 p1 p2 p3 p4 p5 p6 p7 p8 p9 p10 p11 p12 p13 p14 p15 =
 bif decide (p15 ≤ 4) then
 a3d m0 m1 N p0 p1 p2 p3 p4 p5 p6 p7 p8 p9 p10 p11 p12 p13 p14 p15 (-4)
 else
 a5r m0 p0 p1 p2 p3 p4 p5 p6 p7 p12 p13 (IntKind.wrap .i64 (p14 + 1)) := by
 rewrite [b8w, b5v, b5w]
 kernel_rfl
theorem f1j (m0 m1 m2 : Nat) (p0 p1 p2 : Int) (p3 : List a0a) (p4 p5 p6 : Int) (p7 : List a0a) (p8 p9 p10 : Int) (p11 : List a0a) (p12 : List a0b) (p13 : List a0c) (p14 p15 p16 : Int) : a3d m0 m1 (m2 + 1) p0 p1 p2 p3 p4 p5 p6 p7 p8 p9 p10 p11 p12 p13 p14 p15 p16 =
 bif decide (p16 ≤ 4) then
 a2i m0 m1 m2 N p0 p1 p2 p3 p4 p5 p6 p7 p8 p9 p10 p11 p12 p13 p14 p15 p16 (-4)
 else
 a4o m0 m1 p0 p1 p2 p3 p4 p5 p6 p7 p8 p9 p10 p11 p12 p13 p14 (IntKind.wrap .i64 (p15 + 1)) := by
 rewrite [b5v, b5w, c7s]
 kernel_rfl
theorem f1q (m0 m1 m2 m3 : Nat) (p0 p1 p2 : Int) (p3 : List a0a) (p4 p5 p6 : Int) (p7 : List a0a) (p8 p9 p10 : Int) (p11 : List a0a) (p12 : List a0b) (p13 : List a0c) (p14 p15 p16 p17 : Int) : a2i m0 m1 m2 (m3 + 1) p0 p1 p2 p3 p4 p5 p6 p7 p8 p9 p10 p11 p12 p13 p14 p15 p16 p17 =
 bif decide (p17 ≤ 4) then
 Option.bind (a2z ((p8, (p9, (p10, (p11, ())))), (p15, (p16, (p17, ()))), ())) fun r1 =>
 Option.bind (a6n ((p4, (p5, (p6, (p7, ())))), r1.1, ())) fun r2 =>
 bif r2.2.1 then
 Option.bind (a8p (r2.1, ())) fun r4 =>
 bif decide ((List.length r4.1 : Int) = 1) then
 Option.bind (a3q (r2.1, ())) fun r6 =>
 Option.bind (a9z (p12, r6.1, ())) fun r7 =>
 a2i m0 m1 m2 m3 p0 p1 p2 p3 p4 p5 p6 p7 p8 p9 p10 p11 r7.1 p13 p14 p15 p16 (IntKind.wrap .i64 (p17 + 1))
 else
 a2i m0 m1 m2 m3 p0 p1 p2 p3 p4 p5 p6 p7 p8 p9 p10 p11 p12 p13 p14 p15 p16 (IntKind.wrap .i64 (p17 + 1))
 else
 a2i m0 m1 m2 m3 p0 p1 p2 p3 p4 p5 p6 p7 p8 p9 p10 p11 p12 p13 p14 p15 p16 (IntKind.wrap .i64 (p17 + 1))
 else
 a3d m0 m1 m2 p0 p1 p2 p3 p4 p5 p6 p7 p8 p9 p10 p11 p12 p13 p14 p15 (IntKind.wrap .i64 (p16 + 1)) := by
 rewrite [b5w, c7s]
 kernel_rfl
abbrev e1k : List ATy := [.data false (.sl (.int .u8))]
abbrev f0b : List (Bool × Ty) := [(false, .bool)]
abbrev f1r : List RMode := []
abbrev h9v : Type := (List Int) × Unit → Option (Bool × Unit)
def g7x : Ctx := { types := TT, globals := [], con := [], keep := [], results := [.tmp 2], ntmps := 6, n := N }
def g6y : Code := (Tryz.f14.body).getD .skip
def d6h : h9v := hid (a1g g7x g6y e1k f0b f1r)
theorem g4r : d6h = a1g g7x g6y e1k f0b f1r := a0d _
def f0q : Contract := ⟨e1k, f0b, f1r, d6h⟩
theorem i2r : Sound Tryz.prog GG 14 f0q := by
 unfold f0q; rw [g4r]
 exact mkS Tryz.f14 trivial trivial
theorem i3f (a0 : List Int) : d6h (a0, ()) =
 some (decide ((List.length a0 : Int) > 65536), ()) := by
 rewrite [g4r]
 kernel_rfl
abbrev d7k : List ATy := [.lptr d3h]
abbrev e3j : List (Bool × Ty) := [(false, (.int .i64))]
abbrev e2g : List RMode := []
abbrev h7q : Type := a6m × Unit → Option ((Int × Unit) × (a6m × Unit))
def f9s : Ctx := { types := TT, globals := [], con := [], keep := [], results := [.tmp 2], ntmps := 62, n := N }
def g0l : Code := (Tryz.f120.body).getD .skip
def b6j : h7q := hid (d6p f9s g0l d7k e3j e2g)
theorem f9h : b6j = d6p f9s g0l d7k e3j e2g := a0d _
def e4t : MContract := ⟨d7k, e3j, e2g, b6j⟩
theorem h8i : c4m Tryz.prog n0 GG 120 e4t := by
 unfold e4t; rw [f9h]
 exact j5n Tryz.f120 trivial trivial
theorem h8f (a0 : a6m) : b6j (a0, ()) =
 bif decide (a0.2.1 < (List.length a0.1 : Int)) then
 bif inB a0.2.1 (List.length a0.1) then
 bif decide ((IntKind.wrap .i64 (a0.2.1 + 1)) ≤ (List.length a0.1 : Int)) then
 some (((IntKind.wrap .i64 (nth ((.int .u8) : Ty) a0.1 a0.2.1)), ()), ((a0.1, ((IntKind.wrap .i64 (a0.2.1 + 1)), ((IntKind.wrap .u64 ((IntKind.wrap .u64 ((IntKind.wrap .u64 (a0.2.2.1 * 6364136223846793005)) + (IntKind.wrap .u64 (IntKind.wrap .i64 (nth ((.int .u8) : Ty) a0.1 a0.2.1))))) + 462197)), ()))), ()))
 else
 some (((IntKind.wrap .i64 (intBits .and .u64 (b9x .u64 (IntKind.wrap .u64 ((IntKind.wrap .u64 ((IntKind.wrap .u64 (a0.2.2.1 * 6364136223846793005)) + (IntKind.wrap .u64 (IntKind.wrap .i64 (nth ((.int .u8) : Ty) a0.1 a0.2.1))))) + 462197)) 40) 255)), ()), ((a0.1, ((IntKind.wrap .i64 (a0.2.1 + 1)), ((IntKind.wrap .u64 ((IntKind.wrap .u64 ((IntKind.wrap .u64 (a0.2.2.1 * 6364136223846793005)) + (IntKind.wrap .u64 (IntKind.wrap .i64 (nth ((.int .u8) : Ty) a0.1 a0.2.1))))) + 462197)), ()))), ()))
 else none
 else
 bif decide ((IntKind.wrap .i64 (a0.2.1 + 1)) ≤ (List.length a0.1 : Int)) then
 some ((0, ()), ((a0.1, ((IntKind.wrap .i64 (a0.2.1 + 1)), ((IntKind.wrap .u64 ((IntKind.wrap .u64 ((IntKind.wrap .u64 (a0.2.2.1 * 6364136223846793005)) + 0)) + 462197)), ()))), ()))
 else
 some (((IntKind.wrap .i64 (intBits .and .u64 (b9x .u64 (IntKind.wrap .u64 ((IntKind.wrap .u64 ((IntKind.wrap .u64 (a0.2.2.1 * 6364136223846793005)) + 0)) + 462197)) 40) 255)), ()), ((a0.1, ((IntKind.wrap .i64 (a0.2.1 + 1)), ((IntKind.wrap .u64 ((IntKind.wrap .u64 ((IntKind.wrap .u64 (a0.2.2.1 * 6364136223846793005)) + 0)) + 462197)), ()))), ())) := by
 rewrite [f9h]
 kernel_rfl
abbrev d8l : List ATy := [.lptr d3h, .data false (.int .i64)]
abbrev e2d : List (Bool × Ty) := [(false, (.int .i64))]
abbrev e4n : List RMode := []
abbrev h3p : Type := a6m × Int × Unit → Option ((Int × Unit) × (a6m × Unit))
def g1l : Ctx := { types := TT, globals := [], con := [], mcon := [(120, e4t)], keep := [], results := [.tmp 4], ntmps := 20, n := N }
def g0w : Code := (Tryz.f94.body).getD .skip
def a2s : h3p := hid (d6p g1l g0w d8l e2d e4n)
theorem f9l : a2s = d6p g1l g0w d8l e2d e4n := a0d _
def b0c : MContract := ⟨d8l, e2d, e4n, a2s⟩
theorem b6o : c4m Tryz.prog n0 GG 94 b0c := by
 unfold b0c; rw [f9l]
 exact j5n Tryz.f94 trivial ⟨h8i, trivial⟩
theorem h8y (a0 : a6m) (a1 : Int) : a2s (a0, a1, ()) =
 bif decide (a1 ≤ 1) then
 some ((0, ()), (a0, ()))
 else
 Option.bind (b6j (a0, ())) fun r1 =>
 bif decide (a1 > 200) then
 Option.bind (b6j ((a0.1, r1.2.1.2), ())) fun r3 =>
 bif !decide (a1 = 0) then
 some (((Int.tmod (IntKind.wrap .i64 ((IntKind.wrap .i64 (r1.1.1 * 256)) + r3.1.1)) a1), ()), ((a0.1, r3.2.1.2), ()))
 else none
 else
 bif !decide (a1 = 0) then
 some (((Int.tmod r1.1.1 a1), ()), ((a0.1, r1.2.1.2), ()))
 else none := by
 rewrite [f9l]
 kernel_rfl
abbrev d2a : List ATy := [.lptr d3h, .data false (.sl (.int .i64))]
abbrev d6s : List (Bool × Ty) := [(false, (.int .i64))]
abbrev d8u : List RMode := []
abbrev h0e : Type := a6m × (List Int) × Unit → Option ((Int × Unit) × (a6m × Unit))
def f2w : Ctx := { types := TT, globals := [], con := [], mcon := [(94, b0c)], keep := [], results := [.tmp 4], ntmps := 12, n := N }
def f6i : Code := (Tryz.f48.body).getD .skip
def a2m : h0e := hid (d6p f2w f6i d2a d6s d8u)
theorem f6g : a2m = d6p f2w f6i d2a d6s d8u := a0d _
def b9g : MContract := ⟨d2a, d6s, d8u, a2m⟩
theorem d8m : c4m Tryz.prog n0 GG 48 b9g := by
 unfold b9g; rw [f6g]
 exact j5n Tryz.f48 trivial ⟨b6o, trivial⟩
theorem h7h (a0 : a6m) (a1 : List Int) : a2m (a0, a1, ()) =
 Option.bind (a2s (a0, (List.length a1 : Int), ())) fun r0 =>
 bif inB r0.1.1 (List.length a1) then
 some (((nth ((.int .i64) : Ty) a1 r0.1.1), ()), ((a0.1, r0.2.1.2), ()))
 else none := by
 rewrite [f6g]
 kernel_rfl
abbrev b5p : List ATy := [.data false (.sl (.int .u8))]
abbrev b7b : List (Bool × Ty) := [(false, (.int .i64))]
abbrev b8m : List RMode := []
abbrev f0l : Type := (List Int) × Unit → Option (Int × Unit)
def c9s : Ctx := { types := TT, globals := [], con := [], mcon := [(48, b9g)], keep := [], results := [.tmp 2], ntmps := 10, n := N }
def c9j : Code := (Tryz.f15.body).getD .skip
def a8c : f0l := hid (a1g c9s c9j b5p b7b b8m)
theorem d0d : a8c = a1g c9s c9j b5p b7b b8m := a0d _
def b8n : Contract := ⟨b5p, b7b, b8m, a8c⟩
theorem f5s : Sound Tryz.prog GG 15 b8n := by
 unfold b8n; rw [d0d]
 exact mkS Tryz.f15 trivial ⟨d8m, trivial⟩
theorem f3c (a0 : List Int) : a8c (a0, ()) =
 Option.bind (a2m ((a0, (0, (0, ()))), ([3, 2, 4, 1, 0, 5, (-1)] : List Int), ())) fun r0 =>
 some (r0.1.1, ()) := by
 rewrite [d0d]
 kernel_rfl
abbrev c7y : List ATy := [.data true a0f]
abbrev b4h : List (Bool × Ty) := [(false, (.sl (.sl a0e))), (false, .bool)]
abbrev c1s : List RMode := [.own 22]
abbrev g4q : Type := a0b × Unit → Option ((List (List a0a)) × Bool × Unit)
def d2t : Ctx := { types := TT, globals := [], con := [(56, b0f), (57, a9e), (58, d7s), (59, d0w), (60, e6e)], keep := [(5, ⟨[.box 1, .tmp 1, .tmp 4, .tmp 15, .tmp 16, .tmp 17], []⟩)], results := [.tmp 2, .tmp 3], ntmps := 30, n := N }
def d2p : Code := (Tryz.f21.body).getD .skip
def d8x (m0 : Nat) (p0 p1 p2 : Int) (p3 : List a0a) (p4 : List (List a0a)) (p5 : List Int) (p6 p7 : Int) : Option (a1y b4h) := a2h d2t d2p b4h c1s 5 [m0] [(.ver, .num 1), (.box 1, .box 0 false [.int .i64 p0, .int .i64 p1, .int .i64 p2, .imm a0e p3 (some 3)]), (.tmp 1, .val false [.addr 1 0 0]), (.tmp 4, .val false [.own 22 (.sl a0e) 0 p4]), (.tmp 15, .val false [.own 84 (.int .u64) 0 p5]), (.tmp 16, .val false [.int .i64 p6]), (.tmp 17, .val false [.int .i64 p7])]
def b4t : g4q := hid (a1g d2t d2p c7y b4h c1s)
theorem e9d : b4t = a1g d2t d2p c7y b4h c1s := a0d _
def d2e : Contract := ⟨c7y, b4h, c1s, b4t⟩
theorem h0a : Sound Tryz.prog GG 21 d2e := by
 unfold d2e; rw [e9d]
 exact mkS Tryz.f21 ⟨b7f, b3p, g4f, f9u, h1e, trivial⟩ trivial
def b0s := hid (d8x)
theorem e0n : b0s = d8x := a0d _
theorem h0d (a0 : a0b) : b4t (a0, ()) =
 Option.bind (a6p (a0, ())) fun r0 =>
 bif !r0.1 then
 some (([] : List (List a0a)), false, ())
 else
 Option.bind (a3n (a0, ())) fun r2 =>
 Option.bind (b2m (a0, ())) fun r3 =>
 Option.bind (b9r (r2.1, r3.1, ())) fun r4 =>
 b0s N a0.1 a0.2.1 a0.2.2.1 a0.2.2.2.1 ([] : List (List a0a)) r4.1 (List.length r4.1 : Int) 0 := by
 rewrite [e9d, e0n]
 kernel_rfl
theorem g2n (m0 : Nat) (p0 p1 p2 : Int) (p3 : List a0a) (p4 : List (List a0a)) (p5 : List Int) (p6 p7 : Int) : b0s (m0 + 1) p0 p1 p2 p3 p4 p5 p6 p7 =
 bif decide (p7 < p6) then
 bif inB p7 (List.length p5) then
 Option.bind (a3n ((p0, (p1, (p2, (p3, ())))), ())) fun r2 =>
 Option.bind (c5t (r2.1, (nth ((.int .u64) : Ty) p5 p7), ())) fun r3 =>
 bif (decide (((List.length p4) + (List.length ([r3.1] : List (List a0a)))) * 24 ≤ 140737488355328) && decide (((List.length p4) + (List.length ([r3.1] : List (List a0a)))) ≤ 140737488355328)) then
 b0s m0 p0 p1 p2 p3 (p4 ++ ([r3.1] : List (List a0a))) p5 p6 (IntKind.wrap .i64 (p7 + 1))
 else none
 else none
 else
 some (p4, true, ()) := by
 rewrite [e0n]
 kernel_rfl
abbrev d2c : List ATy := [.data false (.sl a0e), .data false (.sl a0e)]
abbrev b7h : List (Bool × Ty) := [(false, .bool)]
abbrev c5m : List RMode := []
abbrev g9h : Type := (List a0a) × (List a0a) × Unit → Option (Bool × Unit)
def d6x : Ctx := { types := TT, globals := [], con := [], keep := [(4, ⟨[.tmp 0, .tmp 1, .tmp 5], []⟩)], results := [.tmp 4], ntmps := 26, n := N }
def d5n : Code := (Tryz.f61.body).getD .skip
def e2h (m0 : Nat) (p0 p1 : List a0a) (p2 : Int) : Option (a1y b7h) := a2h d6x d5n b7h c5m 4 [m0] [(.ver, .num 1), (.tmp 0, .val false [.imm a0e p0 (some 0)]), (.tmp 1, .val false [.imm a0e p1 (some 1)]), (.tmp 5, .val false [.int .i64 p2])]
def b8c : g9h := hid (a1g d6x d5n d2c b7h c5m)
theorem f5n : b8c = a1g d6x d5n d2c b7h c5m := a0d _
def d8q : Contract := ⟨d2c, b7h, c5m, b8c⟩
theorem h7n : Sound Tryz.prog GG 61 d8q := by
 unfold d8q; rw [f5n]
 exact mkS Tryz.f61 trivial trivial
def a7b := hid (e2h)
theorem e3i : a7b = e2h := a0d _
theorem f2d (a0 a1 : List a0a) : b8c (a0, a1, ()) =
 bif !decide ((List.length a0 : Int) = (List.length a1 : Int)) then
 some (false, ())
 else
 a7b N a0 a1 0 := by
 rewrite [f5n, e3i]
 kernel_rfl
theorem e4y (m0 : Nat) (p0 p1 : List a0a) (p2 : Int) : a7b (m0 + 1) p0 p1 p2 =
 bif decide (p2 < (List.length p0 : Int)) then
 bif inB p2 (List.length p0) then
 bif inB p2 (List.length p1) then
 bif !(decide (((nth a0e p0 p2)).1 = ((nth a0e p1 p2)).1) && (decide ((((nth a0e p0 p2)).2).1 = (((nth a0e p1 p2)).2).1) && (decide (((((nth a0e p0 p2)).2).2).1 = ((((nth a0e p1 p2)).2).2).1) && true))) then
 some (false, ())
 else
 a7b m0 p0 p1 (IntKind.wrap .i64 (p2 + 1))
 else none
 else none
 else
 some (true, ()) := by
 rewrite [e3i]
 kernel_rfl
abbrev d5u : List ATy := [.data true a0f, .data true a0f]
abbrev e4l : List (Bool × Ty) := [(false, .bool)]
abbrev e4p : List RMode := []
abbrev h5g : Type := a0b × a0b × Unit → Option (Bool × Unit)
def g0p : Ctx := { types := TT, globals := [], con := [(61, d8q)], keep := [], results := [.tmp 4], ntmps := 31, n := N }
def g0e : Code := (Tryz.f22.body).getD .skip
def a8h : h5g := hid (a1g g0p g0e d5u e4l e4p)
theorem f9m : a8h = a1g g0p g0e d5u e4l e4p := a0d _
def e5f : Contract := ⟨d5u, e4l, e4p, a8h⟩
theorem i1n : Sound Tryz.prog GG 22 e5f := by
 unfold e5f; rw [f9m]
 exact mkS Tryz.f22 ⟨h7n, trivial⟩ trivial
theorem f9x (a0 a1 : a0b) : a8h (a0, a1, ()) =
 bif decide (a0.1 = a1.1) then
 bif decide (a0.2.1 = a1.2.1) then
 bif decide (a0.2.2.1 = a1.2.2.1) then
 Option.bind (b8c (a0.2.2.2.1, a1.2.2.2.1, ())) fun r3 =>
 some (r3.1, ())
 else
 some (false, ())
 else
 some (false, ())
 else
 some (false, ()) := by
 rewrite [f9m]
 kernel_rfl
abbrev b8t : List ATy := [.lptr d3h, .data false (.int .i64)]
abbrev c2f : List (Bool × Ty) := [(true, a0f)]
abbrev c9h : List RMode := [.own 55]
abbrev h5k : Type := a6m × Int × Unit → Option ((a0b × Unit) × (a6m × Unit))
def e1i : Ctx := { types := TT, globals := [], con := [(26, b1a), (95, d0c), (96, c1h), (97, b9h), (98, c1n)], mcon := [(94, b0c)], keep := [(3, ⟨[.box 4, .box 5, .box 1000000, .tmp 0, .tmp 4, .tmp 5, .tmp 6], []⟩)], results := [.cell 4 29], ntmps := 40, n := N }
def e3p : Code := (Tryz.f62.body).getD .skip
def e7l (m0 : Nat) (p0 p1 p2 : Int) (p3 : List a0a) (p4 p5 p6 : Int) (p7 : List a0a) (p8 : List Int) (p9 p10 p11 : Int) : Option (a1y c2f × i3i b8t) := j4z e1i e3p b8t c2f c9h 3 [m0] [(.ver, .num 1), (.box 4, .box 0 false [.int .i64 p0, .int .i64 p1, .int .i64 p2, .own 55 a0e 0 p3]), (.box 5, .box 0 false [.int .i64 p4, .int .i64 p5, .int .i64 p6, .own 55 a0e 0 p7]), (.box 1000000, .box 0 false [.imm (.int .u8) p8 (some 2), .int .i64 p9, .int .u64 p10]), (.tmp 0, .val false [.addr 1000000 0 0]), (.tmp 4, .val false [.addr 4 0 0]), (.tmp 5, .val false [.addr 5 0 0]), (.tmp 6, .val false [.int .i64 p11])]
def b2u : h5k := hid (d6p e1i e3p b8t c2f c9h)
theorem f9i : b2u = d6p e1i e3p b8t c2f c9h := a0d _
def e3r : MContract := ⟨b8t, c2f, c9h, b2u⟩
theorem i0l : c4m Tryz.prog n0 GG 62 e3r := by
 unfold e3r; rw [f9i]
 exact j5n Tryz.f62 ⟨c3a, f9q, e8j, e1n, e6x, trivial⟩ ⟨b6o, trivial⟩
def a8s := hid (e7l)
theorem e6z : a8s = e7l := a0d _
theorem h9b (a0 : a6m) (a1 : Int) : b2u (a0, a1, ()) =
 Option.bind (b2e (1, 1, 1, ())) fun r0 =>
 Option.bind (a2s (a0, a1, ())) fun r1 =>
 a8s N 0 0 0 ([] : List a0a) r0.1.1 r0.1.2.1 r0.1.2.2.1 r0.1.2.2.2.1 a0.1 r1.2.1.2.1 r1.2.1.2.2.1 r1.1.1 := by
 rewrite [f9i, e6z]
 kernel_rfl
theorem e9k (m0 : Nat) (p0 p1 p2 : Int) (p3 : List a0a) (p4 p5 p6 : Int) (p7 : List a0a) (p8 : List Int) (p9 p10 p11 : Int) : a8s (m0 + 1) p0 p1 p2 p3 p4 p5 p6 p7 p8 p9 p10 p11 =
 bif decide (p11 > 0) then
 Option.bind (a2s ((p8, (p9, (p10, ()))), (List.length p7 : Int), ())) fun r1 =>
 bif inB r1.1.1 (List.length p7) then
 Option.bind (b4p (())) fun r3 =>
 Option.bind (a2s ((p8, r1.2.1.2), 6, ())) fun r4 =>
 bif inB r4.1.1 6 then
 Option.bind (a7d ((nth a0e p7 r1.1.1), ((bif decide (r4.1.1 = (0 : Int)) then r3.1.1.1 else (bif decide (r4.1.1 = (1 : Int)) then r3.1.2.1.1 else (bif decide (r4.1.1 = (2 : Int)) then r3.1.2.2.1.1 else (bif decide (r4.1.1 = (3 : Int)) then r3.1.2.2.2.1.1 else (bif decide (r4.1.1 = (4 : Int)) then r3.1.2.2.2.2.1.1 else r3.1.2.2.2.2.2.1.1))))), ((bif decide (r4.1.1 = (0 : Int)) then r3.1.1.2.1 else (bif decide (r4.1.1 = (1 : Int)) then r3.1.2.1.2.1 else (bif decide (r4.1.1 = (2 : Int)) then r3.1.2.2.1.2.1 else (bif decide (r4.1.1 = (3 : Int)) then r3.1.2.2.2.1.2.1 else (bif decide (r4.1.1 = (4 : Int)) then r3.1.2.2.2.2.1.2.1 else r3.1.2.2.2.2.2.1.2.1))))), ((bif decide (r4.1.1 = (0 : Int)) then r3.1.1.2.2.1 else (bif decide (r4.1.1 = (1 : Int)) then r3.1.2.1.2.2.1 else (bif decide (r4.1.1 = (2 : Int)) then r3.1.2.2.1.2.2.1 else (bif decide (r4.1.1 = (3 : Int)) then r3.1.2.2.2.1.2.2.1 else (bif decide (r4.1.1 = (4 : Int)) then r3.1.2.2.2.2.1.2.2.1 else r3.1.2.2.2.2.2.1.2.2.1))))), ()))), ())) fun r6 =>
 Option.bind (a3r ((p4, (p5, (p6, (p7, ())))), r6.1, ())) fun r7 =>
 bif r7.2.1 then
 Option.bind (a2k (r7.1, ())) fun r9 =>
 a8s m0 p0 p1 p2 p3 r9.1.1 r9.1.2.1 r9.1.2.2.1 r9.1.2.2.2.1 p8 r4.2.1.2.1 r4.2.1.2.2.1 (IntKind.wrap .i64 (p11 - 1))
 else
 a8s m0 p0 p1 p2 p3 p4 p5 p6 p7 p8 r4.2.1.2.1 r4.2.1.2.2.1 (IntKind.wrap .i64 (p11 - 1))
 else none
 else none
 else
 some (((p4, (p5, (p6, (p7, ())))), ()), ((p8, (p9, (p10, ()))), ())) := by
 rewrite [e6z]
 kernel_rfl
abbrev e5q : List ATy := [.lptr d3h, .data false (.int .i64)]
abbrev f0h : List (Bool × Ty) := [(false, .bool)]
abbrev f1m : List RMode := []
abbrev h9h : Type := a6m × Int × Unit → Option ((Bool × Unit) × (a6m × Unit))
def g4v : Ctx := { types := TT, globals := [], con := [], mcon := [(94, b0c)], keep := [], results := [.tmp 4], ntmps := 9, n := N }
def g4o : Code := (Tryz.f63.body).getD .skip
def b6a : h9h := hid (d6p g4v g4o e5q f0h f1m)
theorem g6t : b6a = d6p g4v g4o e5q f0h f1m := a0d _
def d7p : MContract := ⟨e5q, f0h, f1m, b6a⟩
theorem g5h : c4m Tryz.prog n0 GG 63 d7p := by
 unfold d7p; rw [g6t]
 exact j5n Tryz.f63 trivial ⟨b6o, trivial⟩
theorem i3j (a0 : a6m) (a1 : Int) : b6a (a0, a1, ()) =
 Option.bind (a2s (a0, a1, ())) fun r0 =>
 some ((decide (r0.1.1 = 0), ()), ((a0.1, r0.2.1.2), ())) := by
 rewrite [g6t]
 kernel_rfl
abbrev d1m : List ATy := [.lptr d3h]
abbrev d8s : List (Bool × Ty) := [(false, (.int .i64)), (false, (.int .i64)), (false, (.int .i64))]
abbrev d7h : List RMode := []
abbrev g9s : Type := a6m × Unit → Option ((Int × Int × Int × Unit) × (a6m × Unit))
def f4a : Ctx := { types := TT, globals := [], con := [], mcon := [(48, b9g), (94, b0c)], keep := [], results := [.tmp 2, .tmp 3, .tmp 4], ntmps := 37, n := N }
def f2p : Code := (Tryz.f108.body).getD .skip
def b7e : g9s := hid (d6p f4a f2p d1m d8s d7h)
theorem f3j : b7e = d6p f4a f2p d1m d8s d7h := a0d _
def d7m : MContract := ⟨d1m, d8s, d7h, b7e⟩
theorem h3s : c4m Tryz.prog n0 GG 108 d7m := by
 unfold d7m; rw [f3j]
 exact j5n Tryz.f108 trivial ⟨d8m, b6o, trivial⟩
theorem h4n (a0 : a6m) : b7e (a0, ()) =
 Option.bind (a2m (a0, ([2, 3, 3, 1, 4] : List Int), ())) fun r0 =>
 Option.bind (a2m ((a0.1, r0.2.1.2), ([2, 3, 2, 1, 4] : List Int), ())) fun r1 =>
 Option.bind (a2m ((a0.1, r1.2.1.2), ([2, 3, 3, 1, 4] : List Int), ())) fun r2 =>
 Option.bind (a2s ((a0.1, r2.2.1.2), 60, ())) fun r3 =>
 bif decide (r3.1.1 = 0) then
 Option.bind (a2m ((a0.1, r3.2.1.2), ([0, 5, (-1), 4611686018427387904] : List Int), ())) fun r5 =>
 some ((r5.1.1, r1.1.1, r2.1.1, ()), ((a0.1, r5.2.1.2), ()))
 else
 bif decide (r3.1.1 = 1) then
 Option.bind (a2m ((a0.1, r3.2.1.2), ([0, 5, (-1)] : List Int), ())) fun r6 =>
 some ((r0.1.1, r6.1.1, r2.1.1, ()), ((a0.1, r6.2.1.2), ()))
 else
 bif decide (r3.1.1 = 2) then
 Option.bind (a2m ((a0.1, r3.2.1.2), ([0, 5, (-1)] : List Int), ())) fun r7 =>
 some ((r0.1.1, r1.1.1, r7.1.1, ()), ((a0.1, r7.2.1.2), ()))
 else
 some ((r0.1.1, r1.1.1, r2.1.1, ()), ((a0.1, r3.2.1.2), ())) := by
 rewrite [f3j]
 kernel_rfl
abbrev b6w : List ATy := [.data true a0f]
abbrev a9l : List (Bool × Ty) := [(true, a0f), (false, .bool)]
abbrev b3j : List RMode := [.own 55]
abbrev f3o : Type := a0b × Unit → Option (a0b × Bool × Unit)
def c0m : Ctx := { types := TT, globals := [], con := [(68, a2c), (72, c2d), (110, c5o), (121, b6n)], keep := [(5, ⟨[.box 1, .box 2, .box 4, .tmp 1, .tmp 2, .tmp 4, .tmp 5, .tmp 6], []⟩)], results := [.cell 2 29, .tmp 3], ntmps := 43, n := N }
def c0x : Code := (Tryz.f127.body).getD .skip
def c8r (m0 : Nat) (p0 p1 p2 : Int) (p3 : List a0a) (p4 p5 p6 : Int) (p7 : List a0a) (p8 p9 p10 : Int) (p11 p12 : List a0a) (p13 : Int) : Option (a1y a9l) := a2h c0m c0x a9l b3j 5 [m0] [(.ver, .num 1), (.box 1, .box 0 false [.int .i64 p0, .int .i64 p1, .int .i64 p2, .imm a0e p3 (some 3)]), (.box 2, .box 0 false [.int .i64 p4, .int .i64 p5, .int .i64 p6, .own 55 a0e 0 p7]), (.box 4, .box 0 false [.int .i64 p8, .int .i64 p9, .int .i64 p10, .own 55 a0e 0 p11]), (.tmp 1, .val false [.addr 1 0 0]), (.tmp 2, .val false [.addr 2 0 0]), (.tmp 4, .val false [.addr 4 0 0]), (.tmp 5, .val false [.own 55 a0e 0 p12]), (.tmp 6, .val false [.int .i64 p13])]
def a9i : f3o := hid (a1g c0m c0x b6w a9l b3j)
theorem d3q : a9i = a1g c0m c0x b6w a9l b3j := a0d _
def c0p : Contract := ⟨b6w, a9l, b3j, a9i⟩
theorem f7j : Sound Tryz.prog GG 127 c0p := by
 unfold c0p; rw [d3q]
 exact mkS Tryz.f127 ⟨a2v, e1r, f5q, c9n, trivial⟩ trivial
def a3g := hid (c8r)
theorem c7h : a3g = c8r := a0d _
theorem f8d (a0 : a0b) : a9i (a0, ()) =
 Option.bind (b3o (a0, ())) fun r0 =>
 bif !r0.1 then
 some ((0, (0, (0, (([] : List a0a), ())))), false, ())
 else
 Option.bind (a1l (a0.1, a0.2.1, a0.2.2.1, ())) fun r2 =>
 Option.bind (a8e (a0, ())) fun r3 =>
 a3g N a0.1 a0.2.1 a0.2.2.1 a0.2.2.2.1 0 0 0 ([] : List a0a) r2.1.1 r2.1.2.1 r2.1.2.2.1 r2.1.2.2.2.1 r3.1 0 := by
 rewrite [d3q, c7h]
 kernel_rfl
theorem f1n (m0 : Nat) (p0 p1 p2 : Int) (p3 : List a0a) (p4 p5 p6 : Int) (p7 : List a0a) (p8 p9 p10 : Int) (p11 p12 : List a0a) (p13 : Int) : a3g (m0 + 1) p0 p1 p2 p3 p4 p5 p6 p7 p8 p9 p10 p11 p12 p13 =
 bif decide (p13 < (List.length p12 : Int)) then
 bif inB p13 (List.length p12) then
 Option.bind (b2x ((p0, (p1, (p2, (p3, ())))), (nth a0e p12 p13), ())) fun r2 =>
 bif !r2.1 then
 bif inB p13 (List.length p12) then
 bif (decide (((List.length p11) + (List.length ([(nth a0e p12 p13)] : List a0a))) * 24 ≤ 140737488355328) && decide (((List.length p11) + (List.length ([(nth a0e p12 p13)] : List a0a))) ≤ 140737488355328)) then
 a3g m0 p0 p1 p2 p3 p4 p5 p6 p7 p8 p9 p10 (p11 ++ ([(nth a0e p12 p13)] : List a0a)) p12 (IntKind.wrap .i64 (p13 + 1))
 else none
 else none
 else
 a3g m0 p0 p1 p2 p3 p4 p5 p6 p7 p8 p9 p10 p11 p12 (IntKind.wrap .i64 (p13 + 1))
 else none
 else
 some ((p8, (p9, (p10, (p11, ())))), true, ()) := by
 rewrite [c7h]
 kernel_rfl
abbrev c6w : List ATy := [.data false (.int .i64), .data false (.int .i64), .data false (.int .i64), .data false (.sl (.int .i64))]
abbrev b4o : List (Bool × Ty) := [(true, a0f)]
abbrev c1p : List RMode := [.own 55]
abbrev g6m : Type := Int × Int × Int × (List Int) × Unit → Option (a0b × Unit)
def d2o : Ctx := { types := TT, globals := [], con := [(68, a2c), (121, b6n)], keep := [(4, ⟨[.box 8, .box 9, .tmp 1, .tmp 3, .tmp 8, .tmp 9, .tmp 10, .tmp 11], []⟩)], results := [.cell 8 29], ntmps := 56, n := N }
def d1v : Code := (Tryz.f128.body).getD .skip
def d9e (m0 : Nat) (p0 p1 p2 : Int) (p3 : List a0a) (p4 p5 p6 : Int) (p7 : List a0a) (p8 : Int) (p9 : List Int) (p10 : List a0a) (p11 : Int) : Option (a1y b4o) := a2h d2o d1v b4o c1p 4 [m0] [(.ver, .num 1), (.box 8, .box 0 false [.int .i64 p0, .int .i64 p1, .int .i64 p2, .own 55 a0e 0 p3]), (.box 9, .box 0 false [.int .i64 p4, .int .i64 p5, .int .i64 p6, .own 55 a0e 0 p7]), (.tmp 1, .val false [.int .i64 p8]), (.tmp 3, .val false [.imm (.int .i64) p9 (some 3)]), (.tmp 8, .val false [.addr 8 0 0]), (.tmp 9, .val false [.addr 9 0 0]), (.tmp 10, .val false [.own 55 a0e 0 p10]), (.tmp 11, .val false [.int .i64 p11])]
def b4a : g6m := hid (a1g d2o d1v c6w b4o c1p)
theorem e8m : b4a = a1g d2o d1v c6w b4o c1p := a0d _
def d1z : Contract := ⟨c6w, b4o, c1p, b4a⟩
theorem h0j : Sound Tryz.prog GG 128 d1z := by
 unfold d1z; rw [e8m]
 exact mkS Tryz.f128 ⟨a2v, c9n, trivial⟩ trivial
def a5z := hid (d9e)
theorem e0g : a5z = d9e := a0d _
theorem h0c (a0 a1 a2 : Int) (a3 : List Int) : b4a (a0, a1, a2, a3, ()) =
 Option.bind (a1l (a0, a1, a2, ())) fun r0 =>
 Option.bind (a8e (r0.1, ())) fun r1 =>
 a5z N 0 0 0 ([] : List a0a) r0.1.1 r0.1.2.1 r0.1.2.2.1 r0.1.2.2.2.1 a1 a3 r1.1 0 := by
 rewrite [e8m, e0g]
 kernel_rfl
theorem g2s (m0 : Nat) (p0 p1 p2 : Int) (p3 : List a0a) (p4 p5 p6 : Int) (p7 : List a0a) (p8 : Int) (p9 : List Int) (p10 : List a0a) (p11 : Int) : a5z (m0 + 1) p0 p1 p2 p3 p4 p5 p6 p7 p8 p9 p10 p11 =
 bif decide (p11 < (List.length p10 : Int)) then
 bif inB p11 (List.length p10) then
 bif inB p11 (List.length p10) then
 bif inB p11 (List.length p10) then
 bif inB (IntKind.wrap .i64 ((IntKind.wrap .i64 (((nth a0e p10 p11)).1 * p8)) + (((nth a0e p10 p11)).2).1)) (List.length p9) then
 bif decide (((((nth a0e p10 p11)).2).2).1 < (nth ((.int .i64) : Ty) p9 (IntKind.wrap .i64 ((IntKind.wrap .i64 (((nth a0e p10 p11)).1 * p8)) + (((nth a0e p10 p11)).2).1)))) then
 bif inB p11 (List.length p10) then
 bif (decide (((List.length p7) + (List.length ([(nth a0e p10 p11)] : List a0a))) * 24 ≤ 140737488355328) && decide (((List.length p7) + (List.length ([(nth a0e p10 p11)] : List a0a))) ≤ 140737488355328)) then
 a5z m0 p0 p1 p2 p3 p4 p5 p6 (p7 ++ ([(nth a0e p10 p11)] : List a0a)) p8 p9 p10 (IntKind.wrap .i64 (p11 + 1))
 else none
 else none
 else
 a5z m0 p0 p1 p2 p3 p4 p5 p6 p7 p8 p9 p10 (IntKind.wrap .i64 (p11 + 1))
 else none
 else none
 else none
 else none
 else
 some ((p4, (p5, (p6, (p7, ())))), ()) := by
 rewrite [e0g]
 kernel_rfl
abbrev c4a : List ATy := [.data false (.int .i64)]
abbrev c6y : List (Bool × Ty) := [(false, (.int .i64)), (false, (.int .i64))]
abbrev c7c : List RMode := []
abbrev g2w : Type := Int × Unit → Option (Int × Int × Unit)
def e2j : Ctx := { types := TT, globals := [], con := [], keep := [], results := [.tmp 2, .tmp 3], ntmps := 9, n := N }
def e1z : Code := (Tryz.f148.body).getD .skip
def b8l : g2w := hid (a1g e2j e1z c4a c6y c7c)
theorem e2l : b8l = a1g e2j e1z c4a c6y c7c := a0d _
def c6i : Contract := ⟨c4a, c6y, c7c, b8l⟩
theorem g6s : Sound Tryz.prog GG 148 c6i := by
 unfold c6i; rw [e2l]
 exact mkS Tryz.f148 trivial trivial
theorem g5l (a0 : Int) : b8l (a0, ()) =
 bif decide (a0 = 0) then
 some (1, 2, ())
 else
 bif decide (a0 = 1) then
 some (0, 2, ())
 else
 some (0, 1, ()) := by
 rewrite [e2l]
 kernel_rfl
abbrev d2j : List ATy := [.data true a0f, .data false (.int .i64)]
abbrev b7t : List (Bool × Ty) := [(false, (.sl (.int .i64)))]
abbrev c4z : List RMode := [.own 3]
abbrev g9y : Type := a0b × Int × Unit → Option ((List Int) × Unit)
def d8c : Ctx := { types := TT, globals := [], con := [(70, b7q), (148, c6i)], keep := [(4, ⟨[.box 2, .tmp 2, .tmp 5, .tmp 6, .tmp 7, .tmp 8], []⟩)], results := [.tmp 4], ntmps := 54, n := N }
def d6n : Code := (Tryz.f141.body).getD .skip
def e3t (m0 : Nat) (p0 p1 p2 : Int) (p3 : List a0a) (p4 p5 : Int) (p6 : List Int) (p7 : Int) : Option (a1y b7t) := a2h d8c d6n b7t c4z 4 [m0] [(.ver, .num 1), (.box 2, .box 0 false [.int .i64 p0, .int .i64 p1, .int .i64 p2, .imm a0e p3 (some 3)]), (.tmp 2, .val false [.addr 2 0 0]), (.tmp 5, .val false [.int .i64 p4]), (.tmp 6, .val false [.int .i64 p5]), (.tmp 7, .val false [.own 3 (.int .i64) 0 p6]), (.tmp 8, .val false [.int .i64 p7])]
def b7n : g9y := hid (a1g d8c d6n d2j b7t c4z)
theorem f5h : b7n = a1g d8c d6n d2j b7t c4z := a0d _
def d8v : Contract := ⟨d2j, b7t, c4z, b7n⟩
theorem h7j : Sound Tryz.prog GG 141 d8v := by
 unfold d8v; rw [f5h]
 exact mkS Tryz.f141 ⟨d6m, g6s, trivial⟩ trivial
def b2n := hid (e3t)
theorem e4o : b2n = e3t := a0d _
theorem h4u (a0 : a0b) (a1 : Int) : b7n (a0, a1, ()) =
 Option.bind (b8l (a1, ())) fun r0 =>
 Option.bind (a1e (a0, r0.1, ())) fun r1 =>
 Option.bind (a1e (a0, r0.2.1, ())) fun r2 =>
 bif (decide ((0 : Int) ≤ (IntKind.wrap .i64 (r1.1 * r2.1))) && decide (((IntKind.wrap .i64 (r1.1 * r2.1)) : Int) ≤ (IntKind.wrap .i64 (r1.1 * r2.1))) && decide (((IntKind.wrap .i64 (r1.1 * r2.1)) : Int) * (8 : Nat) ≤ 140737488355328) && decide (((IntKind.wrap .i64 (r1.1 * r2.1)) : Int) ≤ 140737488355328)) then
 b2n N a0.1 a0.2.1 a0.2.2.1 a0.2.2.2.1 r0.1 r0.2.1 (List.replicate (Int.toNat (IntKind.wrap .i64 (r1.1 * r2.1))) (Ty.dflt ((.int .i64) : Ty))) 0
 else none := by
 rewrite [f5h, e4o]
 kernel_rfl
theorem g4l (m0 : Nat) (p0 p1 p2 : Int) (p3 : List a0a) (p4 p5 : Int) (p6 : List Int) (p7 : Int) : b2n (m0 + 1) p0 p1 p2 p3 p4 p5 p6 p7 =
 bif decide (p7 < (List.length p3 : Int)) then
 bif inB p7 (List.length p3) then
 bif inB p4 3 then
 Option.bind (a1e ((p0, (p1, (p2, (p3, ())))), p5, ())) fun r3 =>
 bif inB p7 (List.length p3) then
 bif inB p5 3 then
 bif inB (IntKind.wrap .i64 ((IntKind.wrap .i64 ((bif decide (p4 = (0 : Int)) then ((nth a0e p3 p7)).1 else (bif decide (p4 = (1 : Int)) then (((nth a0e p3 p7)).2).1 else ((((nth a0e p3 p7)).2).2).1)) * r3.1)) + (bif decide (p5 = (0 : Int)) then ((nth a0e p3 p7)).1 else (bif decide (p5 = (1 : Int)) then (((nth a0e p3 p7)).2).1 else ((((nth a0e p3 p7)).2).2).1)))) (List.length p6) then
 bif inB (IntKind.wrap .i64 ((IntKind.wrap .i64 ((bif decide (p4 = (0 : Int)) then ((nth a0e p3 p7)).1 else (bif decide (p4 = (1 : Int)) then (((nth a0e p3 p7)).2).1 else ((((nth a0e p3 p7)).2).2).1)) * r3.1)) + (bif decide (p5 = (0 : Int)) then ((nth a0e p3 p7)).1 else (bif decide (p5 = (1 : Int)) then (((nth a0e p3 p7)).2).1 else ((((nth a0e p3 p7)).2).2).1)))) (List.length p6) then
 b2n m0 p0 p1 p2 p3 p4 p5 (List.set p6 (Int.toNat (IntKind.wrap .i64 ((IntKind.wrap .i64 ((bif decide (p4 = (0 : Int)) then ((nth a0e p3 p7)).1 else (bif decide (p4 = (1 : Int)) then (((nth a0e p3 p7)).2).1 else ((((nth a0e p3 p7)).2).2).1)) * r3.1)) + (bif decide (p5 = (0 : Int)) then ((nth a0e p3 p7)).1 else (bif decide (p5 = (1 : Int)) then (((nth a0e p3 p7)).2).1 else ((((nth a0e p3 p7)).2).2).1))))) (IntKind.wrap .i64 ((nth ((.int .i64) : Ty) p6 (IntKind.wrap .i64 ((IntKind.wrap .i64 ((bif decide (p4 = (0 : Int)) then ((nth a0e p3 p7)).1 else (bif decide (p4 = (1 : Int)) then (((nth a0e p3 p7)).2).1 else ((((nth a0e p3 p7)).2).2).1)) * r3.1)) + (bif decide (p5 = (0 : Int)) then ((nth a0e p3 p7)).1 else (bif decide (p5 = (1 : Int)) then (((nth a0e p3 p7)).2).1 else ((((nth a0e p3 p7)).2).2).1))))) + 1))) (IntKind.wrap .i64 (p7 + 1))
 else none
 else none
 else none
 else none
 else none
 else none
 else
 some (p6, ()) := by
 rewrite [e4o]
 kernel_rfl
abbrev c0j : List ATy := [.data true a0f]
abbrev c3m : List (Bool × Ty) := [(false, (.sl (.int .i64)))]
abbrev c3h : List RMode := [.own 3]
abbrev f7m : Type := a0b × Unit → Option ((List Int) × Unit)
def d9y : Ctx := { types := TT, globals := [], con := [(141, d8v)], keep := [], results := [.tmp 2], ntmps := 5, n := N }
def e0e : Code := (Tryz.f129.body).getD .skip
def b4z : f7m := hid (a1g d9y e0e c0j c3m c3h)
theorem d9k : b4z = a1g d9y e0e c0j c3m c3h := a0d _
def c3b : Contract := ⟨c0j, c3m, c3h, b4z⟩
theorem g2g : Sound Tryz.prog GG 129 c3b := by
 unfold c3b; rw [d9k]
 exact mkS Tryz.f129 ⟨h7j, trivial⟩ trivial
theorem g2i (a0 : a0b) : b4z (a0, ()) =
 Option.bind (b7n (a0, 2, ())) fun r0 =>
 some (r0.1, ()) := by
 rewrite [d9k]
 kernel_rfl
abbrev a9v : List ATy := [.lptr d3h, .data false (.int .i64), .data false (.int .i64), .data false (.int .i64)]
abbrev b0t : List (Bool × Ty) := [(true, a0f)]
abbrev b5h : List RMode := [.own 55]
abbrev f7r : Type := a6m × Int × Int × Int × Unit → Option ((a0b × Unit) × (a6m × Unit))
def c2x : Ctx := { types := TT, globals := [], con := [(68, a2c), (121, b6n), (126, c1m), (127, c0p), (128, d1z), (129, c3b)], mcon := [(48, b9g), (63, d7p), (94, b0c)], keep := [(6, ⟨[.box 8, .box 9, .box 1000000, .tmp 0, .tmp 1, .tmp 2, .tmp 3, .tmp 8, .tmp 9, .tmp 10, .tmp 11, .tmp 12], []⟩)], results := [.cell 8 29], ntmps := 64, n := N }
def c3y : Code := (Tryz.f109.body).getD .skip
def d0u (m0 : Nat) (p0 p1 p2 : Int) (p3 : List a0a) (p4 p5 p6 : Int) (p7 : List a0a) (p8 : List Int) (p9 p10 p11 p12 p13 p14 : Int) (p15 : List a0a) (p16 : Int) : Option (a1y b0t × i3i a9v) := j4z c2x c3y a9v b0t b5h 6 [m0] [(.ver, .num 1), (.box 8, .box 0 false [.int .i64 p0, .int .i64 p1, .int .i64 p2, .own 55 a0e 0 p3]), (.box 9, .box 0 false [.int .i64 p4, .int .i64 p5, .int .i64 p6, .own 55 a0e 0 p7]), (.box 1000000, .box 0 false [.imm (.int .u8) p8 (some 4), .int .i64 p9, .int .u64 p10]), (.tmp 0, .val false [.addr 1000000 0 0]), (.tmp 1, .val false [.int .i64 p11]), (.tmp 2, .val false [.int .i64 p12]), (.tmp 3, .val false [.int .i64 p13]), (.tmp 8, .val false [.addr 8 0 0]), (.tmp 9, .val false [.addr 9 0 0]), (.tmp 10, .val false [.int .i64 p14]), (.tmp 11, .val false [.own 55 a0e 0 p15]), (.tmp 12, .val false [.int .i64 p16])]
def b0z : f7r := hid (d6p c2x c3y a9v b0t b5h)
theorem e0k : b0z = d6p c2x c3y a9v b0t b5h := a0d _
def c3o : MContract := ⟨a9v, b0t, b5h, b0z⟩
theorem g1t : c4m Tryz.prog n0 GG 109 c3o := by
 unfold c3o; rw [e0k]
 exact j5n Tryz.f109 ⟨a2v, c9n, e9f, f7j, h0j, g2g, trivial⟩ ⟨d8m, g5h, b6o, trivial⟩
def a5e := hid (d0u)
theorem d0n : a5e = d0u := a0d _
theorem g2y (a0 : a6m) (a1 a2 a3 : Int) : b0z (a0, a1, a2, a3, ()) =
 Option.bind (a1l (a1, a2, a3, ())) fun r0 =>
 Option.bind (a2m (a0, ([2, 3, 2, 4] : List Int), ())) fun r1 =>
 Option.bind (b1k (a1, a2, a3, ())) fun r2 =>
 bif !r2.1 then
 some ((r0.1, ()), ((a0.1, r1.2.1.2), ()))
 else
 Option.bind (a8e (r0.1, ())) fun r4 =>
 a5e N 0 0 0 ([] : List a0a) r0.1.1 r0.1.2.1 r0.1.2.2.1 r0.1.2.2.2.1 a0.1 r1.2.1.2.1 r1.2.1.2.2.1 a1 a2 a3 r1.1.1 r4.1 0 := by
 rewrite [e0k, d0n]
 kernel_rfl
theorem f2q (m0 : Nat) (p0 p1 p2 : Int) (p3 : List a0a) (p4 p5 p6 : Int) (p7 : List a0a) (p8 : List Int) (p9 p10 p11 p12 p13 p14 : Int) (p15 : List a0a) (p16 : Int) : a5e (m0 + 1) p0 p1 p2 p3 p4 p5 p6 p7 p8 p9 p10 p11 p12 p13 p14 p15 p16 =
 bif decide (p16 < (List.length p15 : Int)) then
 Option.bind (b6a ((p8, (p9, (p10, ()))), p14, ())) fun r1 =>
 bif r1.1.1 then
 bif inB p16 (List.length p15) then
 bif (decide (((List.length p7) + (List.length ([(nth a0e p15 p16)] : List a0a))) * 24 ≤ 140737488355328) && decide (((List.length p7) + (List.length ([(nth a0e p15 p16)] : List a0a))) ≤ 140737488355328)) then
 a5e m0 p0 p1 p2 p3 p4 p5 p6 (p7 ++ ([(nth a0e p15 p16)] : List a0a)) p8 r1.2.1.2.1 r1.2.1.2.2.1 p11 p12 p13 p14 p15 (IntKind.wrap .i64 (p16 + 1))
 else none
 else none
 else
 a5e m0 p0 p1 p2 p3 p4 p5 p6 p7 p8 r1.2.1.2.1 r1.2.1.2.2.1 p11 p12 p13 p14 p15 (IntKind.wrap .i64 (p16 + 1))
 else
 Option.bind (a2s ((p8, (p9, (p10, ()))), 12, ())) fun r1 =>
 bif decide (r1.1.1 = 0) then
 Option.bind (a9i ((p4, (p5, (p6, (p7, ())))), ())) fun r3 =>
 some ((r3.1, ()), ((p8, r1.2.1.2), ()))
 else
 bif decide (r1.1.1 = 1) then
 Option.bind (b4z ((p4, (p5, (p6, (p7, ())))), ())) fun r4 =>
 Option.bind (b4a (p11, p12, p13, r4.1, ())) fun r5 =>
 some ((r5.1, ()), ((p8, r1.2.1.2), ()))
 else
 some (((p4, (p5, (p6, (p7, ())))), ()), ((p8, r1.2.1.2), ())) := by
 rewrite [d0n]
 kernel_rfl
abbrev d6j : List ATy := [.lptr d3h]
abbrev e1c : List (Bool × Ty) := [(true, a0f)]
abbrev e5e : List RMode := [.own 55]
abbrev h5s : Type := a6m × Unit → Option ((a0b × Unit) × (a6m × Unit))
def g1p : Ctx := { types := TT, globals := [], con := [], mcon := [(94, b0c), (108, d7m), (109, c3o)], keep := [], results := [.cell 2 29], ntmps := 56, n := N }
def g1i : Code := (Tryz.f64.body).getD .skip
def c2a : h5s := hid (d6p g1p g1i d6j e1c e5e)
theorem g0m : c2a = d6p g1p g1i d6j e1c e5e := a0d _
def e5p : MContract := ⟨d6j, e1c, e5e, c2a⟩
theorem h8m : c4m Tryz.prog n0 GG 64 e5p := by
 unfold e5p; rw [g0m]
 exact j5n Tryz.f64 trivial ⟨b6o, h3s, g1t, trivial⟩
theorem h9j (a0 : a6m) : c2a (a0, ()) =
 Option.bind (b7e (a0, ())) fun r0 =>
 Option.bind (b0z ((a0.1, r0.2.1.2), r0.1.1, r0.1.2.1, r0.1.2.2.1, ())) fun r1 =>
 Option.bind (a2s ((a0.1, r1.2.1.2), 60, ())) fun r2 =>
 bif decide (r2.1.1 = 0) then
 bif (decide (((List.length r1.1.1.2.2.2.1) + (List.length ([(r0.1.1, (0, (0, ())))] : List a0a))) * 24 ≤ 140737488355328) && decide (((List.length r1.1.1.2.2.2.1) + (List.length ([(r0.1.1, (0, (0, ())))] : List a0a))) ≤ 140737488355328)) then
 some (((r1.1.1.1, (r1.1.1.2.1, (r1.1.1.2.2.1, ((r1.1.1.2.2.2.1 ++ ([(r0.1.1, (0, (0, ())))] : List a0a)), ())))), ()), ((a0.1, r2.2.1.2), ()))
 else none
 else
 bif decide (r2.1.1 = 1) then
 bif (decide (((List.length r1.1.1.2.2.2.1) + (List.length ([((-1), (0, (0, ())))] : List a0a))) * 24 ≤ 140737488355328) && decide (((List.length r1.1.1.2.2.2.1) + (List.length ([((-1), (0, (0, ())))] : List a0a))) ≤ 140737488355328)) then
 some (((r1.1.1.1, (r1.1.1.2.1, (r1.1.1.2.2.1, ((r1.1.1.2.2.2.1 ++ ([((-1), (0, (0, ())))] : List a0a)), ())))), ()), ((a0.1, r2.2.1.2), ()))
 else none
 else
 bif decide (r2.1.1 = 2) then
 bif decide ((List.length r1.1.1.2.2.2.1 : Int) > 0) then
 bif inB 0 (List.length r1.1.1.2.2.2.1) then
 bif (decide (((List.length r1.1.1.2.2.2.1) + (List.length ([(nth a0e r1.1.1.2.2.2.1 0)] : List a0a))) * 24 ≤ 140737488355328) && decide (((List.length r1.1.1.2.2.2.1) + (List.length ([(nth a0e r1.1.1.2.2.2.1 0)] : List a0a))) ≤ 140737488355328)) then
 some (((r1.1.1.1, (r1.1.1.2.1, (r1.1.1.2.2.1, ((r1.1.1.2.2.2.1 ++ ([(nth a0e r1.1.1.2.2.2.1 0)] : List a0a)), ())))), ()), ((a0.1, r2.2.1.2), ()))
 else none
 else none
 else
 some ((r1.1.1, ()), ((a0.1, r2.2.1.2), ()))
 else
 bif decide (r2.1.1 = 3) then
 some (((0, (0, (0, (([] : List a0a), ())))), ()), ((a0.1, r2.2.1.2), ()))
 else
 some ((r1.1.1, ()), ((a0.1, r2.2.1.2), ())) := by
 rewrite [g0m]
 kernel_rfl
abbrev b2h : List ATy := [.data false (.sl (.int .u8))]
abbrev b3z : List (Bool × Ty) := [(true, a0f), (true, a0f)]
abbrev b3u : List RMode := [.own 55, .own 55]
abbrev e4c : Type := (List Int) × Unit → Option (a0b × a0b × Unit)
def c4d : Ctx := { types := TT, globals := [], con := [], mcon := [(62, e3r), (63, d7p), (64, e5p)], keep := [], results := [.cell 2 29, .cell 3 29], ntmps := 20, n := N }
def c4k : Code := (Tryz.f23.body).getD .skip
def a6j : e4c := hid (a1g c4d c4k b2h b3z b3u)
theorem c4h : a6j = a1g c4d c4k b2h b3z b3u := a0d _
def b3v : Contract := ⟨b2h, b3z, b3u, a6j⟩
theorem e6p : Sound Tryz.prog GG 23 b3v := by
 unfold b3v; rw [c4h]
 exact mkS Tryz.f23 trivial ⟨i0l, g5h, h8m, trivial⟩
theorem e6o (a0 : List Int) : a6j (a0, ()) =
 Option.bind (b2u ((a0, (0, (0, ()))), 3, ())) fun r0 =>
 Option.bind (b2u ((a0, r0.2.1.2), 2, ())) fun r1 =>
 Option.bind (b6a ((a0, r1.2.1.2), 10, ())) fun r2 =>
 bif r2.1.1 then
 Option.bind (c2a ((a0, r2.2.1.2), ())) fun r4 =>
 some (r0.1.1, r4.1.1, ())
 else
 some (r0.1.1, r1.1.1, ()) := by
 rewrite [c4h]
 kernel_rfl
end
end Go.VI

namespace Go.VI
open Go.Proofs
theorem w64 {x : Int} (h0 : -9223372036854775808 ≤ x) (h1 : x ≤ 9223372036854775807) : IntKind.wrap .i64 x = x := by rw [IntKind.wrap_i64]; omega
theorem a1j {k n : Nat} (h : k < n) : inB (k : Int) n = true := by simp [inB]; omega
theorem b9l {t : Ty} {l : List t.den} {k : Nat} (h : k < l.length) : nth t l (k : Int) = l[k] := by simp [nth, List.getD, List.getElem?_eq_getElem h]
theorem ltT {k n : Nat} (h : k < n) : decide ((k : Int) < (n : Int)) = true := decide_eq_true (by omega)
theorem ltF {k n : Nat} (h : ¬ k < n) : decide ((k : Int) < (n : Int)) = false := decide_eq_false (by omega)
theorem a5v (k : Nat) (h : k < 1000000000) : IntKind.wrap .i64 ((k : Int) + 1) = ((k + 1 : Nat) : Int) := by rw [w64 (by omega) (by omega)]; omega
theorem drop_at {α : Type} (s : List α) (k : Nat) (h : k < s.length) : s.drop k = s[k] :: s.drop (k + 1) := List.drop_eq_getElem_cons h
def Small {α : Type} (l : List α) : Prop := l.length ≤ 1048576
theorem c5a (a b c : Int) : a1x (a, b, c, ()) = some (decide (b ≤ a) && decide (a ≤ c), ()) := by
 rw [h5p]
 by_cases h : a ≥ b <;> simp [h]
theorem c0d (a b c : Int) : a6e (a, b, c, ()) = some (decide (b ≤ a) && decide (a ≤ c), ()) := by
 rw [i4j]
 by_cases h : a ≥ b <;> simp [h]
def a8y (c : a0a) (i : Int) : Int := bif decide (i = 0) then c.1 else (bif decide (i = 1) then c.2.1 else c.2.2.1)
def a0k (X Y Z : Int) (c : a0a) : Bool := decide (0 ≤ c.1) && decide (c.1 ≤ X - 1) && (decide (0 ≤ c.2.1) && decide (c.2.1 ≤ Y - 1)) && (decide (0 ≤ c.2.2.1) && decide (c.2.2.1 ≤ Z - 1))
def ltC (a b : a0a) : Bool := decide (a.1 < b.1) || (decide (a.1 = b.1) && (decide (a.2.1 < b.2.1) || (decide (a.2.1 = b.2.1) && decide (a.2.2.1 < b.2.2.1))))
def side (n : Int) : Bool := decide (1 ≤ n) && decide (n ≤ 4)
def sides (X Y Z : Int) : Bool := side X && side Y && side Z
theorem k0j (a b c : Bool) : (bif a then bif b then some (c, ()) else some (false, ()) else some (false, ())) = some (a && b && c, ()) := by cases a <;> cases b <;> rfl
theorem e8d (X Y Z : Int) : b1k (X, Y, Z, ()) = some (sides X Y Z, ()) := by
 simp only [g8y, c0d, Option.bind_some, k0j, sides, side]
theorem i4i (b : a0a) : c8a (b, ()) = some (sides b.1 b.2.1 b.2.2.1, ()) := by
 simp only [i2e, c5a, Option.bind_some, k0j, sides, side]
theorem sides_iff {X Y Z : Int} : sides X Y Z = true ↔ (1 ≤ X ∧ X ≤ 4) ∧ (1 ≤ Y ∧ Y ≤ 4) ∧ (1 ≤ Z ∧ Z ≤ 4) := by
 simp [sides, side, and_assoc]
theorem f0e (h : a0b) (c : a0a) (hs : sides h.1 h.2.1 h.2.2.1 = true) : b5t (h, c, ()) = some (a0k h.1 h.2.1 h.2.2.1 c, ()) := by
 obtain ⟨h1, h2, h3⟩ := sides_iff.1 hs
 simp only [i4q, c0d, Option.bind_some, k0j, a0k]
 rw [w64 (by omega) (by omega), w64 (by omega) (by omega), w64 (by omega) (by omega)]
theorem h9n (b : a0a) (c : a0a) (hs : sides b.1 b.2.1 b.2.2.1 = true) : d3o (b, c, ()) = some (a0k b.1 b.2.1 b.2.2.1 c, ()) := by
 obtain ⟨h1, h2, h3⟩ := sides_iff.1 hs
 simp only [j1v, c5a, Option.bind_some, k0j, a0k]
 rw [w64 (by omega) (by omega), w64 (by omega) (by omega), w64 (by omega) (by omega)]
theorem a6x (h : a0b) : a3n (h, ()) = some ((h.1, h.2.1, h.2.2.1, ()), ()) := i7f h
theorem k1k : N = (N - 4) + 4 := by have := b6u; omega
theorem b9e (a b : a0a) : a4z (a, b, ()) = some (ltC a b, ()) := by
 rw [g5v, k1k, b2y]
 by_cases h1 : a.1 = b.1
 · have w1 : IntKind.wrap .i64 ((0 : Int) + 1) = 1 := by rw [w64] <;> omega
   simp only [h1, w1]
   rw [b2y]
   by_cases h2 : a.2.1 = b.2.1
   · have w2 : IntKind.wrap .i64 ((1 : Int) + 1) = 2 := by rw [w64] <;> omega
     simp only [h2, w2]
     rw [b2y]
     by_cases h3 : a.2.2.1 = b.2.2.1
     · have w3 : IntKind.wrap .i64 ((2 : Int) + 1) = 3 := by rw [w64] <;> omega
       simp only [h3, w3]
       rw [b2y]
       simp [inB, ltC, h1, h2, h3]
     · simp [inB, ltC, h1, h2, h3]
   · simp [inB, ltC, h1, h2]
 · simp [inB, ltC, h1]
theorem j8h (a b : Int) : a9u (a, b, ()) = some (if a < b then -1 else if b < a then 1 else 0, ()) := by
 have hn : ∀ x : Int, a9b (x, ()) = some (false, ()) := fun x => by rw [g4y]; simp
 rw [f7h]
 simp only [hn, Option.bind_some, cond_false]
 by_cases h1 : a < b
 · simp [h1]
 · by_cases h2 : b < a <;> simp [h1, h2]
def g8p (a b : a0a) : Int := if a.1 < b.1 then -1 else if b.1 < a.1 then 1 else if a.2.1 < b.2.1 then -1 else if b.2.1 < a.2.1 then 1 else if a.2.2.1 < b.2.2.1 then -1 else if b.2.2.1 < a.2.2.1 then 1 else 0
theorem b5o (a b : a0a) : a3f (a, b, ()) = some (g8p a b, ()) := by
 have n0 : ∀ x y z : Int, nth (.int .i64) [x, y, z] 0 = x := fun _ _ _ => rfl
 have n1 : ∀ x y z : Int, nth (.int .i64) [x, y, z] 1 = y := fun _ _ _ => rfl
 have n2 : ∀ x y z : Int, nth (.int .i64) [x, y, z] 2 = z := fun _ _ _ => rfl
 have w1 : IntKind.wrap .i64 ((0 : Int) + 1) = 1 := by rw [w64] <;> omega
 have w2 : IntKind.wrap .i64 ((1 : Int) + 1) = 2 := by rw [w64] <;> omega
 have w3 : IntKind.wrap .i64 ((2 : Int) + 1) = 3 := by rw [w64] <;> omega
 rw [c6d, d3w, k1k, a4e]
 simp only [j8h, n0, List.length_cons, List.length_nil, Option.bind_some]
 by_cases h1 : a.1 = b.1
 · rw [w1, a4e]
   simp only [j8h, n1, List.length_cons, List.length_nil, Option.bind_some]
   by_cases h2 : a.2.1 = b.2.1
   · rw [w2, a4e]
     simp only [j8h, n2, List.length_cons, List.length_nil, Option.bind_some]
     by_cases h3 : a.2.2.1 = b.2.2.1
     · rw [w3, a4e]
       simp [inB, g8p, h1, h2, h3]
     · rcases Int.lt_or_gt_of_ne h3 with h | h
       · simp [inB, g8p, h1, h2, h]
       · have h' : ¬ a.2.2.1 < b.2.2.1 := by omega
         simp [inB, g8p, h1, h2, h, h']
   · rcases Int.lt_or_gt_of_ne h2 with h | h
     · simp [inB, g8p, h1, h]
     · have h' : ¬ a.2.1 < b.2.1 := by omega
       simp [inB, g8p, h1, h, h']
 · rcases Int.lt_or_gt_of_ne h1 with h | h
   · simp [inB, g8p, h]
   · have h' : ¬ a.1 < b.1 := by omega
     simp [inB, g8p, h, h']
theorem j6s (a b : a0a) : decide (g8p a b ≥ 0) = !ltC a b := by
 unfold g8p ltC
 by_cases h1 : a.1 < b.1
 · simp [h1]
 · by_cases h1' : b.1 < a.1
   · have e : ¬ a.1 = b.1 := by omega
     simp [h1, h1', e]
   · have e : a.1 = b.1 := by omega
     by_cases h2 : a.2.1 < b.2.1
     · simp [e, h2]
     · by_cases h2' : b.2.1 < a.2.1
       · have e2 : ¬ a.2.1 = b.2.1 := by omega
         simp [e, h2, h2', e2]
       · have e2 : a.2.1 = b.2.1 := by omega
         by_cases h3 : a.2.2.1 < b.2.2.1
         · simp [e, e2, h3]
         · by_cases h3' : b.2.2.1 < a.2.2.1
           · simp [e, e2, h3, h3']
           · simp [e, e2, h3, h3']
def e2y (X Y Z : Int) : Option a0a → List a0a → Bool
 | _, [] => true
 | p, c :: r => a0k X Y Z c && (match p with | none => true | some q => ltC q c) && e2y X Y Z (some c) r
def e3m (h : a0b) : Bool := sides h.1 h.2.1 h.2.2.1 && e2y h.1 h.2.1 h.2.2.1 none h.2.2.2.1
def d9s (l : List a0a) (k : Nat) : Option a0a := if k = 0 then none else l[k - 1]?
theorem j8p {k : Nat} (h0 : 0 < k) (h : k < 1000000000) : IntKind.wrap .i64 ((k : Int) - 1) = ((k - 1 : Nat) : Int) := by rw [w64 (by omega) (by omega)]; omega
theorem f6r (X Y Z : Int) (l : List a0a) (hs : sides X Y Z = true) (hl : Small l) : ∀ (d k m : Nat), l.length = k + d → d < m → a9a m X Y Z l (k : Int) = some (e2y X Y Z (d9s l k) (l.drop k), ())
 | d, k, 0, hk, hm => by omega
 | d, k, m + 1, hk, hm => by
  unfold Small at hl
  rw [g8l]
  by_cases hlt : k < l.length
  · have ih := f6r X Y Z l hs hl (d - 1) (k + 1) m (by omega) (by omega)
    have hp : d9s l (k + 1) = some l[k] := by simp [d9s, List.getElem?_eq_getElem hlt]
    rw [hp] at ih
    rw [a5v k (by omega), ih, drop_at l k hlt, ltT hlt, a1j hlt, b9l (t := a0e) hlt, f0e _ _ hs]
    simp only [cond_true, Option.bind_some, e2y]
    cases a0k X Y Z l[k] with
    | false => simp
    | true =>
     by_cases h0 : k = 0
     · subst h0
       simp [d9s]
     · have hk1 : k - 1 < l.length := by omega
       have hpos : decide ((k : Int) > 0) = true := decide_eq_true (by omega)
       rw [hpos, j8p (by omega) (by omega), a1j hk1, b9l (t := a0e) hk1, b9e]
       simp only [d9s, h0, if_false, List.getElem?_eq_getElem hk1, cond_true, Option.bind_some, Bool.not_true, cond_false]
       cases ltC l[k - 1] l[k] <;> simp
  · rw [ltF hlt, List.drop_eq_nil_of_le (by omega)]
    simp [e2y]
theorem f2v (h : a0b) (hl : Small h.2.2.2.1) : b3o (h, ()) = some (e3m h, ()) := by
 rw [h3o, e8d]
 unfold e3m
 cases hs : sides h.1 h.2.1 h.2.2.1 with
 | false => simp
 | true =>
  have := f6r _ _ _ h.2.2.2.1 hs hl h.2.2.2.1.length 0 N (by simp) (by unfold Small at hl; have := b6u; omega)
  simp only [Int.natCast_zero, List.drop_zero, d9s, if_true] at this
  simp [this]
theorem f4w (X Y Z : Int) (l : List a0a) (hs : sides X Y Z = true) (hl : Small l) : ∀ (d k m : Nat), l.length = k + d → d < m → a9h m X Y Z l l (l.length : Int) (k : Int) = some (e2y X Y Z (d9s l k) (l.drop k), ())
 | d, k, 0, hk, hm => by omega
 | d, k, m + 1, hk, hm => by
  unfold Small at hl
  rw [g5f]
  by_cases hlt : k < l.length
  · have ih := f4w X Y Z l hs hl (d - 1) (k + 1) m (by omega) (by omega)
    have hp : d9s l (k + 1) = some l[k] := by simp [d9s, List.getElem?_eq_getElem hlt]
    rw [hp] at ih
    rw [a5v k (by omega), ih, drop_at l k hlt, ltT hlt, a1j hlt, b9l (t := a0e) hlt, a6x]
    simp only [cond_true, Option.bind_some]
    rw [h9n _ _ hs]
    simp only [cond_true, Option.bind_some, e2y]
    cases a0k X Y Z l[k] with
    | false => simp
    | true =>
     by_cases h0 : k = 0
     · subst h0
       simp [d9s]
     · have hk1 : k - 1 < l.length := by omega
       have hpos : decide ((k : Int) > 0) = true := decide_eq_true (by omega)
       rw [hpos, j8p (by omega) (by omega), a1j hk1, b9l (t := a0e) hk1, b5o]
       simp only [d9s, h0, if_false, List.getElem?_eq_getElem hk1, cond_true, Option.bind_some, Bool.not_true, cond_false, j6s]
       cases ltC l[k - 1] l[k] <;> simp
  · rw [ltF hlt, List.drop_eq_nil_of_le (by omega)]
    simp [e2y]
theorem b7w (h : a0b) (hl : Small h.2.2.2.1) : a6p (h, ()) = some (e3m h, ()) := by
 rw [h5j, a6x]
 simp only [Option.bind_some]
 rw [i4i]
 unfold e3m
 cases hs : sides h.1 h.2.1 h.2.2.1 with
 | false => simp [hs]
 | true =>
  have := f4w _ _ _ h.2.2.2.1 hs hl h.2.2.2.1.length 0 N (by simp) (by unfold Small at hl; have := b6u; omega)
  simp only [Int.natCast_zero, List.drop_zero, d9s, if_true] at this
  simp [this, hs]
end Go.VI
namespace Go.VI
open Go.Proofs
end Go.VI
namespace Go.VI
open Go.Proofs
theorem wu64 (n : Int) : IntKind.wrap .u64 n = n % 18446744073709551616 := by simp [IntKind.wrap, IntKind.bits, IntKind.signed]
theorem i2a (v : BitVec 64) : IntKind.wrap .u64 (v.toNat : Int) = (v.toNat : Int) := by
 rw [wu64]
 have := v.isLt
 omega
theorem ofInt64 (v : BitVec 64) : BitVec.ofInt 64 (v.toNat : Int) = v := by
 rw [BitVec.ofInt_natCast, BitVec.ofNat_toNat, BitVec.setWidth_eq]
theorem k0e (v w : BitVec 64) : intBits .or .u64 (v.toNat : Int) (w.toNat : Int) = ((v ||| w).toNat : Int) := by
 simp only [intBits]
 rw [show IntKind.bits .u64 = 64 from rfl, ofInt64, ofInt64, i2a]
theorem j8d (v w : BitVec 64) : intBits .and .u64 (v.toNat : Int) (w.toNat : Int) = ((v &&& w).toNat : Int) := by
 simp only [intBits]
 rw [show IntKind.bits .u64 = 64 from rfl, ofInt64, ofInt64, i2a]
theorem j3x (v w : BitVec 64) : intBits .andNot .u64 (v.toNat : Int) (w.toNat : Int) = ((v &&& ~~~w).toNat : Int) := by
 simp only [intBits]
 rw [show IntKind.bits .u64 = 64 from rfl, ofInt64, ofInt64, i2a]
theorem j3z (i : Nat) : j4u .u64 1 (i : Int) = ((BitVec.twoPow 64 i).toNat : Int) := by
 unfold j4u
 rw [show IntKind.bits .u64 = 64 from rfl, BitVec.toNat_twoPow, Int.toNat_natCast, wu64, Int.one_mul]
 by_cases h : i < 64
 · rw [Nat.min_eq_left (by omega), Int.natCast_emod, Int.natCast_pow]
   rfl
 · rw [Nat.min_eq_right (by omega)]
   have : 2 ^ i % 2 ^ 64 = 0 := Nat.mod_eq_zero_of_dvd (Nat.pow_dvd_pow 2 (by omega))
   rw [this]
   decide
theorem k0w (v : BitVec 64) (i : Nat) : b9x .u64 (v.toNat : Int) (i : Int) = ((v >>> i).toNat : Int) := by
 unfold b9x
 rw [show IntKind.bits .u64 = 64 from rfl, BitVec.toNat_ushiftRight, Int.toNat_natCast, Nat.shiftRight_eq_div_pow, Int.fdiv_eq_ediv_of_nonneg _ (Int.le_of_lt (Int.pow_pos (by decide)))]
 by_cases h : i < 64
 · rw [Nat.min_eq_left (by omega)]
   push_cast
   rfl
 · rw [Nat.min_eq_right (by omega), Nat.div_eq_of_lt (Nat.lt_of_lt_of_le v.isLt (Nat.pow_le_pow_right (by omega) (by omega)))]
   have := v.isLt
   omega
theorem h7u (v : BitVec 64) (i : Nat) : d4d ((v.toNat : Int), (i : Int), ()) = some (v.getLsbD i, ()) := by
 have h2 : intBits .and .u64 ((v >>> i).toNat : Int) 1 = (((v >>> i) &&& 1#64).toNat : Int) := j8d (v >>> i) 1#64
 rw [j1a, k0w, h2, decide_eq_true (Int.natCast_nonneg i), BitVec.and_one_eq_setWidth_ofBool_getLsbD, BitVec.getLsbD_ushiftRight]
 simp only [cond_true, Nat.add_zero]
 cases v.getLsbD i <;> simp
def idx (Y Z : Int) (c : a0a) : Nat := ((c.1 * Y + c.2.1) * Z + c.2.2.1).toNat
theorem within3_iff {X Y Z : Int} {c : a0a} : a0k X Y Z c = true ↔ (0 ≤ c.1 ∧ c.1 ≤ X - 1) ∧ (0 ≤ c.2.1 ∧ c.2.1 ≤ Y - 1) ∧ (0 ≤ c.2.2.1 ∧ c.2.2.1 ≤ Z - 1) := by
 simp [a0k, and_assoc]
theorem ltC_iff {a b : a0a} : ltC a b = true ↔ a.1 < b.1 ∨ (a.1 = b.1 ∧ (a.2.1 < b.2.1 ∨ (a.2.1 = b.2.1 ∧ a.2.2.1 < b.2.2.1))) := by
 simp [ltC]
theorem four {n : Int} (h0 : 1 ≤ n) (h1 : n ≤ 4) : n = 1 ∨ n = 2 ∨ n = 3 ∨ n = 4 := by omega
theorem idx_eq {X Y Z : Int} (hs : sides X Y Z = true) {c : a0a} (hc : a0k X Y Z c = true) : ((idx Y Z c : Nat) : Int) = (c.1 * Y + c.2.1) * Z + c.2.2.1 ∧ idx Y Z c < (X * Y * Z).toNat ∧ X * Y * Z ≤ 64 ∧ c.1 * Y ≤ 16 ∧ 0 ≤ c.1 * Y ∧ 0 ≤ (c.1 * Y + c.2.1) * Z := by
 obtain ⟨h1, h2, h3⟩ := sides_iff.1 hs
 obtain ⟨c1, c2, c3⟩ := within3_iff.1 hc
 unfold idx
 rcases four h1.1 h1.2 with rfl | rfl | rfl | rfl <;> rcases four h2.1 h2.2 with rfl | rfl | rfl | rfl <;> rcases four h3.1 h3.2 with rfl | rfl | rfl | rfl <;> omega
theorem i6g {X Y Z : Int} (hs : sides X Y Z = true) {a b : a0a} (ha : a0k X Y Z a = true) (hb : a0k X Y Z b = true) : idx Y Z a < idx Y Z b ↔ ltC a b = true := by
 obtain ⟨h1, h2, h3⟩ := sides_iff.1 hs
 obtain ⟨a1, a2, a3⟩ := within3_iff.1 ha
 obtain ⟨b1, b2, b3⟩ := within3_iff.1 hb
 rw [ltC_iff]
 unfold idx
 rcases four h2.1 h2.2 with rfl | rfl | rfl | rfl <;> rcases four h3.1 h3.2 with rfl | rfl | rfl | rfl <;> omega
theorem a5q {a b : a0a} (h1 : a.1 = b.1) (h2 : a.2.1 = b.2.1) (h3 : a.2.2.1 = b.2.2.1) : a = b := by
 obtain ⟨a1, a2, a3, ⟨⟩⟩ := a
 obtain ⟨b1, b2, b3, ⟨⟩⟩ := b
 simp_all
theorem f3n {a b : a0a} (h : ltC a b = false) (h' : ltC b a = false) : a = b := by
 have h1 := mt (ltC_iff (a := a) (b := b)).2 (by simp [h])
 have h2 := mt (ltC_iff (a := b) (b := a)).2 (by simp [h'])
 refine a5q ?_ ?_ ?_ <;> omega
theorem b9s (a : a0a) : ltC a a = false := by
 rw [Bool.eq_false_iff]; intro h
 have := ltC_iff.1 h
 omega
theorem d5i {a b c : a0a} (h : ltC a b = true) (h' : ltC b c = true) : ltC a c = true := by
 have h1 := ltC_iff.1 h
 have h2 := ltC_iff.1 h'
 rw [ltC_iff]
 omega
theorem h4q {X Y Z : Int} (hs : sides X Y Z = true) {a b : a0a} (ha : a0k X Y Z a = true) (hb : a0k X Y Z b = true) (h : idx Y Z a = idx Y Z b) : a = b := by
 refine f3n ?_ ?_ <;> rw [Bool.eq_false_iff]
 · intro h'; have := (i6g hs ha hb).2 h'; omega
 · intro h'; have := (i6g hs hb ha).2 h'; omega
theorem d7e {X Y Z : Int} (hs : sides X Y Z = true) {c : a0a} (hc : a0k X Y Z c = true) : b2q ((X, Y, Z, ()), c, ()) = some ((idx Y Z c : Int), ()) := by
 obtain ⟨h1, h2, h3, h4, h5, h6⟩ := idx_eq hs hc
 obtain ⟨s1, s2, s3⟩ := sides_iff.1 hs
 obtain ⟨c1, c2, c3⟩ := within3_iff.1 hc
 have hm : 0 ≤ (c.1 * Y + c.2.1) * Z ∧ (c.1 * Y + c.2.1) * Z ≤ 1000 := by omega
 rw [i4b, h1]
 simp only
 rw [w64 (x := c.1 * Y) (by omega) (by omega), w64 (x := c.1 * Y + c.2.1) (by omega) (by omega), w64 (x := (c.1 * Y + c.2.1) * Z) (by omega) (by omega), w64 (by omega) (by omega)]
end Go.VI
namespace Go.VI
open Go.Proofs
def Srt (l : List a0a) : Prop := l.Pairwise fun a b => ltC a b = true
def Ins (X Y Z : Int) (l : List a0a) : Prop := ∀ c ∈ l, a0k X Y Z c = true
theorem h1i (X Y Z : Int) : ∀ (l : List a0a) (p : Option a0a), e2y X Y Z p l = true ↔ Ins X Y Z l ∧ Srt l ∧ ∀ q, p = some q → ∀ c ∈ l, ltC q c = true
 | [], p => by simp [e2y, Ins, Srt]
 | c :: r, p => by
  simp only [e2y, Bool.and_eq_true, h1i X Y Z r (some c), Ins, Srt, List.pairwise_cons, List.mem_cons, forall_eq_or_imp]
  constructor
  · rintro ⟨⟨h1, h2⟩, h3, h4, h5⟩
    refine ⟨⟨h1, h3⟩, ⟨h5 c rfl, h4⟩, ?_⟩
    rintro q rfl
    simp only at h2
    exact ⟨h2, fun d hd => d5i h2 (h5 c rfl d hd)⟩
  · rintro ⟨⟨h1, h3⟩, ⟨h5, h4⟩, h6⟩
    refine ⟨⟨h1, ?_⟩, h3, h4, ?_⟩
    · cases p with
      | none => rfl
      | some q => exact (h6 q rfl).1
    · rintro q ⟨⟩
      exact h5
theorem okHeap_iff {h : a0b} : e3m h = true ↔ sides h.1 h.2.1 h.2.2.1 = true ∧ Ins h.1 h.2.1 h.2.2.1 h.2.2.2.1 ∧ Srt h.2.2.2.1 := by
 unfold e3m
 rw [Bool.and_eq_true, h1i]
 simp
theorem e4z : ∀ (l l' : List a0a), Srt l → Srt l' → (∀ c, c ∈ l ↔ c ∈ l') → l = l'
 | [], [], _, _, _ => rfl
 | [], b :: r', _, _, h => by have := (h b).2 (by simp); simp at this
 | a :: r, [], _, _, h => by have := (h a).1 (by simp); simp at this
 | a :: r, b :: r', h1, h2, h => by
  unfold Srt at h1 h2
  rw [List.pairwise_cons] at h1 h2
  have hab : a = b := by
   have ha := (h a).1 (by simp)
   have hb := (h b).2 (by simp)
   rcases List.mem_cons.1 ha with e | ha'
   · exact e
   · rcases List.mem_cons.1 hb with e | hb'
     · exact e.symm
     · have x1 := h2.1 a ha'
       have x2 := h1.1 b hb'
       have := d5i x1 x2
       rw [b9s] at this
       cases this
  subst hab
  have nr : ∀ c ∈ r, c ≠ a := fun c hc e => by have := h1.1 c hc; rw [e, b9s] at this; cases this
  have nr' : ∀ c ∈ r', c ≠ a := fun c hc e => by have := h2.1 c hc; rw [e, b9s] at this; cases this
  refine congrArg _ (e4z r r' h1.2 h2.2 fun c => ⟨fun hc => ?_, fun hc => ?_⟩)
  · rcases List.mem_cons.1 ((h c).1 (by simp [hc])) with e | k
    · exact absurd e (nr c hc)
    · exact k
  · rcases List.mem_cons.1 ((h c).2 (by simp [hc])) with e | k
    · exact absurd e (nr' c hc)
    · exact k
theorem Srt.filter {l : List a0a} (h : Srt l) (p : a0a → Bool) : Srt (l.filter p) := List.Pairwise.filter p h
theorem Ins.filter {X Y Z : Int} {l : List a0a} (h : Ins X Y Z l) (p : a0a → Bool) : Ins X Y Z (l.filter p) := fun c hc => h c (List.mem_filter.1 hc).1
theorem Srt.nodup {l : List a0a} (h : Srt l) : l.Nodup := List.Pairwise.imp (fun {a b} hab e => by rw [e, b9s] at hab; cases hab) h
def mask (Y Z : Int) (l : List a0a) (v : BitVec 64) : BitVec 64 := l.foldl (fun v c => v ||| BitVec.twoPow 64 (idx Y Z c)) v
theorem g3t (Y Z : Int) (i : Nat) : ∀ (l : List a0a) (v : BitVec 64), (mask Y Z l v).getLsbD i = (v.getLsbD i || (decide (i < 64) && l.any fun c => decide (idx Y Z c = i)))
 | [], v => by simp [mask]
 | c :: r, v => by
  have := g3t Y Z i r (v ||| BitVec.twoPow 64 (idx Y Z c))
  simp only [mask, List.foldl_cons, List.any_cons] at this ⊢
  rw [this, BitVec.getLsbD_or, BitVec.getLsbD_twoPow]
  by_cases h : idx Y Z c = i
  · simp only [h, decide_true, Bool.and_true, Bool.true_or]
    cases v.getLsbD i <;> cases decide (i < 64) <;> simp
  · simp [h]
theorem f3d {X Y Z : Int} (hs : sides X Y Z = true) {l : List a0a} (hl : Ins X Y Z l) {c : a0a} (hc : a0k X Y Z c = true) : (mask Y Z l 0).getLsbD (idx Y Z c) = decide (c ∈ l) := by
 have h64 : idx Y Z c < 64 := by
  obtain ⟨_, h2, h3, _⟩ := idx_eq hs hc
  omega
 rw [g3t, decide_eq_true h64]
 simp only [BitVec.ofNat_eq_ofNat, BitVec.getLsbD_zero, Bool.false_or, Bool.true_and]
 by_cases h : c ∈ l
 · rw [decide_eq_true h]
   exact List.any_eq_true.2 ⟨c, h, by simp⟩
 · rw [decide_eq_false h, Bool.eq_false_iff]
   intro ha
   obtain ⟨d, hd, e⟩ := List.any_eq_true.1 ha
   exact h (h4q hs (hl d hd) hc (by simpa using e) ▸ hd)
theorem j0n (X Y Z : Int) (l : List a0a) (hs : sides X Y Z = true) (hl : Small l) (hi : Ins X Y Z l) : ∀ (d k m : Nat) (v : BitVec 64), l.length = k + d → d < m →
 b4k m X Y Z l (v.toNat : Int) l (l.length : Int) (k : Int) = some (((mask Y Z (l.drop k) v).toNat : Int), ())
 | d, k, 0, v, hk, hm => by omega
 | d, k, m + 1, v, hk, hm => by
  unfold Small at hl
  rw [g9c]
  by_cases hlt : k < l.length
  · rw [ltT hlt, a1j hlt, b9l (t := a0e) hlt, a6x]
    simp only [cond_true, Option.bind_some]
    rw [d7e hs (hi _ (List.getElem_mem hlt))]
    simp only [Option.bind_some, decide_eq_true (Int.natCast_nonneg (idx Y Z l[k])), cond_true]
    rw [j3z, k0e, a5v k (by omega), j0n X Y Z l hs hl hi (d - 1) (k + 1) m _ (by omega) (by omega), drop_at l k hlt]
    rfl
  · rw [ltF hlt, List.drop_eq_nil_of_le (by omega)]
    rfl
theorem g0o {X Y Z : Int} {l : List a0a} (hs : sides X Y Z = true) (hl : Small l) (hi : Ins X Y Z l) : b2m ((X, Y, Z, l, ()), ()) = some (((mask Y Z l 0).toNat : Int), ()) := by
 have := j0n X Y Z l hs hl hi l.length 0 N 0 (by simp) (by unfold Small at hl; have := b6u; omega)
 rw [h9q]
 simpa using this
theorem i9k (X Y Z : Int) (l : List a0a) (c : a0a) (hl : Small l) : ∀ (d k m : Nat), l.length = k + d → d < m →
 b4u m X Y Z l c.1 c.2.1 c.2.2.1 (k : Int) = some (decide (c ∈ l.drop k), ())
 | d, k, 0, hk, hm => by omega
 | d, k, m + 1, hk, hm => by
  unfold Small at hl
  rw [g9x]
  by_cases hlt : k < l.length
  · rw [ltT hlt, a1j hlt, b9l (t := a0e) hlt, a5v k (by omega), i9k X Y Z l c hl (d - 1) (k + 1) m (by omega) (by omega), drop_at l k hlt]
    simp only [cond_true, Bool.and_true]
    by_cases he : l[k] = c
    · simp [he]
    · have hne : (decide ((l[k]).1 = c.1) && (decide ((l[k]).2.1 = c.2.1) && decide ((l[k]).2.2.1 = c.2.2.1))) = false := by
       rw [Bool.eq_false_iff]
       intro h
       simp only [Bool.and_eq_true, decide_eq_true_eq] at h
       exact he (a5q h.1 h.2.1 h.2.2)
      rw [hne]
      simp only [List.mem_cons, Ne.symm he, false_or, cond_false]
  · rw [ltF hlt, List.drop_eq_nil_of_le (by omega)]
    simp
theorem i4g (X Y Z : Int) (l : List a0a) (c : a0a) (hl : Small l) : b2x ((X, Y, Z, l, ()), c, ()) = some (decide (c ∈ l), ()) := by
 have := i9k X Y Z l c hl l.length 0 N (by simp) (by unfold Small at hl; have := b6u; omega)
 rw [i0z]
 simpa using this
def cellOf (Y Z : Int) (i : Nat) : a0a := ((i : Int) / Z / Y, (i : Int) / Z % Y, (i : Int) % Z, ())
theorem c2s {X Y Z : Int} (hs : sides X Y Z = true) {i : Nat} (hi : i < (X * Y * Z).toNat) : a0k X Y Z (cellOf Y Z i) = true ∧ idx Y Z (cellOf Y Z i) = i := by
 obtain ⟨h1, h2, h3⟩ := sides_iff.1 hs
 rw [within3_iff]
 unfold idx cellOf
 rcases four h2.1 h2.2 with rfl | rfl | rfl | rfl <;> rcases four h3.1 h3.2 with rfl | rfl | rfl | rfl <;> simp only at * <;> omega
theorem h3k {X Y Z : Int} (hs : sides X Y Z = true) {i : Nat} (hi : i < 64) : c5s ((X, Y, Z, ()), (i : Int), ()) = some (cellOf Y Z i, ()) := by
 obtain ⟨h1, h2, h3⟩ := sides_iff.1 hs
 have hy : (!decide (Y = 0)) = true := by simp; omega
 have hz : (!decide (Z = 0)) = true := by simp; omega
 rw [i7t]
 simp only [hy, hz, cond_true]
 rw [Int.tdiv_eq_ediv_of_nonneg (Int.natCast_nonneg i), Int.tmod_eq_emod_of_nonneg (Int.natCast_nonneg i)]
 have hq : 0 ≤ (i : Int) / Z ∧ (i : Int) / Z ≤ 64 := by
  rcases four h3.1 h3.2 with rfl | rfl | rfl | rfl <;> omega
 rw [w64 (x := (i : Int) / Z) (by omega) (by omega), Int.tdiv_eq_ediv_of_nonneg hq.1, Int.tmod_eq_emod_of_nonneg hq.1]
 have hq2 : 0 ≤ (i : Int) / Z / Y ∧ (i : Int) / Z / Y ≤ 64 := by
  rcases four h2.1 h2.2 with rfl | rfl | rfl | rfl <;> omega
 rw [w64 (by omega) (by omega)]
 rfl
def a5m (Y Z : Int) (v : BitVec 64) : (d k : Nat) → List a0a
 | 0, _ => []
 | d + 1, k => if v.getLsbD k then cellOf Y Z k :: a5m Y Z v d (k + 1) else a5m Y Z v d (k + 1)
def a3x (X Y Z : Int) (v : BitVec 64) : List a0a := a5m Y Z v (X * Y * Z).toNat 0
theorem e2m (Y Z : Int) (v : BitVec 64) (c : a0a) : ∀ (d k : Nat), c ∈ a5m Y Z v d k ↔ ∃ i, k ≤ i ∧ i < k + d ∧ v.getLsbD i = true ∧ cellOf Y Z i = c
 | 0, k => by simp only [a5m, List.not_mem_nil, false_iff]; rintro ⟨i, h1, h2, _⟩; omega
 | d + 1, k => by
  have ih := e2m Y Z v c d (k + 1)
  have key : c ∈ a5m Y Z v (d + 1) k ↔ (v.getLsbD k = true ∧ cellOf Y Z k = c) ∨ c ∈ a5m Y Z v d (k + 1) := by
   simp only [a5m]
   by_cases h : v.getLsbD k = true
   · simp [h, eq_comm]
   · simp [h]
  rw [key, ih]
  constructor
  · rintro (⟨h1, h2⟩ | ⟨i, h1, h2, h3⟩)
    · exact ⟨k, by omega, by omega, h1, h2⟩
    · exact ⟨i, by omega, by omega, h3⟩
  · rintro ⟨i, h1, h2, h3, h4⟩
    by_cases e : i = k
    · subst e; exact .inl ⟨h3, h4⟩
    · exact .inr ⟨i, by omega, by omega, h3, h4⟩
theorem c5p {X Y Z : Int} (hs : sides X Y Z = true) (v : BitVec 64) (c : a0a) : c ∈ a3x X Y Z v ↔ a0k X Y Z c = true ∧ v.getLsbD (idx Y Z c) = true := by
 unfold a3x
 rw [e2m]
 constructor
 · rintro ⟨i, _, h2, h3, rfl⟩
   obtain ⟨w1, w2⟩ := c2s hs (i := i) (by omega)
   exact ⟨w1, by rw [w2]; exact h3⟩
 · rintro ⟨h1, h2⟩
   obtain ⟨_, hlt, _⟩ := idx_eq hs h1
   obtain ⟨w1, w2⟩ := c2s hs hlt
   exact ⟨idx Y Z c, by omega, by omega, h2, h4q hs w1 h1 w2⟩
theorem g0a {X Y Z : Int} (hs : sides X Y Z = true) (v : BitVec 64) : ∀ (d k : Nat), k + d ≤ (X * Y * Z).toNat → Srt (a5m Y Z v d k)
 | 0, k, _ => by simp [a5m, Srt]
 | d + 1, k, h => by
  have ih := g0a hs v d (k + 1) (by omega)
  simp only [a5m]
  by_cases hb : v.getLsbD k = true
  · rw [if_pos hb]
    refine List.pairwise_cons.2 ⟨fun c hc => ?_, ih⟩
    obtain ⟨i, h1, h2, _, rfl⟩ := (e2m Y Z v c d (k + 1)).1 hc
    obtain ⟨w1, w2⟩ := c2s hs (i := i) (by omega)
    obtain ⟨x1, x2⟩ := c2s hs (i := k) (by omega)
    exact (i6g hs x1 w1).1 (by omega)
  · rw [if_neg hb]; exact ih
theorem b6g {X Y Z : Int} (hs : sides X Y Z = true) (v : BitVec 64) : Srt (a3x X Y Z v) := g0a hs v _ 0 (by omega)
theorem c7i (Y Z : Int) (v : BitVec 64) : ∀ (d k : Nat), (a5m Y Z v d k).length ≤ d
 | 0, k => by simp [a5m]
 | d + 1, k => by
  have := c7i Y Z v d (k + 1)
  simp only [a5m]
  split <;> simp <;> omega
theorem c2q {X Y Z : Int} (hs : sides X Y Z = true) : 1 ≤ X * Y * Z ∧ X * Y * Z ≤ 64 ∧ 1 ≤ X * Y ∧ X * Y ≤ 16 := by
 obtain ⟨h1, h2, h3⟩ := sides_iff.1 hs
 rcases four h1.1 h1.2 with rfl | rfl | rfl | rfl <;> rcases four h2.1 h2.2 with rfl | rfl | rfl | rfl <;> omega
theorem h7y {X Y Z : Int} (hs : sides X Y Z = true) (v : BitVec 64) : Small (a3x X Y Z v) := by
 have := c7i Y Z v (X * Y * Z).toNat 0
 have := c2q hs
 unfold Small a3x
 omega
theorem f8m {X Y Z : Int} (hs : sides X Y Z = true) (v : BitVec 64) : ∀ (d k m : Nat) (acc : List a0a), (X * Y * Z).toNat = k + d → d < m → acc.length ≤ k →
 b6l m X Y Z (v.toNat : Int) acc (X * Y * Z) (k : Int) = some (acc ++ a5m Y Z v d k, ())
 | d, k, 0, acc, hk, hm, ha => by omega
 | 0, k, m + 1, acc, hk, hm, ha => by
  rw [g1d, decide_eq_false (by have := c2q hs; omega)]
  simp [a5m]
 | d + 1, k, m + 1, acc, hk, hm, ha => by
  have hsz := c2q hs
  rw [g1d, decide_eq_true (by omega), h7u, h3k hs (by omega), a5v k (by omega)]
  simp only [cond_true, Option.bind_some, a5m]
  cases hb : v.getLsbD k with
  | false =>
   simp only [cond_false, Bool.false_eq_true, if_false]
   exact f8m hs v d (k + 1) m acc (by omega) (by omega) (by omega)
  | true =>
   simp only [List.length_cons, List.length_nil, cond_true, if_true]
   rw [decide_eq_true (by omega), decide_eq_true (by omega), f8m hs v d (k + 1) m _ (by omega) (by omega) (by simp; omega)]
   simp
theorem h1f {X Y Z : Int} (hs : sides X Y Z = true) (v : BitVec 64) : c5t ((X, Y, Z, ()), (v.toNat : Int), ()) = some (a3x X Y Z v, ()) := by
 have hsz := c2q hs
 have := f8m hs v (X * Y * Z).toNat 0 N [] (by omega) (by have := b6u; omega) (by simp)
 rw [i8g, h2p]
 simp only [Option.bind_some]
 rw [w64 (x := X * Y) (by omega) (by omega), w64 (by omega) (by omega)]
 exact this
theorem h1j {X Y Z : Int} (hs : sides X Y Z = true) (v : BitVec 64) : c5r ((X, Y, Z, ()), (v.toNat : Int), ()) = some ((X, Y, Z, a3x X Y Z v, ()), ()) := by
 rw [i8o, h1f hs]; rfl
theorem i4o {X Y Z : Int} (hs : sides X Y Z = true) {l : List a0a} (hi : Ins X Y Z l) (h : Srt l) : a3x X Y Z (mask Y Z l 0) = l := by
 refine e4z _ _ (b6g hs _) h fun c => ?_
 rw [c5p hs]
 constructor
 · rintro ⟨h1, h2⟩
   rw [f3d hs hi h1] at h2
   simpa using h2
 · intro hc
   exact ⟨hi c hc, by rw [f3d hs hi (hi c hc)]; simpa using hc⟩
end Go.VI
namespace Go.VI
open Go.Proofs
def stp (k : Nat) (c : a0a) : a0a := match k with
 | 0 => (c.1 + -1, c.2.1, c.2.2.1, ())
 | 1 => (c.1 + 1, c.2.1, c.2.2.1, ())
 | 2 => (c.1, c.2.1 + -1, c.2.2.1, ())
 | 3 => (c.1, c.2.1 + 1, c.2.2.1, ())
 | 4 => (c.1, c.2.1, c.2.2.1 + -1, ())
 | _ => (c.1, c.2.1, c.2.2.1 + 1, ())
def e6t (c : a0a) : Prop := -1000 ≤ c.1 ∧ c.1 ≤ 1000 ∧ -1000 ≤ c.2.1 ∧ c.2.1 ≤ 1000 ∧ -1000 ≤ c.2.2.1 ∧ c.2.2.1 ≤ 1000
theorem j1q {X Y Z : Int} (hs : sides X Y Z = true) {c : a0a} (hc : a0k X Y Z c = true) : e6t c := by
 obtain ⟨s1, s2, s3⟩ := sides_iff.1 hs
 obtain ⟨w1, w2, w3⟩ := within3_iff.1 hc
 unfold e6t; omega
theorem six {k : Nat} (h : k < 6) : k = 0 ∨ k = 1 ∨ k = 2 ∨ k = 3 ∨ k = 4 ∨ k = 5 := by omega
theorem j2x (c : a0a) (hc : e6t c) (a b d : Int) (ha : -1 ≤ a ∧ a ≤ 1) (hb : -1 ≤ b ∧ b ≤ 1) (hd : -1 ≤ d ∧ d ≤ 1) : a7d (c, (a, (b, (d, ()))), ()) = some ((c.1 + a, c.2.1 + b, c.2.2.1 + d, ()), ()) := by
 unfold e6t at hc
 rw [g3y]
 simp only
 rw [w64 (by omega) (by omega), w64 (by omega) (by omega), w64 (by omega) (by omega)]
theorem k1g (c : a0a) (k : Nat) : stp k c = match k with
 | 0 => (c.1 + -1, c.2.1 + 0, c.2.2.1 + 0, ())
 | 1 => (c.1 + 1, c.2.1 + 0, c.2.2.1 + 0, ())
 | 2 => (c.1 + 0, c.2.1 + -1, c.2.2.1 + 0, ())
 | 3 => (c.1 + 0, c.2.1 + 1, c.2.2.1 + 0, ())
 | 4 => (c.1 + 0, c.2.1 + 0, c.2.2.1 + -1, ())
 | _ => (c.1 + 0, c.2.1 + 0, c.2.2.1 + 1, ()) := by
 unfold stp
 split <;> simp
theorem j2w (c : a0a) (hc : e6t c) (k : Nat) (hk : k < 6) : a3t (c, (k : Int), ()) = some (stp k c, ()) := by
 have e0 : IntKind.wrap .i64 (Int.tdiv ((k : Nat) : Int) 2) = ((k / 2 : Nat) : Int) := by
  rw [w64] <;> rcases six hk with rfl | rfl | rfl | rfl | rfl | rfl <;> decide
 have e1 : IntKind.wrap .i64 ((IntKind.wrap .i64 (2 * (Int.tmod ((k : Nat) : Int) 2))) - 1) = 2 * ((k % 2 : Nat) : Int) - 1 := by
  rcases six hk with rfl | rfl | rfl | rfl | rfl | rfl <;> rw [w64, w64] <;> decide
 unfold e6t at hc
 rw [b0g, e0, e1]
 rcases six hk with rfl | rfl | rfl | rfl | rfl | rfl <;> simp only [stp, inB] <;> rw [w64] <;> simp <;> omega
def j9n (X Y Z : Int) (v : BitVec 64) (q : List a0a) : Prop := Ins X Y Z q ∧ ∀ c, a0k X Y Z c = true → v.getLsbD (idx Y Z c) = decide (c ∈ q)
end Go.VI
namespace Go.VI
open Go.Proofs
end Go.VI
namespace Go.VI
open Go.Proofs
def g3e (n : Nat) : BitVec 64 := BitVec.ofNat 64 (2 ^ n - 1)
theorem g9b {n : Nat} (h : n ≤ 64) : (g3e n).toNat = 2 ^ n - 1 := by
 unfold g3e
 rw [BitVec.toNat_ofNat, Nat.mod_eq_of_lt]
 have := Nat.pow_le_pow_right (show 0 < 2 by decide) h
 have := Nat.pow_pos (n := n) (show 0 < 2 by decide)
 omega
theorem g0x {n : Nat} (h : n ≤ 64) (i : Nat) : (g3e n).getLsbD i = decide (i < n) := by
 unfold BitVec.getLsbD
 rw [g9b h, Nat.testBit_two_pow_sub_one]
def a8m (X Y Z : Int) : List a0a := a3x X Y Z (g3e (X * Y * Z).toNat)
theorem h9s {X Y Z : Int} (hs : sides X Y Z = true) (c : a0a) : c ∈ a8m X Y Z ↔ a0k X Y Z c = true := by
 unfold a8m
 rw [c5p hs, g0x (by have := c2q hs; omega)]
 constructor
 · exact fun h => h.1
 · intro h
   exact ⟨h, by have := (idx_eq hs h).2.1; simpa using this⟩
theorem f1o {X Y Z : Int} (hs : sides X Y Z = true) : Small (a8m X Y Z) ∧ Ins X Y Z (a8m X Y Z) ∧ Srt (a8m X Y Z) :=
 ⟨h7y hs _, fun c h => (h9s hs c).1 h, b6g hs _⟩
def upto (Y Z : Int) (k : Nat) : List a0a := (List.range k).map (cellOf Y Z)
theorem j0e (Y Z : Int) (k : Nat) : upto Y Z (k + 1) = upto Y Z k ++ [cellOf Y Z k] := by
 unfold upto
 rw [List.range_succ, List.map_append]
 rfl
theorem f3u (Y Z : Int) (v : BitVec 64) : ∀ (d k : Nat), (∀ i, k ≤ i → i < k + d → v.getLsbD i = true) → a5m Y Z v d k = (List.range' k d).map (cellOf Y Z)
 | 0, k, _ => by simp [a5m]
 | d + 1, k, h => by
  rw [a5m, if_pos (h k (by omega) (by omega)), f3u Y Z v d (k + 1) (fun i h1 h2 => h i (by omega) (by omega))]
  simp [List.range'_succ]
theorem j2q {X Y Z : Int} (hs : sides X Y Z = true) : upto Y Z (X * Y * Z).toNat = a8m X Y Z := by
 have hsz := c2q hs
 unfold upto a8m a3x
 rw [f3u Y Z _ _ 0 (fun i _ h => by rw [g0x (by omega)]; simpa using h), List.range_eq_range']
theorem h3c {X Y Z : Int} (hs : sides X Y Z = true) {c : a0a} (hc : a0k X Y Z c = true) : cellOf Y Z (idx Y Z c) = c := by
 obtain ⟨_, hlt, _⟩ := idx_eq hs hc
 obtain ⟨w1, w2⟩ := c2s hs hlt
 exact h4q hs w1 hc w2
theorem k1b {X Y Z : Int} (hs : sides X Y Z = true) {x y z : Int} (hx : 0 ≤ x) (hy : 0 ≤ y) (hz : 0 ≤ z) : idx Y Z (x, y, z + 1, ()) = idx Y Z (x, y, z, ()) + 1 := by
 obtain ⟨_, h2, h3⟩ := sides_iff.1 hs
 unfold idx
 rcases four h2.1 h2.2 with rfl | rfl | rfl | rfl <;> rcases four h3.1 h3.2 with rfl | rfl | rfl | rfl <;> simp only <;> omega
theorem k0u (Y Z x y : Int) : idx Y Z (x, y, Z, ()) = idx Y Z (x, y + 1, 0, ()) := by
 unfold idx
 simp only
 rw [show (x * Y + (y + 1)) * Z + 0 = (x * Y + y) * Z + Z by rw [← Int.add_assoc, Int.add_mul (x * Y + y) 1 Z]; omega]
theorem k1e (Y Z x : Int) : idx Y Z (x, Y, 0, ()) = idx Y Z (x + 1, 0, 0, ()) := by
 unfold idx
 simp only
 rw [show (x + 1) * Y + 0 = x * Y + Y by rw [Int.add_mul]; omega]
theorem j5g {X Y Z : Int} {l : List a0a} (hs : sides X Y Z = true) (m0 m1 : Nat) {x y : Int} (hx : 0 ≤ x ∧ x ≤ X - 1) (hy : 0 ≤ y ∧ y ≤ Y - 1) : ∀ (d m : Nat) (z : Int), z + d = Z → 0 ≤ z → d < m →
 b4l m0 m1 m X Y Z l (upto Y Z (idx Y Z (x, y, z, ()))) x y z = b1l m0 m1 X Y Z l (upto Y Z (idx Y Z (x, y + 1, 0, ()))) x (y + 1)
 | d, 0, z, hz, h0, hm => by omega
 | 0, m + 1, z, hz, h0, hm => by
  obtain ⟨s1, s2, s3⟩ := sides_iff.1 hs
  have : z = Z := by omega
  subst this
  rw [e8x, decide_eq_false (by omega), w64 (x := y + 1) (by omega) (by omega), k0u]
  rfl
 | d + 1, m + 1, z, hz, h0, hm => by
  obtain ⟨s1, s2, s3⟩ := sides_iff.1 hs
  have hw : a0k X Y Z (x, y, z, ()) = true := by rw [within3_iff]; simp only; omega
  have hlen : (upto Y Z (idx Y Z (x, y, z, ()))).length ≤ 64 := by
   obtain ⟨_, h2, h3, _⟩ := idx_eq hs hw
   unfold upto
   rw [List.length_map, List.length_range]
   omega
  have e : upto Y Z (idx Y Z (x, y, z, ())) ++ [((x, (y, (z, ()))) : a0a)] = upto Y Z (idx Y Z (x, y, z + 1, ())) := by
   rw [k1b hs hx.1 hy.1 h0, j0e, h3c hs hw]
  rw [e8x, decide_eq_true (by omega), w64 (x := z + 1) (by omega) (by omega)]
  simp only [List.length_cons, List.length_nil, cond_true]
  rw [decide_eq_true (p := ((upto Y Z (idx Y Z (x, y, z, ()))).length + (0 + 1)) * 24 ≤ 140737488355328) (by omega), decide_eq_true (p := (upto Y Z (idx Y Z (x, y, z, ()))).length + (0 + 1) ≤ 140737488355328) (by omega), e]
  exact j5g hs m0 m1 hx hy d m (z + 1) (by omega) (by omega) (by omega)
termination_by d => d
theorem j4p {X Y Z : Int} {l : List a0a} (hs : sides X Y Z = true) (m0 : Nat) {x : Int} (hx : 0 ≤ x ∧ x ≤ X - 1) : ∀ (d m : Nat) (y : Int), y + d = Y → 0 ≤ y → d < m →
 b1l m0 m X Y Z l (upto Y Z (idx Y Z (x, y, 0, ()))) x y = b1q m0 X Y Z l (upto Y Z (idx Y Z (x + 1, 0, 0, ()))) (x + 1)
 | d, 0, y, hz, h0, hm => by omega
 | 0, m + 1, y, hz, h0, hm => by
  obtain ⟨s1, s2, s3⟩ := sides_iff.1 hs
  have : y = Y := by omega
  subst this
  rw [e9e, decide_eq_false (by omega), w64 (x := x + 1) (by omega) (by omega), k1e]
  rfl
 | d + 1, m + 1, y, hz, h0, hm => by
  obtain ⟨s1, s2, s3⟩ := sides_iff.1 hs
  rw [e9e, decide_eq_true (by omega)]
  simp only [cond_true]
  rw [j5g hs m0 m hx (by omega) Z.toNat N 0 (by omega) (by omega) (by have := b6u; omega)]
  exact j4p hs m0 hx d m (y + 1) (by omega) (by omega) (by omega)
termination_by d => d
theorem j5c {X Y Z : Int} {l : List a0a} (hs : sides X Y Z = true) : ∀ (d m : Nat) (x : Int), x + d = X → 0 ≤ x → d < m →
 b1q m X Y Z l (upto Y Z (idx Y Z (x, 0, 0, ()))) x = some (a8m X Y Z, ())
 | d, 0, x, hz, h0, hm => by omega
 | 0, m + 1, x, hz, h0, hm => by
  have : x = X := by omega
  subst this
  rw [e8q, decide_eq_false (by omega)]
  rw [← j2q hs]
  simp only [cond_false, idx, Int.add_zero]
 | d + 1, m + 1, x, hz, h0, hm => by
  obtain ⟨s1, s2, s3⟩ := sides_iff.1 hs
  rw [e8q, decide_eq_true (by omega)]
  simp only [cond_true]
  rw [j4p hs m (by omega) Y.toNat N 0 (by omega) (by omega) (by have := b6u; omega)]
  exact j5c hs d m (x + 1) (by omega) (by omega) (by omega)
termination_by d => d
theorem h5o {X Y Z : Int} (l : List a0a) (hs : sides X Y Z = true) : a8e ((X, Y, Z, l, ()), ()) = some (a8m X Y Z, ()) := by
 obtain ⟨s1, s2, s3⟩ := sides_iff.1 hs
 have := j5c (l := l) hs X.toNat N 0 (by omega) (by omega) (by have := b6u; omega)
 have e : upto Y Z (idx Y Z (0, 0, 0, ())) = [] := by simp [idx, upto]
 rw [e] at this
 rw [h9u]
 exact this
theorem j7i {X Y Z : Int} (hs : sides X Y Z = true) : b2e (X, Y, Z, ()) = some ((X, Y, Z, a8m X Y Z, ()), ()) := by
 rw [h7r, a2x]
 simp only [Option.bind_some]
 rw [h5o [] hs]
 rfl
end Go.VI
