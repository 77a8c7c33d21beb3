/- PiecesAfter of the program, by a walk: its rows are its own. -/
import Derived.Test.YtkiiaoekkppghaaVhPieces
import Derived.WalkKit
import Derived.Deep.LoopGhost
import Derived.Deep.RegionLaw
namespace Go.VI
open Go.Proofs Go.RowKit
set_option maxRecDepth 100000

theorem z_PiecesAfter_4 (p0 p1 p2 : Int) (p3 : List D_A3) (p4 p5 : List D_A2) (p6 p7 : Int) : l_impl_PiecesAfter_4 0 p0 p1 p2 p3 p4 p5 p6 p7 = none := by
  rewrite [h_impl_PiecesAfter_4]
  kernel_rfl
theorem z_PiecesAfter_10 (p0 p1 p2 : Int) (p3 : List D_A2) (p4 : List (List D_A3)) (p5 : Int) : l_impl_PiecesAfter_10 0 p0 p1 p2 p3 p4 p5 = none := by
  rewrite [h_impl_PiecesAfter_10]
  kernel_rfl
theorem z_PiecesAfter_14 (m0 : Nat) (p0 p1 p2 p3 p4 p5 : Int) (p6 : List D_A2) (p7 : List (List D_A3)) (p8 p9 p10 : Int) (p11 : List D_A2) (p12 p13 : Int) : l_impl_PiecesAfter_14 m0 0 p0 p1 p2 p3 p4 p5 p6 p7 p8 p9 p10 p11 p12 p13 = none := by
  rewrite [h_impl_PiecesAfter_14]
  kernel_rfl

theorem alloc_at (w : World) (o : Obj) : (w.alloc o).heap[w.heap.size]? = some o := heap_alloc_new w o
theorem alloc_size (w : World) (o : Obj) : (w.alloc o).heap.size = w.heap.size + 1 := Array.size_push _
theorem below_at {w w1 : World} {o : Obj} (hb : Below (w.alloc o).heap.size (w.alloc o) w1) : w1.heap[w.heap.size]? = some o :=
  (hb.block _ (by rw [alloc_size]; omega)).trans (alloc_at w o)

theorem belowOf {n m : Nat} {w w' : World} (h : Below m w w') (hn : n ≤ m) : Below n w w' := ⟨h.os, h.tape, h.output, h.size, fun g hg => h.block g (Nat.lt_of_lt_of_le hg hn)⟩
theorem belowAlloc (w : World) (o : Obj) : Below w.heap.size w (w.alloc o) := (Below.refl w.heap.size w).alloc (Nat.le_refl _) o
theorem belowThen {w w1 w2 : World} (h1 : Below w.heap.size w w1) (h2 : Below w1.heap.size w1 w2) : Below w.heap.size w w2 :=
  ⟨h2.os.trans h1.os, h2.tape.trans h1.tape, h2.output.trans h1.output, Nat.le_trans h1.size h2.size, fun g hg => (h2.block g (Nat.lt_of_lt_of_le hg h1.size)).trans (h1.block g hg)⟩

theorem box_cells4 {w : World} {b t : Nat} {a0 a1 a2 a3 : Value} (h : w.heap[b]? = some (.cells #[a0, a1, a2, a3] t (0, 0))) :
    w.cell? ⟨b, 0, none⟩ = some a0 ∧ w.cell? ⟨b, 1, none⟩ = some a1 ∧ w.cell? ⟨b, 2, none⟩ = some a2 ∧ w.cell? ⟨b, 3, none⟩ = some a3 := by
  refine ⟨?_, ?_, ?_, ?_⟩ <;> simp [World.cell?, h]
theorem box_cells3 {w : World} {b t : Nat} {a0 a1 a2 : Value} (h : w.heap[b]? = some (.cells #[a0, a1, a2] t (0, 0))) :
    w.cell? ⟨b, 0, none⟩ = some a0 ∧ w.cell? ⟨b, 1, none⟩ = some a1 ∧ w.cell? ⟨b, 2, none⟩ = some a2 := by
  refine ⟨?_, ?_, ?_⟩ <;> simp [World.cell?, h]

theorem blockA {w : World} {b : Nat} {x : Obj} (h : w.heap[b]? = some x) (o : Obj) : (w.alloc o).heap[b]? = some x := by
  rw [Below.heap_alloc _ _ _ (lt_of_block h)]; exact h
theorem boxA4 {w : World} {b t : Nat} {a0 a1 a2 a3 : Value} (h : w.heap[b]? = some (.cells #[a0, a1, a2, a3] t (0, 0))) :
    (∀ o, (w.alloc o).cell? ⟨b, 0, none⟩ = some a0) ∧ (∀ o, (w.alloc o).cell? ⟨b, 1, none⟩ = some a1) ∧ (∀ o, (w.alloc o).cell? ⟨b, 2, none⟩ = some a2) ∧ (∀ o, (w.alloc o).cell? ⟨b, 3, none⟩ = some a3) :=
  ⟨fun o => (box_cells4 (blockA h o)).1, fun o => (box_cells4 (blockA h o)).2.1, fun o => (box_cells4 (blockA h o)).2.2.1, fun o => (box_cells4 (blockA h o)).2.2.2⟩
theorem boxA3 {w : World} {b t : Nat} {a0 a1 a2 : Value} (h : w.heap[b]? = some (.cells #[a0, a1, a2] t (0, 0))) :
    (∀ o, (w.alloc o).cell? ⟨b, 0, none⟩ = some a0) ∧ (∀ o, (w.alloc o).cell? ⟨b, 1, none⟩ = some a1) ∧ (∀ o, (w.alloc o).cell? ⟨b, 2, none⟩ = some a2) :=
  ⟨fun o => (box_cells3 (blockA h o)).1, fun o => (box_cells3 (blockA h o)).2.1, fun o => (box_cells3 (blockA h o)).2.2⟩

/-- The world as it was, and a box in it. -/
def KeepsP (w W : World) (o : Obj) : Prop := Below w.heap.size w W ∧ W.heap[w.heap.size]? = some o
theorem KeepsP.alloc {w W : World} {o : Obj} (h : KeepsP w W o) (x : Obj) : KeepsP w (W.alloc x) o :=
  ⟨h.1.alloc (Nat.le_of_lt (lt_of_block h.2)) _, blockA h.2 x⟩
theorem KeepsP.drew {w W : World} {o : Obj} (h : KeepsP w W o) : KeepsP w W.drew o := ⟨h.1.drew, h.2⟩
theorem KeepsP.call {w W W' : World} {o : Obj} (h : KeepsP w W o) (hb : Below W.heap.size W W') : KeepsP w W' o :=
  ⟨belowThen h.1 (belowOf hb (Nat.le_refl _)), (hb.block _ (lt_of_block h.2)).trans h.2⟩
theorem KeepsP.cells {w : World} {a0 a1 a2 a3 : Value} {t : Nat} (W : World) (h : KeepsP w W (.cells #[a0, a1, a2, a3] t)) :
    W.cell? ⟨w.heap.size, 0, none⟩ = some a0 ∧ W.cell? ⟨w.heap.size, 1, none⟩ = some a1 ∧ W.cell? ⟨w.heap.size, 2, none⟩ = some a2 ∧ W.cell? ⟨w.heap.size, 3, none⟩ = some a3 := box_cells4 h.2

/-- The cuts' row. -/
structure CutRow (w : World) (A : Option Addr) (g cap : Nat) (cuts : List D_A2) : Prop where
  room : cuts.length ≤ cap
  some : 0 < cuts.length → A = Option.some ⟨g, 0, none⟩
  lt : 0 < cuts.length → g < w.heap.size
  cell : ∀ k, k < cuts.length → w.cell? ⟨g, k * 2, none⟩ = Option.some (.int .i64 (nth T_A2 cuts (k : Int)).1) ∧ w.cell? ⟨g, k * 2 + 1, none⟩ = Option.some (.int .i64 (nth T_A2 cuts (k : Int)).2.1)

theorem CutRow.below {w w' : World} {A : Option Addr} {g cap : Nat} {cuts : List D_A2} (h : CutRow w A g cap cuts) (hb : Below w.heap.size w w') : CutRow w' A g cap cuts :=
  ⟨h.room, h.some, fun hk => Nat.lt_of_lt_of_le (h.lt hk) hb.size, fun k hk => by
    have hg := h.lt (by omega)
    have e := hb.block g hg
    obtain ⟨h1, h2⟩ := h.cell k hk
    exact ⟨by rw [World.cell?_of_block (w := w) e]; exact h1, by rw [World.cell?_of_block (w := w) e]; exact h2⟩⟩
theorem CutRow.at {w w' : World} {A : Option Addr} {g cap : Nat} {cuts : List D_A2} (h : CutRow w A g cap cuts) (hb : Below w.heap.size w w') : CutRow w' A g cap cuts := h.below hb

theorem CutRow.repI {w : World} {A : Option Addr} {g cap : Nat} {cuts : List D_A2} (h : CutRow w A g cap cuts) {Z : Nat → Prop} (hZ : 0 < cuts.length → Z g) : RepI Z w (.sl T_A2) cuts [.slice A cuts.length cap] := by
  refine ⟨A, cap, rfl, h.room, fun i x hx => ?_⟩
  have hi : i < cuts.length := by
    rcases Nat.lt_or_ge i cuts.length with h' | h'
    · exact h'
    · rw [List.getElem?_eq_none h'] at hx; cases hx
  obtain ⟨h1, h2⟩ := h.cell i hi
  have e : nth T_A2 cuts (i : Int) = x := by simp [nth, hx]
  rw [e] at h1 h2
  refine ⟨_, h.some (by omega), hZ (by omega), [.int .i64 x.1, .int .i64 x.2.1], repI_cut x.1 x.2.1, fun j v hv => ?_⟩
  match j, hv with
  | 0, hv => obtain rfl := Option.some.inj hv; rw [Addr.add_lit, Nat.zero_add]; exact h1
  | 1, hv => obtain rfl := Option.some.inj hv; rw [Addr.add_lit, Nat.zero_add]; exact h2

theorem cons_of {α : Type} {l : List α} {n : Nat} (h : l.length = n + 1) : ∃ x t, l = x :: t ∧ t.length = n := by
  match l, h with
  | x :: t, h => exact ⟨x, t, rfl, by simpa using h⟩
end Go.VI
