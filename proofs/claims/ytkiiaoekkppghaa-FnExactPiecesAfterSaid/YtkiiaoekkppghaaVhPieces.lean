/- What PiecesAfter calls, for a walk by hand. -/
import Derived.Test.YtkiiaoekkppghaaVhDeep
import Derived.Test.YtkiiaoekkppghaaG17
namespace Go.VI
open Go.Proofs Go.RowKit
set_option maxRecDepth 100000

/-- The arguments, in the world in which the call began. -/
structure ArgsP (Z : Nat → Prop) (w0 : World) (l : List D_A3) (lv : Value) (cuts : List D_A2) (cv : Value) : Prop where
  zone : ∀ g, Z g → g < w0.heap.size
  cells : RepI Z w0 (.sl T_A3) l [lv]
  cuts : RepI Z w0 (.sl T_A2) cuts [cv]

def heapV (X Y Zz : Int) (lv : Value) : Value := .agg #[.int .i64 X, .int .i64 Y, .int .i64 Zz, lv]
def boxV (X Y Zz : Int) : Value := .agg #[.int .i64 X, .int .i64 Y, .int .i64 Zz]

theorem ArgsP.at {Z : Nat → Prop} {w0 : World} {l : List D_A3} {lv : Value} {cuts : List D_A2} {cv : Value} (h : ArgsP Z w0 l lv cuts cv) {W : World} (hb : Below w0.heap.size w0 W) : ArgsP Z W l lv cuts cv :=
  ⟨fun g hg => Nat.lt_of_lt_of_le (h.zone g hg) hb.size, RepI.mono (fun _ hz => hz) (fun g hg => hb.block g (h.zone g hg)) _ _ _ h.cells, RepI.mono (fun _ hz => hz) (fun g hg => hb.block g (h.zone g hg)) _ _ _ h.cuts⟩

theorem repI_heap {Z : Nat → Prop} {w : World} {X Y Zz : Int} {l : List D_A3} {lv : Value} (h : RepI Z w (.sl T_A3) l [lv]) : RepI Z w T_Heap (X, Y, Zz, l, ()) [.int .i64 X, .int .i64 Y, .int .i64 Zz, lv] :=
  ⟨[.int .i64 X], [.int .i64 Y, .int .i64 Zz, lv], rfl, rfl, [.int .i64 Y], [.int .i64 Zz, lv], rfl, rfl, [.int .i64 Zz], [lv], rfl, rfl, [lv], [], rfl, h, rfl⟩

theorem repI_box {Z : Nat → Prop} {w : World} (X Y Zz : Int) : RepI Z w T_A3 (X, Y, Zz, ()) [.int .i64 X, .int .i64 Y, .int .i64 Zz] :=
  ⟨[.int .i64 X], [.int .i64 Y, .int .i64 Zz], rfl, rfl, [.int .i64 Y], [.int .i64 Zz], rfl, rfl, [.int .i64 Zz], [], rfl, rfl, rfl⟩

theorem repI_cut {Z : Nat → Prop} {w : World} (a b : Int) : RepI Z w T_A2 (a, b, ()) [.int .i64 a, .int .i64 b] :=
  ⟨[.int .i64 a], [.int .i64 b], rfl, rfl, [.int .i64 b], [], rfl, rfl, rfl⟩

section
variable {Z : Nat → Prop} {W : World} {X Y Zz : Int} {l : List D_A3} {lv : Value} {cuts : List D_A2} {cv : Value}

theorem arg_heap (h : ArgsP Z W l lv cuts cv) : RelArgs Try.prog GG Z W [.data true T_Heap] ((X, Y, Zz, l, ()), ()) [heapV X Y Zz lv] :=
  ⟨_, [], rfl, (fun h => by cases h), repI_heap h.cells, rfl⟩

theorem c_IsHeap (h : ArgsP Z W l lv cuts cv) {b : Bool} (e : P_impl_IsHeap ((X, Y, Zz, l, ()), ()) = some (b, ())) : Calls Try.prog 23 #[heapV X Y Zz lv] W fun e w' => e = .returned (.bool b) ∧ Below W.heap.size W w' :=
  flat_calls (fn := Try.f23) s_impl_IsHeap rfl Try.func23 rfl (by kernel_rfl) trivial h.zone (arg_heap h) e

theorem c_isCut (h : ArgsP Z W l lv cuts cv) {d k : Int} {b : Bool} (e : P_Heap_isCut ((X, Y, Zz, l, ()), d, k, ()) = some (b, ())) : Calls Try.prog 24 #[heapV X Y Zz lv, .int .i64 d, .int .i64 k] W fun e w' => e = .returned (.bool b) ∧ Below W.heap.size W w' :=
  flat_calls (fn := Try.f24) s_Heap_isCut rfl Try.func24 rfl (by kernel_rfl) trivial h.zone
    (xs := ((X, Y, Zz, l, ()), d, k, ())) (vs := [heapV X Y Zz lv, .int .i64 d, .int .i64 k]) ⟨_, _, rfl, (fun h => by cases h), repI_heap h.cells, [.int .i64 d], _, rfl, (fun _ => rfl), rfl, [.int .i64 k], _, rfl, (fun _ => rfl), rfl, rfl⟩ e

theorem c_cubes (h : ArgsP Z W l lv cuts cv) {n : Int} (e : P_Heap_cubes ((X, Y, Zz, l, ()), ()) = some (n, ())) : Calls Try.prog 26 #[heapV X Y Zz lv] W fun e w' => e = .returned (.int .u64 n) ∧ Below W.heap.size W w' :=
  flat_calls (fn := Try.f26) s_Heap_cubes rfl Try.func26 rfl (by kernel_rfl) trivial h.zone (arg_heap h) e

theorem c_box (h : ArgsP Z W l lv cuts cv) {r : D_A3} (e : P_Heap_box ((X, Y, Zz, l, ()), ()) = some (r, ())) : Calls Try.prog 25 #[heapV X Y Zz lv] W fun e w' => e = .returned (boxV r.1 r.2.1 r.2.2.1) ∧ Below W.heap.size W w' := by
  refine (FCalls.calls (enter_run (fn := Try.f25) Try.func25 rfl (by kernel_rfl)) (s_Heap_box W Z [heapV X Y Zz lv] ((X, Y, Zz, l, ()), ()) (r, ()) trivial h.zone (arg_heap h) e)).mono ?_
  rintro e' w' ⟨v, rfl, Z', us, rfl, hbel, _, _, g, h1, h2, _⟩
  refine ⟨?_, hbel⟩
  obtain ⟨k1, _, k3⟩ := h2 0 (true, [RCell.flat (.int .i64 r.1), RCell.flat (.int .i64 r.2.1), RCell.flat (.int .i64 r.2.2.1)]) rfl
  have a0 := (k3 0 _ rfl).2
  have a1 := (k3 1 _ rfl).2
  have a2 := (k3 2 _ rfl).2
  match us, h1, k1 with
  | [u], _, k1 =>
    have : u = mkVal true ((List.range 3).map (g 0)) := by simpa using k1
    rw [this]
    show Ending.returned (.agg #[g 0 0, g 0 1, g 0 2]) = _
    rw [a0, a1, a2]
    rfl
  | [], h1, _ => cases h1
  | _ :: _ :: _, h1, _ => cases h1

theorem c_list {s : Int} {q : List D_A3} (e : P_box_list ((X, Y, Zz, ()), s, ()) = some (q, ())) : Calls Try.prog 27 #[boxV X Y Zz, .int .u64 s] W fun e w' => ∃ v, e = .returned v ∧ Below W.heap.size W w' ∧ OwnV (fun _ => False) w' W.heap.size 48 T_A3 v q :=
  own_calls (fn := Try.f27) (Z := fun _ => False) s_box_list rfl Try.func27 rfl (by kernel_rfl) (xs := ((X, Y, Zz, ()), s, ())) trivial (fun _ h => h.elim)
    (vs := [boxV X Y Zz, .int .u64 s]) ⟨_, _, rfl, (fun h => by cases h), repI_box X Y Zz, [.int .u64 s], _, rfl, (fun _ => rfl), rfl, rfl⟩ e

theorem c_grown {s t : Int} {q : Int} (e : P_box_grown ((X, Y, Zz, ()), s, t, ()) = some (q, ())) : Calls Try.prog 30 #[boxV X Y Zz, .int .u64 s, .int .u64 t] W fun e w' => e = .returned (.int .u64 q) ∧ Below W.heap.size W w' :=
  flat_calls (fn := Try.f30) (Z := fun _ => False) s_box_grown rfl Try.func30 rfl (by kernel_rfl) (xs := ((X, Y, Zz, ()), s, t, ())) trivial (fun _ h => h.elim)
    (vs := [boxV X Y Zz, .int .u64 s, .int .u64 t]) ⟨_, _, rfl, (fun h => by cases h), repI_box X Y Zz, [.int .u64 s], _, rfl, (fun _ => rfl), rfl, [.int .u64 t], _, rfl, (fun _ => rfl), rfl, rfl⟩ e

/-- The closure, its two variables in boxes of their own. -/
theorem clo_ok {bc bf : Nat} {cut : D_A2} {first : D_A3} {t1 t2 : TypeId} (hc : W.heap[bc]? = some (.cells #[.int .i64 cut.1, .int .i64 cut.2.1] t1 (0, 0))) (hf : W.heap[bf]? = some (.cells #[.int .i64 first.1, .int .i64 first.2.1, .int .i64 first.2.2.1] t2 (0, 0))) :
    CloOK Try.prog GG (fun g => g = bc ∨ g = bf) W [(true, T_A3)] [(false, .bool)] (fun y => P_impl_PiecesAfter_1 (y.1, cut, first, ())) (.func (.func 29) #[] #[.pointer (some ⟨bc, 0, none⟩), .pointer (some ⟨bf, 0, none⟩)]) := by
  refine ⟨29, _, rfl, fun w2 Z2 xs vs r hsame hsz hG hz2 hrel hF => ?_⟩
  obtain ⟨us, vs', rfl, _, hrep, hn⟩ := hrel
  obtain rfl : vs' = [] := hn
  obtain ⟨c, ⟨⟩⟩ := xs
  have hbc : w2.heap[bc]? = some (.cells #[.int .i64 cut.1, .int .i64 cut.2.1] t1 (0, 0)) := (hsame bc (.inl rfl)).trans hc
  have hbf : w2.heap[bf]? = some (.cells #[.int .i64 first.1, .int .i64 first.2.1, .int .i64 first.2.2.1] t2 (0, 0)) := (hsame bf (.inr rfl)).trans hf
  have lt : ∀ {b : Nat} {o : Obj}, w2.heap[b]? = some o → b < w2.heap.size := fun h => lt_of_block h
  refine (s_impl_PiecesAfter_1 w2 (fun g => Z2 g ∨ g = bc ∨ g = bf) [mkVal true us, .pointer (some ⟨bc, 0, none⟩), .pointer (some ⟨bf, 0, none⟩)] (c, cut, first, ()) r trivial ?_ ?_ hF).mono ?_
  · rintro g (hg | rfl | rfl)
    · exact hz2 g hg
    · exact lt hbc
    · exact lt hbf
  · refine ⟨us, _, rfl, (fun h => by cases h), RepI.flat _ rfl _ _ hrep, ⟨bc, 0, none⟩, [.int .i64 cut.1, .int .i64 cut.2.1], _, rfl, .inr (.inl rfl), ?_, ?_, ⟨bf, 0, none⟩, [.int .i64 first.1, .int .i64 first.2.1, .int .i64 first.2.2.1], _, rfl, .inr (.inr rfl), ?_, ?_, rfl⟩
    · exact repI_cut cut.1 cut.2.1
    · intro j u hj
      match j, hj with
      | 0, hj => obtain rfl := Option.some.inj hj; simp [World.cell?, Addr.add, hbc]
      | 1, hj => obtain rfl := Option.some.inj hj; simp [World.cell?, Addr.add, hbc]
    · exact repI_box first.1 first.2.1 first.2.2.1
    · intro j u hj
      match j, hj with
      | 0, hj => obtain rfl := Option.some.inj hj; simp [World.cell?, Addr.add, hbf]
      | 1, hj => obtain rfl := Option.some.inj hj; simp [World.cell?, Addr.add, hbf]
      | 2, hj => obtain rfl := Option.some.inj hj; simp [World.cell?, Addr.add, hbf]
  · rintro v w' ⟨Z', us', rfl, hbel, _, _, hres⟩
    have := resRel_flat (R := [(false, .bool)]) rfl hres
    obtain ⟨b, ⟨⟩⟩ := r
    refine ⟨us', rfl, hbel, ?_⟩
    rw [this]
    exact ⟨[.bool b], [], rfl, (fun _ => rfl), rfl, rfl, rfl⟩

theorem c_those {bc bf : Nat} {cut : D_A2} {first : D_A3} {t1 t2 : TypeId} (hc : W.heap[bc]? = some (.cells #[.int .i64 cut.1, .int .i64 cut.2.1] t1 (0, 0))) (hf : W.heap[bf]? = some (.cells #[.int .i64 first.1, .int .i64 first.2.1, .int .i64 first.2.2.1] t2 (0, 0)))
    {q : Int} (e : P_box_those ((X, Y, Zz, ()), (fun y => P_impl_PiecesAfter_1 (y.1, cut, first, ())), ()) = some (q, ())) :
    Calls Try.prog 28 #[boxV X Y Zz, .func (.func 29) #[] #[.pointer (some ⟨bc, 0, none⟩), .pointer (some ⟨bf, 0, none⟩)]] W fun e w' => e = .returned (.int .u64 q) ∧ Below W.heap.size W w' :=
  flat_calls (fn := Try.f28) (Z := fun g => g = bc ∨ g = bf) s_box_those rfl Try.func28 rfl (by kernel_rfl) (xs := ((X, Y, Zz, ()), (fun y => P_impl_PiecesAfter_1 (y.1, cut, first, ())), ())) trivial
    (fun g h => by
      rcases h with rfl | rfl
      · exact lt_of_block hc
      · exact lt_of_block hf)
    (vs := [boxV X Y Zz, .func (.func 29) #[] #[.pointer (some ⟨bc, 0, none⟩), .pointer (some ⟨bf, 0, none⟩)]]) ⟨_, _, rfl, (fun h => by cases h), repI_box X Y Zz, _, _, rfl, clo_ok hc hf, rfl⟩ e
end
end Go.VI
