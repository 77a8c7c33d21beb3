/- The law of PiecesAfter: what it calls. -/
import Derived.Test.YtkiiaoekkppghaaVhMark
import Derived.Test.YtkiiaoekkppghaaVhPy
namespace Go.VI
open Go.Proofs Go.RowKit
set_option maxRecDepth 100000

section
variable {Z : Nat → Prop} {W : World} {X Y Zz : Int} {l : List D_A3} {lv : Value} {cuts : List D_A2} {cv : Value}

theorem k_szHeap (h : ArgsP Z W l lv cuts cv) {n z : Int} (e : P_laws_szHeap ((X, Y, Zz, l, ()), n, ()) = some (z, ())) : Calls Try.prog 4 #[heapV X Y Zz lv, .int .i64 n] W fun e w' => e = .returned (.int .i64 z) ∧ Below W.heap.size W w' :=
  flat_calls (fn := Try.f4) s_laws_szHeap rfl Try.func4 rfl (by kernel_rfl) trivial h.zone
    (xs := ((X, Y, Zz, l, ()), n, ())) (vs := [heapV X Y Zz lv, .int .i64 n]) ⟨_, _, rfl, (fun h => by cases h), repI_heap h.cells, [.int .i64 n], _, rfl, (fun _ => rfl), rfl, rfl⟩ e

theorem k_szA2 (h : ArgsP Z W l lv cuts cv) {n z : Int} (e : P_laws_szIntA2S (cuts, n, ()) = some (z, ())) : Calls Try.prog 5 #[cv, .int .i64 n] W fun e w' => e = .returned (.int .i64 z) ∧ Below W.heap.size W w' :=
  flat_calls (fn := Try.f5) s_laws_szIntA2S rfl Try.func5 rfl (by kernel_rfl) trivial h.zone
    (xs := (cuts, n, ())) (vs := [cv, .int .i64 n]) ⟨[cv], _, rfl, (fun _ => rfl), h.cuts, [.int .i64 n], _, rfl, (fun _ => rfl), rfl, rfl⟩ e

theorem k_toA2 (h : ArgsP Z W l lv cuts cv) (e : P_laws_toIntA2S (cuts, ()) = some (cuts, ())) : Calls Try.prog 8 #[cv] W fun e w' => ∃ u, e = .returned u ∧ Below W.heap.size W w' ∧ OwnV (fun _ => False) w' W.heap.size 43 T_A2 u cuts :=
  own_calls (fn := Try.f8) s_laws_toIntA2S rfl Try.func8 rfl (by kernel_rfl) trivial h.zone (xs := (cuts, ())) (vs := [cv]) ⟨[cv], _, rfl, (fun _ => rfl), h.cuts, rfl⟩ e

theorem k_toHeap (h : ArgsP Z W l lv cuts cv) (e : P_laws_toHeap ((X, Y, Zz, l, ()), ()) = some ((X, Y, Zz, l, ()), ())) : Calls Try.prog 7 #[heapV X Y Zz lv] W fun e w' => ∃ u, e = .returned (heapV X Y Zz u) ∧ Below W.heap.size W w' ∧ OwnV (fun _ => False) w' W.heap.size 48 T_A3 u l := by
  refine (FCalls.calls (enter_run (fn := Try.f7) Try.func7 rfl (by kernel_rfl)) (s_laws_toHeap W Z [heapV X Y Zz lv] ((X, Y, Zz, l, ()), ()) ((X, Y, Zz, l, ()), ()) trivial h.zone (arg_heap h) e)).mono ?_
  rintro e' w' ⟨v, rfl, Z', us, rfl, hbel, _, _, g, h1, h2, _⟩
  obtain ⟨k1, _, k3⟩ := h2 0 (true, [RCell.flat (.int .i64 X), RCell.flat (.int .i64 Y), RCell.flat (.int .i64 Zz), RCell.own 48 T_A3 l]) rfl
  have a0 := (k3 0 _ rfl).2
  have a1 := (k3 1 _ rfl).2
  have a2 := (k3 2 _ rfl).2
  have a3 := (k3 3 _ rfl).1
  match us, h1, k1 with
  | [u], _, k1 =>
    have : u = mkVal true ((List.range 4).map (g 0)) := by simpa using k1
    refine ⟨g 0 3, ?_, hbel, a3.flat rfl⟩
    rw [this]
    show Ending.returned (.agg #[g 0 0, g 0 1, g 0 2, g 0 3]) = _
    rw [a0, a1, a2]
    rfl
  | [], h1, _ => cases h1
  | _ :: _ :: _, h1, _ => cases h1
end

section
variable {W : World} {X Y Zz : Int} {l : List D_A3} {cuts : List D_A2} {u u2 : Value} {B : Nat}

/-- What the arguments' copies are. -/
theorem copies {B2 : Nat} (hu : OwnV (fun _ => False) W B 48 T_A3 u l) (hu2 : OwnV (fun _ => False) W B2 43 T_A2 u2 cuts) : ArgsP (fun g => u.ownBlock = some g ∨ u2.ownBlock = some g) W l u cuts u2 :=
  ⟨fun g hg => by rcases hg with hg | hg; exact (hu.lt g hg).2; exact (hu2.lt g hg).2, hu.reads _ (fun _ h => h.elim) fun g hg => .inl hg, hu2.reads _ (fun _ h => h.elim) fun g hg => .inr hg⟩

theorem cutRow (hu2 : OwnV (fun _ => False) W B 43 T_A2 u2 cuts) : ∃ A g cap, u2 = .slice A cuts.length cap ∧ CutRow W A g cap cuts := by
  have hr : RepI (fun _ => True) W (.sl T_A2) cuts [u2] := hu2.reads _ (fun _ h => h.elim) fun _ _ => trivial
  obtain ⟨_, xs, ho, _⟩ := hu2
  rcases ho.2 with ⟨rfl, h0⟩ | ⟨g, cap, cur, fz, rfl, hb, hg, _, hnc, _⟩
  · exact ⟨none, 0, 0, by rw [h0], ⟨by omega, fun h => by omega, fun h => by omega, fun k hk => by omega⟩⟩
  · obtain ⟨A, c, e, _, h1⟩ := hr
    obtain ⟨rfl, rfl⟩ : some (⟨g, 0, none⟩ : Addr) = A ∧ cap = c := by simpa using e
    refine ⟨_, g, cap, rfl, ⟨hnc, fun _ => rfl, fun _ => lt_of_block hg, fun k hk => ?_⟩⟩
    obtain ⟨a, ha, _, ys, hy, hc⟩ := h1 k cuts[k] (List.getElem?_eq_getElem hk)
    obtain rfl := Option.some.inj ha
    have en : nth T_A2 cuts (k : Int) = cuts[k] := by simp [nth, hk]
    rw [en]
    obtain ⟨y1, y2, rfl, rfl, y3, y4, rfl, rfl, rfl⟩ := hy
    have c0 := hc 0 _ rfl
    have c1 := hc 1 _ rfl
    rw [Addr.add_lit, Nat.zero_add] at c0 c1
    exact ⟨c0, c1⟩

theorem k_eqHeap {B2 : Nat} {u' : Value} (hu : OwnV (fun _ => False) W B 48 T_A3 u l) (hu2 : OwnV (fun _ => False) W B2 48 T_A3 u' l) (e : P_laws_eqHeap ((X, Y, Zz, l, ()), (X, Y, Zz, l, ()), ()) = some (true, ())) :
    Calls Try.prog 11 #[heapV X Y Zz u, heapV X Y Zz u'] W fun e w' => e = .returned (.bool true) ∧ Below W.heap.size W w' :=
  flat_calls (fn := Try.f11) s_laws_eqHeap rfl Try.func11 rfl (by kernel_rfl) (Z := fun g => u.ownBlock = some g ∨ u'.ownBlock = some g) trivial (fun g hg => by rcases hg with hg | hg; exact (hu.lt g hg).2; exact (hu2.lt g hg).2)
    (xs := ((X, Y, Zz, l, ()), (X, Y, Zz, l, ()), ())) (vs := [heapV X Y Zz u, heapV X Y Zz u'])
    ⟨_, _, rfl, (fun h => by cases h), repI_heap (hu.reads _ (fun _ h => h.elim) fun g hg => .inl hg), _, _, rfl, (fun h => by cases h), repI_heap (hu2.reads _ (fun _ h => h.elim) fun g hg => .inr hg), rfl⟩ e

theorem k_eqA2 {B2 : Nat} {u' : Value} (hu : OwnV (fun _ => False) W B 43 T_A2 u cuts) (hu2 : OwnV (fun _ => False) W B2 43 T_A2 u' cuts) (e : P_laws_eqIntA2S (cuts, cuts, ()) = some (true, ())) :
    Calls Try.prog 12 #[u, u'] W fun e w' => e = .returned (.bool true) ∧ Below W.heap.size W w' :=
  flat_calls (fn := Try.f12) s_laws_eqIntA2S rfl Try.func12 rfl (by kernel_rfl) (Z := fun g => u.ownBlock = some g ∨ u'.ownBlock = some g) trivial (fun g hg => by rcases hg with hg | hg; exact (hu.lt g hg).2; exact (hu2.lt g hg).2)
    (xs := (cuts, cuts, ())) (vs := [u, u'])
    ⟨[u], _, rfl, (fun _ => rfl), hu.reads _ (fun _ h => h.elim) fun g hg => .inl hg, [u'], _, rfl, (fun _ => rfl), hu2.reads _ (fun _ h => h.elim) fun g hg => .inr hg, rfl⟩ e

theorem k_eqSS {Z1 Z2 : Nat → Prop} {ps : List (List D_A3)} {v v' : Value} (hz1 : ∀ g, Z1 g → g < W.heap.size) (hz2 : ∀ g, Z2 g → g < W.heap.size) (h1 : RepI Z1 W (.sl (.sl T_A3)) ps [v]) (h2 : RepI Z2 W (.sl (.sl T_A3)) ps [v']) (e : P_laws_eqIntA3SS (ps, ps, ()) = some (true, ())) :
    Calls Try.prog 10 #[v, v'] W fun e w' => e = .returned (.bool true) ∧ Below W.heap.size W w' :=
  flat_calls (fn := Try.f10) s_laws_eqIntA3SS rfl Try.func10 rfl (by kernel_rfl) (Z := fun g => Z1 g ∨ Z2 g) trivial (fun g hg => by rcases hg with hg | hg; exact hz1 g hg; exact hz2 g hg)
    (xs := (ps, ps, ())) (vs := [v, v'])
    ⟨[v], _, rfl, (fun _ => rfl), RepI.mono (fun _ h => .inl h) (fun _ _ => rfl) _ _ _ h1, [v'], _, rfl, (fun _ => rfl), RepI.mono (fun _ h => .inr h) (fun _ _ => rfl) _ _ _ h2, rfl⟩ e

theorem k_held {Z1 : Nat → Prop} {ps : List (List D_A3)} {v : Value} {k k2 : Int} (hz1 : ∀ g, Z1 g → g < W.heap.size) (h1 : RepI Z1 W (.sl (.sl T_A3)) ps [v]) (e : P_laws_heldIntA3SS (ps, k, ()) = some (k2, ())) :
    Calls Try.prog 16 #[v, .int .i64 k] W fun e w' => e = .returned (.int .i64 k2) ∧ Below W.heap.size W w' :=
  flat_calls (fn := Try.f16) s_laws_heldIntA3SS rfl Try.func16 rfl (by kernel_rfl) (Z := Z1) trivial hz1
    (xs := (ps, k, ())) (vs := [v, .int .i64 k]) ⟨[v], _, rfl, (fun _ => rfl), h1, [.int .i64 k], _, rfl, (fun _ => rfl), rfl, rfl⟩ e

theorem k_spec {B2 : Nat} {ps : List (List D_A3)} {b : Bool} (hu : OwnV (fun _ => False) W B 48 T_A3 u l) (hu2 : OwnV (fun _ => False) W B2 43 T_A2 u2 cuts) (e : P_spec_PiecesAfter ((X, Y, Zz, l, ()), cuts, ()) = some (ps, b, ())) :
    Calls Try.prog 6 #[heapV X Y Zz u, u2] W fun e w' => ∃ v Z1, e = .returned (.tuple #[v, .bool b]) ∧ Below W.heap.size W w' ∧ RepI Z1 w' (.sl (.sl T_A3)) ps [v] ∧ ∀ g, Z1 g → g < w'.heap.size := by
  have ha := copies hu hu2
  refine (FCalls.calls (enter_run (fn := Try.f6) Try.func6 rfl (by kernel_rfl)) (s_spec_PiecesAfter W _ [heapV X Y Zz u, u2] ((X, Y, Zz, l, ()), cuts, ()) (ps, b, ()) trivial ha.zone
    ⟨_, _, rfl, (fun h => by cases h), repI_heap ha.cells, [u2], _, rfl, (fun _ => rfl), ha.cuts, rfl⟩ e)).mono ?_
  rintro e' w' ⟨v, rfl, Z', us, rfl, hbel, _, hz, g, h1, h2, _⟩
  obtain ⟨k1, _, k3⟩ := h2 0 (false, [RCell.own 22 (.sl T_A3) ps]) rfl
  obtain ⟨m1, _, m3⟩ := h2 1 (false, [RCell.flat (.bool b)]) rfl
  have a0 : OwnV Z' w' W.heap.size 22 (.sl T_A3) (g 0 0) ps := (k3 0 _ rfl).1
  have a1 := (m3 0 _ rfl).2
  match us, h1, k1, m1 with
  | [x, y], _, k1, m1 =>
    have hx : x = g 0 0 := by have : x = mkVal false ((List.range 1).map (g 0)) := by simpa using k1
                              rw [this]; rfl
    have hy : y = g 1 0 := by have : y = mkVal false ((List.range 1).map (g 1)) := by simpa using m1
                              rw [this]; rfl
    refine ⟨g 0 0, fun j => Z' j ∨ (g 0 0).ownBlock = some j, ?_, hbel, a0.reads _ (fun _ h => .inl h) (fun _ h => .inr h), fun j hj => ?_⟩
    · rw [hx, hy, a1]; rfl
    · rcases hj with hj | hj
      · rcases hz j hj with h | h
        · exact Nat.lt_of_lt_of_le (ha.zone j h) hbel.size
        · exact h.2
      · exact (a0.lt j hj).2
  | [], h1, _, _ => cases h1
  | [_], h1, _, _ => cases h1
  | _ :: _ :: _ :: _, h1, _, _ => cases h1

theorem k_impl {B2 : Nat} {ps : List (List D_A3)} {b : Bool} (hu : OwnV (fun _ => False) W B 48 T_A3 u l) (hu2 : OwnV (fun _ => False) W B2 43 T_A2 u2 cuts) (e : P_impl_PiecesAfter ((X, Y, Zz, l, ()), cuts, ()) = some (ps, b, ())) :
    Calls Try.prog 9 #[heapV X Y Zz u, u2] W fun e w' => PostP W ps b e w' := by
  obtain ⟨A, g, cap, rfl, hc⟩ := cutRow hu2
  exact pieces_walk (copies hu hu2) hc e

theorem k_markHeap {k k2 : Int} {h' : D_Heap} (hu : OwnV (fun _ => False) W B 48 T_A3 u l) (hF : P_laws_markHeap ((X, Y, Zz, l, ()), k, ()) = some ((k2, ()), (h', ()))) :
    Calls Try.prog 13 #[heapV X Y Zz u, .int .i64 k] W fun e w' => e = .returned (.int .i64 k2) ∧ FrameL (fun g => u.ownBlock = some g) W w' := by
  have hs := s_laws_markHeap W (fun _ => False) [heapV X Y Zz u, .int .i64 k] ((X, Y, Zz, l, ()), k, ()) (k2, ()) (h', ()) [.row u 48 T_A3] trivial (fun _ h => h.elim)
    ⟨[.int .i64 X, .int .i64 Y, .int .i64 Zz, u], [.int .i64 k], [.row u 48 T_A3], [], rfl, (fun h => by cases h), rfl,
      ⟨[.int .i64 X], [.int .i64 Y, .int .i64 Zz, u], [], [.row u 48 T_A3], [48], rfl, rfl, ⟨rfl, rfl, rfl⟩, ⟨[.int .i64 Y], [.int .i64 Zz, u], [], [.row u 48 T_A3], [48], rfl, rfl, ⟨rfl, rfl, rfl⟩,
        ⟨[.int .i64 Zz], [u], [], [.row u 48 T_A3], [48], rfl, rfl, ⟨rfl, rfl, rfl⟩, ⟨[u], [], [.row u 48 T_A3], [], [], rfl, rfl, ⟨48, u, rfl, rfl, rfl, OwnV.rebaseM hu fun g _ => Nat.zero_le g⟩, ⟨rfl, rfl, rfl⟩⟩⟩⟩⟩,
      [.int .i64 k], [], rfl, (fun _ => rfl), rfl, rfl, rfl⟩
    ⟨fun g hg => by
      obtain ⟨it, hit, hb⟩ := hg
      obtain rfl : it = .row u 48 T_A3 := by simpa using hit
      exact ⟨fun hz => hz, (hu.lt g hb).2, Nat.zero_le _⟩, fun i j p q g hp hq _ _ => by
      match i, j, hp, hq with
      | 0, 0, _, _ => rfl⟩ hF
  refine (FCalls.calls (enter_run (fn := Try.f13) Try.func13 rfl (by kernel_rfl)) hs).mono ?_
  rintro e w' ⟨v, rfl, Z', us, rfl, hfr, _, _, hres, _⟩
  have hus := resRel_flat (R := [(false, .int .i64)]) rfl hres
  refine ⟨by rw [hus]; rfl, ⟨hfr.os, hfr.tape, hfr.output, hfr.size, fun g hg hn => hfr.block g hg fun ⟨it, hit, hb⟩ => ?_⟩⟩
  obtain rfl : it = .row u 48 T_A3 := by simpa using hit
  exact hn hb

theorem k_markA2 {k k2 : Int} {c' : List D_A2} (hu : OwnV (fun _ => False) W B 43 T_A2 u cuts) (hF : P_laws_markIntA2S (cuts, k, ()) = some ((k2, ()), (c', ()))) :
    Calls Try.prog 14 #[u, .int .i64 k] W fun e w' => e = .returned (.int .i64 k2) ∧ FrameL (fun g => u.ownBlock = some g) W w' := by
  have hs := s_laws_markIntA2S W (fun _ => False) [u, .int .i64 k] (cuts, k, ()) (k2, ()) (c', ()) [.row u 43 T_A2] trivial (fun _ h => h.elim)
    ⟨[u], [.int .i64 k], [.row u 43 T_A2], [], rfl, (fun _ => rfl), rfl, ⟨43, u, rfl, rfl, rfl, OwnV.rebaseM hu fun g _ => Nat.zero_le g⟩, [.int .i64 k], [], rfl, (fun _ => rfl), rfl, rfl, rfl⟩
    ⟨fun g hg => by
      obtain ⟨it, hit, hb⟩ := hg
      obtain rfl : it = .row u 43 T_A2 := by simpa using hit
      exact ⟨fun hz => hz, (hu.lt g hb).2, Nat.zero_le _⟩, fun i j p q g hp hq _ _ => by
      match i, j, hp, hq with
      | 0, 0, _, _ => rfl⟩ hF
  refine (FCalls.calls (enter_run (fn := Try.f14) Try.func14 rfl (by kernel_rfl)) hs).mono ?_
  rintro e w' ⟨v, rfl, Z', us, rfl, hfr, _, _, hres, _⟩
  have hus := resRel_flat (R := [(false, .int .i64)]) rfl hres
  refine ⟨by rw [hus]; rfl, ⟨hfr.os, hfr.tape, hfr.output, hfr.size, fun g hg hn => hfr.block g hg fun ⟨it, hit, hb⟩ => ?_⟩⟩
  obtain rfl : it = .row u 43 T_A2 := by simpa using hit
  exact hn hb
end
end Go.VI
