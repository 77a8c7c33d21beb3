/- The law of PiecesAfter: its calls in their order. -/
import Derived.Test.YtkiiaoekkppghaaVhLaw1
namespace Go.VI
open Go.Proofs Go.RowKit
set_option maxRecDepth 100000

/-- The world behind a call: all is as it was but rows of cells and of cuts that are the law's own. -/
structure ReachP (w0 w w' : World) : Prop where
  below : Below w0.heap.size w0 w'
  tags : ∀ (g : Nat) (cur : Array Value) (T : TypeId), T ≠ 48 → T ≠ 43 → w.heap[g]? = some (Obj.cells cur T (0, 0)) → w'.heap[g]? = some (Obj.cells cur T (0, 0))

theorem ReachP.of {w0 w w' : World} (h0 : Below w0.heap.size w0 w) (h : Below w.heap.size w w') : ReachP w0 w w' :=
  ⟨belowThen h0 h, fun _ _ _ _ _ hg => (h.block _ (lt_of_block hg)).trans hg⟩

theorem ReachP.lent {w0 w w' : World} {L : Nat → Prop} (h0 : Below w0.heap.size w0 w) (h : FrameL L w w') (hL : ∀ g, L g → w0.heap.size ≤ g ∧ ∃ (cur : Array Value) (T : TypeId) (fz : Nat × Nat), (T = 48 ∨ T = 43) ∧ w.heap[g]? = some (Obj.cells cur T fz)) : ReachP w0 w w' := by
  refine ⟨⟨h.os.trans h0.os, h.tape.trans h0.tape, h.output.trans h0.output, Nat.le_trans h0.size h.size, fun g hg => ?_⟩, fun g cur T t1 t2 hg => ?_⟩
  · rw [h.block g (Nat.lt_of_lt_of_le hg h0.size) fun hl => by have := (hL g hl).1; omega]
    exact h0.block g hg
  · rw [h.block g (lt_of_block hg) fun hl => ?_]
    · exact hg
    · obtain ⟨_, c2, T2, fz, ht, h2⟩ := hL g hl
      rw [hg] at h2
      simp only [Option.some.injEq, Obj.cells.injEq] at h2
      obtain ⟨_, rfl, _⟩ := h2
      rcases ht with ht | ht
      · exact t1 ht
      · exact t2 ht

section
variable (w0 : World) (hv cv : Value) (X Y Zz : Int) (b : Bool) (z1 z2 k1 k2 m : Int)

def T23 (g0 : Value) (w : World) : Prop := ∀ W, Below w.heap.size w W → Calls Try.prog 16 #[g0, .int .i64 1] W fun e w' => e = .returned (.int .i64 m) ∧ ReachP w0 W w'
def T22 (wv g0 h0 : Value) (w : World) : Prop := ∀ W, Below w.heap.size w W → Calls Try.prog 10 #[h0, wv] W fun e w' => e = .returned (.bool true) ∧ ReachP w0 W w' ∧ T23 w0 m g0 w'
def T21 (wv g0 u u2 : Value) (w : World) : Prop := ∀ W, Below w.heap.size w W → Calls Try.prog 9 #[heapV X Y Zz u, u2] W fun e w' => ∃ h0, e = .returned (.tuple #[h0, .bool b]) ∧ ReachP w0 W w' ∧ T22 w0 m wv g0 h0 w'
def T20 (wv g0 u : Value) (w : World) : Prop := ∀ W, Below w.heap.size w W → Calls Try.prog 8 #[cv] W fun e w' => ∃ u2, e = .returned u2 ∧ ReachP w0 W w' ∧ T21 w0 X Y Zz b m wv g0 u u2 w'
def T19 (wv g0 : Value) (w : World) : Prop := ∀ W, Below w.heap.size w W → Calls Try.prog 7 #[hv] W fun e w' => ∃ u, e = .returned (heapV X Y Zz u) ∧ (∃ a n c, u = Value.slice a n c) ∧ ReachP w0 W w' ∧ T20 w0 cv X Y Zz b m wv g0 u w'
def T18 (wv g0 : Value) (w : World) : Prop := ∀ W, Below w.heap.size w W → Calls Try.prog 16 #[g0, .int .i64 1] W fun e w' => e = .returned (.int .i64 m) ∧ ReachP w0 W w' ∧ T19 w0 hv cv X Y Zz b m wv g0 w'
def T17 (wv g0 : Value) (w : World) : Prop := ∀ W, Below w.heap.size w W → Calls Try.prog 15 #[g0, .int .i64 1] W fun e w' => e = .returned (.int .i64 m) ∧ ReachP w0 W w' ∧ T18 w0 hv cv X Y Zz b m wv g0 w'
def T16 (wv g0 : Value) (w : World) : Prop := ∀ W, Below w.heap.size w W → Calls Try.prog 10 #[g0, wv] W fun e w' => e = .returned (.bool true) ∧ ReachP w0 W w' ∧ T17 w0 hv cv X Y Zz b m wv g0 w'
def T15 (wv g0 x1 : Value) (w : World) : Prop := ∀ W, Below w.heap.size w W → Calls Try.prog 14 #[x1, .int .i64 k1] W fun e w' => e = .returned (.int .i64 k2) ∧ ReachP w0 W w' ∧ T16 w0 hv cv X Y Zz b m wv g0 w'
def T14 (wv g0 x0 x1 : Value) (w : World) : Prop := ∀ W, Below w.heap.size w W → Calls Try.prog 13 #[heapV X Y Zz x0, .int .i64 1] W fun e w' => e = .returned (.int .i64 k1) ∧ ReachP w0 W w' ∧ T15 w0 hv cv X Y Zz b k1 k2 m wv g0 x1 w'
def T13 (wv g0 x0 x1 y1 : Value) (w : World) : Prop := ∀ W, Below w.heap.size w W → Calls Try.prog 12 #[x1, y1] W fun e w' => e = .returned (.bool true) ∧ ReachP w0 W w' ∧ T14 w0 hv cv X Y Zz b k1 k2 m wv g0 x0 x1 w'
def T12 (wv g0 x0 x1 : Value) (w : World) : Prop := ∀ W, Below w.heap.size w W → Calls Try.prog 8 #[cv] W fun e w' => ∃ y1, e = .returned y1 ∧ ReachP w0 W w' ∧ T13 w0 hv cv X Y Zz b k1 k2 m wv g0 x0 x1 y1 w'
def T11 (wv g0 x0 x1 y : Value) (w : World) : Prop := ∀ W, Below w.heap.size w W → Calls Try.prog 11 #[heapV X Y Zz x0, heapV X Y Zz y] W fun e w' => e = .returned (.bool true) ∧ ReachP w0 W w' ∧ T12 w0 hv cv X Y Zz b k1 k2 m wv g0 x0 x1 w'
def T10 (wv g0 x0 x1 : Value) (w : World) : Prop := ∀ W, Below w.heap.size w W → Calls Try.prog 7 #[hv] W fun e w' => ∃ y, e = .returned (heapV X Y Zz y) ∧ (∃ a n c, y = Value.slice a n c) ∧ ReachP w0 W w' ∧ T11 w0 hv cv X Y Zz b k1 k2 m wv g0 x0 x1 y w'
def T9 (wv g0 x0 x1 : Value) (w : World) : Prop := ∀ W, Below w.heap.size w W → Calls Try.prog 10 #[g0, wv] W fun e w' => e = .returned (.bool true) ∧ ReachP w0 W w' ∧ T10 w0 hv cv X Y Zz b k1 k2 m wv g0 x0 x1 w'
def T8 (wv x0 x1 : Value) (w : World) : Prop := ∀ W, Below w.heap.size w W → Calls Try.prog 9 #[heapV X Y Zz x0, x1] W fun e w' => ∃ g0, e = .returned (.tuple #[g0, .bool b]) ∧ ReachP w0 W w' ∧ T9 w0 hv cv X Y Zz b k1 k2 m wv g0 x0 x1 w'
def T7 (wv x0 : Value) (w : World) : Prop := ∀ W, Below w.heap.size w W → Calls Try.prog 8 #[cv] W fun e w' => ∃ x1, e = .returned x1 ∧ ReachP w0 W w' ∧ T8 w0 hv cv X Y Zz b k1 k2 m wv x0 x1 w'
def T6 (wv : Value) (w : World) : Prop := ∀ W, Below w.heap.size w W → Calls Try.prog 7 #[hv] W fun e w' => ∃ x0, e = .returned (heapV X Y Zz x0) ∧ (∃ a n c, x0 = Value.slice a n c) ∧ ReachP w0 W w' ∧ T7 w0 hv cv X Y Zz b k1 k2 m wv x0 w'
def T5 (ua uc : Value) (w : World) : Prop := ∀ W, Below w.heap.size w W → Calls Try.prog 6 #[heapV X Y Zz ua, uc] W fun e w' => ∃ wv, e = .returned (.tuple #[wv, .bool b]) ∧ ReachP w0 W w' ∧ T6 w0 hv cv X Y Zz b k1 k2 m wv w'
def T4 (ua : Value) (w : World) : Prop := ∀ W, Below w.heap.size w W → Calls Try.prog 8 #[cv] W fun e w' => ∃ uc, e = .returned uc ∧ ReachP w0 W w' ∧ T5 w0 hv cv X Y Zz b k1 k2 m ua uc w'
def T3 (w : World) : Prop := ∀ W, Below w.heap.size w W → Calls Try.prog 7 #[hv] W fun e w' => ∃ ua, e = .returned (heapV X Y Zz ua) ∧ (∃ a n c, ua = Value.slice a n c) ∧ ReachP w0 W w' ∧ T4 w0 hv cv X Y Zz b k1 k2 m ua w'
def T2 (w : World) : Prop := ∀ W, Below w.heap.size w W → Calls Try.prog 5 #[cv, .int .i64 z1] W fun e w' => e = .returned (.int .i64 z2) ∧ ReachP w0 W w' ∧ (¬ z2 < 0 → T3 w0 hv cv X Y Zz b k1 k2 m w')
def T1 (w : World) : Prop := ∀ W, Below w.heap.size w W → Calls Try.prog 4 #[hv, .int .i64 1048576] W fun e w' => e = .returned (.int .i64 z1) ∧ ReachP w0 W w' ∧ (¬ z1 < 0 → T2 w0 hv cv X Y Zz b z1 z2 k1 k2 m w')
end

/-- What the called functions compute. -/
structure LawG (X Y Zz : Int) (l : List D_A3) (cuts : List D_A2) (ps : List (List D_A3)) (b : Bool) (k1 k2 : Int) (kf : Nat → Int) (lf : Nat → List D_A3) : Prop where
  th : P_laws_toHeap ((X, Y, Zz, l, ()), ()) = some ((X, Y, Zz, l, ()), ())
  ta : P_laws_toIntA2S (cuts, ()) = some (cuts, ())
  sp : P_spec_PiecesAfter ((X, Y, Zz, l, ()), cuts, ()) = some (ps, b, ())
  im : P_impl_PiecesAfter ((X, Y, Zz, l, ()), cuts, ()) = some (ps, b, ())
  es : P_laws_eqIntA3SS (ps, ps, ()) = some (true, ())
  eh : P_laws_eqHeap ((X, Y, Zz, l, ()), (X, Y, Zz, l, ()), ()) = some (true, ())
  ea : P_laws_eqIntA2S (cuts, cuts, ()) = some (true, ())
  mh : ∃ h', P_laws_markHeap ((X, Y, Zz, l, ()), 1, ()) = some ((k1, ()), (h', ()))
  ma : ∃ c', P_laws_markIntA2S (cuts, k1, ()) = some ((k2, ()), (c', ()))
  len : ps.length ≤ 1000
  k0 : kf 0 = 1
  hm : ∀ i l, ps[i]? = some l → P_laws_markIntA3S (l, kf i, ()) = some ((kf (i + 1), ()), (lf i, ()))
  hd : P_laws_heldIntA3SS ((List.range ps.length).map lf, 1, ()) = some (kf ps.length, ())

structure LawF (X Y Zz : Int) (l : List D_A3) (cuts : List D_A2) (ps : List (List D_A3)) (b : Bool) (z1 z2 k1 k2 : Int) (kf : Nat → Int) (lf : Nat → List D_A3) : Prop where
  sz1 : P_laws_szHeap ((X, Y, Zz, l, ()), 1048576, ()) = some (z1, ())
  sz2 : ¬ z1 < 0 → P_laws_szIntA2S (cuts, z1, ()) = some (z2, ())
  rest : ¬ z1 < 0 → ¬ z2 < 0 → LawG X Y Zz l cuts ps b k1 k2 kf lf

theorem isSl {Z : Nat → Prop} {w : World} {B : Nat} {e : TypeId} {t : Ty} {v : Value} {l : List t.den} (h : OwnV Z w B e t v l) : ∃ a n c, v = .slice a n c := by
  obtain ⟨a, c, h⟩ := h.slice1
  exact ⟨a, _, c, h⟩
theorem own_below {w w' : World} {B : Nat} {e : TypeId} {t : Ty} {v : Value} {l : List t.den} (h : OwnV (fun _ => False) w B e t v l) (hb : Below w.heap.size w w') : OwnV (fun _ => False) w' B e t v l :=
  h.mono (fun _ hz => hz) (fun _ hz => hz.elim) fun g hg => hb.block g (h.lt g hg).2
theorem rep_below {Z : Nat → Prop} {w w' : World} {t : Ty} {x : t.den} {cs : List Value} (hz : ∀ g, Z g → g < w.heap.size) (h : RepI Z w t x cs) (hb : Below w.heap.size w w') : RepI Z w' t x cs :=
  RepI.mono (fun _ h => h) (fun g hg => hb.block g (hz g hg)) _ _ _ h

/-- The zone of rows of rows of one's own. -/
def ZD (v : Value) (vs : List Value) (g : Nat) : Prop := v.ownBlock = some g ∨ ∃ u ∈ vs, u.ownBlock = some g
theorem ZD.lt {w : World} {B : Nat} {eo ei : TypeId} {t : Ty} {v : Value} {vs : List Value} {ls : List (List t.den)} (h : DeepR w B eo ei t v vs ls) : ∀ g, ZD v vs g → B ≤ g ∧ g < w.heap.size := by
  rintro g (hg | ⟨u, hu, hg⟩)
  · exact h.outer.lt g hg
  · obtain ⟨i, hi⟩ := List.mem_iff_getElem?.1 hu
    obtain ⟨l, hl⟩ := getElem?_len h.len hi
    exact (h.inner i u l hi hl).lt g hg
theorem DeepR.rep {w : World} {B : Nat} {eo ei : TypeId} {t : Ty} {v : Value} {vs : List Value} {ls : List (List t.den)} (h : DeepR w B eo ei t v vs ls) : RepI (ZD v vs) w (.sl (.sl t)) ls [v] :=
  h.reads (fun _ hg => .inl hg) fun u hu g hg => .inr ⟨u, hu, hg⟩

theorem script {Z : Nat → Prop} {w0 : World} {X Y Zz : Int} {l : List D_A3} {lv cv : Value} {cuts : List D_A2} {ps : List (List D_A3)} {b : Bool} {z1 z2 k1 k2 : Int} {kf : Nat → Int} {lf : Nat → List D_A3} (h : ArgsP Z w0 l lv cuts cv) (f : LawF X Y Zz l cuts ps b z1 z2 k1 k2 kf lf) :
    T1 w0 (heapV X Y Zz lv) cv X Y Zz b z1 z2 k1 k2 (kf ps.length) w0 := by
  intro W hb
  refine (k_szHeap (h.at hb) f.sz1).mono ?_
  rintro e w1 ⟨rfl, r1⟩
  refine ⟨rfl, .of hb r1, fun n1 => ?_⟩
  have B1 := belowThen hb r1
  clear r1 hb
  intro W hb
  refine (k_szA2 (h.at (belowThen B1 hb)) (f.sz2 n1)).mono ?_
  rintro e w2 ⟨rfl, r1⟩
  refine ⟨rfl, .of (belowThen B1 hb) r1, fun n2 => ?_⟩
  have B2 := belowThen (belowThen B1 hb) r1
  clear r1 hb B1
  have G := f.rest n1 n2
  -- 3
  intro W hb
  refine (k_toHeap (h.at (belowThen B2 hb)) G.th).mono ?_
  rintro e w3 ⟨ua, rfl, r1, oa⟩
  refine ⟨ua, rfl, isSl oa, .of (belowThen B2 hb) r1, ?_⟩
  have B3 := belowThen (belowThen B2 hb) r1
  clear r1 hb B2
  -- 4
  intro W hb
  refine (k_toA2 (h.at (belowThen B3 hb)) G.ta).mono ?_
  rintro e w4 ⟨uc, rfl, r1, oc⟩
  refine ⟨uc, rfl, .of (belowThen B3 hb) r1, ?_⟩
  have B4 := belowThen (belowThen B3 hb) r1
  have oa := own_below (own_below oa hb) r1
  clear r1 hb B3
  -- 5
  intro W hb
  refine (k_spec (own_below oa hb) (own_below oc hb) G.sp).mono ?_
  rintro e w5 ⟨wv, Z1, rfl, r1, rw, zw⟩
  refine ⟨wv, rfl, .of (belowThen B4 hb) r1, ?_⟩
  have B5 := belowThen (belowThen B4 hb) r1
  clear r1 hb B4 oa oc
  -- 6
  intro W hb
  refine (k_toHeap (h.at (belowThen B5 hb)) G.th).mono ?_
  rintro e w6 ⟨x0, rfl, r1, o0⟩
  refine ⟨x0, rfl, isSl o0, .of (belowThen B5 hb) r1, ?_⟩
  have B6 := belowThen (belowThen B5 hb) r1
  obtain ⟨n6, hn6⟩ : ∃ n6, n6 = w5.heap.size := ⟨_, rfl⟩
  have hn0 : w0.heap.size ≤ n6 := by have := B5.size; omega
  have rw := rep_below (fun g hg => by have := zw g hg; have := hb.size; omega) (rep_below zw rw hb) r1
  have zw : ∀ g, Z1 g → g < n6 := fun g hg => by have := zw g hg; omega
  have hs6 : n6 ≤ w6.heap.size := by have := hb.size; have := r1.size; omega
  have o0 : OwnV (fun _ => False) w6 n6 48 T_A3 x0 l := OwnV.rebaseM o0 fun g hg => by have := (o0.lt g hg).1; have := hb.size; omega
  clear r1 hb B5 hn6
  -- 7
  intro W hb
  refine (k_toA2 (h.at (belowThen B6 hb)) G.ta).mono ?_
  rintro e w7 ⟨x1, rfl, r1, o1⟩
  refine ⟨x1, rfl, .of (belowThen B6 hb) r1, ?_⟩
  have B7 := belowThen (belowThen B6 hb) r1
  have o0 := own_below (own_below o0 hb) r1
  have rw := rep_below (fun g hg => by have := zw g hg; have := hb.size; omega) (rep_below (fun g hg => by have := zw g hg; omega) rw hb) r1
  have o1 : OwnV (fun _ => False) w7 n6 43 T_A2 x1 cuts := OwnV.rebaseM o1 fun g hg => by have := (o1.lt g hg).1; have := hb.size; omega
  have hs7 : n6 ≤ w7.heap.size := by have := hb.size; have := r1.size; omega
  clear r1 hb B6 hs6
  -- 8
  intro W hb
  refine (k_impl (own_below o0 hb) (own_below o1 hb) G.im).mono ?_
  rintro e w8 ⟨g0, vs, rfl, r1, d⟩
  refine ⟨g0, rfl, .of (belowThen B7 hb) r1, ?_⟩
  have B8 := belowThen (belowThen B7 hb) r1
  obtain ⟨n8, hn8⟩ : ∃ n8, n8 = W.heap.size := ⟨_, rfl⟩
  have lt0 : ∀ g, x0.ownBlock = some g → n6 ≤ g ∧ g < n8 := fun g hg => by have := o0.lt g hg; have := hb.size; omega
  have lt1 : ∀ g, x1.ownBlock = some g → n6 ≤ g ∧ g < n8 := fun g hg => by have := o1.lt g hg; have := hb.size; omega
  have hn68 : n6 ≤ n8 := by have := hb.size; omega
  rw [← hn8] at d
  have hs8 : n8 ≤ w8.heap.size := by have := r1.size; omega
  have o0 := own_below (own_below o0 hb) r1
  have o1 := own_below (own_below o1 hb) r1
  have rw := rep_below (fun g hg => by have := zw g hg; have := hb.size; omega) (rep_below (fun g hg => by have := zw g hg; omega) rw hb) r1
  clear r1 hb B7 hn8 hs7
  -- 9
  intro W hb
  refine (k_eqSS (fun g hg => ((ZD.lt (d.below hb)) g hg).2) (fun g hg => by have := zw g hg; have := hb.size; omega) (d.below hb).rep (rep_below (fun g hg => by have := zw g hg; omega) rw hb) G.es).mono ?_
  rintro e w9 ⟨rfl, r1⟩
  refine ⟨rfl, .of (belowThen B8 hb) r1, ?_⟩
  have B9 := belowThen (belowThen B8 hb) r1
  have d := (d.below hb).below r1
  have o0 := own_below (own_below o0 hb) r1
  have o1 := own_below (own_below o1 hb) r1
  have rw := rep_below (fun g hg => by have := zw g hg; have := hb.size; omega) (rep_below (fun g hg => by have := zw g hg; omega) rw hb) r1
  have hs9 : n8 ≤ w9.heap.size := by have := r1.size; have := hb.size; omega
  clear r1 hb B8 hs8
  -- 10
  intro W hb
  refine (k_toHeap (h.at (belowThen B9 hb)) G.th).mono ?_
  rintro e w10 ⟨y, rfl, r1, oy⟩
  refine ⟨y, rfl, isSl oy, .of (belowThen B9 hb) r1, ?_⟩
  have B10 := belowThen (belowThen B9 hb) r1
  have d := (d.below hb).below r1
  have o0 := own_below (own_below o0 hb) r1
  have o1 := own_below (own_below o1 hb) r1
  have rw := rep_below (fun g hg => by have := zw g hg; have := hb.size; omega) (rep_below (fun g hg => by have := zw g hg; omega) rw hb) r1
  have hs10 : n8 ≤ w10.heap.size := by have := r1.size; have := hb.size; omega
  clear r1 hb B9 hs9
  -- 11
  intro W hb
  refine (k_eqHeap (own_below o0 hb) (own_below oy hb) G.eh).mono ?_
  rintro e w11 ⟨rfl, r1⟩
  refine ⟨rfl, .of (belowThen B10 hb) r1, ?_⟩
  have B11 := belowThen (belowThen B10 hb) r1
  have d := (d.below hb).below r1
  have o0 := own_below (own_below o0 hb) r1
  have o1 := own_below (own_below o1 hb) r1
  have rw := rep_below (fun g hg => by have := zw g hg; have := hb.size; omega) (rep_below (fun g hg => by have := zw g hg; omega) rw hb) r1
  have hs11 : n8 ≤ w11.heap.size := by have := r1.size; have := hb.size; omega
  clear r1 hb B10 hs10 oy
  -- 12
  intro W hb
  refine (k_toA2 (h.at (belowThen B11 hb)) G.ta).mono ?_
  rintro e w12 ⟨y1, rfl, r1, oy⟩
  refine ⟨y1, rfl, .of (belowThen B11 hb) r1, ?_⟩
  have B12 := belowThen (belowThen B11 hb) r1
  have d := (d.below hb).below r1
  have o0 := own_below (own_below o0 hb) r1
  have o1 := own_below (own_below o1 hb) r1
  have rw := rep_below (fun g hg => by have := zw g hg; have := hb.size; omega) (rep_below (fun g hg => by have := zw g hg; omega) rw hb) r1
  have hs12 : n8 ≤ w12.heap.size := by have := r1.size; have := hb.size; omega
  clear r1 hb B11 hs11
  -- 13
  intro W hb
  refine (k_eqA2 (own_below o1 hb) (own_below oy hb) G.ea).mono ?_
  rintro e w13 ⟨rfl, r1⟩
  refine ⟨rfl, .of (belowThen B12 hb) r1, ?_⟩
  have B13 := belowThen (belowThen B12 hb) r1
  have d := (d.below hb).below r1
  have o0 := own_below (own_below o0 hb) r1
  have o1 := own_below (own_below o1 hb) r1
  have rw := rep_below (fun g hg => by have := zw g hg; have := hb.size; omega) (rep_below (fun g hg => by have := zw g hg; omega) rw hb) r1
  have hs13 : n8 ≤ w13.heap.size := by have := r1.size; have := hb.size; omega
  clear r1 hb B12 hs12 oy
  -- 14
  intro W hb
  obtain ⟨h', emh⟩ := G.mh
  have o0' := own_below o0 hb
  refine (k_markHeap o0' emh).mono ?_
  rintro e w14 ⟨rfl, r1⟩
  have R := ReachP.lent (belowThen B13 hb) r1 fun g hg => ⟨by have := lt0 g hg; omega, by obtain ⟨c, fz, e⟩ := o0'.tag hg; exact ⟨c, 48, fz, .inl rfl, e⟩⟩
  refine ⟨rfl, R, ?_⟩
  have B14 := R.below
  have d := d.below hb
  have d : DeepR w14 n8 22 48 T_A3 g0 vs ps := d.same fun g h1 h2 => r1.block g h2 fun hg => by have := lt0 g hg; omega
  have o1' := own_below o1 hb
  have o1 : OwnV (fun _ => False) w14 n6 43 T_A2 x1 cuts := o1'.mono (fun _ hz => hz) (fun _ hz => hz.elim) fun g hg => r1.block g (o1'.lt g hg).2 fun hg0 => by
    obtain ⟨c, fz, e1⟩ := o0'.tag hg0
    obtain ⟨c', fz', e2⟩ := o1'.tag hg
    rw [e1] at e2
    simp at e2
  have rw := rep_below (fun g hg => by have := zw g hg; omega) rw hb
  have rw : RepI Z1 w14 (.sl (.sl T_A3)) ps [wv] := RepI.mono (fun _ h => h) (fun g hg => r1.block g (by have := zw g hg; have := hb.size; omega) fun hg0 => by have := zw g hg; have := lt0 g hg0; omega) _ _ _ rw
  have hs14 : n8 ≤ w14.heap.size := by have := r1.size; have := hb.size; omega
  clear r1 hb B13 hs13 R o0 o0' o1'
  -- 15
  intro W hb
  obtain ⟨c', ema⟩ := G.ma
  have o1' := own_below o1 hb
  refine (k_markA2 o1' ema).mono ?_
  rintro e w15 ⟨rfl, r1⟩
  have R := ReachP.lent (belowThen B14 hb) r1 fun g hg => ⟨by have := lt1 g hg; omega, by obtain ⟨c, fz, e⟩ := o1'.tag hg; exact ⟨c, 43, fz, .inr rfl, e⟩⟩
  refine ⟨rfl, R, ?_⟩
  have B15 := R.below
  have d := d.below hb
  have d : DeepR w15 n8 22 48 T_A3 g0 vs ps := d.same fun g h1 h2 => r1.block g h2 fun hg => by have := lt1 g hg; omega
  have rw := rep_below (fun g hg => by have := zw g hg; omega) rw hb
  have rw : RepI Z1 w15 (.sl (.sl T_A3)) ps [wv] := RepI.mono (fun _ h => h) (fun g hg => r1.block g (by have := zw g hg; have := hb.size; omega) fun hg0 => by have := zw g hg; have := lt1 g hg0; omega) _ _ _ rw
  have hs15 : n8 ≤ w15.heap.size := by have := r1.size; have := hb.size; omega
  clear r1 hb B14 hs14 R o1 o1'
  -- 16
  intro W hb
  refine (k_eqSS (fun g hg => ((ZD.lt (d.below hb)) g hg).2) (fun g hg => by have := zw g hg; have := hb.size; omega) (d.below hb).rep (rep_below (fun g hg => by have := zw g hg; omega) rw hb) G.es).mono ?_
  rintro e w16 ⟨rfl, r1⟩
  refine ⟨rfl, .of (belowThen B15 hb) r1, ?_⟩
  have B16 := belowThen (belowThen B15 hb) r1
  have d := (d.below hb).below r1
  have rw := rep_below (fun g hg => by have := zw g hg; have := hb.size; omega) (rep_below (fun g hg => by have := zw g hg; omega) rw hb) r1
  have hs16 : n8 ≤ w16.heap.size := by have := r1.size; have := hb.size; omega
  clear r1 hb B15 hs15
  -- 17
  intro W hb
  have d' := d.below hb
  have hk := mark_deep d' G.len kf lf G.hm
  rw [G.k0] at hk
  refine hk.mono ?_
  rintro e w17 ⟨rfl, r1, d2⟩
  have hin : ∀ g, (∃ u ∈ vs, u.ownBlock = some g) → n8 ≤ g ∧ ∃ (cur : Array Value) (fz : Nat × Nat), W.heap[g]? = some (Obj.cells cur 48 fz) := by
    rintro g ⟨u, hu, hg⟩
    obtain ⟨i, hi⟩ := List.mem_iff_getElem?.1 hu
    obtain ⟨l', hl⟩ := getElem?_len d'.len hi
    exact ⟨((d'.inner i u l' hi hl).lt g hg).1, (d'.inner i u l' hi hl).tag hg⟩
  have R := ReachP.lent (belowThen B16 hb) r1 fun g hg => by
    obtain ⟨q1, c, fz, q2⟩ := hin g hg
    exact ⟨by omega, c, 48, fz, .inl rfl, q2⟩
  refine ⟨rfl, R, ?_⟩
  have B17 := R.below
  have rw := rep_below (fun g hg => by have := zw g hg; omega) rw hb
  have rw : RepI Z1 w17 (.sl (.sl T_A3)) ps [wv] := RepI.mono (fun _ h => h) (fun g hg => r1.block g (by have := zw g hg; have := hb.size; omega) fun hg0 => by have := zw g hg; have := (hin g hg0).1; omega) _ _ _ rw
  have hs17 : n8 ≤ w17.heap.size := by have := r1.size; have := hb.size; omega
  clear r1 hb B16 hs16 R d d' hin hk
  -- 18
  intro W hb
  refine (k_held (fun g hg => ((ZD.lt (d2.below hb)) g hg).2) (d2.below hb).rep G.hd).mono ?_
  rintro e w18 ⟨rfl, r1⟩
  refine ⟨rfl, .of (belowThen B17 hb) r1, ?_⟩
  have B18 := belowThen (belowThen B17 hb) r1
  have d2 := (d2.below hb).below r1
  have rw := rep_below (fun g hg => by have := zw g hg; have := hb.size; omega) (rep_below (fun g hg => by have := zw g hg; omega) rw hb) r1
  have hs18 : n8 ≤ w18.heap.size := by have := r1.size; have := hb.size; omega
  clear r1 hb B17 hs17
  -- 19
  intro W hb
  refine (k_toHeap (h.at (belowThen B18 hb)) G.th).mono ?_
  rintro e w19 ⟨u, rfl, r1, ou⟩
  refine ⟨u, rfl, isSl ou, .of (belowThen B18 hb) r1, ?_⟩
  have B19 := belowThen (belowThen B18 hb) r1
  have d2 := (d2.below hb).below r1
  have rw := rep_below (fun g hg => by have := zw g hg; have := hb.size; omega) (rep_below (fun g hg => by have := zw g hg; omega) rw hb) r1
  have hs19 : n8 ≤ w19.heap.size := by have := r1.size; have := hb.size; omega
  clear r1 hb B18 hs18
  -- 20
  intro W hb
  refine (k_toA2 (h.at (belowThen B19 hb)) G.ta).mono ?_
  rintro e w20 ⟨u2, rfl, r1, ou2⟩
  refine ⟨u2, rfl, .of (belowThen B19 hb) r1, ?_⟩
  have B20 := belowThen (belowThen B19 hb) r1
  have d2 := (d2.below hb).below r1
  have ou := own_below (own_below ou hb) r1
  have rw := rep_below (fun g hg => by have := zw g hg; have := hb.size; omega) (rep_below (fun g hg => by have := zw g hg; omega) rw hb) r1
  have hs20 : n8 ≤ w20.heap.size := by have := r1.size; have := hb.size; omega
  clear r1 hb B19 hs19
  -- 21
  intro W hb
  refine (k_impl (own_below ou hb) (own_below ou2 hb) G.im).mono ?_
  rintro e w21 ⟨h0, vs', rfl, r1, d3⟩
  refine ⟨h0, rfl, .of (belowThen B20 hb) r1, ?_⟩
  have B21 := belowThen (belowThen B20 hb) r1
  have d2 := (d2.below hb).below r1
  have rw := rep_below (fun g hg => by have := zw g hg; have := hb.size; omega) (rep_below (fun g hg => by have := zw g hg; omega) rw hb) r1
  have hs21 : n8 ≤ w21.heap.size := by have := r1.size; have := hb.size; omega
  clear r1 hb B20 hs20 ou ou2
  -- 22
  intro W hb
  refine (k_eqSS (fun g hg => ((ZD.lt (d3.below hb)) g hg).2) (fun g hg => by have := zw g hg; have := hb.size; omega) (d3.below hb).rep (rep_below (fun g hg => by have := zw g hg; omega) rw hb) G.es).mono ?_
  rintro e w22 ⟨rfl, r1⟩
  refine ⟨rfl, .of (belowThen B21 hb) r1, ?_⟩
  have B22 := belowThen (belowThen B21 hb) r1
  have d2 := (d2.below hb).below r1
  clear r1 hb B21 hs21 rw d3
  -- 23
  intro W hb
  refine (k_held (fun g hg => ((ZD.lt (d2.below hb)) g hg).2) (d2.below hb).rep G.hd).mono ?_
  rintro e w23 ⟨rfl, r1⟩
  exact ⟨rfl, .of (belowThen B22 hb) r1⟩
end Go.VI
