/- PiecesAfter of the program, by a walk. -/
import Derived.Test.YtkiiaoekkppghaaVhPx
import Derived.Test.YtkiiaoekkppghaaViCode
import Derived.Test.YtkiiaoekkppghaaVhArr
import Derived.Test.YtkiiaoekkppghaaVhOne
import Derived.Deep.CutRange
namespace Go.VI
open Go.Proofs Go.RowKit
set_option maxRecDepth 100000

theorem deep_nil (w : World) (B : Nat) : DeepR w B 22 48 T_A3 (.slice none 0 0) [] [] := DeepR.nil (World.ownsRow_nil _ _ _ _)

structure StartP (w wc : World) (v8 : Value) (b9 : Nat) (x y z : Int) : Prop where
  below : Below w.heap.size w wc
  row : wc.ownsRow w.heap.size 22 1 v8 0 []
  box : ∃ T, wc.heap[b9]? = some (.cells #[.int .i64 x, .int .i64 y, .int .i64 z] T (0, 0))
  new9 : w.heap.size ≤ b9
  ne : v8.ownBlock ≠ some b9

theorem ownsRow_base {w : World} {base base' : Nat} {e : TypeId} {size : Nat} {v : Value} {n : Nat} {xs : List Value} (h : w.ownsRow base e size v n xs) (hb : base' ≤ base) : w.ownsRow base' e size v n xs := by
  refine ⟨h.1, ?_⟩
  rcases h.2 with hn | ⟨g, cap, cur, rfl, hb', hg, rest⟩
  · exact .inl hn
  · exact .inr ⟨g, cap, cur, rfl, Nat.le_trans hb hb', hg, rest⟩

structure LoopP (w wc : World) (v8 : Value) (vs : List Value) (ps : List (List D_A3)) (b9 : Nat) (x y z : Int) : Prop where
  below : Below w.heap.size w wc
  deep : DeepR wc w.heap.size 22 48 T_A3 v8 vs ps
  box : ∃ T, wc.heap[b9]? = some (.cells #[.int .i64 x, .int .i64 y, .int .i64 z] T (0, 0))
  new9 : w.heap.size ≤ b9
  ne : v8.ownBlock ≠ some b9

theorem first_cells {Z : Nat → Prop} {w : World} {B : Nat} {v : Value} {fs : List D_A3} (h : OwnV Z w B 48 T_A3 v fs) (h0 : 0 < fs.length) :
    ∃ g c, v = .slice (some ⟨g, 0, none⟩) fs.length c ∧ w.cell? ⟨g, 0, none⟩ = some (.int .i64 (nth T_A3 fs 0).1) ∧ w.cell? ⟨g, 1, none⟩ = some (.int .i64 (nth T_A3 fs 0).2.1) ∧ w.cell? ⟨g, 2, none⟩ = some (.int .i64 (nth T_A3 fs 0).2.2.1) := by
  obtain ⟨_, xs, ho, hr⟩ := h
  have ho := ho.plain (by decide)
  match fs, h0, hr, ho with
  | x :: r, _, hr, ho =>
    obtain ⟨c1, c2, rfl, hx, _⟩ := hr
    obtain ⟨y1, y2, rfl, rfl, y3, y4, rfl, rfl, y5, y6, rfl, rfl, rfl⟩ := hx
    rcases ho.2 with ⟨_, h0⟩ | ⟨g, c, cur, rfl, rest⟩
    · simp at h0
    · have hc := ho.cells (g := g) rfl
      refine ⟨g, c, rfl, ?_, ?_, ?_⟩
      · have := hc 0 _ rfl; rw [Addr.add_lit, Nat.zero_add] at this; exact this
      · have := hc 1 _ rfl; rw [Addr.add_lit, Nat.zero_add] at this; exact this
      · have := hc 2 _ rfl; rw [Addr.add_lit, Nat.zero_add] at this; exact this

theorem low_eq (q : Int) : bits BinOp.and IntKind.u64 q (IntKind.u64.wrap (-q)) = lowB q := by
  unfold lowB intBits bits; rw [Int.zero_sub]
theorem and_eq (p q : Int) : bits BinOp.and IntKind.u64 p q = intBits .and .u64 p q := by unfold intBits bits; rfl
theorem andNot_eq (p q : Int) : bits BinOp.andNot IntKind.u64 p q = intBits .andNot .u64 p q := by unfold intBits bits; rfl

/-- The row behind the round. -/
theorem push_loop {w wr w4 w5 w6 : World} {v8 v' u : Value} {vs : List Value} {ps : List (List D_A3)} {b9 : Nat} {x y z : Int} {li : List D_A3} {o : Obj} (h : LoopP w wr v8 vs ps b9 x y z) (hb4 : Below wr.heap.size wr w4) (hb5 : Below w4.heap.size w4 w5)
    (hu : OwnV (fun _ => False) w5 w4.heap.size 48 T_A3 u li) (hv : w6.ownsRow w.heap.size 22 1 v' (ps.length + 1) (vs ++ [u])) (hgr : (w5.alloc o).grownBy w6 v8.ownBlock) (hp : v'.ownBlock = v8.ownBlock ∨ v'.ownBlock = some (w5.alloc o).heap.size) :
    LoopP w w6 v' (vs ++ [u]) (ps ++ [li]) b9 x y z := by
  obtain ⟨T, hb⟩ := h.box
  have h9 := lt_of_block hb
  have s1 := h.below.size
  have s4 := hb4.size
  have s5 := hb5.size
  have sa := alloc_size w5 o
  have hB := belowThen (belowThen h.below hb4) hb5
  refine ⟨?_, (h.deep.below hb4).push (by decide) hb5 (by omega) hu hv hgr, ⟨T, ?_⟩, h.new9, ?_⟩
  · exact (hB.alloc (by omega) o).grown hgr (by omega) fun j hj => (h.deep.outer.lt j hj).1
  · rw [hgr.block b9 (by omega) (fun e => h.ne e.symm), Below.heap_alloc _ _ _ (by omega), hb5.block b9 (by omega), hb4.block b9 h9]
    exact hb
  · rcases hp with e | e
    · rw [e]; exact h.ne
    · rw [e]; intro e'; have := Option.some.inj e'; omega

theorem LoopP.call {w wr w4 : World} {v8 : Value} {vs : List Value} {ps : List (List D_A3)} {b9 : Nat} {x y z : Int} (h : LoopP w wr v8 vs ps b9 x y z) (hb4 : Below wr.heap.size wr w4) : LoopP w w4 v8 vs ps b9 x y z := by
  obtain ⟨T, hb⟩ := h.box
  exact ⟨belowThen h.below hb4, h.deep.below hb4, ⟨T, (hb4.block b9 (lt_of_block hb)).trans hb⟩, h.new9, h.ne⟩
theorem LoopP.alloc {w wr : World} {v8 : Value} {vs : List Value} {ps : List (List D_A3)} {b9 : Nat} {x y z : Int} (h : LoopP w wr v8 vs ps b9 x y z) (o : Obj) : LoopP w (wr.alloc o) v8 vs ps b9 x y z := h.call (belowAlloc wr o)

theorem reg9_facts {w wr w' : World} {vs : List Value} {Z Fr : Nat → Prop} {γ : Gh} {a : Act} {cuts : List D_A2} {x y z q : Int} {cv : Value} (hv : (avsOf vs)[0]? = some cv)
    (h : Core ⟨Try.prog, GG, wr, avsOf vs, Z, wr.heap.size, fun _ => undef, fun _ => none, n0⟩ X_impl_PiecesAfter γ Fr [(.ver, .num 1), (.box 9, .box 0 false [.int .i64 x, .int .i64 y, .int .i64 z]), (.tmp 1, .val false [.imm T_A2 cuts (some 0)]), (.tmp 8, .val false [.own 22 (.sl T_A3) 0 []]), (.tmp 9, .val false [.addr 9 0 0]), (.tmp 10, .val false [.int .u64 q])] a w')
    (hbw : Below w.heap.size w wr) : a.tmps.size = 81 ∧ a.defers = [] ∧ a.tmps.getD 1 undef = cv ∧ a.tmps.getD 10 undef = .int .u64 q ∧ ∃ v8 b9, a.tmps.getD 8 undef = v8 ∧ a.tmps.getD 9 undef = .pointer (some ⟨b9, 0, none⟩) ∧ StartP w w' v8 b9 x y z := by
  have t1 := h.tmp 1
  have t8 := h.tmp 8
  have t9 := h.tmp 9
  have t10 := h.tmp 10
  have c1 := (h.cell ⟨.tmp 1, 0, 0⟩ _ rfl).1
  have c8 := (h.cell ⟨.tmp 8, 0, 0⟩ _ rfl).1
  have c9 := (h.cell ⟨.tmp 9, 0, 0⟩ _ rfl).1
  have c10 := (h.cell ⟨.tmp 10, 0, 0⟩ _ rfl).1
  have d0 : γ.φ ⟨.box 9, 0, 0⟩ = .int .i64 x := (h.cell ⟨.box 9, 0, 0⟩ _ rfl).1
  have d1 : γ.φ ⟨.box 9, 0, 1⟩ = .int .i64 y := (h.cell ⟨.box 9, 0, 1⟩ _ rfl).1
  have d2 : γ.φ ⟨.box 9, 0, 2⟩ = .int .i64 z := (h.cell ⟨.box 9, 0, 2⟩ _ rfl).1
  obtain ⟨⟨T, hT⟩, hb2, _⟩ := h.box 9 0 false _ rfl
  have hof := h.own ⟨.tmp 8, 0, 0⟩ _ _ _ _ rfl
  have e1 : a.tmps.getD 1 undef = γ.φ ⟨.tmp 1, 0, 0⟩ := t1.1
  have e8 : a.tmps.getD 8 undef = γ.φ ⟨.tmp 8, 0, 0⟩ := t8.1
  have e9 : a.tmps.getD 9 undef = γ.φ ⟨.tmp 9, 0, 0⟩ := t9.1
  have e10 : a.tmps.getD 10 undef = γ.φ ⟨.tmp 10, 0, 0⟩ := t10.1
  have f1 : γ.φ ⟨.tmp 1, 0, 0⟩ = cv := by
    have := c1.2 0 rfl
    have : (avsOf vs)[0]? = some (γ.φ ⟨.tmp 1, 0, 0⟩) := this
    rw [hv] at this
    exact (Option.some.inj this).symm
  have f9 : γ.φ ⟨.tmp 9, 0, 0⟩ = .pointer (some ⟨γ.σ 9 0, 0, none⟩) := c9
  have f10 : γ.φ ⟨.tmp 10, 0, 0⟩ = .int .u64 q := c10
  have f8 : OwnV γ.Z w' wr.heap.size 22 (.sl T_A3) (γ.φ ⟨.tmp 8, 0, 0⟩) [] := c8
  have hcells : cellVals γ (.box 9) 0 3 = [.int .i64 x, .int .i64 y, .int .i64 z] := by
    show [γ.φ ⟨.box 9, 0, 0⟩, γ.φ ⟨.box 9, 0, 1⟩, γ.φ ⟨.box 9, 0, 2⟩] = _
    rw [d0, d1, d2]
  have hT' : w'.heap[γ.σ 9 0]? = some (.cells (cellVals γ (.box 9) 0 3).toArray T (0, 0)) := hT
  rw [hcells] at hT'
  have hLf : ∀ g, ¬ Fix.L ⟨Try.prog, GG, wr, avsOf vs, Z, wr.heap.size, fun _ => undef, fun _ => none, n0⟩ g := by
    rintro g (⟨k, hk⟩ | ⟨b, hb⟩)
    · exact absurd hk (by simp [undef, Value.ownBlock])
    · cases hb
  have hfr : Below wr.heap.size wr w' := ⟨h.frame.os, h.frame.tape, h.frame.output, h.frame.size, fun k hk => h.frame.block k hk (hLf k)⟩
  have hn9 : wr.heap.size ≤ γ.σ 9 0 := hb2.1 (by decide)
  have hsz := hbw.size
  refine ⟨h.size, h.defers, e1.trans f1, e10.trans f10, _, _, e8, e9.trans f9, ⟨belowThen hbw hfr, ?_, ⟨T, hT'⟩, by omega, ?_⟩⟩
  · obtain ⟨_, xs, ho, hr⟩ := f8
    have hx : xs = [] := hr
    subst hx
    exact ownsRow_base (ho.plain (by decide)) hsz
  · intro hg
    exact (hof.2.2 _ hg).2.1 9 0 false _ rfl rfl

abbrev PostP (w : World) (r : List (List D_A3)) (b : Bool) (e : Ending) (w' : World) : Prop :=
  ∃ v vs, e = .returned (.tuple #[v, .bool b]) ∧ Below w.heap.size w w' ∧ DeepR w' w.heap.size 22 48 T_A3 v vs r

theorem pieces_bad1 {w : World} {X Y Zz : Int} {lv : Value} {A : Option Addr} {n cap : Nat}
    (hI : ∀ W, Below w.heap.size w W → Calls Try.prog 23 #[heapV X Y Zz lv] W fun e w' => e = .returned (.bool false) ∧ Below W.heap.size W w') :
    Calls Try.prog 9 #[heapV X Y Zz lv, .slice A n cap] w fun e w' => PostP w [] false e w' := by
  have e0 := belowAlloc w (.cells #[.int .i64 X, .int .i64 Y, .int .i64 Zz, lv] 31)
  unfold heapV at *
  go_enter Try.func9, Try.ntmps9
  go_wp2_with (go_at_call 23; refine (hI _ e0).mono ?_; rintro e w1 ⟨rfl, hb1⟩)
  go_ret2
  exact ⟨_, [], rfl, belowThen e0 hb1, deep_nil _ _⟩

theorem pieces_bad2 {w : World} {X Y Zz : Int} {lv : Value} {A : Option Addr} {n cap : Nat} (hn : 12 < n)
    (hI : ∀ W, Below w.heap.size w W → Calls Try.prog 23 #[heapV X Y Zz lv] W fun e w' => e = .returned (.bool true) ∧ Below W.heap.size W w') :
    Calls Try.prog 9 #[heapV X Y Zz lv, .slice A n cap] w fun e w' => PostP w [] false e w' := by
  have e0 := belowAlloc w (.cells #[.int .i64 X, .int .i64 Y, .int .i64 Zz, lv] 31)
  have hn' : ((n : Int) > 12) = True := by simp; omega
  unfold heapV at *
  go_enter Try.func9, Try.ntmps9
  go_wp2_with (go_at_call 23; refine (hI _ e0).mono ?_; rintro e w1 ⟨rfl, hb1⟩)
  go_ret2
  exact ⟨_, [], rfl, belowThen e0 hb1, deep_nil _ _⟩

set_option maxHeartbeats 4000000 in
theorem pieces_main {Z : Nat → Prop} {w : World} {X Y Zz : Int} {l : List D_A3} {lv cv0 : Value} {cuts : List D_A2} (h : ArgsP Z w l lv cuts cv0) {A : Option Addr} {g cap : Nat} (hc : CutRow w A g cap cuts) (hn : cuts.length ≤ 12) {r : List (List D_A3)} {b : Bool}
    (hI : ∀ W, Below w.heap.size w W → Calls Try.prog 23 #[heapV X Y Zz lv] W fun e w' => e = .returned (.bool true) ∧ Below W.heap.size W w')
    (hF : l_impl_PiecesAfter_4 N X Y Zz l cuts cuts (cuts.length : Int) ((0 : Nat) : Int) = some (r, b, ())) :
    Calls Try.prog 9 #[heapV X Y Zz lv, .slice A cuts.length cap] w fun e w' => PostP w r b e w' := by
  have e0 := belowAlloc w (.cells #[.int .i64 X, .int .i64 Y, .int .i64 Zz, lv] 31)
  have hnn : ¬ ((cuts.length : Int) > 12) := by omega
  unfold heapV at *
  go_enter Try.func9, Try.ntmps9
  go_wp2_with (go_at_call 23; refine (hI _ e0).mono ?_; rintro e w1 ⟨rfl, hb1⟩; have hB1 := below_at hb1; have E1 := belowThen e0 hb1)
  go_loopg [26] N (fun m i wr => ∃ k : Nat, k ≤ cuts.length ∧ i = .int .i64 k ∧ l_impl_PiecesAfter_4 m X Y Zz l cuts cuts (cuts.length : Int) (k : Int) = some (r, b, ()) ∧ Below w.heap.size w wr ∧ wr.heap[w.heap.size]? = some (.cells #[.int .i64 X, .int .i64 Y, .int .i64 Zz, lv] 31))
  case atStart => exact ⟨0, Nat.zero_le _, rfl, hF, E1, hB1⟩
  case round =>
      obtain ⟨k, hk, rfl, hl, hbw, hbox⟩ := hrel
      obtain ⟨m', rfl, hlt, hge⟩ := inv4 hn hl
      obtain ⟨k0, k1, k2, k3⟩ := boxA4 hbox
      by_cases hkn : k < cuts.length
      · obtain ⟨q, j1, j2, j3⟩ := hlt hkn
        have hA := hc.some (by omega)
        obtain ⟨c0, c1⟩ := (hc.at hbw).cell k hkn
        have hcall : ∀ W, Below w.heap.size w W → Calls Try.prog 24 #[.agg #[.int .i64 X, .int .i64 Y, .int .i64 Zz, lv], .int .i64 (nth T_A2 cuts (k : Int)).1, .int .i64 (nth T_A2 cuts (k : Int)).2.1] W fun e w' => e = .returned (.bool q) ∧ Below W.heap.size W w' := fun W hb => c_isCut (h.at hb) j1
        subst hA
        clear hlt hge
        have E2 := fun o => belowThen hbw (belowAlloc wr o)
        cases q with
        | false =>
          obtain ⟨rfl, rfl, _⟩ : r = [] ∧ b = false ∧ True := by have := j2 rfl; simp at this; exact ⟨this.1, this.2, trivial⟩
          go_wp2_with (go_at_call 24; refine (hcall _ (E2 _)).mono ?_; rintro e w2 ⟨rfl, hb2⟩)
          go_ret2
          exact ⟨_, [], rfl, belowThen (E2 _) hb2, deep_nil _ _⟩
        | true =>
          have j4 := j3 rfl
          go_wp2_with (go_at_call 24; refine (hcall _ (E2 _)).mono ?_; rintro e w2 ⟨rfl, hb2⟩; have hB2 := (hb2.block _ (by rw [alloc_size]; have := lt_of_block hbox; omega)).trans (blockA hbox _))
          go_roundg m'
          case measure => omega
          case rel => exact ⟨k + 1, by omega, by go_num, j4, belowThen (E2 _) hb2, hB2⟩
      · obtain ⟨x, y, z, q, j1, j2, j3⟩ := hge hkn
        have hkl : ¬ ((k : Int) < (cuts.length : Int)) := by omega
        have hcB : ∀ W, Below w.heap.size w W → Calls Try.prog 25 #[.agg #[.int .i64 X, .int .i64 Y, .int .i64 Zz, lv]] W fun e w' => e = .returned (.agg #[.int .i64 x, .int .i64 y, .int .i64 z]) ∧ Below W.heap.size W w' := fun W hb => c_box (h.at hb) j1
        have hcC : ∀ W, Below w.heap.size w W → Calls Try.prog 26 #[.agg #[.int .i64 X, .int .i64 Y, .int .i64 Zz, lv]] W fun e w' => e = .returned (.int .u64 q) ∧ Below W.heap.size W w' := fun W hb => c_cubes (h.at hb) j2
        clear hlt hge hF hl
        go_upto_region 9 with fail
        have hcr := hc.at hbw
        refine vi_code (X := X_impl_PiecesAfter) (As := [.data false (.sl T_A2), .ptr T_Heap]) (xs := (cuts, (X, (Y, (Zz, (l, ())))), ())) (vs := [.slice A cuts.length cap, .pointer (some ⟨w.heap.size, 0, none⟩)]) (Z := fun j => Z j ∨ (0 < cuts.length ∧ j = g) ∨ j = w.heap.size) hmix hstable (tyOK_of ttOK) (hglob X_impl_PiecesAfter)
          (conOK_of ⟨s_impl_IsHeap, s_Heap_isCut, s_Heap_box, s_Heap_cubes, s_box_list, s_box_those, s_impl_PiecesAfter_1, s_box_grown, trivial⟩) (mconOK_of trivial) (by decide) 1 trivial ?_ ?_ rfl rfl ?_
          (k := fun e env' => match e with | .normal => some (Keep.head ⟨[.box 9, .tmp 1, .tmp 8, .tmp 9, .tmp 10], []⟩ env') | _ => none)
          (out := [(.ver, .num 1), (.box 9, .box 0 false [.int .i64 x, .int .i64 y, .int .i64 z]), (.tmp 1, .val false [.imm T_A2 cuts (some 0)]), (.tmp 8, .val false [.own 22 (.sl T_A3) 0 []]), (.tmp 9, .val false [.addr 9 0 0]), (.tmp 10, .val false [.int .u64 q])]) ?_ ?_
        · rintro j (hj | ⟨hj, rfl⟩ | rfl)
          · exact Nat.lt_of_lt_of_le (h.zone j hj) hbw.size
          · exact hcr.lt hj
          · exact lt_of_block hbox
        · refine ⟨[.slice A cuts.length cap], _, rfl, (fun _ => rfl), hcr.repI (fun hh => .inr (.inl ⟨hh, rfl⟩)), ⟨w.heap.size, 0, none⟩, _, [], rfl, .inr (.inr rfl), repI_heap (RepI.mono (fun _ hz => .inl hz) (fun _ _ => rfl) _ _ _ (h.at hbw).cells), ?_, rfl⟩
          obtain ⟨n0, n1, n2, n3⟩ := box_cells4 hbox
          intro j u hj
          rw [Addr.add_lit, Nat.zero_add]
          match j, hj with
          | 0, hj => obtain rfl := Option.some.inj hj; exact n0
          | 1, hj => obtain rfl := Option.some.inj hj; exact n1
          | 2, hj => obtain rfl := Option.some.inj hj; exact n2
          | 3, hj => obtain rfl := Option.some.inj hj; exact n3
        · intro k v hv
          match k, hv with
          | 0, hv => obtain rfl := Option.some.inj hv; rfl
          | 1, hv => obtain rfl := Option.some.inj hv; rfl
        · refine Eq.trans (b := Option.bind (P_Heap_box ((X, (Y, (Zz, (l, ())))), ())) fun r1 => Option.bind (P_Heap_cubes ((X, (Y, (Zz, (l, ())))), ())) fun r2 => some [(.ver, .num 1), (.box 9, .box 0 false [.int .i64 r1.1.1, .int .i64 r1.1.2.1, .int .i64 r1.1.2.2.1]), (.tmp 1, .val false [.imm T_A2 cuts (some 0)]), (.tmp 8, .val false [.own 22 (.sl T_A3) 0 []]), (.tmp 9, .val false [.addr 9 0 0]), (.tmp 10, .val false [.int .u64 r2.1])]) (by kernel_rfl) ?_
          rw [j1]
          simp only [Option.bind_some]
          rw [j2]
          rfl
        · intro e env' a' w' γ he hcore
          obtain ⟨rfl, he2⟩ : e = .normal ∧ Keep.head ⟨[.box 9, .tmp 1, .tmp 8, .tmp 9, .tmp 10], []⟩ env' = [(.ver, .num 1), (.box 9, .box 0 false [.int .i64 x, .int .i64 y, .int .i64 z]), (.tmp 1, .val false [.imm T_A2 cuts (some 0)]), (.tmp 8, .val false [.own 22 (.sl T_A3) 0 []]), (.tmp 9, .val false [.addr 9 0 0]), (.tmp 10, .val false [.int .u64 q])] := by
            cases e <;> simp at he
            exact ⟨rfl, he⟩
          have hst := head_sound ⟨γ, hcore⟩ ⟨[.box 9, .tmp 1, .tmp 8, .tmp 9, .tmp 10], []⟩
          rw [he2] at hst
          obtain ⟨γ', hc2⟩ := hst
          obtain ⟨s1, s2, s3, s4, v8, b9, s5, s6, s7⟩ := reg9_facts (cv := .slice A cuts.length cap) rfl hc2 hbw
          clear hc2 he2 he hcore hcr hcB hcC hbox hbw E1 hB1 hb1 e0 hI k0 k1 k2 k3
          obtain ⟨u0, u2, u3, u4, u5, u6, u7, u11, u12, u13, u14, u15, u16, u17, u18, u19, u20, u21, u22, u23, u24, u25, u26, u27, u28, u29, u30, u31, u32, u33, u34, u35, u36, u37, u38, u39, u40, u41, u42, u43, u44, u45, u46, u47, u48, u49, u50, u51, u52, u53, u54, u55, u56, u57, u58, u59, u60, u61, u62, u63, u64, u65, u66, u67, u68, u69, u70, u71, u72, u73, u74, u75, u76, u77, u78, u79, u80, rfl⟩ := act81 a' s1 s2 s3 s5 s6 s4
          clear s1 s2 s3 s4 s5 s6
          obtain ⟨T9, hb9⟩ := s7.box
          have hst0 : LoopP w w' v8 [] [] b9 x y z := ⟨s7.below, DeepR.nil s7.row, s7.box, s7.new9, s7.ne⟩
          clear hb9 s7
          go_wp2
          go_loopg [8, 10] N (fun m v8 v10 wr => ∃ vs ps qv, v10 = .int .u64 qv ∧ l_impl_PiecesAfter_10 m x y z cuts ps qv = some (r, b, ()) ∧ LoopP w wr v8 vs ps b9 x y z)
          case atStart => exact ⟨[], [], q, rfl, j3, hst0⟩
          case round =>
            obtain ⟨vs, ps, qv, rfl, hl, hL⟩ := hrel
            obtain ⟨m2, rfl, hz, hnz⟩ := inv10 hl
            by_cases hq : qv = 0
            · obtain ⟨rfl, rfl, _⟩ : r = ps ∧ b = true ∧ True := by have := hz hq; simp at this; exact ⟨this.1, this.2, trivial⟩
              subst hq
              go_wp2
              go_ret2
              exact ⟨_, vs, rfl, hL.below, hL.deep⟩
            · obtain ⟨fs, f1, f2, f3⟩ := hnz hq
              obtain ⟨T, hbx⟩ := hL.box
              obtain ⟨k0, k1, k2⟩ := box_cells3 hbx
              have hcl : Calls Try.prog 27 #[.agg #[.int .i64 x, .int .i64 y, .int .i64 z], .int .u64 (lowB qv)] wr fun e w' => ∃ v, e = .returned v ∧ Below wr.heap.size wr w' ∧ OwnV (fun _ => False) w' wr.heap.size 48 T_A3 v fs := c_list f1
              have hlow := low_eq qv
              obtain ⟨pv, hpv⟩ : ∃ pv, pv = lowB qv := ⟨_, rfl⟩
              rw [← hpv] at hcl hlow f3
              clear hz hnz hpv f1
              go_wp2_with (go_at_call 27; refine hcl.mono ?_; rintro e w2 ⟨fv, rfl, hb2, hfv⟩; obtain ⟨gf, cf, rfl, e0, e1, e2⟩ := first_cells hfv f2)
              have hL2 := (hL.call hb2).alloc (.cells #[.int .i64 (nth T_A3 fs 0).1, .int .i64 (nth T_A3 fs 0).2.1, .int .i64 (nth T_A3 fs 0).2.2.1] 48)
              have hbf := alloc_at w2 (.cells #[.int .i64 (nth T_A3 fs 0).1, .int .i64 (nth T_A3 fs 0).2.1, .int .i64 (nth T_A3 fs 0).2.2.1] 48)
              obtain ⟨bf, hbf0⟩ : ∃ bf, bf = w2.heap.size := ⟨_, rfl⟩
              obtain ⟨fa, hfa⟩ : ∃ fa, fa = (nth T_A3 fs 0).1 := ⟨_, rfl⟩
              obtain ⟨fb, hfb⟩ : ∃ fb, fb = (nth T_A3 fs 0).2.1 := ⟨_, rfl⟩
              obtain ⟨fc, hfc⟩ : ∃ fc, fc = (nth T_A3 fs 0).2.2.1 := ⟨_, rfl⟩
              rw [← hbf0] at hbf
              rw [← hfa, ← hfb, ← hfc] at f3 hL2 hbf
              rw [← hfa, ← hfb, ← hfc, ← hbf0]
              clear hcl hlow e0 e1 e2 hfv hb2 k0 k1 k2 hbx hL hfa hfb hfc hbf0 hst0 hl
              obtain ⟨wo, rfl⟩ : ∃ wo : World, wo = wr := ⟨_, rfl⟩
              go_loopg [13, 57] N (fun m v13 v57 wr => ∃ (k : Nat) (sv : Int), k ≤ cuts.length ∧ v13 = .int .u64 sv ∧ v57 = .int .i64 k ∧ l_impl_PiecesAfter_14 m2 m x y z fa fb fc cuts ps qv pv sv cuts (cuts.length : Int) (k : Int) = some (r, b, ()) ∧ LoopP w wr u8 vs ps b9 x y z ∧ wr.heap[bf]? = some (.cells #[.int .i64 fa, .int .i64 fb, .int .i64 fc] 48 (0, 0)))
              case atStart => exact ⟨0, qv, Nat.zero_le _, rfl, rfl, f3, hL2, hbf⟩
              case round =>
                obtain ⟨k, sv, hk, rfl, rfl, hl, hL, hbf⟩ := hrel
                obtain ⟨m3, rfl, hlt3, hge3⟩ := inv14 hn hl
                obtain ⟨T, hbx⟩ := hL.box
                by_cases hkn : k < cuts.length
                · obtain ⟨t, g1, g2⟩ := hlt3 hkn
                  have hkl : (k : Int) < (cuts.length : Int) := by omega
                  have hA := hc.some (by omega)
                  obtain ⟨c0, c1⟩ := (hc.at hL.below).cell k hkn
                  have hth := c_those (X := x) (Y := y) (Zz := z) (W := wr.alloc (.cells #[.int .i64 (nth T_A2 cuts (k : Int)).1, .int .i64 (nth T_A2 cuts (k : Int)).2.1] 43)) (bc := wr.heap.size) (bf := bf) (cut := nth T_A2 cuts (k : Int)) (first := (fa, fb, fc, ())) (alloc_at _ _) (blockA hbf _) g1
                  obtain ⟨k0, k1, k2⟩ := boxA3 hbx
                  have hand := and_eq sv t
                  unfold boxV at hth
                  subst hA
                  clear hlt3 hge3 hbx g1
                  go_wp2_with (go_at_call 28; refine hth.mono ?_; rintro e w4 ⟨rfl, hb4⟩)
                  go_roundg m3
                  case measure => omega
                  case rel => exact ⟨k + 1, intBits .and .u64 sv t, by omega, rfl, by go_num, g2, (hL.alloc _).call hb4, (hb4.block bf (by rw [alloc_size]; have := lt_of_block hbf; omega)).trans (blockA hbf _)⟩
                · obtain ⟨gv, li, g1, g2, g3, g4⟩ := hge3 hkn
                  have hkl : ¬ ((k : Int) < (cuts.length : Int)) := by omega
                  obtain ⟨k0, k1, k2⟩ := box_cells3 hbx
                  have hgr : Calls Try.prog 30 #[.agg #[.int .i64 x, .int .i64 y, .int .i64 z], .int .u64 pv, .int .u64 sv] wr fun e w' => e = .returned (.int .u64 gv) ∧ Below wr.heap.size wr w' := c_grown g1
                  have hli : ∀ W, Calls Try.prog 27 #[.agg #[.int .i64 x, .int .i64 y, .int .i64 z], .int .u64 gv] W fun e w' => ∃ v, e = .returned v ∧ Below W.heap.size W w' ∧ OwnV (fun _ => False) w' W.heap.size 48 T_A3 v li := fun W => c_list g2
                  have hand := andNot_eq qv gv
                  obtain ⟨i0, hi, hz0, hz1, hz2⟩ := info_parts info22
                  clear hlt3 hge3 hbf
                  go_wp2_with (first
                    | (go_at_call 30; refine hgr.mono ?_; rintro e w4 ⟨rfl, hb4⟩; obtain ⟨n0, n1, n2⟩ := box_cells3 ((hb4.block b9 (lt_of_block hbx)).trans hbx))
                    | (go_at_call 27; refine (hli _).mono ?_; rintro e w5 ⟨u, rfl, hb5, hu⟩; obtain ⟨ua, uc, rfl⟩ := hu.slice1; have hown5 := ((hL.call hb4).call hb5).deep.outer.alloc (.cells #[.slice ua li.length uc] 22))
                    | (at_builtin; refine wpList_append_own2 _ rfl _ _ 28 28 rfl w.heap.size 22 i0 (.slice none 0 0) 1 24 Try.underlying28 hi hz0 hz1 hz2 rfl u8 ps.length vs rfl hown5 (.slice (some ⟨w5.heap.size, 0, none⟩) 1 1) 1 [.slice ua li.length uc] rfl (one_srcT w5 28 22 _ Try.underlying28 rfl) (by unfold maxLen; omega) (by omega) ?_ ?_; rotate_left; intro v' w6 hv' hgr' hp'; have hL6 := push_loop hL hb4 hb5 hu hv' hgr' hp'))
                  · go_roundg m2
                    case measure => omega
                    case rel => exact ⟨_, _, _, rfl, g4, hL6⟩
                  · have q1 := hL.below.size
                    have q2 := hb4.size
                    have q3 := hb5.size
                    rw [alloc_size]
                    omega

theorem pieces_walk {Z : Nat → Prop} {w : World} {X Y Zz : Int} {l : List D_A3} {lv cv0 : Value} {cuts : List D_A2} (h : ArgsP Z w l lv cuts cv0) {A : Option Addr} {g cap : Nat} (hc : CutRow w A g cap cuts) {r : List (List D_A3)} {b : Bool}
    (hF : P_impl_PiecesAfter ((X, (Y, (Zz, (l, ())))), cuts, ()) = some (r, b, ())) :
    Calls Try.prog 9 #[heapV X Y Zz lv, .slice A cuts.length cap] w fun e w' => PostP w r b e w' := by
  obtain ⟨q0, i1, i2, i3⟩ := inv0 hF
  have hI : ∀ W, Below w.heap.size w W → Calls Try.prog 23 #[heapV X Y Zz lv] W fun e w' => e = .returned (.bool q0) ∧ Below W.heap.size W w' := fun W hb => c_IsHeap (h.at hb) i1
  have hnil : (q0 = false ∨ 12 < cuts.length) → r = [] ∧ b = false := fun hh => by have := i2 hh; simp at this; exact this
  cases q0 with
  | false =>
    obtain ⟨rfl, rfl⟩ := hnil (.inl rfl)
    exact pieces_bad1 hI
  | true =>
    rcases Nat.lt_or_ge 12 cuts.length with h12 | h12
    · obtain ⟨rfl, rfl⟩ := hnil (.inr h12)
      exact pieces_bad2 h12 hI
    · exact pieces_main h hc h12 hI (i3 rfl h12)
end Go.VI
