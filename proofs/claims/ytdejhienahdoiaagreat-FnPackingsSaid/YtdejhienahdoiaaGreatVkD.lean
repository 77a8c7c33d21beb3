/- impl.packings, by a walk. -/
import Derived.Test.YtdejhienahdoiaaGreatVkA
import Derived.Laws.EntriesVeiled
namespace Go.VI
open Go.Proofs Go.RowKit
set_option maxRecDepth 100000
def hpV (h : D_Heap) (u : Value) : Value := .agg #[.int .i64 h.1, .int .i64 h.2.1, .int .i64 h.2.2.1, u]
theorem repHeap {Z : Nat → Prop} {w : World} {X Y Zz : Int} {l : List D_A3} {lv : Value} (h : RepI Z w (.sl T_A3) l [lv]) : RepI Z w T_Heap (X, Y, Zz, l, ()) [.int .i64 X, .int .i64 Y, .int .i64 Zz, lv] :=
  ⟨[.int .i64 X], [.int .i64 Y, .int .i64 Zz, lv], rfl, rfl, [.int .i64 Y], [.int .i64 Zz, lv], rfl, rfl, [.int .i64 Zz], [lv], rfl, rfl, [lv], [], rfl, h, rfl⟩
structure ArgH (Z : Nat → Prop) (w : World) (h : D_Heap) (lv : Value) : Prop where
  zone : ∀ g, Z g → g < w.heap.size
  cells : RepI Z w (.sl T_A3) h.2.2.2.1 [lv]
theorem ArgH.at {Z : Nat → Prop} {w W : World} {h : D_Heap} {lv : Value} (a : ArgH Z w h lv) (hb : Below w.heap.size w W) : ArgH Z W h lv :=
  ⟨fun g hg => Nat.lt_of_lt_of_le (a.zone g hg) hb.size, RepI.mono (fun _ hz => hz) (fun g hg => hb.block g (a.zone g hg)) _ _ _ a.cells⟩
theorem ArgH.arg {Z : Nat → Prop} {w : World} {h : D_Heap} {lv : Value} (a : ArgH Z w h lv) : RepI Z w T_Heap h [.int .i64 h.1, .int .i64 h.2.1, .int .i64 h.2.2.1, lv] := repHeap a.cells
theorem c_box {Z : Nat → Prop} {W : World} {h : D_Heap} {lv : Value} {b : D_A3} (a0 : ArgH Z W h lv) (hF : P_Heap_box (h, ()) = some (b, ())) :
    Calls Tryz.prog 31 #[hpV h lv] W fun e' w' => e' = .returned (.agg #[.int .i64 b.1, .int .i64 b.2.1, .int .i64 b.2.2.1]) ∧ Below W.heap.size W w' :=
  arrH_calls (fn := Tryz.f31) s_Heap_box Tryz.func31 rfl (by kernel_rfl) trivial a0.zone (xs := (h, ())) (vs := [hpV h lv]) ⟨_, _, rfl, (fun h => by cases h), a0.arg, rfl⟩ hF
theorem c_free {Z : Nat → Prop} {W : World} {h : D_Heap} {lv : Value} {f : Int} (a0 : ArgH Z W h lv) (hF : P_Heap_free (h, ()) = some (f, ())) :
    Calls Tryz.prog 33 #[hpV h lv] W fun e' w' => e' = .returned (.int .u64 f) ∧ Below W.heap.size W w' :=
  flatH_calls (fn := Tryz.f33) (r := (f, ())) s_Heap_free rfl Tryz.func33 rfl (by kernel_rfl) trivial a0.zone (xs := (h, ())) (vs := [hpV h lv]) ⟨_, _, rfl, (fun h => by cases h), a0.arg, rfl⟩ hF
theorem c_size {W : World} {b : D_A3} {n : Int} (hF : P_box_size (b, ()) = some (n, ())) :
    Calls Tryz.prog 50 #[boxA b] W fun e' w' => e' = .returned (.int .i64 n) ∧ Below W.heap.size W w' :=
  flatH_calls (fn := Tryz.f50) (r := (n, ())) s_box_size rfl Tryz.func50 rfl (by kernel_rfl) (Z := fun _ => False) trivial (fun _ h => h.elim) (xs := (b, ())) (vs := [boxA b]) ⟨_, _, rfl, (fun h => by cases h), repA3 b.1 b.2.1 b.2.2.1, rfl⟩ hF
theorem c_packed {Z : Nat → Prop} {W : World} {h : D_Heap} {lv pv : Value} {ps : List (List D_A3)} {r : Bool} (a0 : ArgH Z W h lv) (hp : RepI Z W (.sl (.sl T_A3)) ps [pv]) (hF : P_impl_arePacked (h, ps, ()) = some (r, ())) :
    Calls Tryz.prog 23 #[hpV h lv, pv] W fun e' w' => e' = .returned (.bool r) ∧ Below W.heap.size W w' :=
  flatH_calls (fn := Tryz.f23) (r := (r, ())) s_impl_arePacked rfl Tryz.func23 rfl (by kernel_rfl) trivial a0.zone (xs := (h, ps, ())) (vs := [hpV h lv, pv]) ⟨_, _, rfl, (fun h => by cases h), a0.arg, _, _, rfl, (fun _ => rfl), hp, rfl⟩ hF
theorem box4 {w : World} {b t : Nat} {a0 a1 a2 a3 : Value} (h : w.heap[b]? = some (.cells #[a0, a1, a2, a3] t (0, 0))) :
    (w.cell? ⟨b, 0, none⟩ = some a0 ∧ w.cell? ⟨b, 1, none⟩ = some a1 ∧ w.cell? ⟨b, 2, none⟩ = some a2 ∧ w.cell? ⟨b, 3, none⟩ = some a3) := by
  refine ⟨?_, ?_, ?_, ?_⟩ <;> simp [World.cell?, h]
theorem blockA {w : World} {g : Nat} {o : Obj} (h : w.heap[g]? = some o) (o' : Obj) : (w.alloc o').heap[g]? = some o := belowBlock h (belowAlloc w o')
theorem one_src (w : World) (t e : TypeId) (v : Value) (ht : Tryz.prog.underlying t = some (.slice e)) (h1 : v.oneCell' = true) : Go.Src Tryz.prog 1 t (.slice (some ⟨w.heap.size, 0, none⟩) 1 1) 1 [v] (w.alloc (.cells #[v] e)) := by
  refine Go.Src.ofSlice _ ht _ 1 1 [v] rfl (fun j u hu => ?_) (fun u hu => ?_)
  · match j, hu with
    | 0, hu =>
      obtain rfl : v = u := by simpa using hu
      have : (w.alloc (.cells #[v] e)).heap[w.heap.size]? = some (.cells #[v] e (0, 0)) := heap_alloc_new w _
      exact cell_of_one this
  · obtain rfl : u = v := by simpa using hu
    exact h1
theorem sliceOf {w : World} {base : Nat} {e : TypeId} {s : Nat} {v : Value} {n : Nat} {xs : List Value} (h : w.ownsRow base e s v n xs) : ∃ A c, v = .slice A n c := by
  rcases h.2 with ⟨rfl, rfl⟩ | ⟨g, c', cur, rfl, _⟩
  · exact ⟨none, 0, rfl⟩
  · exact ⟨_, _, rfl⟩
theorem cellBD {w w' : World} {a : Addr} {u : Value} (h : w.cell? a = some u) (hb : Below w.drew.heap.size w.drew w') : w'.cell? a = some u := cellB (w := w.drew) h hb
theorem sliceSome {w : World} {base : Nat} {v : Value} {l : List Int} (h : w.ownsRow base 3 1 v l.length (ints l)) (hne : l ≠ []) : ∃ g c, v = .slice (some ⟨g, 0, none⟩) l.length c := by
  rcases h.2 with ⟨_, h0⟩ | ⟨g, c', cur, rfl, _⟩
  · exact absurd (List.length_eq_zero_iff.1 h0) hne
  · exact ⟨_, _, rfl⟩
theorem rowNe {w : World} {base : Nat} {lv : Value} {k : Nat} {xs : List Value} (h : w.ownsRow base 3 1 lv k xs) {g : Nat} {c : Array Value} {t : TypeId} (hh : w.heap[g]? = some (.cells c t (0, 0))) (ht : 3 ≠ t) : lv.ownBlock ≠ some g := fun e => by
  rcases h.2 with ⟨rfl, _⟩ | ⟨g', cap, cur, rfl, _, hg, _⟩
  · cases e
  · obtain rfl : g' = g := Option.some.inj e
    rw [hh] at hg
    simp only [Option.some.injEq, Obj.cells.injEq] at hg
    exact ht hg.2.1.symm
structure PkL (w : World) (h : D_Heap) (hv pv fv : Value) (b : D_A3) (o : Nat) (k : Nat) (lv : Value) (wr : World) : Prop where
  below : Below w.heap.size w wr
  hH : wr.heap[w.heap.size]? = some (.cells #[.int .i64 h.1, .int .i64 h.2.1, .int .i64 h.2.2.1, hv] 26 (0, 0))
  hP : wr.heap[w.heap.size + 1]? = some (.cells #[pv] 27 (0, 0))
  hV : wr.heap[w.heap.size + 1 + 1]? = some (.cells #[fv] 51 (0, 0))
  hB : wr.heap[o + 1]? = some (.cells #[.int .i64 b.1, .int .i64 b.2.1, .int .i64 b.2.2.1] 58 (0, 0))
  hL : wr.heap[o + 1 + 1]? = some (.cells #[lv] 32 (0, 0))
  row : wr.ownsRow w.heap.size 3 1 lv k (ints (List.replicate k (-1)))
  size : w.heap.size ≤ o
theorem PkL.at {w : World} {h : D_Heap} {hv pv fv : Value} {b : D_A3} {o k : Nat} {lv : Value} {wr w' : World} (a : PkL w h hv pv fv b o k lv wr) (hb : Below wr.heap.size wr w') : PkL w h hv pv fv b o k lv w' :=
  ⟨belowThen a.below hb, belowBlock a.hH hb, belowBlock a.hP hb, belowBlock a.hV hb, belowBlock a.hB hb, belowBlock a.hL hb, rowSame a.row fun g hg => hb.block g (a.row.lt g hg).2, a.size⟩
theorem PkL.push {w : World} {h : D_Heap} {hv pv fv : Value} {b : D_A3} {o k : Nat} {lv v' : Value} {wr w2 : World} {u : Obj} (a : PkL w h hv pv fv b o k lv wr) (hr : w2.ownsRow w.heap.size 3 1 v' (k + 1) (ints (List.replicate k (-1)) ++ [.int .i64 (-1)])) (hg : GrownD (wr.alloc u) w2 lv.ownBlock) :
    PkL w h hv pv fv b o (k + 1) v' (w2.setCell ⟨o + 1 + 1, 0, none⟩ v') := by
  have a' := a.at (belowAlloc wr u)
  have sA : (wr.alloc u).heap.size = wr.heap.size + 1 := Array.size_push _
  have keep : ∀ {g : Nat} {c : Array Value} {t : TypeId}, (wr.alloc u).heap[g]? = some (.cells c t (0, 0)) → 3 ≠ t → g ≠ o + 1 + 1 → (w2.setCell ⟨o + 1 + 1, 0, none⟩ v').heap[g]? = some (.cells c t (0, 0)) := fun {g c t} hh ht hne =>
    (Below.heap_setCell _ _ _ _ (by show g ≠ o + 1 + 1; exact hne)).trans ((hg.block g (lt_of_block hh) fun e => rowNe a'.row hh ht e.symm).trans hh)
  have ne : ∀ {g : Nat} {c : Array Value} {t : TypeId}, (wr.alloc u).heap[g]? = some (.cells c t (0, 0)) → t ≠ 32 → g ≠ o + 1 + 1 := fun {g c t} hh ht => tagNe hh a'.hL ht
  have hw2 : w2.heap[o + 1 + 1]? = some (.cells #[lv] 32 (0, 0)) := (hg.block _ (lt_of_block a'.hL) fun e => rowNe a'.row a'.hL (by decide) e.symm).trans a'.hL
  have hB2 : Below w.heap.size w w2 := a'.below.grown hg a'.below.size fun j hj => (a'.row.lt j hj).1
  refine ⟨belowS hB2 (by have := a.size; omega), keep a'.hH (by decide) (ne a'.hH (by decide)), keep a'.hP (by decide) (ne a'.hP (by decide)), keep a'.hV (by decide) (ne a'.hV (by decide)), keep a'.hB (by decide) (ne a'.hB (by decide)), one_setCell hw2, ?_, a.size⟩
  have e : ints (List.replicate (k + 1) (-1)) = ints (List.replicate k (-1)) ++ [.int .i64 (-1)] := by
    rw [List.replicate_succ', ints, List.map_append]; rfl
  rw [e]
  refine rowSame hr fun g hgo => Below.heap_setCell _ _ _ _ ?_
  show g ≠ o + 1 + 1
  intro e
  subst e
  exact rowNe hr hw2 (by decide) hgo
theorem push_cells {w : World} {h : D_Heap} {hv pv fv : Value} {b : D_A3} {o k : Nat} {lv : Value} {wr w2 : World} (a : PkL w h hv pv fv b o k lv wr) (hg : GrownD wr w2 lv.ownBlock) : w2.cell? ⟨o + 1 + 1, 0, none⟩ = some lv ∧ w2.frozen? ⟨o + 1 + 1, 0, none⟩ = false ∧ True := by
  have hw2 : w2.heap[o + 1 + 1]? = some (.cells #[lv] 32 (0, 0)) := (hg.block _ (lt_of_block a.hL) fun e => rowNe a.row a.hL (by decide) e.symm).trans a.hL
  exact ⟨cell_of_one hw2, free_of_one hw2, trivial⟩
set_option maxHeartbeats 4000000 in
theorem packings_walk {σ : Type} {V : Vis σ} {w : World} {Z : Nat → Prop} {h : D_Heap} {hv pv : Value} {pieces : List (List D_A3)} {b : D_A3} {n : Nat} {fr : Int} {s : σ} {x : Bool × List Int × σ} {m : Nat}
    (hok : ∀ base Lg, w.heap.size ≤ Lg → w.heap.size ≤ base → VisOK V base Lg) (hi : ∀ Lg, w.heap.size ≤ Lg → V.inv Lg s w) (hZc : ¬ Z V.cap) (ah : ArgH Z w h hv) (hps : RepI Z w (.sl (.sl T_A3)) pieces [pv]) (hp8 : pieces.length ≤ 8)
    (hb : P_Heap_box (h, ()) = some (b, ())) (hn : P_box_size (b, ()) = some ((n : Int), ())) (h1 : 1 ≤ n ∧ n ≤ 64) (hf : P_Heap_free (h, ()) = some (fr, ())) (hF : fillF V.run b pieces m fr 0 (List.replicate n (-1)) s = some x) :
    Calls Tryz.prog 24 #[hpV h hv, pv, .func (.func V.fn) #[] #[ptrTo V.cap]] w fun e w' => e = .returned (.tuple #[]) ∧ (∃ Lg, w.heap.size ≤ Lg ∧ V.inv Lg x.2.2 w') ∧ FrameL (fun g => g = V.cap) w w' := by
  obtain ⟨A, c, hpv⟩ : ∃ A c, pv = .slice A pieces.length c := by
    obtain ⟨A, c, e, hc, _⟩ := hps
    exact ⟨A, c, by simpa using e⟩
  subst hpv
  have hbox := fun W (hW : Below w.heap.size w W) => c_box (ah.at hW) hb
  have hsz := fun W => c_size (W := W) hn
  obtain ⟨i0, hi0, hz0, hz1, hz2⟩ := info_parts info3
  unfold hpV boxA ptrTo at *
  go_enter Tryz.func24, Tryz.ntmps24
  go_upto_region 2 with (go_at_call 31; refine (hbox _ (by repeat (first | exact Below.refl _ _ | apply belowA))).mono ?_; rintro e w4 ⟨rfl, hb4⟩)
  have hL5 : PkL w h hv (.slice A pieces.length c) (.func (.func V.fn) #[] #[.pointer (some ⟨V.cap, 0, none⟩)]) b w4.heap.size 0 (.slice (some ⟨w4.heap.size, 0, none⟩) 0 0) (((w4.alloc (.cells #[] 3)).alloc (.cells #[.int .i64 b.1, .int .i64 b.2.1, .int .i64 b.2.2.1] 58)).alloc (.cells #[.slice (some ⟨w4.heap.size, 0, none⟩) 0 0] 32)) := by
    have s4 := hb4.size
    have z1 : (w.alloc (.cells #[.int .i64 h.1, .int .i64 h.2.1, .int .i64 h.2.2.1, hv] 26)).heap.size = w.heap.size + 1 := Array.size_push _
    have z2 : ((w.alloc (.cells #[.int .i64 h.1, .int .i64 h.2.1, .int .i64 h.2.2.1, hv] 26)).alloc (.cells #[.slice A pieces.length c] 27)).heap.size = w.heap.size + 1 + 1 := by rw [← z1]; exact Array.size_push _
    have y1 : (w4.alloc (.cells #[] 3)).heap.size = w4.heap.size + 1 := Array.size_push _
    have y2 : ((w4.alloc (.cells #[] 3)).alloc (.cells #[.int .i64 b.1, .int .i64 b.2.1, .int .i64 b.2.2.1] 58)).heap.size = w4.heap.size + 1 + 1 := by rw [← y1]; exact Array.size_push _
    refine ⟨belowA (belowA (belowA (belowThen (belowA (belowA (belowAlloc w _) _) _) hb4) _) _) _, blockA (blockA (blockA (belowBlock (blockA (blockA (alloc_at w _) _) _) hb4) _) _) _, blockA (blockA (blockA (belowBlock (blockA (z1 ▸ alloc_at _ _) _) hb4) _) _) _, blockA (blockA (blockA (belowBlock (z2 ▸ alloc_at _ _) hb4) _) _) _, blockA (y1 ▸ alloc_at _ _) _, y2 ▸ alloc_at _ _, ?_, ?_⟩
    · exact ⟨rfl, .inr ⟨w4.heap.size, 0, #[], rfl, by have := (belowThen (belowA (belowA (belowAlloc w _) _) _) hb4).size; exact this, blockA (blockA (alloc_at w4 _) _) _, Nat.le_refl _, by decide, rfl, rfl⟩⟩
    · exact (belowThen (belowA (belowA (belowAlloc w _) _) _) hb4).size
  obtain ⟨d0, d1, d2⟩ := box3 hL5.hB
  go_wp2_with (go_at_call 50; refine (hsz _).mono ?_; rintro e w6 ⟨rfl, hb6⟩)
  have hL6 := hL5.at hb6
  clear hL5 d0 d1 d2 hsz
  go_loopg [14] n (fun m v14 wr => ∃ (k : Nat) (lv : Value), k ≤ n ∧ m = n - k ∧ v14 = .int .i64 k ∧ PkL w h hv (.slice A pieces.length c) (.func (.func V.fn) #[] #[.pointer (some ⟨V.cap, 0, none⟩)]) b w4.heap.size k lv wr)
  case atStart => exact ⟨0, _, Nat.zero_le _, rfl, rfl, hL6⟩
  case round =>
    obtain ⟨k, lv, hk, rfl, rfl, hL⟩ := hrel
    clear hL6
    obtain ⟨wA, hwA⟩ : ∃ x, x = wr := ⟨wr, rfl⟩
    subst hwA
    by_cases hkn : k < n
    · have hkI : (k : Int) < (n : Int) := by omega
      obtain ⟨A', k', rfl⟩ : ∃ A' k', lv = .slice A' k k' := by
        rcases hL.row.2 with ⟨rfl, rfl⟩ | ⟨g, c', cur, rfl, _⟩
        · exact ⟨none, 0, rfl⟩
        · exact ⟨_, _, rfl⟩
      have c0 := cell_of_one hL.hL
      have c1 := (hL.at (belowAlloc wA (.cells #[.int .i64 (-1)] 3)))
      go_wp2_with (at_builtin; refine wpList_append_own2 _ rfl _ _ 32 32 rfl w.heap.size 3 i0 (.int .i64 0) 1 8 Tryz.underlying32 hi0 hz0 hz1 hz2 rfl (.slice A' k k') k (ints (List.replicate k (-1))) rfl c1.row (.slice (some ⟨wA.heap.size, 0, none⟩) 1 1) 1 [.int .i64 (-1)] rfl (one_src wA 32 3 _ Tryz.underlying32 rfl) ?_ ?_ ?_ ?_; rotate_right; intro v' w7 hown' hgr' hprov; obtain ⟨p0, p1, p2⟩ := push_cells c1 hgr'; obtain ⟨A2, k2, hv2⟩ := sliceOf hown'; subst hv2)
      · go_roundg (n - (k + 1))
        case measure => omega
        case rel => exact ⟨k + 1, _, by omega, rfl, by go_num, hL.push hown' hgr'⟩
      · unfold maxLen; omega
      · omega
      · have := c1.below.size; omega
    · obtain rfl : k = n := by omega
      obtain ⟨Lg, cap, rfl⟩ : ∃ Lg cap, lv = .slice (some ⟨Lg, 0, none⟩) k cap := by
        rcases hL.row.2 with ⟨rfl, rfl⟩ | ⟨g, c', cur, rfl, _⟩
        · omega
        · exact ⟨_, _, rfl⟩
      have hpk : ∀ U, Below (wA.alloc (.cells #[.func (.func 51) #[] #[.pointer (some ⟨w.heap.size + 1, 0, none⟩), .pointer (some ⟨w.heap.size + 1 + 1, 0, none⟩), .pointer (some ⟨w4.heap.size + 1 + 1, 0, none⟩), .pointer (some ⟨w4.heap.size + 1, 0, none⟩), .pointer (some ⟨wA.heap.size, 0, none⟩)]] 83)).heap.size (wA.alloc (.cells #[.func (.func 51) #[] #[.pointer (some ⟨w.heap.size + 1, 0, none⟩), .pointer (some ⟨w.heap.size + 1 + 1, 0, none⟩), .pointer (some ⟨w4.heap.size + 1 + 1, 0, none⟩), .pointer (some ⟨w4.heap.size + 1, 0, none⟩), .pointer (some ⟨wA.heap.size, 0, none⟩)]] 83)) U →
          Calls Tryz.prog 51 #[.int .u64 fr, .int .i64 0, .pointer (some ⟨w.heap.size + 1, 0, none⟩), .pointer (some ⟨w.heap.size + 1 + 1, 0, none⟩), .pointer (some ⟨w4.heap.size + 1 + 1, 0, none⟩), .pointer (some ⟨w4.heap.size + 1, 0, none⟩), .pointer (some ⟨wA.heap.size, 0, none⟩)] U fun e w' => e = .returned (.bool x.1) ∧ (∃ Lg, w.heap.size ≤ Lg ∧ V.inv Lg x.2.2 w') ∧ FrameL (fun g => g = V.cap) w w' := fun U hU => by
        have hB := belowA hL.below (.cells #[.func (.func 51) #[] #[.pointer (some ⟨w.heap.size + 1, 0, none⟩), .pointer (some ⟨w.heap.size + 1 + 1, 0, none⟩), .pointer (some ⟨w4.heap.size + 1 + 1, 0, none⟩), .pointer (some ⟨w4.heap.size + 1, 0, none⟩), .pointer (some ⟨wA.heap.size, 0, none⟩)]] 83)
        have hL' := hL.at (belowAlloc wA (.cells #[.func (.func 51) #[] #[.pointer (some ⟨w.heap.size + 1, 0, none⟩), .pointer (some ⟨w.heap.size + 1 + 1, 0, none⟩), .pointer (some ⟨w4.heap.size + 1 + 1, 0, none⟩), .pointer (some ⟨w4.heap.size + 1, 0, none⟩), .pointer (some ⟨wA.heap.size, 0, none⟩)]] 83))
        have hLg : w.heap.size ≤ Lg := (hL.row.lt Lg rfl).1
        have hvc := (hok w.heap.size Lg hLg (Nat.le_refl _)).lt s w (hi Lg hLg)
        have hsz := hL.below.size
        have ho := hL.size
        have hpw : PkW V ⟨w.heap.size, w.heap.size + 1, w.heap.size + 1 + 1, w4.heap.size + 1 + 1, w4.heap.size + 1, wA.heap.size, Lg, cap⟩ b Z (.slice A pieces.length c) pieces (List.replicate k (-1)) s _ :=
          ⟨hL'.hP, hL'.hV, by rw [List.length_replicate]; exact hL'.hL, hL'.hB, alloc_at wA _, by rw [List.length_replicate]; exact hL'.row, repZone hps fun g hg => hB.block g (ah.zone g hg), fun g hg => ⟨ah.zone g hg, fun e => hZc (e ▸ hg)⟩,
            (hok w.heap.size Lg hLg (Nat.le_refl _)).keep s w _ (hi Lg hLg) (fun g hg _ => hB.block g hg) hB.size, by simp only; omega⟩
        refine (fill_all (hok w.heap.size Lg hLg (Nat.le_refl _)) hp8 m fr 0 (List.replicate k (-1)) s U x (hpw.below (hok w.heap.size Lg hLg (Nat.le_refl _)) hU) (by intro e; have := congrArg List.length e; simp at this; omega) (by simp; omega) hF).mono ?_
        rintro e w' ⟨rfl, hP', _, hf'⟩
        have hBU := belowThen hB hU
        exact ⟨rfl, ⟨Lg, hLg, hP'.inv⟩, hf'.os.trans hBU.os, hf'.tape.trans hBU.tape, hf'.output.trans hBU.output, Nat.le_trans hBU.size hf'.size, fun q hq hn => (hf'.block q (Nat.lt_of_lt_of_le hq hBU.size) fun e => by
          rcases e with e | e
          · exact hn e
          · have e' : q = Lg := e
            omega).trans (hBU.block q hq), Nat.le_trans hBU.drawn hf'.drawn⟩
      have hfr := fun U (hU : Below w.heap.size w U) => c_free (ah.at hU) hf
      unfold hpV at hfr
      have hB := belowA hL.below (.cells #[.func (.func 51) #[] #[.pointer (some ⟨w.heap.size + 1, 0, none⟩), .pointer (some ⟨w.heap.size + 1 + 1, 0, none⟩), .pointer (some ⟨w4.heap.size + 1 + 1, 0, none⟩), .pointer (some ⟨w4.heap.size + 1, 0, none⟩), .pointer (some ⟨wA.heap.size, 0, none⟩)]] 83)
      obtain ⟨d0, d1, d2, d3⟩ := box4 (hL.at (belowAlloc wA (.cells #[.func (.func 51) #[] #[.pointer (some ⟨w.heap.size + 1, 0, none⟩), .pointer (some ⟨w.heap.size + 1 + 1, 0, none⟩), .pointer (some ⟨w4.heap.size + 1 + 1, 0, none⟩), .pointer (some ⟨w4.heap.size + 1, 0, none⟩), .pointer (some ⟨wA.heap.size, 0, none⟩)]] 83))).hH
      clear hbox hok hi hps ah hF
      have ck := cell_of_one (alloc_at wA (.cells #[.func (.func 51) #[] #[.pointer (some ⟨w.heap.size + 1, 0, none⟩), .pointer (some ⟨w.heap.size + 1 + 1, 0, none⟩), .pointer (some ⟨w4.heap.size + 1 + 1, 0, none⟩), .pointer (some ⟨w4.heap.size + 1, 0, none⟩), .pointer (some ⟨wA.heap.size, 0, none⟩)]] 83))
      go_wp2
      go_region_with (first
        | (go_at_call 33; refine (hfr _ (belowD hB)).mono ?_; rintro e w9 ⟨rfl, hb9⟩; have ck9 := cellBD ck hb9; have hpk9 := hpk w9 (belowThen (belowD (Below.refl _ _)) hb9))
        | (go_at_call 51; refine hpk9.mono ?_; rintro e w10 ⟨rfl, hi10, hf10⟩))
      all_goals (go_end0; exact ⟨rfl, hi10, hf10⟩)
end Go.VI
