/- The positions of a heap, by a walk: rows of its own. -/
import Derived.Test.YtlnfgikipeiaiaaVjDeep
import Derived.Test.YtlnfgikipeiaiaaG18p1
import Derived.WalkKit
import Derived.Lib.SliceRun
import Derived.Deep.LoopGhost
import Derived.Deep.RegionLaw
namespace Go.VI
open Go.Proofs Go.RowKit
set_option maxRecDepth 100000
theorem alloc_at (w : World) (o : Obj) : (w.alloc o).heap[w.heap.size]? = some o := heap_alloc_new w o
theorem alloc_size (w : World) (o : Obj) : (w.alloc o).heap.size = w.heap.size + 1 := Array.size_push _
theorem belowAlloc (w : World) (o : Obj) : Below w.heap.size w (w.alloc o) := (Below.refl w.heap.size w).alloc (Nat.le_refl _) o
theorem belowThen {w w1 w2 : World} (h1 : Below w.heap.size w w1) (h2 : Below w1.heap.size w1 w2) : Below w.heap.size w w2 :=
  ⟨h2.os.trans h1.os, h2.tape.trans h1.tape, h2.output.trans h1.output, Nat.le_trans h1.size h2.size, fun g hg => (h2.block g (Nat.lt_of_lt_of_le hg h1.size)).trans (h1.block g hg), Nat.le_trans h1.drawn h2.drawn⟩
theorem belowA {w W : World} (h : Below w.heap.size w W) (o : Obj) : Below w.heap.size w (W.alloc o) := belowThen h (belowAlloc W o)
theorem belowD {w W : World} (h : Below w.heap.size w W) : Below w.heap.size w W.drew := h.drew
theorem blockA {w : World} {b : Nat} {x : Obj} (h : w.heap[b]? = some x) (o : Obj) : (w.alloc o).heap[b]? = some x := by
  rw [Below.heap_alloc _ _ _ (lt_of_block h)]; exact h
theorem belowBlock {w w' : World} {b : Nat} {x : Obj} (h : w.heap[b]? = some x) (hb : Below w.heap.size w w') : w'.heap[b]? = some x := (hb.block b (lt_of_block h)).trans h
theorem box4 {w : World} {b t : Nat} {a0 a1 a2 a3 : Value} (h : w.heap[b]? = some (.cells #[a0, a1, a2, a3] t (0, 0))) :
    (w.cell? ⟨b, 0, none⟩ = some a0 ∧ w.cell? ⟨b, 1, none⟩ = some a1 ∧ w.cell? ⟨b, 2, none⟩ = some a2 ∧ w.cell? ⟨b, 3, none⟩ = some a3) := by
  refine ⟨?_, ?_, ?_, ?_⟩ <;> simp [World.cell?, h]
theorem box4A {w : World} {b t : Nat} {a0 a1 a2 a3 : Value} (h : w.heap[b]? = some (.cells #[a0, a1, a2, a3] t (0, 0))) :
    (∀ o, (w.alloc o).cell? ⟨b, 0, none⟩ = some a0) ∧ (∀ o, (w.alloc o).cell? ⟨b, 1, none⟩ = some a1) ∧ (∀ o, (w.alloc o).cell? ⟨b, 2, none⟩ = some a2) ∧ (∀ o, (w.alloc o).cell? ⟨b, 3, none⟩ = some a3) :=
  ⟨fun o => (box4 (blockA h o)).1, fun o => (box4 (blockA h o)).2.1, fun o => (box4 (blockA h o)).2.2.1, fun o => (box4 (blockA h o)).2.2.2⟩
theorem cell_of_one {w : World} {b t : Nat} {v : Value} (h : w.heap[b]? = some (.cells #[v] t (0, 0))) : w.cell? ⟨b, 0, none⟩ = some v := by simp [World.cell?, h]
theorem OwnV.slice1 {Z : Nat → Prop} {w : World} {B : Nat} {e : TypeId} {t : Ty} {v : Value} {l : List t.den} (h : OwnV Z w B e t v l) : ∃ a c, v = .slice a l.length c := by
  obtain ⟨_, xs, ho, _⟩ := h
  rcases ho.2 with ⟨rfl, h0⟩ | ⟨g, c, cur, fz, rfl, _⟩
  · exact ⟨none, 0, by rw [h0]⟩
  · exact ⟨_, _, rfl⟩
theorem own_belowH {w w' : World} {B : Nat} {e : TypeId} {t : Ty} {v : Value} {l : List t.den} (h : OwnV (fun _ => False) w B e t v l) (hb : Below w.heap.size w w') : OwnV (fun _ => False) w' B e t v l :=
  h.mono (fun _ hz => hz) (fun _ hz => hz.elim) fun g hg => hb.block g (h.lt g hg).2
theorem heap_src (w : World) (n : Nat) (hn : w.heap.size = n) (a0 a1 a2 a3 : Value) (h0 : a0.oneCell' = true) (h1 : a1.oneCell' = true) (h2 : a2.oneCell' = true) (h3 : a3.oneCell' = true) :
    Go.Src Try.prog 4 25 (.slice (some ⟨n, 0, none⟩) 1 1) 1 [a0, a1, a2, a3] (w.alloc (.cells #[a0, a1, a2, a3] 35)) := by
  subst hn
  have hb := box4 (alloc_at w (.cells #[a0, a1, a2, a3] 35))
  refine Go.Src.ofSlice _ Try.underlying25 _ 1 1 [a0, a1, a2, a3] rfl (fun j u hu => ?_) (fun u hu => ?_)
  · rw [Addr.add_lit, Nat.zero_add]
    match j, hu with
    | 0, hu => obtain rfl := Option.some.inj hu; exact hb.1
    | 1, hu => obtain rfl := Option.some.inj hu; exact hb.2.1
    | 2, hu => obtain rfl := Option.some.inj hu; exact hb.2.2.1
    | 3, hu => obtain rfl := Option.some.inj hu; exact hb.2.2.2
  · simp only [List.mem_cons, List.not_mem_nil, or_false] at hu
    rcases hu with rfl | rfl | rfl | rfl <;> assumption
theorem info35 : (Try.prog.info? 35).map (fun i => (i.zero, i.size, i.bytes)) = some (some (.agg #[.int .i64 0, .int .i64 0, .int .i64 0, .slice none 0 0]), 4, 48) := by kernel_rfl
structure ArgH (Z : Nat → Prop) (w : World) (h : DHeap) (lv : Value) : Prop where
  zone : ∀ g, Z g → g < w.heap.size
  cells : RepI Z w (.sl A3ty) h.2.2.2.1 [lv]
theorem ArgH.at {Z : Nat → Prop} {w W : World} {h : DHeap} {lv : Value} (a : ArgH Z w h lv) (hb : Below w.heap.size w W) : ArgH Z W h lv :=
  ⟨fun g hg => Nat.lt_of_lt_of_le (a.zone g hg) hb.size, RepI.mono (fun _ hz => hz) (fun g hg => hb.block g (a.zone g hg)) _ _ _ a.cells⟩
theorem ArgH.arg {Z : Nat → Prop} {w : World} {h : DHeap} {lv : Value} (a : ArgH Z w h lv) : RepI Z w HeapTy h [.int .i64 h.1, .int .i64 h.2.1, .int .i64 h.2.2.1, lv] := repHeap a.cells
theorem ArgH.own {w : World} {B : Nat} {e : TypeId} {h : DHeap} {u : Value} (o : OwnV (fun _ => False) w B e A3ty u h.2.2.2.1) : ArgH (fun g => u.ownBlock = some g) w h u :=
  ⟨fun g hg => (o.lt g hg).2, o.reads _ (fun _ hz => hz.elim) fun _ hg => hg⟩
theorem repA3 {Z : Nat → Prop} {w : World} (a b c : Int) : RepI Z w A3ty (a, b, c, ()) [.int .i64 a, .int .i64 b, .int .i64 c] :=
  ⟨[.int .i64 a], [.int .i64 b, .int .i64 c], rfl, rfl, [.int .i64 b], [.int .i64 c], rfl, rfl, [.int .i64 c], [], rfl, rfl, rfl⟩
theorem repTurn {Z : Nat → Prop} {w : World} (a b c d e f : Int) : RepI Z w T_l8Turn ((a, b, c, ()), (d, e, f, ()), ()) [.int .i64 a, .int .i64 b, .int .i64 c, .int .i64 d, .int .i64 e, .int .i64 f] :=
  ⟨[.int .i64 a, .int .i64 b, .int .i64 c], [.int .i64 d, .int .i64 e, .int .i64 f], rfl, repA3 a b c, [.int .i64 d, .int .i64 e, .int .i64 f], [], rfl, repA3 d e f, rfl⟩
def turnV (t : D_l8Turn) : Value := .agg #[.int .i64 t.1.1, .int .i64 t.1.2.1, .int .i64 t.1.2.2.1, .int .i64 t.2.1.1, .int .i64 t.2.1.2.1, .int .i64 t.2.1.2.2.1]
theorem c_of {Z : Nat → Prop} {W : World} {h g : DHeap} {lv : Value} {t : D_l8Turn} (a0 : ArgH Z W h lv) (hF : P_turning_of (t, h, ()) = some (g, ())) :
    Calls Try.prog 77 #[turnV t, hpV h lv] W fun e' w' => ∃ u, e' = .returned (hpV g u) ∧ Below W.heap.size W w' ∧ OwnV (fun _ => False) w' W.heap.size 42 A3ty u g.2.2.2.1 :=
  heapH_calls (fn := Try.f77) s_turning_of Try.func77 rfl (by kernel_rfl) trivial a0.zone (xs := (t, h, ())) (vs := [turnV t, hpV h lv])
    ⟨_, _, rfl, (fun h => by cases h), repTurn t.1.1 t.1.2.1 t.1.2.2.1 t.2.1.1 t.2.1.2.1 t.2.1.2.2.1, _, _, rfl, (fun h => by cases h), a0.arg, rfl⟩ hF
theorem c_crop {Z : Nat → Prop} {W : World} {h g : DHeap} {lv : Value} {b : Bool} (a0 : ArgH Z W h lv) (hF : P_impl_CropHeap (h, ()) = some (g, b, ())) :
    Calls Try.prog 76 #[hpV h lv] W fun e' w' => ∃ u, e' = .returned (.tuple #[hpV g u, .bool b]) ∧ Below W.heap.size W w' ∧ OwnV (fun _ => False) w' W.heap.size 42 A3ty u g.2.2.2.1 :=
  heapBH_calls (fn := Try.f76) s_impl_CropHeap Try.func76 rfl (by kernel_rfl) trivial a0.zone (xs := (h, ())) (vs := [hpV h lv]) ⟨_, _, rfl, (fun h => by cases h), a0.arg, rfl⟩ hF
theorem c_turnings {W : World} {L : List D_l8Turn} (hF : P_impl_turnings () = some (L, ())) : Calls Try.prog 75 #[] W fun e' w' => ∃ v, e' = .returned v ∧ Below W.heap.size W w' ∧ OwnV (fun _ => False) w' W.heap.size 90 T_l8Turn v L :=
  rowH_calls (fn := Try.f75) s_impl_turnings rfl Try.func75 rfl (by kernel_rfl) (Z := fun _ => False) trivial (fun _ h => h.elim) (xs := ()) (vs := []) rfl hF
end Go.VI
/- The positions of a heap, by a walk: the walk. -/
namespace Go.VI
open Go.Proofs Go.RowKit
set_option maxRecDepth 100000
theorem turn_cells {w : World} {B : Nat} {A : Option Addr} {c : Nat} {L : List D_l8Turn} (h : OwnV (fun _ => False) w B 90 T_l8Turn (.slice A L.length c) L) {i : Nat} {t : D_l8Turn} (hi : L[i]? = some t) : ∃ g, A = some ⟨g, 0, none⟩ ∧
    w.cell? ⟨g, i * 6, none⟩ = some (.int .i64 t.1.1) ∧ w.cell? ⟨g, i * 6 + 1, none⟩ = some (.int .i64 t.1.2.1) ∧ w.cell? ⟨g, i * 6 + 2, none⟩ = some (.int .i64 t.1.2.2.1) ∧
    w.cell? ⟨g, i * 6 + 3, none⟩ = some (.int .i64 t.2.1.1) ∧ w.cell? ⟨g, i * 6 + 4, none⟩ = some (.int .i64 t.2.1.2.1) ∧ w.cell? ⟨g, i * 6 + 5, none⟩ = some (.int .i64 t.2.1.2.2.1) := by
  have hr : RepI (fun _ => True) w (.sl T_l8Turn) L [.slice A L.length c] := h.reads _ (fun _ h => h.elim) fun _ _ => trivial
  obtain ⟨_, xs, ho, _⟩ := h
  rcases ho.2 with ⟨e, h0⟩ | ⟨g, cap, cur, fz, e, _⟩
  · have : L = [] := List.length_eq_zero_iff.1 h0
    subst this
    simp at hi
  · obtain ⟨rfl, _⟩ : A = some ⟨g, 0, none⟩ ∧ c = cap := by simpa using e
    obtain ⟨A', c', e', _, h1⟩ := hr
    obtain ⟨rfl, _⟩ : some (⟨g, 0, none⟩ : Addr) = A' ∧ c = c' := by simpa using e'
    obtain ⟨a, ha, _, ys, hy, hc⟩ := h1 i t hi
    obtain rfl := Option.some.inj ha
    obtain ⟨p1, p2, rfl, ⟨y1, y2, rfl, rfl, y3, y4, rfl, rfl, y5, y6, rfl, rfl, rfl⟩, p3, p4, rfl, ⟨y7, y8, rfl, rfl, y9, y10, rfl, rfl, y11, y12, rfl, rfl, rfl⟩, rfl⟩ := hy
    have e0 := hc 0 _ rfl
    have e1 := hc 1 _ rfl
    have e2 := hc 2 _ rfl
    have e3 := hc 3 _ rfl
    have e4 := hc 4 _ rfl
    have e5 := hc 5 _ rfl
    rw [Addr.add_lit, Nat.zero_add] at e0 e1 e2 e3 e4 e5
    exact ⟨g, rfl, e0, e1, e2, e3, e4, e5⟩
structure LoopH (w wr : World) (hd : DHeap) (lv : Value) (A : Option Addr) (c : Nat) (L : List D_l8Turn) (v : Value) (hs : List HE) : Prop where
  below : Below w.heap.size w wr
  deep : DeepH wr (w.heap.size + 1) 35 42 v hs
  box : wr.heap[w.heap.size]? = some (.cells #[.int .i64 hd.1, .int .i64 hd.2.1, .int .i64 hd.2.2.1, lv] 35)
  turns : OwnV (fun _ => False) wr w.heap.size 90 T_l8Turn (.slice A L.length c) L
theorem LoopH.call {w wr w4 : World} {hd : DHeap} {lv : Value} {A : Option Addr} {c : Nat} {L : List D_l8Turn} {v : Value} {hs : List HE} (h : LoopH w wr hd lv A c L v hs) (hb : Below wr.heap.size wr w4) : LoopH w w4 hd lv A c L v hs :=
  ⟨belowThen h.below hb, h.deep.below hb, belowBlock h.box hb, h.turns.mono (fun _ hz => hz) (fun _ hz => hz.elim) fun g hg => hb.block g (h.turns.lt g hg).2⟩
theorem LoopH.push {w wr w3 w6 : World} {hd : DHeap} {lv : Value} {A : Option Addr} {c : Nat} {L : List D_l8Turn} {v v' : Value} {hs : List HE} {a : HE} {o : Obj} (h : LoopH w wr hd lv A c L v hs) (hb : Below wr.heap.size wr w3)
    (hu : OwnV (fun _ => False) w3 wr.heap.size 42 A3ty a.v a.cells) (hv : w6.ownsRow (w.heap.size + 1) 35 4 v' (hs.length + 1) (encs hs ++ a.enc)) (hgr : GrownD (w3.alloc o) w6 v.ownBlock) : LoopH w w6 hd lv A c L v' (hs ++ [a]) := by
  have s0 := lt_of_block h.box
  have s1 := h.below.size
  have s3 := hb.size
  have sa := alloc_size w3 o
  have hB := belowThen h.below hb
  have keep : ∀ g, g < w3.heap.size → v.ownBlock ≠ some g → w6.heap[g]? = w3.heap[g]? := fun g hg hn => by
    rw [hgr.block g (by omega) (fun e => hn e.symm), Below.heap_alloc _ _ _ hg]
  have ol := h.deep.outer
  refine ⟨(hB.alloc (by omega) o).grown hgr (by omega) fun j hj => by have := (ol.lt j hj).1; omega, h.deep.push (by decide) hb (by omega) hu hv hgr, ?_, ?_⟩
  · rw [keep _ (by omega) fun e => by have := (ol.lt _ e).1; omega]
    exact belowBlock h.box hb
  · refine h.turns.mono (fun _ hz => hz) (fun _ hz => hz.elim) fun g hg => ?_
    have ht := h.turns.lt g hg
    rw [keep g (by omega) fun e => ?_, hb.block g ht.2]
    obtain ⟨c1, e1⟩ := rowTag ol e
    obtain ⟨c2, f2, e2⟩ := ownTag h.turns hg
    rw [e1] at e2
    simp at e2
set_option maxHeartbeats 2000000 in
theorem pos_calls {Z : Nat → Prop} {W : World} {h : DHeap} {lv : Value} (a0 : ArgH Z W h lv) {L : List D_l8Turn} (hT : P_impl_turnings () = some (L, ())) (hL : L.length ≤ 1000) (gf cf : Nat → DHeap) (bf : Nat → Bool)
    (hof : ∀ i t, L[i]? = some t → P_turning_of (t, h, ()) = some (gf i, ()) ∧ P_impl_CropHeap (gf i, ()) = some (cf i, bf i, ())) :
    Calls Try.prog 58 #[hpV h lv] W fun e w' => ∃ v hs, e = .returned v ∧ Below W.heap.size W w' ∧ DeepH w' W.heap.size 35 42 v hs ∧ hs.map HE.heap = (List.range L.length).map cf := by
  have e0 := belowAlloc W (.cells #[.int .i64 h.1, .int .i64 h.2.1, .int .i64 h.2.2.1, lv] 35)
  have hB0 := alloc_at W (.cells #[.int .i64 h.1, .int .i64 h.2.1, .int .i64 h.2.2.1, lv] 35)
  have sA := alloc_size W (.cells #[.int .i64 h.1, .int .i64 h.2.1, .int .i64 h.2.2.1, lv] 35)
  have htc : ∀ V, Calls Try.prog 75 #[] V fun e' w' => ∃ v, e' = .returned v ∧ Below V.heap.size V w' ∧ OwnV (fun _ => False) w' V.heap.size 90 T_l8Turn v L := fun V => c_turnings hT
  have hpost : ∀ (w3 : World) (v : Value), Below ((W.alloc (.cells #[.int .i64 h.1, .int .i64 h.2.1, .int .i64 h.2.2.1, lv] 35)).alloc (.cells #[] 35)).heap.size ((W.alloc (.cells #[.int .i64 h.1, .int .i64 h.2.1, .int .i64 h.2.2.1, lv] 35)).alloc (.cells #[] 35)) w3 →
      OwnV (fun _ => False) w3 ((W.alloc (.cells #[.int .i64 h.1, .int .i64 h.2.1, .int .i64 h.2.2.1, lv] 35)).alloc (.cells #[] 35)).heap.size 90 T_l8Turn v L →
      ∃ A c, v = .slice A L.length c ∧ LoopH W w3 h lv A c L (.slice (some ⟨W.heap.size + 1, 0, none⟩) 0 0) [] := fun w3 v hb hv => by
    obtain ⟨A, c, rfl⟩ := hv.slice1
    have sB := alloc_size (W.alloc (.cells #[.int .i64 h.1, .int .i64 h.2.1, .int .i64 h.2.2.1, lv] 35)) (.cells #[] 35)
    refine ⟨A, c, rfl, belowThen (belowA e0 _) hb, DeepH.nil ⟨rfl, .inr ⟨W.heap.size + 1, 0, #[], rfl, Nat.le_refl _, ?_, Nat.le_refl _, by decide, rfl, rfl⟩⟩, ?_, OwnV.rebaseH hv fun g hg => by have := (hv.lt g hg).1; omega⟩
    · have := alloc_at (W.alloc (.cells #[.int .i64 h.1, .int .i64 h.2.1, .int .i64 h.2.2.1, lv] 35)) (.cells #[] 35)
      rw [sA] at this
      exact belowBlock this hb
    · exact belowBlock (blockA hB0 _) hb
  unfold hpV at *
  go_enter Try.func58, Try.ntmps58
  go_wp2_with (go_at_call 75; refine (htc _).mono ?_; rintro e w3 ⟨v, rfl, hb3, hv3⟩; obtain ⟨A, c, rfl, hl0⟩ := hpost w3 v hb3 hv3; clear hv3 hb3)
  go_loopg [3, 11] (L.length + 1) (fun m v3 v11 wr => ∃ (i : Nat) (hs : List HE), i ≤ L.length ∧ m = L.length + 1 - i ∧ v11 = .int .i64 i ∧ LoopH W wr h lv A c L v3 hs ∧ hs.map HE.heap = (List.range i).map cf)
  case atStart => exact ⟨0, [], Nat.zero_le _, rfl, rfl, hl0, rfl⟩
  case round =>
    obtain ⟨i, hs, hi, rfl, rfl, hl, hm⟩ := hrel
    clear hl0 htc hpost
    have hlen : hs.length = i := by have := congrArg List.length hm; simpa using this
    by_cases hin : i < L.length
    · obtain ⟨t, ht⟩ : ∃ t, L[i]? = some t := ⟨L[i], List.getElem?_eq_getElem hin⟩
      obtain ⟨q1, q2⟩ := hof i t ht
      obtain ⟨gl, rfl, c0, c1, c2, c3, c4, c5⟩ := turn_cells hl.turns ht
      obtain ⟨k0, k1, k2, k3⟩ := box4A hl.box
      have hlt : (i : Int) < (L.length : Int) := by omega
      have hcall := fun o => c_of (W := wr.alloc o) (a0.at (belowA hl.below o)) q1
      obtain ⟨i0, hi0, hz0, hz1, hz2⟩ := info_parts info35
      unfold turnV hpV at hcall
      clear ht hof
      go_wp2_with (first
        | (go_at_call 77; refine (hcall _).mono ?_; rintro e w2 ⟨u, rfl, hb2, hu⟩; have hcr := c_crop (ArgH.own hu) q2; unfold hpV at hcr)
        | (go_at_call 76; refine hcr.mono ?_; rintro e w3 ⟨u3, rfl, hb3, hu3⟩; obtain ⟨ua, uc, rfl⟩ := hu3.slice1; have hB3 := fun o => belowA (belowThen (belowThen (belowAlloc wr _) hb2) hb3) o; have ho3 := fun o o2 => ((hl.call (hB3 o)).deep.outer.alloc o2))
        | (at_builtin; refine wpList_append_own2 _ rfl _ _ 25 25 rfl (W.heap.size + 1) 35 i0 (.agg #[.int .i64 0, .int .i64 0, .int .i64 0, .slice none 0 0]) 4 48 Try.underlying25 hi0 hz0 hz1 hz2 rfl _ hs.length (encs hs) rfl (ho3 _ _) (.slice (some ⟨_, 0, none⟩) 1 1) 1 [.int .i64 (cf i).1, .int .i64 (cf i).2.1, .int .i64 (cf i).2.2.1, .slice ua (cf i).2.2.2.1.length uc] rfl (heap_src _ _ (alloc_size _ _) _ _ _ _ rfl rfl rfl rfl) ?_ ?_ ?_ ?_; rotate_left; rotate_left; rotate_left; intro v' w6 hv' hgr' hp'))
      · have hu4 := OwnV.rebaseH (B' := wr.heap.size) (own_belowH hu3 (belowAlloc w3 (.cells #[.int .i64 (cf i).1, .int .i64 (cf i).2.1, .int .i64 (cf i).2.2.1, .slice ua (cf i).2.2.2.1.length uc] 35))) fun g hg => by have := (hu3.lt g hg).1; have := hb2.size; rw [alloc_size] at this; omega
        have hp := hl.push (a := ⟨(cf i).1, (cf i).2.1, (cf i).2.2.1, (cf i).2.2.2.1, _⟩) (hB3 _) hu4 hv' hgr'
        go_roundg (L.length + 1 - (i + 1))
        case measure => omega
        case rel => exact ⟨i + 1, hs ++ [⟨(cf i).1, (cf i).2.1, (cf i).2.2.1, (cf i).2.2.2.1, _⟩], by omega, rfl, by go_num, hp, by simp [hm, List.range_succ, HE.heap]⟩
      · unfold maxLen; omega
      · omega
      · have := hl.below.size; have := (hB3 (.cells #[] 0)).size; have := lt_of_block hl.box; rw [alloc_size] at *; rw [alloc_size]; omega
    · obtain rfl : i = L.length := by omega
      have hlt : ¬ ((L.length : Int) < (L.length : Int)) := by omega
      go_wp2
      go_ret
      exact ⟨_, rfl, hl.below, hs, hl.deep.rebase (by omega), hm⟩
end Go.VI
