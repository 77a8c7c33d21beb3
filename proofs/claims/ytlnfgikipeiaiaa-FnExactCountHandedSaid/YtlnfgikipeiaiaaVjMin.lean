/- The least heap of a row, by a walk. -/
import Derived.Test.YtlnfgikipeiaiaaVjPos
import Derived.Deep.CutRange
import Derived.Laws.Rows
namespace Go.VI
open Go.Proofs Go.RowKit
set_option maxRecDepth 100000
theorem c_cmp {Z : Nat → Prop} {W : World} {g h : DHeap} {gv hv : Value} {n : Int} (hz : ∀ g, Z g → g < W.heap.size) (a : RepI Z W (.sl A3ty) g.2.2.2.1 [gv]) (b : RepI Z W (.sl A3ty) h.2.2.2.1 [hv]) (hF : P_impl_compareHeaps (g, h, ()) = some (n, ())) :
    Calls Try.prog 59 #[hpV g gv, hpV h hv] W fun e' w' => e' = .returned (.int .i64 n) ∧ Below W.heap.size W w' :=
  flatH_calls (fn := Try.f59) (r := (n, ())) s_impl_compareHeaps rfl Try.func59 rfl (by kernel_rfl) trivial hz (xs := (g, h, ())) (vs := [hpV g gv, hpV h hv]) ⟨_, _, rfl, (fun h => by cases h), repHeap a, _, _, rfl, (fun h => by cases h), repHeap b, rfl⟩ hF
def minTo (cf : DHeap → DHeap → Int) (hs : List HE) (a : HE) : HE := hs.foldl (fun m b => if cf b.heap m.heap < 0 then b else m) a
theorem minTo_mem (cf : DHeap → DHeap → Int) : ∀ (hs : List HE) (a : HE), minTo cf hs a = a ∨ minTo cf hs a ∈ hs
  | [], a => .inl rfl
  | b :: r, a => by
    show minTo cf r (if cf b.heap a.heap < 0 then b else a) = a ∨ _
    split
    · rcases minTo_mem cf r b with h | h
      · exact .inr (by rw [minTo, List.foldl_cons, if_pos ‹_›]; exact List.mem_cons.2 (.inl h))
      · exact .inr (by rw [minTo, List.foldl_cons, if_pos ‹_›]; exact List.mem_cons.2 (.inr h))
    · rcases minTo_mem cf r a with h | h
      · exact .inl h
      · exact .inr (by rw [minTo, List.foldl_cons, if_neg ‹_›]; exact List.mem_cons.2 (.inr h))
theorem minTo_take (cf : DHeap → DHeap → Int) (hs : List HE) (a0 : HE) (i : Nat) (a : HE) (h : hs[i]? = some a) : minTo cf (hs.take (i + 1)) a0 = if cf a.heap (minTo cf (hs.take i) a0).heap < 0 then a else minTo cf (hs.take i) a0 := by
  have hi : i < hs.length := by
    rcases Nat.lt_or_ge i hs.length with h' | h'
    · exact h'
    · rw [List.getElem?_eq_none h'] at h; cases h
  rw [List.take_succ_eq_append_getElem hi]
  have : hs[i] = a := by rw [List.getElem?_eq_getElem hi] at h; exact Option.some.inj h
  rw [this]
  unfold minTo
  rw [List.foldl_append]
  rfl
theorem heap_cells {w : World} {B : Nat} {v : Value} {hs : List HE} (h : DeepH w B 35 42 v hs) {i : Nat} {a : HE} (ha : hs[i]? = some a) : ∃ g c, v = .slice (some ⟨g, 0, none⟩) hs.length c ∧
    w.cell? ⟨g, i * 4, none⟩ = some (.int .i64 a.x) ∧ w.cell? ⟨g, i * 4 + 1, none⟩ = some (.int .i64 a.y) ∧ w.cell? ⟨g, i * 4 + 2, none⟩ = some (.int .i64 a.z) ∧ w.cell? ⟨g, i * 4 + 3, none⟩ = some a.v := by
  rcases h.outer.2 with ⟨_, h0⟩ | ⟨g, c, cur, rfl, _⟩
  · have : hs = [] := List.length_eq_zero_iff.1 h0
    subst this
    simp at ha
  · have hc := h.outer.cells (g := g) rfl
    have e : ∀ j (hj : j < 4) u, a.enc[j]? = some u → w.cell? ⟨g, i * 4 + j, none⟩ = some u := fun j hj u hu => by
      have := hc (i * 4 + j) u (by rw [encs_at ha j hj]; exact hu)
      rw [Addr.add_lit, Nat.zero_add] at this
      exact this
    exact ⟨g, c, rfl, e 0 (by decide) _ rfl, e 1 (by decide) _ rfl, e 2 (by decide) _ rfl, e 3 (by decide) _ rfl⟩
theorem free4 {w : World} {b t : Nat} {a0 a1 a2 a3 : Value} (h : w.heap[b]? = some (.cells #[a0, a1, a2, a3] t (0, 0))) :
    w.frozen? ⟨b, 0, none⟩ = false ∧ w.frozen? ⟨b, 1, none⟩ = false ∧ w.frozen? ⟨b, 2, none⟩ = false ∧ w.frozen? ⟨b, 3, none⟩ = false := by
  refine ⟨?_, ?_, ?_, ?_⟩ <;> simp [World.frozen?, h]
theorem set1 {w : World} {b t : Nat} {cur : Array Value} {fz : Nat × Nat} (h : w.heap[b]? = some (.cells cur t fz)) (j : Nat) (v : Value) : (w.setCell ⟨b, j, none⟩ v).heap[b]? = some (.cells (cur.setIfInBounds j v) t fz) := by
  have hlt := lt_of_block h
  have h' : w.heap[b] = .cells cur t fz := by simpa [Array.getElem?_eq_getElem hlt] using h
  show (w.heap.modify b _)[b]? = _
  rw [Array.getElem?_eq_getElem (by simpa using hlt), Array.getElem_modify_self, h']
  rfl
theorem set4 {w : World} {b t : Nat} {a0 a1 a2 a3 : Value} (h : w.heap[b]? = some (.cells #[a0, a1, a2, a3] t (0, 0))) (v0 v1 v2 v3 : Value) :
    ((((w.setCell ⟨b, 0, none⟩ v0).setCell ⟨b, 1, none⟩ v1).setCell ⟨b, 2, none⟩ v2).setCell ⟨b, 3, none⟩ v3).heap[b]? = some (.cells #[v0, v1, v2, v3] t (0, 0)) := by
  exact set1 (set1 (set1 (set1 h 0 v0) 1 v1) 2 v2) 3 v3
theorem set4_other {w : World} {b g : Nat} (hg : g ≠ b) (v0 v1 v2 v3 : Value) :
    ((((w.setCell ⟨b, 0, none⟩ v0).setCell ⟨b, 1, none⟩ v1).setCell ⟨b, 2, none⟩ v2).setCell ⟨b, 3, none⟩ v3).heap[g]? = w.heap[g]? := by
  rw [Below.heap_setCell _ _ _ _ hg, Below.heap_setCell _ _ _ _ hg, Below.heap_setCell _ _ _ _ hg, Below.heap_setCell _ _ _ _ hg]
theorem set4_below {w0 w : World} {b : Nat} (h : Below w0.heap.size w0 w) (hb : w0.heap.size ≤ b) (v0 v1 v2 v3 : Value) :
    Below w0.heap.size w0 ((((w.setCell ⟨b, 0, none⟩ v0).setCell ⟨b, 1, none⟩ v1).setCell ⟨b, 2, none⟩ v2).setCell ⟨b, 3, none⟩ v3) :=
  ⟨h.os, h.tape, h.output, by simpa using h.size, fun g hg => by rw [set4_other (by omega)]; exact h.block g hg, h.drawn⟩
structure LoopM (W wr : World) (v : Value) (hs : List HE) (a : HE) : Prop where
  below : Below W.heap.size W wr
  size : W.heap.size + 2 ≤ wr.heap.size
  best : wr.heap[W.heap.size + 1]? = some (.cells #[.int .i64 a.x, .int .i64 a.y, .int .i64 a.z, a.v] 35)
  res : wr.heap[W.heap.size]? = some (.cells #[.int .i64 0, .int .i64 0, .int .i64 0, .slice none 0 0] 35)
theorem LoopM.call {W wr w' : World} {v : Value} {hs : List HE} {a : HE} (h : LoopM W wr v hs a) (hb : Below wr.heap.size wr w') : LoopM W w' v hs a :=
  ⟨belowThen h.below hb, Nat.le_trans h.size hb.size, belowBlock h.best hb, belowBlock h.res hb⟩
theorem LoopM.drew {W wr : World} {v : Value} {hs : List HE} {a : HE} (h : LoopM W wr v hs a) : LoopM W wr.drew v hs a := ⟨h.below.drew, h.size, h.best, h.res⟩
set_option maxHeartbeats 2000000 in
theorem min_calls {W : World} {B : Nat} {v : Value} {hs : List HE} {a0 : HE} (h : DeepH W B 35 42 v hs) (h0 : hs[0]? = some a0) (hn : hs.length ≤ 1000) (cf : DHeap → DHeap → Int) (hcf : ∀ a ∈ hs, ∀ b ∈ hs, P_impl_compareHeaps (a.heap, b.heap, ()) = some (cf a.heap b.heap, ())) :
    Calls Try.prog 57 #[v, .func (.func 59) #[] #[]] W fun e w' => ∃ a ∈ hs, a = minTo cf (hs.drop 1) a0 ∧ e = .returned (.agg #[.int .i64 a.x, .int .i64 a.y, .int .i64 a.z, a.v]) ∧ Below W.heap.size W w' := by
  have hpos : 0 < hs.length := by
    rcases Nat.eq_zero_or_pos hs.length with h' | h'
    · rw [List.length_eq_zero_iff.1 h'] at h0; simp at h0
    · exact h'
  obtain ⟨g, c, rfl, c0, c1, c2, c3⟩ := heap_cells h h0
  have hg := h.outer.lt g rfl
  have hgc : ∀ i a, hs[i]? = some a → W.cell? ⟨g, i * 4, none⟩ = some (.int .i64 a.x) ∧ W.cell? ⟨g, i * 4 + 1, none⟩ = some (.int .i64 a.y) ∧ W.cell? ⟨g, i * 4 + 2, none⟩ = some (.int .i64 a.z) ∧ W.cell? ⟨g, i * 4 + 3, none⟩ = some a.v := fun i a ha => by
    obtain ⟨g', c', e, r⟩ := heap_cells h ha
    obtain ⟨rfl, _⟩ : g = g' ∧ c = c' := by simpa using e
    exact r
  have hone : ∀ a ∈ hs, a.v.oneCell' = true := fun a ha => by
    obtain ⟨i, hi⟩ := List.mem_iff_getElem?.1 ha
    obtain ⟨x, y, e⟩ := (h.inner i a hi).slice1
    rw [e]; rfl
  rw [Nat.zero_mul] at c0 c1 c2 c3
  rw [Nat.zero_add] at c1 c2 c3
  have hlt1 : ¬ ((hs.length : Int) < 1) := by omega
  obtain ⟨xa, xl, xc, hav⟩ : ∃ xa xl xc, a0.v = .slice xa xl xc := by
    obtain ⟨x, y, e⟩ := (h.inner 0 a0 h0).slice1
    exact ⟨x, _, y, e⟩
  rw [hav] at c3
  have k : ∀ o, (W.alloc o).cell? ⟨g, 0, none⟩ = some (.int .i64 a0.x) ∧ (W.alloc o).cell? ⟨g, 1, none⟩ = some (.int .i64 a0.y) ∧ (W.alloc o).cell? ⟨g, 2, none⟩ = some (.int .i64 a0.z) ∧ (W.alloc o).cell? ⟨g, 3, none⟩ = some (.slice xa xl xc) := fun o => by
    have e : (W.alloc o).heap[g]? = W.heap[g]? := Below.heap_alloc _ _ _ hg.2
    refine ⟨?_, ?_, ?_, ?_⟩ <;> rw [World.cell?_of_block (w := W) e] <;> assumption
  have k0 := fun o => (k o).1
  have k1 := fun o => (k o).2.1
  have k2 := fun o => (k o).2.2.1
  have k3 := fun o => (k o).2.2.2
  clear k
  go_enter Try.func57, Try.ntmps57
  go_wp2
  have hl0 : LoopM W ((W.alloc (.cells #[.int .i64 0, .int .i64 0, .int .i64 0, .slice none 0 0] 35)).alloc (.cells #[.int .i64 a0.x, .int .i64 a0.y, .int .i64 a0.z, .slice xa xl xc] 35)) (.slice (some ⟨g, 0, none⟩) hs.length c) hs a0 := by
    have sA := alloc_size W (.cells #[.int .i64 0, .int .i64 0, .int .i64 0, .slice none 0 0] 35)
    have q := alloc_at (W.alloc (.cells #[.int .i64 0, .int .i64 0, .int .i64 0, .slice none 0 0] 35)) (.cells #[.int .i64 a0.x, .int .i64 a0.y, .int .i64 a0.z, .slice xa xl xc] 35)
    rw [sA, ← hav] at q
    refine ⟨belowA (belowAlloc W _) _, ?_, ?_, blockA (alloc_at W _) _⟩
    · rw [alloc_size, sA]; exact Nat.le_refl _
    · rw [← hav]; exact q
  have hmem0 : a0 ∈ hs := List.mem_of_getElem? h0
  clear k0 k1 k2 k3 c0 c1 c2 c3
  go_loopg [6] hs.length (fun m v6 wr => ∃ (i : Nat) (a : HE), 1 ≤ i ∧ i ≤ hs.length ∧ m = hs.length + 1 - i ∧ v6 = .int .i64 i ∧ LoopM W wr (.slice (some ⟨g, 0, none⟩) hs.length c) hs a ∧ a ∈ hs ∧ minTo cf ((hs.drop 1).take (i - 1)) a0 = a)
  case atStart => exact ⟨1, a0, Nat.le_refl _, by omega, by omega, rfl, hl0, hmem0, rfl⟩
  case round =>
    obtain ⟨i, a, hi1, hi, rfl, rfl, hl, hma, ha⟩ := hrel
    clear hl0
    by_cases hin : i < hs.length
    · obtain ⟨b, hb⟩ : ∃ b, hs[i]? = some b := ⟨hs[i], List.getElem?_eq_getElem hin⟩
      have hmb : b ∈ hs := List.mem_of_getElem? hb
      have hlt : (i : Int) < (hs.length : Int) := by omega
      obtain ⟨x0, x1, x2, x3⟩ := hgc i b hb
      have hgw : wr.heap[g]? = W.heap[g]? := hl.below.block g hg.2
      rw [← World.cell?_of_block (w := W) (w' := wr) hgw] at x0 x1 x2 x3
      obtain ⟨y0, y1, y2, y3⟩ := box4 hl.best
      have hcall : ∀ V, LoopM W V (.slice (some ⟨g, 0, none⟩) hs.length c) hs a → Calls Try.prog 59 #[.agg #[.int .i64 b.x, .int .i64 b.y, .int .i64 b.z, b.v], .agg #[.int .i64 a.x, .int .i64 a.y, .int .i64 a.z, a.v]] V fun e' w' => e' = .returned (.int .i64 (cf b.heap a.heap)) ∧ LoopM W w' (.slice (some ⟨g, 0, none⟩) hs.length c) hs a := fun V hV => by
        obtain ⟨j, hj⟩ := List.mem_iff_getElem?.1 hma
        have dV := h.below hV.below
        refine (c_cmp (Z := ZH (.slice (some ⟨g, 0, none⟩) hs.length c) hs) (fun q hq => (ZH.lt dV q hq).2) ((dV.inner i b hb).reads _ (fun _ hz => hz.elim) fun q hq => .inr ⟨b, hmb, hq⟩) ((dV.inner j a hj).reads _ (fun _ hz => hz.elim) fun q hq => .inr ⟨a, hma, hq⟩) (hcf b hmb a hma)).mono ?_
        rintro e w2 ⟨rfl, hb2⟩
        exact ⟨rfl, hV.call hb2⟩
      obtain ⟨n, hn'⟩ : ∃ n, cf b.heap a.heap = n := ⟨_, rfl⟩
      rw [hn'] at hcall
      go_wp2
      go_cut [27] from 20 to 27 (fun v27 wc => v27 = .bool (decide (n < 0)) ∧ LoopM W wc (.slice (some ⟨g, 0, none⟩) hs.length c) hs a)
      case first =>
        go_region_with (go_at_call 59; refine (hcall _ (by (repeat (first | exact hl | apply LoopM.drew)))).mono ?_; rintro e w2 ⟨rfl, hl2⟩)
        all_goals (go_wp2_with fail; go_meet; exact ⟨rfl, hl2⟩)
      case rest =>
        obtain ⟨rfl, hl2⟩ := hcut
        clear x0 x1 x2 x3 y0 y1 y2 y3 hcall
        obtain ⟨x0, x1, x2, x3⟩ := hgc i b hb
        have hgw2 : wc.heap[g]? = W.heap[g]? := hl2.below.block g hg.2
        rw [← World.cell?_of_block (w := W) (w' := wc) hgw2] at x0 x1 x2 x3
        obtain ⟨y0, y1, y2, y3⟩ := box4 hl2.best
        obtain ⟨ba, bl, bc, hbv⟩ : ∃ ba bl bc, b.v = .slice ba bl bc := by
          obtain ⟨x, y, e⟩ := (h.inner i b hb).slice1
          exact ⟨x, _, y, e⟩
        rw [hbv] at x3
        obtain ⟨f0, f1, f2, f3⟩ := free4 hl2.best
        go_wp2
        · have hlt0 : n < 0 := by omega
          go_roundg (hs.length + 1 - (i + 1))
          case measure => omega
          case rel =>
            refine ⟨i + 1, b, by omega, by omega, rfl, by go_num, ⟨set4_below hl2.below (by omega) _ _ _ _, by simpa using hl2.size, by rw [hbv]; exact set4 hl2.best _ _ _ _, by rw [set4_other (by omega)]; exact hl2.res⟩, hmb, ?_⟩
            rw [show i + 1 - 1 = (i - 1) + 1 by omega, minTo_take cf (hs.drop 1) a0 (i - 1) b (by rw [List.getElem?_drop]; rw [show 1 + (i - 1) = i by omega]; exact hb), ha, hn', if_pos hlt0]
        · have hlt0 : ¬ n < 0 := by omega
          go_roundg (hs.length + 1 - (i + 1))
          case measure => omega
          case rel =>
            refine ⟨i + 1, a, by omega, by omega, rfl, by go_num, hl2, hma, ?_⟩
            rw [show i + 1 - 1 = (i - 1) + 1 by omega, minTo_take cf (hs.drop 1) a0 (i - 1) b (by rw [List.getElem?_drop]; rw [show 1 + (i - 1) = i by omega]; exact hb), ha, hn', if_neg hlt0]
    · obtain rfl : i = hs.length := by omega
      have hlt : ¬ ((hs.length : Int) < (hs.length : Int)) := by omega
      obtain ⟨y0, y1, y2, y3⟩ := box4 hl.best
      obtain ⟨f0, f1, f2, f3⟩ := free4 hl.res
      obtain ⟨z0, z1, z2, z3⟩ := box4 hl.res
      obtain ⟨aa, al, ac, hav'⟩ : ∃ aa al ac, a.v = .slice aa al ac := by
        obtain ⟨j, hj⟩ := List.mem_iff_getElem?.1 hma
        obtain ⟨x, y, e⟩ := (h.inner j a hj).slice1
        exact ⟨x, _, y, e⟩
      rw [hav'] at y3
      have F := set4 hl.res (.int .i64 a.x) (.int .i64 a.y) (.int .i64 a.z) (.slice aa al ac)
      have Fb := set4_below hl.below (Nat.le_refl _) (.int .i64 a.x) (.int .i64 a.y) (.int .i64 a.z) (.slice aa al ac)
      go_wp2
      (try simp only [Exit.inBlock, Exit.then])
      refine bodyPost_ret (results_cell_row (fn := Try.f57) rfl _ _ W.heap.size 35 _ (0, 0) _ rfl F Try.underlying35 rfl (by kernel_rfl)) rfl ?_
      exact ⟨a, hma, by rw [← ha]; simp [List.take_of_length_le], by rw [hav'], Fb⟩
end Go.VI
/- The first form of a heap, by a walk. -/
namespace Go.VI
open Go.Proofs Go.RowKit
set_option maxRecDepth 100000
def minC (cf : DHeap → DHeap → Int) (l : List DHeap) (a : DHeap) : DHeap := l.foldl (fun m b => if cf b m < 0 then b else m) a
theorem minTo_heap (cf : DHeap → DHeap → Int) : ∀ (hs : List HE) (a : HE), (minTo cf hs a).heap = minC cf (hs.map HE.heap) a.heap
  | [], a => rfl
  | b :: r, a => by
    show (minTo cf r (if cf b.heap a.heap < 0 then b else a)).heap = minC cf (r.map HE.heap) (if cf b.heap a.heap < 0 then b.heap else a.heap)
    rw [minTo_heap cf r]
    split <;> rfl
structure FormOK (h : DHeap) (L : List D_l8Turn) (gf cf : Nat → DHeap) (bf : Nat → Bool) (cmp : DHeap → DHeap → Int) : Prop where
  turns : P_impl_turnings () = some (L, ())
  pos : 0 < L.length
  len : L.length ≤ 1000
  of : ∀ i t, L[i]? = some t → P_turning_of (t, h, ()) = some (gf i, ()) ∧ P_impl_CropHeap (gf i, ()) = some (cf i, bf i, ())
  cmp : ∀ i j, i < L.length → j < L.length → P_impl_compareHeaps (cf i, cf j, ()) = some (cmp (cf i) (cf j), ())
def formOf (n : Nat) (cf : Nat → DHeap) (cmp : DHeap → DHeap → Int) : DHeap := minC cmp (((List.range n).map cf).drop 1) (cf 0)
set_option maxHeartbeats 1000000 in
theorem form_calls {Z : Nat → Prop} {W : World} {h : DHeap} {lv : Value} (a0 : ArgH Z W h lv) {L : List D_l8Turn} {gf cf : Nat → DHeap} {bf : Nat → Bool} {cmp : DHeap → DHeap → Int} (f : FormOK h L gf cf bf cmp) :
    Calls Try.prog 30 #[hpV h lv] W fun e w' => ∃ u, e = .returned (hpV (formOf L.length cf cmp) u) ∧ Below W.heap.size W w' ∧ OwnV (fun _ => False) w' W.heap.size 42 A3ty u (formOf L.length cf cmp).2.2.2.1 := by
  have hpos : ∀ V, Below W.heap.size W V → _ := fun V hb => pos_calls (W := V) (a0.at hb) f.turns f.len gf cf bf f.of
  have hmin : ∀ (B : Nat) (V : World) (v : Value) (hs : List HE), DeepH V B 35 42 v hs → hs.map HE.heap = (List.range L.length).map cf →
      Calls Try.prog 57 #[v, .func (.func 59) #[] #[]] V fun e w' => ∃ u, e = .returned (hpV (formOf L.length cf cmp) u) ∧ Below V.heap.size V w' ∧ OwnV (fun _ => False) w' B 42 A3ty u (formOf L.length cf cmp).2.2.2.1 ∧ ∃ x y z, u = .slice x y z := fun B V v hs d hm => by
    have hl : hs.length = L.length := by have := congrArg List.length hm; simpa using this
    have p := f.pos
    have h0 : hs[0]? = some hs[0] := List.getElem?_eq_getElem (by omega)
    have hat : ∀ i (hi : i < hs.length), hs[i].heap = cf i := fun i hi => by
      have := congrArg (fun l => l[i]?) hm
      simpa [hi, show i < L.length by omega] using this
    have hcmp : ∀ a ∈ hs, ∀ b ∈ hs, P_impl_compareHeaps (a.heap, b.heap, ()) = some (cmp a.heap b.heap, ()) := fun a ha b hb => by
      obtain ⟨i, hi, rfl⟩ := List.getElem_of_mem ha
      obtain ⟨j, hj, rfl⟩ := List.getElem_of_mem hb
      rw [hat i hi, hat j hj]
      exact f.cmp i j (by omega) (by omega)
    refine (min_calls d h0 (by have := f.len; omega) cmp hcmp).mono ?_
    rintro e w' ⟨a, hma, ha, rfl, hb⟩
    have hah : a.heap = formOf L.length cf cmp := by
      rw [ha, minTo_heap, hat 0 (by omega), formOf, ← hm, List.map_drop]
    obtain ⟨i, hi⟩ := List.mem_iff_getElem?.1 hma
    have ho := own_belowH (d.inner i a hi) hb
    obtain ⟨x, y, e⟩ := (d.inner i a hi).slice1
    refine ⟨a.v, ?_, hb, ?_, x, _, y, e⟩
    · rw [← hah]; rfl
    · rw [← hah]; exact ho
  have e0 := belowAlloc W (.cells #[.int .i64 h.1, .int .i64 h.2.1, .int .i64 h.2.2.1, lv] 35)
  have hB0 := alloc_at W (.cells #[.int .i64 h.1, .int .i64 h.2.1, .int .i64 h.2.2.1, lv] 35)
  have sA := alloc_size W (.cells #[.int .i64 h.1, .int .i64 h.2.1, .int .i64 h.2.2.1, lv] 35)
  have hR0 := alloc_at (W.alloc (.cells #[.int .i64 h.1, .int .i64 h.2.1, .int .i64 h.2.2.1, lv] 35)) (.cells #[.int .i64 0, .int .i64 0, .int .i64 0, .slice none 0 0] 35)
  rw [sA] at hR0
  obtain ⟨k0, k1, k2, k3⟩ := box4A hB0
  obtain ⟨F0, hF0⟩ : ∃ F0, formOf L.length cf cmp = F0 := ⟨_, rfl⟩
  rw [hF0] at hmin ⊢
  unfold hpV at *
  go_enter Try.func30, Try.ntmps30
  go_wp2_with (first
    | (go_at_call 58; refine (hpos _ (belowA e0 _)).mono ?_; rintro e w2 ⟨v, hs, rfl, hb2, hd2, hm2⟩; have hmc := hmin _ _ v hs hd2 hm2; have hR2 := belowBlock hR0 hb2)
    | (go_at_call 57; refine hmc.mono ?_; rintro e w3 ⟨u, rfl, hb3, hu3, ux, uy, uz, rfl⟩; have hR3 := belowBlock hR2 hb3; obtain ⟨f0, f1, f2, f3⟩ := free4 hR3; obtain ⟨z0, z1, z2, z3⟩ := box4 hR3))
  have F := set4 hR3 (.int .i64 F0.1) (.int .i64 F0.2.1) (.int .i64 F0.2.2.1) (.slice ux uy uz)
  have hW3 := belowThen (belowThen (belowA e0 _) hb2) hb3
  have sB := alloc_size (W.alloc (.cells #[.int .i64 h.1, .int .i64 h.2.1, .int .i64 h.2.2.1, lv] 35)) (.cells #[.int .i64 0, .int .i64 0, .int .i64 0, .slice none 0 0] 35)
  rw [sA] at sB
  (try simp only [Exit.inBlock, Exit.then])
  refine bodyPost_ret (results_cell_row (fn := Try.f30) rfl _ _ (W.heap.size + 1) 35 _ (0, 0) _ rfl F Try.underlying35 rfl (by kernel_rfl)) rfl ?_
  refine ⟨_, rfl, set4_below hW3 (by omega) _ _ _ _, ?_⟩
  refine OwnV.rebaseH (hu3.mono (fun _ hz => hz) (fun _ hz => hz.elim) fun g hg => set4_other (by have := (hu3.lt g hg).1; omega) _ _ _ _) fun g hg => by have := (hu3.lt g hg).1; omega
end Go.VI
