/- slices.CompactFunc on a row of heaps, by a walk. -/
import Derived.Test.YtlnfgikipeiaiaaGreatG30p2
namespace Go.VI
open Go.Proofs Go.RowKit
set_option maxRecDepth 100000
theorem c_same {Z : Nat → Prop} {W : World} {g h : DHeap} {gv hv : Value} {n : Bool} (hz : ∀ g, Z g → g < W.heap.size) (a : RepI Z W (.sl A3ty) g.2.2.2.1 [gv]) (b : RepI Z W (.sl A3ty) h.2.2.2.1 [hv]) (hF : P_Heap_same (g, h, ()) = some (n, ())) :
 Calls Tryz.prog 92 #[hpV g gv, hpV h hv] W fun e' w' => e' = .returned (.bool n) ∧ Below W.heap.size W w' :=
  flatH_calls (fn := Tryz.f92) (r := (n, ())) s_Heap_same rfl Tryz.func92 rfl (by kernel_rfl) trivial hz (xs := (g, h, ())) (vs := [hpV g gv, hpV h hv]) ⟨_, _, rfl, (fun h => by cases h), repHeap a, _, _, rfl, (fun h => by cases h), repHeap b, rfl⟩ hF
theorem same_calls {W V : World} {B : Nat} {v : Value} {hs : List HE} (h : DeepH W B 29 55 v hs) (sm : DHeap → DHeap → Bool) (hsm : ∀ a ∈ hs, ∀ b ∈ hs, P_Heap_same (a.heap, b.heap, ()) = some (sm a.heap b.heap, ())) (hV : FrameL (fun g => v.ownBlock = some g) W V) {a b : HE} (ha : a ∈ hs) (hb : b ∈ hs) :
 Calls Tryz.prog 92 #[hpV a.heap a.v, hpV b.heap b.v] V fun e' w' => e' = .returned (.bool (sm a.heap b.heap)) ∧ Below V.heap.size V w' := by
  obtain ⟨i, hi⟩ := List.mem_iff_getElem?.1 ha
  obtain ⟨j, hj⟩ := List.mem_iff_getElem?.1 hb
  have key : ∀ i (a : HE), hs[i]? = some a → RepI (fun g => (a.v.ownBlock = some g ∨ b.v.ownBlock = some g)) V (.sl A3ty) a.cells [a.v] := fun i a hi => by
    have hin := h.inner i a hi
    exact (hin.mono (w' := V) (fun _ hz => hz) (fun _ hz => hz.elim) fun g hg => hV.block g (hin.lt g hg).2 fun e => h.outer_ne (by decide) hi hg e).reads _ (fun _ hz => hz.elim) fun g hg => .inl hg
  refine c_same (Z := fun g => a.v.ownBlock = some g ∨ b.v.ownBlock = some g) (fun g hg => ?_) (key i a hi) ?_ (hsm a ha b hb)
  · rcases hg with hg | hg
    · exact Nat.lt_of_lt_of_le ((h.inner i a hi).lt g hg).2 hV.size
    · exact Nat.lt_of_lt_of_le ((h.inner j b hj).lt g hg).2 hV.size
  · have hin := h.inner j b hj
    exact (hin.mono (w' := V) (fun _ hz => hz) (fun _ hz => hz.elim) fun g hg => hV.block g (hin.lt g hg).2 fun e => h.outer_ne (by decide) hj hg e).reads _ (fun _ hz => hz.elim) fun g hg => .inr hg
theorem at_enc {w : World} {g : Nat} {cur : Array Value} {hs : List HE} (hg : w.heap[g]? = some (.cells cur 29 (0, 0))) {n : Nat} (hn : cur.toList.take (n * 4) = encs hs) {i : Nat} (hi : i < n) {a : HE} (ha : hs[i]? = some a) :
 w.cell? ⟨g, i * 4, none⟩ = some (.int .i64 a.x) ∧ w.cell? ⟨g, i * 4 + 1, none⟩ = some (.int .i64 a.y) ∧ w.cell? ⟨g, i * 4 + 2, none⟩ = some (.int .i64 a.z) ∧ w.cell? ⟨g, i * 4 + 3, none⟩ = some a.v := by
  have e : ∀ j (hj : j < 4) u, a.enc[j]? = some u → w.cell? ⟨g, i * 4 + j, none⟩ = some u := fun j hj u hu => by
    have := encs_at ha j hj
    rw [← hn, List.getElem?_take, if_pos (by omega), hu, Array.getElem?_toList] at this
    simp [World.cell?, hg, this]
  exact ⟨e 0 (by decide) _ rfl, e 1 (by decide) _ rfl, e 2 (by decide) _ rfl, e 3 (by decide) _ rfl⟩
theorem encs_take (hs : List HE) : ∀ m, encs (hs.take m) = (encs hs).take (m * 4) := by
  induction hs with
  | nil => intro m; simp [encs]
  | cons a l ih =>
    intro m
    cases m with
    | zero => simp [encs]
    | succ m =>
      have e : ∀ l, encs (a :: l) = a.enc ++ encs l := fun l => by simp [encs]
      rw [List.take_succ_cons, e, e, ih, List.take_append, HE.enc_len, show (m + 1) * 4 - 4 = m * 4 by omega, List.take_of_length_le (show a.enc.length ≤ (m + 1) * 4 by rw [HE.enc_len]; omega)]
structure CompI (W wr : World) (g n c : Nat) (cur : Array Value) (hs : List HE) (sm : DHeap → DHeap → Bool) (kk p : Nat) (cur' : Array Value) : Prop where
  frame : FrameL (fun q => q = g) W wr
  block : wr.heap[g]? = some (.cells cur' 29)
  size : cur'.size = c * 4
  len : (dd sm (hs.take p)).length = kk
  take : cur'.toList.take (kk * 4) = encs (dd sm (hs.take p))
  rest : ∀ j, (p - 1) * 4 ≤ j → cur'[j]? = cur[j]?
theorem FrameL.refl' (T : Nat → Prop) (w : World) : FrameL T w w := ⟨rfl, rfl, rfl, Nat.le_refl _, fun _ _ _ => rfl, Nat.le_refl _⟩
theorem frameOf {W V : World} {g n c : Nat} (h : FrameL (fun q => q = g) W V) : FrameL (fun q => (Value.slice (some ⟨g, 0, none⟩) n c).ownBlock = some q) W V :=
  ⟨h.os, h.tape, h.output, h.size, fun k hk hn => h.block k hk fun e => hn (by rw [e]; rfl), h.drawn⟩
theorem FrameL.below {T : Nat → Prop} {W w w' : World} (h : FrameL T W w) (hb : Below w.heap.size w w') : FrameL T W w' :=
  ⟨hb.os.trans h.os, hb.tape.trans h.tape, hb.output.trans h.output, Nat.le_trans h.size hb.size, fun k hk hn => (hb.block k (Nat.lt_of_lt_of_le hk h.size)).trans (h.block k hk hn), Nat.le_trans h.drawn hb.drawn⟩
theorem CompI.below {W wr w' : World} {g n c : Nat} {cur : Array Value} {hs : List HE} {sm : DHeap → DHeap → Bool} {kk p : Nat} {cur' : Array Value} (h : CompI W wr g n c cur hs sm kk p cur') (hb : Below wr.heap.size wr w') : CompI W w' g n c cur hs sm kk p cur' :=
  ⟨h.frame.below hb, belowBlock h.block hb, h.size, h.len, h.take, h.rest⟩
theorem CompI.up {W wr : World} {g n c : Nat} {cur : Array Value} {hs : List HE} {sm : DHeap → DHeap → Bool} {k : Nat} (h : CompI W wr g n c cur hs sm k k cur) (hk : 1 ≤ k) {a b : HE} (hb : hs[k]? = some b) (ha : hs[k - 1]? = some a) (hs' : sm b.heap a.heap = false) (ht : cur.toList.take (n * 4) = encs hs) (hkn : k < n) : CompI W wr g n c cur hs sm (k + 1) (k + 1) cur := by
  have e := dd_take sm hs hk hb ha
  rw [hs', if_neg (by decide)] at e
  have hlt : k < hs.length := by
    rcases Nat.lt_or_ge k hs.length with h' | h'
    · exact h'
    · rw [List.getElem?_eq_none h'] at hb; cases hb
  have ed : dd sm (hs.take k) = hs.take k := (dd_sub sm _).eq_of_length (by rw [h.len]; simp; omega)
  have e2 : dd sm (hs.take (k + 1)) = hs.take (k + 1) := by
    rw [e, ed, List.take_succ_eq_append_getElem hlt]
    congr 2
    rw [List.getElem?_eq_getElem hlt] at hb
    exact (Option.some.inj hb).symm
  refine ⟨h.frame, h.block, h.size, by rw [e2]; simp; omega, ?_, fun j _ => rfl⟩
  rw [e2, encs_take, ← ht, List.take_take, show min ((k + 1) * 4) (n * 4) = (k + 1) * 4 by omega]
theorem CompI.start {W : World} {g n c : Nat} {cur : Array Value} {hs : List HE} {sm : DHeap → DHeap → Bool} (hg : W.heap[g]? = some (.cells cur 29)) (hcs : cur.size = c * 4) (ht : cur.toList.take (hs.length * 4) = encs hs) (hn : 0 < hs.length) : CompI W W g n c cur hs sm 1 1 cur := by
  refine ⟨FrameL.refl' _ _, hg, hcs, by rw [dd_one sm hs hn]; simp; omega, ?_, fun _ _ => rfl⟩
  rw [dd_one sm hs hn, encs_take, ← ht, List.take_take, show min (1 * 4) (hs.length * 4) = 1 * 4 by omega]
theorem CompI.drop {W wr : World} {g n c : Nat} {cur cur' : Array Value} {hs : List HE} {sm : DHeap → DHeap → Bool} {kk p : Nat} (h : CompI W wr g n c cur hs sm kk p cur') (hk : 1 ≤ p) {a b : HE} (hb : hs[p]? = some b) (ha : hs[p - 1]? = some a) (hs' : sm b.heap a.heap = true) : CompI W wr g n c cur hs sm kk (p + 1) cur' := by
  have e := dd_take sm hs hk hb ha
  rw [hs', if_pos rfl, List.append_nil] at e
  exact ⟨h.frame, h.block, h.size, by rw [e]; exact h.len, by rw [e]; exact h.take, fun j hj => h.rest j (by omega)⟩
theorem CompI.high {W wr : World} {g n c : Nat} {cur cur' : Array Value} {hs : List HE} {sm : DHeap → DHeap → Bool} {kk p : Nat} (h : CompI W wr g n c cur hs sm kk p cur') (ht : cur.toList.take (n * 4) = encs hs) {i : Nat} (hp : p - 1 ≤ i) (hi : i < n) {a : HE} (ha : hs[i]? = some a) :
 wr.cell? ⟨g, i * 4, none⟩ = some (.int .i64 a.x) ∧ wr.cell? ⟨g, i * 4 + 1, none⟩ = some (.int .i64 a.y) ∧ wr.cell? ⟨g, i * 4 + 2, none⟩ = some (.int .i64 a.z) ∧ wr.cell? ⟨g, i * 4 + 3, none⟩ = some a.v := by
  have e : ∀ j (hj : j < 4) u, a.enc[j]? = some u → wr.cell? ⟨g, i * 4 + j, none⟩ = some u := fun j hj u hu => by
    have := encs_at ha j hj
    rw [← ht, List.getElem?_take, if_pos (by omega), hu, Array.getElem?_toList, ← h.rest _ (by omega)] at this
    simp [World.cell?, h.block, this]
  exact ⟨e 0 (by decide) _ rfl, e 1 (by decide) _ rfl, e 2 (by decide) _ rfl, e 3 (by decide) _ rfl⟩
theorem CompI.free {W wr : World} {g n c : Nat} {cur cur' : Array Value} {hs : List HE} {sm : DHeap → DHeap → Bool} {kk p : Nat} (h : CompI W wr g n c cur hs sm kk p cur') (i : Nat) :
 wr.frozen? ⟨g, i * 4, none⟩ = false ∧ wr.frozen? ⟨g, i * 4 + 1, none⟩ = false ∧ wr.frozen? ⟨g, i * 4 + 2, none⟩ = false ∧ wr.frozen? ⟨g, i * 4 + 3, none⟩ = false := by
  refine ⟨?_, ?_, ?_, ?_⟩ <;> simp [World.frozen?, h.block]
theorem CompI.low {W wr : World} {g n c : Nat} {cur cur' : Array Value} {hs : List HE} {sm : DHeap → DHeap → Bool} {kk p : Nat} (h : CompI W wr g n c cur hs sm kk p cur') (i : Nat) (hi : i < c) :
 wr.cell? ⟨g, i * 4, none⟩ = some cur'[i * 4]! ∧ wr.cell? ⟨g, i * 4 + 1, none⟩ = some cur'[i * 4 + 1]! ∧ wr.cell? ⟨g, i * 4 + 2, none⟩ = some cur'[i * 4 + 2]! ∧ wr.cell? ⟨g, i * 4 + 3, none⟩ = some cur'[i * 4 + 3]! := by
  have hs := h.size
  have e : ∀ j, j < cur'.size → wr.cell? ⟨g, j, none⟩ = some cur'[j]! := fun j hj => by
    simp [World.cell?, h.block, Array.getElem?_eq_getElem hj, getElem!_pos cur' j hj]
  exact ⟨e _ (by omega), e _ (by omega), e _ (by omega), e _ (by omega)⟩
theorem CompI.store {W wr : World} {g n c : Nat} {cur cur' : Array Value} {hs : List HE} {sm : DHeap → DHeap → Bool} {kk p : Nat} (h : CompI W wr g n c cur hs sm kk p cur') (hk : 1 ≤ p) {a b : HE} (hb : hs[p]? = some b) (ha : hs[p - 1]? = some a) (hs' : sm b.heap a.heap = false) (hkk : kk < p) (hp : p < c) :
 CompI W ((((wr.setCell ⟨g, kk * 4, none⟩ (.int .i64 b.x)).setCell ⟨g, kk * 4 + 1, none⟩ (.int .i64 b.y)).setCell ⟨g, kk * 4 + 2, none⟩ (.int .i64 b.z)).setCell ⟨g, kk * 4 + 3, none⟩ b.v) g n c cur hs sm (kk + 1) (p + 1) (put4 cur' (kk * 4) (.int .i64 b.x) (.int .i64 b.y) (.int .i64 b.z) b.v) := by
  have e := dd_take sm hs hk hb ha
  rw [hs', if_neg (by decide)] at e
  have hsz := h.size
  refine ⟨⟨h.frame.os, h.frame.tape, h.frame.output, by simpa using h.frame.size, fun q hq hn => ?_, h.frame.drawn⟩, set1 (set1 (set1 (set1 h.block _ _) _ _) _ _) _ _, by rw [put4_size]; exact h.size, by rw [e, List.length_append, h.len]; rfl, by rw [e]; exact put4_take h.len h.take (by omega), fun j hj => ?_⟩
  · rw [Below.heap_setCell _ _ _ _ hn, Below.heap_setCell _ _ _ _ hn, Below.heap_setCell _ _ _ _ hn, Below.heap_setCell _ _ _ _ hn]
    exact h.frame.block q hq hn
  · rw [put4_out _ _ _ _ _ _ _ (.inr (by omega))]
    exact h.rest j (by omega)
theorem CompI.cellAt {W wr : World} {g n c : Nat} {cur cur' : Array Value} {hs : List HE} {sm : DHeap → DHeap → Bool} {kk p : Nat} (h : CompI W wr g n c cur hs sm kk p cur') {j : Nat} (hj : j < c * 4) : (wr.cell? ⟨g, j, none⟩).isSome = true := by
  have hs := h.size
  simp [World.cell?, h.block, Array.getElem?_eq_getElem (show j < cur'.size by omega)]
theorem CompI.freeAt {W wr : World} {g n c : Nat} {cur cur' : Array Value} {hs : List HE} {sm : DHeap → DHeap → Bool} {kk p : Nat} (h : CompI W wr g n c cur hs sm kk p cur') (j : Nat) : wr.frozen? ⟨g, j, none⟩ = false := by
  simp [World.frozen?, h.block]
theorem FrameL.then {T : Nat → Prop} {W w w' : World} (h : FrameL T W w) (h2 : FrameL T w w') : FrameL T W w' :=
  ⟨h2.os.trans h.os, h2.tape.trans h.tape, h2.output.trans h.output, Nat.le_trans h.size h2.size, fun k hk hn => (h2.block k (Nat.lt_of_lt_of_le hk h.size) hn).trans (h.block k hk hn), Nat.le_trans h.drawn h2.drawn⟩
abbrev zero35 : Array Value := #[.int .i64 0, .int .i64 0, .int .i64 0, .slice none 0 0]
theorem zeros_one (n : Nat) : (Builtin.zeroCells zero35 n).toList.length = n * 4 ∧ ∀ v ∈ (Builtin.zeroCells zero35 n).toList, v.oneCell' = true := by
  refine ⟨by simp [Builtin.zeroCells], fun v hv => ?_⟩
  simp only [Builtin.zeroCells, Array.toList_map, List.mem_map] at hv
  obtain ⟨i, _, rfl⟩ := hv
  have : i % 4 < 4 := Nat.mod_lt _ (by decide)
  show (zero35[i % 4]!).oneCell' = true
  generalize i % 4 = j at this
  match j, this with
  | 0, _ => rfl
  | 1, _ => rfl
  | 2, _ => rfl
  | 3, _ => rfl
theorem run_clear4 {ty : TypeId} (w : World) (g o n c : Nat) (hn : 0 < n) (hc : ∀ j, j < n * 4 → (w.cell? ⟨g, o + j, none⟩).isSome = true) (hf : ∀ j, j < n * 4 → w.frozen? ⟨g, o + j, none⟩ = false) :
 (Builtin.clear_ #[26] ty #[.slice (some ⟨g, o, none⟩) n c]).run Tryz.prog w = .ok (.tuple #[]) (w.setCells g o (Builtin.zeroCells zero35 n).toList) := by
  obtain ⟨hl, h1⟩ := zeros_one n
  have hst := run_storeCells_cells (P := Tryz.prog) g o (Builtin.zeroCells zero35 n).toList 0 w (by simpa [hl] using hc) (by simpa [hl] using hf) h1
  simp only [Nat.add_zero] at hst
  obtain ⟨m, rfl⟩ : ∃ m, n = m + 1 := ⟨n - 1, by omega⟩
  obtain ⟨i0, hi0, hz0, hz1, hz2⟩ := info_parts info35
  have hv : ∀ w, (zeroValue 29).run Tryz.prog w = .ok (.agg zero35) w := fun w => by simp [zeroValue, typeInfo, program, Sem.run, hi0, hz0]
  simp [Builtin.clear_, run_underlying Tryz.underlying26, hv, Value.cells, hst]
theorem setCells_block {g t : Nat} {fz : Nat × Nat} : ∀ (vs : List Value) (o : Nat) {w : World} {cur : Array Value}, w.heap[g]? = some (.cells cur t fz) → ∃ w9 cur9, w.setCells g o vs = w9 ∧ FrameL (fun q => q = g) w w9 ∧ w9.heap[g]? = some (.cells cur9 t fz) ∧ cur9.size = cur.size ∧ cur9.toList.take o = cur.toList.take o
  | [], o, w, cur, h => ⟨w, cur, rfl, FrameL.refl' _ _, h, rfl, rfl⟩
  | v :: r, o, w, cur, h => by
    obtain ⟨w9, cur9, e, f, b, s, t'⟩ := setCells_block r (o + 1) (set1 h o v)
    refine ⟨w9, cur9, by rw [World.setCells]; exact e, FrameL.then (w := w.setCell ⟨g, o, none⟩ v) ⟨rfl, rfl, rfl, by simp, fun q _ hn => Below.heap_setCell _ _ _ _ hn, Nat.le_refl _⟩ f, b, by rw [s]; simp, ?_⟩
    have := congrArg (List.take o) t'
    rw [List.take_take, List.take_take, show min o (o + 1) = o by omega] at this
    rw [this]
    apply List.ext_getElem?
    intro j
    rw [List.getElem?_take, List.getElem?_take]
    split
    · rw [Array.getElem?_toList, Array.getElem?_toList, Array.getElem?_setIfInBounds_ne (by omega)]
    · rfl
set_option maxHeartbeats 2000000 in
theorem compact_calls {W : World} {B : Nat} {v : Value} {hs : List HE} (h : DeepH W B 29 55 v hs) (hn : hs.length ≤ 100000) (sm : DHeap → DHeap → Bool) (hsm : ∀ a ∈ hs, ∀ b ∈ hs, P_Heap_same (a.heap, b.heap, ()) = some (sm a.heap b.heap, ())) :
 Calls Tryz.prog 91 #[v, .func (.func 92) #[] #[]] W fun e w' => ∃ v', e = .returned v' ∧ FrameL (fun q => v.ownBlock = some q) W w' ∧ DeepH w' B 29 55 v' (dd sm hs) := by
  rcases h.outer.2 with ⟨rfl, h0'⟩ | ⟨g, c, cur, rfl, hb, hg, hnc, hcm, hcs, htake⟩
  · have : hs = [] := List.length_eq_zero_iff.1 h0'
    subst this
    go_enter Tryz.func91, Tryz.ntmps91
    go_wp2
    go_ret
    exact ⟨_, rfl, FrameL.refl' _ _, h⟩
  · by_cases h2 : hs.length < 2
    · have h2' : ((hs.length : Int) < 2) := by omega
      go_enter Tryz.func91, Tryz.ntmps91
      go_wp2
      go_ret
      refine ⟨_, rfl, FrameL.refl' _ _, ?_⟩
      match hs, h2 with
      | [], _ => exact h
      | [a], _ => exact h
    · have h2' : ¬ ((hs.length : Int) < 2) := by omega
      go_enter Tryz.func91, Tryz.ntmps91
      go_wp2
      go_loopg [5] hs.length (fun m v5 wr => ∃ (k : Nat), 1 ≤ k ∧ k ≤ hs.length ∧ m = hs.length + 1 - k ∧ v5 = .int .i64 k ∧ CompI W wr g hs.length c cur hs sm k k cur)
      case atStart => exact ⟨1, Nat.le_refl _, by omega, by omega, rfl, CompI.start hg hcs htake (by omega)⟩
      case round =>
        obtain ⟨k, hk1, hk, rfl, rfl, hI⟩ := hrel
        by_cases hlt : k < hs.length
        · obtain ⟨b, hb'⟩ : ∃ b, hs[k]? = some b := ⟨hs[k], List.getElem?_eq_getElem hlt⟩
          obtain ⟨a, ha⟩ : ∃ a, hs[k - 1]? = some a := ⟨hs[k - 1], List.getElem?_eq_getElem (by omega)⟩
          have hltI : (k : Int) < (hs.length : Int) := by omega
          have hw1 : IntKind.i64.wrap ((k : Int) - 1) = ((k - 1 : Nat) : Int) := by rw [show ((k - 1 : Nat) : Int) = (k : Int) - 1 by omega]; exact IntWalk.i64_in _ (by omega)
          have hltP : ((k - 1 : Nat) : Int) < (hs.length : Int) := by omega
          obtain ⟨x0, x1, x2, x3⟩ := at_enc hI.block htake hlt hb'
          obtain ⟨y0, y1, y2, y3⟩ := at_enc hI.block htake (by omega) ha
          have hcall : ∀ V, Below wr.heap.size wr V → Calls Tryz.prog 92 #[.agg #[.int .i64 b.x, .int .i64 b.y, .int .i64 b.z, b.v], .agg #[.int .i64 a.x, .int .i64 a.y, .int .i64 a.z, a.v]] V fun e' w' => e' = .returned (.bool (sm b.heap a.heap)) ∧ Below wr.heap.size wr w' := fun V hbV => by
            refine (same_calls h sm hsm (V := V) (frameOf (hI.frame.below hbV)) (List.mem_of_getElem? hb') (List.mem_of_getElem? ha)).mono ?_
            rintro e w2 ⟨rfl, hb2⟩
            exact ⟨rfl, bThen hbV hb2⟩
          obtain ⟨s, hs'⟩ : ∃ s, sm b.heap a.heap = s := ⟨_, rfl⟩
          rw [hs'] at hcall
          go_wp2
          go_cut [28] from 18 to 28 (fun v28 wc => v28 = .bool s ∧ Below wr.heap.size wr wc)
          case first =>
            go_region_with (go_at_call 92; refine (hcall _ (by (repeat (first | exact Below.refl _ _ | apply belowD)))).mono ?_; rintro e w2 ⟨rfl, hl2⟩)
            all_goals (go_wp2_with fail; go_meet; exact ⟨rfl, hl2⟩)
          case rest =>
            obtain ⟨rfl, hbc⟩ := hcut
            have hI2 := hI.below hbc
            clear hcall x0 x1 x2 x3 y0 y1 y2 y3 hw1 hltP
            cases s
            · go_wp2
              go_roundg (hs.length + 1 - (k + 1))
              case measure => omega
              case rel => exact ⟨k + 1, by omega, by omega, rfl, by go_num, hI2.up hk1 hb' ha hs' htake hlt⟩
            · go_wp2
              clear hI
              go_loopg [5, 7] (hs.length - k) (fun m v5 v7 wr2 => ∃ (kk k2 : Nat) (cur' : Array Value), 1 ≤ k2 ∧ k + k2 ≤ hs.length ∧ kk < k + k2 ∧ m = hs.length + 1 - (k + k2) ∧ v5 = .int .i64 kk ∧ v7 = .int .i64 k2 ∧ CompI W wr2 g hs.length c cur hs sm kk (k + k2) cur')
              case atStart => exact ⟨k, 1, cur, Nat.le_refl _, by omega, by omega, by omega, rfl, rfl, hI2.drop hk1 hb' ha hs'⟩
              case round =>
                obtain ⟨kk, k2, cur', h21, hk2, hkk, rfl, rfl, rfl, hJ⟩ := hrel
                clear hI2
                by_cases hlt2 : k + k2 < hs.length
                · obtain ⟨b2, hb2'⟩ : ∃ b, hs[k + k2]? = some b := ⟨hs[k + k2], List.getElem?_eq_getElem hlt2⟩
                  obtain ⟨a2, ha2⟩ : ∃ a, hs[k + k2 - 1]? = some a := ⟨hs[k + k2 - 1], List.getElem?_eq_getElem (by omega)⟩
                  have hltI2 : (k2 : Int) < ((hs.length - k : Nat) : Int) := by omega
                  obtain ⟨x0, x1, x2, x3⟩ := hJ.high htake (by omega) hlt2 hb2'
                  obtain ⟨y0, y1, y2, y3⟩ := hJ.high htake (by omega) (by omega) ha2
                  rw [Nat.add_mul] at x0 x1 x2 x3
                  rw [show (k + k2 - 1) * 4 = k * 4 + (k2 - 1) * 4 by omega] at y0 y1 y2 y3
                  have hw1 : IntKind.i64.wrap ((k2 : Int) - 1) = ((k2 - 1 : Nat) : Int) := by rw [show ((k2 - 1 : Nat) : Int) = (k2 : Int) - 1 by omega]; exact IntWalk.i64_in _ (by omega)
                  have hltP : ((k2 - 1 : Nat) : Int) < ((hs.length - k : Nat) : Int) := by omega
                  have hcall : ∀ V, Below wr.heap.size wr V → Calls Tryz.prog 92 #[.agg #[.int .i64 b2.x, .int .i64 b2.y, .int .i64 b2.z, b2.v], .agg #[.int .i64 a2.x, .int .i64 a2.y, .int .i64 a2.z, a2.v]] V fun e' w' => e' = .returned (.bool (sm b2.heap a2.heap)) ∧ Below wr.heap.size wr w' := fun V hbV => by
                    refine (same_calls h sm hsm (V := V) (frameOf (hJ.frame.below hbV)) (List.mem_of_getElem? hb2') (List.mem_of_getElem? ha2)).mono ?_
                    rintro e w2 ⟨rfl, hb2⟩
                    exact ⟨rfl, bThen hbV hb2⟩
                  obtain ⟨s, hs2⟩ : ∃ s, sm b2.heap a2.heap = s := ⟨_, rfl⟩
                  rw [hs2] at hcall
                  go_wp2
                  go_cut [49] from 38 to 49 (fun v49 wc => v49 = .bool (!s) ∧ Below wr.heap.size wr wc)
                  case first =>
                    go_region_with (go_at_call 92; refine (hcall _ (by (repeat (first | exact Below.refl _ _ | apply belowD)))).mono ?_; rintro e w2 ⟨rfl, hl2⟩)
                    all_goals (go_wp2_with fail; go_meet; exact ⟨rfl, hl2⟩)
                  case rest =>
                    obtain ⟨rfl, hbc⟩ := hcut
                    have hJ2 := hJ.below hbc
                    clear hcall x0 x1 x2 x3 y0 y1 y2 y3 hw1 hltP hJ
                    cases s
                    · obtain ⟨x0, x1, x2, x3⟩ := hJ2.high htake (by omega) hlt2 hb2'
                      rw [Nat.add_mul] at x0 x1 x2 x3
                      have hkI : (kk : Int) < (hs.length : Int) := by omega
                      obtain ⟨ba, bl, bc, hbv⟩ : ∃ ba bl bc, b2.v = .slice ba bl bc := by
                        obtain ⟨x, y, e⟩ := (h.inner _ b2 hb2').slice1
                        exact ⟨x, _, y, e⟩
                      rw [hbv] at x3
                      obtain ⟨f0, f1, f2, f3⟩ := hJ2.free kk
                      obtain ⟨z0, z1, z2, z3⟩ := hJ2.low kk (by omega)
                      go_wp2
                      go_roundg (hs.length + 1 - (k + (k2 + 1)))
                      case measure => omega
                      case rel => exact ⟨kk + 1, k2 + 1, _, by omega, by omega, by omega, rfl, by go_num, by go_num, by rw [← hbv]; exact hJ2.store (by omega) hb2' ha2 hs2 hkk (by omega)⟩
                    · go_wp2
                      go_roundg (hs.length + 1 - (k + (k2 + 1)))
                      case measure => omega
                      case rel => exact ⟨kk, k2 + 1, cur', by omega, by omega, by omega, rfl, rfl, by go_num, hJ2.drop (by omega) hb2' ha2 hs2⟩
                · have he : k + k2 = hs.length := by omega
                  have hltI2 : ¬ ((k2 : Int) < ((hs.length - k : Nat) : Int)) := by omega
                  have hkI : (kk : Int) ≤ (hs.length : Int) := by omega
                  have hkc : (kk : Int) ≤ (c : Int) := by omega
                  have hJ3 := hJ
                  rw [he] at hJ3
                  have hcl := fun ty => run_clear4 (ty := ty) wr g (kk * 4) (hs.length - kk) (c - kk) (by omega) (fun j hj => hJ3.cellAt (by omega)) (fun j hj => hJ3.freeAt _)
                  obtain ⟨w9, cur9, hw9, hf9, hb9, hs9, ht9⟩ := setCells_block (Builtin.zeroCells zero35 (hs.length - kk)).toList (kk * 4) hJ3.block
                  rw [hw9] at hcl
                  clear hJ
                  go_wp2
                  go_ret
                  refine ⟨_, rfl, frameOf (hJ3.frame.then hf9), ?_⟩
                  have hfull : hs.take hs.length = hs := List.take_length
                  have hl := hJ3.len
                  have ht := hJ3.take
                  rw [hfull] at hl ht
                  refine h.perm (sub_places (dd_sub sm hs)) ⟨by rw [encs_len], .inr ⟨g, c, cur9, by rw [hl]; rfl, hb, hb9, by omega, hcm, by rw [hs9]; exact hJ3.size, ?_⟩⟩ fun i a q ha hq => ?_
                  · rw [hl, ← ht]
                    exact ht9
                  · exact (hJ3.frame.then hf9).block q ((h.inner i a ha).lt q hq).2 fun e => h.outer_ne (by decide) ha hq (by rw [e]; rfl)
        · have he : k = hs.length := by omega
          have hltI : ¬ ((k : Int) < (hs.length : Int)) := by omega
          go_wp2
          go_ret
          rw [he] at hI
          have hfull : hs.take hs.length = hs := List.take_length
          have hl := hI.len
          rw [hfull] at hl
          rw [(dd_sub sm hs).eq_of_length hl]
          refine ⟨_, rfl, frameOf hI.frame, h.perm ⟨id, fun _ _ _ _ e => e, fun _ _ e => e⟩ ⟨h.outer.1, .inr ⟨g, c, cur, rfl, hb, hI.block, hnc, hcm, hcs, htake⟩⟩ fun i a q ha hq => ?_⟩
          exact hI.frame.block q ((h.inner i a ha).lt q hq).2 fun e => h.outer_ne (by decide) ha hq (by rw [e]; rfl)
end Go.VI
namespace Go.VI
open Go.Proofs Go.RowKit
set_option maxRecDepth 100000
structure OrdOK (Pc : DHeap → Prop) (cmp : DHeap → DHeap → Int) (sm : DHeap → DHeap → Bool) : Prop where
  ceq : ∀ g h, Pc g → Pc h → P_impl_compareHeaps (g, h, ()) = some (cmp g h, ())
  irr : ∀ g, Pc g → ¬ cmp g g < 0
  tr : ∀ f g h, Pc f → Pc g → Pc h → cmp f g < 0 → cmp g h < 0 → cmp f h < 0
  ntr : ∀ f g h, Pc f → Pc g → Pc h → ¬ cmp f g < 0 → ¬ cmp g h < 0 → ¬ cmp f h < 0
  seq : ∀ g h, Pc g → Pc h → P_Heap_same (g, h, ()) = some (sm g h, ())
def SortedOf (cmp : DHeap → DHeap → Int) (sm : DHeap → DHeap → Bool) (hs hs2 : List HE) : Prop :=
  ∃ hs', hs'.Perm hs ∧ (∀ (i j : Nat) (a b : HE), i < j → hs'[i]? = some a → hs'[j]? = some b → ¬ cmp b.heap a.heap < 0) ∧ dd sm hs' = hs2
set_option maxHeartbeats 1000000 in
theorem sorted_calls {W : World} {B : Nat} {v : Value} {hs : List HE} {a0 : HE} (h : DeepH W B 29 55 v hs) (h0 : a0 ∈ hs) (hn : hs.length ≤ 100000) {Pc : DHeap → Prop} (hP : ∀ a ∈ hs, Pc a.heap) {cmp : DHeap → DHeap → Int} {sm : DHeap → DHeap → Bool} (O : OrdOK Pc cmp sm) :
 Calls Tryz.prog 44 #[v] W fun e w' => ∃ v' hs2, e = .returned v' ∧ FrameL (fun q => v.ownBlock = some q) W w' ∧ SortedOf cmp sm hs hs2 ∧ DeepH w' B 29 55 v' hs2 := by
  have hs1 := sort_calls h h0 (by omega) Pc hP cmp O.ceq O.irr O.tr O.ntr
  have hs2 : ∀ V hs', hs'.Perm hs → DeepH V B 29 55 v hs' → Calls Tryz.prog 91 #[v, .func (.func 92) #[] #[]] V fun e w' => ∃ v', e = .returned v' ∧ FrameL (fun q => v.ownBlock = some q) V w' ∧ DeepH w' B 29 55 v' (dd sm hs') := fun V hs' hp hd =>
    compact_calls hd (by rw [hp.length_eq]; exact hn) sm fun a ha b hb => O.seq _ _ (hP a (hp.mem_iff.1 ha)) (hP b (hp.mem_iff.1 hb))
  obtain ⟨va, vl, vc, hv⟩ : ∃ va vl vc, v = .slice va vl vc := by
    rcases h.outer.2 with ⟨rfl, _⟩ | ⟨g, c, cur, rfl, _⟩
    · exact ⟨none, 0, 0, rfl⟩
    · exact ⟨_, _, _, rfl⟩
  subst hv
  go_enter Tryz.func44, Tryz.ntmps44
  go_wp2_with (first
    | (go_at_call 90; refine hs1.mono ?_; rintro e w2 ⟨rfl, hf2, hs', hp, hso, hd2⟩; have hc2 := hs2 w2 hs' hp hd2)
    | (go_at_call 91; refine hc2.mono ?_; rintro e w3 ⟨v3, rfl, hf3, hd3⟩))
  go_ret
  exact ⟨_, _, rfl, hf2.then hf3, ⟨hs', hp, fun i j a b h1 h2 h3 => Int.not_lt.2 (hso i j a b h1 h2 h3), rfl⟩, hd3⟩
end Go.VI
namespace Go.VI
open Go.Proofs Go.RowKit
set_option maxRecDepth 100000
def enc3 (l : List DA3) : List Value := (l.map fun c => [Value.int .i64 c.1, .int .i64 c.2.1, .int .i64 c.2.2.1]).flatten
theorem enc3_len (l : List DA3) : (enc3 l).length = l.length * 3 := by
  induction l with
  | nil => rfl
  | cons a r ih => simp [enc3] at ih ⊢; omega
theorem enc3_append (a b : List DA3) : enc3 (a ++ b) = enc3 a ++ enc3 b := by simp [enc3]
theorem enc3_at {l : List DA3} {i : Nat} {c : DA3} (h : l[i]? = some c) (j : Nat) (hj : j < 3) : (enc3 l)[i * 3 + j]? = [Value.int .i64 c.1, .int .i64 c.2.1, .int .i64 c.2.2.1][j]? := by
  induction l generalizing i with
  | nil => simp at h
  | cons b r ih =>
    have e : enc3 (b :: r) = [Value.int .i64 b.1, .int .i64 b.2.1, .int .i64 b.2.2.1] ++ enc3 r := by simp [enc3]
    rw [e]
    cases i with
    | zero =>
      obtain rfl : b = c := by simpa using h
      rw [List.getElem?_append_left (by simp; omega)]
      simp
    | succ i =>
      rw [List.getElem?_append_right (by simp; omega)]
      have := ih (by simpa using h) (i := i)
      simpa [show (i + 1) * 3 + j - 3 = i * 3 + j by omega] using this
theorem enc3_one (l : List DA3) : ∀ u ∈ enc3 l, u.oneCell' = true := by
  intro u hu
  simp only [enc3, List.mem_flatten, List.mem_map] at hu
  obtain ⟨_, ⟨c, _, rfl⟩, hu⟩ := hu
  simp at hu
  rcases hu with rfl | rfl | rfl <;> rfl
theorem reps3 (Z : Nat → Prop) (w : World) : ∀ l : List DA3, RepsL Z w A3ty l (enc3 l)
  | [] => rfl
  | (a, b, c, ()) :: r => ⟨[.int .i64 a, .int .i64 b, .int .i64 c], enc3 r, by simp [enc3], repA3 a b c, reps3 Z w r⟩
theorem own3 {Z : Nat → Prop} {w : World} {B : Nat} {v : Value} {l : List DA3} (h : w.ownsRow B 55 3 v l.length (enc3 l)) : OwnV Z w B 55 A3ty v l :=
  ⟨by decide, enc3 l, OwnRow.of (t := A3ty) h, reps3 Z w l⟩
theorem read3 {Z : Nat → Prop} {W : World} {l : List DA3} {a : Addr} {n c : Nat} (h : RepI Z W (.sl A3ty) l [.slice (some a) n c]) : ∀ j u, (enc3 l)[j]? = some u → W.cell? (a.add j) = some u := by
  intro j u hu
  have hj : j < (enc3 l).length := by
    rcases Nat.lt_or_ge j (enc3 l).length with h' | h'
    · exact h'
    · rw [List.getElem?_eq_none h'] at hu; cases hu
  rw [enc3_len] at hj
  have hi : j / 3 < l.length := by omega
  have hm : j % 3 < 3 := Nat.mod_lt _ (by decide)
  have e := enc3_at (List.getElem?_eq_getElem hi) (j % 3) hm
  rw [show j / 3 * 3 + j % 3 = j by omega] at e
  obtain ⟨A, c', e', _, h1⟩ := h
  obtain ⟨rfl, _⟩ : some a = A ∧ n = l.length ∧ c = c' := by simpa using e'
  obtain ⟨a', ha, _, xs, hx, hc⟩ := h1 (j / 3) _ (List.getElem?_eq_getElem hi)
  obtain rfl := Option.some.inj ha
  obtain ⟨y1, y2, rfl, rfl, y3, y4, rfl, rfl, y5, y6, rfl, rfl, rfl⟩ := hx
  have := hc (j % 3) u (by rw [← hu, e]; rfl)
  rw [show j / 3 * A3ty.size + j % 3 = j by show j / 3 * 3 + j % 3 = j; omega] at this
  exact this
theorem info42 : (Tryz.prog.info? 55).map (fun i => (i.zero, i.size, i.bytes)) = some (some (.agg #[.int .i64 0, .int .i64 0, .int .i64 0]), 3, 24) := by kernel_rfl
set_option maxHeartbeats 1000000 in
theorem c_clone {Z : Nat → Prop} {W : World} {l : List DA3} {lv : Value} (h : RepI Z W (.sl A3ty) l [lv]) (_hz : ∀ g, Z g → g < W.heap.size) (hn : l.length ≤ 1000) :
 Calls Tryz.prog 41 #[lv] W fun e w' => ∃ x y, e = .returned (.slice x l.length y) ∧ Below W.heap.size W w' ∧ w'.ownsRow W.heap.size 55 3 (.slice x l.length y) l.length (enc3 l) := by
  have h' := h
  obtain ⟨A, c, e', hlc, h1⟩ := h'
  obtain rfl : lv = .slice A l.length c := by simpa using e'
  cases A with
  | none =>
    have hl : l = [] := by
      cases l with
      | nil => rfl
      | cons x r => obtain ⟨a, ha, _⟩ := h1 0 x rfl; cases ha
    subst hl
    have q33 : ∀ (w : World) (a : Option Addr) (n c n' c' : Nat), (binOp .eql 22 (.slice a n c) (.slice none n' c')).run Tryz.prog w = .ok (.bool a.isNone) w := fun w a n c n' c' => Lib.run_eql_slice_nil w 22 55 a n c n' c' Tryz.underlying22
    go_enter Tryz.func41, Tryz.ntmps41
    go_wp2
    go_ret
    exact ⟨_, _, rfl, Below.refl _ _, rfl, .inl ⟨rfl, rfl⟩⟩
  | some a =>
    have hc := read3 h
    have hc2 : ∀ j u, (enc3 l)[j]? = some u → (W.alloc (.cells #[] 55)).cell? (a.add j) = some u := fun j u hu => by
      have := hc j u hu
      have hlt : (a.add j).block < W.heap.size := by
        rcases Nat.lt_or_ge (a.add j).block W.heap.size with h' | h'
        · exact h'
        · simp [World.cell?, Array.getElem?_eq_none h'] at this
      rw [World.cell?_of_block (w := W) (Below.heap_alloc _ _ _ hlt)]
      exact this
    have hsrc : Go.Src Tryz.prog 3 22 (.slice (some a) l.length c) l.length (enc3 l) (W.alloc (.cells #[] 55)) := Go.Src.ofSlice _ Tryz.underlying22 a _ c _ (enc3_len l) hc2 (enc3_one l)
    have how : (W.alloc (.cells #[] 55)).ownsRow W.heap.size 55 3 (.slice (some ⟨W.heap.size, 0, none⟩) 0 0) 0 [] := ⟨rfl, .inr ⟨W.heap.size, 0, #[], rfl, Nat.le_refl _, alloc_at _ _, Nat.le_refl _, by decide, rfl, rfl⟩⟩
    obtain ⟨i0, hi0, hz0, hz1, hz2⟩ := info_parts info42
    have sA := alloc_size W (.cells #[] 55)
    clear hc hc2 h1 h
    have q33 : ∀ (w : World) (a : Option Addr) (n c n' c' : Nat), (binOp .eql 22 (.slice a n c) (.slice none n' c')).run Tryz.prog w = .ok (.bool a.isNone) w := fun w a n c n' c' => Lib.run_eql_slice_nil w 22 55 a n c n' c' Tryz.underlying22
    go_enter Tryz.func41, Tryz.ntmps41
    go_wp2_with (at_builtin; refine wpList_append_own2 _ rfl _ _ 22 22 rfl W.heap.size 55 i0 (.agg #[.int .i64 0, .int .i64 0, .int .i64 0]) 3 24 Tryz.underlying22 hi0 hz0 hz1 hz2 rfl _ 0 [] rfl how (.slice (some a) l.length c) l.length (enc3 l) rfl hsrc (by unfold maxLen; omega) (by omega) (by rw [sA]; omega) ?_; intro v' w6 hv' hgr' hp')
    go_ret
    rw [Nat.zero_add, List.nil_append] at hv'
    obtain ⟨x, y, rfl⟩ : ∃ x y, v' = .slice x l.length y := by
      rcases hv'.2 with ⟨rfl, h0⟩ | ⟨g, c, cur, rfl, _⟩
      · exact ⟨none, 0, by rw [h0]⟩
      · exact ⟨_, _, rfl⟩
    refine ⟨_, _, rfl, ((Below.refl W.heap.size W).alloc (Nat.le_refl _) _).grown hgr' (by omega) fun j hj => by
      have e : W.heap.size = j := Option.some.inj hj
      omega, hv'⟩
end Go.VI
namespace Go.VI
open Go.Proofs Go.RowKit
set_option maxRecDepth 100000
def a3V (c : DA3) : Value := .agg #[.int .i64 c.1, .int .i64 c.2.1, .int .i64 c.2.2.1]
section
variable {P : Program} {G : World → Prop} {f : FuncId} {fn : Func} {c : Code} {As : List ATy} {Z : Nat → Prop} {w : World} {xs : denA As} {vs : List Value}
theorem arrH_calls {F : denA As → Option (denL [(true, A3ty)])} (hs : Sound P G f ⟨As, [(true, A3ty)], [], F⟩)
 (hf : P.funcs[f]? = some fn) (hb : fn.body = some c) (hn : (fn.name == "runtime.NumGoroutine") = false) {r : DA3} (hG : G w) (hZ : ∀ g, Z g → g < w.heap.size) (hrel : RelArgs P G Z w As xs vs) (hF : F xs = some (r, ())) :
 Calls P f vs.toArray w fun e' w' => e' = .returned (a3V r) ∧ Below w.heap.size w w' := by
  refine (FCalls.calls (enter_run hf hb hn) (hs w Z vs xs (r, ()) hG hZ hrel hF)).mono ?_
  rintro e' w' ⟨v, rfl, Z', us, rfl, hbel, _, _, g, h1, h2, _⟩
  obtain ⟨k1, _, k3⟩ := h2 0 (true, [RCell.flat (.int .i64 r.1), RCell.flat (.int .i64 r.2.1), RCell.flat (.int .i64 r.2.2.1)]) rfl
  have a0 := (k3 0 _ rfl).2
  have a1 := (k3 1 _ rfl).2
  have a2 := (k3 2 _ rfl).2
  match us, h1, k1 with
  | [u], _, k1 =>
    have : u = mkVal true ((List.range 3).map (g 0)) := by simpa using k1
    refine ⟨?_, hbel⟩
    rw [this]
    show Ending.returned (.agg #[g 0 0, g 0 1, g 0 2]) = _
    rw [a0, a1, a2]
    rfl
  | [], h1, _ => cases h1
  | _ :: _ :: _, h1, _ => cases h1
end
theorem c_beyond {W : World} {c d : DA3} {i : Int} (hF : P_impl_beyond (c, i, ()) = some (d, ())) :
 Calls Tryz.prog 40 #[a3V c, .int .i64 i] W fun e' w' => e' = .returned (a3V d) ∧ Below W.heap.size W w' :=
  arrH_calls (fn := Tryz.f40) s_impl_beyond Tryz.func40 rfl (by kernel_rfl) (Z := fun _ => False) trivial (fun _ h => h.elim) (xs := (c, i, ())) (vs := [a3V c, .int .i64 i])
    ⟨_, _, rfl, (fun h => by cases h), repA3 c.1 c.2.1 c.2.2.1, _, _, rfl, (fun _ => rfl), rfl, rfl⟩ hF
theorem c_has {Z : Nat → Prop} {W : World} {l : List DA3} {lv : Value} {d : DA3} {b : Bool} (hz : ∀ g, Z g → g < W.heap.size) (h : RepI Z W (.sl A3ty) l [lv]) (hF : P_sCont3 (l, d, ()) = some (b, ())) :
 Calls Tryz.prog 39 #[lv, a3V d] W fun e' w' => e' = .returned (.bool b) ∧ Below W.heap.size W w' :=
  flatH_calls (fn := Tryz.f39) (r := (b, ())) s_sCont3 rfl Tryz.func39 rfl (by kernel_rfl) trivial hz (xs := (l, d, ())) (vs := [lv, a3V d])
    ⟨_, _, rfl, (fun _ => rfl), h, _, _, rfl, (fun h => by cases h), repA3 d.1 d.2.1 d.2.2.1, rfl⟩ hF
theorem c_hof {Z : Nat → Prop} {W : World} {l : List DA3} {lv : Value} {g : DHeap} (hz : ∀ g, Z g → g < W.heap.size) (h : RepI Z W (.sl A3ty) l [lv]) (hF : P_impl_heapOf (l, ()) = some (g, ())) :
 Calls Tryz.prog 42 #[lv] W fun e' w' => ∃ u, e' = .returned (hpV g u) ∧ Below W.heap.size W w' ∧ OwnV (fun _ => False) w' W.heap.size 55 A3ty u g.2.2.2.1 :=
  heapH_calls (fn := Tryz.f42) s_impl_heapOf Tryz.func42 rfl (by kernel_rfl) trivial hz (xs := (l, ())) (vs := [lv]) ⟨_, _, rfl, (fun _ => rfl), h, rfl⟩ hF
structure FormV where
  bey : DA3 → Nat → DA3
  has : List DA3 → DA3 → Bool
  hof : List DA3 → DHeap
  frm : DHeap → DHeap
def FormV.cand (V : FormV) (l : List DA3) (c : DA3) (f : Nat) : Option DHeap := if V.has l (V.bey c f) then none else some (V.frm (V.hof (l ++ [V.bey c f])))
def FormV.candC (V : FormV) (l : List DA3) (c : DA3) (n : Nat) : List DHeap := (List.range n).filterMap (V.cand l c)
def FormV.candH (V : FormV) (l : List DA3) (n : Nat) : List DHeap := (l.take n).flatMap fun c => V.candC l c 6
def FormV.cands (V : FormV) (L : List DHeap) : List DHeap := L.flatMap fun h => V.candH h.2.2.2.1 h.2.2.2.1.length
structure StepOK (V : FormV) (L : List DHeap) : Prop where
  small : L.length ≤ 10 ∧ ∀ h ∈ L, h.2.2.2.1.length ≤ 10
  bey : ∀ h ∈ L, ∀ c ∈ h.2.2.2.1, ∀ f : Nat, f < 6 → P_impl_beyond (c, (f : Int), ()) = some (V.bey c f, ())
  has : ∀ h ∈ L, ∀ c ∈ h.2.2.2.1, ∀ f : Nat, f < 6 → P_sCont3 (h.2.2.2.1, V.bey c f, ()) = some (V.has h.2.2.2.1 (V.bey c f), ())
  hof : ∀ h ∈ L, ∀ c ∈ h.2.2.2.1, ∀ f : Nat, f < 6 → V.has h.2.2.2.1 (V.bey c f) = false → P_impl_heapOf (h.2.2.2.1 ++ [V.bey c f], ()) = some (V.hof (h.2.2.2.1 ++ [V.bey c f]), ())
  frm : ∀ h ∈ L, ∀ c ∈ h.2.2.2.1, ∀ f : Nat, f < 6 → V.has h.2.2.2.1 (V.bey c f) = false → ∃ T gf cf bf cmp, FormOK (V.hof (h.2.2.2.1 ++ [V.bey c f])) T gf cf bf cmp ∧ formOf T.length cf cmp = V.frm (V.hof (h.2.2.2.1 ++ [V.bey c f]))
structure LoopF (W wr : World) (v : Value) (hs : List HE) (v19 : Value) (gs : List HE) (K : List (Nat × Obj)) : Prop where
  below : Below W.heap.size W wr
  deep : DeepH wr W.heap.size 29 55 v hs
  list : DeepH wr W.heap.size 29 55 v19 gs
  apart : ∀ g, v.ownBlock = some g → ¬ ZH v19 gs g
  boxes : ∀ b o, (b, o) ∈ K → W.heap.size ≤ b ∧ wr.heap[b]? = some o ∧ v.ownBlock ≠ some b
theorem LoopF.call {W wr w' : World} {v v19 : Value} {hs gs : List HE} {K : List (Nat × Obj)} (h : LoopF W wr v hs v19 gs K) (hb : Below wr.heap.size wr w') : LoopF W w' v hs v19 gs K :=
  ⟨bThen h.below hb, h.deep.below hb, h.list.below hb, h.apart, fun b o hm => ⟨(h.boxes b o hm).1, belowBlock (h.boxes b o hm).2.1 hb, (h.boxes b o hm).2.2⟩⟩
theorem LoopF.alloc {W wr : World} {v v19 : Value} {hs gs : List HE} {K : List (Nat × Obj)} (h : LoopF W wr v hs v19 gs K) (o : Obj) : LoopF W (wr.alloc o) v hs v19 gs ((wr.heap.size, o) :: K) := by
  have h2 := h.call (belowAlloc wr o)
  refine ⟨h2.below, h2.deep, h2.list, h2.apart, fun b o' hm => ?_⟩
  rcases List.mem_cons.1 hm with e | hm
  · obtain ⟨rfl, rfl⟩ : b = wr.heap.size ∧ o' = o := by simpa using e
    exact ⟨h.below.size, alloc_at _ _, fun e => by have := (h.deep.outer.lt _ e).2; omega⟩
  · exact h2.boxes b o' hm
theorem LoopF.less {W wr : World} {v v19 : Value} {hs gs : List HE} {K : List (Nat × Obj)} {x : Nat × Obj} (h : LoopF W wr v hs v19 gs (x :: K)) : LoopF W wr v hs v19 gs K :=
  ⟨h.below, h.deep, h.list, h.apart, fun b o hm => h.boxes b o (List.mem_cons_of_mem _ hm)⟩
theorem LoopF.push {W wr w3 w6 : World} {v v' v19 : Value} {hs gs : List HE} {K : List (Nat × Obj)} {a : HE} {o : Obj} (h : LoopF W wr v hs v19 gs K) (hb : Below wr.heap.size wr w3)
 (hu : OwnV (fun _ => False) w3 wr.heap.size 55 A3ty a.v a.cells) (hv : w6.ownsRow W.heap.size 29 4 v' (hs.length + 1) (encs hs ++ a.enc)) (hgr : GrownD (w3.alloc o) w6 v.ownBlock) (hp : v'.ownBlock = v.ownBlock ∨ v'.ownBlock = some (w3.alloc o).heap.size) :
 LoopF W w6 v' (hs ++ [a]) v19 gs K := by
  have s1 := h.below.size
  have s3 := hb.size
  have sa := alloc_size w3 o
  have hB := bThen h.below hb
  have keep : ∀ g, g < w3.heap.size → v.ownBlock ≠ some g → w6.heap[g]? = w3.heap[g]? := fun g hg hn => by
    rw [hgr.block g (by omega) (fun e => hn e.symm), Below.heap_alloc _ _ _ hg]
  have ol := h.deep.outer
  have hz : ∀ g, ZH v19 gs g → g < wr.heap.size := fun g hg => (ZH.lt h.list g hg).2
  refine ⟨(hB.alloc (by omega) o).grown hgr (by omega) fun j hj => by have := (ol.lt j hj).1; omega, h.deep.push (by decide) hb (by omega) hu hv hgr, ?_, fun g hg hZ => ?_, fun b o' hm => ?_⟩
  · have hl := h.list.below hb
    refine ⟨ownsRow_atH hl.outer fun g hg => keep g (hl.outer.lt g hg).2 fun e => h.apart g e (.inl hg), fun i x hx => ?_, hl.apart⟩
    have hi := hl.inner i x hx
    exact hi.mono (fun _ hz => hz) (fun _ hz => hz.elim) fun g hg => keep g (hi.lt g hg).2 fun e => h.apart g e (.inr ⟨x, List.mem_of_getElem? hx, hg⟩)
  · rcases hp with e | e
    · exact h.apart g (e ▸ hg) hZ
    · have := hz g hZ
      rw [e] at hg
      have : (w3.alloc o).heap.size = g := Option.some.inj hg
      omega
  · obtain ⟨b1, b2, b3⟩ := h.boxes b o' hm
    have hlt := lt_of_block b2
    refine ⟨b1, ?_, fun e' => ?_⟩
    · rw [keep b (by omega) b3]; exact belowBlock b2 hb
    · rcases hp with e | e
      · exact b3 (e ▸ e')
      · rw [e] at e'
        have : (w3.alloc o).heap.size = b := Option.some.inj e'
        omega
theorem src3 {w : World} {n : Nat} {a0 a1 a2 : Int} (h : w.heap[n]? = some (.cells #[.int .i64 a0, .int .i64 a1, .int .i64 a2] 55)) :
 Go.Src Tryz.prog 3 22 (.slice (some ⟨n, 0, none⟩) 1 1) 1 [.int .i64 a0, .int .i64 a1, .int .i64 a2] w := by
  refine Go.Src.ofSlice _ Tryz.underlying22 _ 1 1 _ rfl (fun j u hu => ?_) (fun u hu => ?_)
  · rw [Addr.add_lit, Nat.zero_add]
    match j, hu with
    | 0, hu => obtain rfl := Option.some.inj hu; simp [World.cell?, h]
    | 1, hu => obtain rfl := Option.some.inj hu; simp [World.cell?, h]
    | 2, hu => obtain rfl := Option.some.inj hu; simp [World.cell?, h]
  · simp only [List.mem_cons, List.not_mem_nil, or_false] at hu
    rcases hu with rfl | rfl | rfl <;> rfl
theorem after_app {w5 X w7 : World} {v : Value} {e : TypeId} {s n : Nat} {xs : List Value} (hB : Below w5.heap.size w5 X) (ho : X.ownsRow w5.heap.size e s v n xs) (hg : GrownD X w7 v.ownBlock) : Below w5.heap.size w5 w7 :=
  hB.grown hg hB.size fun j hj => (ho.lt j hj).1
end Go.VI
namespace Go.VI
open Go.Proofs Go.RowKit
set_option maxRecDepth 100000
end Go.VI
namespace Go.VI
open Go.Proofs Go.RowKit
set_option maxRecDepth 100000
end Go.VI
namespace Go.VI
open Go.Proofs Go.RowKit
set_option maxRecDepth 100000
theorem mark_rowH {w : World} {B : Nat} {u : Value} {l l2 : List D_A3} {k k2 : Int} (hu : OwnV (fun _ => False) w B 55 T_A3 u l) (hF : P_laws_markIntA3S (l, k, ()) = some ((k2, ()), (l2, ()))) :
 Calls Tryz.prog 46 #[u, .int .i64 k] w fun e w' => e = .returned (.int .i64 k2) ∧ FrameL (fun g => u.ownBlock = some g) w w' ∧ OwnV (fun _ => False) w' B 55 T_A3 u l2 := by
  have hs := s_laws_markIntA3S w (fun _ => False) [u, .int .i64 k] (l, k, ()) (k2, ()) (l2, ()) [.row u 55 T_A3] trivial (fun _ h => h.elim)
    ⟨[u], [.int .i64 k], [.row u 55 T_A3], [], rfl, (fun _ => rfl), rfl, ⟨55, u, rfl, rfl, rfl, OwnV.rebaseM hu fun g _ => Nat.zero_le g⟩, [.int .i64 k], [], rfl, (fun _ => rfl), rfl, rfl, rfl⟩
    ⟨fun g hg => by
      obtain ⟨it, hit, hb⟩ := hg
      obtain rfl : it = .row u 55 T_A3 := by simpa using hit
      exact ⟨fun hz => hz, (hu.lt g hb).2, Nat.zero_le _⟩, fun i j p q g hp hq _ _ => by
      match i, j, hp, hq with
      | 0, 0, _, _ => rfl⟩ hF
  refine (FCalls.calls (enter_run (fn := Tryz.f46) Tryz.func46 rfl (by kernel_rfl)) hs).mono ?_
  rintro e w' ⟨v, rfl, Z', us, rfl, hfr, _, _, hres, hout⟩
  have hus := resRel_flatH (R := [(false, .int .i64)]) rfl hres
  obtain ⟨l', ns', he, hown, _⟩ := hout
  have he' : (l' = l2 : Prop) := by
    have : [New.row T_A3 l2] = New.row T_A3 l' :: ns' := he
    simp at this
    exact this.1.symm
  subst he'
  refine ⟨by rw [hus]; rfl, ⟨hfr.os, hfr.tape, hfr.output, hfr.size, fun g hg hn => hfr.block g hg fun ⟨it, hit, hb⟩ => ?_, hfr.drawn⟩, ?_⟩
  · obtain rfl : it = .row u 55 T_A3 := by simpa using hit
    exact hn hb
  · exact (OwnV.rebaseM hown fun g hg => (hu.lt g hg).1).flat rfl
theorem DeepH.setE {w w2 : World} {B : Nat} {eo ei : TypeId} {v : Value} {hs : List HE} (h : DeepH w B eo ei v hs) (he : eo ≠ ei) {i : Nat} {a a' : HE} (ha : hs[i]? = some a) (hv : a'.v = a.v)
 (hf : FrameL (fun g => v.ownBlock = some g ∨ a.v.ownBlock = some g) w w2) (hn : OwnV (fun _ => False) w2 B ei A3ty a.v a'.cells) (ho : w2.ownsRow B eo 4 v hs.length (encs (hs.set i a'))) : DeepH w2 B eo ei v (hs.set i a') := by
  have hlt : i < hs.length := by
    rcases Nat.lt_or_ge i hs.length with h' | h'
    · exact h'
    · rw [List.getElem?_eq_none h'] at ha; cases ha
  have hat : ∀ (j : Nat) (b : HE), (hs.set i a')[j]? = some b → (j = i ∧ b = a') ∨ (j ≠ i ∧ hs[j]? = some b) := fun j b hb => by
    by_cases hij : i = j
    · subst hij
      rw [List.getElem?_set_self hlt] at hb
      exact .inl ⟨rfl, (Option.some.inj hb).symm⟩
    · rw [List.getElem?_set_ne hij] at hb
      exact .inr ⟨fun e => hij e.symm, hb⟩
  have hatv : ∀ (j : Nat) (b : HE), (hs.set i a')[j]? = some b → ∃ c, hs[j]? = some c ∧ c.v = b.v := fun j b hb => by
    rcases hat j b hb with ⟨rfl, rfl⟩ | ⟨_, hb⟩
    · exact ⟨a, ha, hv.symm⟩
    · exact ⟨b, hb, rfl⟩
  refine ⟨by rw [List.length_set]; exact ho, fun j b hb => ?_, fun j k b c g hb hc gb gc => ?_⟩
  · rcases hat j b hb with ⟨rfl, rfl⟩ | ⟨hji, hb⟩
    · rw [hv]; exact hn
    · have hi := h.inner j b hb
      exact hi.mono (fun _ hz => hz) (fun _ hz => hz.elim) fun g hg => hf.block g (hi.lt g hg).2 fun e => by
        rcases e with e | e
        · exact h.outer_ne he hb hg e
        · exact hji (h.apart j i b a g hb ha hg e)
  · obtain ⟨b', hb', eb⟩ := hatv j b hb
    obtain ⟨c', hc', ec⟩ := hatv k c hc
    exact h.apart j k b' c' g hb' hc' (eb ▸ gb) (ec ▸ gc)
theorem encs_set {hs : List HE} {i : Nat} {a a' : HE} (ha : hs[i]? = some a) (he : a'.enc = a.enc) : encs (hs.set i a') = encs hs := by
  have hlt : i < hs.length := by
    rcases Nat.lt_or_ge i hs.length with h' | h'
    · exact h'
    · rw [List.getElem?_eq_none h'] at ha; cases ha
  unfold encs
  congr 1
  apply List.ext_getElem?
  intro j
  rw [List.getElem?_map, List.getElem?_map]
  by_cases hij : i = j
  · subst hij
    rw [List.getElem?_set_self hlt, ha]
    simp [he]
  · rw [List.getElem?_set_ne hij]
end Go.VI
namespace Go.VI
open Go.Proofs Go.RowKit
set_option maxRecDepth 100000
abbrev up1 (k : Int) : Int := wrap64 (k + 1)
def mkH (k : Int) (l : List DA3) (v : Value) : HE := ⟨k, up1 k, up1 (up1 k), l, v⟩
def markedE (kf : Nat → Int) (lf : Nat → List DA3) (hs : List HE) : Nat → List HE
  | 0 => hs
  | i + 1 => match hs[i]? with
    | some a => (markedE kf lf hs i).set i (mkH (kf i) (lf i) a.v)
    | none => markedE kf lf hs i
theorem markedE_len (kf : Nat → Int) (lf : Nat → List DA3) (hs : List HE) : ∀ i, (markedE kf lf hs i).length = hs.length
  | 0 => rfl
  | i + 1 => by
    unfold markedE
    split
    · rw [List.length_set]; exact markedE_len kf lf hs i
    · exact markedE_len kf lf hs i
theorem markedE_at (kf : Nat → Int) (lf : Nat → List DA3) (hs : List HE) : ∀ i j, i ≤ j → (markedE kf lf hs i)[j]? = hs[j]?
  | 0, _, _ => rfl
  | i + 1, j, h => by
    unfold markedE
    split
    · rw [List.getElem?_set_ne (by omega)]; exact markedE_at kf lf hs i j (by omega)
    · exact markedE_at kf lf hs i j (by omega)
def markedH (kf : Nat → Int) (lf : Nat → List DA3) (hs : List DHeap) : Nat → List DHeap
  | 0 => hs
  | i + 1 => (markedH kf lf hs i).set i (kf i, up1 (kf i), up1 (up1 (kf i)), lf i, ())
theorem markedE_heap (kf : Nat → Int) (lf : Nat → List DA3) (hs : List HE) : ∀ i, i ≤ hs.length → (markedE kf lf hs i).map HE.heap = markedH kf lf (hs.map HE.heap) i
  | 0, _ => rfl
  | i + 1, h => by
    unfold markedE markedH
    rw [List.getElem?_eq_getElem (show i < hs.length by omega)]
    simp only [List.map_set]
    rw [markedE_heap kf lf hs i (by omega)]
    rfl
theorem put3_enc {cur : Array Value} {n i : Nat} {hs : List HE} (hl : hs.length = n) (ht : cur.toList.take (n * 4) = encs hs) (hs4 : n * 4 ≤ cur.size) {a : HE} (ha : hs[i]? = some a) (x y z : Int) :
 (((cur.setIfInBounds (i * 4) (.int .i64 x)).setIfInBounds (i * 4 + 1) (.int .i64 y)).setIfInBounds (i * 4 + 2) (.int .i64 z)).toList.take (n * 4) = encs (hs.set i ⟨x, y, z, a.cells, a.v⟩) := by
  have hi : i < hs.length := by
    rcases Nat.lt_or_ge i hs.length with h' | h'
    · exact h'
    · rw [List.getElem?_eq_none h'] at ha; cases ha
  apply List.ext_getElem?
  intro j
  rw [List.getElem?_take, Array.getElem?_toList]
  rcases Nat.lt_or_ge j (n * 4) with hj | hj
  · rw [if_pos hj]
    obtain ⟨q, r, hr, rfl⟩ : ∃ q r, r < 4 ∧ j = q * 4 + r := ⟨j / 4, j % 4, Nat.mod_lt _ (by decide), by omega⟩
    have hq : q < hs.length := by omega
    have hcur : cur[q * 4 + r]? = (encs hs)[q * 4 + r]? := by rw [← ht, List.getElem?_take, if_pos hj, Array.getElem?_toList]
    by_cases hqi : q = i
    · subst hqi
      rw [encs_at (a := ⟨x, y, z, a.cells, a.v⟩) (List.getElem?_set_self hi) r hr]
      have e3 := hcur
      rw [encs_at ha r hr] at e3
      have hsz : q * 4 + 3 < cur.size := by omega
      match r, hr with
      | 0, _ => rw [Array.getElem?_setIfInBounds_ne (by omega), Array.getElem?_setIfInBounds_ne (by omega)]; simp [show q * 4 < cur.size by omega, HE.enc]
      | 1, _ => rw [Array.getElem?_setIfInBounds_ne (by omega)]; simp [show q * 4 + 1 < cur.size by omega, HE.enc]
      | 2, _ => simp [show q * 4 + 2 < cur.size by omega, HE.enc]
      | 3, _ =>
        rw [Array.getElem?_setIfInBounds_ne (by omega), Array.getElem?_setIfInBounds_ne (by omega), Array.getElem?_setIfInBounds_ne (by omega), e3]
        rfl
    · have hb : (hs.set i ⟨x, y, z, a.cells, a.v⟩)[q]? = some hs[q] := by rw [List.getElem?_set_ne (fun e => hqi e.symm)]; exact List.getElem?_eq_getElem hq
      rw [encs_at hb r hr, Array.getElem?_setIfInBounds_ne (by omega), Array.getElem?_setIfInBounds_ne (by omega), Array.getElem?_setIfInBounds_ne (by omega), hcur, encs_at (List.getElem?_eq_getElem hq) r hr]
  · rw [if_neg (by omega), List.getElem?_eq_none (by rw [encs_len, List.length_set]; omega)]
theorem DeepH.mark3 {w : World} {B : Nat} {g n c : Nat} {hs : List HE} (h : DeepH w B 29 55 (.slice (some ⟨g, 0, none⟩) n c) hs) {i : Nat} {a : HE} (ha : hs[i]? = some a) (x y z : Int) :
 DeepH (((w.setCell ⟨g, i * 4, none⟩ (.int .i64 x)).setCell ⟨g, i * 4 + 1, none⟩ (.int .i64 y)).setCell ⟨g, i * 4 + 2, none⟩ (.int .i64 z)) B 29 55 (.slice (some ⟨g, 0, none⟩) n c) (hs.set i ⟨x, y, z, a.cells, a.v⟩) ∧
 FrameL (fun q => q = g) w (((w.setCell ⟨g, i * 4, none⟩ (.int .i64 x)).setCell ⟨g, i * 4 + 1, none⟩ (.int .i64 y)).setCell ⟨g, i * 4 + 2, none⟩ (.int .i64 z)) := by
  have hF : FrameL (fun q => q = g) w (((w.setCell ⟨g, i * 4, none⟩ (.int .i64 x)).setCell ⟨g, i * 4 + 1, none⟩ (.int .i64 y)).setCell ⟨g, i * 4 + 2, none⟩ (.int .i64 z)) :=
    ⟨rfl, rfl, rfl, by simp, fun q _ hn => by rw [Below.heap_setCell _ _ _ _ hn, Below.heap_setCell _ _ _ _ hn, Below.heap_setCell _ _ _ _ hn], Nat.le_refl _⟩
  refine ⟨h.setE (by decide) ha rfl (w2 := _) (⟨hF.os, hF.tape, hF.output, hF.size, fun q hq hn => hF.block q hq fun e => hn (.inl (by rw [e]; rfl)), hF.drawn⟩) ?_ ?_, hF⟩
  · have hi := h.inner i a ha
    exact hi.mono (fun _ hz => hz) (fun _ hz => hz.elim) fun q hq => hF.block q (hi.lt q hq).2 fun e => h.outer_ne (by decide) ha hq (by rw [e]; rfl)
  · obtain ⟨ho1, ho2⟩ := h.outer
    rcases ho2 with ⟨e, _⟩ | ⟨g', cap, cur, e, hb, hg, hnc, hcs, hcu, htk⟩
    · simp at e
    · obtain ⟨rfl, e2, rfl⟩ : g = g' ∧ n = hs.length ∧ c = cap := by simpa using e
      refine ⟨?_, .inr ⟨g, c, _, e, hb, set1 (set1 (set1 hg _ _) _ _) _ _, hnc, hcs, ?_, ?_⟩⟩
      · rw [encs_len, List.length_set]
      · simpa using hcu
      · exact put3_enc rfl htk (by rw [hcu]; exact Nat.mul_le_mul_right 4 hnc) ha x y z
set_option maxHeartbeats 2000000 in
theorem markS_calls {w : World} {B : Nat} {v : Value} {hs : List HE} (h : DeepH w B 29 55 v hs) (hn : hs.length ≤ 100000) (kf : Nat → Int) (lf : Nat → List DA3)
 (hm : ∀ i a, hs[i]? = some a → P_laws_markIntA3S (a.cells, up1 (up1 (up1 (kf i))), ()) = some ((kf (i + 1), ()), (lf i, ()))) :
 Calls Tryz.prog 12 #[v, .int .i64 (kf 0)] w fun e w' => e = .returned (.int .i64 (kf hs.length)) ∧ FrameL (ZH v hs) w w' ∧ DeepH w' B 29 55 v (markedE kf lf hs hs.length) := by
  obtain ⟨A, c, rfl⟩ : ∃ A c, v = .slice A hs.length c := by
    rcases h.outer.2 with ⟨rfl, h0⟩ | ⟨g, c, cur, rfl, _⟩
    · exact ⟨none, 0, by rw [h0]⟩
    · exact ⟨_, _, rfl⟩
  go_enter Tryz.func12, Tryz.ntmps12
  go_wp2
  go_loopg [1, 5] hs.length (fun m v1 v5 wr => ∃ i : Nat, i ≤ hs.length ∧ m = hs.length - i ∧ v1 = .int .i64 (kf i) ∧ v5 = .int .i64 i ∧ FrameL (ZH (.slice A hs.length c) hs) w wr ∧ DeepH wr B 29 55 (.slice A hs.length c) (markedE kf lf hs i))
  case atStart => exact ⟨0, Nat.zero_le _, rfl, rfl, rfl, FrameL.refl' _ _, h⟩
  case round =>
    obtain ⟨i, hi, rfl, rfl, rfl, hf, hd⟩ := hrel
    by_cases hin : i < hs.length
    · obtain ⟨a, ha⟩ : ∃ a, hs[i]? = some a := ⟨hs[i], List.getElem?_eq_getElem hin⟩
      have ha' : (markedE kf lf hs i)[i]? = some a := by rw [markedE_at kf lf hs i i (Nat.le_refl _)]; exact ha
      obtain ⟨g, c', hv, x0, x1, x2, x3⟩ := heap_cells hd ha'
      obtain ⟨hA, hc'⟩ : A = some ⟨g, 0, none⟩ ∧ c = c' := by simp only [Value.slice.injEq] at hv; exact ⟨hv.1, hv.2.2⟩
      clear hv
      subst hA
      subst hc'
      obtain ⟨ra, rc, hav⟩ : ∃ ra rc, a.v = .slice ra a.cells.length rc := by
        obtain ⟨x, y, e⟩ := (h.inner i a ha).slice1
        exact ⟨x, y, e⟩
      obtain ⟨cur, hblk⟩ := rowTag hd.outer (g := g) rfl
      have f0 : wr.frozen? ⟨g, i * 4, none⟩ = false := by simp [World.frozen?, hblk]
      have f1 : wr.frozen? ⟨g, i * 4 + 1, none⟩ = false := by simp [World.frozen?, hblk]
      have f2 : wr.frozen? ⟨g, i * 4 + 2, none⟩ = false := by simp [World.frozen?, hblk]
      have hlt : (i : Int) < (hs.length : Int) := by omega
      obtain ⟨hd3, hf3⟩ := hd.mark3 ha' (kf i) (up1 (kf i)) (up1 (up1 (kf i)))
      have hlen := markedE_len kf lf hs i
      have ha3 : ((markedE kf lf hs i).set i ⟨kf i, up1 (kf i), up1 (up1 (kf i)), a.cells, a.v⟩)[i]? = some ⟨kf i, up1 (kf i), up1 (up1 (kf i)), a.cells, a.v⟩ := List.getElem?_set_self (by omega)
      have hcall := mark_rowH (k := up1 (up1 (up1 (kf i)))) (hd3.inner i _ ha3) (hm i a ha)
      rw [hav] at x3
      simp only [hav] at hcall
      go_wp2_with (go_at_call 46; refine hcall.mono ?_; rintro e w2 ⟨rfl, hf2, ho2⟩)
      have hd4 := hd3.setE (by decide) ha3 (a' := mkH (kf i) (lf i) a.v) (w2 := w2) rfl ⟨hf2.os, hf2.tape, hf2.output, hf2.size, fun q hq hn => hf2.block q hq fun e => hn (.inr (by rw [hav]; exact e)), hf2.drawn⟩ (by rw [hav]; exact ho2) (by
        rw [encs_set (a' := mkH (kf i) (lf i) a.v) ha3 rfl]
        exact ownsRow_atH hd3.outer fun q hq => hf2.block q (hd3.outer.lt q hq).2 fun e => hd3.outer_ne (by decide) ha3 (by rw [hav]; exact e) hq)
      go_roundg (hs.length - (i + 1))
      case measure => omega
      case rel =>
        refine ⟨i + 1, by omega, rfl, rfl, by go_num, (hf.then ⟨hf3.os, hf3.tape, hf3.output, hf3.size, fun q hq hn => hf3.block q hq fun e => hn (.inl (by rw [e]; rfl)), hf3.drawn⟩).then ⟨hf2.os, hf2.tape, hf2.output, hf2.size, fun q hq hn => hf2.block q hq fun e => hn (.inr ⟨a, List.mem_of_getElem? ha, by rw [hav]; exact e⟩), hf2.drawn⟩, ?_⟩
        have e : markedE kf lf hs (i + 1) = (markedE kf lf hs i).set i (mkH (kf i) (lf i) a.v) := by rw [markedE, ha]
        rw [e]
        rw [List.set_set] at hd4
        exact hd4
    · obtain rfl : i = hs.length := by omega
      have hlt : ¬ ((hs.length : Int) < (hs.length : Int)) := by omega
      go_wp2
      go_ret
      exact ⟨rfl, hf, hd⟩
end Go.VI
namespace Go.VI
open Go.Proofs
theorem w64 {x : Int} (h0 : -9223372036854775808 ≤ x) (h1 : x ≤ 9223372036854775807) : IntKind.wrap .i64 x = x := by rw [IntKind.wrap_i64]; omega
theorem inB_at {k n : Nat} (h : k < n) : inB (k : Int) n = true := by simp [inB]; omega
theorem nthA {t : Ty} {l : List t.den} {k : Nat} (h : k < l.length) : nth t l (k : Int) = l[k] := by simp [nth, List.getD, List.getElem?_eq_getElem h]
theorem ltT {k n : Nat} (h : k < n) : decide ((k : Int) < (n : Int)) = true := decide_eq_true (by omega)
theorem ltF {k n : Nat} (h : ¬ k < n) : decide ((k : Int) < (n : Int)) = false := decide_eq_false (by omega)
theorem succI (k : Nat) (h : k < 1000000000) : IntKind.wrap .i64 ((k : Int) + 1) = ((k + 1 : Nat) : Int) := by rw [w64 (by omega) (by omega)]; omega
theorem drop_at {α : Type} (s : List α) (k : Nat) (h : k < s.length) : s.drop k = s[k] :: s.drop (k + 1) := List.drop_eq_getElem_cons h
def Small {α : Type} (l : List α) : Prop := l.length ≤ 1048576
theorem f_impl_within (a b c : Int) : P_impl_within (a, b, c, ()) = some (decide (b ≤ a) && decide (a ≤ c), ()) := by
  rw [p_impl_within]
  by_cases h : a ≥ b <;> simp [h]
theorem f_spec_l1In (a b c : Int) : P_spec_l1In (a, b, c, ()) = some (decide (b ≤ a) && decide (a ≤ c), ()) := by
  rw [p_spec_l1In]
  by_cases h : a ≥ b <;> simp [h]
def get3 (c : D_A3) (i : Int) : Int := bif decide (i = 0) then c.1 else (bif decide (i = 1) then c.2.1 else c.2.2.1)
def within3 (X Y Z : Int) (c : D_A3) : Bool := decide (0 ≤ c.1) && decide (c.1 ≤ X - 1) && (decide (0 ≤ c.2.1) && decide (c.2.1 ≤ Y - 1)) && (decide (0 ≤ c.2.2.1) && decide (c.2.2.1 ≤ Z - 1))
def ltC (a b : D_A3) : Bool := decide (a.1 < b.1) || (decide (a.1 = b.1) && (decide (a.2.1 < b.2.1) || (decide (a.2.1 = b.2.1) && decide (a.2.2.1 < b.2.2.1))))
def side (n : Int) : Bool := decide (1 ≤ n) && decide (n ≤ 4)
def sides (X Y Z : Int) : Bool := side X && side Y && side Z
theorem and3 (a b c : Bool) : (bif a then bif b then some (c, ()) else some (false, ()) else some (false, ())) = some (a && b && c, ()) := by cases a <;> cases b <;> rfl
theorem f_spec_l2Sides (X Y Z : Int) : P_spec_l2Sides (X, Y, Z, ()) = some (sides X Y Z, ()) := by
  simp only [p_spec_l2Sides, f_spec_l1In, Option.bind_some, and3, sides, side]
theorem f_box_valid (b : D_A3) : P_box_valid (b, ()) = some (sides b.1 b.2.1 b.2.2.1, ()) := by
  simp only [p_box_valid, f_impl_within, Option.bind_some, and3, sides, side]
theorem sides_iff {X Y Z : Int} : sides X Y Z = true ↔ (1 ≤ X ∧ X ≤ 4) ∧ (1 ≤ Y ∧ Y ≤ 4) ∧ (1 ≤ Z ∧ Z ≤ 4) := by
  simp [sides, side, and_assoc]
theorem f_spec_l2In (h : D_Heap) (c : D_A3) (hs : sides h.1 h.2.1 h.2.2.1 = true) : P_spec_l2In (h, c, ()) = some (within3 h.1 h.2.1 h.2.2.1 c, ()) := by
  obtain ⟨h1, h2, h3⟩ := sides_iff.1 hs
  simp only [p_spec_l2In, f_spec_l1In, Option.bind_some, and3, within3]
  rw [w64 (by omega) (by omega), w64 (by omega) (by omega), w64 (by omega) (by omega)]
theorem f_box_has (b : D_A3) (c : D_A3) (hs : sides b.1 b.2.1 b.2.2.1 = true) : P_box_has (b, c, ()) = some (within3 b.1 b.2.1 b.2.2.1 c, ()) := by
  obtain ⟨h1, h2, h3⟩ := sides_iff.1 hs
  simp only [p_box_has, f_impl_within, Option.bind_some, and3, within3]
  rw [w64 (by omega) (by omega), w64 (by omega) (by omega), w64 (by omega) (by omega)]
theorem f_Heap_box (h : D_Heap) : P_Heap_box (h, ()) = some ((h.1, h.2.1, h.2.2.1, ()), ()) := p_Heap_box h
theorem N_eq : N = (N - 4) + 4 := by have := N_ge; omega
theorem f_spec_l2Before (a b : D_A3) : P_spec_l2Before (a, b, ()) = some (ltC a b, ()) := by
  rw [p_spec_l2Before, N_eq, q_spec_l2Before_2]
  by_cases h1 : a.1 = b.1
  · have w1 : IntKind.wrap .i64 ((0 : Int) + 1) = 1 := by rw [w64] <;> omega
    simp only [h1, w1]
    rw [q_spec_l2Before_2]
    by_cases h2 : a.2.1 = b.2.1
    · have w2 : IntKind.wrap .i64 ((1 : Int) + 1) = 2 := by rw [w64] <;> omega
      simp only [h2, w2]
      rw [q_spec_l2Before_2]
      by_cases h3 : a.2.2.1 = b.2.2.1
      · have w3 : IntKind.wrap .i64 ((2 : Int) + 1) = 3 := by rw [w64] <;> omega
        simp only [h3, w3]
        rw [q_spec_l2Before_2]
        simp [inB, ltC, h1, h2, h3]
      · simp [inB, ltC, h1, h2, h3]
    · simp [inB, ltC, h1, h2]
  · simp [inB, ltC, h1]
theorem f_cmp (a b : Int) : P_cmp_Compare_int (a, b, ()) = some (if a < b then -1 else if b < a then 1 else 0, ()) := by
  have hn : ∀ x : Int, P_cmp_isNaN_int (x, ()) = some (false, ()) := fun x => by rw [p_cmp_isNaN_int]; simp
  rw [p_cmp_Compare_int]
  simp only [hn, Option.bind_some, cond_false]
  by_cases h1 : a < b
  · simp [h1]
  · by_cases h2 : b < a <;> simp [h1, h2]
def cmpC (a b : D_A3) : Int := if a.1 < b.1 then -1 else if b.1 < a.1 then 1 else if a.2.1 < b.2.1 then -1 else if b.2.1 < a.2.1 then 1 else if a.2.2.1 < b.2.2.1 then -1 else if b.2.2.1 < a.2.2.1 then 1 else 0
theorem f_impl_compareCells (a b : D_A3) : P_impl_compareCells (a, b, ()) = some (cmpC a b, ()) := by
  have n0 : ∀ x y z : Int, nth (.int .i64) [x, y, z] 0 = x := fun _ _ _ => rfl
  have n1 : ∀ x y z : Int, nth (.int .i64) [x, y, z] 1 = y := fun _ _ _ => rfl
  have n2 : ∀ x y z : Int, nth (.int .i64) [x, y, z] 2 = z := fun _ _ _ => rfl
  have w1 : IntKind.wrap .i64 ((0 : Int) + 1) = 1 := by rw [w64] <;> omega
  have w2 : IntKind.wrap .i64 ((1 : Int) + 1) = 2 := by rw [w64] <;> omega
  have w3 : IntKind.wrap .i64 ((2 : Int) + 1) = 3 := by rw [w64] <;> omega
  rw [p_impl_compareCells, p_slices_Compare_int_int, N_eq, q_slices_Compare_int_int_2]
  simp only [f_cmp, n0, List.length_cons, List.length_nil, Option.bind_some]
  by_cases h1 : a.1 = b.1
  · rw [w1, q_slices_Compare_int_int_2]
    simp only [f_cmp, n1, List.length_cons, List.length_nil, Option.bind_some]
    by_cases h2 : a.2.1 = b.2.1
    · rw [w2, q_slices_Compare_int_int_2]
      simp only [f_cmp, n2, List.length_cons, List.length_nil, Option.bind_some]
      by_cases h3 : a.2.2.1 = b.2.2.1
      · rw [w3, q_slices_Compare_int_int_2]
        simp [inB, cmpC, h1, h2, h3]
      · rcases Int.lt_or_gt_of_ne h3 with h | h
        · simp [inB, cmpC, h1, h2, h]
        · have h' : ¬ a.2.2.1 < b.2.2.1 := by omega
          simp [inB, cmpC, h1, h2, h, h']
    · rcases Int.lt_or_gt_of_ne h2 with h | h
      · simp [inB, cmpC, h1, h]
      · have h' : ¬ a.2.1 < b.2.1 := by omega
        simp [inB, cmpC, h1, h, h']
  · rcases Int.lt_or_gt_of_ne h1 with h | h
    · simp [inB, cmpC, h]
    · have h' : ¬ a.1 < b.1 := by omega
      simp [inB, cmpC, h, h']
theorem cmpC_lt (a b : D_A3) : decide (cmpC a b ≥ 0) = !ltC a b := by
  unfold cmpC ltC
  by_cases h1 : a.1 < b.1
  · simp [h1]
  · by_cases h1' : b.1 < a.1
    · have e : ¬ a.1 = b.1 := by omega
      simp [h1, h1', e]
    · have e : a.1 = b.1 := by omega
      by_cases h2 : a.2.1 < b.2.1
      · simp [e, h2]
      · by_cases h2' : b.2.1 < a.2.1
        · have e2 : ¬ a.2.1 = b.2.1 := by omega
          simp [e, h2, h2', e2]
        · have e2 : a.2.1 = b.2.1 := by omega
          by_cases h3 : a.2.2.1 < b.2.2.1
          · simp [e, e2, h3]
          · by_cases h3' : b.2.2.1 < a.2.2.1
            · simp [e, e2, h3, h3']
            · simp [e, e2, h3, h3']
def okTail (X Y Z : Int) : Option D_A3 → List D_A3 → Bool
  | _, [] => true
  | p, c :: r => within3 X Y Z c && (match p with | none => true | some q => ltC q c) && okTail X Y Z (some c) r
def okHeap (h : D_Heap) : Bool := sides h.1 h.2.1 h.2.2.1 && okTail h.1 h.2.1 h.2.2.1 none h.2.2.2.1
def prevAt (l : List D_A3) (k : Nat) : Option D_A3 := if k = 0 then none else l[k - 1]?
theorem predI {k : Nat} (h0 : 0 < k) (h : k < 1000000000) : IntKind.wrap .i64 ((k : Int) - 1) = ((k - 1 : Nat) : Int) := by rw [w64 (by omega) (by omega)]; omega
theorem l_spec_l2Heap (X Y Z : Int) (l : List D_A3) (hs : sides X Y Z = true) (hl : Small l) : ∀ (d k m : Nat), l.length = k + d → d < m → l_spec_l2Heap_4 m X Y Z l (k : Int) = some (okTail X Y Z (prevAt l k) (l.drop k), ())
  | d, k, 0, hk, hm => by omega
  | d, k, m + 1, hk, hm => by
    unfold Small at hl
    rw [q_spec_l2Heap_4]
    by_cases hlt : k < l.length
    · have ih := l_spec_l2Heap X Y Z l hs hl (d - 1) (k + 1) m (by omega) (by omega)
      have hp : prevAt l (k + 1) = some l[k] := by simp [prevAt, List.getElem?_eq_getElem hlt]
      rw [hp] at ih
      rw [succI k (by omega), ih, drop_at l k hlt, ltT hlt, inB_at hlt, nthA (t := T_A3) hlt, f_spec_l2In _ _ hs]
      simp only [cond_true, Option.bind_some, okTail]
      cases within3 X Y Z l[k] with
      | false => simp
      | true =>
        by_cases h0 : k = 0
        · subst h0
          simp [prevAt]
        · have hk1 : k - 1 < l.length := by omega
          have hpos : decide ((k : Int) > 0) = true := decide_eq_true (by omega)
          rw [hpos, predI (by omega) (by omega), inB_at hk1, nthA (t := T_A3) hk1, f_spec_l2Before]
          simp only [prevAt, h0, if_false, List.getElem?_eq_getElem hk1, cond_true, Option.bind_some, Bool.not_true, cond_false]
          cases ltC l[k - 1] l[k] <;> simp
    · rw [ltF hlt, List.drop_eq_nil_of_le (by omega)]
      simp [okTail]
theorem f_spec_l2Heap (h : D_Heap) (hl : Small h.2.2.2.1) : P_spec_l2Heap (h, ()) = some (okHeap h, ()) := by
  rw [p_spec_l2Heap, f_spec_l2Sides]
  unfold okHeap
  cases hs : sides h.1 h.2.1 h.2.2.1 with
  | false => simp
  | true =>
    have := l_spec_l2Heap _ _ _ h.2.2.2.1 hs hl h.2.2.2.1.length 0 N (by simp) (by unfold Small at hl; have := N_ge; omega)
    simp only [Int.natCast_zero, List.drop_zero, prevAt, if_true] at this
    simp [this]
theorem l_impl_IsHeap (X Y Z : Int) (l : List D_A3) (hs : sides X Y Z = true) (hl : Small l) : ∀ (d k m : Nat), l.length = k + d → d < m → l_impl_IsHeap_4 m X Y Z l l (l.length : Int) (k : Int) = some (okTail X Y Z (prevAt l k) (l.drop k), ())
  | d, k, 0, hk, hm => by omega
  | d, k, m + 1, hk, hm => by
    unfold Small at hl
    rw [q_impl_IsHeap_4]
    by_cases hlt : k < l.length
    · have ih := l_impl_IsHeap X Y Z l hs hl (d - 1) (k + 1) m (by omega) (by omega)
      have hp : prevAt l (k + 1) = some l[k] := by simp [prevAt, List.getElem?_eq_getElem hlt]
      rw [hp] at ih
      rw [succI k (by omega), ih, drop_at l k hlt, ltT hlt, inB_at hlt, nthA (t := T_A3) hlt, f_Heap_box]
      simp only [cond_true, Option.bind_some]
      rw [f_box_has _ _ hs]
      simp only [cond_true, Option.bind_some, okTail]
      cases within3 X Y Z l[k] with
      | false => simp
      | true =>
        by_cases h0 : k = 0
        · subst h0
          simp [prevAt]
        · have hk1 : k - 1 < l.length := by omega
          have hpos : decide ((k : Int) > 0) = true := decide_eq_true (by omega)
          rw [hpos, predI (by omega) (by omega), inB_at hk1, nthA (t := T_A3) hk1, f_impl_compareCells]
          simp only [prevAt, h0, if_false, List.getElem?_eq_getElem hk1, cond_true, Option.bind_some, Bool.not_true, cond_false, cmpC_lt]
          cases ltC l[k - 1] l[k] <;> simp
    · rw [ltF hlt, List.drop_eq_nil_of_le (by omega)]
      simp [okTail]
theorem f_impl_IsHeap (h : D_Heap) (hl : Small h.2.2.2.1) : P_impl_IsHeap (h, ()) = some (okHeap h, ()) := by
  rw [p_impl_IsHeap, f_Heap_box]
  simp only [Option.bind_some]
  rw [f_box_valid]
  unfold okHeap
  cases hs : sides h.1 h.2.1 h.2.2.1 with
  | false => simp [hs]
  | true =>
    have := l_impl_IsHeap _ _ _ h.2.2.2.1 hs hl h.2.2.2.1.length 0 N (by simp) (by unfold Small at hl; have := N_ge; omega)
    simp only [Int.natCast_zero, List.drop_zero, prevAt, if_true] at this
    simp [this, hs]
end Go.VI
namespace Go.VI
open Go.Proofs
theorem f_szIntA3S (l : List D_A3) (left : Int) (h0 : 0 ≤ left) (h1 : left ≤ 1048576) (hl : l.length ≤ 9223372036854775807) : ∃ z, P_laws_szIntA3S (l, left, ()) = some (z, ()) ∧ z ≤ left ∧ (z < 0 ∨ (z = left - l.length ∧ (l.length : Int) ≤ left)) := by
  rw [p_laws_szIntA3S, w64 (by omega) (by omega)]
  by_cases h : left - (l.length : Int) < 0
  · exact ⟨-1, by simp [h], by omega, .inl (by omega)⟩
  · exact ⟨left - l.length, by simp [h], by omega, .inr ⟨rfl, by omega⟩⟩
theorem one64 : IntKind.wrap .i64 ((0 : Int) + 1) = 1 := by rw [w64] <;> omega
theorem two64 : IntKind.wrap .i64 ((1 : Int) + 1) = 2 := by rw [w64] <;> omega
theorem three64 : IntKind.wrap .i64 ((2 : Int) + 1) = 3 := by rw [w64] <;> omega
theorem f_toIntA3 (c : D_A3) : P_laws_toIntA3 (c, ()) = some (c, ()) := by
  rw [p_laws_toIntA3, N_eq, q_laws_toIntA3_3, one64]
  simp only [inB, decide_true, Bool.and_self, cond_true]
  rw [q_laws_toIntA3_3, two64, q_laws_toIntA3_3, three64, q_laws_toIntA3_3]
  simp [inB]
theorem set_take {α : Type} (l acc : List α) (k : Nat) (h : k < l.length) (ha : acc.length = l.length) (ht : acc.take k = l.take k) : (acc.set k l[k]).take (k + 1) = l.take (k + 1) := by
  apply List.ext_getElem?
  intro i
  rw [List.getElem?_take, List.getElem?_take]
  by_cases hi : i < k + 1
  · rw [if_pos hi, if_pos hi, List.getElem?_set]
    by_cases hik : k = i
    · subst hik
      simp [ha, h]
    · rw [if_neg hik]
      have := congrArg (fun z => z[i]?) ht
      simpa [List.getElem?_take, show i < k by omega] using this
  · rw [if_neg hi, if_neg hi]
theorem l_toIntA3S (l : List D_A3) (hl : Small l) : ∀ (d k m : Nat) (acc : List D_A3), l.length = k + d → d < m → acc.length = l.length → acc.take k = l.take k → l_laws_toIntA3S_3 m l acc (k : Int) = some (l, ())
  | d, k, 0, acc, hk, hm, ha, ht => by omega
  | d, k, m + 1, acc, hk, hm, ha, ht => by
    unfold Small at hl
    rw [q_laws_toIntA3S_3]
    by_cases hlt : k < l.length
    · rw [ltT hlt, inB_at hlt, nthA (t := T_A3) hlt, f_toIntA3, inB_at (by omega), succI k (by omega)]
      simp only [cond_true, Option.bind_some, Int.toNat_natCast]
      exact l_toIntA3S l hl (d - 1) (k + 1) m _ (by omega) (by omega) (by simp [ha]) (set_take l acc k hlt ha ht)
    · rw [ltF hlt]
      rw [List.take_of_length_le (by omega), List.take_of_length_le (by omega)] at ht
      simp [ht]
theorem f_toIntA3S (l : List D_A3) (hl : Small l) : P_laws_toIntA3S (l, ()) = some (l, ()) := by
  have := l_toIntA3S l hl l.length 0 N (List.replicate l.length (Ty.dflt T_A3)) (by simp) (by unfold Small at hl; have := N_ge; omega) (by simp) (by simp)
  unfold Small at hl
  have h1 : ((l.length : Int)) * ((24 : Nat) : Int) ≤ 140737488355328 := by omega
  have h2 : (l.length : Int) ≤ 140737488355328 := by omega
  have h0 : (0 : Int) ≤ (l.length : Int) := by omega
  rw [p_laws_toIntA3S]
  simp only [h0, h2, Int.le_refl, decide_true, Bool.and_self, Bool.true_and, Bool.and_true, decide_eq_true h1, cond_true, Int.toNat_natCast]
  exact this
theorem f_toHeap (h : D_Heap) (hl : Small h.2.2.2.1) : P_laws_toHeap (h, ()) = some (h, ()) := by
  rw [p_laws_toHeap, f_toIntA3S _ hl]; rfl
theorem f_eqIntA3 (c : D_A3) : P_laws_eqIntA3 (c, c, ()) = some (true, ()) := by
  rw [p_laws_eqIntA3, N_eq, q_laws_eqIntA3_2, one64, q_laws_eqIntA3_2, two64, q_laws_eqIntA3_2, three64, q_laws_eqIntA3_2]
  simp [inB]
theorem l_eqIntA3S (l : List D_A3) (hl : Small l) : ∀ (d k m : Nat), l.length = k + d → d < m → l_laws_eqIntA3S_4 m l l (k : Int) = some (true, ())
  | d, k, 0, hk, hm => by omega
  | d, k, m + 1, hk, hm => by
    unfold Small at hl
    rw [q_laws_eqIntA3S_4]
    by_cases hlt : k < l.length
    · rw [ltT hlt, inB_at hlt, nthA (t := T_A3) hlt, f_eqIntA3, succI k (by omega), l_eqIntA3S l hl (d - 1) (k + 1) m (by omega) (by omega)]
      simp
    · rw [ltF hlt]; rfl
theorem f_eqIntA3S (l : List D_A3) (hl : Small l) : P_laws_eqIntA3S (l, l, ()) = some (true, ()) := by
  have := l_eqIntA3S l hl l.length 0 N (by simp) (by unfold Small at hl; have := N_ge; omega)
  rw [p_laws_eqIntA3S]
  simp only [decide_true, Bool.not_true, cond_false]
  exact this
theorem f_eqHeap (h : D_Heap) (hl : Small h.2.2.2.1) : P_laws_eqHeap (h, h, ()) = some (true, ()) := by
  rw [p_laws_eqHeap, f_eqIntA3S _ hl]; simp
def marked : List D_A3 → Int → List D_A3
  | [], _ => []
  | _ :: r, k => (k, k + 1, k + 2, ()) :: marked r (k + 3)
theorem marked_length : ∀ (l : List D_A3) (k : Int), (marked l k).length = l.length
  | [], _ => rfl
  | _ :: r, k => by simp [marked, marked_length r]
theorem marked_at : ∀ (l : List D_A3) (k : Int) (i : Nat) (h : i < (marked l k).length), (marked l k)[i] = (k + 3 * i, k + 3 * i + 1, k + 3 * i + 2, ())
  | [], k, i, h => by simp [marked] at h
  | _ :: r, k, 0, h => by simp [marked]
  | _ :: r, k, i + 1, h => by
    have := marked_at r (k + 3) i (by simpa [marked] using h)
    simp only [marked, List.getElem_cons_succ, this]
    simp only [Prod.mk.injEq, and_true]
    omega
theorem l_mark5 (m0 : Nat) (l : List D_A3) (k : Int) (i : Nat) (hi : i < l.length) (h0 : 0 ≤ k) (h1 : k ≤ 100000000) (h2 : i < 100000000) :
 l_laws_markIntA3S_5 m0 N l k (i : Int) 0 = l_laws_markIntA3S_2 m0 (l.set i (k, k + 1, k + 2, ())) (k + 3) ((i + 1 : Nat) : Int) := by
  have hn : ∀ x : D_A3, nth T_A3 (l.set i x) (i : Int) = x := fun x => by rw [nthA (t := T_A3) (by simpa using hi)]; simp
  rw [N_eq, q_laws_markIntA3S_5, one64, w64 (x := k + 1) (by omega) (by omega)]
  simp only [inB_at hi, show inB 0 3 = true from rfl, show decide ((0 : Int) < 3) = true from rfl, cond_true, Int.toNat_natCast]
  rw [q_laws_markIntA3S_5, two64, w64 (x := k + 1 + 1) (by omega) (by omega)]
  simp only [hn, List.length_set, inB_at hi, show inB 1 3 = true from rfl, show decide ((1 : Int) < 3) = true from rfl, cond_true, Int.toNat_natCast, List.set_set]
  rw [q_laws_markIntA3S_5, three64, w64 (x := k + 1 + 1 + 1) (by omega) (by omega)]
  simp only [hn, List.length_set, inB_at hi, show inB 2 3 = true from rfl, show decide ((2 : Int) < 3) = true from rfl, cond_true, Int.toNat_natCast, List.set_set]
  rw [q_laws_markIntA3S_5, succI i (by omega), show k + 1 + 1 + 1 = k + 3 by omega, show k + 1 + 1 = k + 2 by omega]
  simp
theorem l_mark2 (l : List D_A3) (k : Int) (hl : Small l) (h0 : 0 ≤ k) (h1 : k ≤ 10000000) : ∀ (d i m : Nat) (acc : List D_A3), l.length = i + d → d < m → acc.length = l.length → acc.take i = (marked l k).take i →
 l_laws_markIntA3S_2 m acc (k + 3 * i) (i : Int) = some ((k + 3 * l.length, ()), (marked l k, ()))
  | d, i, 0, acc, hk, hm, ha, ht => by omega
  | d, i, m + 1, acc, hk, hm, ha, ht => by
    unfold Small at hl
    have hml := marked_length l k
    rw [q_laws_markIntA3S_2]
    by_cases hlt : i < acc.length
    · rw [ltT hlt, l_mark5 m acc (k + 3 * i) i hlt (by omega) (by omega) (by omega)]
      simp only [cond_true]
      rw [show k + 3 * (i : Int) + 3 = k + 3 * ((i + 1 : Nat) : Int) by omega]
      refine l_mark2 l k hl h0 h1 (d - 1) (i + 1) m _ (by omega) (by omega) (by simp [ha]) ?_
      rw [← marked_at l k i (by omega)]
      exact set_take (marked l k) acc i (by omega) (by omega) ht
    · rw [ltF hlt]
      rw [List.take_of_length_le (by omega), List.take_of_length_le (by omega)] at ht
      have hil : i = l.length := by omega
      subst hil
      simp [ht]
theorem l_held5 (m0 : Nat) (l : List D_A3) (k : Int) (i : Nat) (hi : i < l.length) (hv : l[i] = (k, k + 1, k + 2, ())) (h0 : 0 ≤ k) (h1 : k ≤ 100000000) (h2 : i < 100000000) :
 l_laws_heldIntA3S_5 m0 N l k (i : Int) 0 = l_laws_heldIntA3S_2 m0 l (k + 3) ((i + 1 : Nat) : Int) := by
  rw [N_eq, q_laws_heldIntA3S_5, one64, w64 (x := k + 1) (by omega) (by omega), nthA (t := T_A3) hi, hv]
  simp only [inB_at hi, show inB 0 3 = true from rfl, show decide ((0 : Int) < 3) = true from rfl, cond_true, decide_true, Bool.not_true, cond_false]
  rw [q_laws_heldIntA3S_5, two64, w64 (x := k + 1 + 1) (by omega) (by omega), nthA (t := T_A3) hi, hv]
  simp only [inB_at hi, show inB 1 3 = true from rfl, show decide ((1 : Int) < 3) = true from rfl, show decide ((1 : Int) = 0) = false from rfl, cond_true, decide_true, Bool.not_true, cond_false]
  rw [q_laws_heldIntA3S_5, three64, w64 (x := k + 1 + 1 + 1) (by omega) (by omega), nthA (t := T_A3) hi, hv, show k + 1 + 1 = k + 2 by omega]
  simp only [inB_at hi, show inB 2 3 = true from rfl, show decide ((2 : Int) < 3) = true from rfl, show decide ((2 : Int) = 0) = false from rfl, show decide ((2 : Int) = 1) = false from rfl, cond_true, decide_true, Bool.not_true, cond_false]
  rw [q_laws_heldIntA3S_5, succI i (by omega), show k + 2 + 1 = k + 3 by omega]
  simp
theorem l_held2 (l : List D_A3) (k : Int) (hl : Small l) (h0 : 0 ≤ k) (h1 : k ≤ 10000000) : ∀ (d i m : Nat), l.length = i + d → d < m → l_laws_heldIntA3S_2 m (marked l k) (k + 3 * i) (i : Int) = some (k + 3 * l.length, ())
  | d, i, 0, hk, hm => by omega
  | d, i, m + 1, hk, hm => by
    unfold Small at hl
    have hml := marked_length l k
    rw [q_laws_heldIntA3S_2]
    by_cases hlt : i < (marked l k).length
    · rw [ltT hlt, l_held5 m (marked l k) (k + 3 * i) i hlt (marked_at l k i hlt) (by omega) (by omega) (by omega)]
      simp only [cond_true]
      rw [show k + 3 * (i : Int) + 3 = k + 3 * ((i + 1 : Nat) : Int) by omega]
      exact l_held2 l k hl h0 h1 (d - 1) (i + 1) m (by omega) (by omega)
    · rw [ltF hlt]
      have hil : i = l.length := by omega
      subst hil
      rfl
end Go.VI
namespace Go.VI
open Go.Proofs
theorem wu64 (n : Int) : IntKind.wrap .u64 n = n % 18446744073709551616 := by simp [IntKind.wrap, IntKind.bits, IntKind.signed]
theorem u64wrap (v : BitVec 64) : IntKind.wrap .u64 (v.toNat : Int) = (v.toNat : Int) := by
  rw [wu64]
  have := v.isLt
  omega
theorem ofInt64 (v : BitVec 64) : BitVec.ofInt 64 (v.toNat : Int) = v := by
  rw [BitVec.ofInt_natCast, BitVec.ofNat_toNat, BitVec.setWidth_eq]
theorem or64 (v w : BitVec 64) : intBits .or .u64 (v.toNat : Int) (w.toNat : Int) = ((v ||| w).toNat : Int) := by
  simp only [intBits]
  rw [show IntKind.bits .u64 = 64 from rfl, ofInt64, ofInt64, u64wrap]
theorem and64 (v w : BitVec 64) : intBits .and .u64 (v.toNat : Int) (w.toNat : Int) = ((v &&& w).toNat : Int) := by
  simp only [intBits]
  rw [show IntKind.bits .u64 = 64 from rfl, ofInt64, ofInt64, u64wrap]
theorem andNot64 (v w : BitVec 64) : intBits .andNot .u64 (v.toNat : Int) (w.toNat : Int) = ((v &&& ~~~w).toNat : Int) := by
  simp only [intBits]
  rw [show IntKind.bits .u64 = 64 from rfl, ofInt64, ofInt64, u64wrap]
theorem shl64 (i : Nat) : shlI .u64 1 (i : Int) = ((BitVec.twoPow 64 i).toNat : Int) := by
  unfold shlI
  rw [show IntKind.bits .u64 = 64 from rfl, BitVec.toNat_twoPow, Int.toNat_natCast, wu64, Int.one_mul]
  by_cases h : i < 64
  · rw [Nat.min_eq_left (by omega), Int.natCast_emod, Int.natCast_pow]
    rfl
  · rw [Nat.min_eq_right (by omega)]
    have : 2 ^ i % 2 ^ 64 = 0 := Nat.mod_eq_zero_of_dvd (Nat.pow_dvd_pow 2 (by omega))
    rw [this]
    decide
theorem shr64 (v : BitVec 64) (i : Nat) : shrI .u64 (v.toNat : Int) (i : Int) = ((v >>> i).toNat : Int) := by
  unfold shrI
  rw [show IntKind.bits .u64 = 64 from rfl, BitVec.toNat_ushiftRight, Int.toNat_natCast, Nat.shiftRight_eq_div_pow, Int.fdiv_eq_ediv_of_nonneg _ (Int.le_of_lt (Int.pow_pos (by decide)))]
  by_cases h : i < 64
  · rw [Nat.min_eq_left (by omega)]
    push_cast
    rfl
  · rw [Nat.min_eq_right (by omega), Nat.div_eq_of_lt (Nat.lt_of_lt_of_le v.isLt (Nat.pow_le_pow_right (by omega) (by omega)))]
    have := v.isLt
    omega
theorem f_set_has (v : BitVec 64) (i : Nat) : P_set_has ((v.toNat : Int), (i : Int), ()) = some (v.getLsbD i, ()) := by
  have h2 : intBits .and .u64 ((v >>> i).toNat : Int) 1 = (((v >>> i) &&& 1#64).toNat : Int) := and64 (v >>> i) 1#64
  rw [p_set_has, shr64, h2, decide_eq_true (Int.natCast_nonneg i), BitVec.and_one_eq_setWidth_ofBool_getLsbD, BitVec.getLsbD_ushiftRight]
  simp only [cond_true, Nat.add_zero]
  cases v.getLsbD i <;> simp
def idx (Y Z : Int) (c : D_A3) : Nat := ((c.1 * Y + c.2.1) * Z + c.2.2.1).toNat
theorem within3_iff {X Y Z : Int} {c : D_A3} : within3 X Y Z c = true ↔ (0 ≤ c.1 ∧ c.1 ≤ X - 1) ∧ (0 ≤ c.2.1 ∧ c.2.1 ≤ Y - 1) ∧ (0 ≤ c.2.2.1 ∧ c.2.2.1 ≤ Z - 1) := by
  simp [within3, and_assoc]
theorem ltC_iff {a b : D_A3} : ltC a b = true ↔ a.1 < b.1 ∨ (a.1 = b.1 ∧ (a.2.1 < b.2.1 ∨ (a.2.1 = b.2.1 ∧ a.2.2.1 < b.2.2.1))) := by
  simp [ltC]
theorem four {n : Int} (h0 : 1 ≤ n) (h1 : n ≤ 4) : n = 1 ∨ n = 2 ∨ n = 3 ∨ n = 4 := by omega
theorem idx_eq {X Y Z : Int} (hs : sides X Y Z = true) {c : D_A3} (hc : within3 X Y Z c = true) : ((idx Y Z c : Nat) : Int) = (c.1 * Y + c.2.1) * Z + c.2.2.1 ∧ idx Y Z c < (X * Y * Z).toNat ∧ X * Y * Z ≤ 64 ∧ c.1 * Y ≤ 16 ∧ 0 ≤ c.1 * Y ∧ 0 ≤ (c.1 * Y + c.2.1) * Z := by
  obtain ⟨h1, h2, h3⟩ := sides_iff.1 hs
  obtain ⟨c1, c2, c3⟩ := within3_iff.1 hc
  unfold idx
  rcases four h1.1 h1.2 with rfl | rfl | rfl | rfl <;> rcases four h2.1 h2.2 with rfl | rfl | rfl | rfl <;> rcases four h3.1 h3.2 with rfl | rfl | rfl | rfl <;> omega
theorem idx_lt {X Y Z : Int} (hs : sides X Y Z = true) {a b : D_A3} (ha : within3 X Y Z a = true) (hb : within3 X Y Z b = true) : idx Y Z a < idx Y Z b ↔ ltC a b = true := by
  obtain ⟨h1, h2, h3⟩ := sides_iff.1 hs
  obtain ⟨a1, a2, a3⟩ := within3_iff.1 ha
  obtain ⟨b1, b2, b3⟩ := within3_iff.1 hb
  rw [ltC_iff]
  unfold idx
  rcases four h2.1 h2.2 with rfl | rfl | rfl | rfl <;> rcases four h3.1 h3.2 with rfl | rfl | rfl | rfl <;> omega
theorem cell_ext {a b : D_A3} (h1 : a.1 = b.1) (h2 : a.2.1 = b.2.1) (h3 : a.2.2.1 = b.2.2.1) : a = b := by
  obtain ⟨a1, a2, a3, ⟨⟩⟩ := a
  obtain ⟨b1, b2, b3, ⟨⟩⟩ := b
  simp_all
theorem ltC_total {a b : D_A3} (h : ltC a b = false) (h' : ltC b a = false) : a = b := by
  have h1 := mt (ltC_iff (a := a) (b := b)).2 (by simp [h])
  have h2 := mt (ltC_iff (a := b) (b := a)).2 (by simp [h'])
  refine cell_ext ?_ ?_ ?_ <;> omega
theorem ltC_irrefl (a : D_A3) : ltC a a = false := by
  rw [Bool.eq_false_iff]; intro h
  have := ltC_iff.1 h
  omega
theorem ltC_trans {a b c : D_A3} (h : ltC a b = true) (h' : ltC b c = true) : ltC a c = true := by
  have h1 := ltC_iff.1 h
  have h2 := ltC_iff.1 h'
  rw [ltC_iff]
  omega
theorem idx_inj {X Y Z : Int} (hs : sides X Y Z = true) {a b : D_A3} (ha : within3 X Y Z a = true) (hb : within3 X Y Z b = true) (h : idx Y Z a = idx Y Z b) : a = b := by
  refine ltC_total ?_ ?_ <;> rw [Bool.eq_false_iff]
  · intro h'; have := (idx_lt hs ha hb).2 h'; omega
  · intro h'; have := (idx_lt hs hb ha).2 h'; omega
theorem f_box_index {X Y Z : Int} (hs : sides X Y Z = true) {c : D_A3} (hc : within3 X Y Z c = true) : P_box_index ((X, Y, Z, ()), c, ()) = some ((idx Y Z c : Int), ()) := by
  obtain ⟨h1, h2, h3, h4, h5, h6⟩ := idx_eq hs hc
  obtain ⟨s1, s2, s3⟩ := sides_iff.1 hs
  obtain ⟨c1, c2, c3⟩ := within3_iff.1 hc
  have hm : 0 ≤ (c.1 * Y + c.2.1) * Z ∧ (c.1 * Y + c.2.1) * Z ≤ 1000 := by omega
  rw [p_box_index, h1]
  simp only
  rw [w64 (x := c.1 * Y) (by omega) (by omega), w64 (x := c.1 * Y + c.2.1) (by omega) (by omega), w64 (x := (c.1 * Y + c.2.1) * Z) (by omega) (by omega), w64 (by omega) (by omega)]
end Go.VI
namespace Go.VI
open Go.Proofs
def Srt (l : List D_A3) : Prop := l.Pairwise fun a b => ltC a b = true
def Ins (X Y Z : Int) (l : List D_A3) : Prop := ∀ c ∈ l, within3 X Y Z c = true
theorem okTail_iff (X Y Z : Int) : ∀ (l : List D_A3) (p : Option D_A3), okTail X Y Z p l = true ↔ Ins X Y Z l ∧ Srt l ∧ ∀ q, p = some q → ∀ c ∈ l, ltC q c = true
  | [], p => by simp [okTail, Ins, Srt]
  | c :: r, p => by
    simp only [okTail, Bool.and_eq_true, okTail_iff X Y Z r (some c), Ins, Srt, List.pairwise_cons, List.mem_cons, forall_eq_or_imp]
    constructor
    · rintro ⟨⟨h1, h2⟩, h3, h4, h5⟩
      refine ⟨⟨h1, h3⟩, ⟨h5 c rfl, h4⟩, ?_⟩
      rintro q rfl
      simp only at h2
      exact ⟨h2, fun d hd => ltC_trans h2 (h5 c rfl d hd)⟩
    · rintro ⟨⟨h1, h3⟩, ⟨h5, h4⟩, h6⟩
      refine ⟨⟨h1, ?_⟩, h3, h4, ?_⟩
      · cases p with
        | none => rfl
        | some q => exact (h6 q rfl).1
      · rintro q ⟨⟩
        exact h5
theorem okHeap_iff {h : D_Heap} : okHeap h = true ↔ sides h.1 h.2.1 h.2.2.1 = true ∧ Ins h.1 h.2.1 h.2.2.1 h.2.2.2.1 ∧ Srt h.2.2.2.1 := by
  unfold okHeap
  rw [Bool.and_eq_true, okTail_iff]
  simp
theorem srt_ext : ∀ (l l' : List D_A3), Srt l → Srt l' → (∀ c, c ∈ l ↔ c ∈ l') → l = l'
  | [], [], _, _, _ => rfl
  | [], b :: r', _, _, h => by have := (h b).2 (by simp); simp at this
  | a :: r, [], _, _, h => by have := (h a).1 (by simp); simp at this
  | a :: r, b :: r', h1, h2, h => by
    unfold Srt at h1 h2
    rw [List.pairwise_cons] at h1 h2
    have hab : a = b := by
      have ha := (h a).1 (by simp)
      have hb := (h b).2 (by simp)
      rcases List.mem_cons.1 ha with e | ha'
      · exact e
      · rcases List.mem_cons.1 hb with e | hb'
        · exact e.symm
        · have x1 := h2.1 a ha'
          have x2 := h1.1 b hb'
          have := ltC_trans x1 x2
          rw [ltC_irrefl] at this
          cases this
    subst hab
    have nr : ∀ c ∈ r, c ≠ a := fun c hc e => by have := h1.1 c hc; rw [e, ltC_irrefl] at this; cases this
    have nr' : ∀ c ∈ r', c ≠ a := fun c hc e => by have := h2.1 c hc; rw [e, ltC_irrefl] at this; cases this
    refine congrArg _ (srt_ext r r' h1.2 h2.2 fun c => ⟨fun hc => ?_, fun hc => ?_⟩)
    · rcases List.mem_cons.1 ((h c).1 (by simp [hc])) with e | k
      · exact absurd e (nr c hc)
      · exact k
    · rcases List.mem_cons.1 ((h c).2 (by simp [hc])) with e | k
      · exact absurd e (nr' c hc)
      · exact k
theorem Srt.filter {l : List D_A3} (h : Srt l) (p : D_A3 → Bool) : Srt (l.filter p) := List.Pairwise.filter p h
theorem Ins.filter {X Y Z : Int} {l : List D_A3} (h : Ins X Y Z l) (p : D_A3 → Bool) : Ins X Y Z (l.filter p) := fun c hc => h c (List.mem_filter.1 hc).1
theorem Srt.nodup {l : List D_A3} (h : Srt l) : l.Nodup := List.Pairwise.imp (fun {a b} hab e => by rw [e, ltC_irrefl] at hab; cases hab) h
def mask (Y Z : Int) (l : List D_A3) (v : BitVec 64) : BitVec 64 := l.foldl (fun v c => v ||| BitVec.twoPow 64 (idx Y Z c)) v
theorem mask_bit (Y Z : Int) (i : Nat) : ∀ (l : List D_A3) (v : BitVec 64), (mask Y Z l v).getLsbD i = (v.getLsbD i || (decide (i < 64) && l.any fun c => decide (idx Y Z c = i)))
  | [], v => by simp [mask]
  | c :: r, v => by
    have := mask_bit Y Z i r (v ||| BitVec.twoPow 64 (idx Y Z c))
    simp only [mask, List.foldl_cons, List.any_cons] at this ⊢
    rw [this, BitVec.getLsbD_or, BitVec.getLsbD_twoPow]
    by_cases h : idx Y Z c = i
    · simp only [h, decide_true, Bool.and_true, Bool.true_or]
      cases v.getLsbD i <;> cases decide (i < 64) <;> simp
    · simp [h]
theorem mask_mem {X Y Z : Int} (hs : sides X Y Z = true) {l : List D_A3} (hl : Ins X Y Z l) {c : D_A3} (hc : within3 X Y Z c = true) : (mask Y Z l 0).getLsbD (idx Y Z c) = decide (c ∈ l) := by
  have h64 : idx Y Z c < 64 := by
    obtain ⟨_, h2, h3, _⟩ := idx_eq hs hc
    omega
  rw [mask_bit, decide_eq_true h64]
  simp only [BitVec.ofNat_eq_ofNat, BitVec.getLsbD_zero, Bool.false_or, Bool.true_and]
  by_cases h : c ∈ l
  · rw [decide_eq_true h]
    exact List.any_eq_true.2 ⟨c, h, by simp⟩
  · rw [decide_eq_false h, Bool.eq_false_iff]
    intro ha
    obtain ⟨d, hd, e⟩ := List.any_eq_true.1 ha
    exact h (idx_inj hs (hl d hd) hc (by simpa using e) ▸ hd)
theorem l_cubes (X Y Z : Int) (l : List D_A3) (hs : sides X Y Z = true) (hl : Small l) (hi : Ins X Y Z l) : ∀ (d k m : Nat) (v : BitVec 64), l.length = k + d → d < m →
 l_Heap_cubes_3 m X Y Z l (v.toNat : Int) l (l.length : Int) (k : Int) = some (((mask Y Z (l.drop k) v).toNat : Int), ())
  | d, k, 0, v, hk, hm => by omega
  | d, k, m + 1, v, hk, hm => by
    unfold Small at hl
    rw [q_Heap_cubes_3]
    by_cases hlt : k < l.length
    · rw [ltT hlt, inB_at hlt, nthA (t := T_A3) hlt, f_Heap_box]
      simp only [cond_true, Option.bind_some]
      rw [f_box_index hs (hi _ (List.getElem_mem hlt))]
      simp only [Option.bind_some, decide_eq_true (Int.natCast_nonneg (idx Y Z l[k])), cond_true]
      rw [shl64, or64, succI k (by omega), l_cubes X Y Z l hs hl hi (d - 1) (k + 1) m _ (by omega) (by omega), drop_at l k hlt]
      rfl
    · rw [ltF hlt, List.drop_eq_nil_of_le (by omega)]
      rfl
theorem f_Heap_cubes {X Y Z : Int} {l : List D_A3} (hs : sides X Y Z = true) (hl : Small l) (hi : Ins X Y Z l) : P_Heap_cubes ((X, Y, Z, l, ()), ()) = some (((mask Y Z l 0).toNat : Int), ()) := by
  have := l_cubes X Y Z l hs hl hi l.length 0 N 0 (by simp) (by unfold Small at hl; have := N_ge; omega)
  rw [p_Heap_cubes]
  simpa using this
theorem l_l2Has (X Y Z : Int) (l : List D_A3) (c : D_A3) (hl : Small l) : ∀ (d k m : Nat), l.length = k + d → d < m →
 l_spec_l2Has_2 m X Y Z l c.1 c.2.1 c.2.2.1 (k : Int) = some (decide (c ∈ l.drop k), ())
  | d, k, 0, hk, hm => by omega
  | d, k, m + 1, hk, hm => by
    unfold Small at hl
    rw [q_spec_l2Has_2]
    by_cases hlt : k < l.length
    · rw [ltT hlt, inB_at hlt, nthA (t := T_A3) hlt, succI k (by omega), l_l2Has X Y Z l c hl (d - 1) (k + 1) m (by omega) (by omega), drop_at l k hlt]
      simp only [cond_true, Bool.and_true]
      by_cases he : l[k] = c
      · simp [he]
      · have hne : (decide ((l[k]).1 = c.1) && (decide ((l[k]).2.1 = c.2.1) && decide ((l[k]).2.2.1 = c.2.2.1))) = false := by
          rw [Bool.eq_false_iff]
          intro h
          simp only [Bool.and_eq_true, decide_eq_true_eq] at h
          exact he (cell_ext h.1 h.2.1 h.2.2)
        rw [hne]
        simp only [List.mem_cons, Ne.symm he, false_or, cond_false]
    · rw [ltF hlt, List.drop_eq_nil_of_le (by omega)]
      simp
theorem f_l2Has (X Y Z : Int) (l : List D_A3) (c : D_A3) (hl : Small l) : P_spec_l2Has ((X, Y, Z, l, ()), c, ()) = some (decide (c ∈ l), ()) := by
  have := l_l2Has X Y Z l c hl l.length 0 N (by simp) (by unfold Small at hl; have := N_ge; omega)
  rw [p_spec_l2Has]
  simpa using this
def cellOf (Y Z : Int) (i : Nat) : D_A3 := ((i : Int) / Z / Y, (i : Int) / Z % Y, (i : Int) % Z, ())
theorem cellOf_ok {X Y Z : Int} (hs : sides X Y Z = true) {i : Nat} (hi : i < (X * Y * Z).toNat) : within3 X Y Z (cellOf Y Z i) = true ∧ idx Y Z (cellOf Y Z i) = i := by
  obtain ⟨h1, h2, h3⟩ := sides_iff.1 hs
  rw [within3_iff]
  unfold idx cellOf
  rcases four h2.1 h2.2 with rfl | rfl | rfl | rfl <;> rcases four h3.1 h3.2 with rfl | rfl | rfl | rfl <;> simp only at * <;> omega
theorem f_box_cell {X Y Z : Int} (hs : sides X Y Z = true) {i : Nat} (hi : i < 64) : P_box_cell ((X, Y, Z, ()), (i : Int), ()) = some (cellOf Y Z i, ()) := by
  obtain ⟨h1, h2, h3⟩ := sides_iff.1 hs
  have hy : (!decide (Y = 0)) = true := by simp; omega
  have hz : (!decide (Z = 0)) = true := by simp; omega
  rw [p_box_cell]
  simp only [hy, hz, cond_true]
  rw [Int.tdiv_eq_ediv_of_nonneg (Int.natCast_nonneg i), Int.tmod_eq_emod_of_nonneg (Int.natCast_nonneg i)]
  have hq : 0 ≤ (i : Int) / Z ∧ (i : Int) / Z ≤ 64 := by
    rcases four h3.1 h3.2 with rfl | rfl | rfl | rfl <;> omega
  rw [w64 (x := (i : Int) / Z) (by omega) (by omega), Int.tdiv_eq_ediv_of_nonneg hq.1, Int.tmod_eq_emod_of_nonneg hq.1]
  have hq2 : 0 ≤ (i : Int) / Z / Y ∧ (i : Int) / Z / Y ≤ 64 := by
    rcases four h2.1 h2.2 with rfl | rfl | rfl | rfl <;> omega
  rw [w64 (by omega) (by omega)]
  rfl
def listFrom (Y Z : Int) (v : BitVec 64) : (d k : Nat) → List D_A3
  | 0, _ => []
  | d + 1, k => if v.getLsbD k then cellOf Y Z k :: listFrom Y Z v d (k + 1) else listFrom Y Z v d (k + 1)
def bitCells (X Y Z : Int) (v : BitVec 64) : List D_A3 := listFrom Y Z v (X * Y * Z).toNat 0
theorem mem_listFrom (Y Z : Int) (v : BitVec 64) (c : D_A3) : ∀ (d k : Nat), c ∈ listFrom Y Z v d k ↔ ∃ i, k ≤ i ∧ i < k + d ∧ v.getLsbD i = true ∧ cellOf Y Z i = c
  | 0, k => by simp only [listFrom, List.not_mem_nil, false_iff]; rintro ⟨i, h1, h2, _⟩; omega
  | d + 1, k => by
    have ih := mem_listFrom Y Z v c d (k + 1)
    have key : c ∈ listFrom Y Z v (d + 1) k ↔ (v.getLsbD k = true ∧ cellOf Y Z k = c) ∨ c ∈ listFrom Y Z v d (k + 1) := by
      simp only [listFrom]
      by_cases h : v.getLsbD k = true
      · simp [h, eq_comm]
      · simp [h]
    rw [key, ih]
    constructor
    · rintro (⟨h1, h2⟩ | ⟨i, h1, h2, h3⟩)
      · exact ⟨k, by omega, by omega, h1, h2⟩
      · exact ⟨i, by omega, by omega, h3⟩
    · rintro ⟨i, h1, h2, h3, h4⟩
      by_cases e : i = k
      · subst e; exact .inl ⟨h3, h4⟩
      · exact .inr ⟨i, by omega, by omega, h3, h4⟩
theorem mem_listOf {X Y Z : Int} (hs : sides X Y Z = true) (v : BitVec 64) (c : D_A3) : c ∈ bitCells X Y Z v ↔ within3 X Y Z c = true ∧ v.getLsbD (idx Y Z c) = true := by
  unfold bitCells
  rw [mem_listFrom]
  constructor
  · rintro ⟨i, _, h2, h3, rfl⟩
    obtain ⟨w1, w2⟩ := cellOf_ok hs (i := i) (by omega)
    exact ⟨w1, by rw [w2]; exact h3⟩
  · rintro ⟨h1, h2⟩
    obtain ⟨_, hlt, _⟩ := idx_eq hs h1
    obtain ⟨w1, w2⟩ := cellOf_ok hs hlt
    exact ⟨idx Y Z c, by omega, by omega, h2, idx_inj hs w1 h1 w2⟩
theorem srt_listFrom {X Y Z : Int} (hs : sides X Y Z = true) (v : BitVec 64) : ∀ (d k : Nat), k + d ≤ (X * Y * Z).toNat → Srt (listFrom Y Z v d k)
  | 0, k, _ => by simp [listFrom, Srt]
  | d + 1, k, h => by
    have ih := srt_listFrom hs v d (k + 1) (by omega)
    simp only [listFrom]
    by_cases hb : v.getLsbD k = true
    · rw [if_pos hb]
      refine List.pairwise_cons.2 ⟨fun c hc => ?_, ih⟩
      obtain ⟨i, h1, h2, _, rfl⟩ := (mem_listFrom Y Z v c d (k + 1)).1 hc
      obtain ⟨w1, w2⟩ := cellOf_ok hs (i := i) (by omega)
      obtain ⟨x1, x2⟩ := cellOf_ok hs (i := k) (by omega)
      exact (idx_lt hs x1 w1).1 (by omega)
    · rw [if_neg hb]; exact ih
theorem srt_listOf {X Y Z : Int} (hs : sides X Y Z = true) (v : BitVec 64) : Srt (bitCells X Y Z v) := srt_listFrom hs v _ 0 (by omega)
theorem listFrom_length (Y Z : Int) (v : BitVec 64) : ∀ (d k : Nat), (listFrom Y Z v d k).length ≤ d
  | 0, k => by simp [listFrom]
  | d + 1, k => by
    have := listFrom_length Y Z v d (k + 1)
    simp only [listFrom]
    split <;> simp <;> omega
theorem size64 {X Y Z : Int} (hs : sides X Y Z = true) : 1 ≤ X * Y * Z ∧ X * Y * Z ≤ 64 ∧ 1 ≤ X * Y ∧ X * Y ≤ 16 := by
  obtain ⟨h1, h2, h3⟩ := sides_iff.1 hs
  rcases four h1.1 h1.2 with rfl | rfl | rfl | rfl <;> rcases four h2.1 h2.2 with rfl | rfl | rfl | rfl <;> omega
theorem l_box_list {X Y Z : Int} (hs : sides X Y Z = true) (v : BitVec 64) : ∀ (d k m : Nat) (acc : List D_A3), (X * Y * Z).toNat = k + d → d < m → acc.length ≤ k →
 l_box_list_3 m X Y Z (v.toNat : Int) acc (X * Y * Z) (k : Int) = some (acc ++ listFrom Y Z v d k, ())
  | d, k, 0, acc, hk, hm, ha => by omega
  | 0, k, m + 1, acc, hk, hm, ha => by
    rw [q_box_list_3, decide_eq_false (by have := size64 hs; omega)]
    simp [listFrom]
  | d + 1, k, m + 1, acc, hk, hm, ha => by
    have hsz := size64 hs
    rw [q_box_list_3, decide_eq_true (by omega), f_set_has, f_box_cell hs (by omega), succI k (by omega)]
    simp only [cond_true, Option.bind_some, listFrom]
    cases hb : v.getLsbD k with
    | false =>
      simp only [cond_false, Bool.false_eq_true, if_false]
      exact l_box_list hs v d (k + 1) m acc (by omega) (by omega) (by omega)
    | true =>
      simp only [List.length_cons, List.length_nil, cond_true, if_true]
      rw [decide_eq_true (by omega), decide_eq_true (by omega), l_box_list hs v d (k + 1) m _ (by omega) (by omega) (by simp; omega)]
      simp
theorem f_box_list {X Y Z : Int} (hs : sides X Y Z = true) (v : BitVec 64) : P_box_list ((X, Y, Z, ()), (v.toNat : Int), ()) = some (bitCells X Y Z v, ()) := by
  have hsz := size64 hs
  have := l_box_list hs v (X * Y * Z).toNat 0 N [] (by omega) (by have := N_ge; omega) (by simp)
  rw [p_box_list, p_box_size]
  simp only [Option.bind_some]
  rw [w64 (x := X * Y) (by omega) (by omega), w64 (by omega) (by omega)]
  exact this
theorem f_box_heap {X Y Z : Int} (hs : sides X Y Z = true) (v : BitVec 64) : P_box_heap ((X, Y, Z, ()), (v.toNat : Int), ()) = some ((X, Y, Z, bitCells X Y Z v, ()), ()) := by
  rw [p_box_heap, f_box_list hs]; rfl
theorem listOf_mask {X Y Z : Int} (hs : sides X Y Z = true) {l : List D_A3} (hi : Ins X Y Z l) (h : Srt l) : bitCells X Y Z (mask Y Z l 0) = l := by
  refine srt_ext _ _ (srt_listOf hs _) h fun c => ?_
  rw [mem_listOf hs]
  constructor
  · rintro ⟨h1, h2⟩
    rw [mask_mem hs hi h1] at h2
    simpa using h2
  · intro hc
    exact ⟨hi c hc, by rw [mask_mem hs hi (hi c hc)]; simpa using hc⟩
end Go.VI
namespace Go.VI
open Go.Proofs
def stp (k : Nat) (c : D_A3) : D_A3 := match k with
  | 0 => (c.1 + -1, c.2.1, c.2.2.1, ())
  | 1 => (c.1 + 1, c.2.1, c.2.2.1, ())
  | 2 => (c.1, c.2.1 + -1, c.2.2.1, ())
  | 3 => (c.1, c.2.1 + 1, c.2.2.1, ())
  | 4 => (c.1, c.2.1, c.2.2.1 + -1, ())
  | _ => (c.1, c.2.1, c.2.2.1 + 1, ())
def Near (c : D_A3) : Prop := -1000 ≤ c.1 ∧ c.1 ≤ 1000 ∧ -1000 ≤ c.2.1 ∧ c.2.1 ≤ 1000 ∧ -1000 ≤ c.2.2.1 ∧ c.2.2.1 ≤ 1000
theorem near_of {X Y Z : Int} (hs : sides X Y Z = true) {c : D_A3} (hc : within3 X Y Z c = true) : Near c := by
  obtain ⟨s1, s2, s3⟩ := sides_iff.1 hs
  obtain ⟨w1, w2, w3⟩ := within3_iff.1 hc
  unfold Near; omega
theorem six {k : Nat} (h : k < 6) : k = 0 ∨ k = 1 ∨ k = 2 ∨ k = 3 ∨ k = 4 ∨ k = 5 := by omega
theorem f_beyond (c : D_A3) (hc : Near c) (k : Nat) (hk : k < 6) : P_impl_beyond (c, (k : Int), ()) = some (stp k c, ()) := by
  have e0 : IntKind.wrap .i64 (Int.tdiv ((k : Nat) : Int) 2) = ((k / 2 : Nat) : Int) := by
    rw [w64] <;> rcases six hk with rfl | rfl | rfl | rfl | rfl | rfl <;> decide
  have e1 : IntKind.wrap .i64 ((IntKind.wrap .i64 (2 * (Int.tmod ((k : Nat) : Int) 2))) - 1) = 2 * ((k % 2 : Nat) : Int) - 1 := by
    rcases six hk with rfl | rfl | rfl | rfl | rfl | rfl <;> rw [w64, w64] <;> decide
  unfold Near at hc
  rw [p_impl_beyond, e0, e1]
  rcases six hk with rfl | rfl | rfl | rfl | rfl | rfl <;> simp only [stp, inB] <;> rw [w64] <;> simp <;> omega
def BitsOf (X Y Z : Int) (v : BitVec 64) (q : List D_A3) : Prop := Ins X Y Z q ∧ ∀ c, within3 X Y Z c = true → v.getLsbD (idx Y Z c) = decide (c ∈ q)
end Go.VI
namespace Go.VI
open Go.Proofs
end Go.VI
namespace Go.VI
open Go.Proofs
theorem cellOf_idx {X Y Z : Int} (hs : sides X Y Z = true) {c : D_A3} (hc : within3 X Y Z c = true) : cellOf Y Z (idx Y Z c) = c := by
  obtain ⟨_, hlt, _⟩ := idx_eq hs hc
  obtain ⟨w1, w2⟩ := cellOf_ok hs hlt
  exact idx_inj hs w1 hc w2
end Go.VI
