/- Runs of equal heaps, each to one: plain. -/
import Derived.Test.YtlnfgikipeiaiaaVjSort
namespace Go.VI
open Go.Proofs Go.RowKit
set_option maxRecDepth 100000
def ddF (sm : DHeap → DHeap → Bool) : HE → List HE → List HE
  | _, [] => []
  | p, y :: l => if sm y.heap p.heap then ddF sm y l else y :: ddF sm y l
def dd (sm : DHeap → DHeap → Bool) : List HE → List HE
  | [] => []
  | a :: l => a :: ddF sm a l
theorem ddF_add (sm : DHeap → DHeap → Bool) (b : HE) : ∀ (l : List HE) (p q : HE), (p :: l)[l.length]? = some q → ddF sm p (l ++ [b]) = ddF sm p l ++ (if sm b.heap q.heap then [] else [b])
  | [], p, q, h => by
    obtain rfl : p = q := by simpa using h
    simp only [List.nil_append, ddF]
  | y :: l, p, q, h => by
    have h' : (y :: l)[l.length]? = some q := by simpa using h
    simp only [List.cons_append, ddF]
    split
    · exact ddF_add sm b l y q h'
    · rw [ddF_add sm b l y q h']; rfl
theorem dd_take (sm : DHeap → DHeap → Bool) (hs : List HE) {k : Nat} (hk : 1 ≤ k) {b q : HE} (hb : hs[k]? = some b) (hq : hs[k - 1]? = some q) :
    dd sm (hs.take (k + 1)) = dd sm (hs.take k) ++ (if sm b.heap q.heap then [] else [b]) := by
  cases hs with
  | nil => simp at hb
  | cons a l =>
    obtain ⟨k, rfl⟩ : ∃ j, k = j + 1 := ⟨k - 1, by omega⟩
    have hb' : l[k]? = some b := by simpa using hb
    have hlt : k < l.length := by
      rcases Nat.lt_or_ge k l.length with h' | h'
      · exact h'
      · rw [List.getElem?_eq_none h'] at hb'; cases hb'
    have hg : l[k] = b := by rw [List.getElem?_eq_getElem hlt] at hb'; exact Option.some.inj hb'
    simp only [List.take_succ_cons, dd, List.cons_append]
    rw [List.take_succ_eq_append_getElem hlt, hg, ddF_add sm b (l.take k) a q ?_]
    have e : (l.take k).length = k := by simp; omega
    rw [e]
    have : (a :: l)[k]? = some q := by simpa using hq
    rw [show (a :: l.take k) = (a :: l).take (k + 1) by simp, List.getElem?_take, if_pos (by omega)]
    exact this
theorem dd_one (sm : DHeap → DHeap → Bool) (hs : List HE) (h : 0 < hs.length) : dd sm (hs.take 1) = hs.take 1 := by
  cases hs with
  | nil => simp at h
  | cons a l => rfl
theorem ddF_sub (sm : DHeap → DHeap → Bool) : ∀ (l : List HE) (p : HE), (ddF sm p l).Sublist l
  | [], _ => .slnil
  | y :: l, p => by
    simp only [ddF]
    split
    · exact (ddF_sub sm l y).cons _
    · exact (ddF_sub sm l y).cons_cons _
theorem dd_sub (sm : DHeap → DHeap → Bool) : ∀ hs : List HE, (dd sm hs).Sublist hs
  | [] => .slnil
  | a :: l => (ddF_sub sm l a).cons_cons _
theorem sub_places {α : Type} {l' l : List α} (h : l'.Sublist l) : ∃ f : Nat → Nat, (∀ i j, i < l'.length → j < l'.length → f i = f j → i = j) ∧ ∀ i a, l'[i]? = some a → l[f i]? = some a := by
  induction h with
  | slnil => exact ⟨id, fun i j hi => by simp at hi, fun i a h => by simp at h⟩
  | cons a _ ih =>
    obtain ⟨f, f1, f2⟩ := ih
    exact ⟨fun i => f i + 1, fun i j hi hj e => f1 i j hi hj (by simpa using e), fun i b hb => by simpa using f2 i b hb⟩
  | cons_cons a _ ih =>
    obtain ⟨f, f1, f2⟩ := ih
    refine ⟨fun i => match i with | 0 => 0 | i + 1 => f i + 1, fun i j hi hj e => ?_, fun i y hy => ?_⟩
    · cases i <;> cases j <;> simp at e hi hj ⊢
      exact f1 _ _ hi hj e
    · cases i with
      | zero => simpa using hy
      | succ i => simpa using f2 i y (by simpa using hy)
def put4 (cur : Array Value) (i : Nat) (a b c d : Value) : Array Value := (((cur.setIfInBounds i a).setIfInBounds (i + 1) b).setIfInBounds (i + 2) c).setIfInBounds (i + 3) d
theorem put4_size (cur : Array Value) (i : Nat) (a b c d : Value) : (put4 cur i a b c d).size = cur.size := by simp [put4]
theorem put4_out (cur : Array Value) (i : Nat) (a b c d : Value) (j : Nat) (hj : j < i ∨ i + 4 ≤ j) : (put4 cur i a b c d)[j]? = cur[j]? := by
  unfold put4
  rw [Array.getElem?_setIfInBounds_ne (by omega), Array.getElem?_setIfInBounds_ne (by omega), Array.getElem?_setIfInBounds_ne (by omega), Array.getElem?_setIfInBounds_ne (by omega)]
theorem put4_in (cur : Array Value) (i : Nat) (a b c d : Value) (h : i + 3 < cur.size) (j : Nat) (hj : j < 4) : (put4 cur i a b c d)[i + j]? = [a, b, c, d][j]? := by
  unfold put4
  match j, hj with
  | 0, _ => rw [Array.getElem?_setIfInBounds_ne (by omega), Array.getElem?_setIfInBounds_ne (by omega), Array.getElem?_setIfInBounds_ne (by omega)]; simp [show i < cur.size by omega]
  | 1, _ => rw [Array.getElem?_setIfInBounds_ne (by omega), Array.getElem?_setIfInBounds_ne (by omega)]; simp [show i + 1 < cur.size by omega]
  | 2, _ => rw [Array.getElem?_setIfInBounds_ne (by omega)]; simp [show i + 2 < cur.size by omega]
  | 3, _ => simp [h]
theorem put4_take {cur : Array Value} {k : Nat} {l : List HE} {b : HE} (hl : l.length = k) (h : cur.toList.take (k * 4) = encs l) (hs : k * 4 + 3 < cur.size) :
    (put4 cur (k * 4) (.int .i64 b.x) (.int .i64 b.y) (.int .i64 b.z) b.v).toList.take ((k + 1) * 4) = encs (l ++ [b]) := by
  rw [encs_append]
  have e1 : encs [b] = b.enc := by simp [encs]
  rw [e1]
  apply List.ext_getElem?
  intro j
  rw [List.getElem?_take, Array.getElem?_toList]
  rcases Nat.lt_or_ge j (k * 4) with hj | hj
  · rw [if_pos (by omega), put4_out _ _ _ _ _ _ _ (.inl hj), List.getElem?_append_left (by rw [encs_len]; omega), ← h, List.getElem?_take, if_pos hj, Array.getElem?_toList]
  · rw [List.getElem?_append_right (by rw [encs_len]; omega), encs_len, hl]
    split
    · have := put4_in cur (k * 4) (.int .i64 b.x) (.int .i64 b.y) (.int .i64 b.z) b.v hs (j - k * 4) (by omega)
      rw [show k * 4 + (j - k * 4) = j by omega] at this
      rw [this]; rfl
    · rw [List.getElem?_eq_none (by rw [HE.enc_len]; omega)]
end Go.VI
/- slices.CompactFunc on a row of heaps, by a walk. -/
namespace Go.VI
open Go.Proofs Go.RowKit
set_option maxRecDepth 100000
theorem c_same {Z : Nat → Prop} {W : World} {g h : DHeap} {gv hv : Value} {n : Bool} (hz : ∀ g, Z g → g < W.heap.size) (a : RepI Z W (.sl A3ty) g.2.2.2.1 [gv]) (b : RepI Z W (.sl A3ty) h.2.2.2.1 [hv]) (hF : P_Heap_same (g, h, ()) = some (n, ())) :
    Calls Try.prog 31 #[hpV g gv, hpV h hv] W fun e' w' => e' = .returned (.bool n) ∧ Below W.heap.size W w' :=
  flatH_calls (fn := Try.f31) (r := (n, ())) s_Heap_same rfl Try.func31 rfl (by kernel_rfl) trivial hz (xs := (g, h, ())) (vs := [hpV g gv, hpV h hv]) ⟨_, _, rfl, (fun h => by cases h), repHeap a, _, _, rfl, (fun h => by cases h), repHeap b, rfl⟩ hF
theorem same_calls {W V : World} {B : Nat} {v : Value} {hs : List HE} (h : DeepH W B 35 42 v hs) (sm : DHeap → DHeap → Bool) (hsm : ∀ a ∈ hs, ∀ b ∈ hs, P_Heap_same (a.heap, b.heap, ()) = some (sm a.heap b.heap, ())) (hV : FrameL (fun g => v.ownBlock = some g) W V) {a b : HE} (ha : a ∈ hs) (hb : b ∈ hs) :
    Calls Try.prog 31 #[hpV a.heap a.v, hpV b.heap b.v] V fun e' w' => e' = .returned (.bool (sm a.heap b.heap)) ∧ Below V.heap.size V w' := by
  obtain ⟨i, hi⟩ := List.mem_iff_getElem?.1 ha
  obtain ⟨j, hj⟩ := List.mem_iff_getElem?.1 hb
  have key : ∀ i (a : HE), hs[i]? = some a → RepI (fun g => (a.v.ownBlock = some g ∨ b.v.ownBlock = some g)) V (.sl A3ty) a.cells [a.v] := fun i a hi => by
    have hin := h.inner i a hi
    exact (hin.mono (w' := V) (fun _ hz => hz) (fun _ hz => hz.elim) fun g hg => hV.block g (hin.lt g hg).2 fun e => h.outer_ne (by decide) hi hg e).reads _ (fun _ hz => hz.elim) fun g hg => .inl hg
  refine c_same (Z := fun g => a.v.ownBlock = some g ∨ b.v.ownBlock = some g) (fun g hg => ?_) (key i a hi) ?_ (hsm a ha b hb)
  · rcases hg with hg | hg
    · exact Nat.lt_of_lt_of_le ((h.inner i a hi).lt g hg).2 hV.size
    · exact Nat.lt_of_lt_of_le ((h.inner j b hj).lt g hg).2 hV.size
  · have hin := h.inner j b hj
    exact (hin.mono (w' := V) (fun _ hz => hz) (fun _ hz => hz.elim) fun g hg => hV.block g (hin.lt g hg).2 fun e => h.outer_ne (by decide) hj hg e).reads _ (fun _ hz => hz.elim) fun g hg => .inr hg
theorem at_enc {w : World} {g : Nat} {cur : Array Value} {hs : List HE} (hg : w.heap[g]? = some (.cells cur 35 (0, 0))) {n : Nat} (hn : cur.toList.take (n * 4) = encs hs) {i : Nat} (hi : i < n) {a : HE} (ha : hs[i]? = some a) :
    w.cell? ⟨g, i * 4, none⟩ = some (.int .i64 a.x) ∧ w.cell? ⟨g, i * 4 + 1, none⟩ = some (.int .i64 a.y) ∧ w.cell? ⟨g, i * 4 + 2, none⟩ = some (.int .i64 a.z) ∧ w.cell? ⟨g, i * 4 + 3, none⟩ = some a.v := by
  have e : ∀ j (hj : j < 4) u, a.enc[j]? = some u → w.cell? ⟨g, i * 4 + j, none⟩ = some u := fun j hj u hu => by
    have := encs_at ha j hj
    rw [← hn, List.getElem?_take, if_pos (by omega), hu, Array.getElem?_toList] at this
    simp [World.cell?, hg, this]
  exact ⟨e 0 (by decide) _ rfl, e 1 (by decide) _ rfl, e 2 (by decide) _ rfl, e 3 (by decide) _ rfl⟩
theorem encs_take (hs : List HE) : ∀ m, encs (hs.take m) = (encs hs).take (m * 4) := by
  induction hs with
  | nil => intro m; simp [encs]
  | cons a l ih =>
    intro m
    cases m with
    | zero => simp [encs]
    | succ m =>
      have e : ∀ l, encs (a :: l) = a.enc ++ encs l := fun l => by simp [encs]
      rw [List.take_succ_cons, e, e, ih, List.take_append, HE.enc_len, show (m + 1) * 4 - 4 = m * 4 by omega, List.take_of_length_le (show a.enc.length ≤ (m + 1) * 4 by rw [HE.enc_len]; omega)]
structure CompI (W wr : World) (g n c : Nat) (cur : Array Value) (hs : List HE) (sm : DHeap → DHeap → Bool) (kk p : Nat) (cur' : Array Value) : Prop where
  frame : FrameL (fun q => q = g) W wr
  block : wr.heap[g]? = some (.cells cur' 35)
  size : cur'.size = c * 4
  len : (dd sm (hs.take p)).length = kk
  take : cur'.toList.take (kk * 4) = encs (dd sm (hs.take p))
  rest : ∀ j, (p - 1) * 4 ≤ j → cur'[j]? = cur[j]?
theorem FrameL.refl' (T : Nat → Prop) (w : World) : FrameL T w w := ⟨rfl, rfl, rfl, Nat.le_refl _, fun _ _ _ => rfl, Nat.le_refl _⟩
theorem frameOf {W V : World} {g n c : Nat} (h : FrameL (fun q => q = g) W V) : FrameL (fun q => (Value.slice (some ⟨g, 0, none⟩) n c).ownBlock = some q) W V :=
  ⟨h.os, h.tape, h.output, h.size, fun k hk hn => h.block k hk fun e => hn (by rw [e]; rfl), h.drawn⟩
theorem FrameL.below {T : Nat → Prop} {W w w' : World} (h : FrameL T W w) (hb : Below w.heap.size w w') : FrameL T W w' :=
  ⟨hb.os.trans h.os, hb.tape.trans h.tape, hb.output.trans h.output, Nat.le_trans h.size hb.size, fun k hk hn => (hb.block k (Nat.lt_of_lt_of_le hk h.size)).trans (h.block k hk hn), Nat.le_trans h.drawn hb.drawn⟩
theorem CompI.below {W wr w' : World} {g n c : Nat} {cur : Array Value} {hs : List HE} {sm : DHeap → DHeap → Bool} {kk p : Nat} {cur' : Array Value} (h : CompI W wr g n c cur hs sm kk p cur') (hb : Below wr.heap.size wr w') : CompI W w' g n c cur hs sm kk p cur' :=
  ⟨h.frame.below hb, belowBlock h.block hb, h.size, h.len, h.take, h.rest⟩
theorem CompI.up {W wr : World} {g n c : Nat} {cur : Array Value} {hs : List HE} {sm : DHeap → DHeap → Bool} {k : Nat} (h : CompI W wr g n c cur hs sm k k cur) (hk : 1 ≤ k) {a b : HE} (hb : hs[k]? = some b) (ha : hs[k - 1]? = some a) (hs' : sm b.heap a.heap = false) (ht : cur.toList.take (n * 4) = encs hs) (hkn : k < n) : CompI W wr g n c cur hs sm (k + 1) (k + 1) cur := by
  have e := dd_take sm hs hk hb ha
  rw [hs', if_neg (by decide)] at e
  have hlt : k < hs.length := by
    rcases Nat.lt_or_ge k hs.length with h' | h'
    · exact h'
    · rw [List.getElem?_eq_none h'] at hb; cases hb
  have ed : dd sm (hs.take k) = hs.take k := (dd_sub sm _).eq_of_length (by rw [h.len]; simp; omega)
  have e2 : dd sm (hs.take (k + 1)) = hs.take (k + 1) := by
    rw [e, ed, List.take_succ_eq_append_getElem hlt]
    congr 2
    rw [List.getElem?_eq_getElem hlt] at hb
    exact (Option.some.inj hb).symm
  refine ⟨h.frame, h.block, h.size, by rw [e2]; simp; omega, ?_, fun j _ => rfl⟩
  rw [e2, encs_take, ← ht, List.take_take, show min ((k + 1) * 4) (n * 4) = (k + 1) * 4 by omega]
theorem CompI.start {W : World} {g n c : Nat} {cur : Array Value} {hs : List HE} {sm : DHeap → DHeap → Bool} (hg : W.heap[g]? = some (.cells cur 35)) (hcs : cur.size = c * 4) (ht : cur.toList.take (hs.length * 4) = encs hs) (hn : 0 < hs.length) : CompI W W g n c cur hs sm 1 1 cur := by
  refine ⟨FrameL.refl' _ _, hg, hcs, by rw [dd_one sm hs hn]; simp; omega, ?_, fun _ _ => rfl⟩
  rw [dd_one sm hs hn, encs_take, ← ht, List.take_take, show min (1 * 4) (hs.length * 4) = 1 * 4 by omega]
theorem CompI.drop {W wr : World} {g n c : Nat} {cur cur' : Array Value} {hs : List HE} {sm : DHeap → DHeap → Bool} {kk p : Nat} (h : CompI W wr g n c cur hs sm kk p cur') (hk : 1 ≤ p) {a b : HE} (hb : hs[p]? = some b) (ha : hs[p - 1]? = some a) (hs' : sm b.heap a.heap = true) : CompI W wr g n c cur hs sm kk (p + 1) cur' := by
  have e := dd_take sm hs hk hb ha
  rw [hs', if_pos rfl, List.append_nil] at e
  exact ⟨h.frame, h.block, h.size, by rw [e]; exact h.len, by rw [e]; exact h.take, fun j hj => h.rest j (by omega)⟩
theorem CompI.high {W wr : World} {g n c : Nat} {cur cur' : Array Value} {hs : List HE} {sm : DHeap → DHeap → Bool} {kk p : Nat} (h : CompI W wr g n c cur hs sm kk p cur') (ht : cur.toList.take (n * 4) = encs hs) {i : Nat} (hp : p - 1 ≤ i) (hi : i < n) {a : HE} (ha : hs[i]? = some a) :
    wr.cell? ⟨g, i * 4, none⟩ = some (.int .i64 a.x) ∧ wr.cell? ⟨g, i * 4 + 1, none⟩ = some (.int .i64 a.y) ∧ wr.cell? ⟨g, i * 4 + 2, none⟩ = some (.int .i64 a.z) ∧ wr.cell? ⟨g, i * 4 + 3, none⟩ = some a.v := by
  have e : ∀ j (hj : j < 4) u, a.enc[j]? = some u → wr.cell? ⟨g, i * 4 + j, none⟩ = some u := fun j hj u hu => by
    have := encs_at ha j hj
    rw [← ht, List.getElem?_take, if_pos (by omega), hu, Array.getElem?_toList, ← h.rest _ (by omega)] at this
    simp [World.cell?, h.block, this]
  exact ⟨e 0 (by decide) _ rfl, e 1 (by decide) _ rfl, e 2 (by decide) _ rfl, e 3 (by decide) _ rfl⟩
theorem CompI.free {W wr : World} {g n c : Nat} {cur cur' : Array Value} {hs : List HE} {sm : DHeap → DHeap → Bool} {kk p : Nat} (h : CompI W wr g n c cur hs sm kk p cur') (i : Nat) :
    wr.frozen? ⟨g, i * 4, none⟩ = false ∧ wr.frozen? ⟨g, i * 4 + 1, none⟩ = false ∧ wr.frozen? ⟨g, i * 4 + 2, none⟩ = false ∧ wr.frozen? ⟨g, i * 4 + 3, none⟩ = false := by
  refine ⟨?_, ?_, ?_, ?_⟩ <;> simp [World.frozen?, h.block]
theorem CompI.low {W wr : World} {g n c : Nat} {cur cur' : Array Value} {hs : List HE} {sm : DHeap → DHeap → Bool} {kk p : Nat} (h : CompI W wr g n c cur hs sm kk p cur') (i : Nat) (hi : i < c) :
    wr.cell? ⟨g, i * 4, none⟩ = some cur'[i * 4]! ∧ wr.cell? ⟨g, i * 4 + 1, none⟩ = some cur'[i * 4 + 1]! ∧ wr.cell? ⟨g, i * 4 + 2, none⟩ = some cur'[i * 4 + 2]! ∧ wr.cell? ⟨g, i * 4 + 3, none⟩ = some cur'[i * 4 + 3]! := by
  have hs := h.size
  have e : ∀ j, j < cur'.size → wr.cell? ⟨g, j, none⟩ = some cur'[j]! := fun j hj => by
    simp [World.cell?, h.block, Array.getElem?_eq_getElem hj, getElem!_pos cur' j hj]
  exact ⟨e _ (by omega), e _ (by omega), e _ (by omega), e _ (by omega)⟩
theorem CompI.store {W wr : World} {g n c : Nat} {cur cur' : Array Value} {hs : List HE} {sm : DHeap → DHeap → Bool} {kk p : Nat} (h : CompI W wr g n c cur hs sm kk p cur') (hk : 1 ≤ p) {a b : HE} (hb : hs[p]? = some b) (ha : hs[p - 1]? = some a) (hs' : sm b.heap a.heap = false) (hkk : kk < p) (hp : p < c) :
    CompI W ((((wr.setCell ⟨g, kk * 4, none⟩ (.int .i64 b.x)).setCell ⟨g, kk * 4 + 1, none⟩ (.int .i64 b.y)).setCell ⟨g, kk * 4 + 2, none⟩ (.int .i64 b.z)).setCell ⟨g, kk * 4 + 3, none⟩ b.v) g n c cur hs sm (kk + 1) (p + 1) (put4 cur' (kk * 4) (.int .i64 b.x) (.int .i64 b.y) (.int .i64 b.z) b.v) := by
  have e := dd_take sm hs hk hb ha
  rw [hs', if_neg (by decide)] at e
  have hsz := h.size
  refine ⟨⟨h.frame.os, h.frame.tape, h.frame.output, by simpa using h.frame.size, fun q hq hn => ?_, h.frame.drawn⟩, set1 (set1 (set1 (set1 h.block _ _) _ _) _ _) _ _, by rw [put4_size]; exact h.size, by rw [e, List.length_append, h.len]; rfl, by rw [e]; exact put4_take h.len h.take (by omega), fun j hj => ?_⟩
  · rw [Below.heap_setCell _ _ _ _ hn, Below.heap_setCell _ _ _ _ hn, Below.heap_setCell _ _ _ _ hn, Below.heap_setCell _ _ _ _ hn]
    exact h.frame.block q hq hn
  · rw [put4_out _ _ _ _ _ _ _ (.inr (by omega))]
    exact h.rest j (by omega)
theorem CompI.cellAt {W wr : World} {g n c : Nat} {cur cur' : Array Value} {hs : List HE} {sm : DHeap → DHeap → Bool} {kk p : Nat} (h : CompI W wr g n c cur hs sm kk p cur') {j : Nat} (hj : j < c * 4) : (wr.cell? ⟨g, j, none⟩).isSome = true := by
  have hs := h.size
  simp [World.cell?, h.block, Array.getElem?_eq_getElem (show j < cur'.size by omega)]
theorem CompI.freeAt {W wr : World} {g n c : Nat} {cur cur' : Array Value} {hs : List HE} {sm : DHeap → DHeap → Bool} {kk p : Nat} (h : CompI W wr g n c cur hs sm kk p cur') (j : Nat) : wr.frozen? ⟨g, j, none⟩ = false := by
  simp [World.frozen?, h.block]
theorem FrameL.then {T : Nat → Prop} {W w w' : World} (h : FrameL T W w) (h2 : FrameL T w w') : FrameL T W w' :=
  ⟨h2.os.trans h.os, h2.tape.trans h.tape, h2.output.trans h.output, Nat.le_trans h.size h2.size, fun k hk hn => (h2.block k (Nat.lt_of_lt_of_le hk h.size) hn).trans (h.block k hk hn), Nat.le_trans h.drawn h2.drawn⟩
abbrev zero35 : Array Value := #[.int .i64 0, .int .i64 0, .int .i64 0, .slice none 0 0]
theorem zeros_one (n : Nat) : (Builtin.zeroCells zero35 n).toList.length = n * 4 ∧ ∀ v ∈ (Builtin.zeroCells zero35 n).toList, v.oneCell' = true := by
  refine ⟨by simp [Builtin.zeroCells], fun v hv => ?_⟩
  simp only [Builtin.zeroCells, Array.toList_map, List.mem_map] at hv
  obtain ⟨i, _, rfl⟩ := hv
  have : i % 4 < 4 := Nat.mod_lt _ (by decide)
  show (zero35[i % 4]!).oneCell' = true
  generalize i % 4 = j at this
  match j, this with
  | 0, _ => rfl
  | 1, _ => rfl
  | 2, _ => rfl
  | 3, _ => rfl
theorem run_clear4 {ty : TypeId} (w : World) (g o n c : Nat) (hn : 0 < n) (hc : ∀ j, j < n * 4 → (w.cell? ⟨g, o + j, none⟩).isSome = true) (hf : ∀ j, j < n * 4 → w.frozen? ⟨g, o + j, none⟩ = false) :
    (Builtin.clear_ #[25] ty #[.slice (some ⟨g, o, none⟩) n c]).run Try.prog w = .ok (.tuple #[]) (w.setCells g o (Builtin.zeroCells zero35 n).toList) := by
  obtain ⟨hl, h1⟩ := zeros_one n
  have hst := run_storeCells_cells (P := Try.prog) g o (Builtin.zeroCells zero35 n).toList 0 w (by simpa [hl] using hc) (by simpa [hl] using hf) h1
  simp only [Nat.add_zero] at hst
  obtain ⟨m, rfl⟩ : ∃ m, n = m + 1 := ⟨n - 1, by omega⟩
  obtain ⟨i0, hi0, hz0, hz1, hz2⟩ := info_parts info35
  have hv : ∀ w, (zeroValue 35).run Try.prog w = .ok (.agg zero35) w := fun w => by simp [zeroValue, typeInfo, program, Sem.run, hi0, hz0]
  simp [Builtin.clear_, run_underlying Try.underlying25, hv, Value.cells, hst]
theorem setCells_block {g t : Nat} {fz : Nat × Nat} : ∀ (vs : List Value) (o : Nat) {w : World} {cur : Array Value}, w.heap[g]? = some (.cells cur t fz) → ∃ w9 cur9, w.setCells g o vs = w9 ∧ FrameL (fun q => q = g) w w9 ∧ w9.heap[g]? = some (.cells cur9 t fz) ∧ cur9.size = cur.size ∧ cur9.toList.take o = cur.toList.take o
  | [], o, w, cur, h => ⟨w, cur, rfl, FrameL.refl' _ _, h, rfl, rfl⟩
  | v :: r, o, w, cur, h => by
    obtain ⟨w9, cur9, e, f, b, s, t'⟩ := setCells_block r (o + 1) (set1 h o v)
    refine ⟨w9, cur9, by rw [World.setCells]; exact e, FrameL.then (w := w.setCell ⟨g, o, none⟩ v) ⟨rfl, rfl, rfl, by simp, fun q _ hn => Below.heap_setCell _ _ _ _ hn, Nat.le_refl _⟩ f, b, by rw [s]; simp, ?_⟩
    have := congrArg (List.take o) t'
    rw [List.take_take, List.take_take, show min o (o + 1) = o by omega] at this
    rw [this]
    apply List.ext_getElem?
    intro j
    rw [List.getElem?_take, List.getElem?_take]
    split
    · rw [Array.getElem?_toList, Array.getElem?_toList, Array.getElem?_setIfInBounds_ne (by omega)]
    · rfl
set_option maxHeartbeats 2000000 in
theorem compact_calls {W : World} {B : Nat} {v : Value} {hs : List HE} (h : DeepH W B 35 42 v hs) (hn : hs.length ≤ 1000) (sm : DHeap → DHeap → Bool) (hsm : ∀ a ∈ hs, ∀ b ∈ hs, P_Heap_same (a.heap, b.heap, ()) = some (sm a.heap b.heap, ())) :
    Calls Try.prog 66 #[v, .func (.func 31) #[] #[]] W fun e w' => ∃ v', e = .returned v' ∧ FrameL (fun q => v.ownBlock = some q) W w' ∧ DeepH w' B 35 42 v' (dd sm hs) := by
  rcases h.outer.2 with ⟨rfl, h0'⟩ | ⟨g, c, cur, rfl, hb, hg, hnc, hcm, hcs, htake⟩
  · have : hs = [] := List.length_eq_zero_iff.1 h0'
    subst this
    go_enter Try.func66, Try.ntmps66
    go_wp2
    go_ret
    exact ⟨_, rfl, FrameL.refl' _ _, h⟩
  · by_cases h2 : hs.length < 2
    · have h2' : ((hs.length : Int) < 2) := by omega
      go_enter Try.func66, Try.ntmps66
      go_wp2
      go_ret
      refine ⟨_, rfl, FrameL.refl' _ _, ?_⟩
      match hs, h2 with
      | [], _ => exact h
      | [a], _ => exact h
    · have h2' : ¬ ((hs.length : Int) < 2) := by omega
      go_enter Try.func66, Try.ntmps66
      go_wp2
      go_loopg [5] hs.length (fun m v5 wr => ∃ (k : Nat), 1 ≤ k ∧ k ≤ hs.length ∧ m = hs.length + 1 - k ∧ v5 = .int .i64 k ∧ CompI W wr g hs.length c cur hs sm k k cur)
      case atStart => exact ⟨1, Nat.le_refl _, by omega, by omega, rfl, CompI.start hg hcs htake (by omega)⟩
      case round =>
        obtain ⟨k, hk1, hk, rfl, rfl, hI⟩ := hrel
        by_cases hlt : k < hs.length
        · obtain ⟨b, hb'⟩ : ∃ b, hs[k]? = some b := ⟨hs[k], List.getElem?_eq_getElem hlt⟩
          obtain ⟨a, ha⟩ : ∃ a, hs[k - 1]? = some a := ⟨hs[k - 1], List.getElem?_eq_getElem (by omega)⟩
          have hltI : (k : Int) < (hs.length : Int) := by omega
          have hw1 : IntKind.i64.wrap ((k : Int) - 1) = ((k - 1 : Nat) : Int) := by rw [show ((k - 1 : Nat) : Int) = (k : Int) - 1 by omega]; exact IntWalk.i64_in _ (by omega)
          have hltP : ((k - 1 : Nat) : Int) < (hs.length : Int) := by omega
          obtain ⟨x0, x1, x2, x3⟩ := at_enc hI.block htake hlt hb'
          obtain ⟨y0, y1, y2, y3⟩ := at_enc hI.block htake (by omega) ha
          have hcall : ∀ V, Below wr.heap.size wr V → Calls Try.prog 31 #[.agg #[.int .i64 b.x, .int .i64 b.y, .int .i64 b.z, b.v], .agg #[.int .i64 a.x, .int .i64 a.y, .int .i64 a.z, a.v]] V fun e' w' => e' = .returned (.bool (sm b.heap a.heap)) ∧ Below wr.heap.size wr w' := fun V hbV => by
            refine (same_calls h sm hsm (V := V) (frameOf (hI.frame.below hbV)) (List.mem_of_getElem? hb') (List.mem_of_getElem? ha)).mono ?_
            rintro e w2 ⟨rfl, hb2⟩
            exact ⟨rfl, belowThen hbV hb2⟩
          obtain ⟨s, hs'⟩ : ∃ s, sm b.heap a.heap = s := ⟨_, rfl⟩
          rw [hs'] at hcall
          go_wp2
          go_cut [28] from 18 to 28 (fun v28 wc => v28 = .bool s ∧ Below wr.heap.size wr wc)
          case first =>
            go_region_with (go_at_call 31; refine (hcall _ (by (repeat (first | exact Below.refl _ _ | apply belowD)))).mono ?_; rintro e w2 ⟨rfl, hl2⟩)
            all_goals (go_wp2_with fail; go_meet; exact ⟨rfl, hl2⟩)
          case rest =>
            obtain ⟨rfl, hbc⟩ := hcut
            have hI2 := hI.below hbc
            clear hcall x0 x1 x2 x3 y0 y1 y2 y3 hw1 hltP
            cases s
            · go_wp2
              go_roundg (hs.length + 1 - (k + 1))
              case measure => omega
              case rel => exact ⟨k + 1, by omega, by omega, rfl, by go_num, hI2.up hk1 hb' ha hs' htake hlt⟩
            · go_wp2
              clear hI
              go_loopg [5, 7] (hs.length - k) (fun m v5 v7 wr2 => ∃ (kk k2 : Nat) (cur' : Array Value), 1 ≤ k2 ∧ k + k2 ≤ hs.length ∧ kk < k + k2 ∧ m = hs.length + 1 - (k + k2) ∧ v5 = .int .i64 kk ∧ v7 = .int .i64 k2 ∧ CompI W wr2 g hs.length c cur hs sm kk (k + k2) cur')
              case atStart => exact ⟨k, 1, cur, Nat.le_refl _, by omega, by omega, by omega, rfl, rfl, hI2.drop hk1 hb' ha hs'⟩
              case round =>
                obtain ⟨kk, k2, cur', h21, hk2, hkk, rfl, rfl, rfl, hJ⟩ := hrel
                clear hI2
                by_cases hlt2 : k + k2 < hs.length
                · obtain ⟨b2, hb2'⟩ : ∃ b, hs[k + k2]? = some b := ⟨hs[k + k2], List.getElem?_eq_getElem hlt2⟩
                  obtain ⟨a2, ha2⟩ : ∃ a, hs[k + k2 - 1]? = some a := ⟨hs[k + k2 - 1], List.getElem?_eq_getElem (by omega)⟩
                  have hltI2 : (k2 : Int) < ((hs.length - k : Nat) : Int) := by omega
                  obtain ⟨x0, x1, x2, x3⟩ := hJ.high htake (by omega) hlt2 hb2'
                  obtain ⟨y0, y1, y2, y3⟩ := hJ.high htake (by omega) (by omega) ha2
                  rw [Nat.add_mul] at x0 x1 x2 x3
                  rw [show (k + k2 - 1) * 4 = k * 4 + (k2 - 1) * 4 by omega] at y0 y1 y2 y3
                  have hw1 : IntKind.i64.wrap ((k2 : Int) - 1) = ((k2 - 1 : Nat) : Int) := by rw [show ((k2 - 1 : Nat) : Int) = (k2 : Int) - 1 by omega]; exact IntWalk.i64_in _ (by omega)
                  have hltP : ((k2 - 1 : Nat) : Int) < ((hs.length - k : Nat) : Int) := by omega
                  have hcall : ∀ V, Below wr.heap.size wr V → Calls Try.prog 31 #[.agg #[.int .i64 b2.x, .int .i64 b2.y, .int .i64 b2.z, b2.v], .agg #[.int .i64 a2.x, .int .i64 a2.y, .int .i64 a2.z, a2.v]] V fun e' w' => e' = .returned (.bool (sm b2.heap a2.heap)) ∧ Below wr.heap.size wr w' := fun V hbV => by
                    refine (same_calls h sm hsm (V := V) (frameOf (hJ.frame.below hbV)) (List.mem_of_getElem? hb2') (List.mem_of_getElem? ha2)).mono ?_
                    rintro e w2 ⟨rfl, hb2⟩
                    exact ⟨rfl, belowThen hbV hb2⟩
                  obtain ⟨s, hs2⟩ : ∃ s, sm b2.heap a2.heap = s := ⟨_, rfl⟩
                  rw [hs2] at hcall
                  go_wp2
                  go_cut [49] from 38 to 49 (fun v49 wc => v49 = .bool (!s) ∧ Below wr.heap.size wr wc)
                  case first =>
                    go_region_with (go_at_call 31; refine (hcall _ (by (repeat (first | exact Below.refl _ _ | apply belowD)))).mono ?_; rintro e w2 ⟨rfl, hl2⟩)
                    all_goals (go_wp2_with fail; go_meet; exact ⟨rfl, hl2⟩)
                  case rest =>
                    obtain ⟨rfl, hbc⟩ := hcut
                    have hJ2 := hJ.below hbc
                    clear hcall x0 x1 x2 x3 y0 y1 y2 y3 hw1 hltP hJ
                    cases s
                    · obtain ⟨x0, x1, x2, x3⟩ := hJ2.high htake (by omega) hlt2 hb2'
                      rw [Nat.add_mul] at x0 x1 x2 x3
                      have hkI : (kk : Int) < (hs.length : Int) := by omega
                      obtain ⟨ba, bl, bc, hbv⟩ : ∃ ba bl bc, b2.v = .slice ba bl bc := by
                        obtain ⟨x, y, e⟩ := (h.inner _ b2 hb2').slice1
                        exact ⟨x, _, y, e⟩
                      rw [hbv] at x3
                      obtain ⟨f0, f1, f2, f3⟩ := hJ2.free kk
                      obtain ⟨z0, z1, z2, z3⟩ := hJ2.low kk (by omega)
                      go_wp2
                      go_roundg (hs.length + 1 - (k + (k2 + 1)))
                      case measure => omega
                      case rel => exact ⟨kk + 1, k2 + 1, _, by omega, by omega, by omega, rfl, by go_num, by go_num, by rw [← hbv]; exact hJ2.store (by omega) hb2' ha2 hs2 hkk (by omega)⟩
                    · go_wp2
                      go_roundg (hs.length + 1 - (k + (k2 + 1)))
                      case measure => omega
                      case rel => exact ⟨kk, k2 + 1, cur', by omega, by omega, by omega, rfl, rfl, by go_num, hJ2.drop (by omega) hb2' ha2 hs2⟩
                · have he : k + k2 = hs.length := by omega
                  have hltI2 : ¬ ((k2 : Int) < ((hs.length - k : Nat) : Int)) := by omega
                  have hkI : (kk : Int) ≤ (hs.length : Int) := by omega
                  have hkc : (kk : Int) ≤ (c : Int) := by omega
                  have hJ3 := hJ
                  rw [he] at hJ3
                  have hcl := fun ty => run_clear4 (ty := ty) wr g (kk * 4) (hs.length - kk) (c - kk) (by omega) (fun j hj => hJ3.cellAt (by omega)) (fun j hj => hJ3.freeAt _)
                  obtain ⟨w9, cur9, hw9, hf9, hb9, hs9, ht9⟩ := setCells_block (Builtin.zeroCells zero35 (hs.length - kk)).toList (kk * 4) hJ3.block
                  rw [hw9] at hcl
                  clear hJ
                  go_wp2
                  go_ret
                  refine ⟨_, rfl, frameOf (hJ3.frame.then hf9), ?_⟩
                  have hfull : hs.take hs.length = hs := List.take_length
                  have hl := hJ3.len
                  have ht := hJ3.take
                  rw [hfull] at hl ht
                  refine h.perm (sub_places (dd_sub sm hs)) ⟨by rw [encs_len], .inr ⟨g, c, cur9, by rw [hl]; rfl, hb, hb9, by omega, hcm, by rw [hs9]; exact hJ3.size, ?_⟩⟩ fun i a q ha hq => ?_
                  · rw [hl, ← ht]
                    exact ht9
                  · exact (hJ3.frame.then hf9).block q ((h.inner i a ha).lt q hq).2 fun e => h.outer_ne (by decide) ha hq (by rw [e]; rfl)
        · have he : k = hs.length := by omega
          have hltI : ¬ ((k : Int) < (hs.length : Int)) := by omega
          go_wp2
          go_ret
          rw [he] at hI
          have hfull : hs.take hs.length = hs := List.take_length
          have hl := hI.len
          rw [hfull] at hl
          rw [(dd_sub sm hs).eq_of_length hl]
          refine ⟨_, rfl, frameOf hI.frame, h.perm ⟨id, fun _ _ _ _ e => e, fun _ _ e => e⟩ ⟨h.outer.1, .inr ⟨g, c, cur, rfl, hb, hI.block, hnc, hcm, hcs, htake⟩⟩ fun i a q ha hq => ?_⟩
          exact hI.frame.block q ((h.inner i a ha).lt q hq).2 fun e => h.outer_ne (by decide) ha hq (by rw [e]; rfl)
end Go.VI
/- impl.sortedForms, by a walk. -/
namespace Go.VI
open Go.Proofs Go.RowKit
set_option maxRecDepth 100000
structure OrdOK (Pc : DHeap → Prop) (cmp : DHeap → DHeap → Int) (sm : DHeap → DHeap → Bool) : Prop where
  ceq : ∀ g h, Pc g → Pc h → P_impl_compareHeaps (g, h, ()) = some (cmp g h, ())
  irr : ∀ g, Pc g → ¬ cmp g g < 0
  tr : ∀ f g h, Pc f → Pc g → Pc h → cmp f g < 0 → cmp g h < 0 → cmp f h < 0
  ntr : ∀ f g h, Pc f → Pc g → Pc h → ¬ cmp f g < 0 → ¬ cmp g h < 0 → ¬ cmp f h < 0
  seq : ∀ g h, Pc g → Pc h → P_Heap_same (g, h, ()) = some (sm g h, ())
def SortedOf (cmp : DHeap → DHeap → Int) (sm : DHeap → DHeap → Bool) (hs hs2 : List HE) : Prop :=
  ∃ hs', hs'.Perm hs ∧ (∀ (i j : Nat) (a b : HE), i < j → hs'[i]? = some a → hs'[j]? = some b → ¬ cmp b.heap a.heap < 0) ∧ dd sm hs' = hs2
set_option maxHeartbeats 1000000 in
theorem sorted_calls {W : World} {B : Nat} {v : Value} {hs : List HE} {a0 : HE} (h : DeepH W B 35 42 v hs) (h0 : a0 ∈ hs) (hn : hs.length ≤ 1000) {Pc : DHeap → Prop} (hP : ∀ a ∈ hs, Pc a.heap) {cmp : DHeap → DHeap → Int} {sm : DHeap → DHeap → Bool} (O : OrdOK Pc cmp sm) :
    Calls Try.prog 36 #[v] W fun e w' => ∃ v' hs2, e = .returned v' ∧ FrameL (fun q => v.ownBlock = some q) W w' ∧ SortedOf cmp sm hs hs2 ∧ DeepH w' B 35 42 v' hs2 := by
  have hs1 := sort_calls h h0 (by omega) Pc hP cmp O.ceq O.irr O.tr O.ntr
  have hs2 : ∀ V hs', hs'.Perm hs → DeepH V B 35 42 v hs' → Calls Try.prog 66 #[v, .func (.func 31) #[] #[]] V fun e w' => ∃ v', e = .returned v' ∧ FrameL (fun q => v.ownBlock = some q) V w' ∧ DeepH w' B 35 42 v' (dd sm hs') := fun V hs' hp hd =>
    compact_calls hd (by rw [hp.length_eq]; exact hn) sm fun a ha b hb => O.seq _ _ (hP a (hp.mem_iff.1 ha)) (hP b (hp.mem_iff.1 hb))
  obtain ⟨va, vl, vc, hv⟩ : ∃ va vl vc, v = .slice va vl vc := by
    rcases h.outer.2 with ⟨rfl, _⟩ | ⟨g, c, cur, rfl, _⟩
    · exact ⟨none, 0, 0, rfl⟩
    · exact ⟨_, _, _, rfl⟩
  subst hv
  go_enter Try.func36, Try.ntmps36
  go_wp2_with (first
    | (go_at_call 65; refine hs1.mono ?_; rintro e w2 ⟨rfl, hf2, hs', hp, hso, hd2⟩; have hc2 := hs2 w2 hs' hp hd2)
    | (go_at_call 66; refine hc2.mono ?_; rintro e w3 ⟨v3, rfl, hf3, hd3⟩))
  go_ret
  exact ⟨_, _, rfl, hf2.then hf3, ⟨hs', hp, fun i j a b h1 h2 h3 => Int.not_lt.2 (hso i j a b h1 h2 h3), rfl⟩, hd3⟩
end Go.VI
/- slices.Clone of a row of cells, by a walk. -/
namespace Go.VI
open Go.Proofs Go.RowKit
set_option maxRecDepth 100000
def enc3 (l : List DA3) : List Value := (l.map fun c => [Value.int .i64 c.1, .int .i64 c.2.1, .int .i64 c.2.2.1]).flatten
theorem enc3_len (l : List DA3) : (enc3 l).length = l.length * 3 := by
  induction l with
  | nil => rfl
  | cons a r ih => simp [enc3] at ih ⊢; omega
theorem enc3_append (a b : List DA3) : enc3 (a ++ b) = enc3 a ++ enc3 b := by simp [enc3]
theorem enc3_at {l : List DA3} {i : Nat} {c : DA3} (h : l[i]? = some c) (j : Nat) (hj : j < 3) : (enc3 l)[i * 3 + j]? = [Value.int .i64 c.1, .int .i64 c.2.1, .int .i64 c.2.2.1][j]? := by
  induction l generalizing i with
  | nil => simp at h
  | cons b r ih =>
    have e : enc3 (b :: r) = [Value.int .i64 b.1, .int .i64 b.2.1, .int .i64 b.2.2.1] ++ enc3 r := by simp [enc3]
    rw [e]
    cases i with
    | zero =>
      obtain rfl : b = c := by simpa using h
      rw [List.getElem?_append_left (by simp; omega)]
      simp
    | succ i =>
      rw [List.getElem?_append_right (by simp; omega)]
      have := ih (by simpa using h) (i := i)
      simpa [show (i + 1) * 3 + j - 3 = i * 3 + j by omega] using this
theorem enc3_one (l : List DA3) : ∀ u ∈ enc3 l, u.oneCell' = true := by
  intro u hu
  simp only [enc3, List.mem_flatten, List.mem_map] at hu
  obtain ⟨_, ⟨c, _, rfl⟩, hu⟩ := hu
  simp at hu
  rcases hu with rfl | rfl | rfl <;> rfl
theorem reps3 (Z : Nat → Prop) (w : World) : ∀ l : List DA3, RepsL Z w A3ty l (enc3 l)
  | [] => rfl
  | (a, b, c, ()) :: r => ⟨[.int .i64 a, .int .i64 b, .int .i64 c], enc3 r, by simp [enc3], repA3 a b c, reps3 Z w r⟩
theorem own3 {Z : Nat → Prop} {w : World} {B : Nat} {v : Value} {l : List DA3} (h : w.ownsRow B 42 3 v l.length (enc3 l)) : OwnV Z w B 42 A3ty v l :=
  ⟨by decide, enc3 l, OwnRow.of (t := A3ty) h, reps3 Z w l⟩
theorem read3 {Z : Nat → Prop} {W : World} {l : List DA3} {a : Addr} {n c : Nat} (h : RepI Z W (.sl A3ty) l [.slice (some a) n c]) : ∀ j u, (enc3 l)[j]? = some u → W.cell? (a.add j) = some u := by
  intro j u hu
  have hj : j < (enc3 l).length := by
    rcases Nat.lt_or_ge j (enc3 l).length with h' | h'
    · exact h'
    · rw [List.getElem?_eq_none h'] at hu; cases hu
  rw [enc3_len] at hj
  have hi : j / 3 < l.length := by omega
  have hm : j % 3 < 3 := Nat.mod_lt _ (by decide)
  have e := enc3_at (List.getElem?_eq_getElem hi) (j % 3) hm
  rw [show j / 3 * 3 + j % 3 = j by omega] at e
  obtain ⟨A, c', e', _, h1⟩ := h
  obtain ⟨rfl, _⟩ : some a = A ∧ n = l.length ∧ c = c' := by simpa using e'
  obtain ⟨a', ha, _, xs, hx, hc⟩ := h1 (j / 3) _ (List.getElem?_eq_getElem hi)
  obtain rfl := Option.some.inj ha
  obtain ⟨y1, y2, rfl, rfl, y3, y4, rfl, rfl, y5, y6, rfl, rfl, rfl⟩ := hx
  have := hc (j % 3) u (by rw [← hu, e]; rfl)
  rw [show j / 3 * A3ty.size + j % 3 = j by show j / 3 * 3 + j % 3 = j; omega] at this
  exact this
theorem info42 : (Try.prog.info? 42).map (fun i => (i.zero, i.size, i.bytes)) = some (some (.agg #[.int .i64 0, .int .i64 0, .int .i64 0]), 3, 24) := by kernel_rfl
set_option maxHeartbeats 1000000 in
theorem c_clone {Z : Nat → Prop} {W : World} {l : List DA3} {lv : Value} (h : RepI Z W (.sl A3ty) l [lv]) (_hz : ∀ g, Z g → g < W.heap.size) (hn : l.length ≤ 1000) :
    Calls Try.prog 35 #[lv] W fun e w' => ∃ x y, e = .returned (.slice x l.length y) ∧ Below W.heap.size W w' ∧ w'.ownsRow W.heap.size 42 3 (.slice x l.length y) l.length (enc3 l) := by
  have h' := h
  obtain ⟨A, c, e', hlc, h1⟩ := h'
  obtain rfl : lv = .slice A l.length c := by simpa using e'
  cases A with
  | none =>
    have hl : l = [] := by
      cases l with
      | nil => rfl
      | cons x r => obtain ⟨a, ha, _⟩ := h1 0 x rfl; cases ha
    subst hl
    have q33 : ∀ (w : World) (a : Option Addr) (n c n' c' : Nat), (binOp .eql 33 (.slice a n c) (.slice none n' c')).run Try.prog w = .ok (.bool a.isNone) w := fun w a n c n' c' => Lib.run_eql_slice_nil w 33 42 a n c n' c' Try.underlying33
    go_enter Try.func35, Try.ntmps35
    go_wp2
    go_ret
    exact ⟨_, _, rfl, Below.refl _ _, rfl, .inl ⟨rfl, rfl⟩⟩
  | some a =>
    have hc := read3 h
    have hc2 : ∀ j u, (enc3 l)[j]? = some u → (W.alloc (.cells #[] 42)).cell? (a.add j) = some u := fun j u hu => by
      have := hc j u hu
      have hlt : (a.add j).block < W.heap.size := by
        rcases Nat.lt_or_ge (a.add j).block W.heap.size with h' | h'
        · exact h'
        · simp [World.cell?, Array.getElem?_eq_none h'] at this
      rw [World.cell?_of_block (w := W) (Below.heap_alloc _ _ _ hlt)]
      exact this
    have hsrc : Go.Src Try.prog 3 33 (.slice (some a) l.length c) l.length (enc3 l) (W.alloc (.cells #[] 42)) := Go.Src.ofSlice _ Try.underlying33 a _ c _ (enc3_len l) hc2 (enc3_one l)
    have how : (W.alloc (.cells #[] 42)).ownsRow W.heap.size 42 3 (.slice (some ⟨W.heap.size, 0, none⟩) 0 0) 0 [] := ⟨rfl, .inr ⟨W.heap.size, 0, #[], rfl, Nat.le_refl _, alloc_at _ _, Nat.le_refl _, by decide, rfl, rfl⟩⟩
    obtain ⟨i0, hi0, hz0, hz1, hz2⟩ := info_parts info42
    have sA := alloc_size W (.cells #[] 42)
    clear hc hc2 h1 h
    have q33 : ∀ (w : World) (a : Option Addr) (n c n' c' : Nat), (binOp .eql 33 (.slice a n c) (.slice none n' c')).run Try.prog w = .ok (.bool a.isNone) w := fun w a n c n' c' => Lib.run_eql_slice_nil w 33 42 a n c n' c' Try.underlying33
    go_enter Try.func35, Try.ntmps35
    go_wp2_with (at_builtin; refine wpList_append_own2 _ rfl _ _ 33 33 rfl W.heap.size 42 i0 (.agg #[.int .i64 0, .int .i64 0, .int .i64 0]) 3 24 Try.underlying33 hi0 hz0 hz1 hz2 rfl _ 0 [] rfl how (.slice (some a) l.length c) l.length (enc3 l) rfl hsrc (by unfold maxLen; omega) (by omega) (by rw [sA]; omega) ?_; intro v' w6 hv' hgr' hp')
    go_ret
    rw [Nat.zero_add, List.nil_append] at hv'
    obtain ⟨x, y, rfl⟩ : ∃ x y, v' = .slice x l.length y := by
      rcases hv'.2 with ⟨rfl, h0⟩ | ⟨g, c, cur, rfl, _⟩
      · exact ⟨none, 0, by rw [h0]⟩
      · exact ⟨_, _, rfl⟩
    refine ⟨_, _, rfl, ((Below.refl W.heap.size W).alloc (Nat.le_refl _) _).grown hgr' (by omega) fun j hj => by
      have e : W.heap.size = j := Option.some.inj hj
      omega, hv'⟩
end Go.VI
/- The forms of n parts, by a walk: what it hangs on, its loops' state. -/
namespace Go.VI
open Go.Proofs Go.RowKit
set_option maxRecDepth 100000
def a3V (c : DA3) : Value := .agg #[.int .i64 c.1, .int .i64 c.2.1, .int .i64 c.2.2.1]
section
variable {P : Program} {G : World → Prop} {f : FuncId} {fn : Func} {c : Code} {As : List ATy} {Z : Nat → Prop} {w : World} {xs : denA As} {vs : List Value}
theorem arrH_calls {F : denA As → Option (denL [(true, A3ty)])} (hs : Sound P G f ⟨As, [(true, A3ty)], [], F⟩)
    (hf : P.funcs[f]? = some fn) (hb : fn.body = some c) (hn : (fn.name == "runtime.NumGoroutine") = false) {r : DA3} (hG : G w) (hZ : ∀ g, Z g → g < w.heap.size) (hrel : RelArgs P G Z w As xs vs) (hF : F xs = some (r, ())) :
    Calls P f vs.toArray w fun e' w' => e' = .returned (a3V r) ∧ Below w.heap.size w w' := by
  refine (FCalls.calls (enter_run hf hb hn) (hs w Z vs xs (r, ()) hG hZ hrel hF)).mono ?_
  rintro e' w' ⟨v, rfl, Z', us, rfl, hbel, _, _, g, h1, h2, _⟩
  obtain ⟨k1, _, k3⟩ := h2 0 (true, [RCell.flat (.int .i64 r.1), RCell.flat (.int .i64 r.2.1), RCell.flat (.int .i64 r.2.2.1)]) rfl
  have a0 := (k3 0 _ rfl).2
  have a1 := (k3 1 _ rfl).2
  have a2 := (k3 2 _ rfl).2
  match us, h1, k1 with
  | [u], _, k1 =>
    have : u = mkVal true ((List.range 3).map (g 0)) := by simpa using k1
    refine ⟨?_, hbel⟩
    rw [this]
    show Ending.returned (.agg #[g 0 0, g 0 1, g 0 2]) = _
    rw [a0, a1, a2]
    rfl
  | [], h1, _ => cases h1
  | _ :: _ :: _, h1, _ => cases h1
end
theorem c_beyond {W : World} {c d : DA3} {i : Int} (hF : P_impl_beyond (c, i, ()) = some (d, ())) :
    Calls Try.prog 33 #[a3V c, .int .i64 i] W fun e' w' => e' = .returned (a3V d) ∧ Below W.heap.size W w' :=
  arrH_calls (fn := Try.f33) s_impl_beyond Try.func33 rfl (by kernel_rfl) (Z := fun _ => False) trivial (fun _ h => h.elim) (xs := (c, i, ())) (vs := [a3V c, .int .i64 i])
    ⟨_, _, rfl, (fun h => by cases h), repA3 c.1 c.2.1 c.2.2.1, _, _, rfl, (fun _ => rfl), rfl, rfl⟩ hF
theorem c_has {Z : Nat → Prop} {W : World} {l : List DA3} {lv : Value} {d : DA3} {b : Bool} (hz : ∀ g, Z g → g < W.heap.size) (h : RepI Z W (.sl A3ty) l [lv]) (hF : P_slices_Contains_3_int_3_int (l, d, ()) = some (b, ())) :
    Calls Try.prog 34 #[lv, a3V d] W fun e' w' => e' = .returned (.bool b) ∧ Below W.heap.size W w' :=
  flatH_calls (fn := Try.f34) (r := (b, ())) s_slices_Contains_3_int_3_int rfl Try.func34 rfl (by kernel_rfl) trivial hz (xs := (l, d, ())) (vs := [lv, a3V d])
    ⟨_, _, rfl, (fun _ => rfl), h, _, _, rfl, (fun h => by cases h), repA3 d.1 d.2.1 d.2.2.1, rfl⟩ hF
theorem c_hof {Z : Nat → Prop} {W : World} {l : List DA3} {lv : Value} {g : DHeap} (hz : ∀ g, Z g → g < W.heap.size) (h : RepI Z W (.sl A3ty) l [lv]) (hF : P_impl_heapOf (l, ()) = some (g, ())) :
    Calls Try.prog 32 #[lv] W fun e' w' => ∃ u, e' = .returned (hpV g u) ∧ Below W.heap.size W w' ∧ OwnV (fun _ => False) w' W.heap.size 42 A3ty u g.2.2.2.1 :=
  heapH_calls (fn := Try.f32) s_impl_heapOf Try.func32 rfl (by kernel_rfl) trivial hz (xs := (l, ())) (vs := [lv]) ⟨_, _, rfl, (fun _ => rfl), h, rfl⟩ hF
structure FormV where
  bey : DA3 → Nat → DA3
  has : List DA3 → DA3 → Bool
  hof : List DA3 → DHeap
  frm : DHeap → DHeap
def FormV.cand (V : FormV) (l : List DA3) (c : DA3) (f : Nat) : Option DHeap := if V.has l (V.bey c f) then none else some (V.frm (V.hof (l ++ [V.bey c f])))
def FormV.candC (V : FormV) (l : List DA3) (c : DA3) (n : Nat) : List DHeap := (List.range n).filterMap (V.cand l c)
def FormV.candH (V : FormV) (l : List DA3) (n : Nat) : List DHeap := (l.take n).flatMap fun c => V.candC l c 6
def FormV.cands (V : FormV) (L : List DHeap) : List DHeap := L.flatMap fun h => V.candH h.2.2.2.1 h.2.2.2.1.length
structure StepOK (V : FormV) (L : List DHeap) : Prop where
  small : L.length ≤ 10 ∧ ∀ h ∈ L, h.2.2.2.1.length ≤ 10
  bey : ∀ h ∈ L, ∀ c ∈ h.2.2.2.1, ∀ f : Nat, f < 6 → P_impl_beyond (c, (f : Int), ()) = some (V.bey c f, ())
  has : ∀ h ∈ L, ∀ c ∈ h.2.2.2.1, ∀ f : Nat, f < 6 → P_slices_Contains_3_int_3_int (h.2.2.2.1, V.bey c f, ()) = some (V.has h.2.2.2.1 (V.bey c f), ())
  hof : ∀ h ∈ L, ∀ c ∈ h.2.2.2.1, ∀ f : Nat, f < 6 → V.has h.2.2.2.1 (V.bey c f) = false → P_impl_heapOf (h.2.2.2.1 ++ [V.bey c f], ()) = some (V.hof (h.2.2.2.1 ++ [V.bey c f]), ())
  frm : ∀ h ∈ L, ∀ c ∈ h.2.2.2.1, ∀ f : Nat, f < 6 → V.has h.2.2.2.1 (V.bey c f) = false → ∃ T gf cf bf cmp, FormOK (V.hof (h.2.2.2.1 ++ [V.bey c f])) T gf cf bf cmp ∧ formOf T.length cf cmp = V.frm (V.hof (h.2.2.2.1 ++ [V.bey c f]))
theorem candC_succ (V : FormV) (l : List DA3) (c : DA3) (n : Nat) : V.candC l c (n + 1) = V.candC l c n ++ (V.cand l c n).toList := by
  unfold FormV.candC
  rw [List.range_succ, List.filterMap_append]
  congr 1
theorem candH_succ (V : FormV) (l : List DA3) (n : Nat) (c : DA3) (h : l[n]? = some c) : V.candH l (n + 1) = V.candH l n ++ V.candC l c 6 := by
  have hlt : n < l.length := by
    rcases Nat.lt_or_ge n l.length with h' | h'
    · exact h'
    · rw [List.getElem?_eq_none h'] at h; cases h
  have : l[n] = c := by rw [List.getElem?_eq_getElem hlt] at h; exact Option.some.inj h
  unfold FormV.candH
  rw [List.take_succ_eq_append_getElem hlt, this, List.flatMap_append]
  simp
theorem cands_succ (V : FormV) (L : List DHeap) (n : Nat) (h : DHeap) (hh : L[n]? = some h) : V.cands (L.take (n + 1)) = V.cands (L.take n) ++ V.candH h.2.2.2.1 h.2.2.2.1.length := by
  have hlt : n < L.length := by
    rcases Nat.lt_or_ge n L.length with h' | h'
    · exact h'
    · rw [List.getElem?_eq_none h'] at hh; cases hh
  have : L[n] = h := by rw [List.getElem?_eq_getElem hlt] at hh; exact Option.some.inj hh
  unfold FormV.cands
  rw [List.take_succ_eq_append_getElem hlt, this, List.flatMap_append]
  simp
structure LoopF (W wr : World) (v : Value) (hs : List HE) (v19 : Value) (gs : List HE) (K : List (Nat × Obj)) : Prop where
  below : Below W.heap.size W wr
  deep : DeepH wr W.heap.size 35 42 v hs
  list : DeepH wr W.heap.size 35 42 v19 gs
  apart : ∀ g, v.ownBlock = some g → ¬ ZH v19 gs g
  boxes : ∀ b o, (b, o) ∈ K → W.heap.size ≤ b ∧ wr.heap[b]? = some o ∧ v.ownBlock ≠ some b
theorem LoopF.call {W wr w' : World} {v v19 : Value} {hs gs : List HE} {K : List (Nat × Obj)} (h : LoopF W wr v hs v19 gs K) (hb : Below wr.heap.size wr w') : LoopF W w' v hs v19 gs K :=
  ⟨belowThen h.below hb, h.deep.below hb, h.list.below hb, h.apart, fun b o hm => ⟨(h.boxes b o hm).1, belowBlock (h.boxes b o hm).2.1 hb, (h.boxes b o hm).2.2⟩⟩
theorem LoopF.alloc {W wr : World} {v v19 : Value} {hs gs : List HE} {K : List (Nat × Obj)} (h : LoopF W wr v hs v19 gs K) (o : Obj) : LoopF W (wr.alloc o) v hs v19 gs ((wr.heap.size, o) :: K) := by
  have h2 := h.call (belowAlloc wr o)
  refine ⟨h2.below, h2.deep, h2.list, h2.apart, fun b o' hm => ?_⟩
  rcases List.mem_cons.1 hm with e | hm
  · obtain ⟨rfl, rfl⟩ : b = wr.heap.size ∧ o' = o := by simpa using e
    exact ⟨h.below.size, alloc_at _ _, fun e => by have := (h.deep.outer.lt _ e).2; omega⟩
  · exact h2.boxes b o' hm
theorem LoopF.less {W wr : World} {v v19 : Value} {hs gs : List HE} {K : List (Nat × Obj)} {x : Nat × Obj} (h : LoopF W wr v hs v19 gs (x :: K)) : LoopF W wr v hs v19 gs K :=
  ⟨h.below, h.deep, h.list, h.apart, fun b o hm => h.boxes b o (List.mem_cons_of_mem _ hm)⟩
theorem LoopF.push {W wr w3 w6 : World} {v v' v19 : Value} {hs gs : List HE} {K : List (Nat × Obj)} {a : HE} {o : Obj} (h : LoopF W wr v hs v19 gs K) (hb : Below wr.heap.size wr w3)
    (hu : OwnV (fun _ => False) w3 wr.heap.size 42 A3ty a.v a.cells) (hv : w6.ownsRow W.heap.size 35 4 v' (hs.length + 1) (encs hs ++ a.enc)) (hgr : GrownD (w3.alloc o) w6 v.ownBlock) (hp : v'.ownBlock = v.ownBlock ∨ v'.ownBlock = some (w3.alloc o).heap.size) :
    LoopF W w6 v' (hs ++ [a]) v19 gs K := by
  have s1 := h.below.size
  have s3 := hb.size
  have sa := alloc_size w3 o
  have hB := belowThen h.below hb
  have keep : ∀ g, g < w3.heap.size → v.ownBlock ≠ some g → w6.heap[g]? = w3.heap[g]? := fun g hg hn => by
    rw [hgr.block g (by omega) (fun e => hn e.symm), Below.heap_alloc _ _ _ hg]
  have ol := h.deep.outer
  have hz : ∀ g, ZH v19 gs g → g < wr.heap.size := fun g hg => (ZH.lt h.list g hg).2
  refine ⟨(hB.alloc (by omega) o).grown hgr (by omega) fun j hj => by have := (ol.lt j hj).1; omega, h.deep.push (by decide) hb (by omega) hu hv hgr, ?_, fun g hg hZ => ?_, fun b o' hm => ?_⟩
  · have hl := h.list.below hb
    refine ⟨ownsRow_atH hl.outer fun g hg => keep g (hl.outer.lt g hg).2 fun e => h.apart g e (.inl hg), fun i x hx => ?_, hl.apart⟩
    have hi := hl.inner i x hx
    exact hi.mono (fun _ hz => hz) (fun _ hz => hz.elim) fun g hg => keep g (hi.lt g hg).2 fun e => h.apart g e (.inr ⟨x, List.mem_of_getElem? hx, hg⟩)
  · rcases hp with e | e
    · exact h.apart g (e ▸ hg) hZ
    · have := hz g hZ
      rw [e] at hg
      have : (w3.alloc o).heap.size = g := Option.some.inj hg
      omega
  · obtain ⟨b1, b2, b3⟩ := h.boxes b o' hm
    have hlt := lt_of_block b2
    refine ⟨b1, ?_, fun e' => ?_⟩
    · rw [keep b (by omega) b3]; exact belowBlock b2 hb
    · rcases hp with e | e
      · exact b3 (e ▸ e')
      · rw [e] at e'
        have : (w3.alloc o).heap.size = b := Option.some.inj e'
        omega
theorem src3 {w : World} {n : Nat} {a0 a1 a2 : Int} (h : w.heap[n]? = some (.cells #[.int .i64 a0, .int .i64 a1, .int .i64 a2] 42)) :
    Go.Src Try.prog 3 33 (.slice (some ⟨n, 0, none⟩) 1 1) 1 [.int .i64 a0, .int .i64 a1, .int .i64 a2] w := by
  refine Go.Src.ofSlice _ Try.underlying33 _ 1 1 _ rfl (fun j u hu => ?_) (fun u hu => ?_)
  · rw [Addr.add_lit, Nat.zero_add]
    match j, hu with
    | 0, hu => obtain rfl := Option.some.inj hu; simp [World.cell?, h]
    | 1, hu => obtain rfl := Option.some.inj hu; simp [World.cell?, h]
    | 2, hu => obtain rfl := Option.some.inj hu; simp [World.cell?, h]
  · simp only [List.mem_cons, List.not_mem_nil, or_false] at hu
    rcases hu with rfl | rfl | rfl <;> rfl
theorem after_app {w5 X w7 : World} {v : Value} {e : TypeId} {s n : Nat} {xs : List Value} (hB : Below w5.heap.size w5 X) (ho : X.ownsRow w5.heap.size e s v n xs) (hg : GrownD X w7 v.ownBlock) : Below w5.heap.size w5 w7 :=
  hB.grown hg hB.size fun j hj => (ho.lt j hj).1
theorem ownsBase {w : World} {B B' : Nat} {e : TypeId} {s : Nat} {v : Value} {n : Nat} {xs : List Value} (h : w.ownsRow B e s v n xs) (hB : B' ≤ B) : w.ownsRow B' e s v n xs := by
  refine ⟨h.1, ?_⟩
  rcases h.2 with hn | ⟨g, cap, cur, e1, hb', hg, rest⟩
  · exact .inl hn
  · exact .inr ⟨g, cap, cur, e1, Nat.le_trans hB hb', hg, rest⟩
theorem f_clone {Z : Nat → Prop} {w5 U : World} {l : List DA3} {lv : Value} (hz : ∀ g, Z g → g < w5.heap.size) (h : RepI Z w5 (.sl A3ty) l [lv]) (hn : l.length ≤ 1000) (hU : Below w5.heap.size w5 U) :
    FCalls Try.prog 35 #[lv] U fun v w' => ∃ x y, v = .slice x l.length y ∧ Below U.heap.size U w' ∧ Below w5.heap.size w5 w' ∧ w'.ownsRow w5.heap.size 42 3 (.slice x l.length y) l.length (enc3 l) := by
  refine Calls.fcalls (fn := Try.f35) Try.func35 rfl (by kernel_rfl) ((c_clone (Z := Z) (RepI.mono (fun _ hz => hz) (fun g hg => hU.block g (hz g hg)) _ _ _ h) (fun g hg => Nat.lt_of_lt_of_le (hz g hg) hU.size) hn).mono ?_)
  rintro e w' ⟨x, y, rfl, hb, ho⟩
  exact ⟨_, rfl, x, y, rfl, hb, belowThen hU hb, ownsBase ho hU.size⟩
theorem f_hof {w5 U : World} {l : List DA3} {v : Value} {g : DHeap} (hU : Below w5.heap.size w5 U) (h : U.ownsRow w5.heap.size 42 3 v l.length (enc3 l)) (hF : P_impl_heapOf (l, ()) = some (g, ())) :
    FCalls Try.prog 32 #[v] U fun r w' => ∃ x n y, r = .agg #[.int .i64 g.1, .int .i64 g.2.1, .int .i64 g.2.2.1, .slice x n y] ∧ Below w5.heap.size w5 w' ∧ OwnV (fun _ => False) w' w5.heap.size 42 A3ty (.slice x n y) g.2.2.2.1 := by
  have ho := own3 (Z := fun _ => False) h
  refine Calls.fcalls (fn := Try.f32) Try.func32 rfl (by kernel_rfl) ((c_hof (Z := fun q => v.ownBlock = some q) (fun q hq => (ho.lt q hq).2) (ho.reads _ (fun _ hz => hz.elim) fun q hq => hq) hF).mono ?_)
  rintro e w' ⟨u, rfl, hb, hu⟩
  obtain ⟨x, y, rfl⟩ := hu.slice1
  exact ⟨_, rfl, x, _, y, rfl, belowThen hU hb, OwnV.rebaseH hu fun q hq => Nat.le_trans hU.size (hu.lt q hq).1⟩
theorem f_form {w5 U : World} {g r0 : DHeap} {x : Option Addr} {n y : Nat} (hU : Below w5.heap.size w5 U) (h : OwnV (fun _ => False) U w5.heap.size 42 A3ty (.slice x n y) g.2.2.2.1) {T : List D_l8Turn} {gf cf : Nat → DHeap} {bf : Nat → Bool} {cmp : DHeap → DHeap → Int} (f : FormOK g T gf cf bf cmp) (hr : formOf T.length cf cmp = r0) :
    FCalls Try.prog 30 #[.agg #[.int .i64 g.1, .int .i64 g.2.1, .int .i64 g.2.2.1, .slice x n y]] U fun r w' => ∃ x n y, r = .agg #[.int .i64 r0.1, .int .i64 r0.2.1, .int .i64 r0.2.2.1, .slice x n y] ∧ Below w5.heap.size w5 w' ∧ OwnV (fun _ => False) w' w5.heap.size 42 A3ty (.slice x n y) r0.2.2.2.1 := by
  subst hr
  refine Calls.fcalls (fn := Try.f30) Try.func30 rfl (by kernel_rfl) ((form_calls (ArgH.own h) f).mono ?_)
  rintro e w' ⟨u, rfl, hb, hu⟩
  obtain ⟨x, y, rfl⟩ := hu.slice1
  exact ⟨_, rfl, x, _, y, rfl, belowThen hU hb, OwnV.rebaseH hu fun q hq => Nat.le_trans hU.size (hu.lt q hq).1⟩
end Go.VI
