/- Sorting a row of heaps, by the library's contract. -/
import Derived.Test.YtlnfgikipeiaiaaVjMin
import Derived.Test.YtlnfgikipeiaiaaTryShelf
namespace Go.VI
open Go.Proofs Go.RowKit
open Go.Sort (flatK HoldsK size_flatK get_flatK)
set_option maxRecDepth 100000
theorem grew_of {W w' : World} (hb : Below W.heap.size W w') : ∃ q os, w' = Go.Sort.grow (W.drewN q) os := by
  refine ⟨w'.drawn - W.drawn, w'.heap.extract W.heap.size w'.heap.size, ?_⟩
  have hh : W.heap ++ w'.heap.extract W.heap.size w'.heap.size = w'.heap := by
    apply Array.ext_getElem?
    intro i
    rw [Array.getElem?_append]
    split
    · rename_i hi
      exact (hb.block i hi).symm
    · rename_i hi
      rw [Array.getElem?_extract]
      have := hb.size
      split
      · congr 1; omega
      · rw [Array.getElem?_eq_none (by omega)]
  have e1 := hb.os
  have e2 := hb.tape
  have e3 := hb.output
  have hd := hb.drawn
  obtain ⟨h, t, d, o, u⟩ := w'
  obtain ⟨h0, t0, d0, o0, u0⟩ := W
  simp only at e1 e2 e3 hh hd
  subst e1 e2 e3
  show _ = (⟨h0 ++ _, t, d0 + (d - d0), o, u⟩ : World)
  rw [hh, show d0 + (d - d0) = d by omega]
theorem perm_places {α : Type} {l' l : List α} (h : l'.Perm l) : ∃ f : Nat → Nat, (∀ i j, i < l'.length → j < l'.length → f i = f j → i = j) ∧ ∀ i a, l'[i]? = some a → l[f i]? = some a := by
  induction h with
  | nil => exact ⟨id, fun i j hi => by simp at hi, fun i a h => by simp at h⟩
  | @cons x a b _ ih =>
    obtain ⟨f, f1, f2⟩ := ih
    refine ⟨fun i => match i with | 0 => 0 | i + 1 => f i + 1, fun i j hi hj e => ?_, fun i y hy => ?_⟩
    · cases i <;> cases j <;> simp at e hi hj ⊢
      exact f1 _ _ hi hj e
    · cases i with
      | zero => simpa using hy
      | succ i => simpa using f2 i y (by simpa using hy)
  | swap x y l =>
    refine ⟨fun i => match i with | 0 => 1 | 1 => 0 | i + 2 => i + 2, fun i j hi hj e => ?_, fun i z hz => ?_⟩
    · match i, j, e with
      | 0, 0, _ => rfl
      | 0, 1, e => simp at e
      | 0, j + 2, e => simp at e
      | 1, 0, e => simp at e
      | 1, 1, _ => rfl
      | 1, j + 2, e => simp at e
      | i + 2, 0, e => simp at e
      | i + 2, 1, e => simp at e
      | i + 2, j + 2, e => simpa using e
    · match i, hz with
      | 0, hz => simpa using hz
      | 1, hz => simpa using hz
      | i + 2, hz => simpa using hz
  | trans h1 h2 ih1 ih2 =>
    obtain ⟨f, f1, f2⟩ := ih1
    obtain ⟨g, g1, g2⟩ := ih2
    have lt : ∀ {β : Type} {l : List β} {i : Nat} {a : β}, l[i]? = some a → i < l.length := fun {β l i a} ha => by
      rcases Nat.lt_or_ge i l.length with h' | h'
      · exact h'
      · rw [List.getElem?_eq_none h'] at ha; cases ha
    refine ⟨fun i => g (f i), fun i j hi hj e => ?_, fun i a ha => g2 _ a (f2 i a ha)⟩
    have hfi := lt (f2 i _ (List.getElem?_eq_getElem hi))
    have hfj := lt (f2 j _ (List.getElem?_eq_getElem hj))
    exact f1 i j hi hj (g1 _ _ hfi hfj e)
def HG (Z : Nat → Prop) (w : World) (Pc : DHeap → Prop) : Type := { a : HE // RepI Z w (.sl A3ty) a.cells [a.v] ∧ Pc a.heap }
def HG.enc {Z : Nat → Prop} {w : World} {Pc : DHeap → Prop} (a : HG Z w Pc) : List Value := a.1.enc
theorem HG.one {Z : Nat → Prop} {w : World} {Pc : DHeap → Prop} (x : HG Z w Pc) : ∀ v ∈ x.enc, v.oneCell' = true := by
  obtain ⟨⟨a, b, c, l, v⟩, ⟨A, n, h, _⟩, _⟩ := x
  obtain rfl : v = .slice A l.length n := by simpa using h
  intro u hu
  simp [HG.enc, HE.enc] at hu
  rcases hu with rfl | rfl | rfl | rfl <;> rfl
theorem flat_encs {Z : Nat → Prop} {w : World} {Pc : DHeap → Prop} [Inhabited (HG Z w Pc)] (d : Array (HG Z w Pc)) : (flatK HG.enc 4 d).toList = encs (d.toList.map (·.1)) := by
  apply List.ext_getElem?
  intro t
  rcases Nat.lt_or_ge t (d.size * 4) with ht | ht
  · have h1 : (flatK HG.enc 4 d).toList[t]? = some (flatK HG.enc 4 d)[t]! := by
      rw [Array.getElem?_toList, Array.getElem?_eq_getElem (by simpa using ht), getElem!_pos _ t (by simpa using ht)]
    rw [h1, get_flatK _ _ _ _ ht]
    have hi : t / 4 < d.size := by omega
    have hm : t % 4 < 4 := Nat.mod_lt _ (by decide)
    rw [getElem!_pos d _ hi]
    have ha : (d.toList.map (·.1))[t / 4]? = some d[t / 4].1 := by simp [hi]
    have := encs_at ha (t % 4) hm
    rw [show t / 4 * 4 + t % 4 = t by omega] at this
    rw [this]
    show _ = (d[t / 4].1.enc)[t % 4]?
    rw [getElem!_pos (HG.enc d[t / 4]) (t % 4) (by show t % 4 < 4; exact hm)]
    exact (List.getElem?_eq_getElem (by show t % 4 < 4; exact hm)).symm
  · rw [List.getElem?_eq_none (by simpa using ht), List.getElem?_eq_none (by rw [encs_len]; simpa using ht)]
theorem sorted_world {w w' : World} {g n : Nat} {cur F : Array Value} {e : TypeId} {os : Array Obj} (hg : w.heap[g]? = some (.cells cur e (0, 0))) (hF : F.size ≤ cur.size) (hw : w' = Go.Sort.grow (Go.Sort.putRow id (Go.Sort.ahead w n) g 0 F) os) :
    FrameL (fun k => k = g) w w' ∧ ∃ cur', w'.heap[g]? = some (.cells cur' e (0, 0)) ∧ cur'.size = cur.size ∧ cur'.toList.take F.size = F.toList := by
  have hlt := lt_of_block hg
  subst hw
  have hb : ∀ k, k < w.heap.size → (Go.Sort.grow (Go.Sort.putRow id (Go.Sort.ahead w n) g 0 F) os).heap[k]? = (w.heap.modify g (Go.Sort.onCells (Go.Sort.putCells id 0 F)))[k]? := fun k hk => by
    show ((w.heap.modify g _) ++ os)[k]? = _
    rw [Array.getElem?_append_left (by simpa using hk)]
  refine ⟨⟨rfl, rfl, rfl, ?_, fun k hk hn => ?_, Nat.le_add_right _ _⟩, Go.Sort.putCells id 0 F cur, ?_, by simp [Go.Sort.putCells], ?_⟩
  · show w.heap.size ≤ ((w.heap.modify g _) ++ os).size
    simp
  · rw [hb k hk, Array.getElem?_modify, if_neg (fun e => hn e.symm)]
  · rw [hb g hlt, Array.getElem?_modify, if_pos rfl, hg]
    rfl
  · apply List.ext_getElem?
    intro i
    rw [List.getElem?_take]
    split
    · rename_i hi
      rw [Array.getElem?_toList, Array.getElem?_toList]
      unfold Go.Sort.putCells
      rw [Array.getElem?_mapIdx, Array.getElem?_eq_getElem (show i < cur.size by omega), Array.getElem?_eq_getElem hi]
      simp [hi]
    · rename_i hi
      rw [List.getElem?_eq_none (by simpa using hi)]
theorem isAgg35 (w : World) : (isAgg 35).run Try.prog w = .ok true w := by
  have h : (Try.prog.underlying 35).isSome = true := by rw [Try.underlying35]; rfl
  simp [isAgg, run_underlying Try.underlying35]
theorem sizeOf35 (w : World) : (Go.sizeOf 35).run Try.prog w = .ok 4 w := by
  obtain ⟨i0, hi, hz0, hz1, hz2⟩ := info_parts info35
  simp [Go.sizeOf, typeInfo, program, Sem.run, hi, hz1]
set_option maxHeartbeats 1000000 in
theorem sort_calls {W : World} {B : Nat} {v : Value} {hs : List HE} {a0 : HE} (h : DeepH W B 35 42 v hs) (h0 : a0 ∈ hs) (hn : hs.length ≤ 1000000) (Pc : DHeap → Prop) (hP : ∀ a ∈ hs, Pc a.heap) (cmp : DHeap → DHeap → Int)
    (hcmp : ∀ g h, Pc g → Pc h → P_impl_compareHeaps (g, h, ()) = some (cmp g h, ())) (hirr : ∀ g, Pc g → ¬ cmp g g < 0) (htr : ∀ f g h, Pc f → Pc g → Pc h → cmp f g < 0 → cmp g h < 0 → cmp f h < 0) (hntr : ∀ f g h, Pc f → Pc g → Pc h → ¬ cmp f g < 0 → ¬ cmp g h < 0 → ¬ cmp f h < 0) :
    Calls Try.prog 65 #[v, .func (.func 59) #[] #[]] W fun e w' => e = .returned (.tuple #[]) ∧ FrameL (fun k => v.ownBlock = some k) W w' ∧ ∃ hs', hs'.Perm hs ∧ (∀ (i j : Nat) (a b : HE), i < j → hs'[i]? = some a → hs'[j]? = some b → ¬ cmp b.heap a.heap < 0) ∧ DeepH w' B 35 42 v hs' := by
  obtain ⟨Z, hZ⟩ : ∃ Z : Nat → Prop, Z = fun g => ∃ a ∈ hs, a.v.ownBlock = some g := ⟨_, rfl⟩
  have hin : ∀ a ∈ hs, RepI Z W (.sl A3ty) a.cells [a.v] := fun a ha => by
    obtain ⟨i, hi⟩ := List.mem_iff_getElem?.1 ha
    exact (h.inner i a hi).reads _ (fun _ hz => hz.elim) fun g hg => by rw [hZ]; exact ⟨a, ha, hg⟩
  have hZlt : ∀ g, Z g → g < W.heap.size ∧ v.ownBlock ≠ some g := fun g hg => by
    rw [hZ] at hg
    obtain ⟨a, ha, hg⟩ := hg
    obtain ⟨i, hi⟩ := List.mem_iff_getElem?.1 ha
    exact ⟨((h.inner i a hi).lt g hg).2, h.outer_ne (by decide) hi hg⟩
  haveI : Inhabited (HG Z W Pc) := ⟨⟨a0, hin a0 h0, hP a0 h0⟩⟩
  have hpos : 0 < hs.length := List.length_pos_of_mem h0
  rcases h.outer.2 with ⟨_, h0'⟩ | ⟨g, cap, cur, rfl, hb, hg, hnc, hcm, hcs, htake⟩
  · omega
  obtain ⟨d, hd⟩ : ∃ d : Array (HG Z W Pc), d.toList.map (·.1) = hs := ⟨(hs.attach.map fun a => (⟨a.1, hin a.1 a.2, hP a.1 a.2⟩ : HG Z W Pc)).toArray, by
    show List.map (fun x => x.val) (hs.attach.map fun a => (⟨a.1, hin a.1 a.2, hP a.1 a.2⟩ : HG Z W Pc)) = hs
    rw [List.map_map]
    exact List.attach_map_subtype_val hs⟩
  have hds : d.size = hs.length := by rw [← hd]; simp
  have hflat : (flatK HG.enc 4 d).toList = encs hs := by rw [flat_encs, hd]
  have hcells := h.outer.cells (g := g) rfl
  have hH : HoldsK HG.enc 4 W g 0 d := by
    intro j hj
    have hj' : j < (flatK HG.enc 4 d).size := hj
    have e1 : (encs hs)[j]? = some (flatK HG.enc 4 d)[j]! := by
      rw [← hflat, Array.getElem?_toList, Array.getElem?_eq_getElem hj', getElem!_pos _ j hj']
    have c1 := hcells j _ e1
    rw [Addr.add_lit] at c1
    refine ⟨c1, ?_⟩
    simp [World.frozen?, hg]
  have hcmpl : CmpLays Try.prog 59 #[] HG.enc 4 (fun x y : HG Z W Pc => cmp x.1.heap y.1.heap) g 0 d.size W := by
    intro m os dk hdk x y
    have hF : (flatK HG.enc 4 dk).size ≤ cur.size := by rw [size_flatK, hdk, hds, hcs]; exact Nat.mul_le_mul_right _ hnc
    obtain ⟨f1, _⟩ := sorted_world (w := W) (n := m) (os := os) (F := flatK HG.enc 4 dk) hg hF rfl
    have hrep : ∀ z : HG Z W Pc, RepI Z (Go.Proofs.sortWorldK HG.enc 4 W g 0 m dk os) (.sl A3ty) z.1.cells [z.1.v] := fun z =>
      RepI.mono (fun _ hz => hz) (fun k hk => f1.block k (hZlt k hk).1 fun e => (hZlt k hk).2 (by rw [e]; rfl)) _ _ _ z.2.1
    have hc := c_cmp (W := Go.Proofs.sortWorldK HG.enc 4 W g 0 m dk os) (Z := Z) (fun k hk => Nat.lt_of_lt_of_le (hZlt k hk).1 f1.size) (hrep x) (hrep y) (hcmp x.1.heap y.1.heap x.2.2 y.2.2)
    have ea : (#[Value.agg x.enc.toArray, .agg y.enc.toArray] ++ #[] : Array Value) = #[hpV x.1.heap x.1.v, hpV y.1.heap y.1.v] := Array.append_empty
    have hc2 := Calls.mono hc (R' := fun e w' => e = .returned (.int .i64 (cmp x.1.heap y.1.heap)) ∧ ∃ q os', w' = Go.Sort.grow ((Go.Proofs.sortWorldK HG.enc 4 W g 0 m dk os).drewN q) os') fun e w' h => ⟨h.1, grew_of h.2⟩
    rw [← ea] at hc2
    exact hc2
  have hO : Go.Sort.SWO (ltOf fun x y : HG Z W Pc => cmp x.1.heap y.1.heap) :=
    ⟨fun x => by simpa [ltOf] using hirr _ x.2.2, fun x y z h1 h2 => by
      simp only [ltOf, decide_eq_true_eq] at h1 h2 ⊢
      exact htr _ _ _ x.2.2 y.2.2 z.2.2 h1 h2, fun x y z h1 h2 => by
      simp only [ltOf, decide_eq_false_iff_not] at h1 h2 ⊢
      exact hntr _ _ _ x.2.2 y.2.2 z.2.2 h1 h2⟩
  have eg : ∀ args w, (callFunc 59 args).run Try.prog w = .ok (.enter 59 args) w := enters_of Try.func59 (by kernel_rfl) rfl
  have hcon := AnyQ.slices_SortFunc Try.sortL 4 isAgg35 sizeOf35 HG.enc (fun _ => rfl) HG.one (fun x y : HG Z W Pc => cmp x.1.heap y.1.heap) hO 59 #[] g 0 cap d W eg hcmpl hH (lt_of_block hg) (by omega)
  rw [hds] at hcon
  refine Calls.mono (show Calls Try.prog 65 _ _ _ from hcon) ?_
  rintro e w' ⟨rfl, d', n, os, hp, hsd, hw⟩
  have hF : (flatK HG.enc 4 d').size ≤ cur.size := by rw [size_flatK, hp.1, hds, hcs]; exact Nat.mul_le_mul_right _ hnc
  obtain ⟨f1, cur', q1, q2, q3⟩ := sorted_world (w := W) (n := n) (os := os) (F := flatK HG.enc 4 d') hg hF hw
  have hperm : (d'.toList.map (·.1)).Perm hs := by
    have := hp.2.2
    have e1 : d'.extract 0 hs.length = d' := by rw [← hds, ← hp.1]; simp
    have e2 : d.extract 0 hs.length = d := by rw [← hds]; simp
    rw [e1, e2] at this
    rw [← hd]
    exact this.map _
  have hsz' : d'.size = hs.length := by rw [hp.1, hds]
  have hl' : (d'.toList.map (·.1)).length = hs.length := by simp [hsz']
  refine ⟨rfl, ⟨f1.os, f1.tape, f1.output, f1.size, fun k hk hn => f1.block k hk fun e => hn (by rw [e]; rfl), f1.drawn⟩, d'.toList.map (·.1), hperm, fun i j a b hij ha hb' => ?_, h.perm (perm_places hperm) ?_ fun i a k ha hk => ?_⟩
  · have hj : j < hs.length := by
      rcases Nat.lt_or_ge j hs.length with h' | h'
      · exact h'
      · rw [List.getElem?_eq_none (by omega)] at hb'; cases hb'
    have := hsd i j (Nat.zero_le _) hij hj
    rw [getElem!_pos d' i (by omega), getElem!_pos d' j (by omega)] at this
    simp only [ltOf, decide_eq_false_iff_not] at this
    have ea : d'[i].1 = a := by simpa [hsz', show i < hs.length by omega] using ha
    have eb : d'[j].1 = b := by simpa [hsz', hj] using hb'
    rw [← ea, ← eb]
    exact this
  · rw [hl']
    refine ⟨by rw [encs_len, hl'], .inr ⟨g, cap, cur', rfl, hb, q1, hnc, hcm, by rw [q2, hcs], ?_⟩⟩
    rw [size_flatK, hsz'] at q3
    rw [q3, flat_encs]
  · have hmem := List.mem_of_getElem? ha
    have hk2 := hZlt k (by rw [hZ]; exact ⟨a, hmem, hk⟩)
    exact f1.block k hk2.1 fun e => hk2.2 (by rw [e]; rfl)
end Go.VI
