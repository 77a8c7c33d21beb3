/- Sorting a row of heaps, by the library's contract. -/
import Derived.Test.YtlnfgikipeiaiaaGreatPlJh
import Derived.Test.YtlnfgikipeiaiaaGreatPlN
namespace Go.VI
open Go.Proofs Go.RowKit
open Go.Sort (flatK HoldsK size_flatK get_flatK)
set_option maxRecDepth 100000
theorem j6t {W w' : World} (hb : Below W.heap.size W w') : ∃ q os, w' = Go.Sort.grow (W.drewN q) os := by
 refine ⟨w'.drawn - W.drawn, w'.heap.extract W.heap.size w'.heap.size, ?_⟩
 have hh : W.heap ++ w'.heap.extract W.heap.size w'.heap.size = w'.heap := by
  apply Array.ext_getElem?
  intro i
  rw [Array.getElem?_append]
  split
  · rename_i hi
    exact (hb.block i hi).symm
  · rename_i hi
    rw [Array.getElem?_extract]
    have := hb.size
    split
    · congr 1; omega
    · rw [Array.getElem?_eq_none (by omega)]
 have e1 := hb.os
 have e2 := hb.tape
 have e3 := hb.output
 have hd := hb.drawn
 obtain ⟨h, t, d, o, u⟩ := w'
 obtain ⟨h0, t0, d0, o0, u0⟩ := W
 simp only at e1 e2 e3 hh hd
 subst e1 e2 e3
 show _ = (⟨h0 ++ _, t, d0 + (d - d0), o, u⟩ : World)
 rw [hh, show d0 + (d - d0) = d by omega]
theorem i3l {α : Type} {l' l : List α} (h : l'.Perm l) : ∃ f : Nat → Nat, (∀ i j, i < l'.length → j < l'.length → f i = f j → i = j) ∧ ∀ i a, l'[i]? = some a → l[f i]? = some a := by
 induction h with
 | nil => exact ⟨id, fun i j hi => by simp at hi, fun i a h => by simp at h⟩
 | @cons x a b _ ih =>
  obtain ⟨f, f1, f2⟩ := ih
  refine ⟨fun i => match i with | 0 => 0 | i + 1 => f i + 1, fun i j hi hj e => ?_, fun i y hy => ?_⟩
  · cases i <;> cases j <;> simp at e hi hj ⊢
    exact f1 _ _ hi hj e
  · cases i with
    | zero => simpa using hy
    | succ i => simpa using f2 i y (by simpa using hy)
 | swap x y l =>
  refine ⟨fun i => match i with | 0 => 1 | 1 => 0 | i + 2 => i + 2, fun i j hi hj e => ?_, fun i z hz => ?_⟩
  · match i, j, e with
    | 0, 0, _ => rfl
    | 0, 1, e => simp at e
    | 0, j + 2, e => simp at e
    | 1, 0, e => simp at e
    | 1, 1, _ => rfl
    | 1, j + 2, e => simp at e
    | i + 2, 0, e => simp at e
    | i + 2, 1, e => simp at e
    | i + 2, j + 2, e => simpa using e
  · match i, hz with
    | 0, hz => simpa using hz
    | 1, hz => simpa using hz
    | i + 2, hz => simpa using hz
 | trans h1 h2 ih1 ih2 =>
  obtain ⟨f, f1, f2⟩ := ih1
  obtain ⟨g, g1, g2⟩ := ih2
  have lt : ∀ {β : Type} {l : List β} {i : Nat} {a : β}, l[i]? = some a → i < l.length := fun {β l i a} ha => by
   rcases Nat.lt_or_ge i l.length with h' | h'
   · exact h'
   · rw [List.getElem?_eq_none h'] at ha; cases ha
  refine ⟨fun i => g (f i), fun i j hi hj e => ?_, fun i a ha => g2 _ a (f2 i a ha)⟩
  have hfi := lt (f2 i _ (List.getElem?_eq_getElem hi))
  have hfj := lt (f2 j _ (List.getElem?_eq_getElem hj))
  exact f1 i j hi hj (g1 _ _ hfi hfj e)
def HG (Z : Nat → Prop) (w : World) (Pc : a0j → Prop) : Type := { a : HE // RepI Z w (.sl A3ty) a.cells [a.v] ∧ Pc a.heap }
def HG.enc {Z : Nat → Prop} {w : World} {Pc : a0j → Prop} (a : HG Z w Pc) : List Value := a.1.enc
theorem HG.one {Z : Nat → Prop} {w : World} {Pc : a0j → Prop} (x : HG Z w Pc) : ∀ v ∈ x.enc, v.oneCell' = true := by
 obtain ⟨⟨a, b, c, l, v⟩, ⟨A, n, h, _⟩, _⟩ := x
 obtain rfl : v = .slice A l.length n := by simpa using h
 intro u hu
 simp [HG.enc, HE.enc] at hu
 rcases hu with rfl | rfl | rfl | rfl <;> rfl
theorem i1h {Z : Nat → Prop} {w : World} {Pc : a0j → Prop} [Inhabited (HG Z w Pc)] (d : Array (HG Z w Pc)) : (flatK HG.enc 4 d).toList = encs (d.toList.map (·.1)) := by
 apply List.ext_getElem?
 intro t
 rcases Nat.lt_or_ge t (d.size * 4) with ht | ht
 · have h1 : (flatK HG.enc 4 d).toList[t]? = some (flatK HG.enc 4 d)[t]! := by
    rw [Array.getElem?_toList, Array.getElem?_eq_getElem (by simpa using ht), getElem!_pos _ t (by simpa using ht)]
   rw [h1, get_flatK _ _ _ _ ht]
   have hi : t / 4 < d.size := by omega
   have hm : t % 4 < 4 := Nat.mod_lt _ (by decide)
   rw [getElem!_pos d _ hi]
   have ha : (d.toList.map (·.1))[t / 4]? = some d[t / 4].1 := by simp [hi]
   have := h4p ha (t % 4) hm
   rw [show t / 4 * 4 + t % 4 = t by omega] at this
   rw [this]
   show _ = (d[t / 4].1.enc)[t % 4]?
   rw [getElem!_pos (HG.enc d[t / 4]) (t % 4) (by show t % 4 < 4; exact hm)]
   exact (List.getElem?_eq_getElem (by show t % 4 < 4; exact hm)).symm
 · rw [List.getElem?_eq_none (by simpa using ht), List.getElem?_eq_none (by rw [e6j]; simpa using ht)]
theorem sorted_world {w w' : World} {g n : Nat} {cur F : Array Value} {e : TypeId} {os : Array Obj} (hg : w.heap[g]? = some (.cells cur e (0, 0))) (hF : F.size ≤ cur.size) (hw : w' = Go.Sort.grow (Go.Sort.putRow id (Go.Sort.ahead w n) g 0 F) os) :
 FrameL (fun k => k = g) w w' ∧ ∃ cur', w'.heap[g]? = some (.cells cur' e (0, 0)) ∧ cur'.size = cur.size ∧ cur'.toList.take F.size = F.toList := by
 have hlt := lt_of_block hg
 subst hw
 have hb : ∀ k, k < w.heap.size → (Go.Sort.grow (Go.Sort.putRow id (Go.Sort.ahead w n) g 0 F) os).heap[k]? = (w.heap.modify g (Go.Sort.onCells (Go.Sort.putCells id 0 F)))[k]? := fun k hk => by
  show ((w.heap.modify g _) ++ os)[k]? = _
  rw [Array.getElem?_append_left (by simpa using hk)]
 refine ⟨⟨rfl, rfl, rfl, ?_, fun k hk hn => ?_, Nat.le_add_right _ _⟩, Go.Sort.putCells id 0 F cur, ?_, by simp [Go.Sort.putCells], ?_⟩
 · show w.heap.size ≤ ((w.heap.modify g _) ++ os).size
   simp
 · rw [hb k hk, Array.getElem?_modify, if_neg (fun e => hn e.symm)]
 · rw [hb g hlt, Array.getElem?_modify, if_pos rfl, hg]
   rfl
 · apply List.ext_getElem?
   intro i
   rw [List.getElem?_take]
   split
   · rename_i hi
     rw [Array.getElem?_toList, Array.getElem?_toList]
     unfold Go.Sort.putCells
     rw [Array.getElem?_mapIdx, Array.getElem?_eq_getElem (show i < cur.size by omega), Array.getElem?_eq_getElem hi]
     simp [hi]
   · rename_i hi
     rw [List.getElem?_eq_none (by simpa using hi)]
theorem j6l (w : World) : (isAgg 29).run Tryz.prog w = .ok true w := by
 have h : (Tryz.prog.underlying 29).isSome = true := by rw [Tryz.underlying29]; rfl
 simp [isAgg, run_underlying Tryz.underlying29]
theorem j3y (w : World) : (Go.sizeOf 29).run Tryz.prog w = .ok 4 w := by
 obtain ⟨i0, hi, hz0, hz1, hz2⟩ := info_parts h8u
 simp [Go.sizeOf, typeInfo, program, Sem.run, hi, hz1]
set_option maxHeartbeats 1000000 in
theorem i8u {W : World} {B : Nat} {v : Value} {hs : List HE} {a0 : HE} (h : DeepH W B 29 55 v hs) (h0 : a0 ∈ hs) (hn : hs.length ≤ 1000000) (Pc : a0j → Prop) (hP : ∀ a ∈ hs, Pc a.heap) (cmp : a0j → a0j → Int)
 (hcmp : ∀ g h, Pc g → Pc h → a1m (g, h, ()) = some (cmp g h, ())) (hirr : ∀ g, Pc g → ¬ cmp g g < 0) (htr : ∀ f g h, Pc f → Pc g → Pc h → cmp f g < 0 → cmp g h < 0 → cmp f h < 0) (hntr : ∀ f g h, Pc f → Pc g → Pc h → ¬ cmp f g < 0 → ¬ cmp g h < 0 → ¬ cmp f h < 0) :
 Calls Tryz.prog 90 #[v, .func (.func 89) #[] #[]] W fun e w' => e = .returned (.tuple #[]) ∧ FrameL (fun k => v.ownBlock = some k) W w' ∧ ∃ hs', hs'.Perm hs ∧ (∀ (i j : Nat) (a b : HE), i < j → hs'[i]? = some a → hs'[j]? = some b → ¬ cmp b.heap a.heap < 0) ∧ DeepH w' B 29 55 v hs' := by
 obtain ⟨Z, hZ⟩ : ∃ Z : Nat → Prop, Z = fun g => ∃ a ∈ hs, a.v.ownBlock = some g := ⟨_, rfl⟩
 have hin : ∀ a ∈ hs, RepI Z W (.sl A3ty) a.cells [a.v] := fun a ha => by
  obtain ⟨i, hi⟩ := List.mem_iff_getElem?.1 ha
  exact (h.inner i a hi).reads _ (fun _ hz => hz.elim) fun g hg => by rw [hZ]; exact ⟨a, ha, hg⟩
 have hZlt : ∀ g, Z g → g < W.heap.size ∧ v.ownBlock ≠ some g := fun g hg => by
  rw [hZ] at hg
  obtain ⟨a, ha, hg⟩ := hg
  obtain ⟨i, hi⟩ := List.mem_iff_getElem?.1 ha
  exact ⟨((h.inner i a hi).lt g hg).2, h.outer_ne (by decide) hi hg⟩
 haveI : Inhabited (HG Z W Pc) := ⟨⟨a0, hin a0 h0, hP a0 h0⟩⟩
 have hpos : 0 < hs.length := List.length_pos_of_mem h0
 rcases h.outer.2 with ⟨_, h0'⟩ | ⟨g, cap, cur, rfl, hb, hg, hnc, hcm, hcs, htake⟩
 · omega
 obtain ⟨d, hd⟩ : ∃ d : Array (HG Z W Pc), d.toList.map (·.1) = hs := ⟨(hs.attach.map fun a => (⟨a.1, hin a.1 a.2, hP a.1 a.2⟩ : HG Z W Pc)).toArray, by
  show List.map (fun x => x.val) (hs.attach.map fun a => (⟨a.1, hin a.1 a.2, hP a.1 a.2⟩ : HG Z W Pc)) = hs
  rw [List.map_map]
  exact List.attach_map_subtype_val hs⟩
 have hds : d.size = hs.length := by rw [← hd]; simp
 have hflat : (flatK HG.enc 4 d).toList = encs hs := by rw [i1h, hd]
 have hcells := h.outer.cells (g := g) rfl
 have hH : HoldsK HG.enc 4 W g 0 d := by
  intro j hj
  have hj' : j < (flatK HG.enc 4 d).size := hj
  have e1 : (encs hs)[j]? = some (flatK HG.enc 4 d)[j]! := by
   rw [← hflat, Array.getElem?_toList, Array.getElem?_eq_getElem hj', getElem!_pos _ j hj']
  have c1 := hcells j _ e1
  rw [Addr.add_lit] at c1
  refine ⟨c1, ?_⟩
  simp [World.frozen?, hg]
 have hcmpl : CmpLays Tryz.prog 89 #[] HG.enc 4 (fun x y : HG Z W Pc => cmp x.1.heap y.1.heap) g 0 d.size W := by
  intro m os dk hdk x y
  have hF : (flatK HG.enc 4 dk).size ≤ cur.size := by rw [size_flatK, hdk, hds, hcs]; exact Nat.mul_le_mul_right _ hnc
  obtain ⟨f1, _⟩ := sorted_world (w := W) (n := m) (os := os) (F := flatK HG.enc 4 dk) hg hF rfl
  have hrep : ∀ z : HG Z W Pc, RepI Z (Go.Proofs.sortWorldK HG.enc 4 W g 0 m dk os) (.sl A3ty) z.1.cells [z.1.v] := fun z =>
   RepI.mono (fun _ hz => hz) (fun k hk => f1.block k (hZlt k hk).1 fun e => (hZlt k hk).2 (by rw [e]; rfl)) _ _ _ z.2.1
  have hc := j8q (W := Go.Proofs.sortWorldK HG.enc 4 W g 0 m dk os) (Z := Z) (fun k hk => Nat.lt_of_lt_of_le (hZlt k hk).1 f1.size) (hrep x) (hrep y) (hcmp x.1.heap y.1.heap x.2.2 y.2.2)
  have ea : (#[Value.agg x.enc.toArray, .agg y.enc.toArray] ++ #[] : Array Value) = #[hpV x.1.heap x.1.v, hpV y.1.heap y.1.v] := Array.append_empty
  have hc2 := Calls.mono hc (R' := fun e w' => e = .returned (.int .i64 (cmp x.1.heap y.1.heap)) ∧ ∃ q os', w' = Go.Sort.grow ((Go.Proofs.sortWorldK HG.enc 4 W g 0 m dk os).drewN q) os') fun e w' h => ⟨h.1, j6t h.2⟩
  rw [← ea] at hc2
  exact hc2
 have hO : Go.Sort.SWO (ltOf fun x y : HG Z W Pc => cmp x.1.heap y.1.heap) :=
  ⟨fun x => by simpa [ltOf] using hirr _ x.2.2, fun x y z h1 h2 => by
   simp only [ltOf, decide_eq_true_eq] at h1 h2 ⊢
   exact htr _ _ _ x.2.2 y.2.2 z.2.2 h1 h2, fun x y z h1 h2 => by
   simp only [ltOf, decide_eq_false_iff_not] at h1 h2 ⊢
   exact hntr _ _ _ x.2.2 y.2.2 z.2.2 h1 h2⟩
 have eg : ∀ args w, (callFunc 89 args).run Tryz.prog w = .ok (.enter 89 args) w := enters_of Tryz.func89 (by kernel_rfl) rfl
 have hcon := AnyQ.slices_SortFunc Tryz.sortL 4 j6l j3y HG.enc (fun _ => rfl) HG.one (fun x y : HG Z W Pc => cmp x.1.heap y.1.heap) hO 89 #[] g 0 cap d W eg hcmpl hH (lt_of_block hg) (by omega)
 rw [hds] at hcon
 refine Calls.mono (show Calls Tryz.prog 90 _ _ _ from hcon) ?_
 rintro e w' ⟨rfl, d', n, os, hp, hsd, hw⟩
 have hF : (flatK HG.enc 4 d').size ≤ cur.size := by rw [size_flatK, hp.1, hds, hcs]; exact Nat.mul_le_mul_right _ hnc
 obtain ⟨f1, cur', q1, q2, q3⟩ := sorted_world (w := W) (n := n) (os := os) (F := flatK HG.enc 4 d') hg hF hw
 have hperm : (d'.toList.map (·.1)).Perm hs := by
  have := hp.2.2
  have e1 : d'.extract 0 hs.length = d' := by rw [← hds, ← hp.1]; simp
  have e2 : d.extract 0 hs.length = d := by rw [← hds]; simp
  rw [e1, e2] at this
  rw [← hd]
  exact this.map _
 have hsz' : d'.size = hs.length := by rw [hp.1, hds]
 have hl' : (d'.toList.map (·.1)).length = hs.length := by simp [hsz']
 refine ⟨rfl, ⟨f1.os, f1.tape, f1.output, f1.size, fun k hk hn => f1.block k hk fun e => hn (by rw [e]; rfl), f1.drawn⟩, d'.toList.map (·.1), hperm, fun i j a b hij ha hb' => ?_, h.perm (i3l hperm) ?_ fun i a k ha hk => ?_⟩
 · have hj : j < hs.length := by
    rcases Nat.lt_or_ge j hs.length with h' | h'
    · exact h'
    · rw [List.getElem?_eq_none (by omega)] at hb'; cases hb'
   have := hsd i j (Nat.zero_le _) hij hj
   rw [getElem!_pos d' i (by omega), getElem!_pos d' j (by omega)] at this
   simp only [ltOf, decide_eq_false_iff_not] at this
   have ea : d'[i].1 = a := by simpa [hsz', show i < hs.length by omega] using ha
   have eb : d'[j].1 = b := by simpa [hsz', hj] using hb'
   rw [← ea, ← eb]
   exact this
 · rw [hl']
   refine ⟨by rw [e6j, hl'], .inr ⟨g, cap, cur', rfl, hb, q1, hnc, hcm, by rw [q2, hcs], ?_⟩⟩
   rw [size_flatK, hsz'] at q3
   rw [q3, i1h]
 · have hmem := List.mem_of_getElem? ha
   have hk2 := hZlt k (by rw [hZ]; exact ⟨a, hmem, hk⟩)
   exact f1.block k hk2.1 fun e => hk2.2 (by rw [e]; rfl)
end Go.VI
namespace Go.VI
open Go.Proofs Go.RowKit
set_option maxRecDepth 100000
def ddF (sm : a0j → a0j → Bool) : HE → List HE → List HE
 | _, [] => []
 | p, y :: l => if sm y.heap p.heap then ddF sm y l else y :: ddF sm y l
def dd (sm : a0j → a0j → Bool) : List HE → List HE
 | [] => []
 | a :: l => a :: ddF sm a l
theorem i1z (sm : a0j → a0j → Bool) (b : HE) : ∀ (l : List HE) (p q : HE), (p :: l)[l.length]? = some q → ddF sm p (l ++ [b]) = ddF sm p l ++ (if sm b.heap q.heap then [] else [b])
 | [], p, q, h => by
  obtain rfl : p = q := by simpa using h
  simp only [List.nil_append, ddF]
 | y :: l, p, q, h => by
  have h' : (y :: l)[l.length]? = some q := by simpa using h
  simp only [List.cons_append, ddF]
  split
  · exact i1z sm b l y q h'
  · rw [i1z sm b l y q h']; rfl
theorem i3o (sm : a0j → a0j → Bool) (hs : List HE) {k : Nat} (hk : 1 ≤ k) {b q : HE} (hb : hs[k]? = some b) (hq : hs[k - 1]? = some q) :
 dd sm (hs.take (k + 1)) = dd sm (hs.take k) ++ (if sm b.heap q.heap then [] else [b]) := by
 cases hs with
 | nil => simp at hb
 | cons a l =>
  obtain ⟨k, rfl⟩ : ∃ j, k = j + 1 := ⟨k - 1, by omega⟩
  have hb' : l[k]? = some b := by simpa using hb
  have hlt : k < l.length := by
   rcases Nat.lt_or_ge k l.length with h' | h'
   · exact h'
   · rw [List.getElem?_eq_none h'] at hb'; cases hb'
  have hg : l[k] = b := by rw [List.getElem?_eq_getElem hlt] at hb'; exact Option.some.inj hb'
  simp only [List.take_succ_cons, dd, List.cons_append]
  rw [List.take_succ_eq_append_getElem hlt, hg, i1z sm b (l.take k) a q ?_]
  have e : (l.take k).length = k := by simp; omega
  rw [e]
  have : (a :: l)[k]? = some q := by simpa using hq
  rw [show (a :: l.take k) = (a :: l).take (k + 1) by simp, List.getElem?_take, if_pos (by omega)]
  exact this
theorem j4x (sm : a0j → a0j → Bool) (hs : List HE) (h : 0 < hs.length) : dd sm (hs.take 1) = hs.take 1 := by
 cases hs with
 | nil => simp at h
 | cons a l => rfl
theorem i2g (sm : a0j → a0j → Bool) : ∀ (l : List HE) (p : HE), (ddF sm p l).Sublist l
 | [], _ => .slnil
 | y :: l, p => by
  simp only [ddF]
  split
  · exact (i2g sm l y).cons _
  · exact (i2g sm l y).cons_cons _
theorem i9z (sm : a0j → a0j → Bool) : ∀ hs : List HE, (dd sm hs).Sublist hs
 | [] => .slnil
 | a :: l => (i2g sm l a).cons_cons _
theorem i8r {α : Type} {l' l : List α} (h : l'.Sublist l) : ∃ f : Nat → Nat, (∀ i j, i < l'.length → j < l'.length → f i = f j → i = j) ∧ ∀ i a, l'[i]? = some a → l[f i]? = some a := by
 induction h with
 | slnil => exact ⟨id, fun i j hi => by simp at hi, fun i a h => by simp at h⟩
 | cons a _ ih =>
  obtain ⟨f, f1, f2⟩ := ih
  exact ⟨fun i => f i + 1, fun i j hi hj e => f1 i j hi hj (by simpa using e), fun i b hb => by simpa using f2 i b hb⟩
 | cons_cons a _ ih =>
  obtain ⟨f, f1, f2⟩ := ih
  refine ⟨fun i => match i with | 0 => 0 | i + 1 => f i + 1, fun i j hi hj e => ?_, fun i y hy => ?_⟩
  · cases i <;> cases j <;> simp at e hi hj ⊢
    exact f1 _ _ hi hj e
  · cases i with
    | zero => simpa using hy
    | succ i => simpa using f2 i y (by simpa using hy)
def j5k (cur : Array Value) (i : Nat) (a b c d : Value) : Array Value := (((cur.setIfInBounds i a).setIfInBounds (i + 1) b).setIfInBounds (i + 2) c).setIfInBounds (i + 3) d
theorem i9h (cur : Array Value) (i : Nat) (a b c d : Value) : (j5k cur i a b c d).size = cur.size := by simp [j5k]
theorem i6q (cur : Array Value) (i : Nat) (a b c d : Value) (j : Nat) (hj : j < i ∨ i + 4 ≤ j) : (j5k cur i a b c d)[j]? = cur[j]? := by
 unfold j5k
 rw [Array.getElem?_setIfInBounds_ne (by omega), Array.getElem?_setIfInBounds_ne (by omega), Array.getElem?_setIfInBounds_ne (by omega), Array.getElem?_setIfInBounds_ne (by omega)]
theorem j7h (cur : Array Value) (i : Nat) (a b c d : Value) (h : i + 3 < cur.size) (j : Nat) (hj : j < 4) : (j5k cur i a b c d)[i + j]? = [a, b, c, d][j]? := by
 unfold j5k
 match j, hj with
 | 0, _ => rw [Array.getElem?_setIfInBounds_ne (by omega), Array.getElem?_setIfInBounds_ne (by omega), Array.getElem?_setIfInBounds_ne (by omega)]; simp [show i < cur.size by omega]
 | 1, _ => rw [Array.getElem?_setIfInBounds_ne (by omega), Array.getElem?_setIfInBounds_ne (by omega)]; simp [show i + 1 < cur.size by omega]
 | 2, _ => rw [Array.getElem?_setIfInBounds_ne (by omega)]; simp [show i + 2 < cur.size by omega]
 | 3, _ => simp [h]
theorem i9j {cur : Array Value} {k : Nat} {l : List HE} {b : HE} (hl : l.length = k) (h : cur.toList.take (k * 4) = encs l) (hs : k * 4 + 3 < cur.size) :
 (j5k cur (k * 4) (.int .i64 b.x) (.int .i64 b.y) (.int .i64 b.z) b.v).toList.take ((k + 1) * 4) = encs (l ++ [b]) := by
 rw [g8k]
 have e1 : encs [b] = b.enc := by simp [encs]
 rw [e1]
 apply List.ext_getElem?
 intro j
 rw [List.getElem?_take, Array.getElem?_toList]
 rcases Nat.lt_or_ge j (k * 4) with hj | hj
 · rw [if_pos (by omega), i6q _ _ _ _ _ _ _ (.inl hj), List.getElem?_append_left (by rw [e6j]; omega), ← h, List.getElem?_take, if_pos hj, Array.getElem?_toList]
 · rw [List.getElem?_append_right (by rw [e6j]; omega), e6j, hl]
   split
   · have := j7h cur (k * 4) (.int .i64 b.x) (.int .i64 b.y) (.int .i64 b.z) b.v hs (j - k * 4) (by omega)
     rw [show k * 4 + (j - k * 4) = j by omega] at this
     rw [this]; rfl
   · rw [List.getElem?_eq_none (by rw [HE.enc_len]; omega)]
end Go.VI
namespace Go.VI
open Go.Proofs Go.RowKit
set_option maxRecDepth 100000
theorem j8u {Z : Nat → Prop} {W : World} {g h : a0j} {gv hv : Value} {n : Bool} (hz : ∀ g, Z g → g < W.heap.size) (a : RepI Z W (.sl A3ty) g.2.2.2.1 [gv]) (b : RepI Z W (.sl A3ty) h.2.2.2.1 [hv]) (hF : b0h (g, h, ()) = some (n, ())) :
 Calls Tryz.prog 92 #[hpV g gv, hpV h hv] W fun e' w' => e' = .returned (.bool n) ∧ Below W.heap.size W w' :=
 c8u (fn := Tryz.f92) (r := (n, ())) g7m rfl Tryz.func92 rfl (by kernel_rfl) trivial hz (xs := (g, h, ())) (vs := [hpV g gv, hpV h hv]) ⟨_, _, rfl, (fun h => by cases h), f8o a, _, _, rfl, (fun h => by cases h), f8o b, rfl⟩ hF
theorem h0y {W V : World} {B : Nat} {v : Value} {hs : List HE} (h : DeepH W B 29 55 v hs) (sm : a0j → a0j → Bool) (hsm : ∀ a ∈ hs, ∀ b ∈ hs, b0h (a.heap, b.heap, ()) = some (sm a.heap b.heap, ())) (hV : FrameL (fun g => v.ownBlock = some g) W V) {a b : HE} (ha : a ∈ hs) (hb : b ∈ hs) :
 Calls Tryz.prog 92 #[hpV a.heap a.v, hpV b.heap b.v] V fun e' w' => e' = .returned (.bool (sm a.heap b.heap)) ∧ Below V.heap.size V w' := by
 obtain ⟨i, hi⟩ := List.mem_iff_getElem?.1 ha
 obtain ⟨j, hj⟩ := List.mem_iff_getElem?.1 hb
 have key : ∀ i (a : HE), hs[i]? = some a → RepI (fun g => (a.v.ownBlock = some g ∨ b.v.ownBlock = some g)) V (.sl A3ty) a.cells [a.v] := fun i a hi => by
  have hin := h.inner i a hi
  exact (hin.mono (w' := V) (fun _ hz => hz) (fun _ hz => hz.elim) fun g hg => hV.block g (hin.lt g hg).2 fun e => h.outer_ne (by decide) hi hg e).reads _ (fun _ hz => hz.elim) fun g hg => .inl hg
 refine j8u (Z := fun g => a.v.ownBlock = some g ∨ b.v.ownBlock = some g) (fun g hg => ?_) (key i a hi) ?_ (hsm a ha b hb)
 · rcases hg with hg | hg
   · exact Nat.lt_of_lt_of_le ((h.inner i a hi).lt g hg).2 hV.size
   · exact Nat.lt_of_lt_of_le ((h.inner j b hj).lt g hg).2 hV.size
 · have hin := h.inner j b hj
   exact (hin.mono (w' := V) (fun _ hz => hz) (fun _ hz => hz.elim) fun g hg => hV.block g (hin.lt g hg).2 fun e => h.outer_ne (by decide) hj hg e).reads _ (fun _ hz => hz.elim) fun g hg => .inr hg
theorem j5f {w : World} {g : Nat} {cur : Array Value} {hs : List HE} (hg : w.heap[g]? = some (.cells cur 29 (0, 0))) {n : Nat} (hn : cur.toList.take (n * 4) = encs hs) {i : Nat} (hi : i < n) {a : HE} (ha : hs[i]? = some a) :
 w.cell? ⟨g, i * 4, none⟩ = some (.int .i64 a.x) ∧ w.cell? ⟨g, i * 4 + 1, none⟩ = some (.int .i64 a.y) ∧ w.cell? ⟨g, i * 4 + 2, none⟩ = some (.int .i64 a.z) ∧ w.cell? ⟨g, i * 4 + 3, none⟩ = some a.v := by
 have e : ∀ j (hj : j < 4) u, a.enc[j]? = some u → w.cell? ⟨g, i * 4 + j, none⟩ = some u := fun j hj u hu => by
  have := h4p ha j hj
  rw [← hn, List.getElem?_take, if_pos (by omega), hu, Array.getElem?_toList] at this
  simp [World.cell?, hg, this]
 exact ⟨e 0 (by decide) _ rfl, e 1 (by decide) _ rfl, e 2 (by decide) _ rfl, e 3 (by decide) _ rfl⟩
theorem h7z (hs : List HE) : ∀ m, encs (hs.take m) = (encs hs).take (m * 4) := by
 induction hs with
 | nil => intro m; simp [encs]
 | cons a l ih =>
  intro m
  cases m with
  | zero => simp [encs]
  | succ m =>
   have e : ∀ l, encs (a :: l) = a.enc ++ encs l := fun l => by simp [encs]
   rw [List.take_succ_cons, e, e, ih, List.take_append, HE.enc_len, show (m + 1) * 4 - 4 = m * 4 by omega, List.take_of_length_le (show a.enc.length ≤ (m + 1) * 4 by rw [HE.enc_len]; omega)]
structure CompI (W wr : World) (g n c : Nat) (cur : Array Value) (hs : List HE) (sm : a0j → a0j → Bool) (kk p : Nat) (cur' : Array Value) : Prop where
 frame : FrameL (fun q => q = g) W wr
 block : wr.heap[g]? = some (.cells cur' 29)
 size : cur'.size = c * 4
 len : (dd sm (hs.take p)).length = kk
 take : cur'.toList.take (kk * 4) = encs (dd sm (hs.take p))
 rest : ∀ j, (p - 1) * 4 ≤ j → cur'[j]? = cur[j]?
theorem FrameL.refl' (T : Nat → Prop) (w : World) : FrameL T w w := ⟨rfl, rfl, rfl, Nat.le_refl _, fun _ _ _ => rfl, Nat.le_refl _⟩
theorem h4b {W V : World} {g n c : Nat} (h : FrameL (fun q => q = g) W V) : FrameL (fun q => (Value.slice (some ⟨g, 0, none⟩) n c).ownBlock = some q) W V :=
 ⟨h.os, h.tape, h.output, h.size, fun k hk hn => h.block k hk fun e => hn (by rw [e]; rfl), h.drawn⟩
theorem FrameL.below {T : Nat → Prop} {W w w' : World} (h : FrameL T W w) (hb : Below w.heap.size w w') : FrameL T W w' :=
 ⟨hb.os.trans h.os, hb.tape.trans h.tape, hb.output.trans h.output, Nat.le_trans h.size hb.size, fun k hk hn => (hb.block k (Nat.lt_of_lt_of_le hk h.size)).trans (h.block k hk hn), Nat.le_trans h.drawn hb.drawn⟩
theorem CompI.below {W wr w' : World} {g n c : Nat} {cur : Array Value} {hs : List HE} {sm : a0j → a0j → Bool} {kk p : Nat} {cur' : Array Value} (h : CompI W wr g n c cur hs sm kk p cur') (hb : Below wr.heap.size wr w') : CompI W w' g n c cur hs sm kk p cur' :=
 ⟨h.frame.below hb, a0m h.block hb, h.size, h.len, h.take, h.rest⟩
theorem CompI.up {W wr : World} {g n c : Nat} {cur : Array Value} {hs : List HE} {sm : a0j → a0j → Bool} {k : Nat} (h : CompI W wr g n c cur hs sm k k cur) (hk : 1 ≤ k) {a b : HE} (hb : hs[k]? = some b) (ha : hs[k - 1]? = some a) (hs' : sm b.heap a.heap = false) (ht : cur.toList.take (n * 4) = encs hs) (hkn : k < n) : CompI W wr g n c cur hs sm (k + 1) (k + 1) cur := by
 have e := i3o sm hs hk hb ha
 rw [hs', if_neg (by decide)] at e
 have hlt : k < hs.length := by
  rcases Nat.lt_or_ge k hs.length with h' | h'
  · exact h'
  · rw [List.getElem?_eq_none h'] at hb; cases hb
 have ed : dd sm (hs.take k) = hs.take k := (i9z sm _).eq_of_length (by rw [h.len]; simp; omega)
 have e2 : dd sm (hs.take (k + 1)) = hs.take (k + 1) := by
  rw [e, ed, List.take_succ_eq_append_getElem hlt]
  congr 2
  rw [List.getElem?_eq_getElem hlt] at hb
  exact (Option.some.inj hb).symm
 refine ⟨h.frame, h.block, h.size, by rw [e2]; simp; omega, ?_, fun j _ => rfl⟩
 rw [e2, h7z, ← ht, List.take_take, show min ((k + 1) * 4) (n * 4) = (k + 1) * 4 by omega]
theorem CompI.start {W : World} {g n c : Nat} {cur : Array Value} {hs : List HE} {sm : a0j → a0j → Bool} (hg : W.heap[g]? = some (.cells cur 29)) (hcs : cur.size = c * 4) (ht : cur.toList.take (hs.length * 4) = encs hs) (hn : 0 < hs.length) : CompI W W g n c cur hs sm 1 1 cur := by
 refine ⟨FrameL.refl' _ _, hg, hcs, by rw [j4x sm hs hn]; simp; omega, ?_, fun _ _ => rfl⟩
 rw [j4x sm hs hn, h7z, ← ht, List.take_take, show min (1 * 4) (hs.length * 4) = 1 * 4 by omega]
theorem CompI.drop {W wr : World} {g n c : Nat} {cur cur' : Array Value} {hs : List HE} {sm : a0j → a0j → Bool} {kk p : Nat} (h : CompI W wr g n c cur hs sm kk p cur') (hk : 1 ≤ p) {a b : HE} (hb : hs[p]? = some b) (ha : hs[p - 1]? = some a) (hs' : sm b.heap a.heap = true) : CompI W wr g n c cur hs sm kk (p + 1) cur' := by
 have e := i3o sm hs hk hb ha
 rw [hs', if_pos rfl, List.append_nil] at e
 exact ⟨h.frame, h.block, h.size, by rw [e]; exact h.len, by rw [e]; exact h.take, fun j hj => h.rest j (by omega)⟩
theorem CompI.high {W wr : World} {g n c : Nat} {cur cur' : Array Value} {hs : List HE} {sm : a0j → a0j → Bool} {kk p : Nat} (h : CompI W wr g n c cur hs sm kk p cur') (ht : cur.toList.take (n * 4) = encs hs) {i : Nat} (hp : p - 1 ≤ i) (hi : i < n) {a : HE} (ha : hs[i]? = some a) :
 wr.cell? ⟨g, i * 4, none⟩ = some (.int .i64 a.x) ∧ wr.cell? ⟨g, i * 4 + 1, none⟩ = some (.int .i64 a.y) ∧ wr.cell? ⟨g, i * 4 + 2, none⟩ = some (.int .i64 a.z) ∧ wr.cell? ⟨g, i * 4 + 3, none⟩ = some a.v := by
 have e : ∀ j (hj : j < 4) u, a.enc[j]? = some u → wr.cell? ⟨g, i * 4 + j, none⟩ = some u := fun j hj u hu => by
  have := h4p ha j hj
  rw [← ht, List.getElem?_take, if_pos (by omega), hu, Array.getElem?_toList, ← h.rest _ (by omega)] at this
  simp [World.cell?, h.block, this]
 exact ⟨e 0 (by decide) _ rfl, e 1 (by decide) _ rfl, e 2 (by decide) _ rfl, e 3 (by decide) _ rfl⟩
theorem CompI.free {W wr : World} {g n c : Nat} {cur cur' : Array Value} {hs : List HE} {sm : a0j → a0j → Bool} {kk p : Nat} (h : CompI W wr g n c cur hs sm kk p cur') (i : Nat) :
 wr.frozen? ⟨g, i * 4, none⟩ = false ∧ wr.frozen? ⟨g, i * 4 + 1, none⟩ = false ∧ wr.frozen? ⟨g, i * 4 + 2, none⟩ = false ∧ wr.frozen? ⟨g, i * 4 + 3, none⟩ = false := by
 refine ⟨?_, ?_, ?_, ?_⟩ <;> simp [World.frozen?, h.block]
theorem CompI.low {W wr : World} {g n c : Nat} {cur cur' : Array Value} {hs : List HE} {sm : a0j → a0j → Bool} {kk p : Nat} (h : CompI W wr g n c cur hs sm kk p cur') (i : Nat) (hi : i < c) :
 wr.cell? ⟨g, i * 4, none⟩ = some cur'[i * 4]! ∧ wr.cell? ⟨g, i * 4 + 1, none⟩ = some cur'[i * 4 + 1]! ∧ wr.cell? ⟨g, i * 4 + 2, none⟩ = some cur'[i * 4 + 2]! ∧ wr.cell? ⟨g, i * 4 + 3, none⟩ = some cur'[i * 4 + 3]! := by
 have hs := h.size
 have e : ∀ j, j < cur'.size → wr.cell? ⟨g, j, none⟩ = some cur'[j]! := fun j hj => by
  simp [World.cell?, h.block, Array.getElem?_eq_getElem hj, getElem!_pos cur' j hj]
 exact ⟨e _ (by omega), e _ (by omega), e _ (by omega), e _ (by omega)⟩
theorem CompI.store {W wr : World} {g n c : Nat} {cur cur' : Array Value} {hs : List HE} {sm : a0j → a0j → Bool} {kk p : Nat} (h : CompI W wr g n c cur hs sm kk p cur') (hk : 1 ≤ p) {a b : HE} (hb : hs[p]? = some b) (ha : hs[p - 1]? = some a) (hs' : sm b.heap a.heap = false) (hkk : kk < p) (hp : p < c) :
 CompI W ((((wr.setCell ⟨g, kk * 4, none⟩ (.int .i64 b.x)).setCell ⟨g, kk * 4 + 1, none⟩ (.int .i64 b.y)).setCell ⟨g, kk * 4 + 2, none⟩ (.int .i64 b.z)).setCell ⟨g, kk * 4 + 3, none⟩ b.v) g n c cur hs sm (kk + 1) (p + 1) (j5k cur' (kk * 4) (.int .i64 b.x) (.int .i64 b.y) (.int .i64 b.z) b.v) := by
 have e := i3o sm hs hk hb ha
 rw [hs', if_neg (by decide)] at e
 have hsz := h.size
 refine ⟨⟨h.frame.os, h.frame.tape, h.frame.output, by simpa using h.frame.size, fun q hq hn => ?_, h.frame.drawn⟩, set1 (set1 (set1 (set1 h.block _ _) _ _) _ _) _ _, by rw [i9h]; exact h.size, by rw [e, List.length_append, h.len]; rfl, by rw [e]; exact i9j h.len h.take (by omega), fun j hj => ?_⟩
 · rw [Below.heap_setCell _ _ _ _ hn, Below.heap_setCell _ _ _ _ hn, Below.heap_setCell _ _ _ _ hn, Below.heap_setCell _ _ _ _ hn]
   exact h.frame.block q hq hn
 · rw [i6q _ _ _ _ _ _ _ (.inr (by omega))]
   exact h.rest j (by omega)
theorem CompI.cellAt {W wr : World} {g n c : Nat} {cur cur' : Array Value} {hs : List HE} {sm : a0j → a0j → Bool} {kk p : Nat} (h : CompI W wr g n c cur hs sm kk p cur') {j : Nat} (hj : j < c * 4) : (wr.cell? ⟨g, j, none⟩).isSome = true := by
 have hs := h.size
 simp [World.cell?, h.block, Array.getElem?_eq_getElem (show j < cur'.size by omega)]
theorem CompI.freeAt {W wr : World} {g n c : Nat} {cur cur' : Array Value} {hs : List HE} {sm : a0j → a0j → Bool} {kk p : Nat} (h : CompI W wr g n c cur hs sm kk p cur') (j : Nat) : wr.frozen? ⟨g, j, none⟩ = false := by
 simp [World.frozen?, h.block]
theorem FrameL.then {T : Nat → Prop} {W w w' : World} (h : FrameL T W w) (h2 : FrameL T w w') : FrameL T W w' :=
 ⟨h2.os.trans h.os, h2.tape.trans h.tape, h2.output.trans h.output, Nat.le_trans h.size h2.size, fun k hk hn => (h2.block k (Nat.lt_of_lt_of_le hk h.size) hn).trans (h.block k hk hn), Nat.le_trans h.drawn h2.drawn⟩
abbrev g4p : Array Value := #[.int .i64 0, .int .i64 0, .int .i64 0, .slice none 0 0]
theorem j1g (n : Nat) : (Builtin.zeroCells g4p n).toList.length = n * 4 ∧ ∀ v ∈ (Builtin.zeroCells g4p n).toList, v.oneCell' = true := by
 refine ⟨by simp [Builtin.zeroCells], fun v hv => ?_⟩
 simp only [Builtin.zeroCells, Array.toList_map, List.mem_map] at hv
 obtain ⟨i, _, rfl⟩ := hv
 have : i % 4 < 4 := Nat.mod_lt _ (by decide)
 show (g4p[i % 4]!).oneCell' = true
 generalize i % 4 = j at this
 match j, this with
 | 0, _ => rfl
 | 1, _ => rfl
 | 2, _ => rfl
 | 3, _ => rfl
theorem i7d {ty : TypeId} (w : World) (g o n c : Nat) (hn : 0 < n) (hc : ∀ j, j < n * 4 → (w.cell? ⟨g, o + j, none⟩).isSome = true) (hf : ∀ j, j < n * 4 → w.frozen? ⟨g, o + j, none⟩ = false) :
 (Builtin.clear_ #[26] ty #[.slice (some ⟨g, o, none⟩) n c]).run Tryz.prog w = .ok (.tuple #[]) (w.setCells g o (Builtin.zeroCells g4p n).toList) := by
 obtain ⟨hl, h1⟩ := j1g n
 have hst := run_storeCells_cells (P := Tryz.prog) g o (Builtin.zeroCells g4p n).toList 0 w (by simpa [hl] using hc) (by simpa [hl] using hf) h1
 simp only [Nat.add_zero] at hst
 obtain ⟨m, rfl⟩ : ∃ m, n = m + 1 := ⟨n - 1, by omega⟩
 obtain ⟨i0, hi0, hz0, hz1, hz2⟩ := info_parts h8u
 have hv : ∀ w, (zeroValue 29).run Tryz.prog w = .ok (.agg g4p) w := fun w => by simp [zeroValue, typeInfo, program, Sem.run, hi0, hz0]
 simp [Builtin.clear_, run_underlying Tryz.underlying26, hv, Value.cells, hst]
theorem e8f {g t : Nat} {fz : Nat × Nat} : ∀ (vs : List Value) (o : Nat) {w : World} {cur : Array Value}, w.heap[g]? = some (.cells cur t fz) → ∃ w9 cur9, w.setCells g o vs = w9 ∧ FrameL (fun q => q = g) w w9 ∧ w9.heap[g]? = some (.cells cur9 t fz) ∧ cur9.size = cur.size ∧ cur9.toList.take o = cur.toList.take o
 | [], o, w, cur, h => ⟨w, cur, rfl, FrameL.refl' _ _, h, rfl, rfl⟩
 | v :: r, o, w, cur, h => by
  obtain ⟨w9, cur9, e, f, b, s, t'⟩ := e8f r (o + 1) (set1 h o v)
  refine ⟨w9, cur9, by rw [World.setCells]; exact e, FrameL.then (w := w.setCell ⟨g, o, none⟩ v) ⟨rfl, rfl, rfl, by simp, fun q _ hn => Below.heap_setCell _ _ _ _ hn, Nat.le_refl _⟩ f, b, by rw [s]; simp, ?_⟩
  have := congrArg (List.take o) t'
  rw [List.take_take, List.take_take, show min o (o + 1) = o by omega] at this
  rw [this]
  apply List.ext_getElem?
  intro j
  rw [List.getElem?_take, List.getElem?_take]
  split
  · rw [Array.getElem?_toList, Array.getElem?_toList, Array.getElem?_setIfInBounds_ne (by omega)]
  · rfl
set_option maxHeartbeats 2000000 in
theorem h7c {W : World} {B : Nat} {v : Value} {hs : List HE} (h : DeepH W B 29 55 v hs) (hn : hs.length ≤ 100000) (sm : a0j → a0j → Bool) (hsm : ∀ a ∈ hs, ∀ b ∈ hs, b0h (a.heap, b.heap, ()) = some (sm a.heap b.heap, ())) :
 Calls Tryz.prog 91 #[v, .func (.func 92) #[] #[]] W fun e w' => ∃ v', e = .returned v' ∧ FrameL (fun q => v.ownBlock = some q) W w' ∧ DeepH w' B 29 55 v' (dd sm hs) := by
 rcases h.outer.2 with ⟨rfl, h0'⟩ | ⟨g, c, cur, rfl, hb, hg, hnc, hcm, hcs, htake⟩
 · have : hs = [] := List.length_eq_zero_iff.1 h0'
   subst this
   go_enter Tryz.func91, Tryz.ntmps91
   go_wp2
   go_ret
   exact ⟨_, rfl, FrameL.refl' _ _, h⟩
 · by_cases h2 : hs.length < 2
   · have h2' : ((hs.length : Int) < 2) := by omega
     go_enter Tryz.func91, Tryz.ntmps91
     go_wp2
     go_ret
     refine ⟨_, rfl, FrameL.refl' _ _, ?_⟩
     match hs, h2 with
     | [], _ => exact h
     | [a], _ => exact h
   · have h2' : ¬ ((hs.length : Int) < 2) := by omega
     go_enter Tryz.func91, Tryz.ntmps91
     go_wp2
     go_loopg [5] hs.length (fun m v5 wr => ∃ (k : Nat), 1 ≤ k ∧ k ≤ hs.length ∧ m = hs.length + 1 - k ∧ v5 = .int .i64 k ∧ CompI W wr g hs.length c cur hs sm k k cur)
     case atStart => exact ⟨1, Nat.le_refl _, by omega, by omega, rfl, CompI.start hg hcs htake (by omega)⟩
     case round =>
      obtain ⟨k, hk1, hk, rfl, rfl, hI⟩ := hrel
      by_cases hlt : k < hs.length
      · obtain ⟨b, hb'⟩ : ∃ b, hs[k]? = some b := ⟨hs[k], List.getElem?_eq_getElem hlt⟩
        obtain ⟨a, ha⟩ : ∃ a, hs[k - 1]? = some a := ⟨hs[k - 1], List.getElem?_eq_getElem (by omega)⟩
        have hltI : (k : Int) < (hs.length : Int) := by omega
        have hw1 : IntKind.i64.wrap ((k : Int) - 1) = ((k - 1 : Nat) : Int) := by rw [show ((k - 1 : Nat) : Int) = (k : Int) - 1 by omega]; exact IntWalk.i64_in _ (by omega)
        have hltP : ((k - 1 : Nat) : Int) < (hs.length : Int) := by omega
        obtain ⟨x0, x1, x2, x3⟩ := j5f hI.block htake hlt hb'
        obtain ⟨y0, y1, y2, y3⟩ := j5f hI.block htake (by omega) ha
        have hcall : ∀ V, Below wr.heap.size wr V → Calls Tryz.prog 92 #[.agg #[.int .i64 b.x, .int .i64 b.y, .int .i64 b.z, b.v], .agg #[.int .i64 a.x, .int .i64 a.y, .int .i64 a.z, a.v]] V fun e' w' => e' = .returned (.bool (sm b.heap a.heap)) ∧ Below wr.heap.size wr w' := fun V hbV => by
         refine (h0y h sm hsm (V := V) (h4b (hI.frame.below hbV)) (List.mem_of_getElem? hb') (List.mem_of_getElem? ha)).mono ?_
         rintro e w2 ⟨rfl, hb2⟩
         exact ⟨rfl, a0r hbV hb2⟩
        obtain ⟨s, hs'⟩ : ∃ s, sm b.heap a.heap = s := ⟨_, rfl⟩
        rw [hs'] at hcall
        go_wp2
        go_cut [28] from 18 to 28 (fun v28 wc => v28 = .bool s ∧ Below wr.heap.size wr wc)
        case first =>
         go_region_with (go_at_call 92; refine (hcall _ (by (repeat (first | exact Below.refl _ _ | apply h3f)))).mono ?_; rintro e w2 ⟨rfl, hl2⟩)
         all_goals (go_wp2_with fail; go_meet; exact ⟨rfl, hl2⟩)
        case rest =>
         obtain ⟨rfl, hbc⟩ := hcut
         have hI2 := hI.below hbc
         clear hcall x0 x1 x2 x3 y0 y1 y2 y3 hw1 hltP
         cases s
         · go_wp2
           go_roundg (hs.length + 1 - (k + 1))
           case measure => omega
           case rel => exact ⟨k + 1, by omega, by omega, rfl, by go_num, hI2.up hk1 hb' ha hs' htake hlt⟩
         · go_wp2
           clear hI
           go_loopg [5, 7] (hs.length - k) (fun m v5 v7 wr2 => ∃ (kk k2 : Nat) (cur' : Array Value), 1 ≤ k2 ∧ k + k2 ≤ hs.length ∧ kk < k + k2 ∧ m = hs.length + 1 - (k + k2) ∧ v5 = .int .i64 kk ∧ v7 = .int .i64 k2 ∧ CompI W wr2 g hs.length c cur hs sm kk (k + k2) cur')
           case atStart => exact ⟨k, 1, cur, Nat.le_refl _, by omega, by omega, by omega, rfl, rfl, hI2.drop hk1 hb' ha hs'⟩
           case round =>
            obtain ⟨kk, k2, cur', h21, hk2, hkk, rfl, rfl, rfl, hJ⟩ := hrel
            clear hI2
            by_cases hlt2 : k + k2 < hs.length
            · obtain ⟨b2, hb2'⟩ : ∃ b, hs[k + k2]? = some b := ⟨hs[k + k2], List.getElem?_eq_getElem hlt2⟩
              obtain ⟨a2, ha2⟩ : ∃ a, hs[k + k2 - 1]? = some a := ⟨hs[k + k2 - 1], List.getElem?_eq_getElem (by omega)⟩
              have hltI2 : (k2 : Int) < ((hs.length - k : Nat) : Int) := by omega
              obtain ⟨x0, x1, x2, x3⟩ := hJ.high htake (by omega) hlt2 hb2'
              obtain ⟨y0, y1, y2, y3⟩ := hJ.high htake (by omega) (by omega) ha2
              rw [Nat.add_mul] at x0 x1 x2 x3
              rw [show (k + k2 - 1) * 4 = k * 4 + (k2 - 1) * 4 by omega] at y0 y1 y2 y3
              have hw1 : IntKind.i64.wrap ((k2 : Int) - 1) = ((k2 - 1 : Nat) : Int) := by rw [show ((k2 - 1 : Nat) : Int) = (k2 : Int) - 1 by omega]; exact IntWalk.i64_in _ (by omega)
              have hltP : ((k2 - 1 : Nat) : Int) < ((hs.length - k : Nat) : Int) := by omega
              have hcall : ∀ V, Below wr.heap.size wr V → Calls Tryz.prog 92 #[.agg #[.int .i64 b2.x, .int .i64 b2.y, .int .i64 b2.z, b2.v], .agg #[.int .i64 a2.x, .int .i64 a2.y, .int .i64 a2.z, a2.v]] V fun e' w' => e' = .returned (.bool (sm b2.heap a2.heap)) ∧ Below wr.heap.size wr w' := fun V hbV => by
               refine (h0y h sm hsm (V := V) (h4b (hJ.frame.below hbV)) (List.mem_of_getElem? hb2') (List.mem_of_getElem? ha2)).mono ?_
               rintro e w2 ⟨rfl, hb2⟩
               exact ⟨rfl, a0r hbV hb2⟩
              obtain ⟨s, hs2⟩ : ∃ s, sm b2.heap a2.heap = s := ⟨_, rfl⟩
              rw [hs2] at hcall
              go_wp2
              go_cut [49] from 38 to 49 (fun v49 wc => v49 = .bool (!s) ∧ Below wr.heap.size wr wc)
              case first =>
               go_region_with (go_at_call 92; refine (hcall _ (by (repeat (first | exact Below.refl _ _ | apply h3f)))).mono ?_; rintro e w2 ⟨rfl, hl2⟩)
               all_goals (go_wp2_with fail; go_meet; exact ⟨rfl, hl2⟩)
              case rest =>
               obtain ⟨rfl, hbc⟩ := hcut
               have hJ2 := hJ.below hbc
               clear hcall x0 x1 x2 x3 y0 y1 y2 y3 hw1 hltP hJ
               cases s
               · obtain ⟨x0, x1, x2, x3⟩ := hJ2.high htake (by omega) hlt2 hb2'
                 rw [Nat.add_mul] at x0 x1 x2 x3
                 have hkI : (kk : Int) < (hs.length : Int) := by omega
                 obtain ⟨ba, bl, bc, hbv⟩ : ∃ ba bl bc, b2.v = .slice ba bl bc := by
                  obtain ⟨x, y, e⟩ := (h.inner _ b2 hb2').slice1
                  exact ⟨x, _, y, e⟩
                 rw [hbv] at x3
                 obtain ⟨f0, f1, f2, f3⟩ := hJ2.free kk
                 obtain ⟨z0, z1, z2, z3⟩ := hJ2.low kk (by omega)
                 go_wp2
                 go_roundg (hs.length + 1 - (k + (k2 + 1)))
                 case measure => omega
                 case rel => exact ⟨kk + 1, k2 + 1, _, by omega, by omega, by omega, rfl, by go_num, by go_num, by rw [← hbv]; exact hJ2.store (by omega) hb2' ha2 hs2 hkk (by omega)⟩
               · go_wp2
                 go_roundg (hs.length + 1 - (k + (k2 + 1)))
                 case measure => omega
                 case rel => exact ⟨kk, k2 + 1, cur', by omega, by omega, by omega, rfl, rfl, by go_num, hJ2.drop (by omega) hb2' ha2 hs2⟩
            · have he : k + k2 = hs.length := by omega
              have hltI2 : ¬ ((k2 : Int) < ((hs.length - k : Nat) : Int)) := by omega
              have hkI : (kk : Int) ≤ (hs.length : Int) := by omega
              have hkc : (kk : Int) ≤ (c : Int) := by omega
              have hJ3 := hJ
              rw [he] at hJ3
              have hcl := fun ty => i7d (ty := ty) wr g (kk * 4) (hs.length - kk) (c - kk) (by omega) (fun j hj => hJ3.cellAt (by omega)) (fun j hj => hJ3.freeAt _)
              obtain ⟨w9, cur9, hw9, hf9, hb9, hs9, ht9⟩ := e8f (Builtin.zeroCells g4p (hs.length - kk)).toList (kk * 4) hJ3.block
              rw [hw9] at hcl
              clear hJ
              go_wp2
              go_ret
              refine ⟨_, rfl, h4b (hJ3.frame.then hf9), ?_⟩
              have hfull : hs.take hs.length = hs := List.take_length
              have hl := hJ3.len
              have ht := hJ3.take
              rw [hfull] at hl ht
              refine h.perm (i8r (i9z sm hs)) ⟨by rw [e6j], .inr ⟨g, c, cur9, by rw [hl]; rfl, hb, hb9, by omega, hcm, by rw [hs9]; exact hJ3.size, ?_⟩⟩ fun i a q ha hq => ?_
              · rw [hl, ← ht]
                exact ht9
              · exact (hJ3.frame.then hf9).block q ((h.inner i a ha).lt q hq).2 fun e => h.outer_ne (by decide) ha hq (by rw [e]; rfl)
      · have he : k = hs.length := by omega
        have hltI : ¬ ((k : Int) < (hs.length : Int)) := by omega
        go_wp2
        go_ret
        rw [he] at hI
        have hfull : hs.take hs.length = hs := List.take_length
        have hl := hI.len
        rw [hfull] at hl
        rw [(i9z sm hs).eq_of_length hl]
        refine ⟨_, rfl, h4b hI.frame, h.perm ⟨id, fun _ _ _ _ e => e, fun _ _ e => e⟩ ⟨h.outer.1, .inr ⟨g, c, cur, rfl, hb, hI.block, hnc, hcm, hcs, htake⟩⟩ fun i a q ha hq => ?_⟩
        exact hI.frame.block q ((h.inner i a ha).lt q hq).2 fun e => h.outer_ne (by decide) ha hq (by rw [e]; rfl)
end Go.VI
namespace Go.VI
open Go.Proofs Go.RowKit
set_option maxRecDepth 100000
structure OrdOK (Pc : a0j → Prop) (cmp : a0j → a0j → Int) (sm : a0j → a0j → Bool) : Prop where
 ceq : ∀ g h, Pc g → Pc h → a1m (g, h, ()) = some (cmp g h, ())
 irr : ∀ g, Pc g → ¬ cmp g g < 0
 tr : ∀ f g h, Pc f → Pc g → Pc h → cmp f g < 0 → cmp g h < 0 → cmp f h < 0
 ntr : ∀ f g h, Pc f → Pc g → Pc h → ¬ cmp f g < 0 → ¬ cmp g h < 0 → ¬ cmp f h < 0
 seq : ∀ g h, Pc g → Pc h → b0h (g, h, ()) = some (sm g h, ())
def g3d (cmp : a0j → a0j → Int) (sm : a0j → a0j → Bool) (hs hs2 : List HE) : Prop :=
 ∃ hs', hs'.Perm hs ∧ (∀ (i j : Nat) (a b : HE), i < j → hs'[i]? = some a → hs'[j]? = some b → ¬ cmp b.heap a.heap < 0) ∧ dd sm hs' = hs2
set_option maxHeartbeats 1000000 in
theorem g1f {W : World} {B : Nat} {v : Value} {hs : List HE} {a0 : HE} (h : DeepH W B 29 55 v hs) (h0 : a0 ∈ hs) (hn : hs.length ≤ 100000) {Pc : a0j → Prop} (hP : ∀ a ∈ hs, Pc a.heap) {cmp : a0j → a0j → Int} {sm : a0j → a0j → Bool} (O : OrdOK Pc cmp sm) :
 Calls Tryz.prog 44 #[v] W fun e w' => ∃ v' hs2, e = .returned v' ∧ FrameL (fun q => v.ownBlock = some q) W w' ∧ g3d cmp sm hs hs2 ∧ DeepH w' B 29 55 v' hs2 := by
 have hs1 := i8u h h0 (by omega) Pc hP cmp O.ceq O.irr O.tr O.ntr
 have hs2 : ∀ V hs', hs'.Perm hs → DeepH V B 29 55 v hs' → Calls Tryz.prog 91 #[v, .func (.func 92) #[] #[]] V fun e w' => ∃ v', e = .returned v' ∧ FrameL (fun q => v.ownBlock = some q) V w' ∧ DeepH w' B 29 55 v' (dd sm hs') := fun V hs' hp hd =>
  h7c hd (by rw [hp.length_eq]; exact hn) sm fun a ha b hb => O.seq _ _ (hP a (hp.mem_iff.1 ha)) (hP b (hp.mem_iff.1 hb))
 obtain ⟨va, vl, vc, hv⟩ : ∃ va vl vc, v = .slice va vl vc := by
  rcases h.outer.2 with ⟨rfl, _⟩ | ⟨g, c, cur, rfl, _⟩
  · exact ⟨none, 0, 0, rfl⟩
  · exact ⟨_, _, _, rfl⟩
 subst hv
 go_enter Tryz.func44, Tryz.ntmps44
 go_wp2_with (first
  | (go_at_call 90; refine hs1.mono ?_; rintro e w2 ⟨rfl, hf2, hs', hp, hso, hd2⟩; have hc2 := hs2 w2 hs' hp hd2)
  | (go_at_call 91; refine hc2.mono ?_; rintro e w3 ⟨v3, rfl, hf3, hd3⟩))
 go_ret
 exact ⟨_, _, rfl, hf2.then hf3, ⟨hs', hp, fun i j a b h1 h2 h3 => Int.not_lt.2 (hso i j a b h1 h2 h3), rfl⟩, hd3⟩
end Go.VI
namespace Go.VI
open Go.Proofs Go.RowKit
set_option maxRecDepth 100000
def enc3 (l : List DA3) : List Value := (l.map fun c => [Value.int .i64 c.1, .int .i64 c.2.1, .int .i64 c.2.2.1]).flatten
theorem i5c (l : List DA3) : (enc3 l).length = l.length * 3 := by
 induction l with
 | nil => rfl
 | cons a r ih => simp [enc3] at ih ⊢; omega
theorem g4u (a b : List DA3) : enc3 (a ++ b) = enc3 a ++ enc3 b := by simp [enc3]
theorem h6l {l : List DA3} {i : Nat} {c : DA3} (h : l[i]? = some c) (j : Nat) (hj : j < 3) : (enc3 l)[i * 3 + j]? = [Value.int .i64 c.1, .int .i64 c.2.1, .int .i64 c.2.2.1][j]? := by
 induction l generalizing i with
 | nil => simp at h
 | cons b r ih =>
  have e : enc3 (b :: r) = [Value.int .i64 b.1, .int .i64 b.2.1, .int .i64 b.2.2.1] ++ enc3 r := by simp [enc3]
  rw [e]
  cases i with
  | zero =>
   obtain rfl : b = c := by simpa using h
   rw [List.getElem?_append_left (by simp; omega)]
   simp
  | succ i =>
   rw [List.getElem?_append_right (by simp; omega)]
   have := ih (by simpa using h) (i := i)
   simpa [show (i + 1) * 3 + j - 3 = i * 3 + j by omega] using this
theorem j2v (l : List DA3) : ∀ u ∈ enc3 l, u.oneCell' = true := by
 intro u hu
 simp only [enc3, List.mem_flatten, List.mem_map] at hu
 obtain ⟨_, ⟨c, _, rfl⟩, hu⟩ := hu
 simp at hu
 rcases hu with rfl | rfl | rfl <;> rfl
theorem j9u (Z : Nat → Prop) (w : World) : ∀ l : List DA3, RepsL Z w A3ty l (enc3 l)
 | [] => rfl
 | (a, b, c, ()) :: r => ⟨[.int .i64 a, .int .i64 b, .int .i64 c], enc3 r, by simp [enc3], i3y a b c, j9u Z w r⟩
theorem k0p {Z : Nat → Prop} {w : World} {B : Nat} {v : Value} {l : List DA3} (h : w.ownsRow B 55 3 v l.length (enc3 l)) : OwnV Z w B 55 A3ty v l :=
 ⟨by decide, enc3 l, OwnRow.of (t := A3ty) h, j9u Z w l⟩
theorem j9m {Z : Nat → Prop} {W : World} {l : List DA3} {a : Addr} {n c : Nat} (h : RepI Z W (.sl A3ty) l [.slice (some a) n c]) : ∀ j u, (enc3 l)[j]? = some u → W.cell? (a.add j) = some u := by
 intro j u hu
 have hj : j < (enc3 l).length := by
  rcases Nat.lt_or_ge j (enc3 l).length with h' | h'
  · exact h'
  · rw [List.getElem?_eq_none h'] at hu; cases hu
 rw [i5c] at hj
 have hi : j / 3 < l.length := by omega
 have hm : j % 3 < 3 := Nat.mod_lt _ (by decide)
 have e := h6l (List.getElem?_eq_getElem hi) (j % 3) hm
 rw [show j / 3 * 3 + j % 3 = j by omega] at e
 obtain ⟨A, c', e', _, h1⟩ := h
 obtain ⟨rfl, _⟩ : some a = A ∧ n = l.length ∧ c = c' := by simpa using e'
 obtain ⟨a', ha, _, xs, hx, hc⟩ := h1 (j / 3) _ (List.getElem?_eq_getElem hi)
 obtain rfl := Option.some.inj ha
 obtain ⟨y1, y2, rfl, rfl, y3, y4, rfl, rfl, y5, y6, rfl, rfl, rfl⟩ := hx
 have := hc (j % 3) u (by rw [← hu, e]; rfl)
 rw [show j / 3 * A3ty.size + j % 3 = j by show j / 3 * 3 + j % 3 = j; omega] at this
 exact this
theorem j0l : (Tryz.prog.info? 55).map (fun i => (i.zero, i.size, i.bytes)) = some (some (.agg #[.int .i64 0, .int .i64 0, .int .i64 0]), 3, 24) := by kernel_rfl
set_option maxHeartbeats 1000000 in
theorem i9s {Z : Nat → Prop} {W : World} {l : List DA3} {lv : Value} (h : RepI Z W (.sl A3ty) l [lv]) (_hz : ∀ g, Z g → g < W.heap.size) (hn : l.length ≤ 1000) :
 Calls Tryz.prog 41 #[lv] W fun e w' => ∃ x y, e = .returned (.slice x l.length y) ∧ Below W.heap.size W w' ∧ w'.ownsRow W.heap.size 55 3 (.slice x l.length y) l.length (enc3 l) := by
 have h' := h
 obtain ⟨A, c, e', hlc, h1⟩ := h'
 obtain rfl : lv = .slice A l.length c := by simpa using e'
 cases A with
 | none =>
  have hl : l = [] := by
   cases l with
   | nil => rfl
   | cons x r => obtain ⟨a, ha, _⟩ := h1 0 x rfl; cases ha
  subst hl
  have q33 : ∀ (w : World) (a : Option Addr) (n c n' c' : Nat), (binOp .eql 22 (.slice a n c) (.slice none n' c')).run Tryz.prog w = .ok (.bool a.isNone) w := fun w a n c n' c' => Lib.run_eql_slice_nil w 22 55 a n c n' c' Tryz.underlying22
  go_enter Tryz.func41, Tryz.ntmps41
  go_wp2
  go_ret
  exact ⟨_, _, rfl, Below.refl _ _, rfl, .inl ⟨rfl, rfl⟩⟩
 | some a =>
  have hc := j9m h
  have hc2 : ∀ j u, (enc3 l)[j]? = some u → (W.alloc (.cells #[] 55)).cell? (a.add j) = some u := fun j u hu => by
   have := hc j u hu
   have hlt : (a.add j).block < W.heap.size := by
    rcases Nat.lt_or_ge (a.add j).block W.heap.size with h' | h'
    · exact h'
    · simp [World.cell?, Array.getElem?_eq_none h'] at this
   rw [World.cell?_of_block (w := W) (Below.heap_alloc _ _ _ hlt)]
   exact this
  have hsrc : Go.Src Tryz.prog 3 22 (.slice (some a) l.length c) l.length (enc3 l) (W.alloc (.cells #[] 55)) := Go.Src.ofSlice _ Tryz.underlying22 a _ c _ (i5c l) hc2 (j2v l)
  have how : (W.alloc (.cells #[] 55)).ownsRow W.heap.size 55 3 (.slice (some ⟨W.heap.size, 0, none⟩) 0 0) 0 [] := ⟨rfl, .inr ⟨W.heap.size, 0, #[], rfl, Nat.le_refl _, alloc_at _ _, Nat.le_refl _, by decide, rfl, rfl⟩⟩
  obtain ⟨i0, hi0, hz0, hz1, hz2⟩ := info_parts j0l
  have sA := a1a W (.cells #[] 55)
  clear hc hc2 h1 h
  have q33 : ∀ (w : World) (a : Option Addr) (n c n' c' : Nat), (binOp .eql 22 (.slice a n c) (.slice none n' c')).run Tryz.prog w = .ok (.bool a.isNone) w := fun w a n c n' c' => Lib.run_eql_slice_nil w 22 55 a n c n' c' Tryz.underlying22
  go_enter Tryz.func41, Tryz.ntmps41
  go_wp2_with (at_builtin; refine b1v _ rfl _ _ 22 22 rfl W.heap.size 55 i0 (.agg #[.int .i64 0, .int .i64 0, .int .i64 0]) 3 24 Tryz.underlying22 hi0 hz0 hz1 hz2 rfl _ 0 [] rfl how (.slice (some a) l.length c) l.length (enc3 l) rfl hsrc (by unfold maxLen; omega) (by omega) (by rw [sA]; omega) ?_; intro v' w6 hv' hgr' hp')
  go_ret
  rw [Nat.zero_add, List.nil_append] at hv'
  obtain ⟨x, y, rfl⟩ : ∃ x y, v' = .slice x l.length y := by
   rcases hv'.2 with ⟨rfl, h0⟩ | ⟨g, c, cur, rfl, _⟩
   · exact ⟨none, 0, by rw [h0]⟩
   · exact ⟨_, _, rfl⟩
  refine ⟨_, _, rfl, ((Below.refl W.heap.size W).alloc (Nat.le_refl _) _).grown hgr' (by omega) fun j hj => by
   have e : W.heap.size = j := Option.some.inj hj
   omega, hv'⟩
end Go.VI
namespace Go.VI
open Go.Proofs Go.RowKit
set_option maxRecDepth 100000
def a3V (c : DA3) : Value := .agg #[.int .i64 c.1, .int .i64 c.2.1, .int .i64 c.2.2.1]
section
variable {P : Program} {G : World → Prop} {f : FuncId} {fn : Func} {c : Code} {As : List ATy} {Z : Nat → Prop} {w : World} {xs : c4b As} {vs : List Value}
theorem h0x {F : c4b As → Option (a1y [(true, A3ty)])} (hs : Sound P G f ⟨As, [(true, A3ty)], [], F⟩)
 (hf : P.funcs[f]? = some fn) (hb : fn.body = some c) (hn : (fn.name == "runtime.NumGoroutine") = false) {r : DA3} (hG : G w) (hZ : ∀ g, Z g → g < w.heap.size) (hrel : RelArgs P G Z w As xs vs) (hF : F xs = some (r, ())) :
 Calls P f vs.toArray w fun e' w' => e' = .returned (a3V r) ∧ Below w.heap.size w w' := by
 refine (FCalls.calls (e1g hf hb hn) (hs w Z vs xs (r, ()) hG hZ hrel hF)).mono ?_
 rintro e' w' ⟨v, rfl, Z', us, rfl, hbel, _, _, g, h1, h2, _⟩
 obtain ⟨k1, _, k3⟩ := h2 0 (true, [RCell.flat (.int .i64 r.1), RCell.flat (.int .i64 r.2.1), RCell.flat (.int .i64 r.2.2.1)]) rfl
 have a0 := (k3 0 _ rfl).2
 have a1 := (k3 1 _ rfl).2
 have a2 := (k3 2 _ rfl).2
 match us, h1, k1 with
 | [u], _, k1 =>
  have : u = a3a true ((List.range 3).map (g 0)) := by simpa using k1
  refine ⟨?_, hbel⟩
  rw [this]
  show Ending.returned (.agg #[g 0 0, g 0 1, g 0 2]) = _
  rw [a0, a1, a2]
  rfl
 | [], h1, _ => cases h1
 | _ :: _ :: _, h1, _ => cases h1
end
theorem i6e {W : World} {c d : DA3} {i : Int} (hF : a3t (c, i, ()) = some (d, ())) :
 Calls Tryz.prog 40 #[a3V c, .int .i64 i] W fun e' w' => e' = .returned (a3V d) ∧ Below W.heap.size W w' :=
 h0x (fn := Tryz.f40) h7l Tryz.func40 rfl (by kernel_rfl) (Z := fun _ => False) trivial (fun _ h => h.elim) (xs := (c, i, ())) (vs := [a3V c, .int .i64 i])
  ⟨_, _, rfl, (fun h => by cases h), i3y c.1 c.2.1 c.2.2.1, _, _, rfl, (fun _ => rfl), rfl, rfl⟩ hF
theorem j8w {Z : Nat → Prop} {W : World} {l : List DA3} {lv : Value} {d : DA3} {b : Bool} (hz : ∀ g, Z g → g < W.heap.size) (h : RepI Z W (.sl A3ty) l [lv]) (hF : a1b (l, d, ()) = some (b, ())) :
 Calls Tryz.prog 39 #[lv, a3V d] W fun e' w' => e' = .returned (.bool b) ∧ Below W.heap.size W w' :=
 c8u (fn := Tryz.f39) (r := (b, ())) c3q rfl Tryz.func39 rfl (by kernel_rfl) trivial hz (xs := (l, d, ())) (vs := [lv, a3V d])
  ⟨_, _, rfl, (fun _ => rfl), h, _, _, rfl, (fun h => by cases h), i3y d.1 d.2.1 d.2.2.1, rfl⟩ hF
theorem j7p {Z : Nat → Prop} {W : World} {l : List DA3} {lv : Value} {g : a0j} (hz : ∀ g, Z g → g < W.heap.size) (h : RepI Z W (.sl A3ty) l [lv]) (hF : a2l (l, ()) = some (g, ())) :
 Calls Tryz.prog 42 #[lv] W fun e' w' => ∃ u, e' = .returned (hpV g u) ∧ Below W.heap.size W w' ∧ OwnV (fun _ => False) w' W.heap.size 55 A3ty u g.2.2.2.1 :=
 g5y (fn := Tryz.f42) h6p Tryz.func42 rfl (by kernel_rfl) trivial hz (xs := (l, ())) (vs := [lv]) ⟨_, _, rfl, (fun _ => rfl), h, rfl⟩ hF
structure FormV where
 bey : DA3 → Nat → DA3
 has : List DA3 → DA3 → Bool
 hof : List DA3 → a0j
 frm : a0j → a0j
def FormV.cand (V : FormV) (l : List DA3) (c : DA3) (f : Nat) : Option a0j := if V.has l (V.bey c f) then none else some (V.frm (V.hof (l ++ [V.bey c f])))
def FormV.candC (V : FormV) (l : List DA3) (c : DA3) (n : Nat) : List a0j := (List.range n).filterMap (V.cand l c)
def FormV.candH (V : FormV) (l : List DA3) (n : Nat) : List a0j := (l.take n).flatMap fun c => V.candC l c 6
def FormV.cands (V : FormV) (L : List a0j) : List a0j := L.flatMap fun h => V.candH h.2.2.2.1 h.2.2.2.1.length
structure StepOK (V : FormV) (L : List a0j) : Prop where
 small : L.length ≤ 100 ∧ ∀ h ∈ L, h.2.2.2.1.length ≤ 10
 bey : ∀ h ∈ L, ∀ c ∈ h.2.2.2.1, ∀ f : Nat, f < 6 → a3t (c, (f : Int), ()) = some (V.bey c f, ())
 has : ∀ h ∈ L, ∀ c ∈ h.2.2.2.1, ∀ f : Nat, f < 6 → a1b (h.2.2.2.1, V.bey c f, ()) = some (V.has h.2.2.2.1 (V.bey c f), ())
 hof : ∀ h ∈ L, ∀ c ∈ h.2.2.2.1, ∀ f : Nat, f < 6 → V.has h.2.2.2.1 (V.bey c f) = false → a2l (h.2.2.2.1 ++ [V.bey c f], ()) = some (V.hof (h.2.2.2.1 ++ [V.bey c f]), ())
 frm : ∀ h ∈ L, ∀ c ∈ h.2.2.2.1, ∀ f : Nat, f < 6 → V.has h.2.2.2.1 (V.bey c f) = false → ∃ T gf cf bf cmp, FormOK (V.hof (h.2.2.2.1 ++ [V.bey c f])) T gf cf bf cmp ∧ c7e T.length cf cmp = V.frm (V.hof (h.2.2.2.1 ++ [V.bey c f]))
theorem h2q (V : FormV) (l : List DA3) (c : DA3) (n : Nat) : V.candC l c (n + 1) = V.candC l c n ++ (V.cand l c n).toList := by
 unfold FormV.candC
 rw [List.range_succ, List.filterMap_append]
 congr 1
theorem i8x (V : FormV) (l : List DA3) (n : Nat) (c : DA3) (h : l[n]? = some c) : V.candH l (n + 1) = V.candH l n ++ V.candC l c 6 := by
 have hlt : n < l.length := by
  rcases Nat.lt_or_ge n l.length with h' | h'
  · exact h'
  · rw [List.getElem?_eq_none h'] at h; cases h
 have : l[n] = c := by rw [List.getElem?_eq_getElem hlt] at h; exact Option.some.inj h
 unfold FormV.candH
 rw [List.take_succ_eq_append_getElem hlt, this, List.flatMap_append]
 simp
theorem i7s (V : FormV) (L : List a0j) (n : Nat) (h : a0j) (hh : L[n]? = some h) : V.cands (L.take (n + 1)) = V.cands (L.take n) ++ V.candH h.2.2.2.1 h.2.2.2.1.length := by
 have hlt : n < L.length := by
  rcases Nat.lt_or_ge n L.length with h' | h'
  · exact h'
  · rw [List.getElem?_eq_none h'] at hh; cases hh
 have : L[n] = h := by rw [List.getElem?_eq_getElem hlt] at hh; exact Option.some.inj hh
 unfold FormV.cands
 rw [List.take_succ_eq_append_getElem hlt, this, List.flatMap_append]
 simp
structure LoopF (W wr : World) (v : Value) (hs : List HE) (v19 : Value) (gs : List HE) (K : List (Nat × Obj)) : Prop where
 below : Below W.heap.size W wr
 deep : DeepH wr W.heap.size 29 55 v hs
 list : DeepH wr W.heap.size 29 55 v19 gs
 apart : ∀ g, v.ownBlock = some g → ¬ ZH v19 gs g
 boxes : ∀ b o, (b, o) ∈ K → W.heap.size ≤ b ∧ wr.heap[b]? = some o ∧ v.ownBlock ≠ some b
theorem LoopF.call {W wr w' : World} {v v19 : Value} {hs gs : List HE} {K : List (Nat × Obj)} (h : LoopF W wr v hs v19 gs K) (hb : Below wr.heap.size wr w') : LoopF W w' v hs v19 gs K :=
 ⟨a0r h.below hb, h.deep.below hb, h.list.below hb, h.apart, fun b o hm => ⟨(h.boxes b o hm).1, a0m (h.boxes b o hm).2.1 hb, (h.boxes b o hm).2.2⟩⟩
theorem LoopF.alloc {W wr : World} {v v19 : Value} {hs gs : List HE} {K : List (Nat × Obj)} (h : LoopF W wr v hs v19 gs K) (o : Obj) : LoopF W (wr.alloc o) v hs v19 gs ((wr.heap.size, o) :: K) := by
 have h2 := h.call (a5t wr o)
 refine ⟨h2.below, h2.deep, h2.list, h2.apart, fun b o' hm => ?_⟩
 rcases List.mem_cons.1 hm with e | hm
 · obtain ⟨rfl, rfl⟩ : b = wr.heap.size ∧ o' = o := by simpa using e
   exact ⟨h.below.size, alloc_at _ _, fun e => by have := (h.deep.outer.lt _ e).2; omega⟩
 · exact h2.boxes b o' hm
theorem LoopF.less {W wr : World} {v v19 : Value} {hs gs : List HE} {K : List (Nat × Obj)} {x : Nat × Obj} (h : LoopF W wr v hs v19 gs (x :: K)) : LoopF W wr v hs v19 gs K :=
 ⟨h.below, h.deep, h.list, h.apart, fun b o hm => h.boxes b o (List.mem_cons_of_mem _ hm)⟩
theorem LoopF.push {W wr w3 w6 : World} {v v' v19 : Value} {hs gs : List HE} {K : List (Nat × Obj)} {a : HE} {o : Obj} (h : LoopF W wr v hs v19 gs K) (hb : Below wr.heap.size wr w3)
 (hu : OwnV (fun _ => False) w3 wr.heap.size 55 A3ty a.v a.cells) (hv : w6.ownsRow W.heap.size 29 4 v' (hs.length + 1) (encs hs ++ a.enc)) (hgr : GrownD (w3.alloc o) w6 v.ownBlock) (hp : v'.ownBlock = v.ownBlock ∨ v'.ownBlock = some (w3.alloc o).heap.size) :
 LoopF W w6 v' (hs ++ [a]) v19 gs K := by
 have s1 := h.below.size
 have s3 := hb.size
 have sa := a1a w3 o
 have hB := a0r h.below hb
 have keep : ∀ g, g < w3.heap.size → v.ownBlock ≠ some g → w6.heap[g]? = w3.heap[g]? := fun g hg hn => by
  rw [hgr.block g (by omega) (fun e => hn e.symm), Below.heap_alloc _ _ _ hg]
 have ol := h.deep.outer
 have hz : ∀ g, ZH v19 gs g → g < wr.heap.size := fun g hg => (ZH.lt h.list g hg).2
 refine ⟨(hB.alloc (by omega) o).grown hgr (by omega) fun j hj => by have := (ol.lt j hj).1; omega, h.deep.push (by decide) hb (by omega) hu hv hgr, ?_, fun g hg hZ => ?_, fun b o' hm => ?_⟩
 · have hl := h.list.below hb
   refine ⟨f0m hl.outer fun g hg => keep g (hl.outer.lt g hg).2 fun e => h.apart g e (.inl hg), fun i x hx => ?_, hl.apart⟩
   have hi := hl.inner i x hx
   exact hi.mono (fun _ hz => hz) (fun _ hz => hz.elim) fun g hg => keep g (hi.lt g hg).2 fun e => h.apart g e (.inr ⟨x, List.mem_of_getElem? hx, hg⟩)
 · rcases hp with e | e
   · exact h.apart g (e ▸ hg) hZ
   · have := hz g hZ
     rw [e] at hg
     have : (w3.alloc o).heap.size = g := Option.some.inj hg
     omega
 · obtain ⟨b1, b2, b3⟩ := h.boxes b o' hm
   have hlt := lt_of_block b2
   refine ⟨b1, ?_, fun e' => ?_⟩
   · rw [keep b (by omega) b3]; exact a0m b2 hb
   · rcases hp with e | e
     · exact b3 (e ▸ e')
     · rw [e] at e'
       have : (w3.alloc o).heap.size = b := Option.some.inj e'
       omega
theorem k1p {w : World} {n : Nat} {a0 a1 a2 : Int} (h : w.heap[n]? = some (.cells #[.int .i64 a0, .int .i64 a1, .int .i64 a2] 55)) :
 Go.Src Tryz.prog 3 22 (.slice (some ⟨n, 0, none⟩) 1 1) 1 [.int .i64 a0, .int .i64 a1, .int .i64 a2] w := by
 refine Go.Src.ofSlice _ Tryz.underlying22 _ 1 1 _ rfl (fun j u hu => ?_) (fun u hu => ?_)
 · rw [Addr.add_lit, Nat.zero_add]
   match j, hu with
   | 0, hu => obtain rfl := Option.some.inj hu; simp [World.cell?, h]
   | 1, hu => obtain rfl := Option.some.inj hu; simp [World.cell?, h]
   | 2, hu => obtain rfl := Option.some.inj hu; simp [World.cell?, h]
 · simp only [List.mem_cons, List.not_mem_nil, or_false] at hu
   rcases hu with rfl | rfl | rfl <;> rfl
theorem i0d {w5 X w7 : World} {v : Value} {e : TypeId} {s n : Nat} {xs : List Value} (hB : Below w5.heap.size w5 X) (ho : X.ownsRow w5.heap.size e s v n xs) (hg : GrownD X w7 v.ownBlock) : Below w5.heap.size w5 w7 :=
 hB.grown hg hB.size fun j hj => (ho.lt j hj).1
theorem j3r {w : World} {B B' : Nat} {e : TypeId} {s : Nat} {v : Value} {n : Nat} {xs : List Value} (h : w.ownsRow B e s v n xs) (hB : B' ≤ B) : w.ownsRow B' e s v n xs := by
 refine ⟨h.1, ?_⟩
 rcases h.2 with hn | ⟨g, cap, cur, e1, hb', hg, rest⟩
 · exact .inl hn
 · exact .inr ⟨g, cap, cur, e1, Nat.le_trans hB hb', hg, rest⟩
theorem j5v {Z : Nat → Prop} {w5 U : World} {l : List DA3} {lv : Value} (hz : ∀ g, Z g → g < w5.heap.size) (h : RepI Z w5 (.sl A3ty) l [lv]) (hn : l.length ≤ 1000) (hU : Below w5.heap.size w5 U) :
 FCalls Tryz.prog 41 #[lv] U fun v w' => ∃ x y, v = .slice x l.length y ∧ Below U.heap.size U w' ∧ Below w5.heap.size w5 w' ∧ w'.ownsRow w5.heap.size 55 3 (.slice x l.length y) l.length (enc3 l) := by
 refine Calls.fcalls (fn := Tryz.f41) Tryz.func41 rfl (by kernel_rfl) ((i9s (Z := Z) (RepI.mono (fun _ hz => hz) (fun g hg => hU.block g (hz g hg)) _ _ _ h) (fun g hg => Nat.lt_of_lt_of_le (hz g hg) hU.size) hn).mono ?_)
 rintro e w' ⟨x, y, rfl, hb, ho⟩
 exact ⟨_, rfl, x, y, rfl, hb, a0r hU hb, j3r ho hU.size⟩
theorem k1a {w5 U : World} {l : List DA3} {v : Value} {g : a0j} (hU : Below w5.heap.size w5 U) (h : U.ownsRow w5.heap.size 55 3 v l.length (enc3 l)) (hF : a2l (l, ()) = some (g, ())) :
 FCalls Tryz.prog 42 #[v] U fun r w' => ∃ x n y, r = .agg #[.int .i64 g.1, .int .i64 g.2.1, .int .i64 g.2.2.1, .slice x n y] ∧ Below w5.heap.size w5 w' ∧ OwnV (fun _ => False) w' w5.heap.size 55 A3ty (.slice x n y) g.2.2.2.1 := by
 have ho := k0p (Z := fun _ => False) h
 refine Calls.fcalls (fn := Tryz.f42) Tryz.func42 rfl (by kernel_rfl) ((j7p (Z := fun q => v.ownBlock = some q) (fun q hq => (ho.lt q hq).2) (ho.reads _ (fun _ hz => hz.elim) fun q hq => hq) hF).mono ?_)
 rintro e w' ⟨u, rfl, hb, hu⟩
 obtain ⟨x, y, rfl⟩ := hu.slice1
 exact ⟨_, rfl, x, _, y, rfl, a0r hU hb, OwnV.rebaseH hu fun q hq => Nat.le_trans hU.size (hu.lt q hq).1⟩
theorem j8s {w5 U : World} {g r0 : a0j} {x : Option Addr} {n y : Nat} (hU : Below w5.heap.size w5 U) (h : OwnV (fun _ => False) U w5.heap.size 55 A3ty (.slice x n y) g.2.2.2.1) {T : List a0c} {gf cf : Nat → a0j} {bf : Nat → Bool} {cmp : a0j → a0j → Int} (f : FormOK g T gf cf bf cmp) (hr : c7e T.length cf cmp = r0) :
 FCalls Tryz.prog 43 #[.agg #[.int .i64 g.1, .int .i64 g.2.1, .int .i64 g.2.2.1, .slice x n y]] U fun r w' => ∃ x n y, r = .agg #[.int .i64 r0.1, .int .i64 r0.2.1, .int .i64 r0.2.2.1, .slice x n y] ∧ Below w5.heap.size w5 w' ∧ OwnV (fun _ => False) w' w5.heap.size 55 A3ty (.slice x n y) r0.2.2.2.1 := by
 subst hr
 refine Calls.fcalls (fn := Tryz.f43) Tryz.func43 rfl (by kernel_rfl) ((f8y (ArgH.own h) f).mono ?_)
 rintro e w' ⟨u, rfl, hb, hu⟩
 obtain ⟨x, y, rfl⟩ := hu.slice1
 exact ⟨_, rfl, x, _, y, rfl, a0r hU hb, OwnV.rebaseH hu fun q hq => Nat.le_trans hU.size (hu.lt q hq).1⟩
end Go.VI
namespace Go.VI
open Go.Proofs Go.RowKit
set_option maxRecDepth 100000
structure JoinV where
 add : DA3 → DA3 → DA3
 bey : DA3 → Nat → DA3
 has : DA3 → Bool
 hof : List DA3 → a0j
 frm : a0j → a0j
def byN (n : Nat) : DA3 := ((n : Int) % 9 - 4, (n : Int) / 9 % 9 - 4, (n : Int) / 81 - 4, ())
def JoinV.clash (V : JoinV) (S : List DA3) (p : DA3) : Bool := S.any fun c => V.has (V.add c p)
def JoinV.touchF (V : JoinV) (d : DA3) (n : Nat) : Bool := (List.range n).any fun f => V.has (V.bey d f)
def JoinV.touch (V : JoinV) (S : List DA3) (p : DA3) : Bool := S.any fun c => V.touchF (V.add c p) 6
def JoinV.keep (V : JoinV) (S : List DA3) (p : DA3) : Bool := V.touch S p && !V.clash S p
def JoinV.cells (V : JoinV) (F S : List DA3) (p : DA3) : List DA3 := F ++ S.map fun c => V.add c p
def JoinV.cand (V : JoinV) (F S : List DA3) (n : Nat) : Option a0j := if V.keep S (byN n) then some (V.frm (V.hof (V.cells F S (byN n)))) else none
def JoinV.candS (V : JoinV) (F S : List DA3) (n : Nat) : List a0j := (List.range n).filterMap (V.cand F S)
def JoinV.cands (V : JoinV) (F : List DA3) (L : List a0j) : List a0j := L.flatMap fun h => V.candS F h.2.2.2.1 729
structure JoinOK (V : JoinV) (F : List DA3) (L : List a0j) : Prop where
 smallF : F.length ≤ 10
 smallL : L.length ≤ 24
 small : ∀ h ∈ L, h.2.2.2.1.length ≤ 10
 add : ∀ c d, a1w (c, d, ()) = some (V.add c d, ())
 bey : ∀ d (f : Nat), f < 6 → a3t (d, (f : Int), ()) = some (V.bey d f, ())
 has : ∀ d, a1b (F, d, ()) = some (V.has d, ())
 hof : ∀ h ∈ L, ∀ n < 729, V.keep h.2.2.2.1 (byN n) = true → a2l (V.cells F h.2.2.2.1 (byN n), ()) = some (V.hof (V.cells F h.2.2.2.1 (byN n)), ())
 frm : ∀ h ∈ L, ∀ n < 729, V.keep h.2.2.2.1 (byN n) = true → ∃ T gf cf bf cmp, FormOK (V.hof (V.cells F h.2.2.2.1 (byN n))) T gf cf bf cmp ∧ c7e T.length cf cmp = V.frm (V.hof (V.cells F h.2.2.2.1 (byN n)))
theorem h2h (V : JoinV) (F S : List DA3) (n : Nat) : V.candS F S (n + 1) = V.candS F S n ++ (V.cand F S n).toList := by
 unfold JoinV.candS
 rw [List.range_succ, List.filterMap_append]
 congr 1
theorem i2z (V : JoinV) (F : List DA3) (L : List a0j) (n : Nat) (h : a0j) (hh : L[n]? = some h) : V.cands F (L.take (n + 1)) = V.cands F (L.take n) ++ V.candS F h.2.2.2.1 729 := by
 have hlt : n < L.length := by
  rcases Nat.lt_or_ge n L.length with h' | h'
  · exact h'
  · rw [List.getElem?_eq_none h'] at hh; cases hh
 have : L[n] = h := by rw [List.getElem?_eq_getElem hlt] at hh; exact Option.some.inj hh
 unfold JoinV.cands
 rw [List.take_succ_eq_append_getElem hlt, this, List.flatMap_append]
 simp
theorem g6e (V : JoinV) (d : DA3) (n : Nat) : V.touchF d (n + 1) = (V.touchF d n || V.has (V.bey d n)) := by
 unfold JoinV.touchF
 rw [List.range_succ, List.any_append]
 simp
theorem any_take_succ {α : Type} (p : α → Bool) (l : List α) (n : Nat) (a : α) (h : l[n]? = some a) : (l.take (n + 1)).any p = ((l.take n).any p || p a) := by
 have hlt : n < l.length := by
  rcases Nat.lt_or_ge n l.length with h' | h'
  · exact h'
  · rw [List.getElem?_eq_none h'] at h; cases h
 have : l[n] = a := by rw [List.getElem?_eq_getElem hlt] at h; exact Option.some.inj h
 rw [List.take_succ_eq_append_getElem hlt, this, List.any_append]
 simp
structure JF (W wr : World) (v : Value) (hs : List HE) (v47 : Value) (gs : List HE) (fv : Value) (F : List DA3) (K : List (Nat × Obj)) : Prop where
 loop : LoopF W wr v hs v47 gs K
 fst : OwnV (fun _ => False) wr W.heap.size 55 A3ty fv F
 far : ∀ g, v.ownBlock = some g → fv.ownBlock ≠ some g
section
variable {W wr w' : World} {v v47 fv : Value} {hs gs : List HE} {F : List DA3} {K : List (Nat × Obj)}
theorem JF.call (h : JF W wr v hs v47 gs fv F K) (hb : Below wr.heap.size wr w') : JF W w' v hs v47 gs fv F K := ⟨h.loop.call hb, b3d h.fst hb, h.far⟩
theorem JF.alloc (h : JF W wr v hs v47 gs fv F K) (o : Obj) : JF W (wr.alloc o) v hs v47 gs fv F ((wr.heap.size, o) :: K) := ⟨h.loop.alloc o, b3d h.fst (a5t wr o), h.far⟩
theorem JF.less {x : Nat × Obj} (h : JF W wr v hs v47 gs fv F (x :: K)) : JF W wr v hs v47 gs fv F K := ⟨h.loop.less, h.fst, h.far⟩
theorem JF.push {w3 w6 : World} {v' : Value} {a : HE} {o : Obj} (h : JF W wr v hs v47 gs fv F K) (hb : Below wr.heap.size wr w3)
 (hu : OwnV (fun _ => False) w3 wr.heap.size 55 A3ty a.v a.cells) (hv : w6.ownsRow W.heap.size 29 4 v' (hs.length + 1) (encs hs ++ a.enc)) (hgr : GrownD (w3.alloc o) w6 v.ownBlock) (hp : v'.ownBlock = v.ownBlock ∨ v'.ownBlock = some (w3.alloc o).heap.size) :
 JF W w6 v' (hs ++ [a]) v47 gs fv F K := by
 refine ⟨h.loop.push hb hu hv hgr hp, ?_, fun g hg hf => ?_⟩
 · have hf := b3d h.fst hb
   exact hf.mono (fun _ hz => hz) (fun _ hz => hz.elim) fun g hg => by
    have hl := (hf.lt g hg).2
    rw [hgr.block g (by rw [a1a]; omega) (fun e => h.far g e.symm hg), Below.heap_alloc _ _ _ hl]
 · rcases hp with e | e
   · exact h.far g (e ▸ hg) hf
   · have := (h.fst.lt g hf).2
     have := hb.size
     rw [e, a1a] at hg
     have : w3.heap.size + 1 = g := Option.some.inj hg
     omega
theorem JF.read (h : JF W wr v hs v47 gs fv F K) : RepI (fun q => fv.ownBlock = some q) wr (.sl A3ty) F [fv] := h.fst.reads _ (fun _ hz => hz.elim) fun _ hq => hq
theorem JF.zone (h : JF W wr v hs v47 gs fv F K) : ∀ q, fv.ownBlock = some q → q < wr.heap.size := fun _ hq => (h.fst.lt _ hq).2
end
theorem j1f {W : World} {c d e : DA3} (hF : a1w (c, d, ()) = some (e, ())) :
 Calls Tryz.prog 38 #[a3V c, a3V d] W fun e' w' => e' = .returned (a3V e) ∧ Below W.heap.size W w' :=
 h0x (fn := Tryz.f38) d0v Tryz.func38 rfl (by kernel_rfl) (Z := fun _ => False) trivial (fun _ h => h.elim) (xs := (c, d, ())) (vs := [a3V c, a3V d])
  ⟨_, _, rfl, (fun h => by cases h), i3y c.1 c.2.1 c.2.2.1, _, _, rfl, (fun h => by cases h), i3y d.1 d.2.1 d.2.2.1, rfl⟩ hF
end Go.VI
namespace Go.VI
open Go.Proofs
set_option maxRecDepth 100000
noncomputable section
abbrev T24 : List a0c := [((0, 1, 2, ()), (0, 0, 0, ()), ()), ((0, 1, 2, ()), (0, 1, 1, ()), ()), ((0, 1, 2, ()), (1, 0, 1, ()), ()), ((0, 1, 2, ()), (1, 1, 0, ()), ()), ((0, 2, 1, ()), (0, 0, 1, ()), ()), ((0, 2, 1, ()), (0, 1, 0, ()), ()), ((0, 2, 1, ()), (1, 0, 0, ()), ()), ((0, 2, 1, ()), (1, 1, 1, ()), ()), ((1, 0, 2, ()), (0, 0, 1, ()), ()), ((1, 0, 2, ()), (0, 1, 0, ()), ()), ((1, 0, 2, ()), (1, 0, 0, ()), ()), ((1, 0, 2, ()), (1, 1, 1, ()), ()), ((1, 2, 0, ()), (0, 0, 0, ()), ()), ((1, 2, 0, ()), (0, 1, 1, ()), ()), ((1, 2, 0, ()), (1, 0, 1, ()), ()), ((1, 2, 0, ()), (1, 1, 0, ()), ()), ((2, 0, 1, ()), (0, 0, 0, ()), ()), ((2, 0, 1, ()), (0, 1, 1, ()), ()), ((2, 0, 1, ()), (1, 0, 1, ()), ()), ((2, 0, 1, ()), (1, 1, 0, ()), ()), ((2, 1, 0, ()), (0, 0, 1, ()), ()), ((2, 1, 0, ()), (0, 1, 0, ()), ()), ((2, 1, 0, ()), (1, 0, 0, ()), ()), ((2, 1, 0, ()), (1, 1, 1, ()), ())]
theorem j0d : a2u () = some (T24, ()) := g6l () _ (by kernel_rfl)
theorem i5t : a6r () = some (T24, ()) := h0s () _ (by kernel_rfl)
def k1h (t : a0c) : Bool := (decide (t.1.1 = 0) || (decide (t.1.1 = 1) || decide (t.1.1 = 2))) && ((decide (t.1.2.1 = 0) || (decide (t.1.2.1 = 1) || decide (t.1.2.1 = 2))) && (decide (t.1.2.2.1 = 0) || (decide (t.1.2.2.1 = 1) || decide (t.1.2.2.1 = 2))))
theorem i1r : ∀ t ∈ T24, OkT t := by
 have h : T24.all k1h = true := by kernel_rfl
 rw [List.all_eq_true] at h
 intro t ht
 have := h t ht
 simpa [k1h, OkT] using this
abbrev dT : a0c := ((0, 0, 0, ()), (0, 0, 0, ()), ())
def tAt (i : Nat) : a0c := T24.getD i dT
theorem f7f {i : Nat} (h : i < 24) : tAt i ∈ T24 := by
 unfold tAt
 rw [List.getD_eq_getElem?_getD, List.getElem?_eq_getElem (by exact h)]
 exact List.getElem_mem _
theorem i5m {i : Nat} {t : a0c} (h : T24[i]? = some t) : tAt i = t := by unfold tAt; rw [List.getD_eq_getElem?_getD, h]; rfl
theorem k0z (c : a0a) : tl (tAt 0) c = c := rfl
open Classical in
def h3d (l : List a0a) : a0b := if h : ∃ k, Nrm l k then Classical.choose h else (0, 0, 0, [], ())
theorem a7e {l : List a0a} {k : a0b} (h : Nrm l k) : h3d l = k := by
 have he : ∃ k, Nrm l k := ⟨k, h⟩
 unfold h3d
 rw [dif_pos he]
 exact (Classical.choose_spec he).uniq h
theorem h3a {l l' : List a0a} (h : ∀ k, Nrm l k ↔ Nrm l' k) : h3d l = h3d l' := by
 by_cases he : ∃ k, Nrm l k
 · obtain ⟨k, hk⟩ := he
   rw [a7e hk, a7e ((h k).1 hk)]
 · have he' : ¬ ∃ k, Nrm l' k := fun ⟨k, hk⟩ => he ⟨k, (h k).2 hk⟩
   unfold h3d
   rw [dif_neg he, dif_neg he']
def a8w (t : a0c) (l : List a0a) : a0b := h3d (l.map (tl t))
def b1r (l : List a0a) : a0b := c7e 24 (fun i => a8w (tAt i) l) i1s
theorem j4i {l l' : List a0a} (e : ∀ c, c ∈ l ↔ c ∈ l') (t : a0c) : a8w t l = a8w t l' := by
 have e' : ∀ c, c ∈ l.map (tl t) ↔ c ∈ l'.map (tl t) := fun c => by
  simp only [List.mem_map]
  exact ⟨fun ⟨d, h1, h2⟩ => ⟨d, (e d).1 h1, h2⟩, fun ⟨d, h1, h2⟩ => ⟨d, (e d).2 h1, h2⟩⟩
 exact h3a fun k => ⟨fun h => h.set e', fun h => h.set fun c => (e' c).symm⟩
theorem i4a {l : List a0a} {v : a0a} {k : a0b} : Nrm (l.map fun c => a1s c v) k ↔ Nrm l k := by
 constructor
 · intro h
   refine (h.add (negC v)).set fun c => ?_
   simp only [List.map_map, List.mem_map, Function.comp]
   constructor
   · rintro ⟨d, h1, rfl⟩; rw [b0u]; exact h1
   · intro h1; exact ⟨c, h1, b0u ..⟩
 · intro h; exact h.add v
theorem j3j {l : List a0a} (v : a0a) (t : a0c) : a8w t (l.map fun c => a1s c v) = a8w t l := by
 refine h3a fun k => ?_
 rw [List.map_map, show (tl t ∘ fun c => a1s c v) = (fun c => a1s c (tl t v)) ∘ tl t from funext fun c => j5e t c v, ← List.map_map]
 exact i4a
theorem d6e {l l' : List a0a} (e : ∀ c, c ∈ l ↔ c ∈ l') : b1r l = b1r l' := by
 unfold b1r
 rw [show (fun i => a8w (tAt i) l) = fun i => a8w (tAt i) l' from funext fun i => j4i e _]
theorem d6g {l : List a0a} (v : a0a) : b1r (l.map fun c => a1s c v) = b1r l := by
 unfold b1r
 rw [show (fun i => a8w (tAt i) (l.map fun c => a1s c v)) = fun i => a8w (tAt i) l from funext fun i => j3j v _]
theorem d7o {l : List a0a} {k : a0b} (h : Nrm l k) : b1r k.2.2.2.1 = b1r l := by
 obtain ⟨v, hv⟩ := h.moved
 rw [← d6g (l := k.2.2.2.1) v]
 refine d6e fun c => ?_
 rw [List.mem_map]
 constructor
 · rintro ⟨d, hd, rfl⟩; exact (hv d).1 hd
 · intro hc
   exact ⟨a1s c (negC v), (hv _).2 (by rw [a4j]; exact hc), a4j ..⟩
structure GoodH (X Y Z : Int) (l : List a0a) : Prop where
 sides : sides X Y Z = true
 ins : Ins X Y Z l
 srt : Srt l
 ne : l ≠ []
theorem GoodH.small {X Y Z : Int} {l : List a0a} (h : GoodH X Y Z l) : Small l := by have := a4n h.sides h.ins h.srt; unfold Small; omega
theorem GoodH.tame {X Y Z : Int} {l : List a0a} (h : GoodH X Y Z l) : i7c l := fun c hc => by
 have := sides_iff.1 h.sides
 have := within3_iff.1 (h.ins c hc)
 omega
theorem c5i {l : List a0a} (h : Close l) {t : a0c} (_ : OkT t) : Close (l.map (tl t)) := fun c hc d hd => by
 obtain ⟨a, ha, rfl⟩ := List.mem_map.1 hc
 obtain ⟨b, hb, rfl⟩ := List.mem_map.1 hd
 have h1 := h a ha b hb
 have h2 := h b hb a ha
 have key : ∀ f, a8y a f - a8y b f ≤ 3 ∧ a8y b f - a8y a f ≤ 3 := fun f => by
  unfold a8y
  cases decide (f = 0) <;> cases decide (f = 1) <;> simp <;> omega
 have k0 := key t.1.1; have k1 := key t.1.2.1; have k2 := key t.1.2.2.1
 unfold tl
 refine ⟨?_, ?_, ?_⟩
 · simp only; cases decide (t.2.1.1 = 1) <;> simp <;> omega
 · simp only; cases decide (t.2.1.2.1 = 1) <;> simp <;> omega
 · simp only; cases decide (t.2.1.2.2.1 = 1) <;> simp <;> omega
theorem g4n {l : List a0a} (hc : Close l) {k : a0b} (h : Nrm l k) : Small k.2.2.2.1 := by
 obtain ⟨lo, hi, a⟩ := h
 obtain ⟨h1, h2⟩ := a.ok hc
 have := a4n h1 h2 a.srt
 unfold Small; omega
theorem f7i {X Y Z : Int} {l : List a0a} (g : GoodH X Y Z l) {t : a0c} (ht : OkT t) : Small (a8w t l).2.2.2.1 := by
 obtain ⟨h', k, _, _, hk⟩ := i9q ht g.sides g.ins g.small g.ne
 unfold a8w
 rw [a7e hk]
 exact g4n (c5i (a7k g.sides g.ins) ht) hk
def gfV (t : a0c) (h : a0b) : a0b := match a4v (t, h, ()) with
 | some r => r.1
 | none => (0, 0, 0, [], ())
theorem i0n {X Y Z : Int} {l : List a0a} (g : GoodH X Y Z l) {t : a0c} (ht : OkT t) : a4v (t, (X, Y, Z, l, ()), ()) = some (gfV t (X, Y, Z, l, ()), ()) ∧ a2j (gfV t (X, Y, Z, l, ()), ()) = some (a8w t l, true, ()) := by
 obtain ⟨h', k, e1, e2, hk⟩ := i9q ht g.sides g.ins g.small g.ne
 have e : gfV t (X, Y, Z, l, ()) = h' := by unfold gfV; rw [e1]
 unfold a8w
 rw [e, a7e hk]
 exact ⟨e1, e2⟩
theorem e6i {X Y Z : Int} {l : List a0a} (g : GoodH X Y Z l) : FormOK (X, Y, Z, l, ()) T24 (fun i => gfV (tAt i) (X, Y, Z, l, ())) (fun i => a8w (tAt i) l) (fun _ => true) i1s := by
 refine ⟨j0d, by decide, by decide, fun i t ht => ?_, fun i j hi hj => ?_⟩
 · have hm := List.mem_of_getElem? ht
   simp only [i5m ht]
   exact i0n g (i1r t hm)
 · exact j5u (f7i g (i1r _ (f7f hi))) (f7i g (i1r _ (f7f hj)))
def i1t (l : List a0a) (T : List a0c) (b : a0b) : a0b := T.foldl (fun m t => if a9f (a8w t l) m = true then a8w t l else m) b
theorem i2w {X Y Z : Int} {l : List a0a} (g : GoodH X Y Z l) {T : List a0c} (hT : ∀ t ∈ T, OkT t) (hl : T.length ≤ 1000) : ∀ (d k m : Nat) (b : a0b), T.length = k + d → d < m → Small b.2.2.2.1 →
 a7y m X Y Z l 0 0 0 [] b.1 b.2.1 b.2.2.1 b.2.2.2.1 T (k : Int) = some (i1t l (T.drop k) b, ())
 | d, k, 0, b, _, h, _ => by omega
 | d, k, m + 1, b, hk, hm, hb => by
  rw [g2c]
  by_cases hlt : k < T.length
  · have ht := hT _ (List.getElem_mem hlt)
    obtain ⟨h', p, e1, e2, hp⟩ := i5o ht g.sides g.ins g.small g.ne
    have ep : a8w T[k] l = p := a7e hp
    rw [ltT hlt, a1j hlt, b9l (t := a1h) hlt, drop_at T k hlt]
    simp only [cond_true]
    rw [e1]
    simp only [Option.bind_some]
    rw [e2]
    simp only [Option.bind_some]
    have hps : Small p.2.2.2.1 := g4n (c5i (a7k g.sides g.ins) ht) hp
    have hle : a4q (p, (b.1, (b.2.1, (b.2.2.1, (b.2.2.2.1, ())))), ()) = some (a9f p b, ()) := i6y hps hb
    rw [hle, a5v k (by omega)]
    simp only [Option.bind_some]
    unfold i1t
    rw [List.foldl_cons, ep]
    cases hlt' : a9f p b with
    | true =>
     rw [if_pos rfl]
     exact i2w g hT hl (d - 1) (k + 1) m p (by omega) (by omega) hps
    | false =>
     rw [if_neg (by simp)]
     exact i2w g hT hl (d - 1) (k + 1) m b (by omega) (by omega) hb
  · rw [ltF hlt, List.drop_eq_nil_of_le (by omega)]
    rfl
theorem j4q : ∀ (T : List a0c) (l : List a0a) (b : a0b), j6z i1s (T.map fun t => a8w t l) b = i1t l T b
 | [], _, _ => rfl
 | t :: T, l, b => by
  show j6z i1s (T.map fun t => a8w t l) (if i1s (a8w t l) b < 0 then a8w t l else b) = i1t l T (if a9f (a8w t l) b = true then a8w t l else b)
  rw [j4q T l]
  congr 1
  by_cases h : a9f (a8w t l) b = true
  · rw [if_pos (cmpH_neg.2 h), if_pos h]
  · rw [if_neg (fun e => h (cmpH_neg.1 e)), if_neg h]
theorem j8c : (List.range 24).map tAt = T24 := by
 apply List.ext_getElem?
 intro i
 rw [List.getElem?_map]
 by_cases h : i < 24
 · rw [List.getElem?_range h]
   have : T24[i]? = some T24[i] := List.getElem?_eq_getElem (by exact h)
   rw [this, Option.map_some, i5m this]
 · rw [List.getElem?_eq_none (by simpa using h), List.getElem?_eq_none (by exact Nat.le_of_not_lt h)]
   rfl
theorem j1i (l : List a0a) : b1r l = i1t l (T24.drop 1) (a8w (tAt 0) l) := by
 unfold b1r c7e
 rw [show (List.range 24).map (fun i => a8w (tAt i) l) = ((List.range 24).map tAt).map fun t => a8w t l by rw [List.map_map]; rfl, j8c, ← List.map_drop, j4q]
theorem h5v {X Y Z : Int} {l : List a0a} (g : GoodH X Y Z l) : a3q ((X, Y, Z, l, ()), ()) = some (b1r l, ()) := by
 obtain ⟨k, e1, hk⟩ := h5q (X := X) (Y := Y) (Z := Z) g.small g.srt g.tame g.ne
 rw [g9l, e1]
 simp only [Option.bind_some]
 rw [i5t]
 simp only [Option.bind_some]
 have hks := g4n (a7k g.sides g.ins) hk
 have := i2w g i1r (by decide) T24.length 0 N k (by omega) (by have := b6u; have : T24.length = 24 := rfl; omega) hks
 rw [show ((0 : Nat) : Int) = 0 from rfl, List.drop_zero] at this
 rw [this, j1i]
 have e0 : a8w (tAt 0) l = k := by
  unfold a8w
  rw [show l.map (tl (tAt 0)) = l from (List.map_congr_left fun c _ => k0z c).trans (List.map_id l)]
  exact a7e hk
 rw [e0]
 have eT : T24 = tAt 0 :: T24.drop 1 := rfl
 congr 2
 show i1t l T24 k = i1t l (T24.drop 1) k
 conv => lhs; rw [eT]
 unfold i1t
 rw [List.foldl_cons, e0, b4g]
 rfl
end
end Go.VI
namespace Go.VI
open Go.Proofs
def g1z (Y : Int) (c : a0a) : Int := c.1 * Y + c.2.1
theorem i3c {X Y Z : Int} (hs : sides X Y Z = true) {c : a0a} (hc : a0k X Y Z c = true) : 0 ≤ g1z Y c ∧ g1z Y c < X * Y ∧ 0 ≤ c.1 * Y ∧ c.1 * Y ≤ 16 := by
 have s := sides_iff.1 hs
 have w := within3_iff.1 hc
 unfold g1z
 rcases four s.1.1 s.1.2 with rfl | rfl | rfl | rfl <;> rcases four s.2.1.1 s.2.1.2 with rfl | rfl | rfl | rfl <;> omega
def upL (Y : Int) (acc : List Int) (c : a0a) : List Int := List.set acc (Int.toNat (g1z Y c)) (IntKind.wrap .i64 ((nth ((.int .i64) : Ty) acc (g1z Y c)) + 1))
theorem i6x {X Y Z : Int} (hs : sides X Y Z = true) {c : a0a} (hc : a0k X Y Z c = true) {acc : List Int} (ha : acc.length = (X * Y).toNat) : inB (g1z Y c) acc.length = true := by
 obtain ⟨h1, h2, h3, h4⟩ := i3c hs hc
 unfold inB
 rw [Bool.and_eq_true, decide_eq_true_eq, decide_eq_true_eq]
 omega
theorem j0q {Y : Int} {acc : List Int} {c : a0a} : (upL Y acc c).length = acc.length := by simp [upL]
theorem i9v {X Y Z : Int} (hs : sides X Y Z = true) {l : List a0a} (hl : Small l) (hi : Ins X Y Z l) : ∀ (d i m : Nat) (acc : List Int), l.length = i + d → d < m → acc.length = (X * Y).toNat →
 b2n m X Y Z l 0 1 acc (i : Int) = some ((l.drop i).foldl (upL Y) acc, ())
 | d, i, 0, acc, _, h, _ => by omega
 | d, i, m + 1, acc, hk, hm, ha => by
  have hl' := hl
  unfold Small at hl'
  rw [g4l]
  by_cases hlt : i < l.length
  · have hc := hi _ (List.getElem_mem hlt)
    obtain ⟨h1, h2, h3, h4⟩ := i3c hs hc
    have h5 := c2q hs
    have w := within3_iff.1 hc
    have s := sides_iff.1 hs
    rw [ltT hlt, a1j hlt, b9l (t := a0e) hlt, g3j l (show (0 : Int) ≤ 1 by decide) (by decide), drop_at l i hlt, a5v i (by omega)]
    have e : IntKind.wrap .i64 (IntKind.wrap .i64 ((bif decide ((0 : Int) = (0 : Int)) then l[i].1 else (bif decide ((0 : Int) = (1 : Int)) then l[i].2.1 else l[i].2.2.1)) * i2f X Y Z 1) + (bif decide ((1 : Int) = (0 : Int)) then l[i].1 else (bif decide ((1 : Int) = (1 : Int)) then l[i].2.1 else l[i].2.2.1))) = g1z Y l[i] := by
     show IntKind.wrap .i64 (IntKind.wrap .i64 (l[i].1 * Y) + l[i].2.1) = _
     unfold g1z at *
     rw [w64 (x := l[i].1 * Y) (by omega) (by omega), w64 (by omega) (by omega)]
    simp only [cond_true, Option.bind_some, show inB (0 : Int) 3 = true from rfl, show inB (1 : Int) 3 = true from rfl] at e ⊢
    rw [e, i6x hs hc ha]
    simp only [cond_true, List.foldl_cons]
    exact i9v hs hl hi (d - 1) (i + 1) m (upL Y acc l[i]) (by omega) (by omega) (by rw [j0q, ha])
  · rw [ltF hlt, List.drop_eq_nil_of_le (by omega)]
    rfl
def cols (X Y : Int) (l : List a0a) : List Int := l.foldl (upL Y) (List.replicate (X * Y).toNat 0)
theorem f5t (Y : Int) : ∀ (l : List a0a) (acc : List Int), (l.foldl (upL Y) acc).length = acc.length
 | [], _ => rfl
 | c :: l, acc => by rw [List.foldl_cons, f5t Y l, j0q]
theorem j3a (X Y : Int) (l : List a0a) : (cols X Y l).length = (X * Y).toNat := by
 unfold cols
 rw [f5t, List.length_replicate]
theorem j9w {n : Int} (h0 : 0 ≤ n) (h1 : n ≤ 1000) : (decide ((0 : Int) ≤ n) && decide (n ≤ n) && decide (n * ((8 : Nat) : Int) ≤ 140737488355328) && decide (n ≤ 140737488355328)) = true := by
 rw [decide_eq_true h0, decide_eq_true (Int.le_refl n), decide_eq_true (p := n * ((8 : Nat) : Int) ≤ 140737488355328) (by omega), decide_eq_true (p := n ≤ 140737488355328) (by omega)]
 rfl
theorem j6j {X Y Z : Int} (hs : sides X Y Z = true) {l : List a0a} (hl : Small l) (hi : Ins X Y Z l) : b7n ((X, Y, Z, l, ()), 2, ()) = some (cols X Y l, ()) := by
 have h5 := c2q hs
 rw [h4u, g5l]
 simp only [show decide ((2 : Int) = 0) = false from rfl, show decide ((2 : Int) = 1) = false from rfl, cond_false, Option.bind_some]
 rw [g3j l (show (0 : Int) ≤ 0 by decide) (by decide), g3j l (show (0 : Int) ≤ 1 by decide) (by decide)]
 simp only [Option.bind_some]
 have e : IntKind.wrap .i64 (i2f X Y Z 0 * i2f X Y Z 1) = X * Y := by
  show IntKind.wrap .i64 (X * Y) = _
  rw [w64 (by omega) (by omega)]
 rw [e, j9w (by omega) (by omega)]
 exact i9v hs hl hi l.length 0 N (List.replicate (X * Y).toNat 0) (by simp) (by unfold Small at hl; have := b6u; omega) (by simp)
def k0l (Y : Int) (V : List Int) (c : a0a) : Bool := decide (c.2.2.1 < nth ((.int .i64) : Ty) V (g1z Y c))
theorem h6t {X Y Z X' Y' Z' : Int} (hs : sides X Y Z = true) {V : List Int} (hV : V.length = (X * Y).toNat) {al : List a0a} (hal : Small al) (hin : Ins X Y Z al) : ∀ (d i m : Nat) (out : List a0a), al.length = i + d → d < m → out.length ≤ i →
 a5z m 0 0 0 [] X' Y' Z' out Y V al (i : Int) = some ((X', Y', Z', out ++ (al.drop i).filter (k0l Y V), ()), ())
 | d, i, 0, out, _, h, _ => by omega
 | d, i, m + 1, out, hk, hm, ho => by
  have hal' := hal
  unfold Small at hal'
  rw [g2s]
  by_cases hlt : i < al.length
  · have hc := hin _ (List.getElem_mem hlt)
    obtain ⟨h1, h2, h3, h4⟩ := i3c hs hc
    have h5 := c2q hs
    have w := within3_iff.1 hc
    have s := sides_iff.1 hs
    have e : IntKind.wrap .i64 (IntKind.wrap .i64 (al[i].1 * Y) + al[i].2.1) = g1z Y al[i] := by
     unfold g1z at *
     rw [w64 (x := al[i].1 * Y) (by omega) (by omega), w64 (by omega) (by omega)]
    rw [ltT hlt, a1j hlt, b9l (t := a0e) hlt, e, i6x hs hc hV, b7v (by omega), drop_at al i hlt, a5v i (by omega)]
    simp only [cond_true, List.filter_cons]
    cases hlow : decide (al[i].2.2.1 < nth ((.int .i64) : Ty) V (g1z Y al[i])) with
    | false =>
     have hl2 : k0l Y V al[i] = false := hlow
     rw [hl2]
     simp only [cond_false, Bool.false_eq_true, if_false]
     exact h6t hs hV hal hin (d - 1) (i + 1) m out (by omega) (by omega) (by omega)
    | true =>
     have hl2 : k0l Y V al[i] = true := hlow
     rw [hl2]
     simp only [cond_true, if_true]
     rw [h6t hs hV hal hin (d - 1) (i + 1) m _ (by omega) (by omega) (by simp; omega)]
     simp
  · rw [ltF hlt, List.drop_eq_nil_of_le (by omega)]
    simp
end Go.VI
namespace Go.VI
open Go.Proofs
def ab (x y : Int) : Int := if x - y > y - x then x - y else y - x
theorem j5x (x y : Int) : a1i (x - y, y - x, ()) = some (ab x y, ()) := by
 rw [f3r]
 unfold ab
 by_cases h : x - y > y - x <;> simp [h]
theorem j6c (a b : a0a) (ha : e6t a) (hb : e6t b) : b1h (a, b, ()) = some (ab a.1 b.1 + ab a.2.1 b.2.1 + ab a.2.2.1 b.2.2.1, ()) := by
 obtain ⟨n, hn⟩ : ∃ n, N = n + 4 := ⟨N - 4, by have := b6u; omega⟩
 unfold e6t at ha hb
 have bd : ∀ x y : Int, -1000 ≤ x → x ≤ 1000 → -1000 ≤ y → y ≤ 1000 → 0 ≤ ab x y ∧ ab x y ≤ 2000 := fun x y h1 h2 h3 h4 => by unfold ab; split <;> omega
 obtain ⟨x0, x1⟩ := bd a.1 b.1 (by omega) (by omega) (by omega) (by omega)
 obtain ⟨y0, y1⟩ := bd a.2.1 b.2.1 (by omega) (by omega) (by omega) (by omega)
 obtain ⟨z0, z1⟩ := bd a.2.2.1 b.2.2.1 (by omega) (by omega) (by omega) (by omega)
 have wr : ∀ x y : Int, -1000 ≤ x → x ≤ 1000 → -1000 ≤ y → y ≤ 1000 → IntKind.wrap .i64 (x - y) = x - y := fun x y h1 h2 h3 h4 => w64 (by omega) (by omega)
 have s : ∀ (m : Nat) (v x y : Int) (k : Nat), k < 3 → (bif decide ((k : Int) = (0 : Int)) then a.1 else (bif decide ((k : Int) = (1 : Int)) then a.2.1 else a.2.2.1)) = x → (bif decide ((k : Int) = (0 : Int)) then b.1 else (bif decide ((k : Int) = (1 : Int)) then b.2.1 else b.2.2.1)) = y → -1000 ≤ x → x ≤ 1000 → -1000 ≤ y → y ≤ 1000 → 0 ≤ v → v ≤ 100000 →
  a4c (m + 1) a.1 a.2.1 a.2.2.1 b.1 b.2.1 b.2.2.1 v (k : Int) = a4c m a.1 a.2.1 a.2.2.1 b.1 b.2.1 b.2.2.1 (v + ab x y) ((k + 1 : Nat) : Int) := by
  intro m v x y k hk hx hy h1 h2 h3 h4 h5 h6
  obtain ⟨b0, b1⟩ := bd x y h1 h2 h3 h4
  rw [d9m, decide_eq_true (p := (k : Int) < 3) (by omega), a1j (k := k) (n := 3) hk, hx, hy, wr x y h1 h2 h3 h4, wr y x h3 h4 h1 h2, j5x, a5v k (by omega)]
  simp only [cond_true, Option.bind_some]
  rw [w64 (by omega) (by omega)]
 have fin : ∀ (m : Nat) (v : Int), a4c (m + 1) a.1 a.2.1 a.2.2.1 b.1 b.2.1 b.2.2.1 v ((3 : Nat) : Int) = some (v, ()) := by
  intro m v; rw [d9m]; rfl
 rw [h0o]
 show a4c N a.1 a.2.1 a.2.2.1 b.1 b.2.1 b.2.2.1 0 ((0 : Nat) : Int) = _
 rw [hn, s (n + 3) 0 a.1 b.1 0 (by omega) rfl rfl (by omega) (by omega) (by omega) (by omega) (by omega) (by omega), s (n + 2) _ a.2.1 b.2.1 1 (by omega) rfl rfl (by omega) (by omega) (by omega) (by omega) (by omega) (by omega), s (n + 1) _ a.2.2.1 b.2.2.1 2 (by omega) rfl rfl (by omega) (by omega) (by omega) (by omega) (by omega) (by omega), fin]
 congr 2
 omega
theorem i5y (a c : a0a) : ab a.1 c.1 + ab a.2.1 c.2.1 + ab a.2.2.1 c.2.2.1 = 1 ↔ nb c a := by
 rw [nb_iff]
 unfold ab
 constructor
 · intro h
   split at h <;> split at h <;> split at h <;> omega
 · intro h
   split <;> split <;> split <;> omega
theorem j1s {X Y Z : Int} {l : List a0a} (hl : l.length ≤ 1000000) (hn : ∀ c ∈ l, e6t c) {c : a0a} (hc : e6t c) (p : a0a → Bool) (hp : ∀ x, p x = true ↔ nb c x) : ∀ (d i m : Nat) (out : List a0a), l.length = i + d → d < m → out.length ≤ i →
 a9s m X Y Z l c.1 c.2.1 c.2.2.1 out (i : Int) = some (out ++ (l.drop i).filter p, ())
 | d, i, 0, out, _, h, _ => by omega
 | d, i, m + 1, out, hk, hm, ho => by
  rw [g6z]
  by_cases hlt : i < l.length
  · have e := j6c l[i] c (hn _ (List.getElem_mem hlt)) hc
    have e' : b1h (l[i], (c.1, (c.2.1, (c.2.2.1, ()))), ()) = _ := e
    rw [ltT hlt, a1j hlt, b9l (t := a0e) hlt, e', b7v (by omega), drop_at l i hlt, a5v i (by omega)]
    simp only [cond_true, Option.bind_some, List.filter_cons]
    by_cases h : nb c l[i]
    · rw [decide_eq_true ((i5y l[i] c).2 h), (hp _).2 h]
      simp only [cond_true, if_true]
      rw [j1s hl hn hc p hp (d - 1) (i + 1) m _ (by omega) (by omega) (by simp; omega)]
      simp
    · have hpf : p l[i] = false := by
       cases hb : p l[i] with
       | false => rfl
       | true => exact absurd ((hp _).1 hb) h
      rw [decide_eq_false (fun hh => h ((i5y l[i] c).1 hh)), hpf]
      simp only [cond_false, Bool.false_eq_true, if_false]
      exact j1s hl hn hc p hp (d - 1) (i + 1) m out (by omega) (by omega) (by omega)
  · rw [ltF hlt, List.drop_eq_nil_of_le (by omega)]
    simp
open Classical in
noncomputable def nbB (c x : a0a) : Bool := decide (nb c x)
open Classical in
theorem i2s (c x : a0a) : nbB c x = true ↔ nb c x := by simp [nbB]
theorem j6f {X Y Z : Int} {l : List a0a} (hl : l.length ≤ 1000000) (hn : ∀ c ∈ l, e6t c) {c : a0a} (hc : e6t c) : b8u ((X, Y, Z, l, ()), c, ()) = some (l.filter (nbB c), ()) := by
 have := j1s (X := X) (Y := Y) (Z := Z) hl hn hc (nbB c) (i2s c) l.length 0 N [] (by simp) (by have := b6u; omega) (by simp)
 rw [h4t]
 exact this
def Conn (l : List a0a) (c0 : a0a) : a0a → Prop := Rch (fun c => c = c0) (fun c => c ∈ l)
theorem Conn.mem {l : List a0a} {c0 c : a0a} (h0 : c0 ∈ l) (h : Conn l c0 c) : c ∈ l := by
 cases h with
 | base h => rw [h]; exact h0
 | step _ _ h => exact h
theorem Conn.trans {l : List a0a} {a b c : a0a} (h : Conn l a b) (k : Conn l b c) : Conn l a c :=
 Rch.mono (p := fun x => x = b) (fun x hx => by rw [hx]; exact h) (fun _ h => h) k
theorem Conn.symm {l : List a0a} {a b : a0a} (ha : a ∈ l) (h : Conn l a b) : Conn l b a := by
 induction h with
 | base h => exact .base h.symm
 | step hr hn hd ih =>
  rename_i c d
  have hc : c ∈ l := Conn.mem ha hr
  exact Conn.trans (.step (.base rfl) (e2x hn) hc) ih
structure Part (l L0 : List a0a) (c0 : a0a) (n np : Nat) (ls lf pt : List a0a) : Prop where
 srt : Srt lf
 sub : ∀ c ∈ lf, c ∈ L0
 lsub : ∀ c ∈ ls, c ∈ L0
 all : ∀ c ∈ L0, c ∈ ls ∨ c ∈ lf
 apart : ∀ c ∈ ls, c ∉ lf
 conn : ∀ c ∈ ls, Conn l c0 c
 done : ∀ i, i < n → ∀ c, ls[i]? = some c → ∀ d, nb c d → d ∉ lf
 psrt : Srt pt
 pmem : ∀ c, c ∈ pt ↔ c ∈ ls.take np
 nodup : ls.Nodup
 start : c0 ∈ ls
theorem Part.len {l L0 : List a0a} {c0 : a0a} {n np : Nat} {ls lf pt : List a0a} (h : Part l L0 c0 n np ls lf pt) (hr : Srt L0) : ls.length + lf.length = L0.length := by
 have hp : L0.Perm (ls ++ lf) := by
  refine (List.perm_ext_iff_of_nodup hr.nodup ?_).2 fun c => ?_
  · rw [List.nodup_append]
    exact ⟨h.nodup, h.srt.nodup, fun a ha b hb e => h.apart a ha (e ▸ hb)⟩
  · rw [List.mem_append]
    exact ⟨h.all c, fun hc => hc.elim (h.lsub c) (h.sub c)⟩
 rw [hp.length_eq, List.length_append]
theorem Part.take {l L0 : List a0a} {c0 : a0a} {n np : Nat} {ls lf pt : List a0a} (hl : ∀ c ∈ L0, c ∈ l) (h : Part l L0 c0 n np ls lf pt) {c x : a0a} (hcl : c ∈ ls) (hx : x ∈ lf) (hn : nb c x) (hnp : np ≤ ls.length) (hpt : n ≤ ls.length) :
 Part l L0 c0 n np (ls ++ [x]) (lf.filter fun y => !decide (y = x)) pt := by
 have hxl : x ∉ ls := fun hh => h.apart x hh hx
 refine ⟨h.srt.filter _, fun y hy => h.sub y (List.mem_filter.1 hy).1, fun y hy => ?_, fun y hy => ?_, fun y hy => ?_, fun y hy => ?_, fun i hi y hy d hd => ?_, h.psrt, fun y => ?_, ?_, List.mem_append_left _ h.start⟩
 · rcases List.mem_append.1 hy with hy | hy
   · exact h.lsub y hy
   · rw [List.mem_singleton.1 hy]; exact h.sub x hx
 · rcases h.all y hy with hy | hy
   · exact .inl (List.mem_append_left _ hy)
   · by_cases e : y = x
     · exact .inl (by rw [e]; simp)
     · exact .inr (List.mem_filter.2 ⟨hy, by simp [e]⟩)
 · intro hh
   have hh' := List.mem_filter.1 hh
   rcases List.mem_append.1 hy with hy | hy
   · exact h.apart y hy hh'.1
   · rw [List.mem_singleton.1 hy] at hh'
     simp at hh'
 · rcases List.mem_append.1 hy with hy | hy
   · exact h.conn y hy
   · rw [List.mem_singleton.1 hy]
     exact .step (h.conn c hcl) hn (hl x (h.sub x hx))
 · rw [List.getElem?_append_left (by omega)] at hy
   exact fun hh => h.done i hi y hy d hd (List.mem_filter.1 hh).1
 · rw [h.pmem, List.take_append_of_le_length (by omega)]
 · rw [List.nodup_append]
   exact ⟨h.nodup, (by simp), fun a ha b hb e => hxl (by rw [← List.mem_singleton.1 hb, ← e]; exact ha)⟩
end Go.VI
namespace Go.VI
open Go.Proofs
def same (cuts : List i9g) (a b : a0a) : Bool := cuts.all fun t => decide (a8y a t.1 < t.2.1) == decide (a8y b t.1 < t.2.1)
theorem same_iff {cuts : List i9g} {a b : a0a} : same cuts a b = true ↔ ∀ t ∈ cuts, (a8y a t.1 < t.2.1 ↔ a8y b t.1 < t.2.1) := by
 unfold same
 rw [List.all_eq_true]
 constructor
 · intro h t ht
   have := h t ht
   rw [beq_iff_eq, decide_eq_decide] at this
   exact this
 · intro h t ht
   rw [beq_iff_eq, decide_eq_decide]
   exact h t ht
theorem j0p (cuts : List i9g) (a : a0a) : same cuts a a = true := same_iff.2 fun _ _ => Iff.rfl
theorem i7g {cuts : List i9g} {a b c : a0a} (h : same cuts a b = true) (k : same cuts b c = true) : same cuts a c = true := same_iff.2 fun t ht => (same_iff.1 h t ht).trans (same_iff.1 k t ht)
def ConnS (cuts : List i9g) (l : List a0a) (c0 : a0a) : a0a → Prop := Rch (fun c => c = c0) (fun c => c ∈ l ∧ same cuts c0 c = true)
theorem ConnS.mem {cuts : List i9g} {l : List a0a} {c0 c : a0a} (h0 : c0 ∈ l) (h : ConnS cuts l c0 c) : c ∈ l := by
 cases h with
 | base h => rw [h]; exact h0
 | step _ _ h => exact h.1
theorem ConnS.same {cuts : List i9g} {l : List a0a} {c0 c : a0a} (h : ConnS cuts l c0 c) : same cuts c0 c = true := by
 cases h with
 | base h => rw [h]; exact j0p _ _
 | step _ _ h => exact h.2
theorem ConnS.conn {cuts : List i9g} {l : List a0a} {c0 c : a0a} (h : ConnS cuts l c0 c) : Conn l c0 c := Rch.mono (fun _ hx => .base hx) (fun _ hx => hx.1) h
structure PartS (cuts : List i9g) (l L0 : List a0a) (c0 : a0a) (n np : Nat) (ls lf pt : List a0a) : Prop where
 srt : Srt lf
 sub : ∀ c ∈ lf, c ∈ L0
 lsub : ∀ c ∈ ls, c ∈ L0
 all : ∀ c ∈ L0, c ∈ ls ∨ c ∈ lf
 apart : ∀ c ∈ ls, c ∉ lf
 conn : ∀ c ∈ ls, ConnS cuts l c0 c
 done : ∀ i, i < n → ∀ c, ls[i]? = some c → ∀ d, nb c d → same cuts c d = true → d ∉ lf
 psrt : Srt pt
 pmem : ∀ c, c ∈ pt ↔ c ∈ ls.take np
 nodup : ls.Nodup
 start : c0 ∈ ls
theorem PartS.len {cuts : List i9g} {l L0 : List a0a} {c0 : a0a} {n np : Nat} {ls lf pt : List a0a} (h : PartS cuts l L0 c0 n np ls lf pt) (hr : Srt L0) : ls.length + lf.length = L0.length := by
 have hp : L0.Perm (ls ++ lf) := by
  refine (List.perm_ext_iff_of_nodup hr.nodup ?_).2 fun c => ?_
  · rw [List.nodup_append]
    exact ⟨h.nodup, h.srt.nodup, fun a ha b hb e => h.apart a ha (e ▸ hb)⟩
  · rw [List.mem_append]
    exact ⟨h.all c, fun hc => hc.elim (h.lsub c) (h.sub c)⟩
 rw [hp.length_eq, List.length_append]
theorem PartS.take {cuts : List i9g} {l L0 : List a0a} {c0 : a0a} {n np : Nat} {ls lf pt : List a0a} (hl : ∀ c ∈ L0, c ∈ l) (h : PartS cuts l L0 c0 n np ls lf pt) {c x : a0a} (hcl : c ∈ ls) (hx : x ∈ lf) (hn : nb c x) (hsm : same cuts c x = true) (hnp : np ≤ ls.length) (hpt : n ≤ ls.length) :
 PartS cuts l L0 c0 n np (ls ++ [x]) (lf.filter fun y => !decide (y = x)) pt := by
 have hxl : x ∉ ls := fun hh => h.apart x hh hx
 refine ⟨h.srt.filter _, fun y hy => h.sub y (List.mem_filter.1 hy).1, fun y hy => ?_, fun y hy => ?_, fun y hy => ?_, fun y hy => ?_, fun i hi y hy d hd hs => ?_, h.psrt, fun y => ?_, ?_, List.mem_append_left _ h.start⟩
 · rcases List.mem_append.1 hy with hy | hy
   · exact h.lsub y hy
   · rw [List.mem_singleton.1 hy]; exact h.sub x hx
 · rcases h.all y hy with hy | hy
   · exact .inl (List.mem_append_left _ hy)
   · by_cases e : y = x
     · exact .inl (by rw [e]; simp)
     · exact .inr (List.mem_filter.2 ⟨hy, by simp [e]⟩)
 · intro hh
   have hh' := List.mem_filter.1 hh
   rcases List.mem_append.1 hy with hy | hy
   · exact h.apart y hy hh'.1
   · rw [List.mem_singleton.1 hy] at hh'
     simp at hh'
 · rcases List.mem_append.1 hy with hy | hy
   · exact h.conn y hy
   · rw [List.mem_singleton.1 hy]
     exact .step (h.conn c hcl) hn ⟨hl x (h.sub x hx), i7g (h.conn c hcl).same hsm⟩
 · intro hh
   have hh' := List.mem_filter.1 hh
   rw [List.getElem?_append_left (by omega)] at hy
   exact h.done i hi y hy d hd hs hh'.1
 · rw [h.pmem, List.take_append_of_le_length hnp]
 · rw [List.nodup_append]
   exact ⟨h.nodup, by simp, fun a ha b hb e => hxl (by rw [← List.mem_singleton.1 hb, ← e]; exact ha)⟩
end Go.VI
