/- The forms of one part, by a walk. -/
import Derived.Test.YtlnfgikipeiaiaaVjDd
namespace Go.VI
open Go.Proofs Go.RowKit
set_option maxRecDepth 100000
set_option maxHeartbeats 1000000 in
theorem forms_one {G : DHeap} (hF : P_impl_heapOf ([(0, 0, 0, ())], ()) = some (G, ())) (W : World) :
    Calls Try.prog 17 #[.int .i64 1] W fun e w' => ∃ v gs, e = .returned v ∧ Below W.heap.size W w' ∧ DeepH w' W.heap.size 35 42 v gs ∧ gs.map HE.heap = [G] := by
  have ho : (W.alloc (.cells #[.int .i64 0, .int .i64 0, .int .i64 0] 42)).ownsRow W.heap.size 42 3 (.slice (some ⟨W.heap.size, 0, none⟩) 1 1) [((0, 0, 0, ()) : DA3)].length (enc3 [(0, 0, 0, ())]) :=
    ⟨rfl, .inr ⟨W.heap.size, 1, _, rfl, Nat.le_refl _, alloc_at _ _, Nat.le_refl _, by decide, rfl, rfl⟩⟩
  have hw := own3 (Z := fun _ => False) ho
  have hc := c_hof (Z := fun q => (Value.slice (some ⟨W.heap.size, 0, none⟩) 1 1).ownBlock = some q) (fun q hq => (hw.lt q hq).2) (hw.reads _ (fun _ hz => hz.elim) fun q hq => hq) hF
  clear hw ho
  unfold hpV at hc
  go_enter Try.func17, Try.ntmps17
  go_wp2_with (go_at_call 32; refine hc.mono ?_; rintro e w2 ⟨u, rfl, hb2, hu⟩; obtain ⟨x, y, rfl⟩ := hu.slice1)
  go_ret
  have sA := alloc_size W (.cells #[.int .i64 0, .int .i64 0, .int .i64 0] 42)
  have hB := belowThen (belowAlloc W _) hb2
  refine ⟨_, [⟨G.1, G.2.1, G.2.2.1, G.2.2.2.1, .slice x G.2.2.2.1.length y⟩], rfl, belowA hB _, ⟨⟨rfl, .inr ⟨_, 1, _, rfl, hB.size, alloc_at _ _, Nat.le_refl _, by decide, rfl, rfl⟩⟩, fun i a ha => ?_, fun i j a b q ha hb _ _ => ?_⟩, rfl⟩
  · obtain ⟨rfl, rfl⟩ : i = 0 ∧ a = ⟨G.1, G.2.1, G.2.2.1, G.2.2.2.1, .slice x G.2.2.2.1.length y⟩ := by
      cases i with
      | zero => exact ⟨rfl, (Option.some.inj ha).symm⟩
      | succ i => simp at ha
    exact own_belowH (OwnV.rebaseH hu fun q hq => by have := (hu.lt q hq).1; omega) (belowAlloc _ _)
  · cases i with
    | zero => cases j with
      | zero => rfl
      | succ j => simp at hb
    | succ i => simp at ha
end Go.VI
/- impl.FormsOf, by a walk. -/
namespace Go.VI
open Go.Proofs Go.RowKit
set_option maxRecDepth 100000
theorem c_within {W : World} {n a b : Int} {r : Bool} (hF : P_impl_within (n, a, b, ()) = some (r, ())) :
    Calls Try.prog 16 #[.int .i64 n, .int .i64 a, .int .i64 b] W fun e' w' => e' = .returned (.bool r) ∧ Below W.heap.size W w' :=
  flatH_calls (fn := Try.f16) (r := (r, ())) s_impl_within rfl Try.func16 rfl (by kernel_rfl) (Z := fun _ => False) trivial (fun _ h => h.elim) (xs := (n, a, b, ())) (vs := [.int .i64 n, .int .i64 a, .int .i64 b])
    ⟨_, _, rfl, (fun _ => rfl), rfl, _, _, rfl, (fun _ => rfl), rfl, _, _, rfl, (fun _ => rfl), rfl, rfl⟩ hF
theorem formsOf_no {W : World} {n : Int} (hF : P_impl_within (n, 1, 4, ()) = some (false, ())) :
    Calls Try.prog 8 #[.int .i64 n] W fun e w' => e = .returned (.tuple #[.slice none 0 0, .bool false]) ∧ Below W.heap.size W w' := by
  have hc := c_within (W := W) hF
  go_enter Try.func8, Try.ntmps8
  go_wp2_with (go_at_call 16; refine hc.mono ?_; rintro e w2 ⟨rfl, hb2⟩)
  go_ret2
  exact ⟨rfl, hb2⟩
theorem formsOf_yes {W : World} {n : Int} {Post : List DHeap → Prop} (hF : P_impl_within (n, 1, 4, ()) = some (true, ()))
    (hf : ∀ U, Calls Try.prog 17 #[.int .i64 n] U fun e w' => ∃ v gs, e = .returned v ∧ Below U.heap.size U w' ∧ DeepH w' U.heap.size 35 42 v gs ∧ Post (gs.map HE.heap)) :
    Calls Try.prog 8 #[.int .i64 n] W fun e w' => ∃ v gs, e = .returned (.tuple #[v, .bool true]) ∧ Below W.heap.size W w' ∧ DeepH w' W.heap.size 35 42 v gs ∧ Post (gs.map HE.heap) := by
  have hc := c_within (W := W) hF
  go_enter Try.func8, Try.ntmps8
  go_wp2_with (first
    | (go_at_call 16; refine hc.mono ?_; rintro e w2 ⟨rfl, hb2⟩; have hf2 := hf w2)
    | (go_at_call 17; refine hf2.mono ?_; rintro e w3 ⟨v, gs, rfl, hb3, hd3, hp⟩))
  go_ret2
  exact ⟨v, gs, rfl, belowThen hb2 hb3, hd3.rebase hb2.size, hp⟩
end Go.VI
/- Heaps of a row are marked, by a walk (so far: one row of cells). -/
namespace Go.VI
open Go.Proofs Go.RowKit
set_option maxRecDepth 100000
theorem mark_rowH {w : World} {B : Nat} {u : Value} {l l2 : List D_A3} {k k2 : Int} (hu : OwnV (fun _ => False) w B 42 T_A3 u l) (hF : P_laws_markIntA3S (l, k, ()) = some ((k2, ()), (l2, ()))) :
    Calls Try.prog 19 #[u, .int .i64 k] w fun e w' => e = .returned (.int .i64 k2) ∧ FrameL (fun g => u.ownBlock = some g) w w' ∧ OwnV (fun _ => False) w' B 42 T_A3 u l2 := by
  have hs := s_laws_markIntA3S w (fun _ => False) [u, .int .i64 k] (l, k, ()) (k2, ()) (l2, ()) [.row u 42 T_A3] trivial (fun _ h => h.elim)
    ⟨[u], [.int .i64 k], [.row u 42 T_A3], [], rfl, (fun _ => rfl), rfl, ⟨42, u, rfl, rfl, rfl, OwnV.rebaseM hu fun g _ => Nat.zero_le g⟩, [.int .i64 k], [], rfl, (fun _ => rfl), rfl, rfl, rfl⟩
    ⟨fun g hg => by
      obtain ⟨it, hit, hb⟩ := hg
      obtain rfl : it = .row u 42 T_A3 := by simpa using hit
      exact ⟨fun hz => hz, (hu.lt g hb).2, Nat.zero_le _⟩, fun i j p q g hp hq _ _ => by
      match i, j, hp, hq with
      | 0, 0, _, _ => rfl⟩ hF
  refine (FCalls.calls (enter_run (fn := Try.f19) Try.func19 rfl (by kernel_rfl)) hs).mono ?_
  rintro e w' ⟨v, rfl, Z', us, rfl, hfr, _, _, hres, hout⟩
  have hus := resRel_flatH (R := [(false, .int .i64)]) rfl hres
  obtain ⟨l', ns', he, hown, _⟩ := hout
  have he' : (l' = l2 : Prop) := by
    have : [New.row T_A3 l2] = New.row T_A3 l' :: ns' := he
    simp at this
    exact this.1.symm
  subst he'
  refine ⟨by rw [hus]; rfl, ⟨hfr.os, hfr.tape, hfr.output, hfr.size, fun g hg hn => hfr.block g hg fun ⟨it, hit, hb⟩ => ?_, hfr.drawn⟩, ?_⟩
  · obtain rfl : it = .row u 42 T_A3 := by simpa using hit
    exact hn hb
  · exact (OwnV.rebaseM hown fun g hg => (hu.lt g hg).1).flat rfl
theorem DeepH.setE {w w2 : World} {B : Nat} {eo ei : TypeId} {v : Value} {hs : List HE} (h : DeepH w B eo ei v hs) (he : eo ≠ ei) {i : Nat} {a a' : HE} (ha : hs[i]? = some a) (hv : a'.v = a.v)
    (hf : FrameL (fun g => v.ownBlock = some g ∨ a.v.ownBlock = some g) w w2) (hn : OwnV (fun _ => False) w2 B ei A3ty a.v a'.cells) (ho : w2.ownsRow B eo 4 v hs.length (encs (hs.set i a'))) : DeepH w2 B eo ei v (hs.set i a') := by
  have hlt : i < hs.length := by
    rcases Nat.lt_or_ge i hs.length with h' | h'
    · exact h'
    · rw [List.getElem?_eq_none h'] at ha; cases ha
  have hat : ∀ (j : Nat) (b : HE), (hs.set i a')[j]? = some b → (j = i ∧ b = a') ∨ (j ≠ i ∧ hs[j]? = some b) := fun j b hb => by
    by_cases hij : i = j
    · subst hij
      rw [List.getElem?_set_self hlt] at hb
      exact .inl ⟨rfl, (Option.some.inj hb).symm⟩
    · rw [List.getElem?_set_ne hij] at hb
      exact .inr ⟨fun e => hij e.symm, hb⟩
  have hatv : ∀ (j : Nat) (b : HE), (hs.set i a')[j]? = some b → ∃ c, hs[j]? = some c ∧ c.v = b.v := fun j b hb => by
    rcases hat j b hb with ⟨rfl, rfl⟩ | ⟨_, hb⟩
    · exact ⟨a, ha, hv.symm⟩
    · exact ⟨b, hb, rfl⟩
  refine ⟨by rw [List.length_set]; exact ho, fun j b hb => ?_, fun j k b c g hb hc gb gc => ?_⟩
  · rcases hat j b hb with ⟨rfl, rfl⟩ | ⟨hji, hb⟩
    · rw [hv]; exact hn
    · have hi := h.inner j b hb
      exact hi.mono (fun _ hz => hz) (fun _ hz => hz.elim) fun g hg => hf.block g (hi.lt g hg).2 fun e => by
        rcases e with e | e
        · exact h.outer_ne he hb hg e
        · exact hji (h.apart j i b a g hb ha hg e)
  · obtain ⟨b', hb', eb⟩ := hatv j b hb
    obtain ⟨c', hc', ec⟩ := hatv k c hc
    exact h.apart j k b' c' g hb' hc' (eb ▸ gb) (ec ▸ gc)
theorem encs_set {hs : List HE} {i : Nat} {a a' : HE} (ha : hs[i]? = some a) (he : a'.enc = a.enc) : encs (hs.set i a') = encs hs := by
  have hlt : i < hs.length := by
    rcases Nat.lt_or_ge i hs.length with h' | h'
    · exact h'
    · rw [List.getElem?_eq_none h'] at ha; cases ha
  unfold encs
  congr 1
  apply List.ext_getElem?
  intro j
  rw [List.getElem?_map, List.getElem?_map]
  by_cases hij : i = j
  · subst hij
    rw [List.getElem?_set_self hlt, ha]
    simp [he]
  · rw [List.getElem?_set_ne hij]
end Go.VI
/- All heaps of a row are marked, by a walk. -/
namespace Go.VI
open Go.Proofs Go.RowKit
set_option maxRecDepth 100000
abbrev up1 (k : Int) : Int := wrap64 (k + 1)
def mkH (k : Int) (l : List DA3) (v : Value) : HE := ⟨k, up1 k, up1 (up1 k), l, v⟩
def marked (kf : Nat → Int) (lf : Nat → List DA3) (hs : List HE) : Nat → List HE
  | 0 => hs
  | i + 1 => match hs[i]? with
    | some a => (marked kf lf hs i).set i (mkH (kf i) (lf i) a.v)
    | none => marked kf lf hs i
theorem marked_len (kf : Nat → Int) (lf : Nat → List DA3) (hs : List HE) : ∀ i, (marked kf lf hs i).length = hs.length
  | 0 => rfl
  | i + 1 => by
    unfold marked
    split
    · rw [List.length_set]; exact marked_len kf lf hs i
    · exact marked_len kf lf hs i
theorem marked_at (kf : Nat → Int) (lf : Nat → List DA3) (hs : List HE) : ∀ i j, i ≤ j → (marked kf lf hs i)[j]? = hs[j]?
  | 0, _, _ => rfl
  | i + 1, j, h => by
    unfold marked
    split
    · rw [List.getElem?_set_ne (by omega)]; exact marked_at kf lf hs i j (by omega)
    · exact marked_at kf lf hs i j (by omega)
def markedH (kf : Nat → Int) (lf : Nat → List DA3) (hs : List DHeap) : Nat → List DHeap
  | 0 => hs
  | i + 1 => (markedH kf lf hs i).set i (kf i, up1 (kf i), up1 (up1 (kf i)), lf i, ())
theorem marked_heap (kf : Nat → Int) (lf : Nat → List DA3) (hs : List HE) : ∀ i, i ≤ hs.length → (marked kf lf hs i).map HE.heap = markedH kf lf (hs.map HE.heap) i
  | 0, _ => rfl
  | i + 1, h => by
    unfold marked markedH
    rw [List.getElem?_eq_getElem (show i < hs.length by omega)]
    simp only [List.map_set]
    rw [marked_heap kf lf hs i (by omega)]
    rfl
theorem put3_enc {cur : Array Value} {n i : Nat} {hs : List HE} (hl : hs.length = n) (ht : cur.toList.take (n * 4) = encs hs) (hs4 : n * 4 ≤ cur.size) {a : HE} (ha : hs[i]? = some a) (x y z : Int) :
    (((cur.setIfInBounds (i * 4) (.int .i64 x)).setIfInBounds (i * 4 + 1) (.int .i64 y)).setIfInBounds (i * 4 + 2) (.int .i64 z)).toList.take (n * 4) = encs (hs.set i ⟨x, y, z, a.cells, a.v⟩) := by
  have hi : i < hs.length := by
    rcases Nat.lt_or_ge i hs.length with h' | h'
    · exact h'
    · rw [List.getElem?_eq_none h'] at ha; cases ha
  apply List.ext_getElem?
  intro j
  rw [List.getElem?_take, Array.getElem?_toList]
  rcases Nat.lt_or_ge j (n * 4) with hj | hj
  · rw [if_pos hj]
    obtain ⟨q, r, hr, rfl⟩ : ∃ q r, r < 4 ∧ j = q * 4 + r := ⟨j / 4, j % 4, Nat.mod_lt _ (by decide), by omega⟩
    have hq : q < hs.length := by omega
    have hcur : cur[q * 4 + r]? = (encs hs)[q * 4 + r]? := by rw [← ht, List.getElem?_take, if_pos hj, Array.getElem?_toList]
    by_cases hqi : q = i
    · subst hqi
      rw [encs_at (a := ⟨x, y, z, a.cells, a.v⟩) (List.getElem?_set_self hi) r hr]
      have e3 := hcur
      rw [encs_at ha r hr] at e3
      have hsz : q * 4 + 3 < cur.size := by omega
      match r, hr with
      | 0, _ => rw [Array.getElem?_setIfInBounds_ne (by omega), Array.getElem?_setIfInBounds_ne (by omega)]; simp [show q * 4 < cur.size by omega, HE.enc]
      | 1, _ => rw [Array.getElem?_setIfInBounds_ne (by omega)]; simp [show q * 4 + 1 < cur.size by omega, HE.enc]
      | 2, _ => simp [show q * 4 + 2 < cur.size by omega, HE.enc]
      | 3, _ =>
        rw [Array.getElem?_setIfInBounds_ne (by omega), Array.getElem?_setIfInBounds_ne (by omega), Array.getElem?_setIfInBounds_ne (by omega), e3]
        rfl
    · have hb : (hs.set i ⟨x, y, z, a.cells, a.v⟩)[q]? = some hs[q] := by rw [List.getElem?_set_ne (fun e => hqi e.symm)]; exact List.getElem?_eq_getElem hq
      rw [encs_at hb r hr, Array.getElem?_setIfInBounds_ne (by omega), Array.getElem?_setIfInBounds_ne (by omega), Array.getElem?_setIfInBounds_ne (by omega), hcur, encs_at (List.getElem?_eq_getElem hq) r hr]
  · rw [if_neg (by omega), List.getElem?_eq_none (by rw [encs_len, List.length_set]; omega)]
theorem DeepH.mark3 {w : World} {B : Nat} {g n c : Nat} {hs : List HE} (h : DeepH w B 35 42 (.slice (some ⟨g, 0, none⟩) n c) hs) {i : Nat} {a : HE} (ha : hs[i]? = some a) (x y z : Int) :
    DeepH (((w.setCell ⟨g, i * 4, none⟩ (.int .i64 x)).setCell ⟨g, i * 4 + 1, none⟩ (.int .i64 y)).setCell ⟨g, i * 4 + 2, none⟩ (.int .i64 z)) B 35 42 (.slice (some ⟨g, 0, none⟩) n c) (hs.set i ⟨x, y, z, a.cells, a.v⟩) ∧
    FrameL (fun q => q = g) w (((w.setCell ⟨g, i * 4, none⟩ (.int .i64 x)).setCell ⟨g, i * 4 + 1, none⟩ (.int .i64 y)).setCell ⟨g, i * 4 + 2, none⟩ (.int .i64 z)) := by
  have hF : FrameL (fun q => q = g) w (((w.setCell ⟨g, i * 4, none⟩ (.int .i64 x)).setCell ⟨g, i * 4 + 1, none⟩ (.int .i64 y)).setCell ⟨g, i * 4 + 2, none⟩ (.int .i64 z)) :=
    ⟨rfl, rfl, rfl, by simp, fun q _ hn => by rw [Below.heap_setCell _ _ _ _ hn, Below.heap_setCell _ _ _ _ hn, Below.heap_setCell _ _ _ _ hn], Nat.le_refl _⟩
  refine ⟨h.setE (by decide) ha rfl (w2 := _) (⟨hF.os, hF.tape, hF.output, hF.size, fun q hq hn => hF.block q hq fun e => hn (.inl (by rw [e]; rfl)), hF.drawn⟩) ?_ ?_, hF⟩
  · have hi := h.inner i a ha
    exact hi.mono (fun _ hz => hz) (fun _ hz => hz.elim) fun q hq => hF.block q (hi.lt q hq).2 fun e => h.outer_ne (by decide) ha hq (by rw [e]; rfl)
  · obtain ⟨ho1, ho2⟩ := h.outer
    rcases ho2 with ⟨e, _⟩ | ⟨g', cap, cur, e, hb, hg, hnc, hcs, hcu, htk⟩
    · simp at e
    · obtain ⟨rfl, e2, rfl⟩ : g = g' ∧ n = hs.length ∧ c = cap := by simpa using e
      refine ⟨?_, .inr ⟨g, c, _, e, hb, set1 (set1 (set1 hg _ _) _ _) _ _, hnc, hcs, ?_, ?_⟩⟩
      · rw [encs_len, List.length_set]
      · simpa using hcu
      · exact put3_enc rfl htk (by rw [hcu]; exact Nat.mul_le_mul_right 4 hnc) ha x y z
set_option maxHeartbeats 2000000 in
theorem markS_calls {w : World} {B : Nat} {v : Value} {hs : List HE} (h : DeepH w B 35 42 v hs) (hn : hs.length ≤ 1000) (kf : Nat → Int) (lf : Nat → List DA3)
    (hm : ∀ i a, hs[i]? = some a → P_laws_markIntA3S (a.cells, up1 (up1 (up1 (kf i))), ()) = some ((kf (i + 1), ()), (lf i, ()))) :
    Calls Try.prog 10 #[v, .int .i64 (kf 0)] w fun e w' => e = .returned (.int .i64 (kf hs.length)) ∧ FrameL (ZH v hs) w w' ∧ DeepH w' B 35 42 v (marked kf lf hs hs.length) := by
  obtain ⟨A, c, rfl⟩ : ∃ A c, v = .slice A hs.length c := by
    rcases h.outer.2 with ⟨rfl, h0⟩ | ⟨g, c, cur, rfl, _⟩
    · exact ⟨none, 0, by rw [h0]⟩
    · exact ⟨_, _, rfl⟩
  go_enter Try.func10, Try.ntmps10
  go_wp2
  go_loopg [1, 5] hs.length (fun m v1 v5 wr => ∃ i : Nat, i ≤ hs.length ∧ m = hs.length - i ∧ v1 = .int .i64 (kf i) ∧ v5 = .int .i64 i ∧ FrameL (ZH (.slice A hs.length c) hs) w wr ∧ DeepH wr B 35 42 (.slice A hs.length c) (marked kf lf hs i))
  case atStart => exact ⟨0, Nat.zero_le _, rfl, rfl, rfl, FrameL.refl' _ _, h⟩
  case round =>
    obtain ⟨i, hi, rfl, rfl, rfl, hf, hd⟩ := hrel
    by_cases hin : i < hs.length
    · obtain ⟨a, ha⟩ : ∃ a, hs[i]? = some a := ⟨hs[i], List.getElem?_eq_getElem hin⟩
      have ha' : (marked kf lf hs i)[i]? = some a := by rw [marked_at kf lf hs i i (Nat.le_refl _)]; exact ha
      obtain ⟨g, c', hv, x0, x1, x2, x3⟩ := heap_cells hd ha'
      obtain ⟨hA, hc'⟩ : A = some ⟨g, 0, none⟩ ∧ c = c' := by simp only [Value.slice.injEq] at hv; exact ⟨hv.1, hv.2.2⟩
      clear hv
      subst hA
      subst hc'
      obtain ⟨ra, rc, hav⟩ : ∃ ra rc, a.v = .slice ra a.cells.length rc := by
        obtain ⟨x, y, e⟩ := (h.inner i a ha).slice1
        exact ⟨x, y, e⟩
      obtain ⟨cur, hblk⟩ := rowTag hd.outer (g := g) rfl
      have f0 : wr.frozen? ⟨g, i * 4, none⟩ = false := by simp [World.frozen?, hblk]
      have f1 : wr.frozen? ⟨g, i * 4 + 1, none⟩ = false := by simp [World.frozen?, hblk]
      have f2 : wr.frozen? ⟨g, i * 4 + 2, none⟩ = false := by simp [World.frozen?, hblk]
      have hlt : (i : Int) < (hs.length : Int) := by omega
      obtain ⟨hd3, hf3⟩ := hd.mark3 ha' (kf i) (up1 (kf i)) (up1 (up1 (kf i)))
      have hlen := marked_len kf lf hs i
      have ha3 : ((marked kf lf hs i).set i ⟨kf i, up1 (kf i), up1 (up1 (kf i)), a.cells, a.v⟩)[i]? = some ⟨kf i, up1 (kf i), up1 (up1 (kf i)), a.cells, a.v⟩ := List.getElem?_set_self (by omega)
      have hcall := mark_rowH (k := up1 (up1 (up1 (kf i)))) (hd3.inner i _ ha3) (hm i a ha)
      rw [hav] at x3
      simp only [hav] at hcall
      go_wp2_with (go_at_call 19; refine hcall.mono ?_; rintro e w2 ⟨rfl, hf2, ho2⟩)
      have hd4 := hd3.setE (by decide) ha3 (a' := mkH (kf i) (lf i) a.v) (w2 := w2) rfl ⟨hf2.os, hf2.tape, hf2.output, hf2.size, fun q hq hn => hf2.block q hq fun e => hn (.inr (by rw [hav]; exact e)), hf2.drawn⟩ (by rw [hav]; exact ho2) (by
        rw [encs_set (a' := mkH (kf i) (lf i) a.v) ha3 rfl]
        exact ownsRow_atH hd3.outer fun q hq => hf2.block q (hd3.outer.lt q hq).2 fun e => hd3.outer_ne (by decide) ha3 (by rw [hav]; exact e) hq)
      go_roundg (hs.length - (i + 1))
      case measure => omega
      case rel =>
        refine ⟨i + 1, by omega, rfl, rfl, by go_num, (hf.then ⟨hf3.os, hf3.tape, hf3.output, hf3.size, fun q hq hn => hf3.block q hq fun e => hn (.inl (by rw [e]; rfl)), hf3.drawn⟩).then ⟨hf2.os, hf2.tape, hf2.output, hf2.size, fun q hq hn => hf2.block q hq fun e => hn (.inr ⟨a, List.mem_of_getElem? ha, by rw [hav]; exact e⟩), hf2.drawn⟩, ?_⟩
        have e : marked kf lf hs (i + 1) = (marked kf lf hs i).set i (mkH (kf i) (lf i) a.v) := by rw [marked, ha]
        rw [e]
        rw [List.set_set] at hd4
        exact hd4
    · obtain rfl : i = hs.length := by omega
      have hlt : ¬ ((hs.length : Int) < (hs.length : Int)) := by omega
      go_wp2
      go_ret
      exact ⟨rfl, hf, hd⟩
end Go.VI
/- The law of FormsOf, by a walk. -/
namespace Go.VI
open Go.Proofs Go.RowKit
set_option maxRecDepth 100000
theorem f_spec {W : World} {n : Int} {L : List DHeap} {b : Bool} (hF : P_spec_FormsOf (n, ()) = some (L, b, ())) :
    Calls Try.prog 7 #[.int .i64 n] W fun e w' => ∃ v Z1, e = .returned (.tuple #[v, .bool b]) ∧ Below W.heap.size W w' ∧ RepI Z1 w' (.sl HeapTy) L [v] ∧ ∀ g, Z1 g → g < w'.heap.size := by
  refine (FCalls.calls (enter_run (fn := Try.f7) Try.func7 rfl (by kernel_rfl)) (s_spec_FormsOf W (fun _ => False) [.int .i64 n] (n, ()) (L, b, ()) trivial (fun _ h => h.elim)
    ⟨[.int .i64 n], _, rfl, (fun _ => rfl), rfl, rfl⟩ hF)).mono ?_
  rintro e' w' ⟨v, rfl, Z', us, rfl, hbel, _, hz, g, h1, h2, _⟩
  obtain ⟨k1, _, k3⟩ := h2 0 (false, [RCell.imm HeapTy L]) rfl
  obtain ⟨m1, _, m3⟩ := h2 1 (false, [RCell.flat (.bool b)]) rfl
  have a0 : RepI Z' w' (.sl HeapTy) L [g 0 0] := k3 0 _ rfl
  have a1 := (m3 0 _ rfl).2
  match us, h1, k1, m1 with
  | [x, y], _, k1, m1 =>
    have hx : x = g 0 0 := by have : x = mkVal false ((List.range 1).map (g 0)) := by simpa using k1
                              rw [this]; rfl
    have hy : y = g 1 0 := by have : y = mkVal false ((List.range 1).map (g 1)) := by simpa using m1
                              rw [this]; rfl
    refine ⟨g 0 0, Z', ?_, hbel, a0, fun j hj => ?_⟩
    · rw [hx, hy, a1]; rfl
    · rcases hz j hj with h | h
      · exact h.elim
      · exact h.2
  | [], h1, _, _ => cases h1
  | [_], h1, _, _ => cases h1
  | _ :: _ :: _ :: _, h1, _, _ => cases h1
theorem f_eqS {W : World} {Z1 Z2 : Nat → Prop} {L : List DHeap} {v v' : Value} (hz1 : ∀ g, Z1 g → g < W.heap.size) (hz2 : ∀ g, Z2 g → g < W.heap.size) (h1 : RepI Z1 W (.sl HeapTy) L [v]) (h2 : RepI Z2 W (.sl HeapTy) L [v']) (e : P_laws_eqHeapS (L, L, ()) = some (true, ())) :
    Calls Try.prog 9 #[v, v'] W fun e w' => e = .returned (.bool true) ∧ Below W.heap.size W w' :=
  flatH_calls (fn := Try.f9) (r := (true, ())) s_laws_eqHeapS rfl Try.func9 rfl (by kernel_rfl) (Z := fun g => Z1 g ∨ Z2 g) trivial (fun g hg => by rcases hg with hg | hg; exact hz1 g hg; exact hz2 g hg)
    (xs := (L, L, ())) (vs := [v, v'])
    ⟨[v], _, rfl, (fun _ => rfl), RepI.mono (fun _ h => .inl h) (fun _ _ => rfl) _ _ _ h1, [v'], _, rfl, (fun _ => rfl), RepI.mono (fun _ h => .inr h) (fun _ _ => rfl) _ _ _ h2, rfl⟩ e
theorem f_heldS {W : World} {Z1 : Nat → Prop} {L : List DHeap} {v : Value} {k k2 : Int} (hz1 : ∀ g, Z1 g → g < W.heap.size) (h1 : RepI Z1 W (.sl HeapTy) L [v]) (e : P_laws_heldHeapS (L, k, ()) = some (k2, ())) :
    Calls Try.prog 11 #[v, .int .i64 k] W fun e w' => e = .returned (.int .i64 k2) ∧ Below W.heap.size W w' :=
  flatH_calls (As := As_laws_heldHeapS) (fn := Try.f11) (r := (k2, ())) s_laws_heldHeapS rfl Try.func11 rfl (by kernel_rfl) (Z := Z1) trivial hz1
    (xs := (L, k, ())) (vs := [v, .int .i64 k]) ⟨[v], _, rfl, (fun _ => rfl), h1, [.int .i64 k], _, rfl, (fun _ => rfl), rfl, rfl⟩ e
def GivesF (n : Int) (L : List DHeap) (b : Bool) : Prop := ∀ U : World, Calls Try.prog 8 #[.int .i64 n] U fun e w' => ∃ v gs, e = .returned (.tuple #[v, .bool b]) ∧ Below U.heap.size U w' ∧ DeepH w' U.heap.size 35 42 v gs ∧ gs.map HE.heap = L
structure LawFm (n : Int) (L : List DHeap) (b : Bool) (kf : Nat → Int) (lf : Nat → List DA3) : Prop where
  sp : P_spec_FormsOf (n, ()) = some (L, b, ())
  im : GivesF n L b
  eq : P_laws_eqHeapS (L, L, ()) = some (true, ())
  k0 : kf 0 = 1
  mrk : ∀ i h, L[i]? = some h → P_laws_markIntA3S (h.2.2.2.1, up1 (up1 (up1 (kf i))), ()) = some ((kf (i + 1), ()), (lf i, ()))
  hd : P_laws_heldHeapS (markedH kf lf L L.length, 1, ()) = some (kf L.length, ())
  pos : ¬ kf L.length < 0
  len : L.length ≤ 1000
theorem repH_below {Z : Nat → Prop} {w w' : World} {t : Ty} {x : t.den} {cs : List Value} (hz : ∀ g, Z g → g < w.heap.size) (h : RepI Z w t x cs) (hb : Below w.heap.size w w') : RepI Z w' t x cs :=
  RepI.mono (fun _ h => h) (fun g hg => hb.block g (hz g hg)) _ _ _ h
theorem scriptF {n : Int} {L : List DHeap} {b : Bool} {kf : Nat → Int} {lf : Nat → List DA3} (F : LawFm n L b kf lf) (w0 : World) :
    Calls Try.prog 7 #[.int .i64 n] w0 fun e w1 => ∃ wv, e = .returned (.tuple #[wv, .bool b]) ∧
      Calls Try.prog 8 #[.int .i64 n] w1 fun e w2 => ∃ g0, e = .returned (.tuple #[g0, .bool b]) ∧
        Calls Try.prog 9 #[g0, wv] w2 fun e w3 => e = .returned (.bool true) ∧
          Calls Try.prog 10 #[g0, .int .i64 1] w3 fun e w4 => e = .returned (.int .i64 (kf L.length)) ∧
            Calls Try.prog 11 #[g0, .int .i64 1] w4 fun e w5 => e = .returned (.int .i64 (kf L.length)) ∧
              Calls Try.prog 8 #[.int .i64 n] w5 fun e w6 => ∃ h0, e = .returned (.tuple #[h0, .bool b]) ∧
                Calls Try.prog 9 #[h0, wv] w6 fun e w7 => e = .returned (.bool true) ∧
                  Calls Try.prog 11 #[g0, .int .i64 1] w7 fun e w8 => e = .returned (.int .i64 (kf L.length)) ∧ Below w0.heap.size w0 w8 := by
  refine (f_spec F.sp).mono ?_
  rintro e w1 ⟨wv, Z1, rfl, B1, rw1, zw⟩
  refine ⟨wv, rfl, ?_⟩
  refine (F.im w1).mono ?_
  rintro e w2 ⟨g0, gs, rfl, r2, d2, hm⟩
  have hl : gs.length = L.length := by have := congrArg List.length hm; simpa using this
  refine ⟨g0, rfl, ?_⟩
  have B2 := belowThen B1 r2
  have rw2 := repH_below zw rw1 r2
  have hs12 := r2.size
  have d2r := d2.rep
  rw [hm] at d2r
  refine (f_eqS (fun g hg => ((ZH.lt d2) g hg).2) (fun g hg => by have := zw g hg; omega) d2r rw2 F.eq).mono ?_
  rintro e w3 ⟨rfl, r3⟩
  refine ⟨rfl, ?_⟩
  have B3 := belowThen B2 r3
  have d3 := d2.below r3
  have rw3 := repH_below (fun g hg => by have := zw g hg; omega) rw2 r3
  have hs23 := r3.size
  have hmk := markS_calls d3 (by rw [hl]; exact F.len) kf lf fun i a ha => F.mrk i a.heap (by rw [← hm]; simp [ha])
  rw [F.k0, hl] at hmk
  refine hmk.mono ?_
  rintro e w4 ⟨rfl, f4, d4⟩
  refine ⟨rfl, ?_⟩
  have hzh := ZH.lt d3
  have B4 : Below w0.heap.size w0 w4 := ⟨f4.os.trans B3.os, f4.tape.trans B3.tape, f4.output.trans B3.output, Nat.le_trans B3.size f4.size, fun g hg => (f4.block g (Nat.lt_of_lt_of_le hg B3.size) fun hz => by have := (hzh g hz).1; have := B1.size; omega).trans (B3.block g hg), Nat.le_trans B3.drawn f4.drawn⟩
  have rw4 : RepI Z1 w4 (.sl HeapTy) L [wv] := RepI.mono (fun _ h => h) (fun g hg => f4.block g (by have := zw g hg; omega) fun hz => by have := (hzh g hz).1; have := zw g hg; omega) _ _ _ rw3
  have hs34 := f4.size
  have hmm : (marked kf lf gs L.length).map HE.heap = markedH kf lf L L.length := by rw [← hl, marked_heap kf lf gs _ (Nat.le_refl _), hm]
  have d4r := d4.rep
  rw [hmm] at d4r
  refine (f_heldS (fun g hg => ((ZH.lt d4) g hg).2) d4r F.hd).mono ?_
  rintro e w5 ⟨rfl, r5⟩
  refine ⟨rfl, ?_⟩
  have B5 := belowThen B4 r5
  have d5 := d4.below r5
  have rw5 := repH_below (fun g hg => by have := zw g hg; omega) rw4 r5
  have hs45 := r5.size
  refine (F.im w5).mono ?_
  rintro e w6 ⟨h0, gs2, rfl, r6, d6, hm6⟩
  refine ⟨h0, rfl, ?_⟩
  have B6 := belowThen B5 r6
  have d5' := d5.below r6
  have rw6 := repH_below (fun g hg => by have := zw g hg; omega) rw5 r6
  have hs56 := r6.size
  have d6r := d6.rep
  rw [hm6] at d6r
  refine (f_eqS (fun g hg => ((ZH.lt d6) g hg).2) (fun g hg => by have := zw g hg; omega) d6r rw6 F.eq).mono ?_
  rintro e w7 ⟨rfl, r7⟩
  refine ⟨rfl, ?_⟩
  have B7 := belowThen B6 r7
  have d7 := d5'.below r7
  have d7r := d7.rep
  rw [hmm] at d7r
  refine (f_heldS (fun g hg => ((ZH.lt d7) g hg).2) d7r F.hd).mono ?_
  rintro e w8 ⟨rfl, r8⟩
  exact ⟨rfl, belowThen B7 r8⟩
set_option maxHeartbeats 2000000 in
theorem law_forms {n : Int} {L : List DHeap} {b : Bool} {kf : Nat → Int} {lf : Nat → List DA3} (F : LawFm n L b kf lf) (w0 : World) :
    Calls Try.prog 4 #[.int .i64 n] w0 fun e w' => e = .returned (.bool true) ∧ Below w0.heap.size w0 w' := by
  have t := scriptF F w0
  have hpos := F.pos
  generalize kf L.length = m at t hpos
  clear F
  cases b <;>
  · go_enter Try.func4, Try.ntmps4
    go_wp2_with (first
      | (go_at_call 7; refine t.mono ?_; rintro e w1 ⟨wv, rfl, t2⟩; clear t)
      | (go_at_call 8; refine t2.mono ?_; rintro e w2 ⟨g0, rfl, t3⟩; clear t2)
      | (go_at_call 9; refine t3.mono ?_; rintro e w3 ⟨rfl, t4⟩; clear t3)
      | (go_at_call 10; refine t4.mono ?_; rintro e w4 ⟨rfl, t5⟩; clear t4)
      | (go_at_call 11; refine t5.mono ?_; rintro e w5 ⟨rfl, t6⟩; clear t5)
      | (go_at_call 8; refine t6.mono ?_; rintro e w6 ⟨h0, rfl, t7⟩; clear t6)
      | (go_at_call 9; refine t7.mono ?_; rintro e w7 ⟨rfl, t8⟩; clear t7)
      | (go_at_call 11; refine t8.mono ?_; rintro e w8 ⟨rfl, hB⟩; clear t8))
    go_ret
    exact ⟨rfl, hB⟩
end Go.VI
