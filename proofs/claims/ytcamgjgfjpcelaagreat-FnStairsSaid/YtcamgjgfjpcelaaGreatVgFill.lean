/- The staircases' closure 'fill', by a walk. -/
import Derived.Test.YtcamgjgfjpcelaaGreatVgClone
import Derived.Deep.RegionLaw
namespace Go.VI
open Go.Proofs Go.RowKit
set_option maxRecDepth 100000
def ptrTo (b : Nat) : Value := .pointer (some ⟨b, 0, none⟩)
structure FillW (tb B O K base : Nat) (X Y Z : Int) (Zi : Nat → Prop) (ov : Value) (rows : List (List Int)) (lv : Value) (L : List Int) (w : World) : Prop where
  box : w.heap[B]? = some (.cells #[.int .i64 X, .int .i64 Y, .int .i64 Z] tb (0, 0))
  out : w.heap[O]? = some (.cells #[ov] 104 (0, 0))
  fn : w.heap[K]? = some (.cells #[.func (.func 175) #[] #[ptrTo B, ptrTo O, ptrTo K]] 164 (0, 0))
  own : OwnV Zi w base 30 (.sl (.int .i64)) ov rows
  lst : w.ownsRow base 3 1 lv L.length (ints L)
  zone : ∀ g, Zi g → g < w.heap.size ∧ g ≠ O ∧ ov.ownBlock ≠ some g ∧ lv.ownBlock ≠ some g
  base : base ≤ w.heap.size
structure FillR (O : Nat) (w w' : World) (ov ov' lv : Value) (Zi Zi' : Nat → Prop) : Prop where
  os : w'.os = w.os
  tape : w'.tape = w.tape
  output : w'.output = w.output
  size : w.heap.size ≤ w'.heap.size
  block : ∀ g, g < w.heap.size → g ≠ O → ov.ownBlock ≠ some g → lv.ownBlock ≠ some g → w'.heap[g]? = w.heap[g]?
  prov : ov'.ownBlock = ov.ownBlock ∨ ∀ g, ov'.ownBlock = some g → w.heap.size ≤ g
  sub : ∀ g, Zi g → Zi' g
  new : ∀ g, Zi' g → Zi g ∨ w.heap.size ≤ g
theorem tag_of {w : World} {base : Nat} {e : TypeId} {size : Nat} {v : Value} {n : Nat} {xs : List Value} (h : w.ownsRow base e size v n xs) {g : Nat} (hg : v.ownBlock = some g) : ∃ cur, w.heap[g]? = some (.cells cur e (0, 0)) := by
  rcases h.2 with ⟨rfl, _⟩ | ⟨g', cap, cur, rfl, _, hh, _⟩
  · simp [Value.ownBlock] at hg
  · simp [Value.ownBlock] at hg
    subst hg
    exact ⟨cur, hh⟩
theorem tag_ne {w : World} {base : Nat} {e t : TypeId} {size : Nat} {v : Value} {n : Nat} {xs : List Value} (h : w.ownsRow base e size v n xs) {g : Nat} {c : Array Value} (hh : w.heap[g]? = some (.cells c t (0, 0))) (ht : e ≠ t) : v.ownBlock ≠ some g := by
  intro hg
  obtain ⟨cur, h'⟩ := tag_of h hg
  rw [hh] at h'
  simp only [Option.some.injEq, Obj.cells.injEq] at h'
  exact ht h'.2.1.symm
theorem own_row {Z : Nat → Prop} {w : World} {B : Nat} {v : Value} {l : List (List Int)} (h : OwnV Z w B 30 (.sl (.int .i64)) v l) : ∃ xs, w.ownsRow B 30 1 v l.length xs ∧ RepsL Z w (.sl (.int .i64)) l xs := by
  obtain ⟨_, xs, ho, hr⟩ := h
  exact ⟨xs, ho.plain (by decide), hr⟩
theorem row_own {Z : Nat → Prop} {w : World} {B : Nat} {v : Value} {l : List (List Int)} {xs : List Value} (h : w.ownsRow B 30 1 v l.length xs) (hr : RepsL Z w (.sl (.int .i64)) l xs) : OwnV Z w B 30 (.sl (.int .i64)) v l :=
  ⟨Nat.one_pos, xs, OwnRow.of h, hr⟩
theorem ownsRow_same {w w' : World} {base : Nat} {e : TypeId} {size : Nat} {v : Value} {n : Nat} {xs : List Value} (h : w.ownsRow base e size v n xs) (hs : ∀ g, v.ownBlock = some g → w'.heap[g]? = w.heap[g]?) : w'.ownsRow base e size v n xs := by
  refine ⟨h.1, ?_⟩
  rcases h.2 with hn | ⟨g, cap, cur, rfl, hb, hg, rest⟩
  · exact .inl hn
  · exact .inr ⟨g, cap, cur, rfl, hb, by rw [hs g rfl]; exact hg, rest⟩
theorem ownsRow_base {w : World} {base base' : Nat} {e : TypeId} {size : Nat} {v : Value} {n : Nat} {xs : List Value} (h : w.ownsRow base e size v n xs) (hb : base' ≤ base) : w.ownsRow base' e size v n xs := by
  refine ⟨h.1, ?_⟩
  rcases h.2 with hn | ⟨g, cap, cur, rfl, hb', hg, rest⟩
  · exact .inl hn
  · exact .inr ⟨g, cap, cur, rfl, Nat.le_trans hb hb', hg, rest⟩
theorem repI_ints {Z : Nat → Prop} {w : World} {base : Nat} {cv : Value} {L : List Int} (h : w.ownsRow base 3 1 cv L.length (ints L)) (hZ : ∀ g, cv.ownBlock = some g → Z g) : RepI Z w (.sl (.int .i64)) L [cv] := by
  rcases h.2 with ⟨rfl, h0⟩ | ⟨g, cap, cur, rfl, hb, hg, hnc, hcm, hcs, htake⟩
  · obtain rfl : L = [] := List.length_eq_zero_iff.1 h0
    exact ⟨none, 0, rfl, Nat.le_refl _, fun i x hx => by simp at hx⟩
  · refine ⟨some ⟨g, 0, none⟩, cap, rfl, hnc, fun i x hx => ⟨_, rfl, hZ g rfl, [.int .i64 x], rfl, fun j v hv => ?_⟩⟩
    have hi : i < L.length := by
      rcases Nat.lt_or_ge i L.length with h' | h'
      · exact h'
      · rw [List.getElem?_eq_none h'] at hx; cases hx
    match j, hv with
    | 0, hv =>
      obtain rfl : Value.int .i64 x = v := by simpa using hv
      refine h.cells (g := g) rfl _ _ ?_
      have e : i * (Ty.int IntKind.i64).size + 0 = i := by show i * 1 + 0 = i; omega
      rw [e, ints, List.getElem?_map, hx]
      rfl
theorem leaf_end {tb B O K base : Nat} {X Y Z : Int} {Zi : Nat → Prop} {ov : Value} {rows : List (List Int)} {lv : Value} {L : List Int} {w : World} (h : FillW tb B O K base X Y Z Zi ov rows lv L w)
    (htb : tb ≠ 3 ∧ tb ≠ 30) (hBO : B ≠ O) (hKO : K ≠ O) {xs : List Value} (hx : w.ownsRow base 30 1 ov rows.length xs) (hxr : RepsL Zi w (.sl (.int .i64)) rows xs) {w1 w4 : World} {cv v' : Value}
    (hb1 : Below w.heap.size w w1) (hcv : w1.ownsRow w.heap.size 3 1 cv L.length (ints L)) (hv : w4.ownsRow base 30 1 v' (rows.length + 1) (xs ++ [cv])) (hgr : (w1.alloc (.cells #[cv] 30)).grownBy w4 ov.ownBlock)
    (hprov : v'.ownBlock = ov.ownBlock ∨ v'.ownBlock = some (w1.alloc (.cells #[cv] 30)).heap.size) :
    ∃ ov' Zi', FillW tb B O K base X Y Z Zi' ov' (rows ++ [L]) lv L (w4.setCell ⟨O, 0, none⟩ v') ∧ FillR O w (w4.setCell ⟨O, 0, none⟩ v') ov ov' lv Zi Zi' := by
  obtain ⟨hbox, hout, hfn, hown, hlst, hzone, hbase⟩ := h
  have hOlt : O < w.heap.size := lt_of_block hout
  have hs1 : w.heap.size ≤ w1.heap.size := hb1.size
  have hsa : (w1.alloc (.cells #[cv] 30)).heap.size = w1.heap.size + 1 := by show (w1.heap.push _).size = _; rw [Array.size_push]
  have hs4 := hgr.size
  rw [hsa] at hs4 hprov
  have same14 : ∀ g, g < w1.heap.size → ov.ownBlock ≠ some g → w4.heap[g]? = w1.heap[g]? := fun g hg hn => by
    rw [hgr.block g (by omega) (fun e => hn e.symm), Below.heap_alloc _ _ _ hg]
  have same4 : ∀ g, g < w.heap.size → ov.ownBlock ≠ some g → w4.heap[g]? = w.heap[g]? := fun g hg hn => by
    rw [same14 g (by omega) hn, hb1.block g hg]
  have sameE : ∀ g, g ≠ O → (w4.setCell ⟨O, 0, none⟩ v').heap[g]? = w4.heap[g]? := fun g hg => Below.heap_setCell _ _ _ _ hg
  have hovO : ov.ownBlock ≠ some O := tag_ne hx hout (by decide)
  have hvO : v'.ownBlock ≠ some O := by
    rcases hprov with e | e
    · rw [e]; exact hovO
    · rw [e]; intro e'; have := Option.some.inj e'; omega
  have hout4 : w4.heap[O]? = some (.cells #[ov] 104 (0, 0)) := (same4 O hOlt hovO).trans hout
  have hsE : (w4.setCell ⟨O, 0, none⟩ v').heap.size = w4.heap.size := by simp [World.setCell]
  have hcvlt := hcv.lt
  refine ⟨v', fun g => Zi g ∨ cv.ownBlock = some g, ⟨?_, one_setCell hout4, ?_, ?_, ?_, ?_, ?_⟩, ?_⟩
  · rw [sameE B hBO, same4 B (lt_of_block hbox) (tag_ne hx hbox htb.2.symm)]; exact hbox
  · rw [sameE K hKO, same4 K (lt_of_block hfn) (tag_ne hx hfn (by decide))]; exact hfn
  · refine row_own (xs := xs ++ [cv]) ?_ ?_
    · rw [List.length_append]
      exact ownsRow_same hv fun g hg => sameE g (fun e => hvO (e ▸ hg))
    · refine RepsL.append _ _ _ _ (RepsL.mono (fun g hg => Or.inl hg) (fun g hg => ?_) _ _ hxr) ⟨[cv], [], rfl, ?_, rfl⟩
      · obtain ⟨z1, z2, z3, z4⟩ := hzone g hg
        rw [sameE g z2, same4 g z1 z3]
      · refine repI_ints (base := w.heap.size) (ownsRow_same hcv fun g hg => ?_) fun g hg => Or.inr hg
        have := hcvlt g hg
        have hne : ov.ownBlock ≠ some g := fun e => by have := (hx.lt g e).2; omega
        rw [sameE g (by omega), same14 g this.2 hne]
  · refine ownsRow_same hlst fun g hg => ?_
    have hgl := hlst.lt g hg
    obtain ⟨cur, hcur⟩ := tag_of hlst hg
    rw [sameE g (fun e => by subst e; rw [hout] at hcur; simp at hcur), same4 g hgl.2 (tag_ne hx hcur (by decide))]
  · intro g hg
    rw [hsE]
    rcases hg with hg | hg
    · obtain ⟨z1, z2, z3, z4⟩ := hzone g hg
      refine ⟨by omega, z2, ?_, z4⟩
      rcases hprov with e | e
      · rw [e]; exact z3
      · rw [e]; intro e'; have := Option.some.inj e'; omega
    · have hl := hcvlt g hg
      refine ⟨by omega, by omega, ?_, fun e => by have := (hlst.lt g e).2; omega⟩
      rcases hprov with e | e
      · rw [e]; intro e'; have := (hx.lt g e').2; omega
      · rw [e]; intro e'; have := Option.some.inj e'; omega
  · rw [hsE]; omega
  · refine ⟨?_, ?_, ?_, ?_, ?_, ?_, ?_, ?_⟩
    · show w4.os = _; rw [hgr.os]; exact hb1.os
    · show w4.tape = _; rw [hgr.tape]; exact hb1.tape
    · show w4.output = _; rw [hgr.output]; exact hb1.output
    · rw [hsE]; omega
    · intro g hg h1 h2 _
      rw [sameE g h1, same4 g hg h2]
    · rcases hprov with e | e
      · exact .inl e
      · right
        rw [e]
        intro g hg
        have := Option.some.inj hg
        omega
    · intro g hg; exact Or.inl hg
    · intro g hg
      rcases hg with hg | hg
      · exact Or.inl hg
      · exact Or.inr (hcvlt g hg).1
theorem FillW.drew {tb B O K base : Nat} {X Y Z : Int} {Zi : Nat → Prop} {ov : Value} {rows : List (List Int)} {lv : Value} {L : List Int} {w : World} (h : FillW tb B O K base X Y Z Zi ov rows lv L w) : FillW tb B O K base X Y Z Zi ov rows lv L w.drew :=
  ⟨h.box, h.out, h.fn, h.own.mono (fun _ h => h) (fun _ _ => rfl) (fun _ _ => rfl), h.lst, h.zone, h.base⟩
theorem leaf_pre {tb B O K base : Nat} {X Y Z : Int} {Zi : Nat → Prop} {ov : Value} {rows : List (List Int)} {lv : Value} {L : List Int} {w : World} (h : FillW tb B O K base X Y Z Zi ov rows lv L w)
    {xs : List Value} (hx : w.ownsRow base 30 1 ov rows.length xs) {w1 : World} (hb1 : Below w.heap.size w w1) (cv : Value) : w1.cell? ⟨O, 0, none⟩ = some ov ∧ w1.frozen? ⟨O, 0, none⟩ = false ∧
      (∀ o, (w1.alloc o).cell? ⟨O, 0, none⟩ = some ov) ∧ (∀ o, (w1.alloc o).frozen? ⟨O, 0, none⟩ = false) ∧ (w1.alloc (.cells #[cv] 30)).ownsRow base 30 1 ov rows.length xs ∧
      ∀ w4 : World, (w1.alloc (.cells #[cv] 30)).grownBy w4 ov.ownBlock → w4.cell? ⟨O, 0, none⟩ = some ov ∧ w4.frozen? ⟨O, 0, none⟩ = false := by
  have hOlt : O < w.heap.size := lt_of_block h.out
  have hs1 := hb1.size
  have e1 : w1.heap[O]? = some (.cells #[ov] 104 (0, 0)) := (hb1.block O hOlt).trans h.out
  have e2 : ∀ o, (w1.alloc o).heap[O]? = some (.cells #[ov] 104 (0, 0)) := fun o => (Below.heap_alloc _ _ _ (by omega)).trans e1
  have hovO : ov.ownBlock ≠ some O := tag_ne hx h.out (by decide)
  refine ⟨cell_of_one e1, free_of_one e1, fun o => cell_of_one (e2 o), fun o => free_of_one (e2 o), ?_, fun w4 hg => ?_⟩
  · refine World.ownsRow.alloc (ownsRow_same hx fun g hg => hb1.block g (hx.lt g hg).2) _
  · have e4 : w4.heap[O]? = some (.cells #[ov] 104 (0, 0)) := (hg.block O (by have := lt_of_block (e2 (.cells #[cv] 30)); exact this) (fun e => hovO e.symm)).trans (e2 _)
    exact ⟨cell_of_one e4, free_of_one e4⟩
theorem one_src (w : World) (t e : TypeId) (v : Value) (ht : Tryz.prog.underlying t = some (.slice e)) (h1 : v.oneCell' = true) : Go.Src Tryz.prog 1 t (.slice (some ⟨w.heap.size, 0, none⟩) 1 1) 1 [v] (w.alloc (.cells #[v] e)) := by
  refine Go.Src.ofSlice _ ht _ 1 1 [v] rfl (fun j u hu => ?_) (fun u hu => ?_)
  · match j, hu with
    | 0, hu =>
      obtain rfl : v = u := by simpa using hu
      have : (w.alloc (.cells #[v] e)).heap[w.heap.size]? = some (.cells #[v] e (0, 0)) := heap_alloc_new w _
      exact cell_of_one this
  · obtain rfl : u = v := by simpa using hu
    exact h1
theorem slice_of {w : World} {base : Nat} {e : TypeId} {size : Nat} {v : Value} {n : Nat} {xs : List Value} (h : w.ownsRow base e size v n xs) (h0 : 0 < n) : ∃ g c, v = .slice (some ⟨g, 0, none⟩) n c := by
  rcases h.2 with ⟨_, h1⟩ | ⟨g, c, _, hv, _⟩
  · omega
  · exact ⟨g, c, hv⟩
theorem fill_leaf {tb B O K base : Nat} {X Y Z : Int} {Zi : Nat → Prop} {ov : Value} {rows : List (List Int)} {lv : Value} {L : List Int} {w : World} (h : FillW tb B O K base X Y Z Zi ov rows lv L w)
    (htb : tb ≠ 3 ∧ tb ≠ 30) (hBO : B ≠ O) (hKO : K ≠ O)
    (hX : 1 ≤ X ∧ X ≤ 4) (hY : 1 ≤ Y ∧ Y ≤ 4) (hxy : X * Y = (L.length : Int)) (h1 : 1 ≤ L.length ∧ L.length ≤ 16) (hr : rows.length + 1 ≤ 200000000000) :
    Calls Tryz.prog 175 #[lv, ptrTo B, ptrTo O, ptrTo K] w fun e w' => ∃ ov' Zi', e = .returned (.tuple #[]) ∧ FillW tb B O K base X Y Z Zi' ov' (rows ++ [L]) lv L w' ∧ FillR O w w' ov ov' lv Zi Zi' := by
  have H := h.drew
  obtain ⟨hbox, hout, hfn, hown, hlst, hzone, hbase⟩ := h
  obtain ⟨xs, hx, hxr⟩ := own_row H.own
  have cO := cell_of_one hout
  have fO := free_of_one hout
  have cB0 : w.cell? ⟨B, 0, none⟩ = some (.int .i64 X) := by simp [World.cell?, hbox]
  have cB1 : w.cell? ⟨B, 1, none⟩ = some (.int .i64 Y) := by simp [World.cell?, hbox]
  have hcl := Calls.fcalls (f := 114) (fn := Tryz.f114) (R := fun v w' => ∃ g' c', v = .slice (some ⟨g', 0, none⟩) L.length c' ∧ Below w.drew.heap.size w.drew w' ∧ w'.ownsRow w.drew.heap.size 3 1 v L.length (ints L)) Tryz.func114 (by rfl) (by kernel_rfl)
    ((clone_calls L base lv w.drew hlst (fun e => by subst e; simp at h1) (by omega)).mono (fun e w' hh => by
      obtain ⟨cv, he, h2, h3⟩ := hh
      refine ⟨cv, he, ?_⟩
      rcases h3.2 with ⟨_, h0⟩ | ⟨g', c', _, hv, _⟩
      · omega
      · exact ⟨g', c', hv, h2, h3⟩))
  rcases hlst.2 with ⟨_, h0⟩ | ⟨g, cap, cur, rfl, hb, hg, hnc, hcm, hcs, htake⟩
  · omega
  · obtain ⟨i0, hi, hz0, hz1, hz2⟩ := info_parts info30
    have fin : ∀ (g' c' : Nat) (v' : Value) (w1 w4 : World), Below w.drew.heap.size w.drew w1 → w1.ownsRow w.drew.heap.size 3 1 (.slice (some ⟨g', 0, none⟩) L.length c') L.length (ints L) →
        w4.ownsRow base 30 1 v' (rows.length + 1) (xs ++ [.slice (some ⟨g', 0, none⟩) L.length c']) → (w1.alloc (.cells #[.slice (some ⟨g', 0, none⟩) L.length c'] 30)).grownBy w4 ov.ownBlock →
        (v'.ownBlock = ov.ownBlock ∨ v'.ownBlock = some (w1.alloc (.cells #[.slice (some ⟨g', 0, none⟩) L.length c'] 30)).heap.size) →
        ∃ ov' Zi', FillW tb B O K base X Y Z Zi' ov' (rows ++ [L]) (.slice (some ⟨g, 0, none⟩) L.length cap) L (w4.setCell ⟨O, 0, none⟩ v') ∧ FillR O w (w4.setCell ⟨O, 0, none⟩ v') ov ov' (.slice (some ⟨g, 0, none⟩) L.length cap) Zi Zi' := by
      intro g' c' v' w1 w4 k1 k2 k3 k4 k5
      obtain ⟨ov', Zi', r1, r2⟩ := leaf_end H htb hBO hKO hx hxr k1 k2 k3 k4 k5
      exact ⟨ov', Zi', r1, ⟨r2.os, r2.tape, r2.output, r2.size, r2.block, r2.prov, r2.sub, r2.new⟩⟩
    obtain ⟨Q0, hQ0⟩ : ∃ Q0 : Ending → World → Prop, Q0 = fun e w' => ∃ ov' Zi', e = .returned (.tuple #[]) ∧ FillW tb B O K base X Y Z Zi' ov' (rows ++ [L]) (.slice (some ⟨g, 0, none⟩) L.length cap) L w' ∧ FillR O w w' ov ov' (.slice (some ⟨g, 0, none⟩) L.length cap) Zi Zi' := ⟨_, rfl⟩
    rw [← hQ0]
    have hpre := fun (w1 : World) (hb1 : Below w.drew.heap.size w.drew w1) => leaf_pre H hx hb1
    have fin' : ∀ (g' c' : Nat) (v' : Value) (w1 w4 : World), Below w.drew.heap.size w.drew w1 → w1.ownsRow w.drew.heap.size 3 1 (.slice (some ⟨g', 0, none⟩) L.length c') L.length (ints L) →
        w4.ownsRow base 30 1 v' (rows.length + 1) (xs ++ [.slice (some ⟨g', 0, none⟩) L.length c']) → (w1.alloc (.cells #[.slice (some ⟨g', 0, none⟩) L.length c'] 30)).grownBy w4 ov.ownBlock →
        (v'.ownBlock = ov.ownBlock ∨ v'.ownBlock = some (w1.alloc (.cells #[.slice (some ⟨g', 0, none⟩) L.length c'] 30)).heap.size) → Q0 (.returned (.tuple #[])) (w4.setCell ⟨O, 0, none⟩ v') := by
      intro g' c' v' w1 w4 k1 k2 k3 k4 k5
      obtain ⟨ov', Zi', r1, r2⟩ := fin g' c' v' w1 w4 k1 k2 k3 k4 k5
      rw [hQ0]
      exact ⟨ov', Zi', rfl, r1, r2⟩
    have hbase' := H.base
    unfold ptrTo
    clear hlst hzone hown hfn hbox hg htake hb hcs H hout fin hQ0 hxr hx
    go_enter Tryz.func175, Tryz.ntmps175
    go_wp2
    go_region_law (first
      | (refine step_is rfl (wp_call2 (run_callf (f := 114) rfl) hcl ?_); intro cv w1 hcw; obtain ⟨g', c', rfl, hb1, hcv⟩ := hcw; obtain ⟨p1, p2, p3, p4, p5, p6⟩ := hpre w1 hb1 (.slice (some ⟨g', 0, none⟩) L.length c'))
      | (refine step_is rfl (wp_append_own2 _ (.tmp 17) (.tmp 20) 104 104 rfl base 30 i0 (.slice none 0 0) 1 24 Tryz.underlying104 hi hz0 hz1 hz2 rfl ov rows.length xs rfl p5 (.slice (some ⟨w1.heap.size, 0, none⟩) 1 1) 1 [.slice (some ⟨g', 0, none⟩) L.length c'] rfl (one_src w1 104 30 _ Tryz.underlying104 rfl) (by unfold maxLen; omega) (by omega) (by have := hb1.size; rw [show (w1.alloc (.cells #[.slice (some ⟨g', 0, none⟩) L.length c'] 30)).heap.size = w1.heap.size + 1 from Array.size_push _]; omega) ?_); intro v' w4 hv' hgr' hprov'; obtain ⟨q1, q2⟩ := p6 w4 hgr'; have hf := fin' _ _ _ _ _ hb1 hcv hv' hgr' hprov'; obtain ⟨k4, c4, rfl⟩ := slice_of hv' (by omega); clear hv' hgr' hprov'))
    all_goals (go_wp2; go_end0; assumption)
end Go.VI
