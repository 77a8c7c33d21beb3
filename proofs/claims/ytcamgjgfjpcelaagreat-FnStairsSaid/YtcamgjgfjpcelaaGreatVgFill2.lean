/- The staircases' closure 'fill': an inner node. -/
import Derived.Test.YtcamgjgfjpcelaaGreatVgFill
namespace Go.VI
open Go.Proofs Go.RowKit
set_option maxRecDepth 100000
def mostL (Y : Nat) (Z : Int) (L : List Int) : Int :=
  let m := if Y ≤ L.length then min Z (L.getD (L.length - Y) 0) else Z
  if 0 < L.length % Y then min m (L.getD (L.length - 1) 0) else m
def rowsN (Y : Nat) (Z : Int) : Nat → List Int → List (List Int)
  | 0, L => [L]
  | d + 1, L => (List.range (mostL Y Z L + 1).toNat).flatMap fun n : Nat => rowsN Y Z d (L ++ [(n : Int)])
theorem mostL_le {Y : Nat} {Z : Int} (hZ : Z ≤ 4) (L : List Int) : mostL Y Z L ≤ 4 := by
  unfold mostL
  simp only
  split <;> split <;> omega
theorem child_pre {tb B O K base : Nat} {X Y Z : Int} {Zi : Nat → Prop} {ov : Value} {rows : List (List Int)} {lv : Value} {L : List Int} {w : World} (h : FillW tb B O K base X Y Z Zi ov rows lv L w)
    (htb : tb ≠ 3 ∧ tb ≠ 30) (n : Int) {u : Obj} {v' : Value} {w2 : World} (hv : w2.ownsRow base 3 1 v' (L.length + 1) (ints L ++ [.int .i64 n])) (hgr : (w.alloc u).grownBy w2 lv.ownBlock)
    (hprov : (∃ g c, lv = .slice (some ⟨g, 0, none⟩) L.length c ∧ v' = .slice (some ⟨g, 0, none⟩) (L.length + 1) c) ∨ (v'.ownBlock = some (w.alloc u).heap.size ∧ (w.alloc u).grownBy w2 none)) :
    FillW tb B O K base X Y Z Zi ov rows v' (L ++ [n]) w2 := by
  obtain ⟨hbox, hout, hfn, hown, hlst, hzone, hbase⟩ := h
  obtain ⟨xs, hx, hxr⟩ := own_row hown
  have hsa : (w.alloc u).heap.size = w.heap.size + 1 := Array.size_push _
  have hs2 := hgr.size
  have same : ∀ g, g < w.heap.size → lv.ownBlock ≠ some g → w2.heap[g]? = w.heap[g]? := fun g hg hn => by
    rw [hgr.block g (by omega) (fun e => hn e.symm), Below.heap_alloc _ _ _ hg]
  have hovlv : ∀ g, ov.ownBlock = some g → lv.ownBlock ≠ some g := fun g hg hl => by
    obtain ⟨c1, e1⟩ := tag_of hx hg
    obtain ⟨c2, e2⟩ := tag_of hlst hl
    rw [e1] at e2
    simp at e2
  have hv'new : ∀ g, v'.ownBlock = some g → lv.ownBlock = some g ∨ w.heap.size ≤ g := fun g hg => by
    rcases hprov with ⟨g', c, h1, h2⟩ | ⟨h1, _⟩
    · left; rw [h1]; rw [h2] at hg; exact hg
    · right; rw [h1] at hg; have := Option.some.inj hg; omega
  refine ⟨?_, ?_, ?_, ?_, ?_, ?_, ?_⟩
  · rw [same B (lt_of_block hbox) (tag_ne hlst hbox htb.1.symm)]; exact hbox
  · rw [same O (lt_of_block hout) (tag_ne hlst hout (by decide))]; exact hout
  · rw [same K (lt_of_block hfn) (tag_ne hlst hfn (by decide))]; exact hfn
  · refine hown.mono (fun _ h => h) (fun g hg => ?_) (fun g hg => ?_)
    · obtain ⟨z1, z2, z3, z4⟩ := hzone g hg
      exact same g z1 z4
    · exact same g (hx.lt g hg).2 (hovlv g hg)
  · rw [List.length_append]
    have e : ints (L ++ [n]) = ints L ++ [.int .i64 n] := by simp [ints]
    rw [e]; exact hv
  · intro g hg
    obtain ⟨z1, z2, z3, z4⟩ := hzone g hg
    refine ⟨by omega, z2, z3, fun e => ?_⟩
    rcases hv'new g e with e' | e'
    · exact z4 e'
    · omega
  · omega
theorem child_post {tb B O K base : Nat} {X Y Z : Int} {Zi Z' : Nat → Prop} {ov ov' : Value} {rows rows' : List (List Int)} {lv : Value} {L : List Int} {w : World} (h : FillW tb B O K base X Y Z Zi ov rows lv L w)
    (n : Int) {u : Obj} {v' : Value} {w2 w3 : World} (hv : w2.ownsRow base 3 1 v' (L.length + 1) (ints L ++ [.int .i64 n])) (hgr : (w.alloc u).grownBy w2 lv.ownBlock)
    (hprov : (∃ g c, lv = .slice (some ⟨g, 0, none⟩) L.length c ∧ v' = .slice (some ⟨g, 0, none⟩) (L.length + 1) c) ∨ (v'.ownBlock = some (w.alloc u).heap.size ∧ (w.alloc u).grownBy w2 none))
    (h3 : FillW tb B O K base X Y Z Z' ov' rows' v' (L ++ [n]) w3) (r3 : FillR O w2 w3 ov ov' v' Zi Z') : FillW tb B O K base X Y Z Z' ov' rows' lv L w3 ∧ FillR O w w3 ov ov' lv Zi Z' := by
  obtain ⟨hbox, hout, hfn, hown, hlst, hzone, hbase⟩ := h
  obtain ⟨xs, hx, hxr⟩ := own_row hown
  have hsa : (w.alloc u).heap.size = w.heap.size + 1 := Array.size_push _
  have hs2 := hgr.size
  have hs3 := r3.size
  have same : ∀ g, g < w.heap.size → lv.ownBlock ≠ some g → w2.heap[g]? = w.heap[g]? := fun g hg hn => by
    rw [hgr.block g (by omega) (fun e => hn e.symm), Below.heap_alloc _ _ _ hg]
  have hovlv : ∀ g, ov.ownBlock = some g → lv.ownBlock ≠ some g := fun g hg hl => by
    obtain ⟨c1, e1⟩ := tag_of hx hg
    obtain ⟨c2, e2⟩ := tag_of hlst hl
    rw [e1] at e2
    simp at e2
  have hv'new : ∀ g, v'.ownBlock = some g → lv.ownBlock = some g ∨ w.heap.size ≤ g := fun g hg => by
    rcases hprov with ⟨g', c, h1, h2⟩ | ⟨h1, _⟩
    · left; rw [h1]; rw [h2] at hg; exact hg
    · right; rw [h1] at hg; have := Option.some.inj hg; omega
  have hO : ∀ g, lv.ownBlock = some g → g ≠ O := fun g hg e => by
    subst e
    exact tag_ne hlst hout (by decide) hg
  have hlv3 : w3.ownsRow base 3 1 lv L.length (ints L) := by
    rcases hprov with ⟨g, c, h1, h2⟩ | ⟨h1, h2⟩
    · subst h1
      have hl3 := h3.lst
      rw [h2, List.length_append] at hl3
      refine ⟨hlst.1, .inr ?_⟩
      rcases hl3.2 with ⟨he, _⟩ | ⟨g', cap', cur', he, hb', hh', hn', hm', hc', ht'⟩
      · cases he
      · simp only [Value.slice.injEq, Option.some.injEq, Addr.mk.injEq, and_true] at he
        obtain ⟨rfl, _, rfl⟩ := he
        have hn2 : L.length + 1 ≤ c := hn'
        refine ⟨g, c, cur', rfl, hb', hh', by omega, hm', hc', ?_⟩
        have e : ints (L ++ [n]) = ints L ++ [.int .i64 n] := by simp [ints]
        rw [e] at ht'
        have ht2 : List.take ((L.length + 1) * 1) cur'.toList = ints L ++ [.int .i64 n] := ht'
        have : List.take (L.length * 1) (List.take ((L.length + 1) * 1) cur'.toList) = ints L := by
          rw [ht2, List.take_left' (by rw [hlst.1])]
        rw [List.take_take] at this
        rwa [Nat.min_eq_left (by omega)] at this
    · refine ownsRow_same hlst fun g hg => ?_
      have hgl := (hlst.lt g hg).2
      have hne : v'.ownBlock ≠ some g := by rw [h1]; intro e; have := Option.some.inj e; omega
      rw [r3.block g (by omega) (hO g hg) (fun e => hovlv g e hg) hne, h2.block g (by omega) (by simp), Below.heap_alloc _ _ _ hgl]
  have hs32 : w.heap.size ≤ w3.heap.size := by omega
  refine ⟨⟨h3.box, h3.out, h3.fn, h3.own, hlv3, ?_, h3.base⟩, ⟨?_, ?_, ?_, hs32, ?_, ?_, r3.sub, ?_⟩⟩
  · intro g hg
    obtain ⟨z1, z2, z3, z4⟩ := h3.zone g hg
    refine ⟨z1, z2, z3, fun e => ?_⟩
    have hgl := (hlst.lt g e).2
    rcases r3.new g hg with h' | h'
    · exact (hzone g h').2.2.2 e
    · omega
  · rw [r3.os, hgr.os]; rfl
  · rw [r3.tape, hgr.tape]; rfl
  · rw [r3.output, hgr.output]; rfl
  · intro g hg h1 h2 h4
    have hne : v'.ownBlock ≠ some g := fun e => by
      rcases hv'new g e with e' | e'
      · exact h4 e'
      · omega
    rw [r3.block g (by omega) h1 h2 hne, same g hg h4]
  · rcases r3.prov with e | e
    · exact .inl e
    · exact .inr fun g hg => by have := e g hg; omega
  · intro g hg
    rcases r3.new g hg with h' | h'
    · exact .inl h'
    · exact .inr (by omega)
theorem FillR.trans {O : Nat} {w w1 w2 : World} {ov ov1 ov2 lv : Value} {Z0 Z1 Z2 : Nat → Prop} (h1 : FillR O w w1 ov ov1 lv Z0 Z1) (h2 : FillR O w1 w2 ov1 ov2 lv Z1 Z2) : FillR O w w2 ov ov2 lv Z0 Z2 := by
  have s1 := h1.size
  have s2 := h2.size
  refine ⟨h2.os.trans h1.os, h2.tape.trans h1.tape, h2.output.trans h1.output, Nat.le_trans s1 s2, ?_, ?_, fun g hg => h2.sub g (h1.sub g hg), ?_⟩
  · intro g hg a b c
    have hne : ov1.ownBlock ≠ some g := fun e => by
      rcases h1.prov with p | p
      · exact b (p ▸ e)
      · have := p g e; omega
    rw [h2.block g (by omega) a hne c, h1.block g hg a b c]
  · rcases h2.prov with p | p
    · rcases h1.prov with q | q
      · exact .inl (p.trans q)
      · exact .inr fun g hg => q g (p ▸ hg)
    · exact .inr fun g hg => by have := p g hg; omega
  · intro g hg
    rcases h2.new g hg with h' | h'
    · exact h1.new g h'
    · exact .inr (by omega)
theorem FillR.refl (O : Nat) (w : World) (ov lv : Value) (Z0 : Nat → Prop) : FillR O w w ov ov lv Z0 Z0 :=
  ⟨rfl, rfl, rfl, Nat.le_refl _, fun _ _ _ _ _ => rfl, .inl rfl, fun _ h => h, fun _ h => .inl h⟩
end Go.VI
