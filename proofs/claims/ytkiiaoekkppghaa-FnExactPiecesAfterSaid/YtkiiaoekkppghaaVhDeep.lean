/- VI, part 36: rows of rows, each inner row a row of its own. -/
import Derived.Test.YtkiiaoekkppghaaViGen
import Derived.Test.YtkiiaoekkppghaaViLib
import Derived.Test.YtkiiaoekkppghaaViFill
namespace Go.VI
open Go.RowKit

/-- A row of rows, all of them the call's own, no two of them one. -/
structure DeepR (w : World) (B : Nat) (eo ei : TypeId) (t : Ty) (v : Value) (vs : List Value) (ls : List (List t.den)) : Prop where
  outer : w.ownsRow B eo 1 v ls.length vs
  inner : ∀ (i : Nat) (u : Value) (l : List t.den), vs[i]? = some u → ls[i]? = some l → OwnV (fun _ => False) w B ei t u l
  apart : ∀ (i j : Nat) (u u' : Value) (g : Nat), vs[i]? = some u → vs[j]? = some u' → u.ownBlock = some g → u'.ownBlock = some g → i = j

theorem DeepR.len {w : World} {B : Nat} {eo ei : TypeId} {t : Ty} {v : Value} {vs : List Value} {ls : List (List t.den)} (h : DeepR w B eo ei t v vs ls) : vs.length = ls.length := by
  have := h.outer.1
  omega

theorem ownsRow_at {w w' : World} {base : Nat} {e : TypeId} {size : Nat} {v : Value} {n : Nat} {xs : List Value} (h : w.ownsRow base e size v n xs) (hs : ∀ g, v.ownBlock = some g → w'.heap[g]? = w.heap[g]?) : w'.ownsRow base e size v n xs := by
  refine ⟨h.1, ?_⟩
  rcases h.2 with hn | ⟨g, cap, cur, rfl, hb, hg, rest⟩
  · exact .inl hn
  · exact .inr ⟨g, cap, cur, rfl, hb, by rw [hs g rfl]; exact hg, rest⟩

theorem DeepR.same {w w' : World} {B : Nat} {eo ei : TypeId} {t : Ty} {v : Value} {vs : List Value} {ls : List (List t.den)} (h : DeepR w B eo ei t v vs ls) (hs : ∀ g, B ≤ g → g < w.heap.size → w'.heap[g]? = w.heap[g]?) : DeepR w' B eo ei t v vs ls := by
  refine ⟨ownsRow_at h.outer fun g hg => hs g (h.outer.lt g hg).1 (h.outer.lt g hg).2, fun i u l hu hl => ?_, h.apart⟩
  have hi := h.inner i u l hu hl
  exact hi.mono (fun _ hz => hz) (fun _ hz => hz.elim) (fun g hg => hs g (hi.lt g hg).1 (hi.lt g hg).2)

theorem DeepR.below {w w' : World} {B : Nat} {eo ei : TypeId} {t : Ty} {v : Value} {vs : List Value} {ls : List (List t.den)} (h : DeepR w B eo ei t v vs ls) (hb : Below w.heap.size w w') : DeepR w' B eo ei t v vs ls :=
  h.same fun g _ hg => hb.block g hg

theorem DeepR.nil {w : World} {B : Nat} {eo ei : TypeId} {t : Ty} {v : Value} (h : w.ownsRow B eo 1 v 0 []) : DeepR w B eo ei t v [] [] :=
  ⟨h, fun i u l hu => by simp at hu, fun i j u u' g hu => by simp at hu⟩

/-- Blocks of an inner row, and the outer row's block. -/
theorem OwnV.tag {Z : Nat → Prop} {w : World} {B : Nat} {e : TypeId} {t : Ty} {v : Value} {l : List t.den} (h : OwnV Z w B e t v l) {g : Nat} (hg : v.ownBlock = some g) : ∃ cur fz, w.heap[g]? = some (.cells cur e fz) := by
  obtain ⟨_, xs, ho, _⟩ := h
  rcases ho.2 with ⟨rfl, _⟩ | ⟨g', cap, cur, fz, rfl, hb, hgg, _⟩
  · simp [Value.ownBlock] at hg
  · simp [Value.ownBlock] at hg
    subst hg
    exact ⟨cur, fz, hgg⟩

theorem own_tag {w : World} {base : Nat} {e : TypeId} {size : Nat} {v : Value} {n : Nat} {xs : List Value} (h : w.ownsRow base e size v n xs) {g : Nat} (hg : v.ownBlock = some g) : ∃ cur, w.heap[g]? = some (.cells cur e (0, 0)) := by
  rcases h.2 with ⟨rfl, _⟩ | ⟨g', cap, cur, rfl, _, hh, _⟩
  · simp [Value.ownBlock] at hg
  · simp [Value.ownBlock] at hg
    subst hg
    exact ⟨cur, hh⟩

theorem DeepR.outer_ne {w : World} {B : Nat} {eo ei : TypeId} {t : Ty} {v : Value} {vs : List Value} {ls : List (List t.den)} (h : DeepR w B eo ei t v vs ls) (he : eo ≠ ei) {i : Nat} {u : Value} {l : List t.den} (hu : vs[i]? = some u) (hl : ls[i]? = some l) {g : Nat} (hg : u.ownBlock = some g) : v.ownBlock ≠ some g := by
  intro hv
  obtain ⟨c1, e1⟩ := own_tag h.outer hv
  obtain ⟨c2, f2, e2⟩ := (h.inner i u l hu hl).tag hg
  rw [e1] at e2
  simp only [Option.some.injEq, Obj.cells.injEq] at e2
  exact he e2.2.1

theorem getElem?_len {α β : Type} {xs : List α} {ys : List β} (h : xs.length = ys.length) {i : Nat} {x : α} (hx : xs[i]? = some x) : ∃ y, ys[i]? = some y := by
  have hi : i < xs.length := by
    rcases Nat.lt_or_ge i xs.length with h' | h'
    · exact h'
    · rw [List.getElem?_eq_none h'] at hx; cases hx
  exact ⟨ys[i]'(by omega), List.getElem?_eq_getElem (by omega)⟩

/-- One more inner row, which is new. -/
theorem DeepR.push {w w1 w4 : World} {B : Nat} {eo ei : TypeId} {t : Ty} {v : Value} {vs : List Value} {ls : List (List t.den)} (h : DeepR w B eo ei t v vs ls) (he : eo ≠ ei) (hb1 : Below w.heap.size w w1) (hB : B ≤ w.heap.size) {u : Value} {l : List t.den} (hu : OwnV (fun _ => False) w1 w.heap.size ei t u l)
    {o : Obj} {v' : Value} (hv : w4.ownsRow B eo 1 v' (ls.length + 1) (vs ++ [u])) (hgr : (w1.alloc o).grownBy w4 v.ownBlock) : DeepR w4 B eo ei t v' (vs ++ [u]) (ls ++ [l]) := by
  have s1 := hb1.size
  have hlen := h.len
  have same : ∀ g, g < w1.heap.size → v.ownBlock ≠ some g → w4.heap[g]? = w1.heap[g]? := fun g hg hn => by
    rw [hgr.block g (by show g < (w1.heap.push o).size; rw [Array.size_push]; omega) (fun e => hn e.symm), Below.heap_alloc _ _ _ hg]
  have old : ∀ i u l, vs[i]? = some u → ls[i]? = some l → OwnV (fun _ => False) w4 B ei t u l := fun i u l hu hl => by
    have hi := h.inner i u l hu hl
    refine hi.mono (fun _ hz => hz) (fun _ hz => hz.elim) fun g hg => ?_
    have hl' := hi.lt g hg
    rw [same g (by omega) (h.outer_ne he hu hl hg), hb1.block g hl'.2]
  have new : OwnV (fun _ => False) w4 B ei t u l := by
    refine OwnV.rebaseM (B := w.heap.size) (hu.mono (fun _ hz => hz) (fun _ hz => hz.elim) fun g hg => ?_) fun g hg => ?_
    · have hl' := hu.lt g hg
      refine same g hl'.2 fun e => ?_
      have := (h.outer.lt g e).2
      omega
    · have := (hu.lt g hg).1
      omega
  refine ⟨by rw [List.length_append]; exact hv, fun i u' l' hu' hl' => ?_, fun i j a b g ha hb ga gb => ?_⟩
  · rcases Nat.lt_or_ge i vs.length with hi | hi
    · rw [List.getElem?_append_left hi] at hu'
      rw [List.getElem?_append_left (by omega)] at hl'
      exact old i u' l' hu' hl'
    · rw [List.getElem?_append_right hi] at hu'
      rw [List.getElem?_append_right (by omega)] at hl'
      have e0 : i - vs.length = 0 := by
        rcases Nat.eq_zero_or_pos (i - vs.length) with h0 | h0
        · exact h0
        · rw [List.getElem?_eq_none (by simp; omega)] at hu'; cases hu'
      rw [e0] at hu'
      rw [← hlen, e0] at hl'
      obtain rfl : u = u' := by simpa using hu'
      obtain rfl : l = l' := by simpa using hl'
      exact new
  · have split : ∀ (i : Nat) (a : Value), (vs ++ [u])[i]? = some a → (vs[i]? = some a ∧ i < vs.length) ∨ (a = u ∧ i = vs.length) := fun i a ha => by
      rcases Nat.lt_or_ge i vs.length with hi | hi
      · rw [List.getElem?_append_left hi] at ha
        exact .inl ⟨ha, hi⟩
      · rw [List.getElem?_append_right hi] at ha
        have e0 : i - vs.length = 0 := by
          rcases Nat.eq_zero_or_pos (i - vs.length) with h0 | h0
          · exact h0
          · rw [List.getElem?_eq_none (by simp; omega)] at ha; cases ha
        rw [e0] at ha
        exact .inr ⟨by simpa using ha.symm, by omega⟩
    have low : ∀ (i : Nat) (a : Value), vs[i]? = some a → a.ownBlock = some g → g < w.heap.size := fun i a ha ga => by
      obtain ⟨l', hl'⟩ := getElem?_len hlen ha
      exact ((h.inner i a l' ha hl').lt g ga).2
    rcases split i a ha with ⟨a1, a2⟩ | ⟨rfl, a2⟩ <;> rcases split j b hb with ⟨b1, b2⟩ | ⟨rfl, b2⟩
    · exact h.apart i j a b g a1 b1 ga gb
    · have := low i a a1 ga; have := (hu.lt g gb).1; omega
    · have := low j b b1 gb; have := (hu.lt g ga).1; omega
    · omega

/-! ### Calls by VI's contracts -/
theorem resRel_flat {Z : Nat → Prop} {w : World} {B : Nat} {avs : List Value} {R : List (Bool × Ty)} {r : denL R} {us : List Value} (hR : flatR R = true) (h : ResRel Z w B avs (resL R r []) us) : us = (resC R r).map cellV := by
  rw [resL_plain R r [] hR] at h
  obtain ⟨f, h1, h2, _⟩ := h
  apply List.ext_getElem?
  intro i
  rw [List.getElem?_map]
  cases hc : (resC R r)[i]? with
  | none =>
    rw [List.getElem?_eq_none]
    · rfl
    · have := List.getElem?_eq_none_iff.1 hc
      rw [h1, List.length_map]; exact this
  | some c =>
    obtain ⟨g1, _, g3⟩ := h2 i (false, [RCell.flat c]) (by rw [List.getElem?_map, hc]; rfl)
    have := (g3 0 _ rfl).2
    rw [g1]
    simp only [List.length_cons, List.length_nil, Nat.zero_add, List.range_one, List.map_cons, List.map_nil, mkVal, List.headD_cons, Option.map_some]
    rw [this]

/-- A call of a function that changes nothing and returns plain values. -/
theorem flat_calls {P : Program} {G : World → Prop} {f : FuncId} {fn : Func} {c : Code} {As : List ATy} {R : List (Bool × Ty)} {F : denA As → Option (denL R)} {Z : Nat → Prop} (hs : Sound P G f ⟨As, R, [], F⟩) (hR : flatR R = true)
    (hf : P.funcs[f]? = some fn) (hb : fn.body = some c) (hn : (fn.name == "runtime.NumGoroutine") = false) {w : World} {xs : denA As} {r : denL R} {vs : List Value} (hG : G w) (hZ : ∀ g, Z g → g < w.heap.size) (hrel : RelArgs P G Z w As xs vs) (hF : F xs = some r) :
    Calls P f vs.toArray w fun e w' => e = .returned (mkRes ((resC R r).map cellV)) ∧ Below w.heap.size w w' := by
  refine (FCalls.calls (enter_run hf hb hn) (hs w Z vs xs r hG hZ hrel hF)).mono ?_
  rintro e w' ⟨v, rfl, Z', us, rfl, hbel, _, _, hres⟩
  rw [resRel_flat hR hres]
  exact ⟨rfl, hbel⟩


/-- A call of a function that returns a new row. -/
theorem own_calls {P : Program} {G : World → Prop} {f : FuncId} {fn : Func} {c : Code} {As : List ATy} {t : Ty} {e : TypeId} {F : denA As → Option (denL [(false, .sl t)])} {Z : Nat → Prop} (hs : Sound P G f ⟨As, [(false, .sl t)], [.own e], F⟩) (ht : leads t = false)
    (hf : P.funcs[f]? = some fn) (hb : fn.body = some c) (hn : (fn.name == "runtime.NumGoroutine") = false) {w : World} {xs : denA As} {r : denL [(false, Ty.sl t)]} {vs : List Value} (hG : G w) (hZ : ∀ g, Z g → g < w.heap.size) (hrel : RelArgs P G Z w As xs vs) (hF : F xs = some r) :
    Calls P f vs.toArray w fun e' w' => ∃ v, e' = .returned v ∧ Below w.heap.size w w' ∧ OwnV (fun _ => False) w' w.heap.size e t v r.1 := by
  refine (FCalls.calls (enter_run hf hb hn) (hs w Z vs xs r hG hZ hrel hF)).mono ?_
  rintro e' w' ⟨v, rfl, Z', us, rfl, hbel, _, _, g, h1, h2, h3⟩
  have hr : (resL [(false, Ty.sl t)] r [RMode.own e])[0]? = some (false, [RCell.own e t r.1]) := rfl
  obtain ⟨k1, _, k3⟩ := h2 0 _ hr
  have hv := (k3 0 _ rfl).1
  have hus : us = [g 0 0] := by
    match us, h1, k1 with
    | [u], _, k1 =>
      have : u = mkVal false ((List.range 1).map (g 0)) := by simpa using k1
      rw [this]; rfl
    | [], h1, _ => cases h1
    | _ :: _ :: _, h1, _ => cases h1
  subst hus
  exact ⟨g 0 0, rfl, hbel, hv.flat ht⟩
end Go.VI
