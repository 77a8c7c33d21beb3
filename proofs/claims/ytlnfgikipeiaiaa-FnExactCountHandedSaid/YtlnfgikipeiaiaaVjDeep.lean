/- Rows of heaps, each with a row of cells of its own. -/
import Derived.Test.YtlnfgikipeiaiaaViGen
import Derived.Test.YtlnfgikipeiaiaaViLib
import Derived.Test.YtlnfgikipeiaiaaViFill
namespace Go.VI
open Go.RowKit
abbrev A3ty : Ty := .pair (.int .i64) (.pair (.int .i64) (.pair (.int .i64) .unit))
abbrev HeapTy : Ty := .pair (.int .i64) (.pair (.int .i64) (.pair (.int .i64) (.pair (.sl A3ty) .unit)))
abbrev DA3 : Type := Int × Int × Int × Unit
abbrev DHeap : Type := Int × Int × Int × List DA3 × Unit
structure HE where
  x : Int
  y : Int
  z : Int
  cells : List DA3
  v : Value
def HE.heap (a : HE) : DHeap := (a.x, a.y, a.z, a.cells, ())
def HE.enc (a : HE) : List Value := [.int .i64 a.x, .int .i64 a.y, .int .i64 a.z, a.v]
theorem HE.enc_len (a : HE) : a.enc.length = 4 := rfl
def encs (hs : List HE) : List Value := (hs.map HE.enc).flatten
theorem encs_len (hs : List HE) : (encs hs).length = hs.length * 4 := by
  induction hs with
  | nil => rfl
  | cons a r ih => simp [encs, HE.enc] at ih ⊢; omega
theorem encs_append (a b : List HE) : encs (a ++ b) = encs a ++ encs b := by simp [encs]
theorem encs_at {hs : List HE} {i : Nat} {a : HE} (h : hs[i]? = some a) (j : Nat) (hj : j < 4) : (encs hs)[i * 4 + j]? = a.enc[j]? := by
  induction hs generalizing i with
  | nil => simp at h
  | cons b r ih =>
    have e : encs (b :: r) = b.enc ++ encs r := by simp [encs]
    rw [e]
    cases i with
    | zero =>
      obtain rfl : b = a := by simpa using h
      rw [List.getElem?_append_left (by rw [HE.enc_len]; omega)]
      simp
    | succ i =>
      rw [List.getElem?_append_right (by rw [HE.enc_len]; omega), HE.enc_len, show (i + 1) * 4 + j - 4 = i * 4 + j by omega]
      exact ih (by simpa using h)
structure DeepH (w : World) (B : Nat) (eo ei : TypeId) (v : Value) (hs : List HE) : Prop where
  outer : w.ownsRow B eo 4 v hs.length (encs hs)
  inner : ∀ (i : Nat) (a : HE), hs[i]? = some a → OwnV (fun _ => False) w B ei A3ty a.v a.cells
  apart : ∀ (i j : Nat) (a b : HE) (g : Nat), hs[i]? = some a → hs[j]? = some b → a.v.ownBlock = some g → b.v.ownBlock = some g → i = j
theorem ownsRow_atH {w w' : World} {base : Nat} {e : TypeId} {size : Nat} {v : Value} {n : Nat} {xs : List Value} (h : w.ownsRow base e size v n xs) (hs : ∀ g, v.ownBlock = some g → w'.heap[g]? = w.heap[g]?) : w'.ownsRow base e size v n xs := by
  refine ⟨h.1, ?_⟩
  rcases h.2 with hn | ⟨g, cap, cur, rfl, hb, hg, rest⟩
  · exact .inl hn
  · exact .inr ⟨g, cap, cur, rfl, hb, by rw [hs g rfl]; exact hg, rest⟩
theorem ownTag {Z : Nat → Prop} {w : World} {B : Nat} {e : TypeId} {t : Ty} {v : Value} {l : List t.den} (h : OwnV Z w B e t v l) {g : Nat} (hg : v.ownBlock = some g) : ∃ cur fz, w.heap[g]? = some (.cells cur e fz) := by
  obtain ⟨_, xs, ho, _⟩ := h
  rcases ho.2 with ⟨rfl, _⟩ | ⟨g', cap, cur, fz, rfl, hb, hgg, _⟩
  · simp [Value.ownBlock] at hg
  · simp [Value.ownBlock] at hg
    subst hg
    exact ⟨cur, fz, hgg⟩
theorem rowTag {w : World} {base : Nat} {e : TypeId} {size : Nat} {v : Value} {n : Nat} {xs : List Value} (h : w.ownsRow base e size v n xs) {g : Nat} (hg : v.ownBlock = some g) : ∃ cur, w.heap[g]? = some (.cells cur e (0, 0)) := by
  rcases h.2 with ⟨rfl, _⟩ | ⟨g', cap, cur, rfl, _, hh, _⟩
  · simp [Value.ownBlock] at hg
  · simp [Value.ownBlock] at hg
    subst hg
    exact ⟨cur, hh⟩
theorem OwnV.rebaseH {Z : Nat → Prop} {w : World} {B B' : Nat} {e : TypeId} {t : Ty} {v : Value} {l : List t.den} (h : OwnV Z w B e t v l) (hB : ∀ g, v.ownBlock = some g → B' ≤ g) : OwnV Z w B' e t v l := by
  obtain ⟨h0, xs, ho, hr⟩ := h
  refine ⟨h0, xs, ⟨ho.1, ?_⟩, hr⟩
  rcases ho.2 with hn | ⟨g, cap, cur, fz, h1, h2, rest⟩
  · exact .inl hn
  · exact .inr ⟨g, cap, cur, fz, h1, hB g (by rw [h1]; rfl), rest⟩
theorem DeepH.same {w w' : World} {B : Nat} {eo ei : TypeId} {v : Value} {hs : List HE} (h : DeepH w B eo ei v hs) (hsm : ∀ g, B ≤ g → g < w.heap.size → w'.heap[g]? = w.heap[g]?) : DeepH w' B eo ei v hs := by
  refine ⟨ownsRow_atH h.outer fun g hg => hsm g (h.outer.lt g hg).1 (h.outer.lt g hg).2, fun i a ha => ?_, h.apart⟩
  have hi := h.inner i a ha
  exact hi.mono (fun _ hz => hz) (fun _ hz => hz.elim) fun g hg => hsm g (hi.lt g hg).1 (hi.lt g hg).2
theorem DeepH.below {w w' : World} {B : Nat} {eo ei : TypeId} {v : Value} {hs : List HE} (h : DeepH w B eo ei v hs) (hb : Below w.heap.size w w') : DeepH w' B eo ei v hs :=
  h.same fun g _ hg => hb.block g hg
theorem DeepH.rebase {w : World} {B B' : Nat} {eo ei : TypeId} {v : Value} {hs : List HE} (h : DeepH w B eo ei v hs) (hB : B' ≤ B) : DeepH w B' eo ei v hs := by
  refine ⟨⟨h.outer.1, ?_⟩, fun i a ha => OwnV.rebaseH (h.inner i a ha) fun g hg => Nat.le_trans hB ((h.inner i a ha).lt g hg).1, h.apart⟩
  rcases h.outer.2 with hn | ⟨g, cap, cur, e, hb', hg, rest⟩
  · exact .inl hn
  · exact .inr ⟨g, cap, cur, e, Nat.le_trans hB hb', hg, rest⟩
theorem DeepH.nil {w : World} {B : Nat} {eo ei : TypeId} {v : Value} (h : w.ownsRow B eo 4 v 0 []) : DeepH w B eo ei v [] :=
  ⟨h, fun i a ha => by simp at ha, fun i j a b g ha => by simp at ha⟩
theorem DeepH.outer_ne {w : World} {B : Nat} {eo ei : TypeId} {v : Value} {hs : List HE} (h : DeepH w B eo ei v hs) (he : eo ≠ ei) {i : Nat} {a : HE} (ha : hs[i]? = some a) {g : Nat} (hg : a.v.ownBlock = some g) : v.ownBlock ≠ some g := by
  intro hv
  obtain ⟨c1, e1⟩ := rowTag h.outer hv
  obtain ⟨c2, f2, e2⟩ := ownTag (h.inner i a ha) hg
  rw [e1] at e2
  simp only [Option.some.injEq, Obj.cells.injEq] at e2
  exact he e2.2.1
theorem DeepH.push {w w1 w4 : World} {B : Nat} {eo ei : TypeId} {v : Value} {hs : List HE} (h : DeepH w B eo ei v hs) (he : eo ≠ ei) (hb1 : Below w.heap.size w w1) (hB : B ≤ w.heap.size) {a : HE} (hu : OwnV (fun _ => False) w1 w.heap.size ei A3ty a.v a.cells)
    {o : Obj} {v' : Value} (hv : w4.ownsRow B eo 4 v' (hs.length + 1) (encs hs ++ a.enc)) (hgr : GrownD (w1.alloc o) w4 v.ownBlock) : DeepH w4 B eo ei v' (hs ++ [a]) := by
  have s1 := hb1.size
  have same : ∀ g, g < w1.heap.size → v.ownBlock ≠ some g → w4.heap[g]? = w1.heap[g]? := fun g hg hn => by
    rw [hgr.block g (by show g < (w1.heap.push o).size; rw [Array.size_push]; omega) (fun e => hn e.symm), Below.heap_alloc _ _ _ hg]
  have split : ∀ (i : Nat) (b : HE), (hs ++ [a])[i]? = some b → (hs[i]? = some b ∧ i < hs.length) ∨ (b = a ∧ i = hs.length) := fun i b hb => by
    rcases Nat.lt_or_ge i hs.length with hi | hi
    · rw [List.getElem?_append_left hi] at hb
      exact .inl ⟨hb, hi⟩
    · rw [List.getElem?_append_right hi] at hb
      have e0 : i - hs.length = 0 := by
        rcases Nat.eq_zero_or_pos (i - hs.length) with h0 | h0
        · exact h0
        · rw [List.getElem?_eq_none (by simp; omega)] at hb; cases hb
      rw [e0] at hb
      exact .inr ⟨by simpa using hb.symm, by omega⟩
  refine ⟨by rw [List.length_append, encs_append]; simpa [encs] using hv, fun i b hb => ?_, fun i j b c g hb hc gb gc => ?_⟩
  · rcases split i b hb with ⟨hb, _⟩ | ⟨rfl, _⟩
    · have hi := h.inner i b hb
      refine hi.mono (fun _ hz => hz) (fun _ hz => hz.elim) fun g hg => ?_
      have hl' := hi.lt g hg
      rw [same g (by omega) (h.outer_ne he hb hg), hb1.block g hl'.2]
    · refine OwnV.rebaseH (B := w.heap.size) (hu.mono (fun _ hz => hz) (fun _ hz => hz.elim) fun g hg => ?_) fun g hg => ?_
      · have hl' := hu.lt g hg
        refine same g hl'.2 fun e => ?_
        have := (h.outer.lt g e).2
        omega
      · have := (hu.lt g hg).1
        omega
  · rcases split i b hb with ⟨b1, b2⟩ | ⟨rfl, b2⟩ <;> rcases split j c hc with ⟨c1, c2⟩ | ⟨rfl, c2⟩
    · exact h.apart i j b c g b1 c1 gb gc
    · have := ((h.inner i b b1).lt g gb).2; have := (hu.lt g gc).1; omega
    · have := ((h.inner j c c1).lt g gc).2; have := (hu.lt g gb).1; omega
    · omega
theorem DeepH.perm {w w' : World} {B : Nat} {eo ei : TypeId} {v v' : Value} {hs hs' : List HE} (h : DeepH w B eo ei v hs) (hsub : ∃ f : Nat → Nat, (∀ i j, i < hs'.length → j < hs'.length → f i = f j → i = j) ∧ ∀ i a, hs'[i]? = some a → hs[f i]? = some a) (ho : w'.ownsRow B eo 4 v' hs'.length (encs hs'))
    (hin : ∀ (i : Nat) (a : HE) (g : Nat), hs[i]? = some a → a.v.ownBlock = some g → w'.heap[g]? = w.heap[g]?) : DeepH w' B eo ei v' hs' := by
  obtain ⟨f, f1, f2⟩ := hsub
  have lt : ∀ {i : Nat} {a : HE}, hs'[i]? = some a → i < hs'.length := fun {i a} ha => by
    rcases Nat.lt_or_ge i hs'.length with h' | h'
    · exact h'
    · rw [List.getElem?_eq_none h'] at ha; cases ha
  refine ⟨ho, fun i a ha => ?_, fun i j a b g ha hb ga gb => f1 i j (lt ha) (lt hb) (h.apart _ _ a b g (f2 i a ha) (f2 j b hb) ga gb)⟩
  have hi := h.inner _ a (f2 i a ha)
  exact hi.mono (fun _ hz => hz) (fun _ hz => hz.elim) fun g hg => hin _ a g (f2 i a ha) hg
def ZH (v : Value) (hs : List HE) (g : Nat) : Prop := v.ownBlock = some g ∨ ∃ a ∈ hs, a.v.ownBlock = some g
theorem ZH.lt {w : World} {B : Nat} {eo ei : TypeId} {v : Value} {hs : List HE} (h : DeepH w B eo ei v hs) : ∀ g, ZH v hs g → B ≤ g ∧ g < w.heap.size := by
  rintro g (hg | ⟨a, ha, hg⟩)
  · exact h.outer.lt g hg
  · obtain ⟨i, hi⟩ := List.mem_iff_getElem?.1 ha
    exact (h.inner i a hi).lt g hg
theorem repHeap {Z : Nat → Prop} {w : World} {X Y Zz : Int} {l : List DA3} {lv : Value} (h : RepI Z w (.sl A3ty) l [lv]) : RepI Z w HeapTy (X, Y, Zz, l, ()) [.int .i64 X, .int .i64 Y, .int .i64 Zz, lv] :=
  ⟨[.int .i64 X], [.int .i64 Y, .int .i64 Zz, lv], rfl, rfl, [.int .i64 Y], [.int .i64 Zz, lv], rfl, rfl, [.int .i64 Zz], [lv], rfl, rfl, [lv], [], rfl, h, rfl⟩
theorem DeepH.rep {w : World} {B : Nat} {eo ei : TypeId} {v : Value} {hs : List HE} (h : DeepH w B eo ei v hs) : RepI (ZH v hs) w (.sl HeapTy) (hs.map HE.heap) [v] := by
  rcases h.outer.2 with ⟨rfl, h0⟩ | ⟨g, cap, cur, rfl, hb, hg, hnc, _⟩
  · have : hs = [] := List.length_eq_zero_iff.1 h0
    subst this
    exact ⟨none, 0, rfl, Nat.le_refl _, fun i x hx => by simp at hx⟩
  · refine ⟨some ⟨g, 0, none⟩, cap, by simp, by simpa using hnc, fun i x hx => ⟨_, rfl, .inl rfl, ?_⟩⟩
    rw [List.getElem?_map] at hx
    cases ha : hs[i]? with
    | none => rw [ha] at hx; cases hx
    | some a =>
      rw [ha] at hx
      obtain rfl : a.heap = x := by simpa using hx
      refine ⟨a.enc, repHeap ((h.inner i a ha).reads _ (fun _ hz => hz.elim) fun g' hg' => .inr ⟨a, List.mem_of_getElem? ha, hg'⟩), fun j u hj => ?_⟩
      have hj4 : j < 4 := by
        rcases Nat.lt_or_ge j 4 with h' | h'
        · exact h'
        · rw [List.getElem?_eq_none (by rw [HE.enc_len]; exact h')] at hj; cases hj
      have := h.outer.cells (g := g) rfl (i * 4 + j) u (by rw [encs_at ha j hj4]; exact hj)
      exact this
end Go.VI
/- Calls by VI's contracts in a walk by hand: heaps that are returned. -/
namespace Go.VI
open Go.RowKit
def hpV (h : DHeap) (u : Value) : Value := .agg #[.int .i64 h.1, .int .i64 h.2.1, .int .i64 h.2.2.1, u]
theorem resRel_flatH {Z : Nat → Prop} {w : World} {B : Nat} {avs : List Value} {R : List (Bool × Ty)} {r : denL R} {us : List Value} (hR : flatR R = true) (h : ResRel Z w B avs (resL R r []) us) : us = (resC R r).map cellV := by
  rw [resL_plain R r [] hR] at h
  obtain ⟨f, h1, h2, _⟩ := h
  apply List.ext_getElem?
  intro i
  rw [List.getElem?_map]
  cases hc : (resC R r)[i]? with
  | none =>
    rw [List.getElem?_eq_none]
    · rfl
    · have := List.getElem?_eq_none_iff.1 hc
      rw [h1, List.length_map]; exact this
  | some c =>
    obtain ⟨g1, _, g3⟩ := h2 i (false, [RCell.flat c]) (by rw [List.getElem?_map, hc]; rfl)
    have := (g3 0 _ rfl).2
    rw [g1]
    simp only [List.length_cons, List.length_nil, Nat.zero_add, List.range_one, List.map_cons, List.map_nil, mkVal, List.headD_cons, Option.map_some]
    rw [this]
section
variable {P : Program} {G : World → Prop} {f : FuncId} {fn : Func} {c : Code} {As : List ATy} {Z : Nat → Prop} {w : World} {xs : denA As} {vs : List Value}
theorem flatH_calls {R : List (Bool × Ty)} {F : denA As → Option (denL R)} (hs : Sound P G f ⟨As, R, [], F⟩) (hR : flatR R = true)
    (hf : P.funcs[f]? = some fn) (hb : fn.body = some c) (hn : (fn.name == "runtime.NumGoroutine") = false) {r : denL R} (hG : G w) (hZ : ∀ g, Z g → g < w.heap.size) (hrel : RelArgs P G Z w As xs vs) (hF : F xs = some r) :
    Calls P f vs.toArray w fun e w' => e = .returned (mkRes ((resC R r).map cellV)) ∧ Below w.heap.size w w' := by
  refine (FCalls.calls (enter_run hf hb hn) (hs w Z vs xs r hG hZ hrel hF)).mono ?_
  rintro e w' ⟨v, rfl, Z', us, rfl, hbel, _, _, hres⟩
  rw [resRel_flatH hR hres]
  exact ⟨rfl, hbel⟩
theorem rowH_calls {t : Ty} {e : TypeId} {F : denA As → Option (denL [(false, .sl t)])} (hs : Sound P G f ⟨As, [(false, .sl t)], [.own e], F⟩) (ht : leads t = false)
    (hf : P.funcs[f]? = some fn) (hb : fn.body = some c) (hn : (fn.name == "runtime.NumGoroutine") = false) {r : denL [(false, Ty.sl t)]} (hG : G w) (hZ : ∀ g, Z g → g < w.heap.size) (hrel : RelArgs P G Z w As xs vs) (hF : F xs = some r) :
    Calls P f vs.toArray w fun e' w' => ∃ v, e' = .returned v ∧ Below w.heap.size w w' ∧ OwnV (fun _ => False) w' w.heap.size e t v r.1 := by
  refine (FCalls.calls (enter_run hf hb hn) (hs w Z vs xs r hG hZ hrel hF)).mono ?_
  rintro e' w' ⟨v, rfl, Z', us, rfl, hbel, _, _, g, h1, h2, h3⟩
  have hr : (resL [(false, Ty.sl t)] r [RMode.own e])[0]? = some (false, [RCell.own e t r.1]) := rfl
  obtain ⟨k1, _, k3⟩ := h2 0 _ hr
  have hv := (k3 0 _ rfl).1
  have hus : us = [g 0 0] := by
    match us, h1, k1 with
    | [u], _, k1 =>
      have : u = mkVal false ((List.range 1).map (g 0)) := by simpa using k1
      rw [this]; rfl
    | [], h1, _ => cases h1
    | _ :: _ :: _, h1, _ => cases h1
  subst hus
  exact ⟨g 0 0, rfl, hbel, hv.flat ht⟩
theorem heapH_calls {e : TypeId} {F : denA As → Option (denL [(true, HeapTy)])} (hs : Sound P G f ⟨As, [(true, HeapTy)], [.own e], F⟩)
    (hf : P.funcs[f]? = some fn) (hb : fn.body = some c) (hn : (fn.name == "runtime.NumGoroutine") = false) {r : DHeap} (hG : G w) (hZ : ∀ g, Z g → g < w.heap.size) (hrel : RelArgs P G Z w As xs vs) (hF : F xs = some (r, ())) :
    Calls P f vs.toArray w fun e' w' => ∃ u, e' = .returned (hpV r u) ∧ Below w.heap.size w w' ∧ OwnV (fun _ => False) w' w.heap.size e A3ty u r.2.2.2.1 := by
  refine (FCalls.calls (enter_run hf hb hn) (hs w Z vs xs (r, ()) hG hZ hrel hF)).mono ?_
  rintro e' w' ⟨v, rfl, Z', us, rfl, hbel, _, _, g, h1, h2, _⟩
  obtain ⟨k1, _, k3⟩ := h2 0 (true, [RCell.flat (.int .i64 r.1), RCell.flat (.int .i64 r.2.1), RCell.flat (.int .i64 r.2.2.1), RCell.own e A3ty r.2.2.2.1]) rfl
  have a0 := (k3 0 _ rfl).2
  have a1 := (k3 1 _ rfl).2
  have a2 := (k3 2 _ rfl).2
  have a3 := (k3 3 _ rfl).1
  match us, h1, k1 with
  | [u], _, k1 =>
    have : u = mkVal true ((List.range 4).map (g 0)) := by simpa using k1
    refine ⟨g 0 3, ?_, hbel, a3.flat rfl⟩
    rw [this]
    show Ending.returned (.agg #[g 0 0, g 0 1, g 0 2, g 0 3]) = _
    rw [a0, a1, a2]
    rfl
  | [], h1, _ => cases h1
  | _ :: _ :: _, h1, _ => cases h1
theorem heapBH_calls {e : TypeId} {F : denA As → Option (denL [(true, HeapTy), (false, .bool)])} (hs : Sound P G f ⟨As, [(true, HeapTy), (false, .bool)], [.own e], F⟩)
    (hf : P.funcs[f]? = some fn) (hb : fn.body = some c) (hn : (fn.name == "runtime.NumGoroutine") = false) {r : DHeap} {b : Bool} (hG : G w) (hZ : ∀ g, Z g → g < w.heap.size) (hrel : RelArgs P G Z w As xs vs) (hF : F xs = some (r, b, ())) :
    Calls P f vs.toArray w fun e' w' => ∃ u, e' = .returned (.tuple #[hpV r u, .bool b]) ∧ Below w.heap.size w w' ∧ OwnV (fun _ => False) w' w.heap.size e A3ty u r.2.2.2.1 := by
  refine (FCalls.calls (enter_run hf hb hn) (hs w Z vs xs (r, b, ()) hG hZ hrel hF)).mono ?_
  rintro e' w' ⟨v, rfl, Z', us, rfl, hbel, _, _, g, h1, h2, _⟩
  obtain ⟨k1, _, k3⟩ := h2 0 (true, [RCell.flat (.int .i64 r.1), RCell.flat (.int .i64 r.2.1), RCell.flat (.int .i64 r.2.2.1), RCell.own e A3ty r.2.2.2.1]) rfl
  obtain ⟨m1, _, m3⟩ := h2 1 (false, [RCell.flat (.bool b)]) rfl
  have a0 := (k3 0 _ rfl).2
  have a1 := (k3 1 _ rfl).2
  have a2 := (k3 2 _ rfl).2
  have a3 := (k3 3 _ rfl).1
  have b0 := (m3 0 _ rfl).2
  match us, h1, k1, m1 with
  | [u, y], _, k1, m1 =>
    have : u = mkVal true ((List.range 4).map (g 0)) := by simpa using k1
    have hy : y = mkVal false ((List.range 1).map (g 1)) := by simpa using m1
    refine ⟨g 0 3, ?_, hbel, a3.flat rfl⟩
    rw [this, hy]
    show Ending.returned (.tuple #[.agg #[g 0 0, g 0 1, g 0 2, g 0 3], g 1 0]) = _
    rw [a0, a1, a2, b0]
    rfl
  | [], h1, _, _ => cases h1
  | [_], h1, _, _ => cases h1
  | _ :: _ :: _ :: _, h1, _, _ => cases h1
end
end Go.VI
