/- Plain: the order of heaps. -/
import Derived.Test.YtlnfgikipeiaiaaGreatPlN
import Derived.Test.YtlnfgikipeiaiaaGreatViFunM
import Derived.Test.YtlnfgikipeiaiaaGreatG30p2
import Derived.Test.YtlnfgikipeiaiaaGreatViApp
import Derived.WalkKit
import Derived.Lib.SliceRun
import Derived.Deep.LoopGhost
import Derived.Deep.RegionLaw
import Derived.Deep.CutRange
import Derived.Laws.Rows
import Derived.Shelf.SlSortCmp.WholeK
import Derived.Shelf.Small.Bits
import Derived.Shelf.Small.Wraps
import Derived.Shelf.Strconv.Itoa0
import Derived.Ground.Names2Prog
import Derived.Shelf.Slices.SearchI
import Derived.Ground.SlgnProg
import Derived.Shelf.SlicesE.Clone
import Derived.Test.YtlnfgikipeiaiaaGreatProg
namespace Go.VI
open Go.Proofs
def c8x (h : a0b) : a0a := (h.1, h.2.1, h.2.2.1, ())
def d5y : List a0a → List a0a → Bool
 | [], [] => false
 | [], _ :: _ => true
 | _ :: _, [] => false
 | a :: l, b :: m => if a = b then d5y l m else ltC a b
def a9f (g h : a0b) : Bool := if c8x g = c8x h then d5y g.2.2.2.1 h.2.2.2.1 else ltC (c8x g) (c8x h)
def cmpL : List a0a → List a0a → Int
 | [], [] => 0
 | [], _ :: _ => -1
 | _ :: _, [] => 1
 | a :: l, b :: m => if g8p a b = 0 then cmpL l m else g8p a b
def i1s (g h : a0b) : Int := if g8p (c8x g) (c8x h) = 0 then cmpL g.2.2.2.1 h.2.2.2.1 else g8p (c8x g) (c8x h)
theorem cmpC_zero {a b : a0a} : g8p a b = 0 ↔ a = b := by
 constructor
 · intro h
   unfold g8p at h
   repeat' (split at h)
   all_goals first | omega | exact a5q (by omega) (by omega) (by omega)
 · rintro rfl
   unfold g8p
   simp
theorem i5d {a b : a0a} : g8p a b < 0 ↔ ltC a b = true := by
 rw [ltC_iff]
 unfold g8p
 repeat' split
 all_goals first | omega | (constructor <;> intro h <;> omega)
theorem i5w : ∀ {l m : List a0a}, cmpL l m < 0 ↔ d5y l m = true
 | [], [] => by simp [cmpL, d5y]
 | [], _ :: _ => by simp [cmpL, d5y]
 | _ :: _, [] => by simp [cmpL, d5y]
 | a :: l, b :: m => by
  simp only [cmpL, d5y]
  by_cases h : a = b
  · rw [if_pos (cmpC_zero.2 h), if_pos h]; exact i5w
  · rw [if_neg (fun e => h (cmpC_zero.1 e)), if_neg h]; exact i5d
theorem cmpH_neg {g h : a0b} : i1s g h < 0 ↔ a9f g h = true := by
 unfold i1s a9f
 by_cases e : c8x g = c8x h
 · rw [if_pos (cmpC_zero.2 e), if_pos e]; exact i5w
 · rw [if_neg (fun e' => e (cmpC_zero.1 e')), if_neg e]; exact i5d
theorem i1f : ∀ l : List a0a, d5y l l = false
 | [] => rfl
 | a :: l => by simp only [d5y, if_true]; exact i1f l
theorem i6h : ∀ {l m n : List a0a}, d5y l m = true → d5y m n = true → d5y l n = true
 | [], [], _, h, _ => by cases h
 | [], _ :: _, [], _, h => by cases h
 | [], _ :: _, _ :: _, _, _ => rfl
 | _ :: _, [], _, h, _ => by cases h
 | _ :: _, _ :: _, [], _, h => by cases h
 | a :: l, b :: m, c :: n, h, k => by
  simp only [d5y] at h k ⊢
  by_cases e : a = b
  · subst e
    rw [if_pos rfl] at h
    by_cases e' : a = c
    · rw [if_pos e'] at k ⊢; exact i6h h k
    · rw [if_neg e'] at k ⊢; exact k
  · rw [if_neg e] at h
    by_cases e' : b = c
    · subst e'
      rw [if_neg e]; exact h
    · rw [if_neg e'] at k
      have hk := d5i h k
      have hne : a ≠ c := fun e'' => by rw [e''] at hk; rw [b9s] at hk; cases hk
      rw [if_neg hne]; exact hk
theorem i0s : ∀ {l m : List a0a}, d5y l m = false → d5y m l = false → l = m
 | [], [], _, _ => rfl
 | [], _ :: _, h, _ => by cases h
 | _ :: _, [], _, h => by cases h
 | a :: l, b :: m, h, k => by
  simp only [d5y] at h k
  by_cases e : a = b
  · subst e
    rw [if_pos rfl] at h k
    rw [i0s h k]
  · rw [if_neg e] at h
    rw [if_neg (fun e' => e e'.symm)] at k
    exact absurd (f3n h k) e
theorem h5u {g h : a0b} (e : c8x g = c8x h) (k : g.2.2.2.1 = h.2.2.2.1) : g = h := by
 simp only [c8x, Prod.mk.injEq, and_true] at e
 exact i5r e.1 e.2.1 e.2.2 k
theorem b4g (g : a0b) : a9f g g = false := by unfold a9f; rw [if_pos rfl]; exact i1f _
theorem c9q {f g h : a0b} (a : a9f f g = true) (b : a9f g h = true) : a9f f h = true := by
 unfold a9f at a b ⊢
 by_cases e : c8x f = c8x g
 · rw [if_pos e] at a
   by_cases e' : c8x g = c8x h
   · rw [if_pos e'] at b; rw [if_pos (e.trans e')]; exact i6h a b
   · rw [if_neg e'] at b; rw [if_neg (fun x => e' (e.symm.trans x)), e]; exact b
 · rw [if_neg e] at a
   by_cases e' : c8x g = c8x h
   · rw [if_neg (fun x => e (x.trans e'.symm)), ← e']; exact a
   · rw [if_neg e'] at b
     have hk := d5i a b
     have hne : c8x f ≠ c8x h := fun e'' => by rw [e''] at hk; rw [b9s] at hk; cases hk
     rw [if_neg hne]; exact hk
theorem d4g {g h : a0b} (a : a9f g h = false) (b : a9f h g = false) : g = h := by
 unfold a9f at a b
 by_cases e : c8x g = c8x h
 · rw [if_pos e] at a; rw [if_pos e.symm] at b; exact h5u e (i0s a b)
 · rw [if_neg e] at a; rw [if_neg (fun x => e x.symm)] at b; exact absurd (f3n a b) e
def e6r (g h : a0b) : Bool := decide (c8x g = c8x h) && decide (g.2.2.2.1 = h.2.2.2.1)
theorem sameB_iff {g h : a0b} : e6r g h = true ↔ g = h := by
 unfold e6r
 rw [Bool.and_eq_true, decide_eq_true_eq, decide_eq_true_eq]
 exact ⟨fun e => h5u e.1 e.2, fun e => by rw [e]; exact ⟨rfl, rfl⟩⟩
theorem f2i {g h : a0b} (e : g = h) : e6r g h = true := sameB_iff.2 e
theorem e2c {g h : a0b} (e : g ≠ h) : e6r g h = false := by
 cases k : e6r g h with
 | true => exact absurd (sameB_iff.1 k) e
 | false => rfl
theorem j8i (a b : a0a) : (decide (a.1 = b.1) && (decide (a.2.1 = b.2.1) && (decide (a.2.2.1 = b.2.2.1) && true))) = decide (a = b) := by
 by_cases h : a = b
 · subst h; simp
 · rw [decide_eq_false h]
   by_cases h1 : a.1 = b.1
   · by_cases h2 : a.2.1 = b.2.1
     · by_cases h3 : a.2.2.1 = b.2.2.1
       · exact absurd (a5q h1 h2 h3) h
       · simp [h3]
     · simp [h2]
   · simp [h1]
theorem j4s {X Y Z X' Y' Z' : Int} {l l' : List a0a} (hl : Small l) (hl' : Small l') : ∀ (d k m : Nat), l.length = k + d → d < m → k ≤ l'.length →
 b2w m X Y Z l X' Y' Z' l' (k : Int) = some (d5y (l.drop k) (l'.drop k), ())
 | d, k, 0, _, h, _ => by omega
 | d, k, m + 1, hk, hm, hk' => by
  have h1 := hl
  have h2 := hl'
  unfold Small at h1 h2
  rw [g7y]
  by_cases hlt : k < l.length
  · rw [ltT hlt]
    by_cases hlt' : k < l'.length
    · rw [ltT hlt', a1j hlt, a1j hlt', b9l (t := a0e) hlt, b9l (t := a0e) hlt', j8i, drop_at l k hlt, drop_at l' k hlt']
      simp only [cond_true, d5y]
      by_cases e : l[k] = l'[k]
      · rw [decide_eq_true e, if_pos e, a5v k (by omega)]
        exact j4s hl hl' (d - 1) (k + 1) m (by omega) (by omega) (by omega)
      · rw [decide_eq_false e, if_neg e, b9e]
        rfl
    · rw [ltF hlt', drop_at l k hlt, List.drop_eq_nil_of_le (show l'.length ≤ k by omega)]
      simp only [cond_true, cond_false, d5y]
      rw [decide_eq_false (by omega)]
  · rw [ltF hlt, List.drop_eq_nil_of_le (show l.length ≤ k by omega)]
    simp only [cond_false]
    by_cases hlt' : k < l'.length
    · rw [drop_at l' k hlt', decide_eq_true (by omega)]; rfl
    · rw [List.drop_eq_nil_of_le (show l'.length ≤ k by omega), decide_eq_false (by omega)]; rfl
theorem i6y {g h : a0b} (hg : Small g.2.2.2.1) (hh : Small h.2.2.2.1) : a4q (g, h, ()) = some (a9f g h, ()) := by
 rw [h7o]
 have e : (decide (g.1 = h.1) && (decide (g.2.1 = h.2.1) && (decide (g.2.2.1 = h.2.2.1) && true))) = decide (c8x g = c8x h) := j8i (c8x g) (c8x h)
 rw [e]
 unfold a9f
 by_cases h' : c8x g = c8x h
 · rw [decide_eq_true h', if_pos h']
   have := j4s (X := g.1) (Y := g.2.1) (Z := g.2.2.1) (X' := h.1) (Y' := h.2.1) (Z' := h.2.2.1) hg hh g.2.2.2.1.length 0 N (by omega) (by unfold Small at hg; have := b6u; omega) (by omega)
   simpa using this
 · rw [decide_eq_false h', if_neg h', b9e]
   rfl
theorem i9x {g h : a0b} (hg : Small g.2.2.2.1) (hh : Small h.2.2.2.1) : a8a (g, h, ()) = some (e6r g h, ()) := by
 rw [h7f, i6y hg hh]
 simp only [Option.bind_some]
 cases a : a9f g h with
 | true =>
  have : g ≠ h := fun e => by rw [e, b4g] at a; cases a
  rw [e2c this]; rfl
 | false =>
  simp only [Bool.not_false, cond_true]
  rw [i6y hh hg]
  simp only [Option.bind_some]
  cases b : a9f h g with
  | true =>
   have : g ≠ h := fun e => by rw [e, b4g] at b; cases b
   rw [e2c this]; rfl
  | false => rw [f2i (d4g a b)]; rfl
theorem j5h {l l' : List a0a} (hl : Small l) (hl' : Small l') : ∀ (d k m : Nat), l.length = k + d → d < m → k ≤ l'.length →
 a0q m l l' (fun y => a3f (y.1, y.2.1, ())) l (l.length : Int) (k : Int) = some (cmpL (l.drop k) (l'.drop k), ())
 | d, k, 0, _, h, _ => by omega
 | d, k, m + 1, hk, hm, hk' => by
  have h1 := hl
  have h2 := hl'
  unfold Small at h1 h2
  rw [a8x]
  by_cases hlt : k < l.length
  · rw [ltT hlt, a1j hlt]
    simp only [cond_true]
    by_cases hlt' : k < l'.length
    · rw [decide_eq_false (p := (k : Int) ≥ (l'.length : Int)) (by omega), a1j hlt', b9l (t := a0e) hlt, b9l (t := a0e) hlt', b5o, drop_at l k hlt, drop_at l' k hlt']
      simp only [cond_true, cond_false, cmpL, Option.bind_some]
      by_cases e : g8p l[k] l'[k] = 0
      · rw [decide_eq_true e, if_pos e, a5v k (by omega)]
        exact j5h hl hl' (d - 1) (k + 1) m (by omega) (by omega) (by omega)
      · rw [decide_eq_false e, if_neg e]
        rfl
    · rw [decide_eq_true (p := (k : Int) ≥ (l'.length : Int)) (by omega), drop_at l k hlt, List.drop_eq_nil_of_le (show l'.length ≤ k by omega)]
      rfl
  · rw [ltF hlt, List.drop_eq_nil_of_le (show l.length ≤ k by omega)]
    simp only [cond_false]
    by_cases hlt' : k < l'.length
    · rw [drop_at l' k hlt', decide_eq_true (by omega)]; rfl
    · rw [List.drop_eq_nil_of_le (show l'.length ≤ k by omega), decide_eq_false (by omega)]; rfl
theorem j5u {g h : a0b} (hg : Small g.2.2.2.1) (hh : Small h.2.2.2.1) : a1m (g, h, ()) = some (i1s g h, ()) := by
 have hb : a1p (([g.1, g.2.1, g.2.2.1] : List Int), ([h.1, h.2.1, h.2.2.1] : List Int), ()) = some (g8p (c8x g) (c8x h), ()) := by
  have := b5o (c8x g) (c8x h)
  rw [c6d] at this
  cases hc : a1p (([g.1, g.2.1, g.2.2.1] : List Int), ([h.1, h.2.1, h.2.2.1] : List Int), ()) with
  | none => simp only [c8x] at this; rw [hc] at this; cases this
  | some r =>
   simp only [c8x] at this
   rw [hc] at this
   obtain ⟨r1, ⟨⟩⟩ := r
   simpa [c8x] using this
 rw [e9r, a6x, a6x]
 simp only [Option.bind_some]
 rw [hb]
 simp only [Option.bind_some]
 unfold i1s
 by_cases e : g8p (c8x g) (c8x h) = 0
 · rw [decide_eq_true e, if_pos e, b0b]
   have := j5h hg hh g.2.2.2.1.length 0 N (by omega) (by unfold Small at hg; have := b6u; omega) (by omega)
   simp only [Bool.not_true, cond_false]
   rw [show ((0 : Nat) : Int) = 0 from rfl] at this
   rw [this]
   simp
 · rw [decide_eq_false e, if_neg e]; rfl
theorem j8o {l l' : List a0a} (hl : Small l) (he : l.length = l'.length) : ∀ (d k m : Nat), l.length = k + d → d < m →
 a2f m l l' (l.length : Int) (k : Int) = some (decide (l.drop k = l'.drop k), ())
 | d, k, 0, _, h => by omega
 | d, k, m + 1, hk, hm => by
  have h1 := hl
  unfold Small at h1
  rw [c5f]
  by_cases hlt : k < l.length
  · have hlt' : k < l'.length := by omega
    rw [ltT hlt, a1j hlt, a1j hlt', b9l (t := a0e) hlt, b9l (t := a0e) hlt', j8i, drop_at l k hlt, drop_at l' k hlt']
    simp only [cond_true]
    by_cases e : l[k] = l'[k]
    · rw [decide_eq_true e, a5v k (by omega)]
      simp only [Bool.not_true, cond_false]
      rw [j8o hl he (d - 1) (k + 1) m (by omega) (by omega)]
      simp only [List.cons.injEq, e, true_and]
    · rw [decide_eq_false e, decide_eq_false (fun h => e (List.cons.inj h).1)]
      rfl
  · rw [ltF hlt, List.drop_eq_nil_of_le (show l.length ≤ k by omega), List.drop_eq_nil_of_le (show l'.length ≤ k by omega)]
    simp
theorem k0n {l l' : List a0a} (hl : Small l) : a2o (l, l', ()) = some (decide (l = l'), ()) := by
 rw [c9f]
 by_cases he : l.length = l'.length
 · rw [decide_eq_true (p := (l.length : Int) = (l'.length : Int)) (by omega)]
   have := j8o hl he l.length 0 N (by omega) (by unfold Small at hl; have := b6u; omega)
   simpa using this
 · rw [decide_eq_false (p := (l.length : Int) = (l'.length : Int)) (by omega), decide_eq_false (fun e => he (by rw [e]))]
   rfl
theorem j2g {g h : a0b} (hg : Small g.2.2.2.1) : b0h (g, h, ()) = some (e6r g h, ()) := by
 rw [i4t, a6x, a6x]
 simp only [Option.bind_some]
 have e : (decide (g.1 = h.1) && (decide (g.2.1 = h.2.1) && (decide (g.2.2.1 = h.2.2.1) && true))) = decide (c8x g = c8x h) := j8i (c8x g) (c8x h)
 rw [e]
 by_cases h' : c8x g = c8x h
 · rw [decide_eq_true h', k0n hg]
   simp only [cond_true, Option.bind_some]
   by_cases hc : g.2.2.2.1 = h.2.2.2.1
   · rw [decide_eq_true hc, f2i (h5u h' hc)]
   · rw [decide_eq_false hc, e2c (fun e => hc (by rw [e]))]
 · rw [decide_eq_false h', e2c (fun e => h' (by rw [e]))]
   rfl
end Go.VI
namespace Go.VI
def Le {α : Type} (x y : Option α) : Prop := ∀ r, x = some r → y = some r
theorem Le.rfl {α : Type} {x : Option α} : Le x x := fun _ h => h
theorem Le.none {α : Type} {x : Option α} : Le none x := fun _ h => by cases h
theorem Le.bind {α β : Type} {x y : Option α} {f g : α → Option β} (h : Le x y) (hf : ∀ a, Le (f a) (g a)) : Le (Option.bind x f) (Option.bind y g) := fun r hr => by
 cases x with
 | none => cases hr
 | some a => rw [h a _root_.rfl]; exact hf a r hr
theorem Le.cond {α : Type} {c : Bool} {x y x' y' : Option α} (h : Le x x') (h' : Le y y') : Le (bif c then x else y) (bif c then x' else y') := by
 cases c
 · exact h'
 · exact h
theorem i7r (k : Nat) (h : k ≤ 4194304) : k ≤ N := Nat.le_trans h b6u
end Go.VI
namespace Go.VI
open Go.Proofs
set_option maxRecDepth 100000
set_option maxHeartbeats 2000000
noncomputable section
def d7f : e8w := fun _ =>
 some (([(0, (1, (2, ()))), (0, (2, (1, ()))), (1, (0, (2, ()))), (1, (2, (0, ()))), (2, (0, (1, ()))), (2, (1, (0, ())))] : List a0a), ())
theorem h3r : ∀ x, Le (d7f x) (b3n x) := by
 have hK := i7r 200 (by decide)
 rintro ⟨⟨⟩⟩
 rw [show b3n () = _ from h6v ]
 show Le (
 some (([(0, (1, (2, ()))), (0, (2, (1, ()))), (1, (0, (2, ()))), (1, (2, (0, ()))), (2, (0, (1, ()))), (2, (1, (0, ())))] : List a0a), ())) _
 repeat first
 | with_reducible exact Le.rfl
 | with_reducible refine Le.bind ?_ (fun _ => ?_)
 | with_reducible refine Le.cond ?_ ?_
def a8b (_k_3 : (List a0c) → (List a0a) → (Int) → (Int) → Option (a1y a0h)) (k_7 : (Int) → (Int) → (Int) → (List a0c) → (Int) → (List a0a) → (Int) → (Int) → (Int) → Option (a1y a0h)) (m : Nat) : (Int) → (Int) → (Int) → (List a0c) → (Int) → (Int) → (List a0a) → (Int) → (Int) → (Int) → (Int) → (Int) → Option (a1y a0h) := Nat.rec (motive := fun _ => (Int) → (Int) → (Int) → (List a0c) → (Int) → (Int) → (List a0a) → (Int) → (Int) → (Int) → (Int) → (Int) → Option (a1y a0h)) (fun _ _ _ _ _ _ _ _ _ _ _ _ => none) (fun _ ih p0 p1 p2 p3 p4 p5 p6 p7 p8 p9 p10 p11 =>
 bif decide (p11 < p10) then
 bif inB p11 3 then
 bif inB p5 3 then
 bif decide ((bif decide (p11 = (0 : Int)) then p0 else (bif decide (p11 = (1 : Int)) then p1 else p2)) > (bif decide (p5 = (0 : Int)) then p0 else (bif decide (p5 = (1 : Int)) then p1 else p2))) then
 ih p0 p1 p2 p3 (IntKind.wrap .i64 (p4 + 1)) p5 p6 p7 p8 p9 p10 (IntKind.wrap .i64 (p11 + 1))
 else
 ih p0 p1 p2 p3 p4 p5 p6 p7 p8 p9 p10 (IntKind.wrap .i64 (p11 + 1))
 else none
 else none
 else
 k_7 p0 p1 p2 p3 p4 p6 p7 p8 (IntKind.wrap .i64 (p9 + 1))) m
theorem f6w (m0 m1 : Nat) (k_3 : (List a0c) → (List a0a) → (Int) → (Int) → Option (a1y a0h)) (k_7 : (Int) → (Int) → (Int) → (List a0c) → (Int) → (List a0a) → (Int) → (Int) → (Int) → Option (a1y a0h)) (_h_3 : ∀ (p0 : List a0c) (p1 : List a0a) (p2 p3 : Int), Le (k_3 p0 p1 p2 p3) (a3o m0 p0 p1 p2 p3)) (h_7 : ∀ (p0 p1 p2 : Int) (p3 : List a0c) (p4 : Int) (p5 : List a0a) (p6 p7 p8 : Int), Le (k_7 p0 p1 p2 p3 p4 p5 p6 p7 p8) (a6y m0 m1 p0 p1 p2 p3 p4 p5 p6 p7 p8)) : ∀ (m M : Nat), m ≤ M → ∀ (p0 p1 p2 : Int) (p3 : List a0c) (p4 p5 : Int) (p6 : List a0a) (p7 p8 : Int) (p9 p10 p11 : Int), Le (a8b k_3 k_7 m p0 p1 p2 p3 p4 p5 p6 p7 p8 p9 p10 p11) (a5s m0 m1 M p0 p1 p2 p3 p4 p5 p6 p7 p8 p9 p10 p11) := by
 intro m
 induction m with
 | zero => intro M _ p0 p1 p2 p3 p4 p5 p6 p7 p8 p9 p10 p11 ; exact Le.none
 | succ m ih =>
 intro M0 hM p0 p1 p2 p3 p4 p5 p6 p7 p8 p9 p10 p11
 obtain ⟨M, rfl⟩ : ∃ M, M0 = M + 1 := ⟨M0 - 1, by omega⟩
 have hMM : m ≤ M := by omega
 have hK := i7r 200 (by decide)
 rw [f4g]
 show Le (
 bif decide (p11 < p10) then
 bif inB p11 3 then
 bif inB p5 3 then
 bif decide ((bif decide (p11 = (0 : Int)) then p0 else (bif decide (p11 = (1 : Int)) then p1 else p2)) > (bif decide (p5 = (0 : Int)) then p0 else (bif decide (p5 = (1 : Int)) then p1 else p2))) then
 (a8b k_3 k_7 m) p0 p1 p2 p3 (IntKind.wrap .i64 (p4 + 1)) p5 p6 p7 p8 p9 p10 (IntKind.wrap .i64 (p11 + 1))
 else
 (a8b k_3 k_7 m) p0 p1 p2 p3 p4 p5 p6 p7 p8 p9 p10 (IntKind.wrap .i64 (p11 + 1))
 else none
 else none
 else
 k_7 p0 p1 p2 p3 p4 p6 p7 p8 (IntKind.wrap .i64 (p9 + 1))) _
 repeat first
 | with_reducible exact Le.rfl
 | with_reducible exact ih M hMM _ _ _ _ _ _ _ _ _ _ _ _
 | with_reducible exact h_7 _ _ _ _ _ _ _ _ _
 | with_reducible refine Le.bind ?_ (fun _ => ?_)
 | with_reducible refine Le.cond ?_ ?_
def a8o (k_3 : (List a0c) → (List a0a) → (Int) → (Int) → Option (a1y a0h)) (m : Nat) : (Int) → (Int) → (Int) → (List a0c) → (Int) → (List a0a) → (Int) → (Int) → (Int) → Option (a1y a0h) := Nat.rec (motive := fun _ => (Int) → (Int) → (Int) → (List a0c) → (Int) → (List a0a) → (Int) → (Int) → (Int) → Option (a1y a0h)) (fun _ _ _ _ _ _ _ _ _ => none) (fun _ ih p0 p1 p2 p3 p4 p5 p6 p7 p8 =>
 bif decide (p8 < 8) then
 bif decide ((Int.tmod (IntKind.wrap .i64 ((IntKind.wrap .i64 ((IntKind.wrap .i64 (p4 + (b9x .i64 p8 2))) + (intBits .and .i64 (b9x .i64 p8 1) 1))) + (intBits .and .i64 p8 1))) 2) = 0) then
 bif (decide (((List.length p3) + (List.length ([((p0, (p1, (p2, ()))), (((b9x .i64 p8 2), ((intBits .and .i64 (b9x .i64 p8 1) 1), ((intBits .and .i64 p8 1), ()))), ()))] : List a0c))) * 48 ≤ 140737488355328) && decide (((List.length p3) + (List.length ([((p0, (p1, (p2, ()))), (((b9x .i64 p8 2), ((intBits .and .i64 (b9x .i64 p8 1) 1), ((intBits .and .i64 p8 1), ()))), ()))] : List a0c))) ≤ 140737488355328)) then
 ih p0 p1 p2 (p3 ++ ([((p0, (p1, (p2, ()))), (((b9x .i64 p8 2), ((intBits .and .i64 (b9x .i64 p8 1) 1), ((intBits .and .i64 p8 1), ()))), ()))] : List a0c)) p4 p5 p6 p7 (IntKind.wrap .i64 (p8 + 1))
 else none
 else
 ih p0 p1 p2 p3 p4 p5 p6 p7 (IntKind.wrap .i64 (p8 + 1))
 else
 k_3 p3 p5 p6 (IntKind.wrap .i64 (p7 + 1))) m
theorem f4u (m0 : Nat) (k_3 : (List a0c) → (List a0a) → (Int) → (Int) → Option (a1y a0h)) (h_3 : ∀ (p0 : List a0c) (p1 : List a0a) (p2 p3 : Int), Le (k_3 p0 p1 p2 p3) (a3o m0 p0 p1 p2 p3)) : ∀ (m M : Nat), m ≤ M → ∀ (p0 p1 p2 : Int) (p3 : List a0c) (p4 : Int) (p5 : List a0a) (p6 p7 p8 : Int), Le (a8o k_3 m p0 p1 p2 p3 p4 p5 p6 p7 p8) (a5k m0 M p0 p1 p2 p3 p4 p5 p6 p7 p8) := by
 intro m
 induction m with
 | zero => intro M _ p0 p1 p2 p3 p4 p5 p6 p7 p8 ; exact Le.none
 | succ m ih =>
 intro M0 hM p0 p1 p2 p3 p4 p5 p6 p7 p8
 obtain ⟨M, rfl⟩ : ∃ M, M0 = M + 1 := ⟨M0 - 1, by omega⟩
 have hMM : m ≤ M := by omega
 have hK := i7r 200 (by decide)
 rw [f4k]
 show Le (
 bif decide (p8 < 8) then
 bif decide ((Int.tmod (IntKind.wrap .i64 ((IntKind.wrap .i64 ((IntKind.wrap .i64 (p4 + (b9x .i64 p8 2))) + (intBits .and .i64 (b9x .i64 p8 1) 1))) + (intBits .and .i64 p8 1))) 2) = 0) then
 bif (decide (((List.length p3) + (List.length ([((p0, (p1, (p2, ()))), (((b9x .i64 p8 2), ((intBits .and .i64 (b9x .i64 p8 1) 1), ((intBits .and .i64 p8 1), ()))), ()))] : List a0c))) * 48 ≤ 140737488355328) && decide (((List.length p3) + (List.length ([((p0, (p1, (p2, ()))), (((b9x .i64 p8 2), ((intBits .and .i64 (b9x .i64 p8 1) 1), ((intBits .and .i64 p8 1), ()))), ()))] : List a0c))) ≤ 140737488355328)) then
 (a8o k_3 m) p0 p1 p2 (p3 ++ ([((p0, (p1, (p2, ()))), (((b9x .i64 p8 2), ((intBits .and .i64 (b9x .i64 p8 1) 1), ((intBits .and .i64 p8 1), ()))), ()))] : List a0c)) p4 p5 p6 p7 (IntKind.wrap .i64 (p8 + 1))
 else none
 else
 (a8o k_3 m) p0 p1 p2 p3 p4 p5 p6 p7 (IntKind.wrap .i64 (p8 + 1))
 else
 k_3 p3 p5 p6 (IntKind.wrap .i64 (p7 + 1))) _
 repeat first
 | with_reducible exact Le.rfl
 | with_reducible exact ih M hMM _ _ _ _ _ _ _ _ _
 | with_reducible exact h_3 _ _ _ _
 | with_reducible refine Le.bind ?_ (fun _ => ?_)
 | with_reducible refine Le.cond ?_ ?_
def b3k (k_3 : (List a0c) → (List a0a) → (Int) → (Int) → Option (a1y a0h)) (m : Nat) : (Int) → (Int) → (Int) → (List a0c) → (Int) → (List a0a) → (Int) → (Int) → (Int) → Option (a1y a0h) := Nat.rec (motive := fun _ => (Int) → (Int) → (Int) → (List a0c) → (Int) → (List a0a) → (Int) → (Int) → (Int) → Option (a1y a0h)) (fun _ _ _ _ _ _ _ _ _ => none) (fun _ ih p0 p1 p2 p3 p4 p5 p6 p7 p8 =>
 bif decide (p8 < 3) then
 a8b k_3 ih 200 p0 p1 p2 p3 p4 p8 p5 p6 p7 p8 p8 0
 else
 a8o k_3 200 p0 p1 p2 p3 p4 p5 p6 p7 0) m
theorem f7l (m0 : Nat) (k_3 : (List a0c) → (List a0a) → (Int) → (Int) → Option (a1y a0h)) (h_3 : ∀ (p0 : List a0c) (p1 : List a0a) (p2 p3 : Int), Le (k_3 p0 p1 p2 p3) (a3o m0 p0 p1 p2 p3)) : ∀ (m M : Nat), m ≤ M → ∀ (p0 p1 p2 : Int) (p3 : List a0c) (p4 : Int) (p5 : List a0a) (p6 p7 p8 : Int), Le (b3k k_3 m p0 p1 p2 p3 p4 p5 p6 p7 p8) (a6y m0 M p0 p1 p2 p3 p4 p5 p6 p7 p8) := by
 intro m
 induction m with
 | zero => intro M _ p0 p1 p2 p3 p4 p5 p6 p7 p8 ; exact Le.none
 | succ m ih =>
 intro M0 hM p0 p1 p2 p3 p4 p5 p6 p7 p8
 obtain ⟨M, rfl⟩ : ∃ M, M0 = M + 1 := ⟨M0 - 1, by omega⟩
 have hMM : m ≤ M := by omega
 have hK := i7r 200 (by decide)
 rw [f8g]
 show Le (
 bif decide (p8 < 3) then
 a8b k_3 (b3k k_3 m) 200 p0 p1 p2 p3 p4 p8 p5 p6 p7 p8 p8 0
 else
 a8o k_3 200 p0 p1 p2 p3 p4 p5 p6 p7 0) _
 repeat first
 | with_reducible exact Le.rfl
 | with_reducible exact ih M hMM _ _ _ _ _ _ _ _ _
 | with_reducible exact h_3 _ _ _ _
 | with_reducible exact f6w _ _ _ _ h_3 (ih M hMM) 200 N hK _ _ _ _ _ _ _ _ _ _ _ _
 | with_reducible exact f4u _ _ h_3 200 N hK _ _ _ _ _ _ _ _ _
 | with_reducible refine Le.bind ?_ (fun _ => ?_)
 | with_reducible refine Le.cond ?_ ?_
def b3a  (m : Nat) : (List a0c) → (List a0a) → (Int) → (Int) → Option (a1y a0h) := Nat.rec (motive := fun _ => (List a0c) → (List a0a) → (Int) → (Int) → Option (a1y a0h)) (fun _ _ _ _ => none) (fun _ ih p0 p1 p2 p3 =>
 bif decide (p3 < p2) then
 bif inB p3 (List.length p1) then
 b3k ih 200 (((nth a0e p1 p3)).1) ((((nth a0e p1 p3)).2).1) (((((nth a0e p1 p3)).2).2).1) p0 0 p1 p2 p3 0
 else none
 else
 some (p0, ())) m
theorem f7c    : ∀ (m M : Nat), m ≤ M → ∀ (p0 : List a0c) (p1 : List a0a) (p2 p3 : Int), Le (b3a  m p0 p1 p2 p3) (a3o  M p0 p1 p2 p3) := by
 intro m
 induction m with
 | zero => intro M _ p0 p1 p2 p3 ; exact Le.none
 | succ m ih =>
 intro M0 hM p0 p1 p2 p3
 obtain ⟨M, rfl⟩ : ∃ M, M0 = M + 1 := ⟨M0 - 1, by omega⟩
 have hMM : m ≤ M := by omega
 have hK := i7r 200 (by decide)
 rw [f8k]
 show Le (
 bif decide (p3 < p2) then
 bif inB p3 (List.length p1) then
 b3k (b3a  m) 200 (((nth a0e p1 p3)).1) ((((nth a0e p1 p3)).2).1) (((((nth a0e p1 p3)).2).2).1) p0 0 p1 p2 p3 0
 else none
 else
 some (p0, ())) _
 repeat first
 | with_reducible exact Le.rfl
 | with_reducible exact ih M hMM _ _ _ _
 | with_reducible exact f7l _ _ (ih M hMM) 200 N hK _ _ _ _ _ _ _ _ _
 | with_reducible refine Le.bind ?_ (fun _ => ?_)
 | with_reducible refine Le.cond ?_ ?_
def g8i : d9l := fun _ =>
 Option.bind (d7f (())) fun r0 =>
 b3a 200 ([] : List a0c) r0.1 (List.length r0.1 : Int) 0
theorem g6l : ∀ x, Le (g8i x) (a2u x) := by
 have hK := i7r 200 (by decide)
 rintro ⟨⟨⟩⟩
 rw [show a2u () = _ from g5q ]
 show Le (
 Option.bind (d7f (())) fun r0 =>
 b3a 200 ([] : List a0c) r0.1 (List.length r0.1 : Int) 0) _
 repeat first
 | with_reducible exact Le.rfl
 | with_reducible exact f7c 200 N hK _ _ _ _
 | with_reducible exact h3r _
 | with_reducible refine Le.bind ?_ (fun _ => ?_)
 | with_reducible refine Le.cond ?_ ?_
def b4x (k_3 : (Int) → (Int) → (Int) → (Int) → (Int) → Option (a1y a3l)) (m : Nat) : (Int) → (Int) → (Int) → (Int) → (Int) → (Int) → Option (a1y a3l) := Nat.rec (motive := fun _ => (Int) → (Int) → (Int) → (Int) → (Int) → (Int) → Option (a1y a3l)) (fun _ _ _ _ _ _ => none) (fun _ ih p0 p1 p2 p3 p4 p5 =>
 bif decide (p5 < p4) then
 bif inB p5 3 then
 bif inB p4 3 then
 bif decide ((bif decide (p5 = (0 : Int)) then p0 else (bif decide (p5 = (1 : Int)) then p1 else p2)) > (bif decide (p4 = (0 : Int)) then p0 else (bif decide (p4 = (1 : Int)) then p1 else p2))) then
 ih p0 p1 p2 (IntKind.wrap .i64 (p3 + 1)) p4 (IntKind.wrap .i64 (p5 + 1))
 else
 ih p0 p1 p2 p3 p4 (IntKind.wrap .i64 (p5 + 1))
 else none
 else none
 else
 k_3 p0 p1 p2 p3 (IntKind.wrap .i64 (p4 + 1))) m
theorem g8q (m0 : Nat) (k_3 : (Int) → (Int) → (Int) → (Int) → (Int) → Option (a1y a3l)) (h_3 : ∀ (p0 p1 : Int) (p2 p3 p4 : Int), Le (k_3 p0 p1 p2 p3 p4) (b1o m0 p0 p1 p2 p3 p4)) : ∀ (m M : Nat), m ≤ M → ∀ (p0 p1 : Int) (p2 p3 : Int) (p4 p5 : Int), Le (b4x k_3 m p0 p1 p2 p3 p4 p5) (b1d m0 M p0 p1 p2 p3 p4 p5) := by
 intro m
 induction m with
 | zero => intro M _ p0 p1 p2 p3 p4 p5 ; exact Le.none
 | succ m ih =>
 intro M0 hM p0 p1 p2 p3 p4 p5
 obtain ⟨M, rfl⟩ : ∃ M, M0 = M + 1 := ⟨M0 - 1, by omega⟩
 have hMM : m ≤ M := by omega
 have hK := i7r 200 (by decide)
 rw [g9z]
 show Le (
 bif decide (p5 < p4) then
 bif inB p5 3 then
 bif inB p4 3 then
 bif decide ((bif decide (p5 = (0 : Int)) then p0 else (bif decide (p5 = (1 : Int)) then p1 else p2)) > (bif decide (p4 = (0 : Int)) then p0 else (bif decide (p4 = (1 : Int)) then p1 else p2))) then
 (b4x k_3 m) p0 p1 p2 (IntKind.wrap .i64 (p3 + 1)) p4 (IntKind.wrap .i64 (p5 + 1))
 else
 (b4x k_3 m) p0 p1 p2 p3 p4 (IntKind.wrap .i64 (p5 + 1))
 else none
 else none
 else
 k_3 p0 p1 p2 p3 (IntKind.wrap .i64 (p4 + 1))) _
 repeat first
 | with_reducible exact Le.rfl
 | with_reducible exact ih M hMM _ _ _ _ _ _
 | with_reducible exact h_3 _ _ _ _ _
 | with_reducible refine Le.bind ?_ (fun _ => ?_)
 | with_reducible refine Le.cond ?_ ?_
def c1v  (m : Nat) : (Int) → (Int) → (Int) → (Int) → (Int) → Option (a1y a3l) := Nat.rec (motive := fun _ => (Int) → (Int) → (Int) → (Int) → (Int) → Option (a1y a3l)) (fun _ _ _ _ _ => none) (fun _ ih p0 p1 p2 p3 p4 =>
 bif decide (p4 < 3) then
 b4x ih 200 p0 p1 p2 p3 p4 0
 else
 some ((Int.tmod p3 2), ())) m
theorem h0u    : ∀ (m M : Nat), m ≤ M → ∀ (p0 p1 : Int) (p2 p3 p4 : Int), Le (c1v  m p0 p1 p2 p3 p4) (b1o  M p0 p1 p2 p3 p4) := by
 intro m
 induction m with
 | zero => intro M _ p0 p1 p2 p3 p4 ; exact Le.none
 | succ m ih =>
 intro M0 hM p0 p1 p2 p3 p4
 obtain ⟨M, rfl⟩ : ∃ M, M0 = M + 1 := ⟨M0 - 1, by omega⟩
 have hMM : m ≤ M := by omega
 have hK := i7r 200 (by decide)
 rw [h0i]
 show Le (
 bif decide (p4 < 3) then
 b4x (c1v  m) 200 p0 p1 p2 p3 p4 0
 else
 some ((Int.tmod p3 2), ())) _
 repeat first
 | with_reducible exact Le.rfl
 | with_reducible exact ih M hMM _ _ _ _ _
 | with_reducible exact g8q _ _ (ih M hMM) 200 N hK _ _ _ _ _ _
 | with_reducible refine Le.bind ?_ (fun _ => ?_)
 | with_reducible refine Le.cond ?_ ?_
def e2q : f6a := fun x =>
 c1v 200 x.1.1 x.1.2.1 x.1.2.2.1 0 0
theorem i1a : ∀ x, Le (e2q x) (b6k x) := by
 have hK := i7r 200 (by decide)
 rintro ⟨a0, ⟨⟩⟩
 rw [show b6k (a0, ()) = _ from i1d a0]
 show Le (
 c1v 200 a0.1 a0.2.1 a0.2.2.1 0 0) _
 repeat first
 | with_reducible exact Le.rfl
 | with_reducible exact h0u 200 N hK _ _ _ _ _
 | with_reducible refine Le.bind ?_ (fun _ => ?_)
 | with_reducible refine Le.cond ?_ ?_
def b0w (_k_3 : (List a0c) → (Int) → Option (a1y a0w)) (k_6 : (List a0c) → (Int) → (Int) → Option (a1y a0w)) (m : Nat) : (List a0c) → (Int) → (Int) → (Int) → Option (a1y a0w) := Nat.rec (motive := fun _ => (List a0c) → (Int) → (Int) → (Int) → Option (a1y a0w)) (fun _ _ _ _ => none) (fun _ ih p0 p1 p2 p3 =>
 bif decide (p3 < 8) then
 bif !decide (p1 = p2) then
 Option.bind (e2q ((p1, (p2, ((IntKind.wrap .i64 ((IntKind.wrap .i64 (3 - p1)) - p2)), ()))), ())) fun r2 =>
 bif decide (r2.1 = (Int.tmod (IntKind.wrap .i64 ((IntKind.wrap .i64 ((intBits .and .i64 (b9x .i64 p3 2) 1) + (intBits .and .i64 (b9x .i64 p3 1) 1))) + (intBits .and .i64 p3 1))) 2)) then
 bif (decide (((List.length p0) + (List.length ([((p1, (p2, ((IntKind.wrap .i64 ((IntKind.wrap .i64 (3 - p1)) - p2)), ()))), (((intBits .and .i64 (b9x .i64 p3 2) 1), ((intBits .and .i64 (b9x .i64 p3 1) 1), ((intBits .and .i64 p3 1), ()))), ()))] : List a0c))) * 48 ≤ 140737488355328) && decide (((List.length p0) + (List.length ([((p1, (p2, ((IntKind.wrap .i64 ((IntKind.wrap .i64 (3 - p1)) - p2)), ()))), (((intBits .and .i64 (b9x .i64 p3 2) 1), ((intBits .and .i64 (b9x .i64 p3 1) 1), ((intBits .and .i64 p3 1), ()))), ()))] : List a0c))) ≤ 140737488355328)) then
 ih (p0 ++ ([((p1, (p2, ((IntKind.wrap .i64 ((IntKind.wrap .i64 (3 - p1)) - p2)), ()))), (((intBits .and .i64 (b9x .i64 p3 2) 1), ((intBits .and .i64 (b9x .i64 p3 1) 1), ((intBits .and .i64 p3 1), ()))), ()))] : List a0c)) p1 p2 (IntKind.wrap .i64 (p3 + 1))
 else none
 else
 ih p0 p1 p2 (IntKind.wrap .i64 (p3 + 1))
 else
 k_6 p0 p1 (IntKind.wrap .i64 (p2 + 1))
 else
 k_6 p0 p1 (IntKind.wrap .i64 (p2 + 1))) m
theorem g2o (m0 m1 : Nat) (k_3 : (List a0c) → (Int) → Option (a1y a0w)) (k_6 : (List a0c) → (Int) → (Int) → Option (a1y a0w)) (_h_3 : ∀ (p0 : List a0c) (p1 : Int), Le (k_3 p0 p1) (a6d m0 p0 p1)) (h_6 : ∀ (p0 : List a0c) (p1 p2 : Int), Le (k_6 p0 p1 p2) (a5w m0 m1 p0 p1 p2)) : ∀ (m M : Nat), m ≤ M → ∀ (p0 : List a0c) (p1 p2 p3 : Int), Le (b0w k_3 k_6 m p0 p1 p2 p3) (a7v m0 m1 M p0 p1 p2 p3) := by
 intro m
 induction m with
 | zero => intro M _ p0 p1 p2 p3 ; exact Le.none
 | succ m ih =>
 intro M0 hM p0 p1 p2 p3
 obtain ⟨M, rfl⟩ : ∃ M, M0 = M + 1 := ⟨M0 - 1, by omega⟩
 have hMM : m ≤ M := by omega
 have hK := i7r 200 (by decide)
 rw [g1x]
 show Le (
 bif decide (p3 < 8) then
 bif !decide (p1 = p2) then
 Option.bind (e2q ((p1, (p2, ((IntKind.wrap .i64 ((IntKind.wrap .i64 (3 - p1)) - p2)), ()))), ())) fun r2 =>
 bif decide (r2.1 = (Int.tmod (IntKind.wrap .i64 ((IntKind.wrap .i64 ((intBits .and .i64 (b9x .i64 p3 2) 1) + (intBits .and .i64 (b9x .i64 p3 1) 1))) + (intBits .and .i64 p3 1))) 2)) then
 bif (decide (((List.length p0) + (List.length ([((p1, (p2, ((IntKind.wrap .i64 ((IntKind.wrap .i64 (3 - p1)) - p2)), ()))), (((intBits .and .i64 (b9x .i64 p3 2) 1), ((intBits .and .i64 (b9x .i64 p3 1) 1), ((intBits .and .i64 p3 1), ()))), ()))] : List a0c))) * 48 ≤ 140737488355328) && decide (((List.length p0) + (List.length ([((p1, (p2, ((IntKind.wrap .i64 ((IntKind.wrap .i64 (3 - p1)) - p2)), ()))), (((intBits .and .i64 (b9x .i64 p3 2) 1), ((intBits .and .i64 (b9x .i64 p3 1) 1), ((intBits .and .i64 p3 1), ()))), ()))] : List a0c))) ≤ 140737488355328)) then
 (b0w k_3 k_6 m) (p0 ++ ([((p1, (p2, ((IntKind.wrap .i64 ((IntKind.wrap .i64 (3 - p1)) - p2)), ()))), (((intBits .and .i64 (b9x .i64 p3 2) 1), ((intBits .and .i64 (b9x .i64 p3 1) 1), ((intBits .and .i64 p3 1), ()))), ()))] : List a0c)) p1 p2 (IntKind.wrap .i64 (p3 + 1))
 else none
 else
 (b0w k_3 k_6 m) p0 p1 p2 (IntKind.wrap .i64 (p3 + 1))
 else
 k_6 p0 p1 (IntKind.wrap .i64 (p2 + 1))
 else
 k_6 p0 p1 (IntKind.wrap .i64 (p2 + 1))) _
 repeat first
 | with_reducible exact Le.rfl
 | with_reducible exact ih M hMM _ _ _ _
 | with_reducible exact h_6 _ _ _
 | with_reducible exact i1a _
 | with_reducible refine Le.bind ?_ (fun _ => ?_)
 | with_reducible refine Le.cond ?_ ?_
def b5d (k_3 : (List a0c) → (Int) → Option (a1y a0w)) (m : Nat) : (List a0c) → (Int) → (Int) → Option (a1y a0w) := Nat.rec (motive := fun _ => (List a0c) → (Int) → (Int) → Option (a1y a0w)) (fun _ _ _ => none) (fun _ ih p0 p1 p2 =>
 bif decide (p2 < 3) then
 b0w k_3 ih 200 p0 p1 p2 0
 else
 k_3 p0 (IntKind.wrap .i64 (p1 + 1))) m
theorem g2u (m0 : Nat) (k_3 : (List a0c) → (Int) → Option (a1y a0w)) (h_3 : ∀ (p0 : List a0c) (p1 : Int), Le (k_3 p0 p1) (a6d m0 p0 p1)) : ∀ (m M : Nat), m ≤ M → ∀ (p0 : List a0c) (p1 p2 : Int), Le (b5d k_3 m p0 p1 p2) (a5w m0 M p0 p1 p2) := by
 intro m
 induction m with
 | zero => intro M _ p0 p1 p2 ; exact Le.none
 | succ m ih =>
 intro M0 hM p0 p1 p2
 obtain ⟨M, rfl⟩ : ∃ M, M0 = M + 1 := ⟨M0 - 1, by omega⟩
 have hMM : m ≤ M := by omega
 have hK := i7r 200 (by decide)
 rw [g1r]
 show Le (
 bif decide (p2 < 3) then
 b0w k_3 (b5d k_3 m) 200 p0 p1 p2 0
 else
 k_3 p0 (IntKind.wrap .i64 (p1 + 1))) _
 repeat first
 | with_reducible exact Le.rfl
 | with_reducible exact ih M hMM _ _ _
 | with_reducible exact h_3 _ _
 | with_reducible exact g2o _ _ _ _ h_3 (ih M hMM) 200 N hK _ _ _ _
 | with_reducible refine Le.bind ?_ (fun _ => ?_)
 | with_reducible refine Le.cond ?_ ?_
def b5c  (m : Nat) : (List a0c) → (Int) → Option (a1y a0w) := Nat.rec (motive := fun _ => (List a0c) → (Int) → Option (a1y a0w)) (fun _ _ => none) (fun _ ih p0 p1 =>
 bif decide (p1 < 3) then
 b5d ih 200 p0 p1 0
 else
 some (p0, ())) m
theorem g2d    : ∀ (m M : Nat), m ≤ M → ∀ (p0 : List a0c) (p1 : Int), Le (b5c  m p0 p1) (a6d  M p0 p1) := by
 intro m
 induction m with
 | zero => intro M _ p0 p1 ; exact Le.none
 | succ m ih =>
 intro M0 hM p0 p1
 obtain ⟨M, rfl⟩ : ∃ M, M0 = M + 1 := ⟨M0 - 1, by omega⟩
 have hMM : m ≤ M := by omega
 have hK := i7r 200 (by decide)
 rw [g2x]
 show Le (
 bif decide (p1 < 3) then
 b5d (b5c  m) 200 p0 p1 0
 else
 some (p0, ())) _
 repeat first
 | with_reducible exact Le.rfl
 | with_reducible exact ih M hMM _ _
 | with_reducible exact g2u _ _ (ih M hMM) 200 N hK _ _ _
 | with_reducible refine Le.bind ?_ (fun _ => ?_)
 | with_reducible refine Le.cond ?_ ?_
def g8z : e3v := fun _ =>
 b5c 200 ([] : List a0c) 0
theorem h0s : ∀ x, Le (g8z x) (a6r x) := by
 have hK := i7r 200 (by decide)
 rintro ⟨⟨⟩⟩
 rw [show a6r () = _ from g9j ]
 show Le (
 b5c 200 ([] : List a0c) 0) _
 repeat first
 | with_reducible exact Le.rfl
 | with_reducible exact g2d 200 N hK _ _
 | with_reducible refine Le.bind ?_ (fun _ => ?_)
 | with_reducible refine Le.cond ?_ ?_
end
end Go.VI
namespace Go.VI
noncomputable section
open Go.RowKit
def j1z : Ty → Bool
 | .int _ | .bool | .str => true
 | _ => false
def k0d : (t : Ty) → t.den → Cell
 | .int k, n => .int k n
 | .bool, b => .bool b
 | .str, s => .str s
 | _, _ => .bool false
def j8j : (R : List (Bool × Ty)) → a1y R → List Cell
 | [], _ => []
 | p :: r, x => k0d p.2 x.1 :: j8j r x.2
def i8e (R : List (Bool × Ty)) : Bool := R.all fun p => !p.1 && j1z p.2
theorem h2e : ∀ (R : List (Bool × Ty)) (r : a1y R) (ms : List RMode), i8e R = true → d3m R r ms = (j8j R r).map fun c => (false, [RCell.flat c])
 | [], _, _, _ => rfl
 | (true, t) :: R, r, ms, h => by simp [i8e] at h
 | (false, t) :: R, r, ms, h => by
  have h' : j1z t = true ∧ i8e R = true := by simpa [i8e] using h
  have ih := h2e R r.2
  cases t <;> simp [j1z] at h' <;> simp [d3m, c2t, j8j, k0d, ih _ h']
end
end Go.VI
namespace Go.VI
open Go.RowKit
theorem Below.grown {B : Nat} {a w w' : World} {row : Option Nat} (h : Below B a w) (hg : GrownD w w' row) (hB : B ≤ w.heap.size) (hr : ∀ k, row = some k → B ≤ k) : Below B a w' :=
 h.trans ⟨hg.os, hg.tape, hg.output, hg.size, fun k hk => hg.block k (by omega) (fun e => by have := hr k e.symm; omega), hg.drawn⟩
theorem FCalls.calls {P : Program} {f : FuncId} {args : Array Value} {w : World} {R : Value → World → Prop} (he : (callFunc f args).run P w = .ok (.enter f args) w) (h : FCalls P f args w R) : Calls P f args w fun e w' => ∃ v, e = .returned v ∧ R v w' := by
 rcases h with ⟨v, w', h1, _⟩ | ⟨_, h2⟩
 · rw [he] at h1; simp at h1
 · exact h2
theorem Calls.fcalls {P : Program} {f : FuncId} {fn : Func} {c : Code} {args : Array Value} {w : World} {R : Value → World → Prop} (hf : P.funcs[f]? = some fn) (hb : fn.body = some c) (hn : (fn.name == "runtime.NumGoroutine") = false)
 (h : Calls P f args w fun e w' => ∃ v, e = .returned v ∧ R v w') : FCalls P f args w R := by
 have hn' : ¬ fn.name = "runtime.NumGoroutine" := by simpa using hn
 exact .inr ⟨by simp [callFunc, program, Sem.run, hf, hb, hn'], h⟩
theorem e1g {P : Program} {f : FuncId} {fn : Func} {c : Code} {args : Array Value} {w : World} (hf : P.funcs[f]? = some fn) (hb : fn.body = some c) (hn : (fn.name == "runtime.NumGoroutine") = false) : (callFunc f args).run P w = .ok (.enter f args) w := by
 have hn' : ¬ fn.name = "runtime.NumGoroutine" := by simpa using hn
 simp [callFunc, program, Sem.run, hf, hb, hn']
section
variable {P : Program} (w : World)
theorem d1c {o : Oper} {a : Act} {K : Act → World → Prop} {Q : Exit → Act → World → Prop} (s x : Operand) (t tx : TypeId)
 (ho : o.op = .call { callee := .builtin .append, args := #[s, x], argTypes := #[t, tx] })
 (base : Nat) (e : TypeId) (i : TypeInfo) (z : Value) (size bytes : Nat) (ht : P.underlying t = some (.slice e)) (hi : P.info? e = some i) (hz : i.zero = some z)
 (hsize : i.size = size) (hby : i.bytes = bytes) (hzs : z.cells.size = size)
 (v : Value) (n : Nat) (xs : List Value) (hs : a.eval s = v) (hown : w.ownsRow base e size v n xs)
 (xv : Value) (m : Nat) (news : List Value) (hx : a.eval x = xv) (hsrc : Go.Src P size tx xv m news w)
 (h63 : n + m ≤ maxLen) (hbytes : (n + m) * bytes ≤ 140737488355328) (hbase : base ≤ w.heap.size)
 (h : ∀ v' w', w'.ownsRow base e size v' (n + m) (xs ++ news) → GrownD w w' v.ownBlock → (v'.ownBlock = v.ownBlock ∨ v'.ownBlock = some w.heap.size) → K (a.put o.dst v') w') : o.wp P a w K Q := by
 obtain ⟨v', w', hr, h2, h3, h4⟩ := c9r (P := P) w base t tx o.type e i z size bytes ht hi hz hsize hby hzs v n xs hown xv m news hsrc h63 hbytes hbase
 unfold Oper.wp execOp
 simp only [ho, resolve, invoke, builtin, Sem.run_bind, Sem.run_pure, Result.andThen_ok, List.map_toArray, List.map_cons, List.map_nil, hs, hx, hr]
 exact h v' w' h2 h3 h4
theorem b1v {ops : Array Oper} {rest : List Oper} {o : Oper} {a : Act} {Q : Exit → Act → World → Prop} (hgd : o.guard = none) (s x : Operand) (t tx : TypeId)
 (ho : o.op = .call { callee := .builtin .append, args := #[s, x], argTypes := #[t, tx] })
 (base : Nat) (e : TypeId) (i : TypeInfo) (z : Value) (size bytes : Nat) (ht : P.underlying t = some (.slice e)) (hi : P.info? e = some i) (hz : i.zero = some z)
 (hsize : i.size = size) (hby : i.bytes = bytes) (hzs : z.cells.size = size)
 (v : Value) (n : Nat) (xs : List Value) (hs : a.eval s = v) (hown : w.ownsRow base e size v n xs)
 (xv : Value) (m : Nat) (news : List Value) (hx : a.eval x = xv) (hsrc : Go.Src P size tx xv m news w)
 (h63 : n + m ≤ maxLen) (hbytes : (n + m) * bytes ≤ 140737488355328) (hbase : base ≤ w.heap.size)
 (h : ∀ v' w', w'.ownsRow base e size v' (n + m) (xs ++ news) → GrownD w w' v.ownBlock → (v'.ownBlock = v.ownBlock ∨ v'.ownBlock = some w.heap.size) → wpList P ops Q rest (a.put o.dst v') w') : wpList P ops Q (o :: rest) a w :=
 wpList_plain hgd fun _ hK => d1c w s x t tx ho base e i z size bytes ht hi hz hsize hby hzs v n xs hs hown xv m news hx hsrc h63 hbytes hbase fun v' w' h2 h3 h4 => hK _ _ (h v' w' h2 h3 h4)
theorem g7a {ops : Array Oper} {o : Oper} {a : Act} {w : World} {K : Act → World → Prop} {Q : Exit → Act → World → Prop} {E : Prop} (hg : o.guard = none) (h : Oper.wp P o a w K Q) : if Region.wanted o (yielded ops a.tmps) = true then Oper.wp P o a w K Q else E := by
 have hw : Region.wanted o (yielded ops a.tmps) = true := by simp [Region.wanted, hg]
 rw [if_pos hw]
 exact h
theorem h6i {o : Oper} {a : Act} {w : World} {K : Act → World → Prop} {Q : Exit → Act → World → Prop} {f : FuncId} {args : Array Value} {R : Value → World → Prop} (hrun : (execOp a.eval o).run P w = (callFunc f args).run P w)
 (h : FCalls P f args w R) (hK : ∀ v w', R v w' → K (a.put o.dst v) w') : Oper.wp P o a w K Q := by
 unfold Oper.wp
 rw [hrun]
 rcases h with ⟨v, w', h1, h2⟩ | ⟨h1, h2⟩
 · rw [h1]; exact hK _ _ h2
 · rw [h1, Oper.upon_enter]
   refine h2.mono ?_
   rintro e w' ⟨v, rfl, hh⟩
   exact hK _ _ hh
theorem g8j {o : Oper} {a : Act} {w : World} {f : FuncId} {x : Operand} {tys : Array TypeId} (ho : o.op = .call { callee := .value (.func f), args := #[x], argTypes := tys }) : (execOp a.eval o).run P w = (callFunc f #[a.eval x]).run P w := by
 simp [execOp, ho, resolve, invoke, Deferred.ofValue, Act.eval]
end
end Go.VI
namespace Go.VI
open Go.RowKit
abbrev A3ty : Ty := .pair (.int .i64) (.pair (.int .i64) (.pair (.int .i64) .unit))
abbrev e1f : Ty := .pair (.int .i64) (.pair (.int .i64) (.pair (.int .i64) (.pair (.sl A3ty) .unit)))
abbrev DA3 : Type := Int × Int × Int × Unit
abbrev a0j : Type := Int × Int × Int × List DA3 × Unit
structure HE where
 x : Int
 y : Int
 z : Int
 cells : List DA3
 v : Value
def HE.heap (a : HE) : a0j := (a.x, a.y, a.z, a.cells, ())
def HE.enc (a : HE) : List Value := [.int .i64 a.x, .int .i64 a.y, .int .i64 a.z, a.v]
theorem HE.enc_len (a : HE) : a.enc.length = 4 := rfl
def encs (hs : List HE) : List Value := (hs.map HE.enc).flatten
theorem e6j (hs : List HE) : (encs hs).length = hs.length * 4 := by
 induction hs with
 | nil => rfl
 | cons a r ih => simp [encs, HE.enc] at ih ⊢; omega
theorem g8k (a b : List HE) : encs (a ++ b) = encs a ++ encs b := by simp [encs]
theorem h4p {hs : List HE} {i : Nat} {a : HE} (h : hs[i]? = some a) (j : Nat) (hj : j < 4) : (encs hs)[i * 4 + j]? = a.enc[j]? := by
 induction hs generalizing i with
 | nil => simp at h
 | cons b r ih =>
  have e : encs (b :: r) = b.enc ++ encs r := by simp [encs]
  rw [e]
  cases i with
  | zero =>
   obtain rfl : b = a := by simpa using h
   rw [List.getElem?_append_left (by rw [HE.enc_len]; omega)]
   simp
  | succ i =>
   rw [List.getElem?_append_right (by rw [HE.enc_len]; omega), HE.enc_len, show (i + 1) * 4 + j - 4 = i * 4 + j by omega]
   exact ih (by simpa using h)
structure DeepH (w : World) (B : Nat) (eo ei : TypeId) (v : Value) (hs : List HE) : Prop where
 outer : w.ownsRow B eo 4 v hs.length (encs hs)
 inner : ∀ (i : Nat) (a : HE), hs[i]? = some a → OwnV (fun _ => False) w B ei A3ty a.v a.cells
 apart : ∀ (i j : Nat) (a b : HE) (g : Nat), hs[i]? = some a → hs[j]? = some b → a.v.ownBlock = some g → b.v.ownBlock = some g → i = j
theorem f0m {w w' : World} {base : Nat} {e : TypeId} {size : Nat} {v : Value} {n : Nat} {xs : List Value} (h : w.ownsRow base e size v n xs) (hs : ∀ g, v.ownBlock = some g → w'.heap[g]? = w.heap[g]?) : w'.ownsRow base e size v n xs := by
 refine ⟨h.1, ?_⟩
 rcases h.2 with hn | ⟨g, cap, cur, rfl, hb, hg, rest⟩
 · exact .inl hn
 · exact .inr ⟨g, cap, cur, rfl, hb, by rw [hs g rfl]; exact hg, rest⟩
theorem j4y {Z : Nat → Prop} {w : World} {B : Nat} {e : TypeId} {t : Ty} {v : Value} {l : List t.den} (h : OwnV Z w B e t v l) {g : Nat} (hg : v.ownBlock = some g) : ∃ cur fz, w.heap[g]? = some (.cells cur e fz) := by
 obtain ⟨_, xs, ho, _⟩ := h
 rcases ho.2 with ⟨rfl, _⟩ | ⟨g', cap, cur, fz, rfl, hb, hgg, _⟩
 · simp [Value.ownBlock] at hg
 · simp [Value.ownBlock] at hg
   subst hg
   exact ⟨cur, fz, hgg⟩
theorem j5t {w : World} {base : Nat} {e : TypeId} {size : Nat} {v : Value} {n : Nat} {xs : List Value} (h : w.ownsRow base e size v n xs) {g : Nat} (hg : v.ownBlock = some g) : ∃ cur, w.heap[g]? = some (.cells cur e (0, 0)) := by
 rcases h.2 with ⟨rfl, _⟩ | ⟨g', cap, cur, rfl, _, hh, _⟩
 · simp [Value.ownBlock] at hg
 · simp [Value.ownBlock] at hg
   subst hg
   exact ⟨cur, hh⟩
theorem OwnV.rebaseH {Z : Nat → Prop} {w : World} {B B' : Nat} {e : TypeId} {t : Ty} {v : Value} {l : List t.den} (h : OwnV Z w B e t v l) (hB : ∀ g, v.ownBlock = some g → B' ≤ g) : OwnV Z w B' e t v l := by
 obtain ⟨h0, xs, ho, hr⟩ := h
 refine ⟨h0, xs, ⟨ho.1, ?_⟩, hr⟩
 rcases ho.2 with hn | ⟨g, cap, cur, fz, h1, h2, rest⟩
 · exact .inl hn
 · exact .inr ⟨g, cap, cur, fz, h1, hB g (by rw [h1]; rfl), rest⟩
theorem DeepH.same {w w' : World} {B : Nat} {eo ei : TypeId} {v : Value} {hs : List HE} (h : DeepH w B eo ei v hs) (hsm : ∀ g, B ≤ g → g < w.heap.size → w'.heap[g]? = w.heap[g]?) : DeepH w' B eo ei v hs := by
 refine ⟨f0m h.outer fun g hg => hsm g (h.outer.lt g hg).1 (h.outer.lt g hg).2, fun i a ha => ?_, h.apart⟩
 have hi := h.inner i a ha
 exact hi.mono (fun _ hz => hz) (fun _ hz => hz.elim) fun g hg => hsm g (hi.lt g hg).1 (hi.lt g hg).2
theorem DeepH.below {w w' : World} {B : Nat} {eo ei : TypeId} {v : Value} {hs : List HE} (h : DeepH w B eo ei v hs) (hb : Below w.heap.size w w') : DeepH w' B eo ei v hs :=
 h.same fun g _ hg => hb.block g hg
theorem DeepH.rebase {w : World} {B B' : Nat} {eo ei : TypeId} {v : Value} {hs : List HE} (h : DeepH w B eo ei v hs) (hB : B' ≤ B) : DeepH w B' eo ei v hs := by
 refine ⟨⟨h.outer.1, ?_⟩, fun i a ha => OwnV.rebaseH (h.inner i a ha) fun g hg => Nat.le_trans hB ((h.inner i a ha).lt g hg).1, h.apart⟩
 rcases h.outer.2 with hn | ⟨g, cap, cur, e, hb', hg, rest⟩
 · exact .inl hn
 · exact .inr ⟨g, cap, cur, e, Nat.le_trans hB hb', hg, rest⟩
theorem DeepH.nil {w : World} {B : Nat} {eo ei : TypeId} {v : Value} (h : w.ownsRow B eo 4 v 0 []) : DeepH w B eo ei v [] :=
 ⟨h, fun i a ha => by simp at ha, fun i j a b g ha => by simp at ha⟩
theorem DeepH.outer_ne {w : World} {B : Nat} {eo ei : TypeId} {v : Value} {hs : List HE} (h : DeepH w B eo ei v hs) (he : eo ≠ ei) {i : Nat} {a : HE} (ha : hs[i]? = some a) {g : Nat} (hg : a.v.ownBlock = some g) : v.ownBlock ≠ some g := by
 intro hv
 obtain ⟨c1, e1⟩ := j5t h.outer hv
 obtain ⟨c2, f2, e2⟩ := j4y (h.inner i a ha) hg
 rw [e1] at e2
 simp only [Option.some.injEq, Obj.cells.injEq] at e2
 exact he e2.2.1
theorem DeepH.push {w w1 w4 : World} {B : Nat} {eo ei : TypeId} {v : Value} {hs : List HE} (h : DeepH w B eo ei v hs) (he : eo ≠ ei) (hb1 : Below w.heap.size w w1) (hB : B ≤ w.heap.size) {a : HE} (hu : OwnV (fun _ => False) w1 w.heap.size ei A3ty a.v a.cells)
 {o : Obj} {v' : Value} (hv : w4.ownsRow B eo 4 v' (hs.length + 1) (encs hs ++ a.enc)) (hgr : GrownD (w1.alloc o) w4 v.ownBlock) : DeepH w4 B eo ei v' (hs ++ [a]) := by
 have s1 := hb1.size
 have same : ∀ g, g < w1.heap.size → v.ownBlock ≠ some g → w4.heap[g]? = w1.heap[g]? := fun g hg hn => by
  rw [hgr.block g (by show g < (w1.heap.push o).size; rw [Array.size_push]; omega) (fun e => hn e.symm), Below.heap_alloc _ _ _ hg]
 have split : ∀ (i : Nat) (b : HE), (hs ++ [a])[i]? = some b → (hs[i]? = some b ∧ i < hs.length) ∨ (b = a ∧ i = hs.length) := fun i b hb => by
  rcases Nat.lt_or_ge i hs.length with hi | hi
  · rw [List.getElem?_append_left hi] at hb
    exact .inl ⟨hb, hi⟩
  · rw [List.getElem?_append_right hi] at hb
    have e0 : i - hs.length = 0 := by
     rcases Nat.eq_zero_or_pos (i - hs.length) with h0 | h0
     · exact h0
     · rw [List.getElem?_eq_none (by simp; omega)] at hb; cases hb
    rw [e0] at hb
    exact .inr ⟨by simpa using hb.symm, by omega⟩
 refine ⟨by rw [List.length_append, g8k]; simpa [encs] using hv, fun i b hb => ?_, fun i j b c g hb hc gb gc => ?_⟩
 · rcases split i b hb with ⟨hb, _⟩ | ⟨rfl, _⟩
   · have hi := h.inner i b hb
     refine hi.mono (fun _ hz => hz) (fun _ hz => hz.elim) fun g hg => ?_
     have hl' := hi.lt g hg
     rw [same g (by omega) (h.outer_ne he hb hg), hb1.block g hl'.2]
   · refine OwnV.rebaseH (B := w.heap.size) (hu.mono (fun _ hz => hz) (fun _ hz => hz.elim) fun g hg => ?_) fun g hg => ?_
     · have hl' := hu.lt g hg
       refine same g hl'.2 fun e => ?_
       have := (h.outer.lt g e).2
       omega
     · have := (hu.lt g hg).1
       omega
 · rcases split i b hb with ⟨b1, b2⟩ | ⟨rfl, b2⟩ <;> rcases split j c hc with ⟨c1, c2⟩ | ⟨rfl, c2⟩
   · exact h.apart i j b c g b1 c1 gb gc
   · have := ((h.inner i b b1).lt g gb).2; have := (hu.lt g gc).1; omega
   · have := ((h.inner j c c1).lt g gc).2; have := (hu.lt g gb).1; omega
   · omega
theorem DeepH.perm {w w' : World} {B : Nat} {eo ei : TypeId} {v v' : Value} {hs hs' : List HE} (h : DeepH w B eo ei v hs) (hsub : ∃ f : Nat → Nat, (∀ i j, i < hs'.length → j < hs'.length → f i = f j → i = j) ∧ ∀ i a, hs'[i]? = some a → hs[f i]? = some a) (ho : w'.ownsRow B eo 4 v' hs'.length (encs hs'))
 (hin : ∀ (i : Nat) (a : HE) (g : Nat), hs[i]? = some a → a.v.ownBlock = some g → w'.heap[g]? = w.heap[g]?) : DeepH w' B eo ei v' hs' := by
 obtain ⟨f, f1, f2⟩ := hsub
 have lt : ∀ {i : Nat} {a : HE}, hs'[i]? = some a → i < hs'.length := fun {i a} ha => by
  rcases Nat.lt_or_ge i hs'.length with h' | h'
  · exact h'
  · rw [List.getElem?_eq_none h'] at ha; cases ha
 refine ⟨ho, fun i a ha => ?_, fun i j a b g ha hb ga gb => f1 i j (lt ha) (lt hb) (h.apart _ _ a b g (f2 i a ha) (f2 j b hb) ga gb)⟩
 have hi := h.inner _ a (f2 i a ha)
 exact hi.mono (fun _ hz => hz) (fun _ hz => hz.elim) fun g hg => hin _ a g (f2 i a ha) hg
def ZH (v : Value) (hs : List HE) (g : Nat) : Prop := v.ownBlock = some g ∨ ∃ a ∈ hs, a.v.ownBlock = some g
theorem ZH.lt {w : World} {B : Nat} {eo ei : TypeId} {v : Value} {hs : List HE} (h : DeepH w B eo ei v hs) : ∀ g, ZH v hs g → B ≤ g ∧ g < w.heap.size := by
 rintro g (hg | ⟨a, ha, hg⟩)
 · exact h.outer.lt g hg
 · obtain ⟨i, hi⟩ := List.mem_iff_getElem?.1 ha
   exact (h.inner i a hi).lt g hg
theorem f8o {Z : Nat → Prop} {w : World} {X Y Zz : Int} {l : List DA3} {lv : Value} (h : RepI Z w (.sl A3ty) l [lv]) : RepI Z w e1f (X, Y, Zz, l, ()) [.int .i64 X, .int .i64 Y, .int .i64 Zz, lv] :=
 ⟨[.int .i64 X], [.int .i64 Y, .int .i64 Zz, lv], rfl, rfl, [.int .i64 Y], [.int .i64 Zz, lv], rfl, rfl, [.int .i64 Zz], [lv], rfl, rfl, [lv], [], rfl, h, rfl⟩
end Go.VI
namespace Go.VI
open Go.RowKit
def hpV (h : a0j) (u : Value) : Value := .agg #[.int .i64 h.1, .int .i64 h.2.1, .int .i64 h.2.2.1, u]
theorem h9c {Z : Nat → Prop} {w : World} {B : Nat} {avs : List Value} {R : List (Bool × Ty)} {r : a1y R} {us : List Value} (hR : i8e R = true) (h : f3h Z w B avs (d3m R r []) us) : us = (j8j R r).map cellV := by
 rw [h2e R r [] hR] at h
 obtain ⟨f, h1, h2, _⟩ := h
 apply List.ext_getElem?
 intro i
 rw [List.getElem?_map]
 cases hc : (j8j R r)[i]? with
 | none =>
  rw [List.getElem?_eq_none]
  · rfl
  · have := List.getElem?_eq_none_iff.1 hc
    rw [h1, List.length_map]; exact this
 | some c =>
  obtain ⟨g1, _, g3⟩ := h2 i (false, [RCell.flat c]) (by rw [List.getElem?_map, hc]; rfl)
  have := (g3 0 _ rfl).2
  rw [g1]
  simp only [List.length_cons, List.length_nil, Nat.zero_add, List.range_one, List.map_cons, List.map_nil, a3a, List.headD_cons, Option.map_some]
  rw [this]
section
variable {P : Program} {G : World → Prop} {f : FuncId} {fn : Func} {c : Code} {As : List ATy} {Z : Nat → Prop} {w : World} {xs : c4b As} {vs : List Value}
theorem c8u {R : List (Bool × Ty)} {F : c4b As → Option (a1y R)} (hs : Sound P G f ⟨As, R, [], F⟩) (hR : i8e R = true)
 (hf : P.funcs[f]? = some fn) (hb : fn.body = some c) (hn : (fn.name == "runtime.NumGoroutine") = false) {r : a1y R} (hG : G w) (hZ : ∀ g, Z g → g < w.heap.size) (hrel : RelArgs P G Z w As xs vs) (hF : F xs = some r) :
 Calls P f vs.toArray w fun e w' => e = .returned (e6n ((j8j R r).map cellV)) ∧ Below w.heap.size w w' := by
 refine (FCalls.calls (e1g hf hb hn) (hs w Z vs xs r hG hZ hrel hF)).mono ?_
 rintro e w' ⟨v, rfl, Z', us, rfl, hbel, _, _, hres⟩
 rw [h9c hR hres]
 exact ⟨rfl, hbel⟩
theorem i6z {t : Ty} {e : TypeId} {F : c4b As → Option (a1y [(false, .sl t)])} (hs : Sound P G f ⟨As, [(false, .sl t)], [.own e], F⟩) (ht : leads t = false)
 (hf : P.funcs[f]? = some fn) (hb : fn.body = some c) (hn : (fn.name == "runtime.NumGoroutine") = false) {r : a1y [(false, Ty.sl t)]} (hG : G w) (hZ : ∀ g, Z g → g < w.heap.size) (hrel : RelArgs P G Z w As xs vs) (hF : F xs = some r) :
 Calls P f vs.toArray w fun e' w' => ∃ v, e' = .returned v ∧ Below w.heap.size w w' ∧ OwnV (fun _ => False) w' w.heap.size e t v r.1 := by
 refine (FCalls.calls (e1g hf hb hn) (hs w Z vs xs r hG hZ hrel hF)).mono ?_
 rintro e' w' ⟨v, rfl, Z', us, rfl, hbel, _, _, g, h1, h2, h3⟩
 have hr : (d3m [(false, Ty.sl t)] r [RMode.own e])[0]? = some (false, [RCell.own e t r.1]) := rfl
 obtain ⟨k1, _, k3⟩ := h2 0 _ hr
 have hv := (k3 0 _ rfl).1
 have hus : us = [g 0 0] := by
  match us, h1, k1 with
  | [u], _, k1 =>
   have : u = a3a false ((List.range 1).map (g 0)) := by simpa using k1
   rw [this]; rfl
  | [], h1, _ => cases h1
  | _ :: _ :: _, h1, _ => cases h1
 subst hus
 exact ⟨g 0 0, rfl, hbel, hv.flat ht⟩
theorem g5y {e : TypeId} {F : c4b As → Option (a1y [(true, e1f)])} (hs : Sound P G f ⟨As, [(true, e1f)], [.own e], F⟩)
 (hf : P.funcs[f]? = some fn) (hb : fn.body = some c) (hn : (fn.name == "runtime.NumGoroutine") = false) {r : a0j} (hG : G w) (hZ : ∀ g, Z g → g < w.heap.size) (hrel : RelArgs P G Z w As xs vs) (hF : F xs = some (r, ())) :
 Calls P f vs.toArray w fun e' w' => ∃ u, e' = .returned (hpV r u) ∧ Below w.heap.size w w' ∧ OwnV (fun _ => False) w' w.heap.size e A3ty u r.2.2.2.1 := by
 refine (FCalls.calls (e1g hf hb hn) (hs w Z vs xs (r, ()) hG hZ hrel hF)).mono ?_
 rintro e' w' ⟨v, rfl, Z', us, rfl, hbel, _, _, g, h1, h2, _⟩
 obtain ⟨k1, _, k3⟩ := h2 0 (true, [RCell.flat (.int .i64 r.1), RCell.flat (.int .i64 r.2.1), RCell.flat (.int .i64 r.2.2.1), RCell.own e A3ty r.2.2.2.1]) rfl
 have a0 := (k3 0 _ rfl).2
 have a1 := (k3 1 _ rfl).2
 have a2 := (k3 2 _ rfl).2
 have a3 := (k3 3 _ rfl).1
 match us, h1, k1 with
 | [u], _, k1 =>
  have : u = a3a true ((List.range 4).map (g 0)) := by simpa using k1
  refine ⟨g 0 3, ?_, hbel, a3.flat rfl⟩
  rw [this]
  show Ending.returned (.agg #[g 0 0, g 0 1, g 0 2, g 0 3]) = _
  rw [a0, a1, a2]
  rfl
 | [], h1, _ => cases h1
 | _ :: _ :: _, h1, _ => cases h1
theorem h8t {e : TypeId} {F : c4b As → Option (a1y [(true, e1f), (false, .bool)])} (hs : Sound P G f ⟨As, [(true, e1f), (false, .bool)], [.own e], F⟩)
 (hf : P.funcs[f]? = some fn) (hb : fn.body = some c) (hn : (fn.name == "runtime.NumGoroutine") = false) {r : a0j} {b : Bool} (hG : G w) (hZ : ∀ g, Z g → g < w.heap.size) (hrel : RelArgs P G Z w As xs vs) (hF : F xs = some (r, b, ())) :
 Calls P f vs.toArray w fun e' w' => ∃ u, e' = .returned (.tuple #[hpV r u, .bool b]) ∧ Below w.heap.size w w' ∧ OwnV (fun _ => False) w' w.heap.size e A3ty u r.2.2.2.1 := by
 refine (FCalls.calls (e1g hf hb hn) (hs w Z vs xs (r, b, ()) hG hZ hrel hF)).mono ?_
 rintro e' w' ⟨v, rfl, Z', us, rfl, hbel, _, _, g, h1, h2, _⟩
 obtain ⟨k1, _, k3⟩ := h2 0 (true, [RCell.flat (.int .i64 r.1), RCell.flat (.int .i64 r.2.1), RCell.flat (.int .i64 r.2.2.1), RCell.own e A3ty r.2.2.2.1]) rfl
 obtain ⟨m1, _, m3⟩ := h2 1 (false, [RCell.flat (.bool b)]) rfl
 have a0 := (k3 0 _ rfl).2
 have a1 := (k3 1 _ rfl).2
 have a2 := (k3 2 _ rfl).2
 have a3 := (k3 3 _ rfl).1
 have b0 := (m3 0 _ rfl).2
 match us, h1, k1, m1 with
 | [u, y], _, k1, m1 =>
  have : u = a3a true ((List.range 4).map (g 0)) := by simpa using k1
  have hy : y = a3a false ((List.range 1).map (g 1)) := by simpa using m1
  refine ⟨g 0 3, ?_, hbel, a3.flat rfl⟩
  rw [this, hy]
  show Ending.returned (.tuple #[.agg #[g 0 0, g 0 1, g 0 2, g 0 3], g 1 0]) = _
  rw [a0, a1, a2, b0]
  rfl
 | [], h1, _, _ => cases h1
 | [_], h1, _, _ => cases h1
 | _ :: _ :: _ :: _, h1, _, _ => cases h1
end
end Go.VI
namespace Go.VI
open Go.Proofs Go.RowKit
set_option maxRecDepth 100000
theorem alloc_at (w : World) (o : Obj) : (w.alloc o).heap[w.heap.size]? = some o := heap_alloc_new w o
theorem a1a (w : World) (o : Obj) : (w.alloc o).heap.size = w.heap.size + 1 := Array.size_push _
theorem a5t (w : World) (o : Obj) : Below w.heap.size w (w.alloc o) := (Below.refl w.heap.size w).alloc (Nat.le_refl _) o
theorem a0r {w w1 w2 : World} (h1 : Below w.heap.size w w1) (h2 : Below w1.heap.size w1 w2) : Below w.heap.size w w2 :=
 ⟨h2.os.trans h1.os, h2.tape.trans h1.tape, h2.output.trans h1.output, Nat.le_trans h1.size h2.size, fun g hg => (h2.block g (Nat.lt_of_lt_of_le hg h1.size)).trans (h1.block g hg), Nat.le_trans h1.drawn h2.drawn⟩
theorem b6f {w W : World} (h : Below w.heap.size w W) (o : Obj) : Below w.heap.size w (W.alloc o) := a0r h (a5t W o)
theorem h3f {w W : World} (h : Below w.heap.size w W) : Below w.heap.size w W.drew := h.drew
theorem b7i {w : World} {b : Nat} {x : Obj} (h : w.heap[b]? = some x) (o : Obj) : (w.alloc o).heap[b]? = some x := by
 rw [Below.heap_alloc _ _ _ (lt_of_block h)]; exact h
theorem a0m {w w' : World} {b : Nat} {x : Obj} (h : w.heap[b]? = some x) (hb : Below w.heap.size w w') : w'.heap[b]? = some x := (hb.block b (lt_of_block h)).trans h
theorem e3s {w : World} {b t : Nat} {a0 a1 a2 a3 : Value} (h : w.heap[b]? = some (.cells #[a0, a1, a2, a3] t (0, 0))) :
 (w.cell? ⟨b, 0, none⟩ = some a0 ∧ w.cell? ⟨b, 1, none⟩ = some a1 ∧ w.cell? ⟨b, 2, none⟩ = some a2 ∧ w.cell? ⟨b, 3, none⟩ = some a3) := by
 refine ⟨?_, ?_, ?_, ?_⟩ <;> simp [World.cell?, h]
theorem i8j {w : World} {b t : Nat} {a0 a1 a2 a3 : Value} (h : w.heap[b]? = some (.cells #[a0, a1, a2, a3] t (0, 0))) :
 (∀ o, (w.alloc o).cell? ⟨b, 0, none⟩ = some a0) ∧ (∀ o, (w.alloc o).cell? ⟨b, 1, none⟩ = some a1) ∧ (∀ o, (w.alloc o).cell? ⟨b, 2, none⟩ = some a2) ∧ (∀ o, (w.alloc o).cell? ⟨b, 3, none⟩ = some a3) :=
 ⟨fun o => (e3s (b7i h o)).1, fun o => (e3s (b7i h o)).2.1, fun o => (e3s (b7i h o)).2.2.1, fun o => (e3s (b7i h o)).2.2.2⟩
theorem OwnV.slice1 {Z : Nat → Prop} {w : World} {B : Nat} {e : TypeId} {t : Ty} {v : Value} {l : List t.den} (h : OwnV Z w B e t v l) : ∃ a c, v = .slice a l.length c := by
 obtain ⟨_, xs, ho, _⟩ := h
 rcases ho.2 with ⟨rfl, h0⟩ | ⟨g, c, cur, fz, rfl, _⟩
 · exact ⟨none, 0, by rw [h0]⟩
 · exact ⟨_, _, rfl⟩
theorem b3d {w w' : World} {B : Nat} {e : TypeId} {t : Ty} {v : Value} {l : List t.den} (h : OwnV (fun _ => False) w B e t v l) (hb : Below w.heap.size w w') : OwnV (fun _ => False) w' B e t v l :=
 h.mono (fun _ hz => hz) (fun _ hz => hz.elim) fun g hg => hb.block g (h.lt g hg).2
theorem h4x (w : World) (n : Nat) (hn : w.heap.size = n) (a0 a1 a2 a3 : Value) (h0 : a0.oneCell' = true) (h1 : a1.oneCell' = true) (h2 : a2.oneCell' = true) (h3 : a3.oneCell' = true) :
 Go.Src Tryz.prog 4 26 (.slice (some ⟨n, 0, none⟩) 1 1) 1 [a0, a1, a2, a3] (w.alloc (.cells #[a0, a1, a2, a3] 29)) := by
 subst hn
 have hb := e3s (alloc_at w (.cells #[a0, a1, a2, a3] 29))
 refine Go.Src.ofSlice _ Tryz.underlying26 _ 1 1 [a0, a1, a2, a3] rfl (fun j u hu => ?_) (fun u hu => ?_)
 · rw [Addr.add_lit, Nat.zero_add]
   match j, hu with
   | 0, hu => obtain rfl := Option.some.inj hu; exact hb.1
   | 1, hu => obtain rfl := Option.some.inj hu; exact hb.2.1
   | 2, hu => obtain rfl := Option.some.inj hu; exact hb.2.2.1
   | 3, hu => obtain rfl := Option.some.inj hu; exact hb.2.2.2
 · simp only [List.mem_cons, List.not_mem_nil, or_false] at hu
   rcases hu with rfl | rfl | rfl | rfl <;> assumption
theorem h8u : (Tryz.prog.info? 29).map (fun i => (i.zero, i.size, i.bytes)) = some (some (.agg #[.int .i64 0, .int .i64 0, .int .i64 0, .slice none 0 0]), 4, 48) := by kernel_rfl
structure ArgH (Z : Nat → Prop) (w : World) (h : a0j) (lv : Value) : Prop where
 zone : ∀ g, Z g → g < w.heap.size
 cells : RepI Z w (.sl A3ty) h.2.2.2.1 [lv]
theorem ArgH.at {Z : Nat → Prop} {w W : World} {h : a0j} {lv : Value} (a : ArgH Z w h lv) (hb : Below w.heap.size w W) : ArgH Z W h lv :=
 ⟨fun g hg => Nat.lt_of_lt_of_le (a.zone g hg) hb.size, RepI.mono (fun _ hz => hz) (fun g hg => hb.block g (a.zone g hg)) _ _ _ a.cells⟩
theorem ArgH.arg {Z : Nat → Prop} {w : World} {h : a0j} {lv : Value} (a : ArgH Z w h lv) : RepI Z w e1f h [.int .i64 h.1, .int .i64 h.2.1, .int .i64 h.2.2.1, lv] := f8o a.cells
theorem ArgH.own {w : World} {B : Nat} {e : TypeId} {h : a0j} {u : Value} (o : OwnV (fun _ => False) w B e A3ty u h.2.2.2.1) : ArgH (fun g => u.ownBlock = some g) w h u :=
 ⟨fun g hg => (o.lt g hg).2, o.reads _ (fun _ hz => hz.elim) fun _ hg => hg⟩
theorem i3y {Z : Nat → Prop} {w : World} (a b c : Int) : RepI Z w A3ty (a, b, c, ()) [.int .i64 a, .int .i64 b, .int .i64 c] :=
 ⟨[.int .i64 a], [.int .i64 b, .int .i64 c], rfl, rfl, [.int .i64 b], [.int .i64 c], rfl, rfl, [.int .i64 c], [], rfl, rfl, rfl⟩
theorem j7e {Z : Nat → Prop} {w : World} (a b c d e f : Int) : RepI Z w a1h ((a, b, c, ()), (d, e, f, ()), ()) [.int .i64 a, .int .i64 b, .int .i64 c, .int .i64 d, .int .i64 e, .int .i64 f] :=
 ⟨[.int .i64 a, .int .i64 b, .int .i64 c], [.int .i64 d, .int .i64 e, .int .i64 f], rfl, i3y a b c, [.int .i64 d, .int .i64 e, .int .i64 f], [], rfl, i3y d e f, rfl⟩
def j6p (t : a0c) : Value := .agg #[.int .i64 t.1.1, .int .i64 t.1.2.1, .int .i64 t.1.2.2.1, .int .i64 t.2.1.1, .int .i64 t.2.1.2.1, .int .i64 t.2.1.2.2.1]
theorem k1s {Z : Nat → Prop} {W : World} {h g : a0j} {lv : Value} {t : a0c} (a0 : ArgH Z W h lv) (hF : a4v (t, h, ()) = some (g, ())) :
 Calls Tryz.prog 84 #[j6p t, hpV h lv] W fun e' w' => ∃ u, e' = .returned (hpV g u) ∧ Below W.heap.size W w' ∧ OwnV (fun _ => False) w' W.heap.size 55 A3ty u g.2.2.2.1 :=
 g5y (fn := Tryz.f84) h9f Tryz.func84 rfl (by kernel_rfl) trivial a0.zone (xs := (t, h, ())) (vs := [j6p t, hpV h lv])
  ⟨_, _, rfl, (fun h => by cases h), j7e t.1.1 t.1.2.1 t.1.2.2.1 t.2.1.1 t.2.1.2.1 t.2.1.2.2.1, _, _, rfl, (fun h => by cases h), a0.arg, rfl⟩ hF
theorem j5m {Z : Nat → Prop} {W : World} {h g : a0j} {lv : Value} {b : Bool} (a0 : ArgH Z W h lv) (hF : a2j (h, ()) = some (g, b, ())) :
 Calls Tryz.prog 36 #[hpV h lv] W fun e' w' => ∃ u, e' = .returned (.tuple #[hpV g u, .bool b]) ∧ Below W.heap.size W w' ∧ OwnV (fun _ => False) w' W.heap.size 55 A3ty u g.2.2.2.1 :=
 h8t (fn := Tryz.f36) g6r Tryz.func36 rfl (by kernel_rfl) trivial a0.zone (xs := (h, ())) (vs := [hpV h lv]) ⟨_, _, rfl, (fun h => by cases h), a0.arg, rfl⟩ hF
theorem i8s {W : World} {L : List a0c} (hF : a2u () = some (L, ())) : Calls Tryz.prog 83 #[] W fun e' w' => ∃ v, e' = .returned v ∧ Below W.heap.size W w' ∧ OwnV (fun _ => False) w' W.heap.size 101 a1h v L :=
 i6z (fn := Tryz.f83) g7l rfl Tryz.func83 rfl (by kernel_rfl) (Z := fun _ => False) trivial (fun _ h => h.elim) (xs := ()) (vs := []) rfl hF
end Go.VI
namespace Go.VI
open Go.Proofs Go.RowKit
set_option maxRecDepth 100000
theorem i7v {w : World} {B : Nat} {A : Option Addr} {c : Nat} {L : List a0c} (h : OwnV (fun _ => False) w B 101 a1h (.slice A L.length c) L) {i : Nat} {t : a0c} (hi : L[i]? = some t) : ∃ g, A = some ⟨g, 0, none⟩ ∧
 w.cell? ⟨g, i * 6, none⟩ = some (.int .i64 t.1.1) ∧ w.cell? ⟨g, i * 6 + 1, none⟩ = some (.int .i64 t.1.2.1) ∧ w.cell? ⟨g, i * 6 + 2, none⟩ = some (.int .i64 t.1.2.2.1) ∧
 w.cell? ⟨g, i * 6 + 3, none⟩ = some (.int .i64 t.2.1.1) ∧ w.cell? ⟨g, i * 6 + 4, none⟩ = some (.int .i64 t.2.1.2.1) ∧ w.cell? ⟨g, i * 6 + 5, none⟩ = some (.int .i64 t.2.1.2.2.1) := by
 have hr : RepI (fun _ => True) w (.sl a1h) L [.slice A L.length c] := h.reads _ (fun _ h => h.elim) fun _ _ => trivial
 obtain ⟨_, xs, ho, _⟩ := h
 rcases ho.2 with ⟨e, h0⟩ | ⟨g, cap, cur, fz, e, _⟩
 · have : L = [] := List.length_eq_zero_iff.1 h0
   subst this
   simp at hi
 · obtain ⟨rfl, _⟩ : A = some ⟨g, 0, none⟩ ∧ c = cap := by simpa using e
   obtain ⟨A', c', e', _, h1⟩ := hr
   obtain ⟨rfl, _⟩ : some (⟨g, 0, none⟩ : Addr) = A' ∧ c = c' := by simpa using e'
   obtain ⟨a, ha, _, ys, hy, hc⟩ := h1 i t hi
   obtain rfl := Option.some.inj ha
   obtain ⟨p1, p2, rfl, ⟨y1, y2, rfl, rfl, y3, y4, rfl, rfl, y5, y6, rfl, rfl, rfl⟩, p3, p4, rfl, ⟨y7, y8, rfl, rfl, y9, y10, rfl, rfl, y11, y12, rfl, rfl, rfl⟩, rfl⟩ := hy
   have e0 := hc 0 _ rfl
   have e1 := hc 1 _ rfl
   have e2 := hc 2 _ rfl
   have e3 := hc 3 _ rfl
   have e4 := hc 4 _ rfl
   have e5 := hc 5 _ rfl
   rw [Addr.add_lit, Nat.zero_add] at e0 e1 e2 e3 e4 e5
   exact ⟨g, rfl, e0, e1, e2, e3, e4, e5⟩
structure LoopH (w wr : World) (hd : a0j) (lv : Value) (A : Option Addr) (c : Nat) (L : List a0c) (v : Value) (hs : List HE) : Prop where
 below : Below w.heap.size w wr
 deep : DeepH wr (w.heap.size + 1) 29 55 v hs
 box : wr.heap[w.heap.size]? = some (.cells #[.int .i64 hd.1, .int .i64 hd.2.1, .int .i64 hd.2.2.1, lv] 29)
 turns : OwnV (fun _ => False) wr w.heap.size 101 a1h (.slice A L.length c) L
theorem LoopH.call {w wr w4 : World} {hd : a0j} {lv : Value} {A : Option Addr} {c : Nat} {L : List a0c} {v : Value} {hs : List HE} (h : LoopH w wr hd lv A c L v hs) (hb : Below wr.heap.size wr w4) : LoopH w w4 hd lv A c L v hs :=
 ⟨a0r h.below hb, h.deep.below hb, a0m h.box hb, h.turns.mono (fun _ hz => hz) (fun _ hz => hz.elim) fun g hg => hb.block g (h.turns.lt g hg).2⟩
theorem LoopH.push {w wr w3 w6 : World} {hd : a0j} {lv : Value} {A : Option Addr} {c : Nat} {L : List a0c} {v v' : Value} {hs : List HE} {a : HE} {o : Obj} (h : LoopH w wr hd lv A c L v hs) (hb : Below wr.heap.size wr w3)
 (hu : OwnV (fun _ => False) w3 wr.heap.size 55 A3ty a.v a.cells) (hv : w6.ownsRow (w.heap.size + 1) 29 4 v' (hs.length + 1) (encs hs ++ a.enc)) (hgr : GrownD (w3.alloc o) w6 v.ownBlock) : LoopH w w6 hd lv A c L v' (hs ++ [a]) := by
 have s0 := lt_of_block h.box
 have s1 := h.below.size
 have s3 := hb.size
 have sa := a1a w3 o
 have hB := a0r h.below hb
 have keep : ∀ g, g < w3.heap.size → v.ownBlock ≠ some g → w6.heap[g]? = w3.heap[g]? := fun g hg hn => by
  rw [hgr.block g (by omega) (fun e => hn e.symm), Below.heap_alloc _ _ _ hg]
 have ol := h.deep.outer
 refine ⟨(hB.alloc (by omega) o).grown hgr (by omega) fun j hj => by have := (ol.lt j hj).1; omega, h.deep.push (by decide) hb (by omega) hu hv hgr, ?_, ?_⟩
 · rw [keep _ (by omega) fun e => by have := (ol.lt _ e).1; omega]
   exact a0m h.box hb
 · refine h.turns.mono (fun _ hz => hz) (fun _ hz => hz.elim) fun g hg => ?_
   have ht := h.turns.lt g hg
   rw [keep g (by omega) fun e => ?_, hb.block g ht.2]
   obtain ⟨c1, e1⟩ := j5t ol e
   obtain ⟨c2, f2, e2⟩ := j4y h.turns hg
   rw [e1] at e2
   simp at e2
set_option maxHeartbeats 2000000 in
theorem i0q {Z : Nat → Prop} {W : World} {h : a0j} {lv : Value} (a0 : ArgH Z W h lv) {L : List a0c} (hT : a2u () = some (L, ())) (hL : L.length ≤ 1000) (gf cf : Nat → a0j) (bf : Nat → Bool)
 (hof : ∀ i t, L[i]? = some t → a4v (t, h, ()) = some (gf i, ()) ∧ a2j (gf i, ()) = some (cf i, bf i, ())) :
 Calls Tryz.prog 37 #[hpV h lv] W fun e w' => ∃ v hs, e = .returned v ∧ Below W.heap.size W w' ∧ DeepH w' W.heap.size 29 55 v hs ∧ hs.map HE.heap = (List.range L.length).map cf := by
 have e0 := a5t W (.cells #[.int .i64 h.1, .int .i64 h.2.1, .int .i64 h.2.2.1, lv] 29)
 have hB0 := alloc_at W (.cells #[.int .i64 h.1, .int .i64 h.2.1, .int .i64 h.2.2.1, lv] 29)
 have sA := a1a W (.cells #[.int .i64 h.1, .int .i64 h.2.1, .int .i64 h.2.2.1, lv] 29)
 have htc : ∀ V, Calls Tryz.prog 83 #[] V fun e' w' => ∃ v, e' = .returned v ∧ Below V.heap.size V w' ∧ OwnV (fun _ => False) w' V.heap.size 101 a1h v L := fun V => i8s hT
 have hpost : ∀ (w3 : World) (v : Value), Below ((W.alloc (.cells #[.int .i64 h.1, .int .i64 h.2.1, .int .i64 h.2.2.1, lv] 29)).alloc (.cells #[] 29)).heap.size ((W.alloc (.cells #[.int .i64 h.1, .int .i64 h.2.1, .int .i64 h.2.2.1, lv] 29)).alloc (.cells #[] 29)) w3 →
  OwnV (fun _ => False) w3 ((W.alloc (.cells #[.int .i64 h.1, .int .i64 h.2.1, .int .i64 h.2.2.1, lv] 29)).alloc (.cells #[] 29)).heap.size 101 a1h v L →
  ∃ A c, v = .slice A L.length c ∧ LoopH W w3 h lv A c L (.slice (some ⟨W.heap.size + 1, 0, none⟩) 0 0) [] := fun w3 v hb hv => by
  obtain ⟨A, c, rfl⟩ := hv.slice1
  have sB := a1a (W.alloc (.cells #[.int .i64 h.1, .int .i64 h.2.1, .int .i64 h.2.2.1, lv] 29)) (.cells #[] 29)
  refine ⟨A, c, rfl, a0r (b6f e0 _) hb, DeepH.nil ⟨rfl, .inr ⟨W.heap.size + 1, 0, #[], rfl, Nat.le_refl _, ?_, Nat.le_refl _, by decide, rfl, rfl⟩⟩, ?_, OwnV.rebaseH hv fun g hg => by have := (hv.lt g hg).1; omega⟩
  · have := alloc_at (W.alloc (.cells #[.int .i64 h.1, .int .i64 h.2.1, .int .i64 h.2.2.1, lv] 29)) (.cells #[] 29)
    rw [sA] at this
    exact a0m this hb
  · exact a0m (b7i hB0 _) hb
 unfold hpV at *
 go_enter Tryz.func37, Tryz.ntmps37
 go_wp2_with (go_at_call 83; refine (htc _).mono ?_; rintro e w3 ⟨v, rfl, hb3, hv3⟩; obtain ⟨A, c, rfl, hl0⟩ := hpost w3 v hb3 hv3; clear hv3 hb3)
 go_loopg [3, 11] (L.length + 1) (fun m v3 v11 wr => ∃ (i : Nat) (hs : List HE), i ≤ L.length ∧ m = L.length + 1 - i ∧ v11 = .int .i64 i ∧ LoopH W wr h lv A c L v3 hs ∧ hs.map HE.heap = (List.range i).map cf)
 case atStart => exact ⟨0, [], Nat.zero_le _, rfl, rfl, hl0, rfl⟩
 case round =>
  obtain ⟨i, hs, hi, rfl, rfl, hl, hm⟩ := hrel
  clear hl0 htc hpost
  have hlen : hs.length = i := by have := congrArg List.length hm; simpa using this
  by_cases hin : i < L.length
  · obtain ⟨t, ht⟩ : ∃ t, L[i]? = some t := ⟨L[i], List.getElem?_eq_getElem hin⟩
    obtain ⟨q1, q2⟩ := hof i t ht
    obtain ⟨gl, rfl, c0, c1, c2, c3, c4, c5⟩ := i7v hl.turns ht
    obtain ⟨k0, k1, k2, k3⟩ := i8j hl.box
    have hlt : (i : Int) < (L.length : Int) := by omega
    have hcall := fun o => k1s (W := wr.alloc o) (a0.at (b6f hl.below o)) q1
    obtain ⟨i0, hi0, hz0, hz1, hz2⟩ := info_parts h8u
    unfold j6p hpV at hcall
    clear ht hof
    go_wp2_with (first
     | (go_at_call 84; refine (hcall _).mono ?_; rintro e w2 ⟨u, rfl, hb2, hu⟩; have hcr := j5m (ArgH.own hu) q2; unfold hpV at hcr)
     | (go_at_call 36; refine hcr.mono ?_; rintro e w3 ⟨u3, rfl, hb3, hu3⟩; obtain ⟨ua, uc, rfl⟩ := hu3.slice1; have hB3 := fun o => b6f (a0r (a0r (a5t wr _) hb2) hb3) o; have ho3 := fun o o2 => ((hl.call (hB3 o)).deep.outer.alloc o2))
     | (at_builtin; refine b1v _ rfl _ _ 26 26 rfl (W.heap.size + 1) 29 i0 (.agg #[.int .i64 0, .int .i64 0, .int .i64 0, .slice none 0 0]) 4 48 Tryz.underlying26 hi0 hz0 hz1 hz2 rfl _ hs.length (encs hs) rfl (ho3 _ _) (.slice (some ⟨_, 0, none⟩) 1 1) 1 [.int .i64 (cf i).1, .int .i64 (cf i).2.1, .int .i64 (cf i).2.2.1, .slice ua (cf i).2.2.2.1.length uc] rfl (h4x _ _ (a1a _ _) _ _ _ _ rfl rfl rfl rfl) ?_ ?_ ?_ ?_; rotate_left; rotate_left; rotate_left; intro v' w6 hv' hgr' hp'))
    · have hu4 := OwnV.rebaseH (B' := wr.heap.size) (b3d hu3 (a5t w3 (.cells #[.int .i64 (cf i).1, .int .i64 (cf i).2.1, .int .i64 (cf i).2.2.1, .slice ua (cf i).2.2.2.1.length uc] 29))) fun g hg => by have := (hu3.lt g hg).1; have := hb2.size; rw [a1a] at this; omega
      have hp := hl.push (a := ⟨(cf i).1, (cf i).2.1, (cf i).2.2.1, (cf i).2.2.2.1, _⟩) (hB3 _) hu4 hv' hgr'
      go_roundg (L.length + 1 - (i + 1))
      case measure => omega
      case rel => exact ⟨i + 1, hs ++ [⟨(cf i).1, (cf i).2.1, (cf i).2.2.1, (cf i).2.2.2.1, _⟩], by omega, rfl, by go_num, hp, by simp [hm, List.range_succ, HE.heap]⟩
    · unfold maxLen; omega
    · omega
    · have := hl.below.size; have := (hB3 (.cells #[] 0)).size; have := lt_of_block hl.box; rw [a1a] at *; rw [a1a]; omega
  · obtain rfl : i = L.length := by omega
    have hlt : ¬ ((L.length : Int) < (L.length : Int)) := by omega
    go_wp2
    go_ret
    exact ⟨_, rfl, hl.below, hs, hl.deep.rebase (by omega), hm⟩
end Go.VI
namespace Go.VI
open Go.Proofs Go.RowKit
set_option maxRecDepth 100000
theorem j8q {Z : Nat → Prop} {W : World} {g h : a0j} {gv hv : Value} {n : Int} (hz : ∀ g, Z g → g < W.heap.size) (a : RepI Z W (.sl A3ty) g.2.2.2.1 [gv]) (b : RepI Z W (.sl A3ty) h.2.2.2.1 [hv]) (hF : a1m (g, h, ()) = some (n, ())) :
 Calls Tryz.prog 89 #[hpV g gv, hpV h hv] W fun e' w' => e' = .returned (.int .i64 n) ∧ Below W.heap.size W w' :=
 c8u (fn := Tryz.f89) (r := (n, ())) f1u rfl Tryz.func89 rfl (by kernel_rfl) trivial hz (xs := (g, h, ())) (vs := [hpV g gv, hpV h hv]) ⟨_, _, rfl, (fun h => by cases h), f8o a, _, _, rfl, (fun h => by cases h), f8o b, rfl⟩ hF
def i1p (cf : a0j → a0j → Int) (hs : List HE) (a : HE) : HE := hs.foldl (fun m b => if cf b.heap m.heap < 0 then b else m) a
theorem h1m (cf : a0j → a0j → Int) (hs : List HE) (a0 : HE) (i : Nat) (a : HE) (h : hs[i]? = some a) : i1p cf (hs.take (i + 1)) a0 = if cf a.heap (i1p cf (hs.take i) a0).heap < 0 then a else i1p cf (hs.take i) a0 := by
 have hi : i < hs.length := by
  rcases Nat.lt_or_ge i hs.length with h' | h'
  · exact h'
  · rw [List.getElem?_eq_none h'] at h; cases h
 rw [List.take_succ_eq_append_getElem hi]
 have : hs[i] = a := by rw [List.getElem?_eq_getElem hi] at h; exact Option.some.inj h
 rw [this]
 unfold i1p
 rw [List.foldl_append]
 rfl
theorem e6k {w : World} {B : Nat} {v : Value} {hs : List HE} (h : DeepH w B 29 55 v hs) {i : Nat} {a : HE} (ha : hs[i]? = some a) : ∃ g c, v = .slice (some ⟨g, 0, none⟩) hs.length c ∧
 w.cell? ⟨g, i * 4, none⟩ = some (.int .i64 a.x) ∧ w.cell? ⟨g, i * 4 + 1, none⟩ = some (.int .i64 a.y) ∧ w.cell? ⟨g, i * 4 + 2, none⟩ = some (.int .i64 a.z) ∧ w.cell? ⟨g, i * 4 + 3, none⟩ = some a.v := by
 rcases h.outer.2 with ⟨_, h0⟩ | ⟨g, c, cur, rfl, _⟩
 · have : hs = [] := List.length_eq_zero_iff.1 h0
   subst this
   simp at ha
 · have hc := h.outer.cells (g := g) rfl
   have e : ∀ j (hj : j < 4) u, a.enc[j]? = some u → w.cell? ⟨g, i * 4 + j, none⟩ = some u := fun j hj u hu => by
    have := hc (i * 4 + j) u (by rw [h4p ha j hj]; exact hu)
    rw [Addr.add_lit, Nat.zero_add] at this
    exact this
   exact ⟨g, c, rfl, e 0 (by decide) _ rfl, e 1 (by decide) _ rfl, e 2 (by decide) _ rfl, e 3 (by decide) _ rfl⟩
theorem j6d {w : World} {b t : Nat} {a0 a1 a2 a3 : Value} (h : w.heap[b]? = some (.cells #[a0, a1, a2, a3] t (0, 0))) :
 w.frozen? ⟨b, 0, none⟩ = false ∧ w.frozen? ⟨b, 1, none⟩ = false ∧ w.frozen? ⟨b, 2, none⟩ = false ∧ w.frozen? ⟨b, 3, none⟩ = false := by
 refine ⟨?_, ?_, ?_, ?_⟩ <;> simp [World.frozen?, h]
theorem set1 {w : World} {b t : Nat} {cur : Array Value} {fz : Nat × Nat} (h : w.heap[b]? = some (.cells cur t fz)) (j : Nat) (v : Value) : (w.setCell ⟨b, j, none⟩ v).heap[b]? = some (.cells (cur.setIfInBounds j v) t fz) := by
 have hlt := lt_of_block h
 have h' : w.heap[b] = .cells cur t fz := by simpa [Array.getElem?_eq_getElem hlt] using h
 show (w.heap.modify b _)[b]? = _
 rw [Array.getElem?_eq_getElem (by simpa using hlt), Array.getElem_modify_self, h']
 rfl
theorem k0v {w : World} {b t : Nat} {a0 a1 a2 a3 : Value} (h : w.heap[b]? = some (.cells #[a0, a1, a2, a3] t (0, 0))) (v0 v1 v2 v3 : Value) :
 ((((w.setCell ⟨b, 0, none⟩ v0).setCell ⟨b, 1, none⟩ v1).setCell ⟨b, 2, none⟩ v2).setCell ⟨b, 3, none⟩ v3).heap[b]? = some (.cells #[v0, v1, v2, v3] t (0, 0)) := by
 exact set1 (set1 (set1 (set1 h 0 v0) 1 v1) 2 v2) 3 v3
theorem f7v {w : World} {b g : Nat} (hg : g ≠ b) (v0 v1 v2 v3 : Value) :
 ((((w.setCell ⟨b, 0, none⟩ v0).setCell ⟨b, 1, none⟩ v1).setCell ⟨b, 2, none⟩ v2).setCell ⟨b, 3, none⟩ v3).heap[g]? = w.heap[g]? := by
 rw [Below.heap_setCell _ _ _ _ hg, Below.heap_setCell _ _ _ _ hg, Below.heap_setCell _ _ _ _ hg, Below.heap_setCell _ _ _ _ hg]
theorem f7y {w0 w : World} {b : Nat} (h : Below w0.heap.size w0 w) (hb : w0.heap.size ≤ b) (v0 v1 v2 v3 : Value) :
 Below w0.heap.size w0 ((((w.setCell ⟨b, 0, none⟩ v0).setCell ⟨b, 1, none⟩ v1).setCell ⟨b, 2, none⟩ v2).setCell ⟨b, 3, none⟩ v3) :=
 ⟨h.os, h.tape, h.output, by simpa using h.size, fun g hg => by rw [f7v (by omega)]; exact h.block g hg, h.drawn⟩
structure LoopM (W wr : World) (v : Value) (hs : List HE) (a : HE) : Prop where
 below : Below W.heap.size W wr
 size : W.heap.size + 2 ≤ wr.heap.size
 best : wr.heap[W.heap.size + 1]? = some (.cells #[.int .i64 a.x, .int .i64 a.y, .int .i64 a.z, a.v] 29)
 res : wr.heap[W.heap.size]? = some (.cells #[.int .i64 0, .int .i64 0, .int .i64 0, .slice none 0 0] 29)
theorem LoopM.call {W wr w' : World} {v : Value} {hs : List HE} {a : HE} (h : LoopM W wr v hs a) (hb : Below wr.heap.size wr w') : LoopM W w' v hs a :=
 ⟨a0r h.below hb, Nat.le_trans h.size hb.size, a0m h.best hb, a0m h.res hb⟩
theorem LoopM.drew {W wr : World} {v : Value} {hs : List HE} {a : HE} (h : LoopM W wr v hs a) : LoopM W wr.drew v hs a := ⟨h.below.drew, h.size, h.best, h.res⟩
set_option maxHeartbeats 2000000 in
theorem j1w {W : World} {B : Nat} {v : Value} {hs : List HE} {a0 : HE} (h : DeepH W B 29 55 v hs) (h0 : hs[0]? = some a0) (hn : hs.length ≤ 1000) (cf : a0j → a0j → Int) (hcf : ∀ a ∈ hs, ∀ b ∈ hs, a1m (a.heap, b.heap, ()) = some (cf a.heap b.heap, ())) :
 Calls Tryz.prog 88 #[v, .func (.func 89) #[] #[]] W fun e w' => ∃ a ∈ hs, a = i1p cf (hs.drop 1) a0 ∧ e = .returned (.agg #[.int .i64 a.x, .int .i64 a.y, .int .i64 a.z, a.v]) ∧ Below W.heap.size W w' := by
 have hpos : 0 < hs.length := by
  rcases Nat.eq_zero_or_pos hs.length with h' | h'
  · rw [List.length_eq_zero_iff.1 h'] at h0; simp at h0
  · exact h'
 obtain ⟨g, c, rfl, c0, c1, c2, c3⟩ := e6k h h0
 have hg := h.outer.lt g rfl
 have hgc : ∀ i a, hs[i]? = some a → W.cell? ⟨g, i * 4, none⟩ = some (.int .i64 a.x) ∧ W.cell? ⟨g, i * 4 + 1, none⟩ = some (.int .i64 a.y) ∧ W.cell? ⟨g, i * 4 + 2, none⟩ = some (.int .i64 a.z) ∧ W.cell? ⟨g, i * 4 + 3, none⟩ = some a.v := fun i a ha => by
  obtain ⟨g', c', e, r⟩ := e6k h ha
  obtain ⟨rfl, _⟩ : g = g' ∧ c = c' := by simpa using e
  exact r
 have hone : ∀ a ∈ hs, a.v.oneCell' = true := fun a ha => by
  obtain ⟨i, hi⟩ := List.mem_iff_getElem?.1 ha
  obtain ⟨x, y, e⟩ := (h.inner i a hi).slice1
  rw [e]; rfl
 rw [Nat.zero_mul] at c0 c1 c2 c3
 rw [Nat.zero_add] at c1 c2 c3
 have hlt1 : ¬ ((hs.length : Int) < 1) := by omega
 obtain ⟨xa, xl, xc, hav⟩ : ∃ xa xl xc, a0.v = .slice xa xl xc := by
  obtain ⟨x, y, e⟩ := (h.inner 0 a0 h0).slice1
  exact ⟨x, _, y, e⟩
 rw [hav] at c3
 have k : ∀ o, (W.alloc o).cell? ⟨g, 0, none⟩ = some (.int .i64 a0.x) ∧ (W.alloc o).cell? ⟨g, 1, none⟩ = some (.int .i64 a0.y) ∧ (W.alloc o).cell? ⟨g, 2, none⟩ = some (.int .i64 a0.z) ∧ (W.alloc o).cell? ⟨g, 3, none⟩ = some (.slice xa xl xc) := fun o => by
  have e : (W.alloc o).heap[g]? = W.heap[g]? := Below.heap_alloc _ _ _ hg.2
  refine ⟨?_, ?_, ?_, ?_⟩ <;> rw [World.cell?_of_block (w := W) e] <;> assumption
 have k0 := fun o => (k o).1
 have k1 := fun o => (k o).2.1
 have k2 := fun o => (k o).2.2.1
 have k3 := fun o => (k o).2.2.2
 clear k
 go_enter Tryz.func88, Tryz.ntmps88
 go_wp2
 have hl0 : LoopM W ((W.alloc (.cells #[.int .i64 0, .int .i64 0, .int .i64 0, .slice none 0 0] 29)).alloc (.cells #[.int .i64 a0.x, .int .i64 a0.y, .int .i64 a0.z, .slice xa xl xc] 29)) (.slice (some ⟨g, 0, none⟩) hs.length c) hs a0 := by
  have sA := a1a W (.cells #[.int .i64 0, .int .i64 0, .int .i64 0, .slice none 0 0] 29)
  have q := alloc_at (W.alloc (.cells #[.int .i64 0, .int .i64 0, .int .i64 0, .slice none 0 0] 29)) (.cells #[.int .i64 a0.x, .int .i64 a0.y, .int .i64 a0.z, .slice xa xl xc] 29)
  rw [sA, ← hav] at q
  refine ⟨b6f (a5t W _) _, ?_, ?_, b7i (alloc_at W _) _⟩
  · rw [a1a, sA]; exact Nat.le_refl _
  · rw [← hav]; exact q
 have hmem0 : a0 ∈ hs := List.mem_of_getElem? h0
 clear k0 k1 k2 k3 c0 c1 c2 c3
 go_loopg [6] hs.length (fun m v6 wr => ∃ (i : Nat) (a : HE), 1 ≤ i ∧ i ≤ hs.length ∧ m = hs.length + 1 - i ∧ v6 = .int .i64 i ∧ LoopM W wr (.slice (some ⟨g, 0, none⟩) hs.length c) hs a ∧ a ∈ hs ∧ i1p cf ((hs.drop 1).take (i - 1)) a0 = a)
 case atStart => exact ⟨1, a0, Nat.le_refl _, by omega, by omega, rfl, hl0, hmem0, rfl⟩
 case round =>
  obtain ⟨i, a, hi1, hi, rfl, rfl, hl, hma, ha⟩ := hrel
  clear hl0
  by_cases hin : i < hs.length
  · obtain ⟨b, hb⟩ : ∃ b, hs[i]? = some b := ⟨hs[i], List.getElem?_eq_getElem hin⟩
    have hmb : b ∈ hs := List.mem_of_getElem? hb
    have hlt : (i : Int) < (hs.length : Int) := by omega
    obtain ⟨x0, x1, x2, x3⟩ := hgc i b hb
    have hgw : wr.heap[g]? = W.heap[g]? := hl.below.block g hg.2
    rw [← World.cell?_of_block (w := W) (w' := wr) hgw] at x0 x1 x2 x3
    obtain ⟨y0, y1, y2, y3⟩ := e3s hl.best
    have hcall : ∀ V, LoopM W V (.slice (some ⟨g, 0, none⟩) hs.length c) hs a → Calls Tryz.prog 89 #[.agg #[.int .i64 b.x, .int .i64 b.y, .int .i64 b.z, b.v], .agg #[.int .i64 a.x, .int .i64 a.y, .int .i64 a.z, a.v]] V fun e' w' => e' = .returned (.int .i64 (cf b.heap a.heap)) ∧ LoopM W w' (.slice (some ⟨g, 0, none⟩) hs.length c) hs a := fun V hV => by
     obtain ⟨j, hj⟩ := List.mem_iff_getElem?.1 hma
     have dV := h.below hV.below
     refine (j8q (Z := ZH (.slice (some ⟨g, 0, none⟩) hs.length c) hs) (fun q hq => (ZH.lt dV q hq).2) ((dV.inner i b hb).reads _ (fun _ hz => hz.elim) fun q hq => .inr ⟨b, hmb, hq⟩) ((dV.inner j a hj).reads _ (fun _ hz => hz.elim) fun q hq => .inr ⟨a, hma, hq⟩) (hcf b hmb a hma)).mono ?_
     rintro e w2 ⟨rfl, hb2⟩
     exact ⟨rfl, hV.call hb2⟩
    obtain ⟨n, hn'⟩ : ∃ n, cf b.heap a.heap = n := ⟨_, rfl⟩
    rw [hn'] at hcall
    go_wp2
    go_cut [27] from 20 to 27 (fun v27 wc => v27 = .bool (decide (n < 0)) ∧ LoopM W wc (.slice (some ⟨g, 0, none⟩) hs.length c) hs a)
    case first =>
     go_region_with (go_at_call 89; refine (hcall _ (by (repeat (first | exact hl | apply LoopM.drew)))).mono ?_; rintro e w2 ⟨rfl, hl2⟩)
     all_goals (go_wp2_with fail; go_meet; exact ⟨rfl, hl2⟩)
    case rest =>
     obtain ⟨rfl, hl2⟩ := hcut
     clear x0 x1 x2 x3 y0 y1 y2 y3 hcall
     obtain ⟨x0, x1, x2, x3⟩ := hgc i b hb
     have hgw2 : wc.heap[g]? = W.heap[g]? := hl2.below.block g hg.2
     rw [← World.cell?_of_block (w := W) (w' := wc) hgw2] at x0 x1 x2 x3
     obtain ⟨y0, y1, y2, y3⟩ := e3s hl2.best
     obtain ⟨ba, bl, bc, hbv⟩ : ∃ ba bl bc, b.v = .slice ba bl bc := by
      obtain ⟨x, y, e⟩ := (h.inner i b hb).slice1
      exact ⟨x, _, y, e⟩
     rw [hbv] at x3
     obtain ⟨f0, f1, f2, f3⟩ := j6d hl2.best
     go_wp2
     · have hlt0 : n < 0 := by omega
       go_roundg (hs.length + 1 - (i + 1))
       case measure => omega
       case rel =>
        refine ⟨i + 1, b, by omega, by omega, rfl, by go_num, ⟨f7y hl2.below (by omega) _ _ _ _, by simpa using hl2.size, by rw [hbv]; exact k0v hl2.best _ _ _ _, by rw [f7v (by omega)]; exact hl2.res⟩, hmb, ?_⟩
        rw [show i + 1 - 1 = (i - 1) + 1 by omega, h1m cf (hs.drop 1) a0 (i - 1) b (by rw [List.getElem?_drop]; rw [show 1 + (i - 1) = i by omega]; exact hb), ha, hn', if_pos hlt0]
     · have hlt0 : ¬ n < 0 := by omega
       go_roundg (hs.length + 1 - (i + 1))
       case measure => omega
       case rel =>
        refine ⟨i + 1, a, by omega, by omega, rfl, by go_num, hl2, hma, ?_⟩
        rw [show i + 1 - 1 = (i - 1) + 1 by omega, h1m cf (hs.drop 1) a0 (i - 1) b (by rw [List.getElem?_drop]; rw [show 1 + (i - 1) = i by omega]; exact hb), ha, hn', if_neg hlt0]
  · obtain rfl : i = hs.length := by omega
    have hlt : ¬ ((hs.length : Int) < (hs.length : Int)) := by omega
    obtain ⟨y0, y1, y2, y3⟩ := e3s hl.best
    obtain ⟨f0, f1, f2, f3⟩ := j6d hl.res
    obtain ⟨z0, z1, z2, z3⟩ := e3s hl.res
    obtain ⟨aa, al, ac, hav'⟩ : ∃ aa al ac, a.v = .slice aa al ac := by
     obtain ⟨j, hj⟩ := List.mem_iff_getElem?.1 hma
     obtain ⟨x, y, e⟩ := (h.inner j a hj).slice1
     exact ⟨x, _, y, e⟩
    rw [hav'] at y3
    have F := k0v hl.res (.int .i64 a.x) (.int .i64 a.y) (.int .i64 a.z) (.slice aa al ac)
    have Fb := f7y hl.below (Nat.le_refl _) (.int .i64 a.x) (.int .i64 a.y) (.int .i64 a.z) (.slice aa al ac)
    go_wp2
    (try simp only [Exit.inBlock, Exit.then])
    refine bodyPost_ret (results_cell_row (fn := Tryz.f88) rfl _ _ W.heap.size 29 _ (0, 0) _ rfl F Tryz.underlying29 rfl (by kernel_rfl)) rfl ?_
    exact ⟨a, hma, by rw [← ha]; simp [List.take_of_length_le], by rw [hav'], Fb⟩
end Go.VI
namespace Go.VI
open Go.Proofs Go.RowKit
set_option maxRecDepth 100000
def j6z (cf : a0j → a0j → Int) (l : List a0j) (a : a0j) : a0j := l.foldl (fun m b => if cf b m < 0 then b else m) a
theorem h2j (cf : a0j → a0j → Int) : ∀ (hs : List HE) (a : HE), (i1p cf hs a).heap = j6z cf (hs.map HE.heap) a.heap
 | [], a => rfl
 | b :: r, a => by
  show (i1p cf r (if cf b.heap a.heap < 0 then b else a)).heap = j6z cf (r.map HE.heap) (if cf b.heap a.heap < 0 then b.heap else a.heap)
  rw [h2j cf r]
  split <;> rfl
structure FormOK (h : a0j) (L : List a0c) (gf cf : Nat → a0j) (bf : Nat → Bool) (cmp : a0j → a0j → Int) : Prop where
 turns : a2u () = some (L, ())
 pos : 0 < L.length
 len : L.length ≤ 1000
 of : ∀ i t, L[i]? = some t → a4v (t, h, ()) = some (gf i, ()) ∧ a2j (gf i, ()) = some (cf i, bf i, ())
 cmp : ∀ i j, i < L.length → j < L.length → a1m (cf i, cf j, ()) = some (cmp (cf i) (cf j), ())
def c7e (n : Nat) (cf : Nat → a0j) (cmp : a0j → a0j → Int) : a0j := j6z cmp (((List.range n).map cf).drop 1) (cf 0)
set_option maxHeartbeats 1000000 in
theorem f8y {Z : Nat → Prop} {W : World} {h : a0j} {lv : Value} (a0 : ArgH Z W h lv) {L : List a0c} {gf cf : Nat → a0j} {bf : Nat → Bool} {cmp : a0j → a0j → Int} (f : FormOK h L gf cf bf cmp) :
 Calls Tryz.prog 43 #[hpV h lv] W fun e w' => ∃ u, e = .returned (hpV (c7e L.length cf cmp) u) ∧ Below W.heap.size W w' ∧ OwnV (fun _ => False) w' W.heap.size 55 A3ty u (c7e L.length cf cmp).2.2.2.1 := by
 have hpos : ∀ V, Below W.heap.size W V → _ := fun V hb => i0q (W := V) (a0.at hb) f.turns f.len gf cf bf f.of
 have hmin : ∀ (B : Nat) (V : World) (v : Value) (hs : List HE), DeepH V B 29 55 v hs → hs.map HE.heap = (List.range L.length).map cf →
  Calls Tryz.prog 88 #[v, .func (.func 89) #[] #[]] V fun e w' => ∃ u, e = .returned (hpV (c7e L.length cf cmp) u) ∧ Below V.heap.size V w' ∧ OwnV (fun _ => False) w' B 55 A3ty u (c7e L.length cf cmp).2.2.2.1 ∧ ∃ x y z, u = .slice x y z := fun B V v hs d hm => by
  have hl : hs.length = L.length := by have := congrArg List.length hm; simpa using this
  have p := f.pos
  have h0 : hs[0]? = some hs[0] := List.getElem?_eq_getElem (by omega)
  have hat : ∀ i (hi : i < hs.length), hs[i].heap = cf i := fun i hi => by
   have := congrArg (fun l => l[i]?) hm
   simpa [hi, show i < L.length by omega] using this
  have hcmp : ∀ a ∈ hs, ∀ b ∈ hs, a1m (a.heap, b.heap, ()) = some (cmp a.heap b.heap, ()) := fun a ha b hb => by
   obtain ⟨i, hi, rfl⟩ := List.getElem_of_mem ha
   obtain ⟨j, hj, rfl⟩ := List.getElem_of_mem hb
   rw [hat i hi, hat j hj]
   exact f.cmp i j (by omega) (by omega)
  refine (j1w d h0 (by have := f.len; omega) cmp hcmp).mono ?_
  rintro e w' ⟨a, hma, ha, rfl, hb⟩
  have hah : a.heap = c7e L.length cf cmp := by
   rw [ha, h2j, hat 0 (by omega), c7e, ← hm, List.map_drop]
  obtain ⟨i, hi⟩ := List.mem_iff_getElem?.1 hma
  have ho := b3d (d.inner i a hi) hb
  obtain ⟨x, y, e⟩ := (d.inner i a hi).slice1
  refine ⟨a.v, ?_, hb, ?_, x, _, y, e⟩
  · rw [← hah]; rfl
  · rw [← hah]; exact ho
 have e0 := a5t W (.cells #[.int .i64 h.1, .int .i64 h.2.1, .int .i64 h.2.2.1, lv] 29)
 have hB0 := alloc_at W (.cells #[.int .i64 h.1, .int .i64 h.2.1, .int .i64 h.2.2.1, lv] 29)
 have sA := a1a W (.cells #[.int .i64 h.1, .int .i64 h.2.1, .int .i64 h.2.2.1, lv] 29)
 have hR0 := alloc_at (W.alloc (.cells #[.int .i64 h.1, .int .i64 h.2.1, .int .i64 h.2.2.1, lv] 29)) (.cells #[.int .i64 0, .int .i64 0, .int .i64 0, .slice none 0 0] 29)
 rw [sA] at hR0
 obtain ⟨k0, k1, k2, k3⟩ := i8j hB0
 obtain ⟨F0, hF0⟩ : ∃ F0, c7e L.length cf cmp = F0 := ⟨_, rfl⟩
 rw [hF0] at hmin ⊢
 unfold hpV at *
 go_enter Tryz.func43, Tryz.ntmps43
 go_wp2_with (first
  | (go_at_call 37; refine (hpos _ (b6f e0 _)).mono ?_; rintro e w2 ⟨v, hs, rfl, hb2, hd2, hm2⟩; have hmc := hmin _ _ v hs hd2 hm2; have hR2 := a0m hR0 hb2)
  | (go_at_call 88; refine hmc.mono ?_; rintro e w3 ⟨u, rfl, hb3, hu3, ux, uy, uz, rfl⟩; have hR3 := a0m hR2 hb3; obtain ⟨f0, f1, f2, f3⟩ := j6d hR3; obtain ⟨z0, z1, z2, z3⟩ := e3s hR3))
 have F := k0v hR3 (.int .i64 F0.1) (.int .i64 F0.2.1) (.int .i64 F0.2.2.1) (.slice ux uy uz)
 have hW3 := a0r (a0r (b6f e0 _) hb2) hb3
 have sB := a1a (W.alloc (.cells #[.int .i64 h.1, .int .i64 h.2.1, .int .i64 h.2.2.1, lv] 29)) (.cells #[.int .i64 0, .int .i64 0, .int .i64 0, .slice none 0 0] 29)
 rw [sA] at sB
 (try simp only [Exit.inBlock, Exit.then])
 refine bodyPost_ret (results_cell_row (fn := Tryz.f43) rfl _ _ (W.heap.size + 1) 29 _ (0, 0) _ rfl F Tryz.underlying29 rfl (by kernel_rfl)) rfl ?_
 refine ⟨_, rfl, f7y hW3 (by omega) _ _ _ _, ?_⟩
 refine OwnV.rebaseH (hu3.mono (fun _ hz => hz) (fun _ hz => hz.elim) fun g hg => f7v (by have := (hu3.lt g hg).1; omega) _ _ _ _) fun g hg => by have := (hu3.lt g hg).1; omega
end Go.VI
namespace Go.Proofs
open Go.Shelf
def Tryz.sortL_ren : Go.Shelf.Ren := ⟨fun | 6 => 90 | 15 => 118 | 14 => 117 | 28 => 139 | 29 => 140 | 20 => 131 | 21 => 132 | 22 => 133 | 23 => 134 | 24 => 135 | 25 => 136 | 26 => 137 | 27 => 138 | 46 => 143 | 47 => 144 | 48 => 145 | 49 => 146 | 50 => 147 | 57 => 149 | n => n, fun | 22 => 26 | 24 => 29 | 25 => 105 | 3 => 3 | 39 => 91 | 0 => 0 | 53 => 139 | 55 => 72 | 4 => 4 | 46 => 133 | 45 => 132 | 50 => 40 | 5 => 5 | 9 => 9 | 66 => 143 | 70 => 147 | 76 => 151 | 77 => 149 | n => n, fun | n => n⟩
theorem Tryz.sortL : Go.Proofs.SlLaysF0.n6 Tryz.prog Tryz.sortL_ren := {
 mixed := by kernel_rfl
 f6 := ⟨Tryz.f90.name, by decide, Tryz.func90.trans (congrArg some (by kernel_rfl))⟩
 f14 := ⟨Tryz.f117.name, by decide, Tryz.func117.trans (congrArg some (by kernel_rfl))⟩
 f15 := Tryz.func118.trans (congrArg some (by kernel_rfl))
 f20 := ⟨Tryz.f131.name, by decide, Tryz.func131.trans (congrArg some (by kernel_rfl))⟩
 f21 := ⟨Tryz.f132.name, by decide, Tryz.func132.trans (congrArg some (by kernel_rfl))⟩
 f22 := ⟨Tryz.f133.name, by decide, Tryz.func133.trans (congrArg some (by kernel_rfl))⟩
 f23 := ⟨Tryz.f134.name, by decide, Tryz.func134.trans (congrArg some (by kernel_rfl))⟩
 f24 := ⟨Tryz.f135.name, by decide, Tryz.func135.trans (congrArg some (by kernel_rfl))⟩
 f25 := ⟨Tryz.f136.name, by decide, Tryz.func136.trans (congrArg some (by kernel_rfl))⟩
 f26 := ⟨Tryz.f137.name, by decide, Tryz.func137.trans (congrArg some (by kernel_rfl))⟩
 f27 := ⟨Tryz.f138.name, by decide, Tryz.func138.trans (congrArg some (by kernel_rfl))⟩
 f28 := Tryz.func139.trans (congrArg some (by kernel_rfl))
 f29 := Tryz.func140.trans (congrArg some (by kernel_rfl))
 f46 := ⟨Tryz.f143.name, by decide, Tryz.func143.trans (congrArg some (by kernel_rfl))⟩
 f47 := Tryz.func144.trans (congrArg some (by kernel_rfl))
 f48 := Tryz.func145.trans (congrArg some (by kernel_rfl))
 f49 := ⟨Tryz.f146.name, by decide, Tryz.func146.trans (congrArg some (by kernel_rfl))⟩
 f50 := ⟨Tryz.f147.name, by decide, Tryz.func147.trans (congrArg some (by kernel_rfl))⟩
 f57 := ⟨Tryz.f149.name, by decide, Tryz.func149.trans (congrArg some (by kernel_rfl))⟩
 t0 := Tryz.underlying0
 a0 := Tryz.isAgg0
 z0 := Tryz.sizeOf0
 v0 := Tryz.zeroValue0
 t3 := Tryz.underlying3
 a3 := Tryz.isAgg3
 z3 := Tryz.sizeOf3
 v3 := Tryz.zeroValue3
 t4 := Tryz.underlying4
 a4 := Tryz.isAgg4
 z4 := Tryz.sizeOf4
 v4 := Tryz.zeroValue4
 t5 := Tryz.underlying5
 a5 := Tryz.isAgg5
 z5 := Tryz.sizeOf5
 v5 := Tryz.zeroValue5
 t9 := Tryz.underlying9
 a9 := Tryz.isAgg9
 z9 := Tryz.sizeOf9
 v9 := Tryz.zeroValue9
 t22 := Tryz.underlying26
 a22 := Tryz.isAgg26
 z22 := Tryz.sizeOf26
 v22 := Tryz.zeroValue26
 t25 := Tryz.underlying105
 a25 := Tryz.isAgg105
 z25 := Tryz.sizeOf105
 v25 := Tryz.zeroValue105
 t39 := Tryz.underlying91
 a39 := Tryz.isAgg91
 z39 := Tryz.sizeOf91
 v39 := Tryz.zeroValue91
 t45 := Tryz.underlying132
 a45 := Tryz.isAgg132
 z45 := Tryz.sizeOf132
 v45 := Tryz.zeroValue132
 t46 := Tryz.underlying133
 a46 := Tryz.isAgg133
 z46 := Tryz.sizeOf133
 v46 := Tryz.zeroValue133
 t50 := Tryz.underlying40
 a50 := Tryz.isAgg40
 z50 := Tryz.sizeOf40
 v50 := Tryz.zeroValue40
 t53 := Tryz.underlying139
 a53 := Tryz.isAgg139
 z53 := Tryz.sizeOf139
 v53 := Tryz.zeroValue139
 t55 := Tryz.underlying72
 a55 := Tryz.isAgg72
 z55 := Tryz.sizeOf72
 v55 := Tryz.zeroValue72
 t66 := Tryz.underlying143
 a66 := Tryz.isAgg143
 z66 := Tryz.sizeOf143
 v66 := Tryz.zeroValue143
 t70 := Tryz.underlying147
 a70 := Tryz.isAgg147
 z70 := Tryz.sizeOf147
 v70 := Tryz.zeroValue147
 t76 := Tryz.underlying151
 a76 := Tryz.isAgg151
 z76 := Tryz.sizeOf151
 v76 := Tryz.zeroValue151
 t77 := Tryz.underlying149
 a77 := Tryz.isAgg149
 z77 := Tryz.sizeOf149
 v77 := Tryz.zeroValue149 }
end Go.Proofs
