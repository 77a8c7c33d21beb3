/- Plain: the draws of numbers, cells and heaps give something. -/
import Derived.Test.YtlnfgikipeiaiaaGreatWjSort
import Derived.Test.YtlnfgikipeiaiaaGreatPlKb
import Derived.Test.YtlnfgikipeiaiaaGreatViFunM
import Derived.ProofKit
import Derived.OpenShut
namespace Go.VI
open Go.Proofs
def Bts (C : List Int) : Prop := C.length ≤ 1000000 ∧ ∀ b ∈ C, 0 ≤ b ∧ b ≤ 255
abbrev Sd : Type := Int × Int × Unit
def At (n : Nat) (s : Sd) : Prop := 0 ≤ s.1 ∧ s.1 + n ≤ 1000000000
theorem At.le {n m : Nat} {s : Sd} (h : At n s) (hm : m ≤ n) : At m s := ⟨h.1, by have := h.2; omega⟩
theorem j9x (a : Int) : 0 ≤ intBits .and .u64 a 255 ∧ intBits .and .u64 a 255 ≤ 255 := by
 have h : ((BitVec.ofInt 64 a) &&& (BitVec.ofInt 64 255)).toNat ≤ 255 := by
  rw [BitVec.toNat_and]
  exact Nat.le_trans Nat.and_le_right (by decide)
 have e : intBits .and .u64 a 255 = (((BitVec.ofInt 64 a) &&& (BitVec.ofInt 64 255)).toNat : Int) := by
  simp only [intBits]
  rw [show IntKind.bits .u64 = 64 from rfl, wu64]
  omega
 rw [e]
 omega
theorem j3l {C : List Int} (hC : Bts C) {i : Int} (h0 : 0 ≤ i) (h1 : i < C.length) : 0 ≤ nth ((.int .u8) : Ty) C i ∧ nth ((.int .u8) : Ty) C i ≤ 255 := by
 have hlt : i.toNat < C.length := by omega
 have e : nth ((.int .u8) : Ty) C i = C[i.toNat] := by simp [nth, List.getD, List.getElem?_eq_getElem hlt]
 rw [e]
 exact hC.2 _ (List.getElem_mem hlt)
theorem j5d {C : List Int} (hC : Bts C) {n : Nat} {s : Sd} (h : At (n + 1) s) : ∃ (x : Int) (s' : Sd), b6j ((C, s), ()) = some ((x, ()), ((C, s'), ())) ∧ At n s' ∧ 0 ≤ x ∧ x ≤ 255 := by
 obtain ⟨a, sd, ⟨⟩⟩ := s
 obtain ⟨h0, h1⟩ := h
 simp only at h0 h1
 rw [h8f]
 simp only
 rw [w64 (x := a + 1) (by omega) (by omega)]
 have hat : ∀ z : Int, At n (a + 1, z, ()) := fun z => ⟨by simp only; omega, by simp only; omega⟩
 by_cases c : a < (C.length : Int)
 · obtain ⟨b0, b1⟩ := j3l hC h0 c
   rw [decide_eq_true c, show inB a C.length = true by simp [inB]; omega, decide_eq_true (p := a + 1 ≤ (C.length : Int)) (by omega), w64 (x := nth ((.int .u8) : Ty) C a) (Int.le_trans (by decide) b0) (Int.le_trans b1 (by decide))]
   exact ⟨_, _, rfl, hat _, b0, b1⟩
 · rw [decide_eq_false c, decide_eq_false (p := a + 1 ≤ (C.length : Int)) (by omega)]
   simp only [cond_false]
   generalize hz : intBits .and .u64 _ 255 = z
   have hb : 0 ≤ z ∧ z ≤ 255 := by rw [← hz]; exact j9x _
   rw [w64 (x := z) (by omega) (by omega)]
   exact ⟨_, _, rfl, hat _, hb.1, hb.2⟩
theorem f9t {C : List Int} (hC : Bts C) {n : Nat} {s : Sd} (h : At (n + 2) s) (k : Int) : ∃ (x : Int) (s' : Sd), a2s ((C, s), k, ()) = some ((x, ()), ((C, s'), ())) ∧ At n s' ∧ 0 ≤ x ∧ (x < k ∨ (k ≤ 1 ∧ x = 0)) := by
 rw [h8y]
 by_cases c : k ≤ 1
 · rw [decide_eq_true c]
   exact ⟨_, _, rfl, h.le (by omega), Int.le_refl _, .inr ⟨c, rfl⟩⟩
 · obtain ⟨x, s1, e1, a1, b1, b2⟩ := j5d hC h
   rw [decide_eq_false c, e1]
   simp only [cond_false, Option.bind_some]
   by_cases d : k > 200
   · obtain ⟨y, s2, e2, a2, c1, c2⟩ := j5d hC a1
     rw [decide_eq_true d, e2]
     simp only [cond_true, Option.bind_some]
     rw [decide_eq_false (p := k = 0) (by omega), w64 (x := x * 256) (by omega) (by omega), w64 (x := x * 256 + y) (by omega) (by omega)]
     exact ⟨_, _, rfl, a2, Int.tmod_nonneg _ (by omega), .inl (Int.tmod_lt_of_pos _ (by omega))⟩
   · rw [decide_eq_false d, decide_eq_false (p := k = 0) (by omega)]
     exact ⟨_, _, rfl, a1.le (by omega), Int.tmod_nonneg _ (by omega), .inl (Int.tmod_lt_of_pos _ (by omega))⟩
theorem j9a {C : List Int} (hC : Bts C) {n : Nat} {s : Sd} (h : At (n + 2) s) (k : Int) : ∃ (b : Bool) (s' : Sd), b6a ((C, s), k, ()) = some ((b, ()), ((C, s'), ())) ∧ At n s' := by
 obtain ⟨x, s1, e1, a1, _, _⟩ := f9t hC h k
 rw [i3j, e1]
 exact ⟨_, _, rfl, a1⟩
theorem f0g {C : List Int} (hC : Bts C) {n : Nat} {s : Sd} (h : At (n + 2) s) (l : List Int) (hl : 0 < l.length) : ∃ (x : Int) (s' : Sd), a2m ((C, s), l, ()) = some ((x, ()), ((C, s'), ())) ∧ At n s' ∧ x ∈ l := by
 obtain ⟨x, s1, e1, a1, b1, b2⟩ := f9t hC h (l.length : Int)
 rw [h7h, e1]
 simp only [Option.bind_some]
 have hx : x < (l.length : Int) := by omega
 rw [show inB x l.length = true by simp [inB]; omega]
 have hlt : x.toNat < l.length := by omega
 have e : nth ((.int .i64) : Ty) l x = l[x.toNat] := by simp [nth, List.getD, List.getElem?_eq_getElem hlt]
 rw [e]
 exact ⟨_, _, rfl, a1, List.getElem_mem hlt⟩
theorem j8a {C : List Int} (hC : Bts C) {n : Nat} {s : Sd} (h : At (n + 10) s) : ∃ (x y z : Int) (s' : Sd), b7e ((C, s), ()) = some ((x, y, z, ()), ((C, s'), ())) ∧ At n s' := by
 obtain ⟨x, s1, e1, a1, _⟩ := f0g hC (n := n + 8) h [2, 3, 3, 1, 4] (by decide)
 obtain ⟨y, s2, e2, a2, _⟩ := f0g hC (n := n + 6) a1 [2, 3, 2, 1, 4] (by decide)
 obtain ⟨z, s3, e3, a3, _⟩ := f0g hC (n := n + 4) a2 [2, 3, 3, 1, 4] (by decide)
 obtain ⟨p, s4, e4, a4, _⟩ := f9t hC (n := n + 2) a3 60
 obtain ⟨x', s5, e5, a5, _⟩ := f0g hC (n := n) a4 [0, 5, (-1), 4611686018427387904] (by decide)
 obtain ⟨y', s6, e6, a6, _⟩ := f0g hC (n := n) a4 [0, 5, (-1)] (by decide)
 rw [h4n, e1]
 simp only [Option.bind_some]
 rw [e2]
 simp only [Option.bind_some]
 rw [e3]
 simp only [Option.bind_some]
 rw [e4]
 simp only [Option.bind_some]
 rw [e5, e6]
 simp only [Option.bind_some]
 by_cases c0 : p = 0
 · rw [decide_eq_true c0]; exact ⟨_, _, _, _, rfl, a5⟩
 · rw [decide_eq_false c0]
   by_cases c1 : p = 1
   · rw [decide_eq_true c1]; exact ⟨_, _, _, _, rfl, a6⟩
   · rw [decide_eq_false c1]
     by_cases c2 : p = 2
     · rw [decide_eq_true c2]; exact ⟨_, _, _, _, rfl, a6⟩
     · rw [decide_eq_false c2]; exact ⟨_, _, _, _, rfl, a4.le (by omega)⟩
theorem j1m (h : a0b) (hl : Small h.2.2.2.1) : ∃ r, a9i (h, ()) = some r ∧ r.1.2.2.2.1.length ≤ 64 := by
 rw [f8d, f2v _ hl]
 cases ho : e3m h with
 | false => exact ⟨_, rfl, by simp⟩
 | true =>
  obtain ⟨hs, hi, hr⟩ := okHeap_iff.1 ho
  obtain ⟨a1, a2, a3⟩ := f1o hs
  have f0 : a8e (h, ()) = _ := h5o h.2.2.2.1 hs
  simp only [Option.bind_some, Bool.not_true, cond_false]
  rw [a2x, f0]
  simp only [Option.bind_some]
  have e := i3m (X := h.1) (Y := h.2.1) (Z := h.2.2.1) (X' := h.1) (Y' := h.2.1) (Z' := h.2.2.1) hl a1 (a8m h.1 h.2.1 h.2.2.1).length 0 N [] (by simp) (by unfold Small at a1; have := b6u; omega) (by simp)
  have e' : a3g N h.1 h.2.1 h.2.2.1 h.2.2.2.1 0 0 0 [] h.1 h.2.1 h.2.2.1 [] (a8m h.1 h.2.1 h.2.2.1) 0 = _ := e
  rw [e']
  exact ⟨_, rfl, show ((a8m h.1 h.2.1 h.2.2.1).filter fun x => !decide (x ∈ h.2.2.2.1)).length ≤ 64 from Nat.le_trans (List.length_filter_le _ _) (a4n hs a2 a3)⟩
theorem j0t {X Y Z : Int} (hs : sides X Y Z = true) {V : List Int} (hV : V.length = (X * Y).toNat) : ∃ r, b4a (X, Y, Z, V, ()) = some r ∧ r.1.2.2.2.1.length ≤ 64 := by
 obtain ⟨a1, a2, a3⟩ := f1o hs
 rw [h0c, a2x]
 simp only [Option.bind_some]
 rw [h5o [] hs]
 simp only [Option.bind_some]
 have e := h6t (X' := X) (Y' := Y) (Z' := Z) hs hV a1 a2 (a8m X Y Z).length 0 N [] (by simp) (by unfold Small at a1; have := b6u; omega) (by simp)
 have e' : a5z N 0 0 0 [] X Y Z [] Y V (a8m X Y Z) 0 = _ := e
 rw [e']
 exact ⟨_, rfl, show ((a8m X Y Z).filter (k0l Y V)).length ≤ 64 from Nat.le_trans (List.length_filter_le _ _) (a4n hs a2 a3)⟩
theorem i9m {C : List Int} (hC : Bts C) {X Y Z : Int} (hs : sides X Y Z = true) {al : List a0a} (hal : al.length ≤ 64) (hin : Ins X Y Z al) (q0 q1 q2 : Int) (q3 : List a0a) (odds : Int) : ∀ (d i m n : Nat) (s : Sd) (out : List a0a), al.length = i + d → d < m → out.length ≤ i → Ins X Y Z out → At (n + 2 * d + 2) s →
 ∃ (g : a0b) (s' : Sd), a5e m q0 q1 q2 q3 X Y Z out C s.1 s.2.1 X Y Z odds al (i : Int) = some ((g, ()), ((C, s'), ())) ∧ At n s' ∧ g.2.2.2.1.length ≤ 64
 | d, i, 0, n, s, out, _, h, _, _, _ => by omega
 | d, i, m + 1, n, s, out, hk, hm, ho, hio, ha => by
  rw [f2q]
  by_cases hlt : i < al.length
  · obtain ⟨b, s1, e1, a1⟩ := j9a hC (n := n + 2 * (d - 1) + 2) (s := s) (ha.le (by omega)) odds
    have e1' : b6a ((C, (s.1, (s.2.1, ()))), odds, ()) = _ := e1
    rw [ltT hlt, e1', a5v i (by omega)]
    simp only [cond_true, Option.bind_some]
    cases b with
    | false => exact i9m hC hs hal hin q0 q1 q2 q3 odds (d - 1) (i + 1) m n s1 out (by omega) (by omega) (by omega) hio a1
    | true =>
     rw [a1j hlt, b9l (t := a0e) hlt, b7v (l := out) (by omega)]
     simp only [cond_true]
     refine i9m hC hs hal hin q0 q1 q2 q3 odds (d - 1) (i + 1) m n s1 _ (by omega) (by omega) (by simp; omega) (fun c hc => ?_) a1
     rcases List.mem_append.1 hc with hc | hc
     · exact hio c hc
     · rw [List.mem_singleton.1 hc]; exact hin _ (List.getElem_mem hlt)
  · obtain ⟨p, s1, e1, a1, _⟩ := f9t hC (n := n + 2 * d) (s := s) ha 12
    have e1' : a2s ((C, (s.1, (s.2.1, ()))), 12, ()) = _ := e1
    have hso : Small out := by unfold Small; omega
    rw [ltF hlt, e1']
    simp only [cond_false, Option.bind_some]
    by_cases c0 : p = 0
    · obtain ⟨r, er, hr⟩ := j1m (X, Y, Z, out, ()) hso
      rw [decide_eq_true c0, er]
      exact ⟨_, _, rfl, a1.le (by omega), hr⟩
    · rw [decide_eq_false c0]
      by_cases c1 : p = 1
      · obtain ⟨r, er, hr⟩ := j0t hs (j3a X Y out)
        rw [decide_eq_true c1, g2i, j6j hs hso hio]
        simp only [cond_true, cond_false, Option.bind_some]
        rw [er]
        exact ⟨_, _, rfl, a1.le (by omega), hr⟩
      · rw [decide_eq_false c1]
        exact ⟨_, _, rfl, a1.le (by omega), (by omega : out.length ≤ 64)⟩
theorem i7y {C : List Int} (hC : Bts C) {n : Nat} {s : Sd} (h : At (n + 132) s) (X Y Z : Int) : ∃ (g : a0b) (s' : Sd), b0z ((C, s), X, Y, Z, ()) = some ((g, ()), ((C, s'), ())) ∧ At n s' ∧ g.2.2.2.1.length ≤ 64 := by
 obtain ⟨o, s1, e1, a1, _⟩ := f0g hC (n := n + 130) h [2, 3, 2, 4] (by decide)
 rw [g2y, a2x, e1]
 simp only [Option.bind_some]
 rw [e8d]
 simp only [Option.bind_some]
 cases hs : sides X Y Z with
 | false => exact ⟨_, _, rfl, a1.le (by omega), by simp⟩
 | true =>
  obtain ⟨k1, k2, k3⟩ := f1o hs
  have h64 := a4n hs k2 k3
  simp only [Bool.not_true, cond_false]
  rw [h5o [] hs]
  simp only [Option.bind_some]
  exact i9m hC hs h64 k2 0 0 0 [] o (a8m X Y Z).length 0 N n s1 [] (by simp) (by have := b6u; omega) (by simp) (fun c hc => by cases hc) (a1.le (by omega))
theorem j9y {C : List Int} (hC : Bts C) {n : Nat} {s : Sd} (h : At (n + 144) s) : ∃ (g : a0b) (s' : Sd), c2a ((C, s), ()) = some ((g, ()), ((C, s'), ())) ∧ At n s' ∧ g.2.2.2.1.length ≤ 65 := by
 obtain ⟨x, y, z, s1, e1, a1⟩ := j8a hC (n := n + 134) h
 obtain ⟨g, s2, e2, a2, hg⟩ := i7y hC (n := n + 2) a1 x y z
 obtain ⟨p, s3, e3, a3, _⟩ := f9t hC (n := n) a2 60
 rw [h9j, e1]
 simp only [Option.bind_some]
 rw [e2]
 simp only [Option.bind_some]
 rw [e3]
 simp only [Option.bind_some]
 rw [b7v (l := g.2.2.2.1) (by omega), b7v (l := g.2.2.2.1) (by omega), b7v (l := g.2.2.2.1) (by omega)]
 by_cases c0 : p = 0
 · rw [decide_eq_true c0]
   exact ⟨_, _, rfl, a3, by simp; omega⟩
 · rw [decide_eq_false c0]
   by_cases c1 : p = 1
   · rw [decide_eq_true c1]
     exact ⟨_, _, rfl, a3, by simp; omega⟩
   · rw [decide_eq_false c1]
     by_cases c2 : p = 2
     · rw [decide_eq_true c2]
       by_cases c : (g.2.2.2.1.length : Int) > 0
       · rw [decide_eq_true c, show inB 0 g.2.2.2.1.length = true by simp [inB]; omega]
         exact ⟨_, _, rfl, a3, by simp; omega⟩
       · rw [decide_eq_false c]
         exact ⟨_, _, rfl, a3, by omega⟩
     · rw [decide_eq_false c2]
       by_cases c3 : p = 3
       · rw [decide_eq_true c3]
         exact ⟨_, _, rfl, a3, by simp⟩
       · rw [decide_eq_false c3]
         exact ⟨_, _, rfl, a3, by omega⟩
end Go.VI
namespace Go.VI
open Go.Proofs Go.RowKit
set_option maxRecDepth 100000
theorem j9g {Z : Nat → Prop} {w : World} : ∀ hs : List HE, (∀ a ∈ hs, RepI Z w (.sl A3ty) a.cells [a.v]) → RepsL Z w e1f (hs.map HE.heap) (encs hs)
 | [], _ => rfl
 | a :: r, h => ⟨a.enc, encs r, by simp [encs], f8o (h a (by simp)), j9g r fun b hb => h b (by simp [hb])⟩
theorem DeepH.ownV {w : World} {B : Nat} {eo ei : TypeId} {v : Value} {hs : List HE} (h : DeepH w B eo ei v hs) : OwnV (fun g => ∃ a ∈ hs, a.v.ownBlock = some g) w B eo e1f v (hs.map HE.heap) := by
 refine ⟨by decide, encs hs, ?_, j9g hs fun a ha => ?_⟩
 · rw [List.length_map]; exact OwnRow.of (t := e1f) h.outer
 · obtain ⟨i, hi⟩ := List.mem_iff_getElem?.1 ha
   exact (h.inner i a hi).reads _ (fun _ hz => hz.elim) fun g hg => ⟨a, ha, hg⟩
theorem j6a {Z : Nat → Prop} {w w' : World} {avs : List Value} {r : a0j} {u : Value} {e : TypeId} (hz : ∀ g, Z g → g < w.heap.size) (hu : OwnV (fun _ => False) w' w.heap.size e A3ty u r.2.2.2.1) :
 f3h Z w' w.heap.size avs (d3m [(true, e1f)] (r, ()) [.own e]) [hpV r u] := by
 refine ⟨fun _ j => match j with | 0 => .int .i64 r.1 | 1 => .int .i64 r.2.1 | 2 => .int .i64 r.2.2.1 | _ => u, rfl, ?_, ?_⟩
 · intro i p hp
   match i, hp with
   | 0, hp =>
    obtain rfl := Option.some.inj hp
    refine ⟨rfl, (fun h => by cases h), fun j rc hj => ?_⟩
    match j, hj with
    | 0, hj => obtain rfl := Option.some.inj hj; exact ⟨rfl, rfl⟩
    | 1, hj => obtain rfl := Option.some.inj hj; exact ⟨rfl, rfl⟩
    | 2, hj => obtain rfl := Option.some.inj hj; exact ⟨rfl, rfl⟩
    | 3, hj =>
     obtain rfl := Option.some.inj hj
     refine ⟨hu.mono (fun _ h => h.elim) (fun _ h => h.elim) fun _ _ => rfl, fun g hg hzg => ?_⟩
     have := (hu.lt g hg).1
     have := hz g hzg
     omega
 · intro i j i' j' p p' rc rc' g hp hj ho hp' hj' ho' hg hg'
   have key : ∀ i j p rc, (d3m [(true, e1f)] (r, ()) [.own e])[i]? = some p → p.2[j]? = some rc → rc.isOwn = true → i = 0 ∧ j = 3 := by
    intro i j p rc hp hj ho
    match i, hp with
    | 0, hp =>
     obtain rfl := Option.some.inj hp
     match j, hj with
     | 0, hj => obtain rfl := Option.some.inj hj; cases ho
     | 1, hj => obtain rfl := Option.some.inj hj; cases ho
     | 2, hj => obtain rfl := Option.some.inj hj; cases ho
     | 3, hj => exact ⟨rfl, rfl⟩
   obtain ⟨a1, a2⟩ := key i j p rc hp hj ho
   obtain ⟨b1, b2⟩ := key i' j' p' rc' hp' hj' ho'
   omega
open Classical in
noncomputable def i7o (x : a0j × Unit) : Option (a0j × Unit) := if GoodH x.1.1 x.1.2.1 x.1.2.2.1 x.1.2.2.2.1 then some (b1r x.1.2.2.2.1, ()) else none
theorem g3l {x : a0j} (g : GoodH x.1 x.2.1 x.2.2.1 x.2.2.2.1) : i7o (x, ()) = some (b1r x.2.2.2.1, ()) := if_pos g
theorem i8t : Sound Tryz.prog GG 43 ⟨[.data true a0f], [(true, a0f)], [.own 55], i7o⟩ := by
 intro w Z vs xs r _ hZ hrel hF
 obtain ⟨⟨X, Y, Zz, l, ⟨⟩⟩, ⟨⟩⟩ := xs
 obtain ⟨us, vs', rfl, _, hrep, hn⟩ := hrel
 obtain rfl : vs' = [] := hn
 obtain ⟨c1, c2, rfl, e1, c3, c4, rfl, e2, c5, c6, rfl, e3, c7, c8, rfl, e4, e5⟩ := hrep
 obtain rfl : c1 = [.int .i64 X] := e1
 obtain rfl : c3 = [.int .i64 Y] := e2
 obtain rfl : c5 = [.int .i64 Zz] := e3
 obtain rfl : c8 = [] := e5
 have hc7 := e4
 obtain ⟨A7, n7, rfl, _⟩ := e4
 by_cases g : GoodH X Y Zz l
 · have hF' : i7o ((X, Y, Zz, l, ()), ()) = some r := hF
   rw [g3l (x := (X, Y, Zz, l, ())) g] at hF'
   obtain rfl := Option.some.inj hF'
   have ha : ArgH Z w (X, Y, Zz, l, ()) (.slice A7 l.length n7) := ⟨hZ, hc7⟩
   refine Calls.fcalls (fn := Tryz.f43) Tryz.func43 rfl (by kernel_rfl) (Calls.mono (f8y ha (e6i g)) ?_)
   rintro e w' ⟨u, rfl, hbel, hu⟩
   exact ⟨_, rfl, Z, [_], rfl, hbel, fun g hg => hg, fun g hg => .inl hg, j6a (r := b1r l) hZ hu⟩
 · have hF' : i7o ((X, Y, Zz, l, ()), ()) = some r := hF
   rw [show i7o ((X, Y, Zz, l, ()), ()) = none from if_neg g] at hF'
   cases hF'
def j8v (n : Int) (L : List a0j) (b : Bool) : Prop := ∀ W : World, Calls Tryz.prog 16 #[.int .i64 n] W fun e w' => ∃ v gs, e = .returned (.tuple #[v, .bool b]) ∧ Below W.heap.size W w' ∧ DeepH w' W.heap.size 29 55 v gs ∧ gs.map HE.heap = L
open Classical in
noncomputable def FLs (n : Nat) : List a0j := if h : 1 ≤ n ∧ n ≤ 4 then Classical.choose (j5j h) else []
theorem g5n {n : Nat} (h : 1 ≤ n ∧ n ≤ 4) : FmL n (FLs n) := by
 unfold FLs; rw [dif_pos h]; exact Classical.choose_spec (j5j h)
noncomputable def g0r (x : Int × Unit) : Option (List a0j × Bool × Unit) := bif decide (1 ≤ x.1) && decide (x.1 ≤ 4) then some (FLs x.1.toNat, true, ()) else some ([], false, ())
theorem j0h (n a b : Int) : a1x (n, a, b, ()) = some (decide (a ≤ n) && decide (n ≤ b), ()) := c5a n a b
theorem i1i {n : Int} {L : List a0j} {b : Bool} (h : g0r (n, ()) = some (L, b, ())) : j8v n L b := by
 unfold g0r at h
 simp only at h
 cases hb : decide (1 ≤ n) && decide (n ≤ 4) with
 | true =>
  rw [hb] at h
  cases h
  have hn : 1 ≤ n ∧ n ≤ 4 := by simpa using hb
  obtain ⟨m, rfl⟩ : ∃ m : Nat, n = (m : Int) := ⟨n.toNat, by omega⟩
  intro W
  exact i4r (Post := fun l => l = FLs (m : Int).toNat) (by rw [j0h, hb]) fun U => (g5n (n := m) (by omega)).im U
 | false =>
  rw [hb] at h
  cases h
  intro W
  refine (i7b (by rw [j0h, hb])).mono ?_
  rintro e w' ⟨rfl, hb⟩
  exact ⟨_, [], rfl, hb, DeepH.nil ⟨rfl, .inl ⟨rfl, rfl⟩⟩, rfl⟩
theorem i4v : Sound Tryz.prog GG 16 ⟨[.data false (.int .i64)], [(false, .sl a0f), (false, .bool)], [.own 29], g0r⟩ := by
 intro w Z vs xs r _ hZ hrel hF
 obtain ⟨n, ⟨⟩⟩ := xs
 obtain ⟨us, vs', rfl, _, hrep, hn⟩ := hrel
 obtain rfl : vs' = [] := hn
 obtain rfl : us = [.int .i64 n] := hrep
 obtain ⟨L, b, ⟨⟩⟩ := r
 refine Calls.fcalls (fn := Tryz.f16) Tryz.func16 rfl (by kernel_rfl) (Calls.mono (i1i hF w) ?_)
 rintro e w' ⟨v, gs, rfl, hbel, hd, rfl⟩
 have ho := hd.ownV
 refine ⟨_, rfl, fun g => Z g ∨ ∃ a ∈ gs, a.v.ownBlock = some g, [v, .bool b], rfl, hbel, fun g hg => .inl hg, fun g hg => ?_, fun i _ => match i with | 0 => v | _ => .bool b, rfl, ?_, ?_⟩
 · rcases hg with hg | ⟨a, ha, hg⟩
   · exact .inl hg
   · obtain ⟨i, hi⟩ := List.mem_iff_getElem?.1 ha
     exact .inr ((hd.inner i a hi).lt g hg)
 · intro i p hp
   match i, hp with
   | 0, hp =>
    obtain rfl := Option.some.inj hp
    refine ⟨rfl, fun _ => rfl, fun j rc hj => ?_⟩
    match j, hj with
    | 0, hj =>
     obtain rfl := Option.some.inj hj
     refine ⟨ho.mono (fun _ h => .inr h) (fun _ _ => rfl) (fun _ _ => rfl), fun g hg hzg => ?_⟩
     have hg' : v.ownBlock = some g := hg
     have hlt := hd.outer.lt g hg'
     rcases hzg with hzg | ⟨a, ha, hga⟩
     · have := hZ g hzg; omega
     · obtain ⟨i, hi⟩ := List.mem_iff_getElem?.1 ha
       exact hd.outer_ne (by decide) hi hga hg'
   | 1, hp =>
    obtain rfl := Option.some.inj hp
    refine ⟨rfl, fun _ => rfl, fun j rc hj => ?_⟩
    match j, hj with
    | 0, hj => obtain rfl := Option.some.inj hj; exact ⟨rfl, rfl⟩
 · intro i j i' j' p p' rc rc' g hp hj ho hp' hj' ho' hg hg'
   have key : ∀ i j p rc, (d3m [(false, Ty.sl a0f), (false, .bool)] (gs.map HE.heap, b, ()) [.own 29])[i]? = some p → p.2[j]? = some rc → rc.isOwn = true → i = 0 ∧ j = 0 := by
    intro i j p rc hp hj ho
    match i, hp with
    | 0, hp =>
     obtain rfl := Option.some.inj hp
     match j, hj with
     | 0, hj => exact ⟨rfl, rfl⟩
    | 1, hp =>
     obtain rfl := Option.some.inj hp
     match j, hj with
     | 0, hj => obtain rfl := Option.some.inj hj; cases ho
   obtain ⟨a1, a2⟩ := key i j p rc hp hj ho
   obtain ⟨b1, b2⟩ := key i' j' p' rc' hp' hj' ho'
   omega
theorem i6l {Z : Nat → Prop} {w : World} {h : a0b} {us : List Value} (hz : ∀ g, Z g → g < w.heap.size) (hr : RepI Z w a0f h us) : ∃ A c, us = [.int .i64 h.1, .int .i64 h.2.1, .int .i64 h.2.2.1, .slice A h.2.2.2.1.length c] ∧ ArgH Z w h (.slice A h.2.2.2.1.length c) := by
 obtain ⟨c1, c2, rfl, h1, c3, c4, rfl, h2, c5, c6, rfl, h3, c7, c8, rfl, h4, h5⟩ := hr
 obtain rfl : c1 = [.int .i64 h.1] := h1
 obtain rfl : c3 = [.int .i64 h.2.1] := h2
 obtain rfl : c5 = [.int .i64 h.2.2.1] := h3
 obtain rfl : c8 = [] := h5
 have h4' := h4
 obtain ⟨A, c, rfl, _, _⟩ := h4
 exact ⟨A, c, rfl, hz, h4'⟩
open Classical in
noncomputable def i7w (x : a0j × a0j × Unit) : Option (List a0j × Bool × Unit) := if h : Small x.1.2.2.2.1 ∧ Small x.2.1.2.2.2.1 then some (Classical.choose (h5a x.1 x.2.1 h.1 h.2), Classical.choose (Classical.choose_spec (h5a x.1 x.2.1 h.1 h.2)), ()) else none
theorem i5v (g h : a0b) (hg : Small g.2.2.2.1) (hh : Small h.2.2.2.1) : ∃ R b, i7w (g, h, ()) = some (R, b, ()) ∧ a4d (g, h, ()) = some (R, b, ()) ∧ g6v R ∧ R.length ≤ 17496 ∧ j5l g h R b ∧ (b = true ↔ k0k g h) ∧
 (b = true → Strict R ∧ ∀ x, x ∈ R ↔ ∃ t ∈ T24, ∃ v, e9p v ∧ Hit (h3d g.2.2.2.1).2.2.2.1 (a8w t h.2.2.2.1).2.2.2.1 v x) ∧ (b = false → R = []) :=
 ⟨_, _, dif_pos ⟨hg, hh⟩, Classical.choose_spec (Classical.choose_spec (h5a g h hg hh))⟩
theorem i8v : Sound Tryz.prog GG 8 ⟨[.data true a0f, .data true a0f], [(false, .sl a0f), (false, .bool)], [.own 29], i7w⟩ := by
 intro w Z vs xs r _ hZ hrel hF
 obtain ⟨g, h, ⟨⟩⟩ := xs
 obtain ⟨us, vs', rfl, _, hrep, us2, vs2, rfl, _, hrep2, hn⟩ := hrel
 obtain rfl : vs2 = [] := hn
 obtain ⟨A, c, rfl, ag⟩ := i6l hZ hrep
 obtain ⟨A2, c2, rfl, ah⟩ := i6l hZ hrep2
 by_cases hs : Small g.2.2.2.1 ∧ Small h.2.2.2.1
 · obtain ⟨R, b, e, _, _, _, hG, _⟩ := i5v g h hs.1 hs.2
   have hF' : i7w (g, h, ()) = some r := hF
   rw [e] at hF'
   obtain rfl := Option.some.inj hF'
   refine Calls.fcalls (fn := Tryz.f8) Tryz.func8 rfl (by kernel_rfl) (Calls.mono (hG Z Z w A A2 c c2 ag ah) ?_)
   rintro e w' ⟨v, gs, rfl, hbel, hd, rfl⟩
   have ho := hd.ownV
   refine ⟨_, rfl, fun g => Z g ∨ ∃ a ∈ gs, a.v.ownBlock = some g, [v, .bool b], rfl, hbel, fun g hg => .inl hg, fun g hg => ?_, fun i _ => match i with | 0 => v | _ => .bool b, rfl, ?_, ?_⟩
   · rcases hg with hg | ⟨a, ha, hg⟩
     · exact .inl hg
     · obtain ⟨i, hi⟩ := List.mem_iff_getElem?.1 ha
       exact .inr ((hd.inner i a hi).lt g hg)
   · intro i p hp
     match i, hp with
     | 0, hp =>
      obtain rfl := Option.some.inj hp
      refine ⟨rfl, fun _ => rfl, fun j rc hj => ?_⟩
      match j, hj with
      | 0, hj =>
       obtain rfl := Option.some.inj hj
       refine ⟨ho.mono (fun _ h => .inr h) (fun _ _ => rfl) (fun _ _ => rfl), fun g hg hzg => ?_⟩
       have hg' : v.ownBlock = some g := hg
       have hlt := hd.outer.lt g hg'
       rcases hzg with hzg | ⟨a, ha, hga⟩
       · have := hZ g hzg; omega
       · obtain ⟨i, hi⟩ := List.mem_iff_getElem?.1 ha
         exact hd.outer_ne (by decide) hi hga hg'
     | 1, hp =>
      obtain rfl := Option.some.inj hp
      refine ⟨rfl, fun _ => rfl, fun j rc hj => ?_⟩
      match j, hj with
      | 0, hj => obtain rfl := Option.some.inj hj; exact ⟨rfl, rfl⟩
   · intro i j i' j' p p' rc rc' g hp hj ho hp' hj' ho' hg hg'
     have key : ∀ i j p rc, (d3m [(false, Ty.sl a0f), (false, .bool)] (gs.map HE.heap, b, ()) [.own 29])[i]? = some p → p.2[j]? = some rc → rc.isOwn = true → i = 0 ∧ j = 0 := by
      intro i j p rc hp hj ho
      match i, hp with
      | 0, hp =>
       obtain rfl := Option.some.inj hp
       match j, hj with
       | 0, hj => exact ⟨rfl, rfl⟩
      | 1, hp =>
       obtain rfl := Option.some.inj hp
       match j, hj with
       | 0, hj => obtain rfl := Option.some.inj hj; cases ho
     obtain ⟨a1, a2⟩ := key i j p rc hp hj ho
     obtain ⟨b1, b2⟩ := key i' j' p' rc' hp' hj' ho'
     omega
 · have hF' : i7w (g, h, ()) = some r := hF
   rw [show i7w (g, h, ()) = none from dif_neg hs] at hF'
   cases hF'
end Go.VI
namespace Go.VI
open Go.Proofs
set_option maxRecDepth 100000
noncomputable section
def TTz : List (TypeId × TI) := [(3, ⟨Tryz.t3.desc, (.int .i64), false, 8, [.int .i64 0], false⟩),
 (4, ⟨Tryz.t4.desc, .bool, false, 1, [.bool false], false⟩),
 (5, ⟨Tryz.t5.desc, (.int .u8), false, 1, [.int .u8 0], false⟩),
 (22, ⟨Tryz.t22.desc, (.sl a0e), false, 24, [.nil 55 a0e], false⟩),
 (26, ⟨Tryz.t26.desc, (.sl a0f), false, 24, [.nil 29 a0f], false⟩),
 (29, ⟨Tryz.t23.desc, a0f, true, 48, [.int .i64 0, .int .i64 0, .int .i64 0, .nil 55 a0e], false⟩),
 (36, ⟨Tryz.t36.desc, (.sl (.int .u8)), false, 24, [.nil 5 (.int .u8)], false⟩),
 (44, ⟨Tryz.t44.desc, (.sl (.sl a0e)), false, 24, [.nil 22 (.sl a0e)], false⟩),
 (52, ⟨Tryz.t52.desc, (.sl a1h), false, 24, [.nil 57 a1h], false⟩),
 (55, ⟨Tryz.t55.desc, a0e, true, 24, [.int .i64 0, .int .i64 0, .int .i64 0], false⟩),
 (57, ⟨Tryz.t56.desc, a1h, true, 48, [.int .i64 0, .int .i64 0, .int .i64 0, .int .i64 0, .int .i64 0, .int .i64 0], false⟩),
 (72, ⟨Tryz.t72.desc, (.int .u64), false, 8, [.int .u64 0], false⟩),
 (74, ⟨Tryz.t73.desc, d3h, true, 40, [.nil 5 (.int .u8), .int .i64 0, .int .u64 0], false⟩),
 (76, ⟨Tryz.t76.desc, (.sl (.int .i64)), false, 24, [.nil 3 (.int .i64)], false⟩),
 (80, ⟨Tryz.t80.desc, (.sl (.int .u64)), false, 24, [.nil 84 (.int .u64)], false⟩),
 (81, ⟨Tryz.t55.desc, a0e, true, 24, [.int .i64 0, .int .i64 0, .int .i64 0], false⟩),
 (84, ⟨Tryz.t72.desc, (.int .u64), false, 8, [.int .u64 0], false⟩),
 (111, ⟨Tryz.t111.desc, (.pair a0e (.pair a0e (.pair a0e (.pair a0e (.pair a0e (.pair a0e .unit)))))), true, 144, [.int .i64 0, .int .i64 0, .int .i64 0, .int .i64 0, .int .i64 0, .int .i64 0, .int .i64 0, .int .i64 0, .int .i64 0, .int .i64 0, .int .i64 0, .int .i64 0, .int .i64 0, .int .i64 0, .int .i64 0, .int .i64 0, .int .i64 0, .int .i64 0], false⟩),
 (141, ⟨Tryz.t141.desc, k1i, true, 16, [.int .i64 0, .int .i64 0], false⟩)]
theorem k0y : i9d (fun q => tiB Tryz.prog q.1 q.2) TTz :=
 ⟨⟨by kernel_rfl, by kernel_rfl, by kernel_rfl, by kernel_rfl, by kernel_rfl, by kernel_rfl⟩, ⟨by kernel_rfl, by kernel_rfl, by kernel_rfl, by kernel_rfl, by kernel_rfl, by kernel_rfl⟩, ⟨by kernel_rfl, by kernel_rfl, by kernel_rfl, by kernel_rfl, by kernel_rfl, by kernel_rfl⟩, ⟨by kernel_rfl, by kernel_rfl, by kernel_rfl, by kernel_rfl, by kernel_rfl, by kernel_rfl⟩, ⟨by kernel_rfl, by kernel_rfl, by kernel_rfl, by kernel_rfl, by kernel_rfl, by kernel_rfl⟩, ⟨by kernel_rfl, by kernel_rfl, by kernel_rfl, by kernel_rfl, by kernel_rfl, by kernel_rfl⟩, ⟨by kernel_rfl, by kernel_rfl, by kernel_rfl, by kernel_rfl, by kernel_rfl, by kernel_rfl⟩, ⟨by kernel_rfl, by kernel_rfl, by kernel_rfl, by kernel_rfl, by kernel_rfl, by kernel_rfl⟩, ⟨by kernel_rfl, by kernel_rfl, by kernel_rfl, by kernel_rfl, by kernel_rfl, by kernel_rfl⟩, ⟨by kernel_rfl, by kernel_rfl, by kernel_rfl, by kernel_rfl, by kernel_rfl, by kernel_rfl⟩, ⟨by kernel_rfl, by kernel_rfl, by kernel_rfl, by kernel_rfl, by kernel_rfl, by kernel_rfl⟩, ⟨by kernel_rfl, by kernel_rfl, by kernel_rfl, by kernel_rfl, by kernel_rfl, by kernel_rfl⟩, ⟨by kernel_rfl, by kernel_rfl, by kernel_rfl, by kernel_rfl, by kernel_rfl, by kernel_rfl⟩, ⟨by kernel_rfl, by kernel_rfl, by kernel_rfl, by kernel_rfl, by kernel_rfl, by kernel_rfl⟩, ⟨by kernel_rfl, by kernel_rfl, by kernel_rfl, by kernel_rfl, by kernel_rfl, by kernel_rfl⟩, ⟨by kernel_rfl, by kernel_rfl, by kernel_rfl, by kernel_rfl, by kernel_rfl, by kernel_rfl⟩, ⟨by kernel_rfl, by kernel_rfl, by kernel_rfl, by kernel_rfl, by kernel_rfl, by kernel_rfl⟩, ⟨by kernel_rfl, by kernel_rfl, by kernel_rfl, by kernel_rfl, by kernel_rfl, by kernel_rfl⟩, ⟨by kernel_rfl, by kernel_rfl, by kernel_rfl, by kernel_rfl, by kernel_rfl, by kernel_rfl⟩, trivial⟩
theorem j9d {f : FuncId} {c : Code} {X : Ctx} {As : List ATy} {R : List (Bool × Ty)} {M : List RMode} (fn : Func) (hc : i9d (fun p => Sound Tryz.prog GG p.1 p.2) X.con) (hm : i9d (fun p => c4m Tryz.prog n0 GG p.1 p.2) X.mcon) (hT : X.types = TTz := by rfl) (hg : X.globals = [] := by rfl) (hf : Tryz.prog.funcs[f]? = some fn := by kernel_rfl) (hb : fn.body = some c := by kernel_rfl) (hn : (fn.name == "runtime.NumGoroutine") = false := by kernel_rfl) (hr : X.results = fn.results.toList := by kernel_rfl) (ht : X.ntmps = fn.ntmps := by kernel_rfl) (hA : decide (As.length ≤ X.ntmps ∧ X.ntmps ≤ a0s) = true := by kernel_rfl) : Sound Tryz.prog GG f ⟨As, R, M, a1g X c As R M⟩ :=
 g0g k0m i2q (i4m (by rw [hT]; exact k0y)) (j7b X hg) (h4d hc) (g5s hm) hf hb hn hr ht (of_decide_eq_true hA)
abbrev h8c : List ATy := [.data true a0f]
abbrev i4l : List (Bool × Ty) := [(true, a0f)]
abbrev i1v : List RMode := [.own 55]
abbrev i1b : Type := a0b × Unit → Option (a0b × Unit)
def b5z : i1b := i7o
def f1c : Contract := ⟨h8c, i4l, i1v, b5z⟩
theorem g7f : Sound Tryz.prog GG 43 f1c := i8t
abbrev d2f : List ATy := [.data true a0f]
abbrev d5m : List (Bool × Ty) := [(false, .bool)]
abbrev d6z : List RMode := []
abbrev g8r : Type := a0b × Unit → Option (Bool × Unit)
def f4f : Ctx := { types := TTz, globals := [], con := [(43, f1c), (92, f1x), (99, c0s)], keep := [], results := [.tmp 2], ntmps := 16, n := N }
def f5p : Code := (Tryz.f53.body).getD .skip
def b6v : g8r := hid (a1g f4f f5p d2f d5m d6z)
theorem f5y : b6v = a1g f4f f5p d2f d5m d6z := a0d _
def d6r : Contract := ⟨d2f, d5m, d6z, b6v⟩
theorem h6x : Sound Tryz.prog GG 53 d6r := by
 unfold d6r; rw [f5y]
 exact j9d Tryz.f53 ⟨g7f, g7m, f8a, trivial⟩ trivial
theorem h7m (a0 : a0b) : b6v (a0, ()) =
 Option.bind (a9g (a0, 0, ())) fun r0 =>
 Option.bind (b5z (r0.1, ())) fun r1 =>
 Option.bind (b5z (a0, ())) fun r2 =>
 Option.bind (b0h (r1.1, r2.1, ())) fun r3 =>
 some (!r3.1, ()) := by
 rewrite [f5y]
 kernel_rfl
abbrev g8e : List ATy := [.data false (.int .i64)]
abbrev h0f : List (Bool × Ty) := [(false, (.sl a0f)), (false, .bool)]
abbrev g9f : List RMode := [.own 29]
abbrev g8m : Type := Int × Unit → Option ((List a0b) × Bool × Unit)
def b1g : g8m := g0r
def d3f : Contract := ⟨g8e, h0f, g9f, b1g⟩
theorem e7d : Sound Tryz.prog GG 16 d3f := i4v
abbrev b6c : List ATy := [.data false (.int .i64)]
abbrev a8k : List (Bool × Ty) := [(false, (.int .i64)), (false, .bool)]
abbrev b1t : List RMode := []
abbrev f2b : Type := Int × Unit → Option (Int × Bool × Unit)
def b9i : Ctx := { types := TTz, globals := [], con := [(16, d3f), (53, d6r)], keep := [(4, ⟨[.tmp 4, .tmp 5, .tmp 6, .tmp 14, .tmp 15, .tmp 16], []⟩)], results := [.tmp 2, .tmp 3], ntmps := 27, n := N }
def b9a : Code := (Tryz.f18.body).getD .skip
def c4i (m0 : Nat) (p0 : List a0b) (p1 : Bool) (p2 p3 p4 : Int) : Option (a1y a8k) := a2h b9i b9a a8k b1t 4 [m0] [(.ver, .num 1), (.tmp 4, .val false [.own 29 a0f 0 p0]), (.tmp 5, .val false [.bool p1]), (.tmp 6, .val false [.int .i64 p2]), (.tmp 14, .val false [.view ⟨.tmp 4, 0, 0⟩ 0]), (.tmp 15, .val false [.int .i64 p3]), (.tmp 16, .val false [.int .i64 p4])]
def a5l : f2b := hid (a1g b9i b9a b6c a8k b1t)
theorem d0a : a5l = a1g b9i b9a b6c a8k b1t := a0d _
def b8d : Contract := ⟨b6c, a8k, b1t, a5l⟩
theorem f6o : Sound Tryz.prog GG 18 b8d := by
 unfold b8d; rw [d0a]
 exact j9d Tryz.f18 ⟨e7d, h6x, trivial⟩ trivial
def a3z := hid (c4i)
theorem c4e : a3z = c4i := a0d _
theorem d0z (a0 : Int) : a5l (a0, ()) =
 Option.bind (b1g (a0, ())) fun r0 =>
 a3z N r0.1 r0.2.1 0 (List.length r0.1 : Int) 0 := by
 rewrite [d0a, c4e]
 kernel_rfl
theorem c4c (m0 : Nat) (p0 : List a0b) (p1 : Bool) (p2 p3 p4 : Int) : a3z (m0 + 1) p0 p1 p2 p3 p4 =
 bif decide (p4 < p3) then
 bif inB p4 (List.length p0) then
 Option.bind (b6v ((nth a0f p0 p4), ())) fun r2 =>
 bif r2.1 then
 a3z m0 p0 p1 (IntKind.wrap .i64 (p2 + 1)) p3 (IntKind.wrap .i64 (p4 + 1))
 else
 a3z m0 p0 p1 p2 p3 (IntKind.wrap .i64 (p4 + 1))
 else none
 else
 some (p2, p1, ()) := by
 rewrite [c4e]
 kernel_rfl
abbrev c3s : List ATy := [.data true a0f]
abbrev c8s : List (Bool × Ty) := [(false, .bool)]
abbrev c6u : List RMode := []
abbrev g2r : Type := a0b × Unit → Option (Bool × Unit)
def e2i : Ctx := { types := TTz, globals := [], con := [(56, b0f)], keep := [], results := [.tmp 2], ntmps := 11, n := N }
def e5m : Code := (Tryz.f55.body).getD .skip
def b7y : g2r := hid (a1g e2i e5m c3s c8s c6u)
theorem e0t : b7y = a1g e2i e5m c3s c8s c6u := a0d _
def c6f : Contract := ⟨c3s, c8s, c6u, b7y⟩
theorem g5c : Sound Tryz.prog GG 55 c6f := by
 unfold c6f; rw [e0t]
 exact j9d Tryz.f55 ⟨b7f, trivial⟩ trivial
theorem g5b (a0 : a0b) : b7y (a0, ()) =
 Option.bind (a6p (a0, ())) fun r0 =>
 bif r0.1 then
 some (decide ((List.length a0.2.2.2.1 : Int) > 0), ())
 else
 some (false, ()) := by
 rewrite [e0t]
 kernel_rfl
abbrev b9q : List ATy := [.data true a0f]
abbrev c3r : List (Bool × Ty) := [(true, a0f), (false, .bool)]
abbrev c3n : List RMode := [.own 55]
abbrev f7b : Type := a0b × Unit → Option (a0b × Bool × Unit)
def e0o : Ctx := { types := TTz, globals := [], con := [(43, f1c), (55, c6f)], keep := [], results := [.cell 2 29, .tmp 3], ntmps := 10, n := N }
def d8w : Code := (Tryz.f20.body).getD .skip
def b0y : f7b := hid (a1g e0o d8w b9q c3r c3n)
theorem d9n : b0y = a1g e0o d8w b9q c3r c3n := a0d _
def c3g : Contract := ⟨b9q, c3r, c3n, b0y⟩
theorem g2m : Sound Tryz.prog GG 20 c3g := by
 unfold c3g; rw [d9n]
 exact j9d Tryz.f20 ⟨g7f, g5c, trivial⟩ trivial
theorem g2v (a0 : a0b) : b0y (a0, ()) =
 Option.bind (b7y (a0, ())) fun r0 =>
 bif !r0.1 then
 some ((0, (0, (0, (([] : List a0a), ())))), false, ())
 else
 Option.bind (b5z (a0, ())) fun r2 =>
 some (r2.1, true, ()) := by
 rewrite [d9n]
 kernel_rfl
abbrev f7n : List ATy := [.data true a0f, .data true a0f]
abbrev g2p : List (Bool × Ty) := [(false, (.sl a0f)), (false, .bool)]
abbrev g1v : List RMode := [.own 29]
abbrev f8v : Type := a0b × a0b × Unit → Option ((List a0b) × Bool × Unit)
def c3z : f8v := i7w
def e0l : Contract := ⟨f7n, g2p, g1v, c3z⟩
theorem g2z : Sound Tryz.prog GG 8 e0l := i8v
abbrev b5m : List ATy := [.data false (.sl (.int .u8))]
abbrev a2g : List (Bool × Ty) := [(false, .bool)]
abbrev a5c : List RMode := []
abbrev f0y : Type := (List Int) × Unit → Option (Bool × Unit)
def a8n : Ctx := { types := TTz, globals := [], con := [(6, c2y), (8, e0l), (14, f0q), (15, b8n), (16, d3f), (17, d2u), (18, b8d), (19, b8z), (20, c3g), (21, d2e), (22, e5f), (23, b3v)], keep := [(13, ⟨[.tmp 0, .tmp 3, .tmp 4, .tmp 6, .tmp 12], []⟩), (31, ⟨[.tmp 19, .tmp 21, .tmp 22, .tmp 24, .tmp 25], []⟩), (35, ⟨[.tmp 19, .tmp 21, .tmp 22, .tmp 24, .tmp 25], []⟩)], results := [.tmp 2], ntmps := 222, n := N }
def a5n : Code := (Tryz.f4.body).getD .skip
def c1y (m0 : Nat) (p0 : List Int) (p1 : Int) (p2 p3 : List a0b) (p4 : Int) : Option (a1y a2g) := a2h a8n a5n a2g a5c 13 [m0] [(.ver, .num 1), (.tmp 0, .val false [.imm (.int .u8) p0 (some 0)]), (.tmp 3, .val false [.int .i64 p1]), (.tmp 4, .val false [.own 29 a0f 0 p2]), (.tmp 6, .val false [.imm a0f p3 none]), (.tmp 12, .val false [.int .i64 p4])]
def c2n (m0 : Nat) (p0 p1 p2 : List a0b) (p3 p4 : Int) : Option (a1y a2g) := a2h a8n a5n a2g a5c 31 [m0] [(.ver, .num 1), (.tmp 19, .val false [.own 29 a0f 0 p0]), (.tmp 21, .val false [.imm a0f p1 none]), (.tmp 22, .val false [.own 29 a0f 0 p2]), (.tmp 24, .val false [.int .i64 p3]), (.tmp 25, .val false [.int .i64 p4])]
def c1w (m0 m1 : Nat) (p0 p1 p2 : List a0b) (p3 p4 : Int) : Option (a1y a2g) := a2h a8n a5n a2g a5c 35 [m0, m1] [(.ver, .num 1), (.tmp 19, .val false [.own 29 a0f 0 p0]), (.tmp 21, .val false [.imm a0f p1 none]), (.tmp 22, .val false [.own 29 a0f 0 p2]), (.tmp 24, .val false [.int .i64 p3]), (.tmp 25, .val false [.int .i64 p4])]
def b2b : f0y := hid (a1g a8n a5n b5m a2g a5c)
theorem c9k : b2b = a1g a8n a5n b5m a2g a5c := a0d _
def d0h : Contract := ⟨b5m, a2g, a5c, b2b⟩
theorem f3b : Sound Tryz.prog GG 4 d0h := by
 unfold d0h; rw [c9k]
 exact j9d Tryz.f4 ⟨g2f, g2z, i2r, f5s, e7d, g9n, f6o, f5b, g2m, h0a, i1n, e6p, trivial⟩ trivial
def a3i := hid (c1y)
theorem c2p : a3i = c1y := a0d _
def a3j := hid (c2n)
theorem b2d : a3j = c2n := a0d _
def a4u := hid (c1w)
theorem c2h : a4u = c1w := a0d _
theorem f5w (a0 : List Int) : b2b (a0, ()) =
 Option.bind (d6h (a0, ())) fun r0 =>
 bif r0.1 then
 some (true, ())
 else
 Option.bind (a8c (a0, ())) fun r2 =>
 Option.bind (b1g (r2.1, ())) fun r3 =>
 Option.bind (b1p (r2.1, ())) fun r4 =>
 bif !(r3.2.1 == r4.2.1) then
 some (false, ())
 else
 bif !decide ((List.length r3.1 : Int) = (List.length r4.1 : Int)) then
 some (false, ())
 else
 Option.bind (a5l (r2.1, ())) fun r7 =>
 Option.bind (a5p (r2.1, ())) fun r8 =>
 bif !decide (r7.1 = r8.1) then
 some (false, ())
 else
 bif !(r7.2.1 == r8.2.1) then
 some (false, ())
 else
 bif !(r7.2.1 == r3.2.1) then
 some (false, ())
 else
 bif !decide ((Int.tmod r7.1 2) = 0) then
 some (false, ())
 else
 a3i N a0 r2.1 r3.1 r4.1 0 := by
 rewrite [c9k, c2p]
 kernel_rfl
theorem c2r (m0 : Nat) (p0 : List Int) (p1 : Int) (p2 p3 : List a0b) (p4 : Int) : a3i (m0 + 1) p0 p1 p2 p3 p4 =
 bif decide (p4 < (List.length p2 : Int)) then
 bif inB p4 (List.length p2) then
 Option.bind (b0y ((nth a0f p2 p4), ())) fun r2 =>
 bif inB p4 (List.length p2) then
 Option.bind (b4t ((nth a0f p2 p4), ())) fun r4 =>
 bif inB p4 (List.length p2) then
 bif inB p4 (List.length p3) then
 Option.bind (a8h ((nth a0f p2 p4), (nth a0f p3 p4), ())) fun r7 =>
 bif !r7.1 then
 some (false, ())
 else
 bif !r2.2.1 then
 some (false, ())
 else
 bif !r4.2.1 then
 some (false, ())
 else
 bif inB p4 (List.length p2) then
 Option.bind (a8h (r2.1, (nth a0f p2 p4), ())) fun r12 =>
 bif !r12.1 then
 some (false, ())
 else
 bif !decide ((List.length r4.1 : Int) = 1) then
 some (false, ())
 else
 bif inB p4 (List.length p2) then
 bif !decide ((List.length ((((((nth a0f p2 p4)).2).2).2).1) : Int) = p1) then
 some (false, ())
 else
 a3i m0 p0 p1 p2 p3 (IntKind.wrap .i64 (p4 + 1))
 else none
 else none
 else none
 else none
 else none
 else none
 else
 Option.bind (a6j (p0, ())) fun r1 =>
 Option.bind (c3z (r1.1, r1.2.1, ())) fun r2 =>
 Option.bind (a4d (r1.1, r1.2.1, ())) fun r3 =>
 bif !(r2.2.1 == r3.2.1) then
 some (false, ())
 else
 bif !decide ((List.length r2.1 : Int) = (List.length r3.1 : Int)) then
 some (false, ())
 else
 bif !r2.2.1 then
 some (true, ())
 else
 Option.bind (b1g ((IntKind.wrap .i64 ((List.length r1.1.2.2.2.1 : Int) + (List.length r1.2.1.2.2.2.1 : Int))), ())) fun r7 =>
 bif !r7.2.1 then
 some (false, ())
 else
 a3j N r2.1 r3.1 r7.1 0 0 := by
 rewrite [c2p, b2d]
 kernel_rfl
theorem e4h (m0 : Nat) (p0 p1 p2 : List a0b) (p3 p4 : Int) : a3j (m0 + 1) p0 p1 p2 p3 p4 =
 bif decide (p4 < (List.length p0 : Int)) then
 bif inB p4 (List.length p0) then
 bif inB p4 (List.length p1) then
 Option.bind (a8h ((nth a0f p0 p4), (nth a0f p1 p4), ())) fun r3 =>
 bif !r3.1 then
 some (false, ())
 else
 a4u m0 N p0 p1 p2 p3 p4
 else none
 else none
 else
 some (true, ()) := by
 rewrite [b2d, c2h]
 kernel_rfl
theorem e3x (m0 m1 : Nat) (p0 p1 p2 : List a0b) (p3 p4 : Int) : a4u m0 (m1 + 1) p0 p1 p2 p3 p4 =
 bif decide (p3 < (List.length p2 : Int)) then
 bif inB p3 (List.length p2) then
 bif inB p4 (List.length p0) then
 Option.bind (a8h ((nth a0f p2 p3), (nth a0f p0 p4), ())) fun r3 =>
 bif !r3.1 then
 a4u m0 m1 p0 p1 p2 (IntKind.wrap .i64 (p3 + 1)) p4
 else
 bif decide (p3 = (List.length p2 : Int)) then
 some (false, ())
 else
 a3j m0 p0 p1 p2 p3 (IntKind.wrap .i64 (p4 + 1))
 else none
 else none
 else
 bif decide (p3 = (List.length p2 : Int)) then
 some (false, ())
 else
 a3j m0 p0 p1 p2 p3 (IntKind.wrap .i64 (p4 + 1)) := by
 rewrite [b2d, c2h]
 kernel_rfl
end
end Go.VI
namespace Go.VI
open Go.Proofs
set_option maxRecDepth 100000
theorem j7r (X Y Z : Int) (c : a0a) : i8q X Y Z 0 c = a1s (tl h2f c) (X - 1, 0, 0, ()) := by
 refine a5q ?_ ?_ ?_
 · show X - 1 - c.1 = -c.1 + (X - 1); omega
 · show c.2.1 = c.2.1 + 0; omega
 · show c.2.2.1 = c.2.2.1 + 0; omega
theorem j3t (X Y Z : Int) (l : List a0a) : l.map (i8q X Y Z 0) = (l.map (tl h2f)).map fun c => a1s c (X - 1, 0, 0, ()) := by
 rw [List.map_map]; exact List.map_congr_left fun c _ => j7r X Y Z c
theorem j6b {X Y Z d : Int} (hs : sides X Y Z = true) (d0 : 0 ≤ d) (d1 : d ≤ 2) {c : a0a} (hc : a0k X Y Z c = true) (l : List a0a) : a3e (c, (X, Y, Z, l, ()), d, ()) = some (i8q X Y Z d c, ()) := by
 rw [e9v, a6x]
 simp only [Option.bind_some]
 rw [h8q, i2k d0 d1]
 simp only [cond_true, Option.bind_some]
 rw [i5h hs d0 d1 hc (X, Y, Z, ()) rfl]
theorem j1p {X Y Z : Int} {l : List a0a} (g : GoodH X Y Z l) : ∃ l', a9g ((X, Y, Z, l, ()), 0, ()) = some ((X, Y, Z, l', ()), true, ()) ∧ a9m ((X, Y, Z, l, ()), 0, ()) = some ((X, Y, Z, l', ()), ()) ∧ GoodH X Y Z l' ∧ b1r l' = g1s l := by
 have hs := g.sides
 have hi := g.ins
 have hl := g.small
 obtain ⟨out, e1, e2, e3⟩ := h2n (d := 0) hs (by decide) (by decide) hl hi l.length 0 N [] (by simp) (by unfold Small at hl; have := b6u; omega) List.Pairwise.nil (by simp) (by simp)
 have e1' : a4m N X Y Z l 0 0 0 [] X Y Z [] 0 0 = _ := e1
 have hF : ∀ c ∈ l, (fun (y : a0a × Unit) => a3e (y.1, (X, Y, Z, l, ()), 0, ())) (c, ()) = some (i8q X Y Z 0 c, ()) ∧ a0k X Y Z (i8q X Y Z 0 c) = true := by
  intro c hc
  refine ⟨?_, j6e (hi c hc)⟩
  exact j6b hs (by decide) (by decide) (hi c hc) l
 refine ⟨out, ?_, ?_, ⟨hs, fun x hx => ?_, e2, fun e => ?_⟩, ?_⟩
 · rw [f8q, b7w _ hl, okHeap_iff.2 ⟨hs, hi, g.srt⟩, isDir]
   simp only [Option.bind_some, Bool.not_true, cond_false]
   rw [a6x]
   simp only [Option.bind_some]
   have fm : a6u ((X, Y, Z, l, ()), (X, Y, Z, ()), (fun (y : a0a × Unit) => a3e (y.1, (X, Y, Z, l, ()), 0, ())), ()) = _ := i2p (X := X) (Y := Y) (Z := Z) hs hl hF
   rw [show (!(decide ((0 : Int) ≤ 0) && decide ((0 : Int) ≤ 2))) = false from rfl]
   simp only [cond_false]
   rw [fm, j3w hs (fun c hc => (hF c hc).2) e2 e3]
   rfl
 · rw [f7d, a2x]
   simp only [Option.bind_some]
   exact e1'
 · obtain ⟨c, hc, rfl⟩ := List.mem_map.1 ((e3 x).1 hx)
   exact (hF c hc).2
 · obtain ⟨c, hc⟩ := List.exists_mem_of_ne_nil l g.ne
   have := (e3 _).2 (List.mem_map_of_mem hc)
   rw [e] at this
   cases this
 · rw [d6e e3, j3t, d6g]; rfl
theorem j8r : OkT h2f := by unfold OkT; decide
theorem j9s : Ok3 h2f := .inl ⟨rfl, rfl, rfl⟩
theorem Form.mirror {n : Nat} {x : a0b} (h : Form n x) : Form n (g1s x.2.2.2.1) ∧ g1s (g1s x.2.2.2.1).2.2.2.1 = x := by
 obtain ⟨g, w, e, f⟩ := h.facts
 obtain ⟨X, Y, Z, l, ⟨⟩⟩ := x
 simp only at *
 obtain ⟨_, k, _, _, hk⟩ := i9q j8r g.sides g.ins g.small g.ne
 have hc := c5i (a7k g.sides g.ins) j8r
 have hinj : ∀ c d, tl h2f c = tl h2f d → c = d := fun c d e => by rw [← h5c (s := h2f) (t := h2f) k1d c, e, h5c k1d]
 have h1 := d1q hk
 have h2 := f2f hk (f5o hinj g.srt.nodup)
 rw [List.length_map] at h1 h2
 have hp : 0 < l.length := List.length_pos_iff.2 g.ne
 obtain ⟨s1, s2⟩ : sides k.1 k.2.1 k.2.2.1 = true ∧ Ins k.1 k.2.1 k.2.2.1 k.2.2.2.1 := by
  obtain ⟨lo, hi, a⟩ := hk; exact a.ok hc
 have s3 : Srt k.2.2.2.1 := by obtain ⟨lo, hi, a⟩ := hk; exact a.srt
 have gk : GoodH k.1 k.2.1 k.2.2.1 k.2.2.2.1 := ⟨s1, s2, s3, fun e => by rw [e, List.length_nil] at h2; omega⟩
 have wk := d4j hk (w.map (i9l j9s))
 have em : g1s l = b1r k.2.2.2.1 := (d7o hk).symm
 refine ⟨⟨_, _, _, _, gk, wk, by omega, em⟩, ?_⟩
 rw [em, (i0f gk wk).2.2.2.2, i6r hk, j4c, f]
noncomputable def hdB (x : a0b) : Bool := !e6r (g1s x.2.2.2.1) x
theorem i6k {n : Nat} {x : a0b} (h : Form n x) : b6v (x, ()) = some (hdB x, ()) ∧ b2p (x, ()) = some (hdB x, ()) := by
 obtain ⟨g, w, e, f⟩ := h.facts
 have hm := h.mirror.1
 have sm := hm.smallH
 have sx := h.smallH
 obtain ⟨X, Y, Z, l, ⟨⟩⟩ := x
 simp only at *
 obtain ⟨l', m1, m2, m3, m4⟩ := j1p g
 constructor
 · rw [h7m, m1]
   simp only [Option.bind_some]
   rw [show b5z ((X, Y, Z, l', ()), ()) = some (b1r l', ()) from g3l (x := (X, Y, Z, l', ())) m3, show b5z ((X, Y, Z, l, ()), ()) = some (b1r l, ()) from g3l (x := (X, Y, Z, l, ())) g]
   simp only [Option.bind_some]
   rw [m4, f, j2g sm]
   rfl
 · rw [g7i, m2]
   simp only [Option.bind_some]
   rw [h5v m3, h5v g]
   simp only [Option.bind_some]
   rw [m4, f, i9x sm sx]
   rfl
theorem i6w (L : List a0b) (k : Nat) (h : k < L.length) : (L.drop k).countP hdB = (if hdB L[k] = true then 1 else 0) + (L.drop (k + 1)).countP hdB := by
 rw [List.drop_eq_getElem_cons h, List.countP_cons]; omega
theorem j1h {n : Nat} {L : List a0b} (hL : ∀ x ∈ L, Form n x) (hl : L.length ≤ 2000) (b : Bool) : ∀ (d k m c : Nat), L.length = k + d → d < m → c + d ≤ 2000 →
 a3z m L b (c : Int) (L.length : Int) (k : Int) = some (((c + (L.drop k).countP hdB : Nat) : Int), b, ())
 | d, k, 0, c, _, h, _ => by omega
 | d, k, m + 1, c, hk, hm, hc => by
  rw [c4c]
  by_cases hlt : k < L.length
  · rw [ltT hlt, a1j hlt, b9l (t := a0f) hlt, (i6k (hL _ (List.getElem_mem hlt))).1, a5v k (by omega), i6w L k hlt, a5v c (by omega)]
    simp only [cond_true, Option.bind_some]
    cases hb : hdB L[k] with
    | true =>
     simp only [cond_true]
     rw [j1h hL hl b (d - 1) (k + 1) m (c + 1) (by omega) (by omega) (by omega), if_pos trivial, Nat.add_assoc]
    | false =>
     simp only [cond_false]
     rw [j1h hL hl b (d - 1) (k + 1) m c (by omega) (by omega) (by omega), if_neg (by simp), Nat.zero_add]
  · rw [ltF hlt, List.drop_eq_nil_of_le (by omega)]
    rfl
theorem j0w {n : Nat} {L : List a0b} (hL : ∀ x ∈ L, Form n x) (hl : L.length ≤ 2000) : ∀ (d k m c : Nat), L.length = k + d → d < m → c + d ≤ 2000 →
 a3y m (c : Int) L (k : Int) = some (((c + (L.drop k).countP hdB : Nat) : Int), true, ())
 | d, k, 0, c, _, h, _ => by omega
 | d, k, m + 1, c, hk, hm, hc => by
  rw [e6w]
  by_cases hlt : k < L.length
  · rw [ltT hlt, a1j hlt, b9l (t := a0f) hlt, (i6k (hL _ (List.getElem_mem hlt))).2, a5v k (by omega), i6w L k hlt, a5v c (by omega)]
    simp only [cond_true, Option.bind_some]
    cases hb : hdB L[k] with
    | true =>
     simp only [cond_true]
     rw [j0w hL hl (d - 1) (k + 1) m (c + 1) (by omega) (by omega) (by omega), if_pos trivial, Nat.add_assoc]
    | false =>
     simp only [cond_false]
     rw [j0w hL hl (d - 1) (k + 1) m c (by omega) (by omega) (by omega), if_neg (by simp), Nat.zero_add]
  · rw [ltF hlt, List.drop_eq_nil_of_le (by omega)]
    rfl
theorem h2l {α : Type} [DecidableEq α] (f : α → α) : ∀ (n : Nat) (A : List α), A.length ≤ n → A.Nodup → (∀ x ∈ A, f x ∈ A ∧ f (f x) = x ∧ f x ≠ x) → A.length % 2 = 0
 | _, [], _, _, _ => rfl
 | 0, x :: A, h, _, _ => by simp at h
 | n + 1, x :: A, hn, hd, hf => by
  obtain ⟨h1, h2, h3⟩ := hf x (by simp)
  have hfA : f x ∈ A := by
   rcases List.mem_cons.1 h1 with e | e
   · exact absurd e h3
   · exact e
  have hxA := (List.nodup_cons.1 hd).1
  have hAd := (List.nodup_cons.1 hd).2
  have hlen := List.length_erase_of_mem hfA
  have hpos := List.length_pos_of_mem hfA
  rw [List.length_cons] at hn
  have := h2l f n (A.erase (f x)) (by omega) (hAd.erase _) fun y hy => by
   have hyA := List.mem_of_mem_erase hy
   have hyx : y ≠ f x := fun e => by
    rw [e, hAd.mem_erase_iff] at hy
    exact hy.1 rfl
   obtain ⟨k1, k2, k3⟩ := hf y (by simp [hyA])
   refine ⟨?_, k2, k3⟩
   rw [hAd.mem_erase_iff]
   refine ⟨fun e => ?_, ?_⟩
   · have : y = x := by rw [← k2, e, h2]
     exact hxA (this ▸ hyA)
   · rcases List.mem_cons.1 k1 with e | e
     · exact absurd (by rw [← k2, e]) hyx
     · exact e
  rw [List.length_cons]
  omega
theorem i0b {L : List a0b} (h : Strict L) : L.Nodup := by
 unfold Strict at h
 exact h.imp fun {a b} hab e => by rw [e, b4g] at hab; cases hab
theorem i1y {n : Nat} {L : List a0b} (hs : Strict L) (hL : ∀ x, x ∈ L ↔ Form n x) : L.countP hdB % 2 = 0 := by
 classical
 rw [List.countP_eq_length_filter]
 refine h2l (fun x => g1s x.2.2.2.1) _ (L.filter hdB) (Nat.le_refl _) (List.Pairwise.filter _ (i0b hs)) fun x hx => ?_
 obtain ⟨h1, h2⟩ := List.mem_filter.1 hx
 obtain ⟨m1, m2⟩ := ((hL x).1 h1).mirror
 have hne : g1s x.2.2.2.1 ≠ x := fun e => by
  unfold hdB at h2
  rw [f2i e] at h2
  cases h2
 refine ⟨List.mem_filter.2 ⟨(hL _).2 m1, ?_⟩, m2, hne⟩
 unfold hdB
 show (!e6r (g1s (g1s x.2.2.2.1).2.2.2.1) (g1s x.2.2.2.1)) = true
 rw [m2, e2c (Ne.symm hne)]
 rfl
theorem j6o (n : Int) : (∃ m : Nat, n = (m : Int) ∧ (1 ≤ m ∧ m ≤ 4) ∧ (decide (1 ≤ n) && decide (n ≤ 4)) = true) ∨ (decide (1 ≤ n) && decide (n ≤ 4)) = false := by
 cases hb : decide (1 ≤ n) && decide (n ≤ 4) with
 | true =>
  have hn : 1 ≤ n ∧ n ≤ 4 := by simpa using hb
  exact .inl ⟨n.toNat, by omega, by omega, rfl⟩
 | false => exact .inr rfl
theorem d3c {m : Nat} (h : 1 ≤ m ∧ m ≤ 4) : b1g ((m : Int), ()) = some (FLs m, true, ()) := by
 show g0r ((m : Int), ()) = _
 unfold g0r
 simp only
 rw [decide_eq_true (show (1 : Int) ≤ (m : Int) by omega), decide_eq_true (show (m : Int) ≤ 4 by omega)]
 rfl
theorem f6s {n : Int} (h : (decide (1 ≤ n) && decide (n ≤ 4)) = false) : b1g (n, ()) = some ([], false, ()) := by
 show g0r (n, ()) = _
 unfold g0r
 simp only
 rw [h]
 rfl
theorem g9e {m : Nat} (h : 1 ≤ m ∧ m ≤ 4) : b1p ((m : Int), ()) = some (FLs m, true, ()) := by
 rw [e8u, c0d, decide_eq_true (show (1 : Int) ≤ (m : Int) by omega), decide_eq_true (show (m : Int) ≤ 4 by omega)]
 simp only [Option.bind_some, Bool.and_self, Bool.not_true, cond_false]
 rw [(g5n h).sp]
 rfl
theorem h6s {n : Int} (h : (decide (1 ≤ n) && decide (n ≤ 4)) = false) : b1p (n, ()) = some ([], false, ()) := by
 rw [e8u, c0d, h]; rfl
theorem i1c {m : Nat} (h : 1 ≤ m ∧ m ≤ 4) : a5l ((m : Int), ()) = some ((((FLs m).countP hdB : Nat) : Int), true, ()) := by
 have s := (g5n h).sr
 rw [d0z, d3c h]
 simp only [Option.bind_some]
 have := j1h (fun x hx => (s.mem x).1 hx) s.len true (FLs m).length 0 N 0 (by omega) (by have := s.len; have := b6u; omega) (by have := s.len; omega)
 rw [List.drop_zero, Nat.zero_add] at this
 exact this
theorem h8s {m : Nat} (h : 1 ≤ m ∧ m ≤ 4) : a5p ((m : Int), ()) = some ((((FLs m).countP hdB : Nat) : Int), true, ()) := by
 have s := (g5n h).sr
 rw [c9z, c0d, decide_eq_true (show (1 : Int) ≤ (m : Int) by omega), decide_eq_true (show (m : Int) ≤ 4 by omega)]
 simp only [Option.bind_some, Bool.and_self, Bool.not_true, cond_false]
 rw [(g5n h).sp]
 simp only [Option.bind_some]
 have := j0w (fun x hx => (s.mem x).1 hx) s.len (FLs m).length 0 N 0 (by omega) (by have := s.len; have := b6u; omega) (by have := s.len; omega)
 rw [List.drop_zero, Nat.zero_add] at this
 exact this
theorem i3t {n : Int} (h : (decide (1 ≤ n) && decide (n ≤ 4)) = false) : a5l (n, ()) = some (0, false, ()) := by
 rw [d0z, f6s h]
 simp only [Option.bind_some]
 rw [N_5, c4c]
 rfl
theorem i1x {n : Int} (h : (decide (1 ≤ n) && decide (n ≤ 4)) = false) : a5p (n, ()) = some (0, false, ()) := by
 rw [c9z, c0d, h]; rfl
theorem i3n {n : Nat} {x : a0b} (h : Form n x) : b0y (x, ()) = some (x, true, ()) := by
 obtain ⟨g, w, e, f⟩ := h.facts
 have hp : 0 < x.2.2.2.1.length := List.length_pos_iff.2 g.ne
 rw [g2v, g5b, b7w _ h.smallH, okHeap_iff.2 ⟨g.sides, g.ins, g.srt⟩]
 simp only [Option.bind_some, cond_true]
 rw [decide_eq_true (show (x.2.2.2.1.length : Int) > 0 by omega)]
 simp only [Bool.not_true, cond_false]
 rw [show b5z (x, ()) = some (b1r x.2.2.2.1, ()) from g3l g, f]
 rfl
theorem j3p {n : Nat} {x : a0b} (hf : Form n x) : ∃ ps, b4t (x, ()) = some (ps, true, ()) ∧ ps.length = 1 := by
 obtain ⟨g, w, e, _⟩ := hf.facts
 have hs := g.sides
 have hi := g.ins
 have hr := g.srt
 have h64 := a4n hs hi hr
 have f3 : b2m (x, ()) = _ := g0o hs g.small hi
 obtain ⟨vs, w1, w2, w3⟩ := f0w hs hi x.2.2.2.1.length N x.2.2.2.1 [] (Nat.le_refl _) (by have := b6u; omega) h64 (by simp; omega) hr (fun c hc => hc) (fun c hc d hd _ => hd)
 rw [List.nil_append] at w1
 have w1' : b2z N x.1 x.2.1 x.2.2.1 ((mask x.2.1 x.2.2.1 x.2.2.2.1 0).toNat : Int) [] = _ := w1
 have r1 := k0h (l := x.2.2.2.1) hs vs (by omega) vs.length 0 N [] (by simp) (by have := b6u; omega) (by simp)
 rw [List.drop_zero, List.nil_append] at r1
 refine ⟨vs.map (a3x x.1 x.2.1 x.2.2.1), ?_, (g4k w3 g.ne).2 w⟩
 rw [h0d, b7w _ g.small, okHeap_iff.2 ⟨hs, hi, hr⟩, a6x, f3]
 simp only [Option.bind_some, Bool.not_true, cond_false]
 rw [g6b]
 simp only
 rw [w1']
 simp only [Option.bind_some]
 exact r1
end Go.VI
namespace Go.VI
open Go.Proofs
set_option maxRecDepth 100000
theorem h9d {a b : List a0a} (hl : a.length = b.length) (hs : Small a) : ∀ (d k m : Nat), a.length = k + d → d < m → (∀ i, i < k → a[i]? = b[i]?) → ∃ r, a7b m a b (k : Int) = some (r, ()) ∧ (r = true ↔ a = b)
 | d, k, 0, _, h, _ => by omega
 | d, k, m + 1, hk, hm, hi => by
  have hs' := hs
  unfold Small at hs'
  rw [e4y]
  by_cases hlt : k < a.length
  · have hlt' : k < b.length := by omega
    rw [ltT hlt, a1j hlt, a1j hlt', b9l (t := a0e) hlt, b9l (t := a0e) hlt', j8i, a5v k (by omega)]
    simp only [cond_true]
    by_cases e : a[k] = b[k]
    · rw [decide_eq_true e]
      simp only [Bool.not_true, cond_false]
      refine h9d hl hs (d - 1) (k + 1) m (by omega) (by omega) fun i hik => ?_
      by_cases h : i = k
      · subst h; rw [List.getElem?_eq_getElem hlt, List.getElem?_eq_getElem hlt', e]
      · exact hi i (by omega)
    · rw [decide_eq_false e]
      refine ⟨false, rfl, ⟨(fun h => by cases h), fun h => ?_⟩⟩
      subst h
      exact absurd rfl e
  · rw [ltF hlt]
    refine ⟨true, rfl, ⟨fun _ => ?_, fun _ => rfl⟩⟩
    apply List.ext_getElem?
    intro i
    by_cases h : i < k
    · exact hi i h
    · rw [List.getElem?_eq_none (by omega), List.getElem?_eq_none (by omega)]
theorem j4k (g h : a0b) (hg : Small g.2.2.2.1) : ∃ r, a8h (g, h, ()) = some (r, ()) ∧ (r = true ↔ g = h) := by
 obtain ⟨a, b, c, l, ⟨⟩⟩ := g
 obtain ⟨a', b', c', l', ⟨⟩⟩ := h
 simp only at hg
 rw [f9x]
 simp only
 by_cases h1 : a = a'
 · rw [decide_eq_true h1]
   by_cases h2 : b = b'
   · rw [decide_eq_true h2]
     by_cases h3 : c = c'
     · rw [decide_eq_true h3]
       simp only [cond_true]
       rw [f2d]
       by_cases h4 : l.length = l'.length
       · rw [decide_eq_true (show (l.length : Int) = (l'.length : Int) by omega)]
         simp only [Bool.not_true, cond_false]
         obtain ⟨r, e1, e2⟩ := h9d h4 hg l.length 0 N (by omega) (by unfold Small at hg; have := b6u; omega) (fun i hi => by omega)
         have e1' : a7b N l l' 0 = some (r, ()) := e1
         rw [e1']
         refine ⟨r, rfl, ?_⟩
         rw [e2, h1, h2, h3]
         simp
       · rw [decide_eq_false (show ¬ (l.length : Int) = (l'.length : Int) by omega)]
         exact ⟨false, rfl, ⟨(fun h => by cases h), fun h => by simp only [Prod.mk.injEq] at h; rw [h.2.2.2.1] at h4; exact absurd rfl h4⟩⟩
     · rw [decide_eq_false h3]
       exact ⟨false, rfl, ⟨(fun h => by cases h), fun h => by simp only [Prod.mk.injEq] at h; exact absurd h.2.2.1 h3⟩⟩
   · rw [decide_eq_false h2]
     exact ⟨false, rfl, ⟨(fun h => by cases h), fun h => by simp only [Prod.mk.injEq] at h; exact absurd h.2.1 h2⟩⟩
 · rw [decide_eq_false h1]
   exact ⟨false, rfl, ⟨(fun h => by cases h), fun h => by simp only [Prod.mk.injEq] at h; exact absurd h.1 h1⟩⟩
theorem h2b {C : List Int} (hC : Bts C) (p0 p1 p2 : Int) (p3 : List a0a) : ∀ (d m : Nat) (k : Int) (X Y Z : Int) (l : List a0a) (s : Sd) (n : Nat), k = (d : Int) → d ≤ 100 → d < m → GoodH X Y Z l → At (n + 4 * d) s →
 ∃ (g : a0b) (s' : Sd), a8s m p0 p1 p2 p3 X Y Z l C s.1 s.2.1 k = some ((g, ()), ((C, s'), ())) ∧ At n s' ∧ g.2.2.2.1.length ≤ 64
 | d, 0, k, X, Y, Z, l, s, n, _, _, h, _, _ => by omega
 | 0, m + 1, k, X, Y, Z, l, s, n, hk, _, hm, g, ha => by
  rw [e9k, decide_eq_false (by omega)]
  exact ⟨(X, Y, Z, l, ()), s, rfl, ha.le (by omega), a4n g.sides g.ins g.srt⟩
 | d + 1, m + 1, k, X, Y, Z, l, s, n, hk, hd, hm, g, ha => by
  have h64 := a4n g.sides g.ins g.srt
  have hpos : 0 < l.length := List.length_pos_iff.2 g.ne
  obtain ⟨x, s1, e1, a1, b1, b2⟩ := f9t hC (n := n + 4 * d + 2) (ha.le (by omega)) (l.length : Int)
  obtain ⟨y, s2, e2, a2, c1, c2⟩ := f9t hC (n := n + 4 * d) a1 6
  obtain ⟨i, rfl⟩ : ∃ i : Nat, x = (i : Int) := ⟨x.toNat, by omega⟩
  obtain ⟨f, rfl⟩ : ∃ f : Nat, y = (f : Int) := ⟨y.toNat, by omega⟩
  have hi : i < l.length := by omega
  have hf : f < 6 := by omega
  have hc := List.getElem_mem hi
  have hnear : e6t l[i] := by
   have := sides_iff.1 g.sides
   have := within3_iff.1 (g.ins _ hc)
   unfold e6t; omega
  have hst := g7t g hc hf
  have e1' : a2s ((C, (s.1, (s.2.1, ()))), (l.length : Int), ()) = some (((i : Int), ()), ((C, s1), ())) := e1
  rw [e9k, decide_eq_true (p := k > 0) (by omega), e1']
  simp only [cond_true, Option.bind_some]
  rw [a1j hi, e7p]
  simp only [cond_true, Option.bind_some]
  rw [e2]
  simp only [Option.bind_some]
  rw [a1j (k := f) (n := 6) hf, b9l (t := a0e) hi]
  simp only [cond_true]
  rw [j2j f hf _ hnear]
  simp only [Option.bind_some]
  rw [w64 (x := k - 1) (by omega) (by omega)]
  have tm : ∀ c ∈ l, c7v c := fun c hc => by have := g.tame c hc; unfold c7v; omega
  have next : ∀ (X' Y' Z' : Int) (l' : List a0a), GoodH X' Y' Z' l' → ∃ (g : a0b) (s' : Sd), a8s m p0 p1 p2 p3 X' Y' Z' l' C s2.1 s2.2.1 (k - 1) = some ((g, ()), ((C, s'), ())) ∧ At n s' ∧ g.2.2.2.1.length ≤ 64 := fun X' Y' Z' l' g' =>
   h2b hC p0 p1 p2 p3 d m (k - 1) X' Y' Z' l' s2 n (by omega) (by omega) (by omega) g' a2
  rcases i5a (X := X) (Y := Y) (Z := Z) (l := l) (by omega) tm (d := stp f l[i]) (by omega) with ⟨_, e⟩ | ⟨_, b, _, ⟨hw, o, e, hr, hm'⟩ | ⟨_, e⟩⟩
  · rw [e]
    simp only [Option.bind_some, cond_false]
    exact next X Y Z l g
  · rw [e]
    simp only [Option.bind_some, cond_true]
    have g2 : GoodH 4 4 4 o := ⟨by decide, fun z hz => hw z ((hm' z).1 hz), hr, fun h0 => by
     have := (hm' (a1s (stp f l[i]) b)).2 (List.mem_map_of_mem (by simp))
     rw [h0] at this
     cases this⟩
    obtain ⟨K, c1, c2⟩ := h5q (X := 4) (Y := 4) (Z := 4) g2.small g2.srt g2.tame g2.ne
    rw [c1]
    simp only [Option.bind_some]
    refine next K.1 K.2.1 K.2.2.1 K.2.2.2.1 ?_
    obtain ⟨lo, hi', a⟩ := c2
    obtain ⟨s1', s2'⟩ := a.ok (a7k g2.sides g2.ins)
    refine ⟨s1', s2', a.srt, fun e => ?_⟩
    obtain ⟨c, hcm⟩ := List.exists_mem_of_ne_nil _ g2.ne
    have := (a.mem (a1s c (negC lo))).2 (by rw [a4j]; exact hcm)
    rw [e] at this
    cases this
  · rw [e]
    simp only [Option.bind_some, cond_false]
    exact next X Y Z l g
theorem j0a {C : List Int} (hC : Bts C) {n : Nat} {s : Sd} (h : At (n + 42) s) (k : Int) (hk : 1 ≤ k ∧ k ≤ 10) : ∃ (g : a0b) (s' : Sd), b2u ((C, s), k, ()) = some ((g, ()), ((C, s'), ())) ∧ At n s' ∧ g.2.2.2.1.length ≤ 64 := by
 obtain ⟨x, s1, e1, a1, b1, b2⟩ := f9t hC (n := n + 40) h k
 rw [h9b, j1y, e1]
 simp only [Option.bind_some]
 exact h2b hC 0 0 0 [] x.toNat N x 1 1 1 [i1q] s1 n (by omega) (by omega) (by have := b6u; omega) i1m (a1.le (by omega))
theorem i1w {C : List Int} (hC : Bts C) : ∃ g h : a0b, a6j (C, ()) = some (g, h, ()) ∧ Small g.2.2.2.1 ∧ Small h.2.2.2.1 := by
 have a0 : At 300 ((0, 0, ()) : Sd) := ⟨by simp, by simp⟩
 obtain ⟨g, s1, e1, a1, h1⟩ := j0a hC (n := 258) a0 3 (by omega)
 obtain ⟨h, s2, e2, a2, h2⟩ := j0a hC (n := 216) a1 2 (by omega)
 obtain ⟨b, s3, e3, a3⟩ := j9a hC (n := 214) a2 10
 have e1' : b2u ((C, (0, (0, ()))), 3, ()) = _ := e1
 rw [e6o, e1']
 simp only [Option.bind_some]
 rw [e2]
 simp only [Option.bind_some]
 rw [e3]
 simp only [Option.bind_some]
 cases b with
 | false => exact ⟨g, h, rfl, i2h h1, i2h h2⟩
 | true =>
  obtain ⟨h', s4, e4, a4, h4⟩ := j9y hC (n := 70) a3
  simp only [cond_true]
  rw [e4]
  exact ⟨g, h', rfl, i2h h1, by unfold Small; omega⟩
theorem j0f {C : List Int} (hC : Bts C) : ∃ n : Int, a8c (C, ()) = some (n, ()) := by
 have a0 : At 2 ((0, 0, ()) : Sd) := ⟨by simp, by simp⟩
 obtain ⟨x, s1, e1, _⟩ := f0g hC (n := 0) a0 [3, 2, 4, 1, 0, 5, -1] (by simp)
 have e1' : a2m ((C, (0, (0, ()))), [3, 2, 4, 1, 0, 5, -1], ()) = _ := e1
 rw [f3c, e1']
 exact ⟨x, rfl⟩
theorem i3d {g h : a0b} (hm : k0k g h) {x : a0b} (hx : ∃ t ∈ T24, ∃ v, e9p v ∧ Hit (h3d g.2.2.2.1).2.2.2.1 (a8w t h.2.2.2.1).2.2.2.1 v x) : Form (g.2.2.2.1.length + h.2.2.2.1.length) x := by
 obtain ⟨⟨og, ng, wg⟩, ⟨oh, nh, wh⟩, h4⟩ := hm
 obtain ⟨t, ht, v, hv, ⟨hno, hw⟩, rfl⟩ := hx
 obtain ⟨X, Y, Z, lg, ⟨⟩⟩ := g
 obtain ⟨X', Y', Z', lh, ⟨⟩⟩ := h
 obtain ⟨sg, ig, rg⟩ := okHeap_iff.1 og
 obtain ⟨sh, ih, rh⟩ := okHeap_iff.1 oh
 simp only at *
 have gg : GoodH X Y Z lg := ⟨sg, ig, rg, ng⟩
 have gh : GoodH X' Y' Z' lh := ⟨sh, ih, rh, nh⟩
 have pg : 0 < lg.length := List.length_pos_iff.2 ng
 have ph : 0 < lh.length := List.length_pos_iff.2 nh
 obtain ⟨K, c1, c2⟩ := j0s (X := X) (Y := Y) (Z := Z) (l := lg) gg.small og sg ig ng
 have eK : h3d lg = K := a7e c2
 obtain ⟨_, k, _, _, hk⟩ := i9q (i1r t ht) gh.sides gh.ins gh.small gh.ne
 have ek : a8w t lh = k := a7e hk
 rw [eK, ek] at hw hno ⊢
 have l1 := d1q c2
 have l2 := f2f c2 rg.nodup
 have l3 := d1q hk
 have l4 := f2f hk (f5o (fun c d e => j1k ht e) rh.nodup)
 rw [List.length_map] at l3 l4
 have r1 : Srt K.2.2.2.1 := by obtain ⟨lo, hi, a⟩ := c2; exact a.srt
 have r2 : Srt k.2.2.2.1 := by obtain ⟨lo, hi, a⟩ := hk; exact a.srt
 have hlen : (K.2.2.2.1 ++ mv k.2.2.2.1 v).length = lg.length + lh.length := by simp [mv]; omega
 have corK := e2e c2 (a7k sg ig) (by omega)
 have cork := e2e hk (c5i (a7k sh ih) (i1r t ht)) (by simp; omega)
 have hnd : (K.2.2.2.1 ++ mv k.2.2.2.1 v).Nodup := by
  rw [List.nodup_append]
  exact ⟨r1.nodup, (h4v r2 v).nodup, fun a ha b hb e => hno b hb (e ▸ ha)⟩
 have htm : i7c (K.2.2.2.1 ++ mv k.2.2.2.1 v) := fun c hc => by
  rcases List.mem_append.1 hc with hc | hc
  · have := corK.le c hc; omega
  · have := j2y cork hv c hc; omega
 have := f3w hw hnd (by omega) htm (fun e => by rw [e] at hlen; simp at hlen; omega)
 rwa [hlen] at this
def Left (R A : List a0b) (i at' : Nat) : Prop := ∀ x ∈ R.drop i, x ∈ A.drop at'
theorem j9b {R A : List a0b} (hR : Strict R) (hA : Strict A) (sR : g6v R) (sA : g6v A) (hl : R.length ≤ 20000) (hl2 : A.length ≤ 20000) : ∀ (d i : Nat) (m : Nat), R.length = i + d → d < m → ∀ a : Nat, a ≤ A.length → Left R A i a → a3j m R R A (a : Int) (i : Int) = some (true, ())
 | d, i, 0, _, h, _, _, _ => by omega
 | d, i, m + 1, hi, hm, a, ha, hL => by
  rw [e4h]
  by_cases hlt : i < R.length
  · rw [ltT hlt, a1j hlt, b9l (t := a0f) hlt, i6j _ (sR _ (List.getElem_mem hlt))]
    simp only [cond_true, Option.bind_some, Bool.not_true, cond_false]
    have find : ∀ (e b : Nat) (q : Nat), A.length = b + e → e < q → R[i] ∈ A.drop b → Left R A i b → a4u m q R R A (b : Int) (i : Int) = some (true, ()) := by
     intro e
     induction e with
     | zero =>
      intro b q hb hq hmem hLb
      rw [List.drop_eq_nil_of_le (by omega)] at hmem
      cases hmem
     | succ e ih =>
      intro b q hb hq hmem hLb
      obtain ⟨q, rfl⟩ : ∃ q', q = q' + 1 := ⟨q - 1, by omega⟩
      have hbl : b < A.length := by omega
      obtain ⟨r, r1, r2⟩ := j4k A[b] R[i] (sA _ (List.getElem_mem hbl))
      rw [e3x, ltT hbl, a1j hbl, a1j hlt, b9l (t := a0f) hbl, b9l (t := a0f) hlt, r1]
      simp only [cond_true, Option.bind_some]
      have hsplit : A.drop b = A[b] :: A.drop (b + 1) := List.drop_eq_getElem_cons hbl
      cases r with
      | false =>
       have hne : A[b] ≠ R[i] := fun e => by have := r2.2 e; cases this
       simp only [Bool.not_false, cond_true]
       rw [a5v b (by omega)]
       refine ih (b + 1) q (by omega) (by omega) ?_ fun x hx => ?_
       · rw [hsplit] at hmem
         rcases List.mem_cons.1 hmem with h | h
         · exact absurd h.symm hne
         · exact h
       · have hx' := hLb x hx
         rw [hsplit] at hx'
         rcases List.mem_cons.1 hx' with h | h
         ·
          have hRd : R.drop i = R[i] :: R.drop (i + 1) := List.drop_eq_getElem_cons hlt
          rw [hRd] at hx
          rcases List.mem_cons.1 hx with h' | h'
          · exact absurd (h'.symm.trans h).symm hne
          · have hp := hR
            unfold Strict at hp
            rw [← List.take_append_drop i R, List.pairwise_append, hRd, List.pairwise_cons] at hp
            have h1 := hp.2.1.1 x h'
            have hq := hA
            unfold Strict at hq
            rw [← List.take_append_drop b A, List.pairwise_append, hsplit, List.pairwise_cons] at hq
            have hmem' := hmem
            rw [hsplit] at hmem'
            rcases List.mem_cons.1 hmem' with h2 | h2
            · exact absurd h2.symm hne
            · have h3 := hq.2.1.1 _ h2
              rw [h] at h1
              have := c9q h1 h3
              rw [b4g] at this
              cases this
         · exact h
      | true =>
       have he := r2.1 rfl
       simp only [Bool.not_true, cond_false]
       rw [decide_eq_false (show ¬ (b : Int) = (A.length : Int) by omega), a5v i (by omega)]
       simp only [cond_false]
       refine j9b hR hA sR sA hl hl2 (d - 1) (i + 1) m (by omega) (by omega) b (by omega) fun x hx => ?_
       refine hLb x ?_
       rw [List.drop_eq_getElem_cons hlt]
       exact List.mem_cons_of_mem _ hx
    exact find (A.length - a) a N (by omega) (by have := b6u; omega) (hL _ (by rw [List.drop_eq_getElem_cons hlt]; exact List.mem_cons_self ..)) hL
  · rw [ltF hlt]; rfl
theorem i5u {C : List Int} (hC : Bts C) (p1 : Int) (L : List a0b) (m : Nat) : a3i (m + 1) C p1 L L (L.length : Int) = some (true, ()) := by
 rw [c2r, ltF (show ¬ L.length < L.length by omega)]
 simp only [cond_false]
 obtain ⟨g, h, e, hg, hh⟩ := i1w hC
 obtain ⟨R, b, j1, j2, j3, j4, _, j6, j7, j8⟩ := i5v g h hg hh
 rw [e]
 simp only [Option.bind_some]
 rw [show c3z (g, h, ()) = _ from j1, j2]
 simp only [Option.bind_some, beq_self_eq_true, Bool.not_true, cond_false, decide_true]
 cases b with
 | false => rfl
 | true =>
  simp only [Bool.not_true, cond_false]
  have hm := j6.1 rfl
  obtain ⟨k1, k2⟩ := j7 rfl
  obtain ⟨⟨_, ng, _⟩, ⟨_, nh, _⟩, h4⟩ := hm
  have pg : 0 < g.2.2.2.1.length := List.length_pos_iff.2 ng
  have ph : 0 < h.2.2.2.1.length := List.length_pos_iff.2 nh
  have h14 : 1 ≤ g.2.2.2.1.length + h.2.2.2.1.length ∧ g.2.2.2.1.length + h.2.2.2.1.length ≤ 4 := by omega
  rw [w64 (by omega) (by omega), show (g.2.2.2.1.length : Int) + (h.2.2.2.1.length : Int) = ((g.2.2.2.1.length + h.2.2.2.1.length : Nat) : Int) by omega, d3c h14]
  simp only [Option.bind_some, Bool.not_true, cond_false]
  have s := (g5n h14).sr
  exact j9b k1 s.strict j3 s.small (by omega) (by have := s.len; omega) R.length 0 N (by omega) (by have := b6u; omega) 0 (Nat.zero_le _) fun x hx => by
   rw [List.drop_zero] at hx ⊢
   exact (s.mem x).2 (i3d (j6.1 rfl) ((k2 x).1 hx))
theorem i6p {C : List Int} (hC : Bts C) {n : Nat} {L : List a0b} (hL : ∀ x ∈ L, Form n x) (hl : L.length ≤ 2000) : ∀ (d k m : Nat), L.length = k + d → d + 1 < m + 1 → a3i (m + 1) C (n : Int) L L (k : Int) = some (true, ())
 | 0, k, m, hk, hm => by rw [show k = L.length by omega]; exact i5u hC _ L m
 | d + 1, k, 0, hk, hm => by omega
 | d + 1, k, m + 1, hk, hm => by
  have hlt : k < L.length := by omega
  have hf := hL _ (List.getElem_mem hlt)
  obtain ⟨ps, e1, e2⟩ := j3p hf
  have hlen := hf.facts.2.2.1
  rw [c2r, ltT hlt, a1j hlt, b9l (t := a0f) hlt, i3n hf]
  simp only [cond_true, Option.bind_some]
  rw [e1]
  simp only [Option.bind_some]
  rw [i6j _ hf.smallH]
  simp only [Option.bind_some, Bool.not_true, cond_false]
  rw [e2, hlen, decide_eq_true rfl, decide_eq_true (show ((1 : Nat) : Int) = 1 from rfl), a5v k (by omega)]
  simp only [Bool.not_true, cond_false]
  exact i6p hC hL hl d (k + 1) m (by omega) (by omega)
theorem h5m (a0 : List Int) (hb : ∀ b ∈ a0, 0 ≤ b ∧ b ≤ 255) : b2b (a0, ()) = some (true, ()) := by
 rw [f5w, i3f]
 simp only [Option.bind_some]
 by_cases hbig : (a0.length : Int) > 65536
 · rw [decide_eq_true hbig]; rfl
 · rw [decide_eq_false hbig]
   simp only [cond_false]
   have hC : Bts a0 := ⟨by omega, hb⟩
   obtain ⟨n, e⟩ := j0f hC
   rw [e]
   simp only [Option.bind_some]
   rcases j6o n with ⟨m, rfl, hm, _⟩ | hn
   · have s := (g5n hm).sr
     rw [d3c hm, g9e hm]
     simp only [Option.bind_some, beq_self_eq_true, Bool.not_true, cond_false, decide_true]
     rw [i1c hm, h8s hm]
     simp only [Option.bind_some, beq_self_eq_true, Bool.not_true, cond_false, decide_true]
     have hev := i1y s.strict s.mem
     rw [decide_eq_true (show Int.tmod (((FLs m).countP hdB : Nat) : Int) 2 = 0 by rw [Int.tmod_eq_emod_of_nonneg (by omega)]; omega)]
     simp only [Bool.not_true, cond_false]
     rw [N_5]
     exact i6p hC (fun x hx => (s.mem x).1 hx) s.len (FLs m).length 0 _ (by omega) (by have := s.len; have := b6u; omega)
   · rw [f6s hn, h6s hn]
     simp only [Option.bind_some, beq_self_eq_true, Bool.not_true, cond_false, decide_true]
     rw [i3t hn, i1x hn]
     simp only [Option.bind_some, beq_self_eq_true, Bool.not_true, cond_false, decide_true]
     rw [decide_eq_true (show Int.tmod 0 2 = 0 from rfl)]
     simp only [Bool.not_true, cond_false]
     rw [N_5]
     exact i5u hC n [] _
end Go.VI
namespace Go.VI
noncomputable section
open Go.RowKit
def f6d (P : Program) (rec : TypeId → Ty → Bool) : Nat → List Field → Ty → Bool
 | _, [], .unit => true
 | off, f :: r, .pair a b => Nat.beq f.offset off && Nat.beq (P.cellsOf f.type) a.size && rec f.type a && f6d P rec (off + a.size) r b
 | _, _, _ => false
def i9o (P : Program) (rec : TypeId → Ty → Bool) (e : TypeId) : Nat → Ty → Bool
 | 0, .unit => true
 | n + 1, .pair a b => Nat.beq (P.cellsOf e) a.size && rec e a && i9o P rec e n b
 | _, _ => false
def f0f (P : Program) : Nat → TypeId → Ty → Bool
 | 0, _, _ => false
 | n + 1, T, t => match P.underlying T with
  | some (.int k) => match t with | .int k' => decide (k = k') | _ => false
  | some .bool => match t with | .bool => true | _ => false
  | some .string => match t with | .str => true | _ => false
  | some (.slice e) => match t with | .sl t' => Nat.blt 0 t'.size && Nat.beq (P.cellsOf e) t'.size && f0f P n e t' | _ => false
  | some (.struct fs) => f6d P (f0f P n) 0 fs.toList t && Nat.beq (P.cellsOf T) t.size
  | some (.array m e) => i9o P (f0f P n) e m t && Nat.beq (P.cellsOf T) t.size
  | _ => false
def Wf : (t : Ty) → t.den → Prop
 | .int k, n => k.min ≤ n ∧ n ≤ k.max
 | .bool, _ => True
 | .str, s => s.length ≤ maxLen
 | .unit, _ => True
 | .pair a b, x => Wf a x.1 ∧ Wf b x.2
 | .sl t, l => l.length ≤ maxLen ∧ ∀ x ∈ l, Wf t x
theorem g5d {α : Type} (p : Nat → α → Prop) : ∀ (n : Nat), (∀ i, i < n → ∃ x, p i x) → ∃ l : List α, l.length = n ∧ ∀ i x, l[i]? = some x → p i x
 | 0, _ => ⟨[], rfl, by simp⟩
 | n + 1, h => by
  obtain ⟨l, h1, h2⟩ := g5d p n fun i hi => h i (by omega)
  obtain ⟨x, hx⟩ := h n (by omega)
  refine ⟨l ++ [x], by simp [h1], fun i y hy => ?_⟩
  by_cases hi : i < l.length
  · rw [List.getElem?_append_left hi] at hy; exact h2 i y hy
  · have : i = n := by
     have := (List.getElem?_eq_some_iff.1 hy).1
     simp at this; omega
    subst this
    rw [← h1] at hy
    simp at hy
    subst hy; exact hx
section
variable {H : Type} {enc : TypeId × Value → H} {P : Program} {w : World} {base : Nat} {spare : Nat → Bool} {held : Bool}
def InW (w : World) : Nat → Prop := fun g => g < w.heap.size
theorem h3h (n fuel : Nat) (ih : ∀ (T : TypeId) (t : Ty) (cs : List Value) (d : DataW H) (ps : List MemPlace), f0f P n T t = true → DataW.trod enc P w base spare held fuel T cs = some (d, ps) → ∃ x, RepI (InW w) w t x cs ∧ Wf t x)
 (cs : List Value) : ∀ (fs : List Field) (off : Nat) (t : Ty), f6d P (f0f P n) off fs t = true → cs.length = off + t.size →
 (∀ f ∈ fs, ∃ y, DataW.trod enc P w base spare held fuel f.type ((cs.drop f.offset).take (P.cellsOf f.type)) = some y) → ∃ x, RepI (InW w) w t x (cs.drop off) ∧ Wf t x
 | [], off, t, h, hl, _ => by
  cases t <;> simp [f6d] at h
  refine ⟨(), ?_, trivial⟩
  exact List.drop_eq_nil_of_le (by simp [Ty.size] at hl; omega)
 | f :: r, off, t, h, hl, hm => by
  cases t <;> simp [f6d] at h
  rename_i a b
  obtain ⟨⟨⟨h1, h2⟩, h3⟩, h4⟩ := h
  obtain ⟨⟨d, ps⟩, hy⟩ := hm f (by simp)
  rw [h1, h2] at hy
  obtain ⟨x, hx, wx⟩ := ih _ _ _ _ _ h3 hy
  obtain ⟨y, hy2, wy⟩ := h3h n fuel ih cs r (off + a.size) b h4 (by simp [Ty.size] at hl; omega) fun f' hf' => hm f' (by simp [hf'])
  refine ⟨(x, y), ⟨_, _, ?_, hx, hy2⟩, wx, wy⟩
  rw [← List.drop_drop, List.take_append_drop]
theorem j0x (n fuel : Nat) (ih : ∀ (T : TypeId) (t : Ty) (cs : List Value) (d : DataW H) (ps : List MemPlace), f0f P n T t = true → DataW.trod enc P w base spare held fuel T cs = some (d, ps) → ∃ x, RepI (InW w) w t x cs ∧ Wf t x)
 (cs : List Value) (e : TypeId) : ∀ (m i : Nat) (t : Ty), i9o P (f0f P n) e m t = true → cs.length = i * P.cellsOf e + t.size →
 (∀ k, i ≤ k → k < i + m → ∃ y, DataW.trod enc P w base spare held fuel e ((cs.drop (k * P.cellsOf e)).take (P.cellsOf e)) = some y) → ∃ x, RepI (InW w) w t x (cs.drop (i * P.cellsOf e)) ∧ Wf t x
 | 0, i, t, h, hl, _ => by
  cases t <;> simp [i9o] at h
  refine ⟨(), ?_, trivial⟩
  exact List.drop_eq_nil_of_le (by simp [Ty.size] at hl; omega)
 | m + 1, i, t, h, hl, hm => by
  cases t <;> simp [i9o] at h
  rename_i a b
  obtain ⟨⟨h2, h3⟩, h4⟩ := h
  obtain ⟨⟨d, ps⟩, hy⟩ := hm i (Nat.le_refl _) (by omega)
  obtain ⟨x, hx, wx⟩ := ih _ _ _ _ _ h3 hy
  obtain ⟨y, hy2, wy⟩ := j0x n fuel ih cs e m (i + 1) b h4 (by rw [Nat.succ_mul]; simp [Ty.size] at hl; omega) fun k hk hk' => hm k (by omega) (by omega)
  refine ⟨(x, y), ⟨_, _, ?_, hx, hy2⟩, wx, wy⟩
  rw [Nat.succ_mul, ← List.drop_drop, List.take_append_drop]
theorem g3o : ∀ (n fuel : Nat) (T : TypeId) (t : Ty) (cs : List Value) (d : DataW H) (ps : List MemPlace), f0f P n T t = true → DataW.trod enc P w base spare held fuel T cs = some (d, ps) → ∃ x, RepI (InW w) w t x cs ∧ Wf t x
 | 0, fuel, T, t, cs, d, ps, ht, _ => by simp [f0f] at ht
 | n + 1, fuel, T, t, cs, d, ps, ht, h => by
  simp only [f0f] at ht
  split at ht
  · rename_i k hu
    cases t <;> simp at ht
    subst ht
    obtain ⟨v, rfl, _, hw⟩ := DataW.trod_int hu h
    simp only [Lit.wf, Bool.and_eq_true, decide_eq_true_eq] at hw
    exact ⟨v, rfl, hw⟩
  · rename_i hu
    cases t <;> simp at ht
    obtain ⟨v, rfl, _⟩ := DataW.trod_bool hu h
    exact ⟨v, rfl, trivial⟩
  · rename_i hu
    cases t <;> simp at ht
    obtain ⟨s, rfl, _, hs⟩ := DataW.trod_string hu h
    exact ⟨s.data.toList, rfl, (show s.data.toList.length ≤ maxLen by rw [Array.length_toList]; exact hs)⟩
  · rename_i e hu
    cases t <;> simp at ht
    rename_i t'
    obtain ⟨⟨h0, h1⟩, h2⟩ := ht
    rcases DataW.trod_slice hu h with ⟨rfl, _⟩ | ⟨a, len, cap, elems, rest, m, rfl, rfl, _, hb, hlc, hcm, hel, hget, _, _⟩
    · exact ⟨[], ⟨none, 0, rfl, Nat.le_refl _, fun i x hx => by simp at hx⟩, by simp, by simp⟩
    · have hone : ∀ i, i < len → ∃ x, (∃ us, RepI (InW w) w t' x us ∧ ∀ j u, us[j]? = some u → w.cell? (a.add (i * t'.size + j)) = some u) ∧ Wf t' x ∧ a.block < w.heap.size := by
       intro i hi
       have he := hget i hi
       rw [List.getElem?_eq_getElem (by omega), Option.bind_eq_some_iff] at he
       obtain ⟨cs', hc', ht'⟩ := he
       obtain ⟨x, hx, wx⟩ := g3o n m e t' cs' elems[i].1 elems[i].2 h2 ht'
       obtain ⟨_, hl', hcell⟩ := World.cells?_some hc'
       have hblk := World.cells?_block hc' (by rw [h1]; exact h0)
       rw [e7u] at hblk
       refine ⟨x, ⟨cs', hx, fun j u hu' => ?_⟩, wx, hblk⟩
       have hj : j < P.cellsOf e := by rw [← hl']; exact (List.getElem?_eq_some_iff.1 hu').1
       have := hcell j hj
       rw [add_add, hu', h1] at this
       exact this
      obtain ⟨l, hl, hall⟩ := g5d _ len hone
      refine ⟨l, ⟨some a, cap, by rw [hl], by rw [hl]; exact hlc, fun i x hx => ?_⟩, by rw [hl]; exact Nat.le_trans hlc hcm, fun x hx => ?_⟩
      · obtain ⟨⟨us, k1, k2⟩, _, k3⟩ := hall i x hx
        exact ⟨a, rfl, k3, us, k1, k2⟩
      · obtain ⟨i, hi⟩ := List.mem_iff_getElem?.1 hx
        exact (hall i x hi).2.1
  · rename_i fs hu
    simp only [Bool.and_eq_true] at ht
    have hsz := Nat.eq_of_beq_eq_true ht.2
    obtain ⟨xs, m, rfl, _, hl, hxl, hx⟩ := DataW.trod_struct hu h
    have := h3h (enc := enc) (base := base) (spare := spare) (held := held) n m (fun T t cs d ps h1 h2 => g3o n m T t cs d ps h1 h2) cs fs.toList 0 t ht.1 (by rw [hl, hsz]; simp) fun f hf => by
     obtain ⟨i, hi⟩ := List.mem_iff_getElem?.1 hf
     have hi' : fs[i]? = some f := by simpa using hi
     have hlt : i < xs.length := by rw [hxl]; exact (Array.getElem?_eq_some_iff.1 hi').1
     exact ⟨xs[i], by rw [hx i f hi']; exact List.getElem?_eq_getElem hlt⟩
    simpa using this
  · rename_i m e hu
    simp only [Bool.and_eq_true] at ht
    have hsz := Nat.eq_of_beq_eq_true ht.2
    obtain ⟨xs, f', rfl, _, hl, hxl, hx⟩ := DataW.trod_array hu h
    have := j0x (enc := enc) (base := base) (spare := spare) (held := held) n f' (fun T t cs d ps h1 h2 => g3o n f' T t cs d ps h1 h2) cs e m 0 t ht.1 (by rw [hl, hsz]; simp) fun k _ hk => by
     have hk' : k < xs.length := by omega
     exact ⟨xs[k], by rw [hx k (by omega)]; exact List.getElem?_eq_getElem hk'⟩
    simpa using this
  · simp at ht
end
end
end Go.VI
namespace Go.VI
noncomputable section
open Go.RowKit
def g6d (P : Program) (T : TypeId) : Bool :=
 match P.underlying T with
 | some (.struct _) | some (.array _ _) => true
 | _ => false
def e7y (P : Program) (n : Nat) : List TypeId → List ATy → Bool
 | [], [] => true
 | T :: Ts, .data g t :: As => (g == g6d P T) && f0f P n T t && e7y P n Ts As
 | _, _ => false
def WfA : (As : List ATy) → c4b As → Prop
 | [], _ => True
 | .data _ t :: r, x => Wf t x.1 ∧ WfA r x.2
 | .ptr t :: r, x => Wf t x.1 ∧ WfA r x.2
 | .clo _ _ :: r, x => WfA r x.2
 | .lrow _ t _ :: r, x => Wf t x.1 ∧ WfA r x.2
 | .lptr t :: r, x => Wf t x.1 ∧ WfA r x.2
section
variable {H : Type} {enc : TypeId × Value → H} {P : Program} {w : World} {base base' : Nat} {spare : Nat → Bool} {held : Bool} {r : Reach}
theorem j2s {n : Nat} {T : TypeId} {t : Ty} {v : Value} (ht : f0f P n T t = true) (hok : Value.okWide P w r base T v) : v = a3a (g6d P T) v.cells.toList ∧ (g6d P T = false → v.cells.toList.length = 1) := by
 cases n with
 | zero => simp [f0f] at ht
 | succ n =>
  have one : g6d P T = false → Cell.okWide P w r base T v → v.cells = #[v] := by
   intro hg hc
   cases v <;> first | rfl | skip
   all_goals
    exfalso
    unfold Cell.okWide Cell.ok at hc
    simp only [f0f] at ht
    cases hu : P.underlying T with
    | none => rw [hu] at hc; simp at hc
    | some d => rw [hu] at hc ht; cases d <;> simp_all
  unfold Value.okWide at hok
  cases hu : P.underlying T with
  | none => simp [f0f, hu] at ht
  | some d =>
   rw [hu] at hok
   have hg : g6d P T = match (some d : Option TypeDesc) with | some (.struct _) | some (.array _ _) => true | _ => false := by unfold g6d; rw [hu]
   cases d
   case struct fs =>
    obtain ⟨cs, rfl, _, _⟩ := hok
    rw [hg]
    exact ⟨rfl, fun hh => by cases hh⟩
   case array m e =>
    obtain ⟨cs, rfl, _, _⟩ := hok
    rw [hg]
    exact ⟨rfl, fun hh => by cases hh⟩
   all_goals
    have hf : g6d P T = false := hg
    have := one hf hok
    rw [this, hf]
    exact ⟨rfl, fun _ => rfl⟩
theorem i0r {G : World → Prop} {n : Nat} : ∀ (Ts : List TypeId) (As : List ATy) (vs : List Value) (ds : List (DataW H)) (ps : List MemPlace), e7y P n Ts As = true → DataW.TrodAll enc P w base spare held Ts vs ds ps →
 (∀ (j : Nat) T v, Ts[j]? = some T → vs[j]? = some v → Value.okWide P w r base' T v) → ∃ xs : c4b As, RelArgs P G (InW w) w As xs vs ∧ WfA As xs
 | [], [], vs, ds, ps, _, h, _ => by
  cases vs with
  | nil => exact ⟨(), rfl, trivial⟩
  | cons v vs => cases ds <;> exact h.elim
 | [], _ :: _, vs, ds, ps, hd, _, _ => by simp [e7y] at hd
 | T :: Ts, [], vs, ds, ps, hd, _, _ => by simp [e7y] at hd
 | T :: Ts, .ptr t :: As, vs, ds, ps, hd, _, _ => by simp [e7y] at hd
 | T :: Ts, .clo a b :: As, vs, ds, ps, hd, _, _ => by simp [e7y] at hd
 | T :: Ts, .lrow g t es :: As, vs, ds, ps, hd, _, _ => by simp [e7y] at hd
 | T :: Ts, .lptr t :: As, vs, ds, ps, hd, _, _ => by simp [e7y] at hd
 | T :: Ts, .data g t :: As, vs, ds, ps, hd, h, hok => by
  simp only [e7y, Bool.and_eq_true, beq_iff_eq] at hd
  obtain ⟨⟨hg, ht⟩, hd⟩ := hd
  cases vs with
  | nil => cases ds <;> exact h.elim
  | cons v vs =>
   cases ds with
   | nil => exact h.elim
   | cons d ds =>
    obtain ⟨p, q, ⟨fuel, h1⟩, h2, _⟩ := h
    obtain ⟨x, hx, wx⟩ := g3o n fuel T t _ d p ht h1
    obtain ⟨xs, hxs, wxs⟩ := i0r (G := G) Ts As vs ds q hd h2 fun j T' v' hj hv => hok (j + 1) T' v' (by simpa using hj) (by simpa using hv)
    obtain ⟨e1, e2⟩ := j2s ht (hok 0 T v rfl rfl)
    subst hg
    exact ⟨(x, xs), ⟨v.cells.toList, vs, by rw [← e1], e2, hx, hxs⟩, wx, wxs⟩
end
end
end Go.VI
namespace Go.VI
open Go.RowKit
theorem j0c {H : Type} {enc : TypeId × Value → H} {P : Program} {G : World → Prop} {f : FuncId} {fn : Func} {c : Code} {As : List ATy} {F : c4b As → Option (a1y [(false, .bool)])} {W : World} {spare : Nat → Bool} {held : Bool} {base base' n : Nat} {r : Reach}
 {args : Array Value} {ds : List (DataW H)} {ps : List MemPlace} (hs : Sound P G f ⟨As, [(false, .bool)], [], F⟩) (hf : P.funcs[f]? = some fn) (hb : fn.body = some c) (hn : (fn.name == "runtime.NumGoroutine") = false)
 (hd : e7y P n fn.params.toList As = true) (hG : G W) (hA : DataW.TrodAll enc P W base spare held fn.params.toList args.toList ds ps)
 (hok : ∀ (j : Nat) t v, fn.params[j]? = some t → args[j]? = some v → Value.okWide P W r base' t v)
 (hF : ∀ xs, WfA As xs → F xs = some (true, ())) : Calls P f args W fun e W' => e = .returned (.bool true) ∧ Go.RowKit.Below W.heap.size W W' := by
 obtain ⟨xs, hxs, wxs⟩ := i0r (G := G) (n := n) fn.params.toList As args.toList ds ps hd hA (fun j T v hj hv => hok j T v (by simpa using hj) (by simpa using hv))
 have h := hs W (InW W) args.toList xs (true, ()) hG (fun g hg => hg) hxs (hF xs wxs)
 have hn' : ¬ fn.name = "runtime.NumGoroutine" := by simpa using hn
 have hrun : (callFunc f args).run P W = .ok (.enter f args) W := by simp [callFunc, program, Sem.run, hf, hb, hn']
 rcases h with ⟨v, w', h1, _⟩ | ⟨_, h2⟩
 · simp only [Array.toArray_toList] at h1
   rw [hrun] at h1
   cases h1
 · simp only [Array.toArray_toList] at h2
   refine h2.mono ?_
   rintro e W' ⟨v, rfl, Z', us, rfl, hbel, _, _, ⟨g, hl, hcell, _⟩⟩
   refine ⟨?_, hbel.toRow⟩
   have hc := (hcell 0 (false, [.flat (.bool true)]) rfl)
   obtain ⟨k1, _, k3⟩ := hc
   have k3 := k3 0 _ rfl
   have hl : us.length = 1 := hl
   match us, hl with
   | [u], _ =>
    simp only [List.getElem?_cons_zero, Option.some.injEq] at k1
    have hu : g 0 0 = .bool true := k3.2
    rw [k1]
    simp [e6n, a3a, List.range_succ, hu]
theorem f3x {H : Type} {enc : TypeId × Value → H} {P : Program} {W W' : World} (hl : laidOutB P = true) (hb : Go.RowKit.Below W.heap.size W W') : ∀ (Ts : List TypeId) (vs : List Value) (ds : List (DataW H)) (ps : List MemPlace),
 (Ts.all fun T => P.readableRec T && decide (T < P.types.size)) = true → DataW.TrodAll enc P W 0 (fun _ => true) true Ts vs ds ps → (∀ x ∈ ps, x.block < W.heap.size) →
 DataW.TrodAll enc P W' 0 (fun b => decide (b < W.heap.size)) true Ts vs ds ps
 | [], [], [], ps, _, h, _ => h
 | [], _ :: _, _, ps, _, h, _ => by cases h
 | [], [], _ :: _, ps, _, h, _ => by cases h
 | T :: Ts, [], ds, ps, _, h, _ => by cases ds <;> cases h
 | T :: Ts, v :: vs, [], ps, _, h, _ => by cases h
 | T :: Ts, v :: vs, d :: ds, ps, hT, h, hlt => by
  simp only [List.all_cons, Bool.and_eq_true, decide_eq_true_eq] at hT
  obtain ⟨p, q, h1, h2, rfl⟩ := h
  exact ⟨p, q, Below.trod hl hT.1.1 hT.1.2 h1 hb fun x hx => hlt x (by simp [hx]), f3x hl hb Ts vs ds q hT.2 h2 fun x hx => hlt x (by simp [hx]), rfl⟩
end Go.VI
