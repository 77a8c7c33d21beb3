/- Plain: the first forms of n cells, and how they grow. -/
import Derived.Test.YtlnfgikipeiaiaaGreatPlCb
import Derived.Test.YtlnfgikipeiaiaaGreatWjSort
import Derived.Lib.Hide
import Derived.Deep.QuietTactic
import Derived.BigQuiet
import Derived.Deep.RegionHeld3
namespace Go.VI
open Go.Proofs
set_option maxRecDepth 100000
def Form (n : Nat) (x : a0b) : Prop := ∃ X Y Z l, GoodH X Y Z l ∧ Whole l ∧ l.length = n ∧ x = b1r l
theorem Form.facts {n : Nat} {x : a0b} (h : Form n x) : GoodH x.1 x.2.1 x.2.2.1 x.2.2.2.1 ∧ Whole x.2.2.2.1 ∧ x.2.2.2.1.length = n ∧ b1r x.2.2.2.1 = x := by
 obtain ⟨X, Y, Z, l, g, w, e, rfl⟩ := h
 obtain ⟨h1, h2, h3, h4, _⟩ := i0f g w
 exact ⟨h1, h2, by omega, h4⟩
theorem f5d (d : a0a) : Whole [d] := fun a ha b hb => by
 rw [List.mem_singleton.1 ha, List.mem_singleton.1 hb]; exact .base rfl
theorem h8k {l m : List a0a} (hw : Whole l) (hn : l.Nodup) (hm : ∀ c ∈ m, c ∈ l) {a : a0a} (ha : a ∈ m) (hlt : m.length < l.length) : ∃ d ∈ l, d ∉ m ∧ ∃ c ∈ m, nb c d := by
 by_cases hex : ∃ d ∈ l, d ∉ m ∧ ∃ c ∈ m, nb c d
 · exact hex
 · have hall : ∀ x ∈ l, x ∈ m := fun x hx => Rch.of (r := fun c => c ∈ m) (fun c hc => by rw [show c = a from hc]; exact ha) (fun c d hcm hcd hd => by
    by_cases hdm : d ∈ m
    · exact hdm
    · exact absurd ⟨d, hd, hdm, c, hcm, hcd⟩ hex) (hw a (hm a ha) x hx)
   have := c2j hn hall
   omega
theorem i0u {l : List a0a} (hw : Whole l) (hn : l.Nodup) : ∀ k, k + 1 ≤ l.length → ∃ m : List a0a, m.Nodup ∧ m.length = k + 1 ∧ (∀ c ∈ m, c ∈ l) ∧ Whole m
 | 0, h => ⟨[l[0]], by simp, rfl, fun c hc => by rw [List.mem_singleton.1 hc]; exact List.getElem_mem _, f5d _⟩
 | k + 1, h => by
  obtain ⟨m, m1, m2, m3, m4⟩ := i0u hw hn k (by omega)
  obtain ⟨a, ha⟩ := List.exists_mem_of_ne_nil m (fun e => by rw [e] at m2; simp at m2)
  obtain ⟨d, d1, d2, c, c1, c2⟩ := h8k hw hn m3 ha (by omega)
  refine ⟨m ++ [d], ?_, by simp [m2], fun x hx => ?_, e6a m4 (f5d d) (s := d) (f := c) (by simp) c1 (e2x c2)⟩
  · rw [List.nodup_append]
    exact ⟨m1, by simp, fun x hx y hy e => d2 (by rw [List.mem_singleton.1 hy] at e; exact e ▸ hx)⟩
  · rcases List.mem_append.1 hx with hx | hx
    · exact m3 x hx
    · rw [List.mem_singleton.1 hx]; exact d1
theorem f3w {l : List a0a} (hw : Whole l) (hn : l.Nodup) (h4 : l.length ≤ 4) (ht : i7c l) (hne : l ≠ []) : Form l.length (b1r l) := by
 obtain ⟨K, k1, k2⟩ := i6v (l := l) (by unfold Small; omega) (c0y hw h4) ht hne
 have h1 := d1q k2
 have h2 := f2f k2 hn
 have hp : 0 < l.length := List.length_pos_iff.2 hne
 have s : sides K.1 K.2.1 K.2.2.1 = true ∧ Ins K.1 K.2.1 K.2.2.1 K.2.2.2.1 := by
  obtain ⟨lo, hi, a⟩ := k2; exact a.ok (c0y hw h4)
 have s3 : Srt K.2.2.2.1 := by obtain ⟨lo, hi, a⟩ := k2; exact a.srt
 exact ⟨K.1, K.2.1, K.2.2.1, K.2.2.2.1, ⟨s.1, s.2, s3, fun e => by rw [e, List.length_nil] at h2; omega⟩, d4j k2 hw, by omega, (d7o k2).symm⟩
theorem i8z {n : Nat} (h1 : 1 ≤ n) {x : a0b} (h : Form (n + 1) x) : ∃ y, Form n y ∧ ∃ c ∈ y.2.2.2.1, ∃ f, f < 6 ∧ stp f c ∉ y.2.2.2.1 ∧ x = b1r (y.2.2.2.1 ++ [stp f c]) := by
 obtain ⟨X, Y, Z, l, g, w, e, rfl⟩ := h
 obtain ⟨m, m1, m2, m3, m4⟩ := i0u w g.srt.nodup (n - 1) (by omega)
 obtain ⟨a, ha⟩ := List.exists_mem_of_ne_nil m (fun e => by rw [e] at m2; simp at m2)
 obtain ⟨d, d1, d2, c, c1, c2⟩ := h8k w g.srt.nodup m3 ha (by omega)
 have hset : ∀ z, z ∈ l.filter (fun z => decide (z ≠ d)) ↔ z ∈ m := fun z => by
  rw [List.mem_filter]
  constructor
  · rintro ⟨hz, hzd⟩
    by_cases hzm : z ∈ m
    · exact hzm
    · have := c2j (a := z :: d :: m) (b := l) (by
       rw [List.nodup_cons, List.nodup_cons]
       refine ⟨fun hm => ?_, d2, m1⟩
       rcases List.mem_cons.1 hm with rfl | hm
       · simp at hzd
       · exact hzm hm) fun y hy => by
         rcases List.mem_cons.1 hy with rfl | hy
         · exact hz
         · rcases List.mem_cons.1 hy with rfl | hy
           · exact d1
           · exact m3 y hy
      simp at this
      omega
  · intro hz
    exact ⟨m3 z hz, decide_eq_true fun e => d2 (e ▸ hz)⟩
 obtain ⟨l', el⟩ : ∃ l', l' = l.filter (fun z => decide (z ≠ d)) := ⟨_, rfl⟩
 rw [← el] at hset
 have hsr : Srt l' := by rw [el]; exact List.Pairwise.filter _ g.srt
 have hlen : l'.length = n := by
  have a1 := c2j hsr.nodup fun z hz => (hset z).1 hz
  have a2 := c2j m1 fun z hz => (hset z).2 hz
  omega
 have g' : GoodH X Y Z l' := ⟨g.sides, fun z hz => g.ins z (m3 z ((hset z).1 hz)), hsr, fun e => by rw [e] at hlen; simp at hlen; omega⟩
 have w' : Whole l' := m4.set fun z => (hset z).symm
 obtain ⟨t, ht, hk⟩ := h3n g'
 obtain ⟨v, hv⟩ := h4l hk
 have back : ∀ z, z ∈ l' ↔ a1s (tl t z) (negC v) ∈ (b1r l').2.2.2.1 := fun z => by
  constructor
  · intro hz
    obtain ⟨u, hu, eu⟩ := List.mem_map.1 ((hv (tl t z)).2 (List.mem_map_of_mem hz))
    rw [← eu, b0u]; exact hu
  · intro hz
    have := (hv _).1 (List.mem_map_of_mem (f := fun c => a1s c v) hz)
    rw [a4j] at this
    obtain ⟨u, hu, eu⟩ := List.mem_map.1 this
    exact j1k ht eu ▸ hu
 have hdl : d ∉ l' := fun hd => d2 ((hset d).1 hd)
 obtain ⟨f, hf, ef⟩ := i0p (negC v) _ _ (i9l (j4d t ht) c d c2)
 refine ⟨b1r l', ⟨X, Y, Z, l', g', w', hlen, rfl⟩, a1s (tl t c) (negC v), (back c).1 ((hset c).2 c1), f, hf, ?_, ?_⟩
 · rw [← ef]; exact fun hd => hdl ((back d).2 hd)
 · rw [← ef, ← h4o ht l, ← d6g (l := (b1r l').2.2.2.1 ++ [a1s (tl t d) (negC v)]) v]
   refine d6e fun z => ?_
   rw [List.map_append, List.mem_append, hv]
   simp only [List.map_cons, List.map_nil, List.mem_singleton, List.mem_map]
   rw [a4j]
   constructor
   · rintro ⟨u, hu, rfl⟩
     by_cases hud : u = d
     · exact .inr (by rw [hud])
     · exact .inl ⟨u, by rw [el, List.mem_filter]; exact ⟨hu, decide_eq_true hud⟩, rfl⟩
   · rintro (⟨u, hu, rfl⟩ | rfl)
     · exact ⟨u, m3 u ((hset u).1 hu), rfl⟩
     · exact ⟨d, d1, rfl⟩
theorem g7t {X Y Z : Int} {l : List a0a} (g : GoodH X Y Z l) {c : a0a} (hc : c ∈ l) {f : Nat} (hf : f < 6) : -1 ≤ (stp f c).1 ∧ (stp f c).1 ≤ 4 ∧ -1 ≤ (stp f c).2.1 ∧ (stp f c).2.1 ≤ 4 ∧ -1 ≤ (stp f c).2.2.1 ∧ (stp f c).2.2.1 ≤ 4 := by
 have hs := sides_iff.1 g.sides
 have hi := within3_iff.1 (g.ins c hc)
 have hn := nb_iff.1 (show nb c (stp f c) from ⟨f, hf, rfl⟩)
 omega
theorem f1b {n : Nat} {y : a0b} (hy : Form n y) {c : a0a} (hc : c ∈ y.2.2.2.1) {f : Nat} (hf : f < 6) (hd : stp f c ∉ y.2.2.2.1) : Whole (y.2.2.2.1 ++ [stp f c]) ∧ (y.2.2.2.1 ++ [stp f c]).Nodup ∧ (y.2.2.2.1 ++ [stp f c]).length = n + 1 ∧ i7c (y.2.2.2.1 ++ [stp f c]) := by
 obtain ⟨g, w, e, _⟩ := hy.facts
 refine ⟨e6a w (f5d _) (s := stp f c) (f := c) (by simp) hc (e2x ⟨f, hf, rfl⟩), ?_, by simp [e], fun z hz => ?_⟩
 · rw [List.nodup_append]
   exact ⟨g.srt.nodup, by simp, fun x hx y hy e => hd (by rw [List.mem_singleton.1 hy] at e; exact e ▸ hx)⟩
 · rcases List.mem_append.1 hz with hz | hz
   · exact g.tame z hz
   · rw [List.mem_singleton.1 hz]
     have := g7t g hc hf
     omega
theorem h9y {n : Nat} (h3 : n ≤ 3) {y : a0b} (hy : Form n y) {c : a0a} (hc : c ∈ y.2.2.2.1) {f : Nat} (hf : f < 6) (hd : stp f c ∉ y.2.2.2.1) : Form (n + 1) (b1r (y.2.2.2.1 ++ [stp f c])) := by
 obtain ⟨h1, h2, h4, h5⟩ := f1b hy hc hf hd
 have := f3w h1 h2 (by omega) h5 (by simp)
 rwa [h4] at this
theorem i1j {n : Nat} (h1 : 1 ≤ n) (h3 : n ≤ 3) {x : a0b} : Form (n + 1) x ↔ ∃ y, Form n y ∧ ∃ c ∈ y.2.2.2.1, ∃ f, f < 6 ∧ stp f c ∉ y.2.2.2.1 ∧ x = b1r (y.2.2.2.1 ++ [stp f c]) := by
 constructor
 · exact i8z h1
 · rintro ⟨y, hy, c, hc, f, hf, hd, rfl⟩
   exact h9y h3 hy hc hf hd
end Go.VI
namespace Go.VI
open Go.Proofs
set_option maxRecDepth 100000
theorem i1l {M : List a0a} (hM : M.length ≤ 3000) : ∀ (d k m : Nat) (o : List a0a), M.length = k + d → d < m → Srt o → o.length ≤ k → (∀ c, c ∈ o ↔ c ∈ M.take k) → (∀ c ∈ M.take k, a0k 4 4 4 c = true) →
 ((∀ c ∈ M, a0k 4 4 4 c = true) ∧ ∃ o', a4p m 0 0 0 [] 4 4 4 o M (k : Int) = some ((4, 4, 4, o', ()), true, ()) ∧ Srt o' ∧ ∀ c, c ∈ o' ↔ c ∈ M) ∨
 ((¬ ∀ c ∈ M, a0k 4 4 4 c = true) ∧ a4p m 0 0 0 [] 4 4 4 o M (k : Int) = some (noH, false, ()))
 | d, k, 0, o, _, h, _, _, _, _ => by omega
 | d, k, m + 1, o, hk, hm, hr, hol, ho, hw => by
  rw [f8x]
  by_cases hlt : k < M.length
  · rw [ltT hlt, a1j hlt, b9l (t := a0e) hlt, f0e ((4, (4, (4, (o, ())))) : a0b) _ (show sides 4 4 4 = true by decide)]
    simp only [cond_true, Option.bind_some]
    cases hc : a0k 4 4 4 M[k] with
    | false =>
     refine .inr ⟨fun h => ?_, rfl⟩
     have := h _ (List.getElem_mem hlt)
     rw [hc] at this
     cases this
    | true =>
     simp only [Bool.not_true, cond_false]
     obtain ⟨o', e1, e2, e3, e4⟩ := f4i (X := 4) (Y := 4) (Z := 4) hr M[k] (by omega)
     rw [e1]
     simp only [Option.bind_some]
     rw [a5v k (by omega)]
     refine i1l hM (d - 1) (k + 1) m o' (by omega) (by omega) e2 (by omega) (fun c => ?_) fun c hc' => ?_
     · rw [e3, ho, List.take_succ_eq_append_getElem hlt, List.mem_append, List.mem_singleton]
       exact Or.comm
     · rw [List.take_succ_eq_append_getElem hlt, List.mem_append] at hc'
       rcases hc' with hc' | hc'
       · exact hw c hc'
       · rw [List.mem_singleton.1 hc']; exact hc
  · rw [ltF hlt]
    rw [List.take_of_length_le (by omega)] at ho hw
    exact .inl ⟨hw, o, rfl, hr, ho⟩
theorem j4f {X Y Z : Int} {l : List a0a} (hl : l.length ≤ 1000) (tl : ∀ c ∈ l, c7v c) {d : a0a} (td : -1000 ≤ d.1 ∧ d.1 ≤ 1000 ∧ -1000 ≤ d.2.1 ∧ d.2.1 ≤ 1000 ∧ -1000 ≤ d.2.2.1 ∧ d.2.2.1 ≤ 1000) :
 a4b N X Y Z l d.1 d.2.1 d.2.2.1 0 0 0 [] 0 0 0 0 = a4p N 0 0 0 [] 4 4 4 [] (([d] ++ l).map fun c => a1s c (upd (0, 0, 0, ()) d)) 0 := by
 have w0 := f1w (x := d.1) (by omega) (by omega)
 have w1 := f1w (x := d.2.1) (by omega) (by omega)
 have w2 := f1w (x := d.2.2.1) (by omega) (by omega)
 have td' : c7v d := by unfold c7v; omega
 rw [h8r, b5g]
 show (Option.bind (a1i (0, (IntKind.wrap .i64 (0 - d.1)), ())) fun r2 => a4b (N - 4 + 1 + 1 + 1) X Y Z l d.1 d.2.1 d.2.2.1 0 0 0 [] r2.1 0 0 1) = _
 rw [w0, d6f]
 simp only [Option.bind_some]
 rw [b5g]
 show (Option.bind (a1i (0, (IntKind.wrap .i64 (0 - d.2.1)), ())) fun r2 => a4b (N - 4 + 1 + 1) X Y Z l d.1 d.2.1 d.2.2.1 0 0 0 [] (mx 0 (-d.1)) r2.1 0 2) = _
 rw [w1, d6f]
 simp only [Option.bind_some]
 rw [b5g]
 show (Option.bind (a1i (0, (IntKind.wrap .i64 (0 - d.2.2.1)), ())) fun r2 => a4b (N - 4 + 1) X Y Z l d.1 d.2.1 d.2.2.1 0 0 0 [] (mx 0 (-d.1)) (mx 0 (-d.2.1)) r2.1 3) = _
 rw [w2, d6f]
 simp only [Option.bind_some]
 rw [b5g, a2x]
 rw [show decide ((3 : Int) < 3) = false from rfl]
 simp only [cond_false, Option.bind_some]
 rw [h7k (by simp) (by omega)]
 simp only [cond_true]
 rw [b8q]
 simp only [Option.bind_some]
 have e0 := h6f 0 (-d.1); have e1 := h6f 0 (-d.2.1); have e2 := h6f 0 (-d.2.2.1)
 rw [show ((d.1, (d.2.1, (d.2.2.1, ()))) : a0a) = d from rfl, show ((mx 0 (-d.1), (mx 0 (-d.2.1), (mx 0 (-d.2.2.1), ()))) : a0a) = upd (0, 0, 0, ()) d from rfl, g3r (X := X) (Y := Y) (Z := Z) (l := [d] ++ l) (by unfold Small; simp; omega) (by unfold c7v upd; simp only; omega) fun c hc => by
  rcases List.mem_append.1 hc with hc | hc
  · rw [List.mem_singleton.1 hc]; exact td'
  · exact tl c hc]
 rw [← h8r]
 rfl
theorem i5a {X Y Z : Int} {l : List a0a} (hl : l.length ≤ 1000) (tl : ∀ c ∈ l, c7v c) {d : a0a} (td : -1000 ≤ d.1 ∧ d.1 ≤ 1000 ∧ -1000 ≤ d.2.1 ∧ d.2.1 ≤ 1000 ∧ -1000 ≤ d.2.2.1 ∧ d.2.2.1 ≤ 1000) :
 (d ∈ l ∧ a3r ((X, Y, Z, l, ()), d, ()) = some (noH, false, ())) ∨
 (d ∉ l ∧ ∃ b, IsBy [d] b ∧
   (((∀ c ∈ ([d] ++ l).map (fun c => a1s c b), a0k 4 4 4 c = true) ∧ ∃ o', a3r ((X, Y, Z, l, ()), d, ()) = some ((4, 4, 4, o', ()), true, ()) ∧ Srt o' ∧ ∀ c, c ∈ o' ↔ c ∈ ([d] ++ l).map fun c => a1s c b) ∨
    ((¬ ∀ c ∈ ([d] ++ l).map (fun c => a1s c b), a0k 4 4 4 c = true) ∧ a3r ((X, Y, Z, l, ()), d, ()) = some (noH, false, ())))) := by
 rw [h0p, i4g _ _ _ _ _ (show Small l by unfold Small; omega)]
 simp only [Option.bind_some]
 by_cases hd : d ∈ l
 · rw [decide_eq_true hd]
   exact .inl ⟨hd, rfl⟩
 · rw [decide_eq_false hd]
   simp only [cond_false]
   rw [j4f hl tl td]
   refine .inr ⟨hd, upd (0, 0, 0, ()) d, IsBy.nil.snoc d, ?_⟩
   have hM : (([d] ++ l).map fun c => a1s c (upd (0, 0, 0, ()) d)).length ≤ 3000 := by simp; omega
   exact i1l hM (([d] ++ l).map fun c => a1s c (upd (0, 0, 0, ()) d)).length 0 N [] (by omega) (by have := b6u; omega) List.Pairwise.nil (by simp) (by simp) (by simp)
end Go.VI
namespace Go.VI
open Go.Proofs
set_option maxRecDepth 100000
theorem j2j (k : Nat) (hk : k < 6) (c : a0a) (hc : e6t c) : a7d (c, ((bif decide ((k : Int) = (0 : Int)) then (-1) else (bif decide ((k : Int) = (1 : Int)) then 1 else (bif decide ((k : Int) = (2 : Int)) then 0 else (bif decide ((k : Int) = (3 : Int)) then 0 else (bif decide ((k : Int) = (4 : Int)) then 0 else 0))))), ((bif decide ((k : Int) = (0 : Int)) then 0 else (bif decide ((k : Int) = (1 : Int)) then 0 else (bif decide ((k : Int) = (2 : Int)) then (-1) else (bif decide ((k : Int) = (3 : Int)) then 1 else (bif decide ((k : Int) = (4 : Int)) then 0 else 0))))), ((bif decide ((k : Int) = (0 : Int)) then 0 else (bif decide ((k : Int) = (1 : Int)) then 0 else (bif decide ((k : Int) = (2 : Int)) then 0 else (bif decide ((k : Int) = (3 : Int)) then 0 else (bif decide ((k : Int) = (4 : Int)) then (-1) else 1))))), ()))), ()) = some (stp k c, ()) := by
 rcases six hk with rfl | rfl | rfl | rfl | rfl | rfl <;> rw [j2x c hc _ _ _ (by decide) (by decide) (by decide), k1g] <;> simp
theorem cons_snoc {l : List a0a} {d c : a0a} : c ∈ [d] ++ l ↔ c ∈ l ++ [d] := by
 rw [List.mem_append, List.mem_append]; exact Or.comm
theorem j6i {n : Nat} (h1 : 1 ≤ n) (h3 : n ≤ 3) {y : a0b} (hy : Form n y) {c : a0a} (hc : c ∈ y.2.2.2.1) {f : Nat} (hf : f < 6) :
 (stp f c ∈ y.2.2.2.1 ∧ a3r (y, stp f c, ()) = some (noH, false, ())) ∨
 (stp f c ∉ y.2.2.2.1 ∧ ∃ o, a3r (y, stp f c, ()) = some (o, true, ()) ∧ a3q (o, ()) = some (b1r (y.2.2.2.1 ++ [stp f c]), ())) := by
 obtain ⟨g, w, e, hi⟩ := hy.facts
 have hn := g7t g hc hf
 have tm : ∀ c ∈ y.2.2.2.1, c7v c := fun c hc => by have := g.tame c hc; unfold c7v; omega
 obtain ⟨X, Y, Z, l, ⟨⟩⟩ := y
 simp only at *
 rcases i5a (X := X) (Y := Y) (Z := Z) (l := l) (by omega) tm (d := stp f c) (by omega) with h | ⟨hd, b, hb, h⟩
 · exact .inl h
 · refine .inr ⟨hd, ?_⟩
   obtain ⟨k1, k2, k3, k4⟩ := f1b hy hc hf hd
   simp only at k1 k2 k3 k4
   have hcl : Close (l ++ [stp f c]) := c0y k1 (by omega)
   have hcor : Cor l := by
    obtain ⟨X', Y', Z', l', g', w', e', rfl'⟩ := hy
    obtain ⟨t, ht, hk⟩ := h3n g'
    rw [← rfl'] at hk
    exact e2e hk (c5i (a7k g'.sides g'.ins) (i1r t ht)) (by simpa using by omega)
   have hfit : ∀ z ∈ ([stp f c] ++ l).map (fun c => a1s c b), a0k 4 4 4 z = true := fun z hz => by
    refine fits hcor hb hcl z ?_
    rw [List.mem_map] at hz ⊢
    obtain ⟨u, hu, e⟩ := hz
    exact ⟨u, cons_snoc.1 hu, e⟩
   rcases h with ⟨hw, o, e1, hr, hm⟩ | ⟨hw, _⟩
   · refine ⟨_, e1, ?_⟩
     have g2 : GoodH 4 4 4 o := ⟨by decide, fun z hz => hw z ((hm z).1 hz), hr, fun h0 => by
      have := (hm (a1s (stp f c) b)).2 (List.mem_map_of_mem (by simp))
      rw [h0] at this
      cases this⟩
     rw [h5v g2, d6e hm, d6g, d6e fun z => cons_snoc]
   · exact absurd hfit hw
def j0i (y : a0b) (c : a0a) (f : Nat) (x : a0b) : Prop := stp f c ∉ y.2.2.2.1 ∧ x = b1r (y.2.2.2.1 ++ [stp f c])
theorem Form.smallH {n : Nat} {x : a0b} (h : Form n x) : Small x.2.2.2.1 := h.facts.1.small
section
variable {n : Nat} (h1 : 1 ≤ n) (h3 : n ≤ 3) {L : List a0b} (hL : ∀ y ∈ L, Form n y) (p0 p2 : Int)
include h1 h3 hL
theorem j5z (m0 m1 m2 : Nat) {i j : Nat} (hi : i < L.length) (hj : j < (L[i]).2.2.2.1.length) : ∀ (d f m : Nat) (out : List a0b) (P : a0b → Prop) (k : Nat), f + d = 6 → d < m → k + d ≤ 100000 → Sr out P k →
 ∃ out', Sr out' (fun x => P x ∨ ∃ f', f ≤ f' ∧ f' < 6 ∧ j0i L[i] (L[i]).2.2.2.1[j] f' x) (k + d) ∧ a4l m0 m1 m2 m p0 L p2 out (i : Int) (j : Int) (f : Int) = a4k m0 m1 m2 p0 L p2 out' (i : Int) (IntKind.wrap .i64 ((j : Int) + 1))
 | d, f, 0, out, P, k, _, h, _, _ => by omega
 | 0, f, m + 1, out, P, k, hf, hm, hk, hs => by
  rw [d4n, decide_eq_false (by omega)]
  refine ⟨out, hs.congr (fun x => ⟨.inl, fun h => ?_⟩) (by omega), rfl⟩
  rcases h with h | ⟨f', a, b, _⟩
  · exact h
  · omega
 | d + 1, f, m + 1, out, P, k, hf, hm, hk, hs => by
  have hf6 : f < 6 := by omega
  have hy := hL _ (List.getElem_mem hi)
  have hc := List.getElem_mem hj
  obtain ⟨g, w, e, hid⟩ := hy.facts
  have hnear : e6t (L[i]).2.2.2.1[j] := by
   have := sides_iff.1 g.sides
   have := within3_iff.1 (g.ins _ hc)
   unfold e6t; omega
  rw [d4n, decide_eq_true (p := (f : Int) < 6) (by omega), a1j hi, b9l (t := a0f) hi, a1j hj, b9l (t := a0e) hj, e7p, a1j (k := f) (n := 6) hf6]
  simp only [cond_true, Option.bind_some]
  rw [j2j f hf6 _ hnear]
  simp only [Option.bind_some]
  rcases j6i h1 h3 hy hc hf6 with ⟨hin, e1⟩ | ⟨hin, o, e1, e2⟩
  · rw [e1]
    simp only [Option.bind_some, cond_false]
    rw [a5v f (by omega)]
    obtain ⟨out', s', e'⟩ := j5z m0 m1 m2 hi hj d (f + 1) m out P k (by omega) (by omega) (by omega) hs
    refine ⟨out', s'.congr (fun x => ?_) (by omega), e'⟩
    constructor
    · rintro (h | ⟨f', a, b, h⟩)
      · exact .inl h
      · exact .inr ⟨f', by omega, b, h⟩
    · rintro (h | ⟨f', a, b, h⟩)
      · exact .inl h
      · refine .inr ⟨f', ?_, b, h⟩
        by_cases ef : f' = f
        · subst ef; exact absurd hin h.1
        · omega
  · rw [e1]
    simp only [Option.bind_some, cond_true]
    rw [e2]
    simp only [Option.bind_some]
    have hx := h9y h3 hy hc hf6 hin
    obtain ⟨out1, i1, i2, i3, i4⟩ := i6t hs.strict hs.small (by have := hs.len; omega) hx.smallH
    rw [i1]
    simp only [Option.bind_some]
    rw [a5v f (by omega)]
    have s1 : Sr out1 (fun x => P x ∨ x = b1r ((L[i]).2.2.2.1 ++ [stp f (L[i]).2.2.2.1[j]])) (k + 1) := ⟨i2, fun a ha => by
     rcases (i3 a).1 ha with ha | rfl
     · exact hs.small a ha
     · exact hx.smallH, fun x => by rw [i3, hs.mem], by have := hs.len; omega⟩
    obtain ⟨out', s', e'⟩ := j5z m0 m1 m2 hi hj d (f + 1) m out1 _ (k + 1) (by omega) (by omega) (by omega) s1
    refine ⟨out', s'.congr (fun x => ?_) (by omega), e'⟩
    constructor
    · rintro ((h | h) | ⟨f', a, b, h⟩)
      · exact .inl h
      · exact .inr ⟨f, by omega, hf6, hin, h⟩
      · exact .inr ⟨f', by omega, b, h⟩
    · rintro (h | ⟨f', a, b, h⟩)
      · exact .inl (.inl h)
      · by_cases ef : f' = f
        · subst ef; exact .inl (.inr h.2)
        · exact .inr ⟨f', by omega, b, h⟩
theorem j8t (m0 m1 : Nat) {i : Nat} (hi : i < L.length) : ∀ (d j m : Nat) (out : List a0b) (P : a0b → Prop) (k : Nat), (L[i]).2.2.2.1.length = j + d → d < m → k + 6 * d ≤ 100000 → Sr out P k →
 ∃ out', Sr out' (fun x => P x ∨ ∃ j', ∃ hj : j' < (L[i]).2.2.2.1.length, j ≤ j' ∧ ∃ f', f' < 6 ∧ j0i L[i] (L[i]).2.2.2.1[j'] f' x) (k + 6 * d) ∧ a4k m0 m1 m p0 L p2 out (i : Int) (j : Int) = a6a m0 m1 p0 L p2 out' (IntKind.wrap .i64 ((i : Int) + 1))
 | d, j, 0, out, P, k, _, h, _, _ => by omega
 | 0, j, m + 1, out, P, k, hj, hm, hk, hs => by
  rw [d3p, a1j hi, b9l (t := a0f) hi, ltF (show ¬ j < (L[i]).2.2.2.1.length by omega)]
  refine ⟨out, hs.congr (fun x => ⟨.inl, fun h => ?_⟩) (by omega), rfl⟩
  rcases h with h | ⟨j', a, b, _⟩
  · exact h
  · omega
 | d + 1, j, m + 1, out, P, k, hj, hm, hk, hs => by
  have hlt : j < (L[i]).2.2.2.1.length := by omega
  have hy := hL _ (List.getElem_mem hi)
  have hlen := hy.facts.2.2.1
  rw [d3p, a1j hi, b9l (t := a0f) hi, ltT hlt]
  simp only [cond_true]
  obtain ⟨out1, s1, e1⟩ := j5z h1 h3 hL p0 p2 m0 m1 m hi hlt 6 0 N out P k (by omega) (by have := b6u; omega) (by omega) hs
  have e1' : a4l m0 m1 m N p0 L p2 out (i : Int) (j : Int) 0 = _ := e1
  rw [e1', a5v j (by omega)]
  obtain ⟨out', s', e'⟩ := j8t m0 m1 hi d (j + 1) m out1 _ (k + 6) (by omega) (by omega) (by omega) s1
  refine ⟨out', s'.congr (fun x => ?_) (by omega), e'⟩
  constructor
  · rintro ((h | ⟨f', a, b, h⟩) | ⟨j', hj', a, h⟩)
    · exact .inl h
    · exact .inr ⟨j, hlt, by omega, f', b, h⟩
    · exact .inr ⟨j', hj', by omega, h⟩
  · rintro (h | ⟨j', hj', a, f', b, h⟩)
    · exact .inl (.inl h)
    · by_cases ej : j' = j
      · subst ej; exact .inl (.inr ⟨f', by omega, b, h⟩)
      · exact .inr ⟨j', hj', by omega, f', b, h⟩
end
section
variable {n : Nat} (h1 : 1 ≤ n) (h3 : n ≤ 3) {L : List a0b} (hL : ∀ y ∈ L, Form n y) (hLl : L.length ≤ 1000) (p0 p2 : Int)
include h1 h3 hL hLl
theorem k1q {q : Nat} (hq : 6 * n ≤ q) (m0 : Nat) : ∀ (d i m : Nat) (out : List a0b) (P : a0b → Prop) (k : Nat), L.length = i + d → d < m → k + q * d ≤ 100000 → Sr out P k →
 ∃ out', Sr out' (fun x => P x ∨ ∃ i', ∃ hi : i' < L.length, i ≤ i' ∧ ∃ c ∈ (L[i']).2.2.2.1, ∃ f', f' < 6 ∧ j0i L[i'] c f' x) (k + q * d) ∧ a6a m0 m p0 L p2 out (i : Int) = a4a m0 p0 out' (IntKind.wrap .i64 (p2 + 1))
 | d, i, 0, out, P, k, _, h, _, _ => by omega
 | 0, i, m + 1, out, P, k, hj, hm, hk, hs => by
  rw [e0m, ltF (show ¬ i < L.length by omega)]
  refine ⟨out, hs.congr (fun x => ⟨.inl, fun h => ?_⟩) (by omega), rfl⟩
  rcases h with h | ⟨j', a, b, _⟩
  · exact h
  · omega
 | d + 1, i, m + 1, out, P, k, hj, hm, hk, hs => by
  have hlt : i < L.length := by omega
  have hqd : q * (d + 1) = q * d + q := Nat.mul_succ q d
  have hy := hL _ (List.getElem_mem hlt)
  have hlen := hy.facts.2.2.1
  rw [e0m, ltT hlt]
  simp only [cond_true]
  obtain ⟨out1, s1, e1⟩ := j8t h1 h3 hL p0 p2 m0 m hlt (L[i]).2.2.2.1.length 0 N out P k (by omega) (by have := b6u; omega) (by omega) hs
  have e1' : a4k m0 m N p0 L p2 out (i : Int) 0 = _ := e1
  rw [e1', a5v i (by omega)]
  obtain ⟨out', s', e'⟩ := k1q hq m0 d (i + 1) m out1 _ (k + q) (by omega) (by omega) (by omega) (s1.congr (fun _ => Iff.rfl) (by omega))
  refine ⟨out', s'.congr (fun x => ?_) (by omega), e'⟩
  constructor
  · rintro ((h | ⟨j', hj', a, f', b, h⟩) | ⟨i', hi', a, h⟩)
    · exact .inl h
    · exact .inr ⟨i, hlt, by omega, _, List.getElem_mem hj', f', b, h⟩
    · exact .inr ⟨i', hi', by omega, h⟩
  · rintro (h | ⟨i', hi', a, c, hc, f', b, h⟩)
    · exact .inl (.inl h)
    · by_cases ei : i' = i
      · subst ei
        obtain ⟨j', hj', rfl⟩ := List.getElem_of_mem hc
        exact .inl (.inr ⟨j', hj', by omega, f', b, h⟩)
      · exact .inr ⟨i', hi', by omega, c, hc, f', b, h⟩
end
theorem Form.step {n : Nat} (h1 : 1 ≤ n) (h3 : n ≤ 3) {L : List a0b} (hL : ∀ y, y ∈ L ↔ Form n y) (x : a0b) : (∃ i', ∃ hi : i' < L.length, 0 ≤ i' ∧ ∃ c ∈ (L[i']).2.2.2.1, ∃ f', f' < 6 ∧ j0i L[i'] c f' x) ↔ Form (n + 1) x := by
 rw [i1j h1 h3]
 constructor
 · rintro ⟨i, hi, _, c, hc, f, hf, h, e⟩
   exact ⟨L[i], (hL _).1 (List.getElem_mem hi), c, hc, f, hf, h, e⟩
 · rintro ⟨y, hy, c, hc, f, hf, h, e⟩
   obtain ⟨i, hi, rfl⟩ := List.getElem_of_mem ((hL y).2 hy)
   exact ⟨i, hi, Nat.zero_le _, c, hc, f, hf, h, e⟩
theorem j8l {n : Nat} (h1 : 1 ≤ n) (h3 : n ≤ 3) {L : List a0b} {k : Nat} (hs : Sr L (Form n) k) (hk : k ≤ 1000) {q : Nat} (hq : 6 * n ≤ q) (hqk : q * k ≤ 100000) (m : Nat) {p0 : Int} (hp : (n : Int) < p0) : ∃ L', Sr L' (Form (n + 1)) (q * k) ∧ a4a (m + 1) p0 L (n : Int) = a4a m p0 L' ((n + 1 : Nat) : Int) := by
 have hl := hs.len
 obtain ⟨out, s, e⟩ := k1q h1 h3 (fun y hy => (hs.mem y).1 hy) (by omega) p0 (n : Int) hq m L.length 0 N [] (fun _ => False) 0 (by omega) (by have := b6u; omega) (by have := Nat.mul_le_mul_left q hl; omega) ⟨List.Pairwise.nil, (fun a ha => by cases ha), (fun x => by simp), by simp⟩
 refine ⟨out, s.congr (fun x => ?_) (by have := Nat.mul_le_mul_left q hl; omega), ?_⟩
 · rw [Form.step h1 h3 hs.mem]; simp
 · rw [e0j, decide_eq_true hp]
   simp only [cond_true]
   have e' : a6a m N p0 L (n : Int) [] 0 = _ := e
   rw [e', a5v n (by omega)]
theorem g3g (m : Nat) (n : Int) (L : List a0b) : a4a (m + 1) n L n = some (L, ()) := by
 rw [e0j, decide_eq_false (by omega)]; rfl
end Go.VI
namespace Go.VI
open Go.Proofs Go.RowKit
set_option maxRecDepth 100000
theorem j5i {w : World} {b t : Nat} {a0 a1 a2 : Value} (h : w.heap[b]? = some (.cells #[a0, a1, a2] t (0, 0))) :
 (w.cell? ⟨b, 0, none⟩ = some a0 ∧ w.cell? ⟨b, 1, none⟩ = some a1 ∧ w.cell? ⟨b, 2, none⟩ = some a2) := by
 refine ⟨?_, ?_, ?_⟩ <;> simp [World.cell?, h]
theorem g6g {w : World} {B : Nat} {A : Option Addr} {n c : Nat} {l : List DA3} (h : OwnV (fun _ => False) w B 55 A3ty (.slice A n c) l) {i : Nat} {d : DA3} (hi : l[i]? = some d) : ∃ g, A = some ⟨g, 0, none⟩ ∧
 w.cell? ⟨g, i * 3, none⟩ = some (.int .i64 d.1) ∧ w.cell? ⟨g, i * 3 + 1, none⟩ = some (.int .i64 d.2.1) ∧ w.cell? ⟨g, i * 3 + 2, none⟩ = some (.int .i64 d.2.2.1) := by
 have hr : RepI (fun _ => True) w (.sl A3ty) l [.slice A n c] := h.reads _ (fun _ h => h.elim) fun _ _ => trivial
 obtain ⟨_, xs, ho, _⟩ := h
 rcases ho.2 with ⟨e, h0⟩ | ⟨g, cap, cur, fz, e, _⟩
 · have : l = [] := List.length_eq_zero_iff.1 h0
   subst this
   simp at hi
 · obtain ⟨rfl, _⟩ : A = some ⟨g, 0, none⟩ ∧ n = l.length ∧ c = cap := by simpa using e
   have hc := j9m hr
   have e0 := hc (i * 3 + 0) _ (by rw [h6l hi 0 (by decide)]; rfl)
   have e1 := hc (i * 3 + 1) _ (by rw [h6l hi 1 (by decide)]; rfl)
   have e2 := hc (i * 3 + 2) _ (by rw [h6l hi 2 (by decide)]; rfl)
   rw [Addr.add_lit, Nat.zero_add] at e0 e1 e2
   exact ⟨g, rfl, e0, e1, e2⟩
theorem k0t {w5 U w6 : World} {o : Obj} (hb : Below U.heap.size U w6) (hU : U.heap = w5.heap.push o) : w6.heap[w5.heap.size]? = some o := by
 rw [hb.block _ (by rw [hU]; simp), hU]
 simp
set_option maxHeartbeats 4000000 in
theorem i7h {n : Nat} (hn : 1 ≤ n ∧ n ≤ 100) {V : FormV} {L : List a0j} (hrec : ∀ U : World, Calls Tryz.prog 50 #[.int .i64 n] U fun e w' => ∃ v gs, e = .returned v ∧ Below U.heap.size U w' ∧ DeepH w' U.heap.size 29 55 v gs ∧ gs.map HE.heap = L)
 (S : StepOK V L) (hne : V.cands L ≠ []) {Pc : a0j → Prop} {cmp : a0j → a0j → Int} {sm : a0j → a0j → Bool} (O : OrdOK Pc cmp sm) (hP : ∀ h ∈ V.cands L, Pc h) (W : World) :
 Calls Tryz.prog 50 #[.int .i64 ((n + 1 : Nat) : Int)] W fun e w' => ∃ v hs hs2, e = .returned v ∧ Below W.heap.size W w' ∧ DeepH w' W.heap.size 29 55 v hs2 ∧ hs.map HE.heap = V.cands L ∧ g3d cmp sm hs hs2 := by
 have h1 : ¬ (((n + 1 : Nat) : Int) = 1) := by omega
 have hsub : IntKind.i64.wrap (((n + 1 : Nat) : Int) - 1) = (n : Int) := by rw [show ((n + 1 : Nat) : Int) - 1 = (n : Int) by omega]; exact IntWalk.i64_in _ (by omega)
 have hrec0 := hrec (W.alloc (.cells #[] 29))
 have hpost : ∀ (w2 : World) (v : Value) (gs : List HE), Below (W.alloc (.cells #[] 29)).heap.size (W.alloc (.cells #[] 29)) w2 → DeepH w2 (W.alloc (.cells #[] 29)).heap.size 29 55 v gs → gs.map HE.heap = L →
  ∃ A c, v = .slice A L.length c ∧ LoopF W w2 (.slice (some ⟨W.heap.size, 0, none⟩) 0 0) [] (.slice A L.length c) gs [] := fun w2 v gs hb hd hm => by
  have hl : gs.length = L.length := by have := congrArg List.length hm; simpa using this
  have sA := a1a W (.cells #[] 29)
  obtain ⟨A, c, hv⟩ : ∃ A c, v = .slice A L.length c := by
   rw [← hl]
   rcases hd.outer.2 with ⟨rfl, h0⟩ | ⟨g, c, cur, rfl, _⟩
   · exact ⟨none, 0, by rw [h0]⟩
   · exact ⟨_, _, rfl⟩
  subst hv
  refine ⟨A, c, rfl, a0r (a5t W _) hb, DeepH.nil ⟨rfl, .inr ⟨W.heap.size, 0, #[], rfl, Nat.le_refl _, a0m (alloc_at _ _) hb, Nat.le_refl _, by decide, rfl, rfl⟩⟩, hd.rebase (by omega), fun g hg hZ => ?_, fun b o hm => by cases hm⟩
  have := (ZH.lt hd g hZ).1
  have e : W.heap.size = g := Option.some.inj hg
  omega
 clear hrec
 go_enter Tryz.func50, Tryz.ntmps50
 go_wp2_with (go_at_call 50; refine hrec0.mono ?_; rintro e w2 ⟨v, gs, rfl, hb2, hd2, hm⟩; obtain ⟨A, c, rfl, hl0⟩ := hpost w2 v gs hb2 hd2 hm)
 clear hrec0 hpost hsub h1
 go_loopg [3, 21] L.length (fun m v3 v21 wr => ∃ (i : Nat) (hs : List HE), i ≤ L.length ∧ m = L.length - i ∧ v21 = .int .i64 i ∧ LoopF W wr v3 hs (.slice A L.length c) gs [] ∧ hs.map HE.heap = V.cands (L.take i) ∧ hs.length ≤ i * 60)
 case atStart => exact ⟨0, [], Nat.zero_le _, rfl, rfl, hl0, rfl, Nat.le_refl _⟩
 case round =>
  obtain ⟨i, hs, hi, rfl, rfl, hl, hq, hlen⟩ := hrel
  clear hl0 hb2 hd2
  obtain ⟨wA, hwA⟩ : ∃ x, x = wr := ⟨wr, rfl⟩
  subst hwA
  by_cases hin : i < L.length
  · have hgl : gs.length = L.length := by have := congrArg List.length hm; simpa using this
    obtain ⟨a, ha⟩ : ∃ a, gs[i]? = some a := ⟨gs[i], List.getElem?_eq_getElem (by omega)⟩
    have hLi : L[i]? = some a.heap := by rw [← hm]; simp [ha]
    have hmem : a.heap ∈ L := List.mem_of_getElem? hLi
    have hc10 : a.cells.length ≤ 10 := S.small.2 _ hmem
    have hi10 : L.length ≤ 100 := S.small.1
    obtain ⟨g, c', hv, x0, x1, x2, x3⟩ := e6k hl.list ha
    obtain rfl : A = some ⟨g, 0, none⟩ := by simp only [Value.slice.injEq] at hv; exact hv.1
    obtain ⟨ra, rc, hav⟩ : ∃ ra rc, a.v = .slice ra a.cells.length rc := by
     obtain ⟨x, y, e⟩ := (hl.list.inner i a ha).slice1
     exact ⟨x, y, e⟩
    rw [hav] at x3
    have hltI : (i : Int) < (L.length : Int) := by omega
    have hl1 := hl.alloc (.cells #[.int .i64 a.x, .int .i64 a.y, .int .i64 a.z, .slice ra a.cells.length rc] 29)
    clear hv
    go_wp2
    clear x0 x1 x2 x3
    go_loopg [3, 28] a.cells.length (fun m v3 v28 wr2 => ∃ (j : Nat) (hs2 : List HE), j ≤ a.cells.length ∧ m = a.cells.length - j ∧ v28 = .int .i64 j ∧ LoopF W wr2 v3 hs2 (.slice (some ⟨g, 0, none⟩) L.length c) gs [(wA.heap.size, .cells #[.int .i64 a.x, .int .i64 a.y, .int .i64 a.z, .slice ra a.cells.length rc] 29)] ∧ hs2.map HE.heap = V.cands (L.take i) ++ V.candH a.cells j ∧ hs2.length ≤ i * 60 + j * 6)
    case atStart => exact ⟨0, hs, Nat.zero_le _, rfl, rfl, hl1, by rw [hq]; simp [FormV.candH], by omega⟩
    case round =>
     obtain ⟨j, hs2, hj, rfl, rfl, hl2, hq2, hlen2⟩ := hrel
     clear hl1
     obtain ⟨wB, hwB⟩ : ∃ x, x = wr := ⟨wr, rfl⟩
     subst hwB
     by_cases hjn : j < a.cells.length
     · obtain ⟨d, hd⟩ : ∃ d, a.cells[j]? = some d := ⟨a.cells[j], List.getElem?_eq_getElem hjn⟩
       have hdm : d ∈ a.cells := List.mem_of_getElem? hd
       obtain ⟨gr, hra, y0, y1, y2⟩ := g6g (hav ▸ hl2.list.inner i a ha) hd
       subst hra
       have hltJ : (j : Int) < (a.cells.length : Int) := by omega
       have hl3 := hl2.alloc (.cells #[.int .i64 d.1, .int .i64 d.2.1, .int .i64 d.2.2.1] 55)
       go_wp2
       clear y0 y1 y2
       go_loopg [3, 32] 6 (fun m v3 v32 wr3 => ∃ (f : Nat) (hs3 : List HE), f ≤ 6 ∧ m = 6 - f ∧ v32 = .int .i64 f ∧ LoopF W wr3 v3 hs3 (.slice (some ⟨g, 0, none⟩) L.length c) gs [(wB.heap.size, .cells #[.int .i64 d.1, .int .i64 d.2.1, .int .i64 d.2.2.1] 55), (wA.heap.size, .cells #[.int .i64 a.x, .int .i64 a.y, .int .i64 a.z, .slice (some ⟨gr, 0, none⟩) a.cells.length rc] 29)] ∧ hs3.map HE.heap = V.cands (L.take i) ++ V.candH a.cells j ++ V.candC a.cells d f ∧ hs3.length ≤ i * 60 + j * 6 + f)
       case atStart => exact ⟨0, hs2, Nat.zero_le _, rfl, rfl, hl3, by rw [hq2]; simp [FormV.candC], by omega⟩
       case round =>
        obtain ⟨f, hs3, hf, rfl, rfl, hl4, hq3, hlen3⟩ := hrel
        clear hl3
        obtain ⟨wC, hwC⟩ : ∃ x, x = wr := ⟨wr, rfl⟩
        subst hwC
        by_cases hf6 : f < 6
        · have hltF : (f : Int) < 6 := by omega
          obtain ⟨z0, z1, z2⟩ := j5i (hl4.boxes _ _ (List.mem_cons_self ..)).2.1
          have B5 := (hl4.boxes _ _ (List.mem_cons_of_mem _ (List.mem_cons_self ..))).2.1
          have hbe := i6e (W := wC) (S.bey _ hmem d hdm f hf6)
          have hhas : ∀ U, Below wC.heap.size wC U → Calls Tryz.prog 39 #[.slice (some ⟨gr, 0, none⟩) a.cells.length rc, a3V (V.bey d f)] U fun e' w' => e' = .returned (.bool (V.has a.cells (V.bey d f))) ∧ Below U.heap.size U w' := fun U hU => by
           have hin := (hl4.call hU).list.inner i a ha
           rw [hav] at hin
           exact j8w (Z := fun q => (Value.slice (some ⟨gr, 0, none⟩) a.cells.length rc).ownBlock = some q) (fun q hq => (hin.lt q hq).2) (hin.reads _ (fun _ hz => hz.elim) fun q hq => hq) (S.has _ hmem d hdm f hf6)
          obtain ⟨d2, hd2⟩ : ∃ d2, V.bey d f = d2 := ⟨_, rfl⟩
          obtain ⟨b, hb⟩ : ∃ b, V.has a.cells (V.bey d f) = b := ⟨_, rfl⟩
          rw [hb, hd2] at hhas
          rw [hd2] at hbe
          unfold a3V at hbe hhas
          go_wp2_with (first
           | (go_at_call 40; refine hbe.mono ?_; rintro e w4 ⟨rfl, hb4⟩; have k3 := fun o => (e3s (b7i (a0m B5 hb4) o)).2.2.2)
           | (go_at_call 39; refine (hhas _ (b6f hb4 _)).mono ?_; rintro e w5 ⟨rfl, hb5⟩))
          · have hb' : V.has a.cells (V.bey d f) = false := by rw [hb]; cases b <;> simp_all
            have hl5 := (((hl4.call hb4).alloc _).less).call hb5
            have B9 := a0m (alloc_at w4 _) hb5
            have B5' := (hl5.boxes _ _ (List.mem_cons_of_mem _ (List.mem_cons_self ..))).2.1
            have hhof := S.hof _ hmem d hdm f hf6 hb'
            obtain ⟨T, gf, cf, bf, cm, hform, hformv⟩ := S.frm _ hmem d hdm f hf6 hb'
            change a2l (a.cells ++ [V.bey d f], ()) = some (V.hof (a.cells ++ [V.bey d f]), ()) at hhof
            change FormOK (V.hof (a.cells ++ [V.bey d f])) T gf cf bf cm at hform
            change c7e T.length cf cm = V.frm (V.hof (a.cells ++ [V.bey d f])) at hformv
            rw [hd2] at hhof hform hformv
            obtain ⟨G, hG⟩ : ∃ G, V.hof (a.cells ++ [d2]) = G := ⟨_, rfl⟩
            obtain ⟨F, hF⟩ : ∃ F, V.frm G = F := ⟨_, rfl⟩
            rw [hG] at hhof hform hformv
            rw [hF] at hformv
            obtain ⟨i0, hi0, hz0, hz1, hz2⟩ := info_parts h8u
            obtain ⟨i3, hi3, hz30, hz31, hz32⟩ := info_parts j0l
            have hin := hl5.list.inner i a ha
            rw [hav] at hin
            have hrr : RepI (fun q => (Value.slice (some ⟨gr, 0, none⟩) a.cells.length rc).ownBlock = some q) w5 (.sl A3ty) a.cells [.slice (some ⟨gr, 0, none⟩) a.cells.length rc] := hin.reads _ (fun _ hz => hz.elim) fun q hq => hq
            have hzr : ∀ q, (Value.slice (some ⟨gr, 0, none⟩) a.cells.length rc).ownBlock = some q → q < w5.heap.size := fun q hq => (hin.lt q hq).2
            have hln : a.cells.length ≤ 1000 := by omega
            obtain ⟨m0, m1, m2⟩ := j5i B9
            have n3 := (e3s B5').2.2.2
            have n3' := fun o => (e3s (b7i B5' o)).2.2.2
            have szW := hl5.below.size
            clear hin hhas hbe hb4 hb5 k3 z0 z1 z2 B5 hl4
            go_wp2
            go_region_law (first
             | (refine g7a rfl (h6i (g8j (f := 41) rfl) (j5v (w5 := w5) hzr hrr hln (by (repeat (first | exact Below.refl _ _ | apply h3f | apply b6f)))) ?_); rintro v46 w6 ⟨vx, vy, rfl, hb6, hB6, ho6⟩; obtain ⟨r0, r1, r2⟩ := j5i (a0m B9 hB6))
             | (refine g7a rfl (d1c _ (.tmp 46) (.tmp 48) 22 22 rfl w5.heap.size 55 i3 (.agg #[.int .i64 0, .int .i64 0, .int .i64 0]) 3 24 Tryz.underlying22 hi3 hz30 hz31 hz32 rfl (.slice vx a.cells.length vy) a.cells.length (enc3 a.cells) rfl (by first | exact ho6 | exact World.ownsRow.alloc ho6 _) (.slice (some ⟨_, 0, none⟩) 1 1) 1 [.int .i64 d2.1, .int .i64 d2.2.1, .int .i64 d2.2.2.1] rfl (k1p (by first | exact alloc_at _ _ | exact k0t hb6 rfl)) (by unfold maxLen; omega) (by omega) (by first | exact hB6.size | exact (b6f hB6 _).size) ?_); intro v49 w7 hv7 hgr7 _; have hB7 := i0d (w5 := w5) (v := .slice vx a.cells.length vy) (e := 55) (s := 3) (n := a.cells.length) (xs := enc3 a.cells) (by first | exact hB6 | exact b6f hB6 _) (by first | exact ho6 | exact World.ownsRow.alloc ho6 _) hgr7; have hv8 : w7.ownsRow w5.heap.size 55 3 v49 (a.cells ++ [d2]).length (enc3 (a.cells ++ [d2])) := by (rw [List.length_append, g4u]; exact hv7))
             | (refine g7a rfl (h6i (g8j (f := 42) rfl) (k1a hB7 hv8 hhof) ?_); rintro v50 w8 ⟨gx, gn, gy, rfl, hB8, hu8⟩)
             | (refine g7a rfl (h6i (g8j (f := 43) rfl) (j8s hB8 hu8 hform hformv) ?_); rintro v51 w9 ⟨fx, fn, fy, rfl, hB9, hu9⟩)
             | (refine g7a rfl (d1c _ (.tmp 43) (.tmp 52) 26 26 rfl W.heap.size 29 i0 (.agg #[.int .i64 0, .int .i64 0, .int .i64 0, .slice none 0 0]) 4 48 Tryz.underlying26 hi0 hz0 hz1 hz2 rfl u3 hs3.length (encs hs3) rfl ((hl5.call hB9).deep.outer.alloc _) (.slice (some ⟨_, 0, none⟩) 1 1) 1 [.int .i64 F.1, .int .i64 F.2.1, .int .i64 F.2.2.1, .slice fx fn fy] rfl (h4x w9 _ rfl _ _ _ _ rfl rfl rfl rfl) (by unfold maxLen; omega) (by omega) (by have := hB9.size; rw [a1a]; omega) ?_); intro v53 w10 hv10 hgr10 hp10))
            all_goals go_wp2
            all_goals go_roundg (6 - (f + 1))
            all_goals first
             | omega
             | (have hmap : (hs3 ++ [(⟨F.1, F.2.1, F.2.2.1, F.2.2.2.1, .slice fx fn fy⟩ : HE)]).map HE.heap = V.cands (L.take i) ++ V.candH a.cells j ++ V.candC a.cells d (f + 1) := by
                 rw [List.map_append, hq3, h2q, FormV.cand, if_neg (by rw [hb']; decide), hd2, hG, hF, ← List.append_assoc]
                 rfl
                have hlen4 : (hs3 ++ [(⟨F.1, F.2.1, F.2.2.1, F.2.2.2.1, .slice fx fn fy⟩ : HE)]).length ≤ i * 60 + j * 6 + (f + 1) := by
                 rw [List.length_append]
                 exact Nat.succ_le_succ hlen3
                have hpu := hl5.push (a := ⟨F.1, F.2.1, F.2.2.1, F.2.2.2.1, .slice fx fn fy⟩) hB9 hu9 hv10 hgr10 hp10
                exact ⟨f + 1, _, by omega, rfl, by go_num, hpu, hmap, hlen4⟩)
          · have hb' : V.has a.cells (V.bey d f) = true := by rw [hb]; cases b <;> simp_all
            have hl5 := (((hl4.call hb4).alloc _).less).call hb5
            go_roundg (6 - (f + 1))
            case measure => omega
            case rel => exact ⟨f + 1, hs3, by omega, rfl, by go_num, hl5, by rw [hq3, h2q, FormV.cand, if_pos hb']; simp, by omega⟩
        · obtain rfl : f = 6 := by omega
          go_wp2
          go_roundg (a.cells.length - (j + 1))
          case measure => omega
          case rel => exact ⟨j + 1, hs3, by omega, rfl, by go_num, hl4.less, by rw [hq3, i8x V _ _ _ hd, List.append_assoc], by omega⟩
     · obtain rfl : j = a.cells.length := by omega
       have hltJ : ¬ ((a.cells.length : Int) < (a.cells.length : Int)) := by omega
       go_wp2
       go_roundg (L.length - (i + 1))
       case measure => omega
       case rel => exact ⟨i + 1, hs2, by omega, rfl, by go_num, hl2.less, hq2.trans (i7s V _ _ _ hLi).symm, by omega⟩
  · obtain rfl : i = L.length := by omega
    have hltI : ¬ ((L.length : Int) < (L.length : Int)) := by omega
    have hq' : hs.map HE.heap = V.cands L := by rw [hq, List.take_length]
    obtain ⟨a0, h0⟩ : ∃ a0, a0 ∈ hs := by
     cases hs with
     | nil => exact absurd hq'.symm hne
     | cons x r => exact ⟨x, List.mem_cons_self ..⟩
    have hL10 := S.small.1
    have hso := g1f hl.deep h0 (by omega) (Pc := Pc) (fun x hx => hP _ (hq' ▸ List.mem_map_of_mem hx)) O
    go_wp2_with (go_at_call 44; refine hso.mono ?_; rintro e w3 ⟨v3, hs2, rfl, hf3, hsd, hd3⟩)
    go_ret
    exact ⟨_, hs, hs2, rfl, ⟨hf3.os.trans hl.below.os, hf3.tape.trans hl.below.tape, hf3.output.trans hl.below.output, Nat.le_trans hl.below.size hf3.size, fun k hk => (hf3.block k (Nat.lt_of_lt_of_le hk hl.below.size) fun e => by have := (hl.deep.outer.lt k e).1; omega).trans (hl.below.block k hk), Nat.le_trans hl.below.drawn hf3.drawn⟩, hd3, hq', hsd⟩
end Go.VI
namespace Go.VI
open Go.Proofs Go.RowKit
set_option maxRecDepth 100000
theorem g3b {Z : Nat → Prop} {W : World} {h : a0j} {lv : Value} {b : Bool} (a0 : ArgH Z W h lv) (hF : a3v (h, ()) = some (b, ())) :
 Calls Tryz.prog 35 #[hpV h lv] W fun e' w' => e' = .returned (.bool b) ∧ Below W.heap.size W w' :=
 c8u (As := b5a) (fn := Tryz.f35) (r := (b, ())) g5k rfl Tryz.func35 rfl (by kernel_rfl) trivial a0.zone (xs := (h, ())) (vs := [hpV h lv]) ⟨_, _, rfl, (fun h => by cases h), a0.arg, rfl⟩ hF
theorem j6u (w : World) (n : Nat) : Below w.heap.size w (w.drewN n) := by
 unfold World.drewN
 exact ⟨rfl, rfl, rfl, Nat.le_refl _, fun _ _ => rfl, Nat.le_add_right _ _⟩
theorem DeepH.slice {w : World} {B : Nat} {eo ei : TypeId} {v : Value} {hs : List HE} (h : DeepH w B eo ei v hs) : ∃ A c, v = .slice A hs.length c := by
 rcases h.outer.2 with ⟨rfl, h0⟩ | ⟨g, c, cur, rfl, _⟩
 · exact ⟨none, 0, by rw [h0]⟩
 · exact ⟨_, _, rfl⟩
theorem j3k {W w3 w5 w6 : World} {A fa : Option Addr} {c fc : Nat} {gs : List HE} {F : List DA3} {oF : Obj} (e : Below W.heap.size W w3)
 (hb5 : Below (w3.alloc (.cells #[] 29)).heap.size (w3.alloc (.cells #[] 29)) w5) (hu5 : OwnV (fun _ => False) w5 (w3.alloc (.cells #[] 29)).heap.size 55 A3ty (.slice fa F.length fc) F)
 (hb6 : Below (w5.alloc oF).heap.size (w5.alloc oF) w6) (hd6 : DeepH w6 (w5.alloc oF).heap.size 29 55 (.slice A gs.length c) gs) :
 JF W w6 (.slice (some ⟨w3.heap.size, 0, none⟩) 0 0) [] (.slice A gs.length c) gs (.slice fa F.length fc) F [(w5.heap.size, oF)] := by
 have s3 := e.size
 have s5 := hb5.size
 have s6 := hb6.size
 rw [a1a] at s5 s6
 refine ⟨⟨a0r (b6f (a0r (b6f e _) hb5) _) hb6, DeepH.nil ⟨rfl, .inr ⟨w3.heap.size, 0, #[], rfl, s3, a0m (b7i (a0m (alloc_at _ _) hb5) _) hb6, Nat.le_refl _, by decide, rfl, rfl⟩⟩, hd6.rebase (by rw [a1a]; omega), fun g hg hZ => ?_, fun b o hm => ?_⟩, OwnV.rebaseH (b3d (b3d hu5 (a5t _ _)) hb6) fun g hg => ?_, fun g hg hf => ?_⟩
 · have := (ZH.lt hd6 g hZ).1
   rw [a1a] at this
   have e : w3.heap.size = g := Option.some.inj hg
   omega
 · obtain ⟨rfl, rfl⟩ : b = w5.heap.size ∧ o = oF := by simpa using hm
   refine ⟨by omega, a0m (alloc_at _ _) hb6, fun h => ?_⟩
   have e : w3.heap.size = w5.heap.size := Option.some.inj h
   omega
 · have := (hu5.lt g hg).1
   rw [a1a] at this
   omega
 · have := (hu5.lt g hf).1
   rw [a1a] at this
   have e : w3.heap.size = g := Option.some.inj hg
   omega
set_option maxHeartbeats 4000000 in
theorem j2e {Z Zh : Nat → Prop} {W : World} {g h F0 : a0j} {ga ha : Option Addr} {gc hc : Nat} {bF : Bool} (ag : ArgH Z W g (.slice ga g.2.2.2.1.length gc)) (ah : ArgH Zh W h (.slice ha h.2.2.2.1.length hc))
 (hg1 : a3v (g, ()) = some (true, ())) (hh1 : a3v (h, ()) = some (true, ())) (hl4 : g.2.2.2.1.length + h.2.2.2.1.length ≤ 4)
 (hcr : a2j (g, ()) = some (F0, bF, ())) {Tn : List a0c} (hT : a2u () = some (Tn, ())) (hTl : Tn.length ≤ 24) {gf cf : Nat → a0j} {bf : Nat → Bool}
 (hof : ∀ i t, Tn[i]? = some t → a4v (t, h, ()) = some (gf i, ()) ∧ a2j (gf i, ()) = some (cf i, bf i, ()))
 {V : JoinV} (J : JoinOK V F0.2.2.2.1 ((List.range Tn.length).map cf)) (hne : V.cands F0.2.2.2.1 ((List.range Tn.length).map cf) ≠ [])
 {Pc : a0j → Prop} {cmp : a0j → a0j → Int} {sm : a0j → a0j → Bool} (O : OrdOK Pc cmp sm) (hP : ∀ x ∈ V.cands F0.2.2.2.1 ((List.range Tn.length).map cf), Pc x) :
 Calls Tryz.prog 8 #[hpV g (.slice ga g.2.2.2.1.length gc), hpV h (.slice ha h.2.2.2.1.length hc)] W fun e w' => ∃ v hs hs2, e = .returned (.tuple #[v, .bool true]) ∧ Below W.heap.size W w' ∧ DeepH w' W.heap.size 29 55 v hs2 ∧ hs.map HE.heap = V.cands F0.2.2.2.1 ((List.range Tn.length).map cf) ∧ g3d cmp sm hs hs2 := by
 obtain ⟨L, hL⟩ : ∃ L, (List.range Tn.length).map cf = L := ⟨_, rfl⟩
 obtain ⟨F, hF⟩ : ∃ F, F0.2.2.2.1 = F := ⟨_, rfl⟩
 rw [hL, hF] at J hne hP ⊢
 have e0 := a5t W (.cells #[.int .i64 g.1, .int .i64 g.2.1, .int .i64 g.2.2.1, .slice ga g.2.2.2.1.length gc] 29)
 have B0 := alloc_at W (.cells #[.int .i64 g.1, .int .i64 g.2.1, .int .i64 g.2.2.1, .slice ga g.2.2.2.1.length gc] 29)
 have e1 := b6f e0 (.cells #[.int .i64 h.1, .int .i64 h.2.1, .int .i64 h.2.2.1, .slice ha h.2.2.2.1.length hc] 29)
 have sA := a1a W (.cells #[.int .i64 g.1, .int .i64 g.2.1, .int .i64 g.2.2.1, .slice ga g.2.2.2.1.length gc] 29)
 have sB := a1a (W.alloc (.cells #[.int .i64 g.1, .int .i64 g.2.1, .int .i64 g.2.2.1, .slice ga g.2.2.2.1.length gc] 29)) (.cells #[.int .i64 h.1, .int .i64 h.2.1, .int .i64 h.2.2.1, .slice ha h.2.2.2.1.length hc] 29)
 have B1 := alloc_at (W.alloc (.cells #[.int .i64 g.1, .int .i64 g.2.1, .int .i64 g.2.2.1, .slice ga g.2.2.2.1.length gc] 29)) (.cells #[.int .i64 h.1, .int .i64 h.2.1, .int .i64 h.2.2.1, .slice ha h.2.2.2.1.length hc] 29)
 rw [sA] at B1
 have hle : ¬ ((g.2.2.2.1.length : Int) + (h.2.2.2.1.length : Int) > 4) := by omega
 have hs1 : ∀ U, Below W.heap.size W U → _ := fun U hU => g3b (W := U) (ag.at hU) hg1
 have hs2 : ∀ U, Below W.heap.size W U → _ := fun U hU => g3b (W := U) (ah.at hU) hh1
 have hs3 : ∀ U, Below W.heap.size W U → _ := fun U hU => j5m (W := U) (ag.at hU) hcr
 have hs4 : ∀ U, Below W.heap.size W U → _ := fun U hU => i0q (W := U) (ah.at hU) hT (by omega) gf cf bf hof
 unfold hpV at *
 go_enter Tryz.func8, Tryz.ntmps8
 obtain ⟨k0, k1, k2, k3⟩ := e3s B1
 obtain ⟨j0, j1, j2, j3⟩ := i8j B0
 go_wp2_with (first
  | (go_at_call 35; refine (hs1 _ e1).mono ?_; rintro e w2 ⟨rfl, hb2⟩; clear hs1; obtain ⟨_, _, _, _⟩ := e3s (a0m B1 hb2); obtain ⟨_, _, _, _⟩ := e3s (a0m (b7i B0 _) hb2))
  | (go_at_call 35; refine (hs2 _ (a0r e1 hb2)).mono ?_; rintro e w3 ⟨rfl, hb3⟩; clear hs2; have hb4 := a0r hb2 hb3; obtain ⟨_, _, _, _⟩ := e3s (a0m B1 hb4); obtain ⟨_, _, _, _⟩ := e3s (a0m (b7i B0 _) hb4); obtain ⟨_, _, _, _⟩ := i8j (a0m (b7i B0 _) hb4))
  | (go_at_call 36; refine (hs3 _ (b6f (a0r e1 hb4) _)).mono ?_; rintro e w5 ⟨fu, rfl, hb5, hu5⟩; clear hs3; obtain ⟨fa, fc, rfl⟩ := hu5.slice1; obtain ⟨_, _, _, _⟩ := i8j (a0m (b7i (a0m B1 hb4) _) hb5))
  | (go_at_call 37; refine (hs4 _ (b6f (a0r (b6f (a0r e1 hb4) _) hb5) _)).mono ?_; rintro e w6 ⟨v47, gs, rfl, hb6, hd6, hm6⟩; clear hs4; obtain ⟨A, c, rfl⟩ := hd6.slice))
 have hl0 := j3k (a0r e1 hb4) hb5 hu5 hb6 hd6
 rw [hF] at hl0
 rw [hL] at hm6
 have hgl : gs.length = L.length := by have := congrArg List.length hm6; simpa using this
 have hL24 := J.smallL
 have hF10 := J.smallF
 have hat : ∀ (i : Nat) (a : HE), gs[i]? = some a → L[i]? = some a.heap := fun i a ha => by rw [← hm6]; simp [ha]
 have hgs24 : gs.length ≤ 24 := by omega
 have hHG := Lib.hid hgl
 clear hgl hm6 hF hL hof hT hTl hcr hg1 hh1 hl4 hle ag ah e0 B0 e1 sA sB B1 k0 k1 k2 k3 j0 j1 j2 j3 hb2 hb3 hb4 hb5 hu5 hb6 hd6
 go_loopg [6, 49] gs.length (fun m v6 v49 wr => ∃ (i : Nat) (hs : List HE), i ≤ gs.length ∧ m = gs.length - i ∧ v49 = .int .i64 i ∧ JF W wr v6 hs (.slice A gs.length c) gs (.slice fa F.length fc) F [(w5.heap.size, .cells #[.int .i64 F0.1, .int .i64 F0.2.1, .int .i64 F0.2.2.1, .slice fa F.length fc] 29)] ∧ hs.map HE.heap = V.cands F (L.take i) ∧ hs.length ≤ i * 729)
 case atStart => exact ⟨0, [], Nat.zero_le _, rfl, rfl, hl0, rfl, Nat.le_refl _⟩
 case round =>
  obtain ⟨i, hs, hi, rfl, rfl, hl, hq, hlen⟩ := hrel
  clear hl0
  obtain ⟨wA, hwA⟩ : ∃ x, x = wr := ⟨wr, rfl⟩
  subst hwA
  have hHq := Lib.hid hq
  clear hq
  by_cases hin : i < gs.length
  · obtain ⟨a, ha⟩ : ∃ a, gs[i]? = some a := ⟨gs[i], List.getElem?_eq_getElem hin⟩
    have hLi := Lib.hid (hat i a ha)
    have hmem : a.heap ∈ L := List.mem_of_getElem? hLi.out
    have hc10 : a.cells.length ≤ 10 := J.small _ hmem
    obtain ⟨g', c', hv, x0, x1, x2, x3⟩ := e6k hl.loop.list ha
    obtain ⟨hA, hcc⟩ : A = some ⟨g', 0, none⟩ ∧ c = c' := by simp only [Value.slice.injEq] at hv; exact ⟨hv.1, hv.2.2⟩
    clear hv
    subst hA
    subst hcc
    obtain ⟨ra, rc, hav⟩ : ∃ ra rc, a.v = .slice ra a.cells.length rc := by
     obtain ⟨x, y, e⟩ := (hl.loop.list.inner i a ha).slice1
     exact ⟨x, y, e⟩
    rw [hav] at x3
    have hHa := Lib.hid ha
    have hHav := Lib.hid hav
    clear ha hav
    have hltI : (i : Int) < (gs.length : Int) := by omega
    have hl1 := hl.alloc (.cells #[.int .i64 a.x, .int .i64 a.y, .int .i64 a.z, .slice ra a.cells.length rc] 29)
    go_wp2
    clear x0 x1 x2 x3
    go_loopg [6, 53] 729 (fun m v6 v53 wr2 => ∃ (n : Nat) (hs2 : List HE), n ≤ 729 ∧ m = 729 - n ∧ v53 = .int .i64 n ∧ JF W wr2 v6 hs2 (.slice (some ⟨g', 0, none⟩) gs.length c) gs (.slice fa F.length fc) F [(wA.heap.size, .cells #[.int .i64 a.x, .int .i64 a.y, .int .i64 a.z, .slice ra a.cells.length rc] 29), (w5.heap.size, .cells #[.int .i64 F0.1, .int .i64 F0.2.1, .int .i64 F0.2.2.1, .slice fa F.length fc] 29)] ∧ hs2.map HE.heap = V.cands F (L.take i) ++ V.candS F a.cells n ∧ hs2.length ≤ i * 729 + n)
    case atStart => exact ⟨0, hs, Nat.zero_le _, rfl, rfl, hl1, by rw [hHq.out]; simp [JoinV.candS], by omega⟩
    case round =>
     obtain ⟨n, hs2, hn, rfl, rfl, hl2, hq2, hlen2⟩ := hrel
     clear hl1 hHq
     obtain ⟨wB, hwB⟩ : ∃ x, x = wr := ⟨wr, rfl⟩
     subst hwB
     have hHq2 := Lib.hid hq2
     clear hq2
     by_cases hn729 : n < 729
     · have hltN : (n : Int) < 729 := by omega
       have hl3 := hl2.alloc (.cells #[.int .i64 ((n : Int) % 9 - 4), .int .i64 ((n : Int) / 9 % 9 - 4), .int .i64 ((n : Int) / 81 - 4)] 55)
       obtain ⟨_, _, _, _⟩ := e3s (hl3.loop.boxes _ _ (List.mem_cons_of_mem _ (List.mem_cons_self ..))).2.1
       go_wp2
       go_loopg [13, 14, 70] a.cells.length (fun m v13 v14 v70 wr3 => ∃ (j : Nat), j ≤ a.cells.length ∧ m = a.cells.length - j ∧ v13 = .bool ((a.cells.take j).any fun c => V.touchF (V.add c (byN n)) 6) ∧ v14 = .bool ((a.cells.take j).any fun c => V.has (V.add c (byN n))) ∧ v70 = .int .i64 j ∧ JF W wr3 u6 hs2 (.slice (some ⟨g', 0, none⟩) gs.length c) gs (.slice fa F.length fc) F [(wB.heap.size, .cells #[.int .i64 ((n : Int) % 9 - 4), .int .i64 ((n : Int) / 9 % 9 - 4), .int .i64 ((n : Int) / 81 - 4)] 55), (wA.heap.size, .cells #[.int .i64 a.x, .int .i64 a.y, .int .i64 a.z, .slice ra a.cells.length rc] 29), (w5.heap.size, .cells #[.int .i64 F0.1, .int .i64 F0.2.1, .int .i64 F0.2.2.1, .slice fa F.length fc] 29)])
       case atStart => exact ⟨0, Nat.zero_le _, rfl, by simp, by simp, rfl, hl3⟩
       case round =>
        obtain ⟨j, hj, rfl, h13, h14, rfl, hl4⟩ := hrel
        clear hl3
        obtain ⟨wC, hwC⟩ : ∃ x, x = wr := ⟨wr, rfl⟩
        subst hwC
        obtain ⟨t0, ht0⟩ : ∃ t, ((a.cells.take j).any fun c => V.touchF (V.add c (byN n)) 6) = t := ⟨_, rfl⟩
        obtain ⟨c0, hc0⟩ : ∃ t, ((a.cells.take j).any fun c => V.has (V.add c (byN n))) = t := ⟨_, rfl⟩
        rw [ht0] at h13
        rw [hc0] at h14
        subst h13
        subst h14
        have hHt0 := Lib.hid ht0
        have hHc0 := Lib.hid hc0
        clear ht0 hc0
        by_cases hjn : j < a.cells.length
        · obtain ⟨d, hd⟩ : ∃ d, a.cells[j]? = some d := ⟨a.cells[j], List.getElem?_eq_getElem hjn⟩
          have hinn := hl4.loop.list.inner i a hHa.out
          rw [hHav.out] at hinn
          obtain ⟨gr, hra, y0, y1, y2⟩ := g6g hinn hd
          subst hra
          have hHd := Lib.hid hd
          clear hd hinn
          have hltJ : (j : Int) < (a.cells.length : Int) := by omega
          have hl5 := hl4.alloc (.cells #[.int .i64 d.1, .int .i64 d.2.1, .int .i64 d.2.2.1] 55)
          obtain ⟨_, _, _⟩ := j5i (hl5.loop.boxes _ _ (List.mem_cons_of_mem _ (List.mem_cons_self ..))).2.1
          have hadd := j1f (W := wC.alloc (.cells #[.int .i64 d.1, .int .i64 d.2.1, .int .i64 d.2.2.1] 55)) (J.add d (byN n))
          obtain ⟨d2, hd2⟩ : ∃ d2, V.add d (byN n) = d2 := ⟨_, rfl⟩
          rw [hd2] at hadd
          unfold a3V byN at hadd
          have hHd2 := Lib.hid hd2
          clear hd2
          go_upto_region 17 with (go_at_call 38; refine hadd.mono ?_; rintro e w4 ⟨rfl, hb4⟩)
          have hl6 := (hl5.call hb4).alloc (.cells #[.int .i64 d2.1, .int .i64 d2.2.1, .int .i64 d2.2.2.1] 55)
          have hhas : ∀ U x, Below (w4.alloc (.cells #[.int .i64 d2.1, .int .i64 d2.2.1, .int .i64 d2.2.2.1] 55)).heap.size (w4.alloc (.cells #[.int .i64 d2.1, .int .i64 d2.2.1, .int .i64 d2.2.2.1] 55)) U → Calls Tryz.prog 39 #[.slice fa F.length fc, a3V x] U fun e' w' => e' = .returned (.bool (V.has x)) ∧ Below U.heap.size U w' := fun U x hU =>
           j8w ((hl6.call hU).zone) ((hl6.call hU).read) (J.has x)
          unfold a3V at hhas
          clear hadd hl5 y0 y1 y2
          go_cut [14] from 77 to 83 (fun v14 wc => v14 = .bool (c0 || V.has d2) ∧ Below (w4.alloc (.cells #[.int .i64 d2.1, .int .i64 d2.2.1, .int .i64 d2.2.2.1] 55)).heap.size (w4.alloc (.cells #[.int .i64 d2.1, .int .i64 d2.2.1, .int .i64 d2.2.2.1] 55)) wc)
          case first =>
           obtain ⟨_, _, _⟩ := j5i (hl6.loop.boxes _ _ (List.mem_cons_self ..)).2.1
           obtain ⟨_, _, _, _⟩ := e3s (hl6.loop.boxes _ _ (List.mem_cons_of_mem _ (List.mem_cons_of_mem _ (List.mem_cons_of_mem _ (List.mem_cons_of_mem _ (List.mem_cons_self ..)))))).2.1
           cases c0
           · go_wp2_with (go_at_call 39; refine (hhas _ d2 (Below.refl _ _)).mono ?_; rintro e w6' ⟨rfl, hb6'⟩)
             go_meet
             exact ⟨rfl, hb6'⟩
           · go_wp2
             go_meet
             exact ⟨rfl, Below.refl _ _⟩
          case rest =>
           obtain ⟨rfl, hbc⟩ := hcut
           have hl7 := hl6.call hbc
           have hbe : ∀ U f, f < 6 → _ := fun U f hf => i6e (W := U) (J.bey d2 f hf)
           unfold a3V at hbe
           go_wp2
           go_loopg [13, 84] 6 (fun m v13 v84 wr4 => ∃ (f : Nat), f ≤ 6 ∧ m = 6 - f ∧ v13 = .bool (t0 || V.touchF d2 f) ∧ v84 = .int .i64 f ∧ Below (w4.alloc (.cells #[.int .i64 d2.1, .int .i64 d2.2.1, .int .i64 d2.2.2.1] 55)).heap.size (w4.alloc (.cells #[.int .i64 d2.1, .int .i64 d2.2.1, .int .i64 d2.2.2.1] 55)) wr4)
           case atStart => exact ⟨0, Nat.zero_le _, rfl, by simp [JoinV.touchF], rfl, hbc⟩
           case round =>
            obtain ⟨f, hf, rfl, h13, rfl, hbf⟩ := hrel
            clear hbc hl7
            obtain ⟨wD, hwD⟩ : ∃ x, x = wr := ⟨wr, rfl⟩
            subst hwD
            obtain ⟨t1, ht1⟩ : ∃ t, (t0 || V.touchF d2 f) = t := ⟨_, rfl⟩
            rw [ht1] at h13
            subst h13
            have hHt1 := Lib.hid ht1
            clear ht1
            by_cases hf6 : f < 6
            · have hltF : (f : Int) < 6 := by omega
              have hl8 := hl6.call hbf
              obtain ⟨_, _, _⟩ := j5i (hl8.loop.boxes _ _ (List.mem_cons_self ..)).2.1
              obtain ⟨_, _, _, _⟩ := e3s (hl8.loop.boxes _ _ (List.mem_cons_of_mem _ (List.mem_cons_of_mem _ (List.mem_cons_of_mem _ (List.mem_cons_of_mem _ (List.mem_cons_self ..)))))).2.1
              go_upto_region 21 with fail
              have hhas' : ∀ U, Below wD.heap.size wD U → _ := fun U hU => hhas U (V.bey d2 f) (a0r hbf hU)
              have hbe' : ∀ U, _ := fun U => hbe U f hf6
              obtain ⟨x, hx⟩ : ∃ x, V.bey d2 f = x := ⟨_, rfl⟩
              rw [hx] at hhas' hbe'
              have hHx := Lib.hid hx
              clear hx hhas hbe
              have hBd := (hl8.loop.boxes _ _ (List.mem_cons_self ..)).2.1
              have hBf := (hl8.loop.boxes _ _ (List.mem_cons_of_mem _ (List.mem_cons_of_mem _ (List.mem_cons_of_mem _ (List.mem_cons_of_mem _ (List.mem_cons_self ..)))))).2.1
              have hS : ∀ w', Below wD.heap.size wD w' → w'.cell? ⟨w5.heap.size, 3, none⟩ = some (.slice fa F.length fc) ∧ w'.cell? ⟨w4.heap.size, 0, none⟩ = some (.int .i64 d2.1) ∧ w'.cell? ⟨w4.heap.size, 1, none⟩ = some (.int .i64 d2.2.1) ∧ w'.cell? ⟨w4.heap.size, 2, none⟩ = some (.int .i64 d2.2.2.1) ∧ Below wD.heap.size wD w' := fun w' hw => by
               obtain ⟨a0, a1, a2⟩ := j5i (a0m hBd hw)
               exact ⟨(e3s (a0m hBf hw)).2.2.2, a0, a1, a2, hw⟩
              have hbeS : ∀ U, Below wD.heap.size wD U → Calls Tryz.prog 40 #[.agg #[.int .i64 d2.1, .int .i64 d2.2.1, .int .i64 d2.2.2.1], .int .i64 f] U fun e w' => e = .returned (.agg #[.int .i64 x.1, .int .i64 x.2.1, .int .i64 x.2.2.1]) ∧ (w'.cell? ⟨w5.heap.size, 3, none⟩ = some (.slice fa F.length fc) ∧ w'.cell? ⟨w4.heap.size, 0, none⟩ = some (.int .i64 d2.1) ∧ w'.cell? ⟨w4.heap.size, 1, none⟩ = some (.int .i64 d2.2.1) ∧ w'.cell? ⟨w4.heap.size, 2, none⟩ = some (.int .i64 d2.2.2.1) ∧ Below wD.heap.size wD w') := fun U hU => by
               refine (hbe' U).mono ?_
               rintro e w' ⟨rfl, hb⟩
               exact ⟨rfl, hS _ (a0r hU hb)⟩
              obtain ⟨hx', hxx⟩ : ∃ b, V.has x = b := ⟨_, rfl⟩
              rw [hxx] at hhas'
              have hhasS : ∀ U, Below wD.heap.size wD U → Calls Tryz.prog 39 #[.slice fa F.length fc, .agg #[.int .i64 x.1, .int .i64 x.2.1, .int .i64 x.2.2.1]] U fun e w' => e = .returned (.bool hx') ∧ (w'.cell? ⟨w5.heap.size, 3, none⟩ = some (.slice fa F.length fc) ∧ w'.cell? ⟨w4.heap.size, 0, none⟩ = some (.int .i64 d2.1) ∧ w'.cell? ⟨w4.heap.size, 1, none⟩ = some (.int .i64 d2.2.1) ∧ w'.cell? ⟨w4.heap.size, 2, none⟩ = some (.int .i64 d2.2.2.1) ∧ Below wD.heap.size wD w') := fun U hU => by
               refine (hhas' U hU).mono ?_
               rintro e w' ⟨rfl, hb⟩
               exact ⟨rfl, hS _ (a0r hU hb)⟩
              have hHxx := Lib.hid hxx
              have hHS := Lib.hid hS
              have hB0 := Below.refl wD.heap.size wD
              clear hxx hhas' hbe' hS hBd hBf
              cases t1
              · go_region_held3 (fun w' => w'.cell? ⟨w5.heap.size, 3, none⟩ = some (.slice fa F.length fc) ∧ w'.cell? ⟨w4.heap.size, 0, none⟩ = some (.int .i64 d2.1) ∧ w'.cell? ⟨w4.heap.size, 1, none⟩ = some (.int .i64 d2.2.1) ∧ w'.cell? ⟨w4.heap.size, 2, none⟩ = some (.int .i64 d2.2.2.1) ∧ Below wD.heap.size wD w')
                 (first | (refine ⟨?_, ?_, ?_, ?_, ?_⟩ <;> first | assumption | (apply h3f; assumption) | (go_keep; done)) | (go_keep; done))
                 (first
                   | (go_at_call 40; refine (hbeS _ ?_).mono ?_; (first | assumption | (apply h3f; assumption)); rintro e w7 ⟨rfl, _, _, _, _, hb7⟩)
                   | (go_at_call 39; refine (hhasS _ ?_).mono ?_; (first | assumption | (apply h3f; assumption)); rintro e w8 ⟨rfl, _, _, _, _, hb8⟩))
                go_wp2
                go_roundg (6 - (f + 1))
                case measure => omega
                case rel => exact ⟨f + 1, by omega, rfl, by rw [g6e, ← Bool.or_assoc, hHt1.out, hHx.out, hHxx.out]; rfl, by go_num, a0r hbf hb8⟩
              · go_quiet (fail)
                go_wp2
                go_roundg (6 - (f + 1))
                case measure => omega
                case rel => exact ⟨f + 1, by omega, rfl, by rw [g6e, ← Bool.or_assoc, hHt1.out]; rfl, by go_num, a0r hbf (j6u _ _)⟩
            · obtain rfl : f = 6 := by omega
              go_wp2
              go_roundg (a.cells.length - (j + 1))
              case measure => omega
              case rel =>
               refine ⟨j + 1, by omega, rfl, ?_, ?_, by go_num, (hl6.call hbf).less.less⟩
               · rw [any_take_succ _ _ _ _ hHd.out, hHt0.out, hHd2.out, hHt1.out]
               · rw [any_take_succ _ _ _ _ hHd.out, hHc0.out, hHd2.out]
        · obtain rfl : j = a.cells.length := by omega
          have hT0 : V.touch a.cells (byN n) = t0 := by rw [← hHt0.out, List.take_length]; rfl
          have hC0 : V.clash a.cells (byN n) = c0 := by rw [← hHc0.out, List.take_length]; rfl
          have hkp : V.keep a.cells (byN n) = (t0 && !c0) := by unfold JoinV.keep; rw [hT0, hC0]
          have hHk := Lib.hid hkp
          clear hkp hT0 hC0 hHt0 hHc0
          have skip : ∀ hk : (t0 && !c0) = false, hs2.map HE.heap = V.cands F (L.take i) ++ V.candS F a.cells (n + 1) := fun hk => by
           rw [hHq2.out, h2h, JoinV.cand, if_neg (by rw [hHk.out, hk]; decide)]; simp
          cases t0
          · go_wp2
            go_roundg (729 - (n + 1))
            case measure => omega
            case rel => exact ⟨n + 1, hs2, by omega, rfl, by go_num, hl4.less, skip rfl, by omega⟩
          · cases c0
            · have hkk : V.keep a.cells (byN n) = true := hHk.out.trans rfl
              have hhof := J.hof _ hmem n hn729 hkk
              obtain ⟨T, gf, cf, bf, cm, hform, hformv⟩ := J.frm _ hmem n hn729 hkk
              change a2l (V.cells F a.cells (byN n), ()) = some (V.hof (V.cells F a.cells (byN n)), ()) at hhof
              change FormOK (V.hof (V.cells F a.cells (byN n))) T gf cf bf cm at hform
              change c7e T.length cf cm = V.frm (V.hof (V.cells F a.cells (byN n))) at hformv
              have hq5 : hs2.map HE.heap ++ [V.frm (V.hof (V.cells F a.cells (byN n)))] = V.cands F (L.take i) ++ V.candS F a.cells (n + 1) := by
               rw [hHq2.out, h2h, JoinV.cand, if_pos hkk]; simp
              obtain ⟨G, hG⟩ : ∃ G, V.hof (V.cells F a.cells (byN n)) = G := ⟨_, rfl⟩
              obtain ⟨R, hR⟩ : ∃ R, V.frm G = R := ⟨_, rfl⟩
              rw [hG] at hhof hform hformv hq5
              rw [hR] at hformv hq5
              have hHq5 := Lib.hid hq5
              clear hq5 hG hR skip hkk
              obtain ⟨i0, hi0, hz0, hz1, hz2⟩ := info_parts h8u
              obtain ⟨i3, hi3, hz30, hz31, hz32⟩ := info_parts j0l
              have hcl := i9s (hl4.read) (hl4.zone) (by omega)
              have hinn := hl4.loop.list.inner i a hHa.out
              rw [hHav.out] at hinn
              obtain ⟨_, _, _, _⟩ := e3s (hl4.loop.boxes _ _ (List.mem_cons_of_mem _ (List.mem_cons_of_mem _ (List.mem_cons_self ..)))).2.1
              have hBa := (hl4.loop.boxes _ _ (List.mem_cons_of_mem _ (List.mem_cons_self ..))).2.1
              have hBy := (hl4.loop.boxes _ _ (List.mem_cons_self ..)).2.1
              go_wp2_with (go_at_call 41; refine hcl.mono ?_; rintro e w6' ⟨xv, yv, rfl, hb6', ho6⟩; obtain ⟨_, _, _, _⟩ := e3s (a0m hBa hb6'))
              go_loopg [19, 109] a.cells.length (fun m v19 v109 wr5 => ∃ (j : Nat), j ≤ a.cells.length ∧ m = a.cells.length - j ∧ v109 = .int .i64 j ∧ Below wC.heap.size wC wr5 ∧ wr5.ownsRow wC.heap.size 55 3 v19 (F.length + j) (enc3 (F ++ (a.cells.take j).map fun c => V.add c (byN n))))
              case atStart => exact ⟨0, Nat.zero_le _, rfl, rfl, hb6', by simpa using ho6⟩
              case round =>
               obtain ⟨j, hj, rfl, rfl, hbj, hoj⟩ := hrel
               clear hb6' ho6 hcl
               obtain ⟨wE, hwE⟩ : ∃ x, x = wr := ⟨wr, rfl⟩
               subst hwE
               by_cases hjn : j < a.cells.length
               · obtain ⟨d, hd⟩ : ∃ d, a.cells[j]? = some d := ⟨a.cells[j], List.getElem?_eq_getElem hjn⟩
                 obtain ⟨gr, hra, y0, y1, y2⟩ := g6g (b3d hinn hbj) hd
                 subst hra
                 have hHd := Lib.hid hd
                 clear hd
                 have hltJ : (j : Int) < (a.cells.length : Int) := by omega
                 obtain ⟨_, _, _⟩ := j5i (b7i (a0m hBy hbj) (.cells #[.int .i64 d.1, .int .i64 d.2.1, .int .i64 d.2.2.1] 55))
                 have hadd := j1f (W := wE.alloc (.cells #[.int .i64 d.1, .int .i64 d.2.1, .int .i64 d.2.2.1] 55)) (J.add d (byN n))
                 obtain ⟨d2, hd2⟩ : ∃ d2, V.add d (byN n) = d2 := ⟨_, rfl⟩
                 rw [hd2] at hadd
                 unfold a3V byN at hadd
                 have hHd2 := Lib.hid hd2
                 clear hd2
                 have hlenE : (enc3 (F ++ (a.cells.take j).map fun c => V.add c (byN n))).length = (F.length + j) * 3 := hoj.1
                 have hHlE := Lib.hid hlenE
                 clear hlenE
                 go_wp2_with (first
                  | (go_at_call 38; refine hadd.mono ?_; rintro e w4 ⟨rfl, hb4⟩; have hB4 := a0r (b6f hbj _) hb4; have ho4 : w4.ownsRow wC.heap.size 55 3 u19 (F.length + j) (enc3 (F ++ (a.cells.take j).map fun c => V.add c (byN n))) := f0m hoj fun q hq => (hb4.block q (by have := (hoj.lt q hq).2; rw [a1a]; omega)).trans (Below.heap_alloc _ _ _ (hoj.lt q hq).2))
                  | (at_builtin; refine b1v _ rfl _ _ 22 22 rfl wC.heap.size 55 i3 (.agg #[.int .i64 0, .int .i64 0, .int .i64 0]) 3 24 Tryz.underlying22 hi3 hz30 hz31 hz32 rfl _ (F.length + j) (enc3 (F ++ (a.cells.take j).map fun c => V.add c (byN n))) rfl (ho4.alloc _) (.slice (some ⟨_, 0, none⟩) 1 1) 1 [.int .i64 d2.1, .int .i64 d2.2.1, .int .i64 d2.2.2.1] rfl (k1p (alloc_at _ _)) ?_ ?_ ?_ ?_; rotate_left; rotate_left; rotate_left; intro v' w8 hv' hgr' hp'))
                 · have hB8 := i0d (w5 := wC) (b6f hB4 (.cells #[.int .i64 d2.1, .int .i64 d2.2.1, .int .i64 d2.2.2.1] 55)) (ho4.alloc _) hgr'
                   go_roundg (a.cells.length - (j + 1))
                   case measure => omega
                   case rel =>
                    refine ⟨j + 1, by omega, rfl, by go_num, hB8, ?_⟩
                    rw [List.take_add_one, hHd.out, List.map_append, ← List.append_assoc, g4u]
                    simp only [Option.toList_some, List.map_cons, List.map_nil, hHd2.out]
                    exact hv'
                 · unfold maxLen; omega
                 · omega
                 · have := hB4.size; rw [a1a]; omega
               · obtain rfl : j = a.cells.length := by omega
                 rw [List.take_length] at hoj
                 have ho9 : wE.ownsRow wC.heap.size 55 3 u19 (V.cells F a.cells (byN n)).length (enc3 (V.cells F a.cells (byN n))) := by
                  have e : (V.cells F a.cells (byN n)).length = F.length + a.cells.length := by simp [JoinV.cells]
                  rw [e]; exact hoj
                 have how := k0p (Z := fun _ => False) ho9
                 have hch := j7p (Z := fun q => u19.ownBlock = some q) (fun q hq => (how.lt q hq).2) (how.reads _ (fun _ hz => hz.elim) fun q hq => hq) hhof
                 have hfm : ∀ (U : World) (u : Value), OwnV (fun _ => False) U wE.heap.size 55 A3ty u G.2.2.2.1 → Calls Tryz.prog 43 #[hpV G u] U fun e w' => ∃ x y, e = .returned (.agg #[.int .i64 R.1, .int .i64 R.2.1, .int .i64 R.2.2.1, .slice x R.2.2.2.1.length y]) ∧ Below U.heap.size U w' ∧ OwnV (fun _ => False) w' U.heap.size 55 A3ty (.slice x R.2.2.2.1.length y) R.2.2.2.1 := fun U u hu => by
                  refine (f8y (ArgH.own hu) hform).mono ?_
                  rintro e w' ⟨u, rfl, hb, hu⟩
                  rw [hformv] at hu
                  obtain ⟨x, y, rfl⟩ := hu.slice1
                  exact ⟨x, y, by rw [hformv]; rfl, hb, hu⟩
                 unfold hpV at hch hfm
                 clear hform hformv hhof ho9 how hoj
                 go_wp2_with (first
                  | (go_at_call 42; refine hch.mono ?_; rintro e w7 ⟨u7, rfl, hb7, hu7⟩; have hfm7 := hfm w7 u7 hu7)
                  | (go_at_call 43; refine hfm7.mono ?_; rintro e w9 ⟨fx, fy, rfl, hb9, hu9⟩; have hB9 := a0r (a0r hbj hb7) hb9; have ho9 := fun o => ((hl4.call hB9).loop.deep.outer.alloc o))
                  | (at_builtin; refine b1v _ rfl _ _ 26 26 rfl W.heap.size 29 i0 (.agg #[.int .i64 0, .int .i64 0, .int .i64 0, .slice none 0 0]) 4 48 Tryz.underlying26 hi0 hz0 hz1 hz2 rfl _ hs2.length (encs hs2) rfl (ho9 _) (.slice (some ⟨_, 0, none⟩) 1 1) 1 [.int .i64 R.1, .int .i64 R.2.1, .int .i64 R.2.2.1, .slice fx R.2.2.2.1.length fy] rfl (h4x _ _ rfl _ _ _ _ rfl rfl rfl rfl) ?_ ?_ ?_ ?_; rotate_left; rotate_left; rotate_left; intro v' w10 hv' hgr' hp'))
                 · have hu10 : OwnV (fun _ => False) w9 wC.heap.size 55 A3ty (.slice fx R.2.2.2.1.length fy) R.2.2.2.1 := OwnV.rebaseH hu9 fun q hq => by have := (hu9.lt q hq).1; have := hbj.size; have := hb7.size; omega
                   have hpu := hl4.push (a := ⟨R.1, R.2.1, R.2.2.1, R.2.2.2.1, .slice fx R.2.2.2.1.length fy⟩) hB9 hu10 hv' hgr' hp'
                   go_roundg (729 - (n + 1))
                   case measure => omega
                   case rel => exact ⟨n + 1, _, by omega, rfl, by go_num, hpu.less, by rw [List.map_append]; exact hHq5.out, by rw [List.length_append]; exact Nat.succ_le_succ hlen2⟩
                 · unfold maxLen; omega
                 · omega
                 · have := hB9.size; have := hl4.loop.below.size; rw [a1a]; omega
            · go_wp2
              go_roundg (729 - (n + 1))
              case measure => omega
              case rel => exact ⟨n + 1, hs2, by omega, rfl, by go_num, hl4.less, skip rfl, by omega⟩
     · obtain rfl : n = 729 := by omega
       go_wp2
       go_roundg (gs.length - (i + 1))
       case measure => omega
       case rel => exact ⟨i + 1, hs2, by omega, rfl, by go_num, hl2.less, hHq2.out.trans (i2z V F L i _ hLi.out).symm, by omega⟩
  · obtain rfl : i = gs.length := by omega
    have hltI : ¬ ((gs.length : Int) < (gs.length : Int)) := by omega
    have hq' : hs.map HE.heap = V.cands F L := by rw [hHq.out, hHG.out, List.take_length]
    obtain ⟨a0, h0⟩ : ∃ a0, a0 ∈ hs := by
     cases hs with
     | nil => exact absurd hq'.symm hne
     | cons x r => exact ⟨x, List.mem_cons_self ..⟩
    have hn' : hs.length ≤ 100000 := by
     have hgL : gs.length = L.length := hHG.out
     omega
    have hso := g1f hl.loop.deep h0 hn' (Pc := Pc) (fun x hx => hP _ (hq' ▸ List.mem_map_of_mem hx)) O
    have hHq' := Lib.hid hq'
    clear hq' hn'
    go_wp2_with (go_at_call 44; refine hso.mono ?_; rintro e w3' ⟨v3, hs2, rfl, hf3, hsd, hd3⟩)
    go_ret2
    have hb := hl.loop.below
    have hdo := hl.loop.deep.outer
    exact ⟨_, hs, hs2, rfl, ⟨hf3.os.trans hb.os, hf3.tape.trans hb.tape, hf3.output.trans hb.output, Nat.le_trans hb.size hf3.size, fun k hk => (hf3.block k (Nat.lt_of_lt_of_le hk hb.size) fun e => by have := (hdo.lt k e).1; omega).trans (hb.block k hk), Nat.le_trans hb.drawn hf3.drawn⟩, hd3, hHq'.out, hsd⟩
end Go.VI
namespace Go.VI
open Go.Proofs Go.RowKit
set_option maxRecDepth 100000
set_option maxHeartbeats 2000000 in
theorem j7x {Z Zh : Nat → Prop} {W : World} {g h : a0j} {ga ha : Option Addr} {gc hc : Nat} {b1 b2 : Bool} (ag : ArgH Z W g (.slice ga g.2.2.2.1.length gc)) (ah : ArgH Zh W h (.slice ha h.2.2.2.1.length hc))
 (hg1 : a3v (g, ()) = some (b1, ())) (hh1 : a3v (h, ()) = some (b2, ())) (hsm : g.2.2.2.1.length ≤ 1048576 ∧ h.2.2.2.1.length ≤ 1048576) (hno : ¬ (b1 = true ∧ b2 = true ∧ g.2.2.2.1.length + h.2.2.2.1.length ≤ 4)) :
 Calls Tryz.prog 8 #[hpV g (.slice ga g.2.2.2.1.length gc), hpV h (.slice ha h.2.2.2.1.length hc)] W fun e w' => e = .returned (.tuple #[.slice none 0 0, .bool false]) ∧ Below W.heap.size W w' := by
 have e0 := a5t W (.cells #[.int .i64 g.1, .int .i64 g.2.1, .int .i64 g.2.2.1, .slice ga g.2.2.2.1.length gc] 29)
 have B0 := alloc_at W (.cells #[.int .i64 g.1, .int .i64 g.2.1, .int .i64 g.2.2.1, .slice ga g.2.2.2.1.length gc] 29)
 have e1 := b6f e0 (.cells #[.int .i64 h.1, .int .i64 h.2.1, .int .i64 h.2.2.1, .slice ha h.2.2.2.1.length hc] 29)
 have sA := a1a W (.cells #[.int .i64 g.1, .int .i64 g.2.1, .int .i64 g.2.2.1, .slice ga g.2.2.2.1.length gc] 29)
 have B1 := alloc_at (W.alloc (.cells #[.int .i64 g.1, .int .i64 g.2.1, .int .i64 g.2.2.1, .slice ga g.2.2.2.1.length gc] 29)) (.cells #[.int .i64 h.1, .int .i64 h.2.1, .int .i64 h.2.2.1, .slice ha h.2.2.2.1.length hc] 29)
 rw [sA] at B1
 have hs1 : ∀ U, Below W.heap.size W U → _ := fun U hU => g3b (W := U) (ag.at hU) hg1
 have hs2 : ∀ U, Below W.heap.size W U → _ := fun U hU => g3b (W := U) (ah.at hU) hh1
 unfold hpV at *
 obtain ⟨k0, k1, k2, k3⟩ := e3s B1
 obtain ⟨j0, j1, j2, j3⟩ := i8j B0
 cases b1
 · go_enter Tryz.func8, Tryz.ntmps8
   go_wp2_with (go_at_call 35; refine (hs1 _ e1).mono ?_; rintro e w2 ⟨rfl, hb2⟩; clear hs1; obtain ⟨_, _, _, _⟩ := e3s (a0m B1 hb2); obtain ⟨_, _, _, _⟩ := e3s (a0m (b7i B0 _) hb2))
   go_ret2
   exact ⟨rfl, a0r e1 hb2⟩
 · cases b2
   · go_enter Tryz.func8, Tryz.ntmps8
     go_wp2_with (first
      | (go_at_call 35; refine (hs1 _ e1).mono ?_; rintro e w2 ⟨rfl, hb2⟩; clear hs1; obtain ⟨_, _, _, _⟩ := e3s (a0m B1 hb2); obtain ⟨_, _, _, _⟩ := e3s (a0m (b7i B0 _) hb2))
      | (go_at_call 35; refine (hs2 _ (a0r e1 hb2)).mono ?_; rintro e w3 ⟨rfl, hb3⟩; clear hs2; have hb4 := a0r hb2 hb3; obtain ⟨_, _, _, _⟩ := e3s (a0m B1 hb4); obtain ⟨_, _, _, _⟩ := e3s (a0m (b7i B0 _) hb4)))
     go_ret2
     exact ⟨rfl, a0r e1 hb4⟩
   · have hgt : (g.2.2.2.1.length : Int) + (h.2.2.2.1.length : Int) > 4 := by
      have : ¬ (g.2.2.2.1.length + h.2.2.2.1.length ≤ 4) := fun h => hno ⟨rfl, rfl, h⟩
      omega
     clear hno
     go_enter Tryz.func8, Tryz.ntmps8
     go_wp2_with (first
      | (go_at_call 35; refine (hs1 _ e1).mono ?_; rintro e w2 ⟨rfl, hb2⟩; clear hs1; obtain ⟨_, _, _, _⟩ := e3s (a0m B1 hb2); obtain ⟨_, _, _, _⟩ := e3s (a0m (b7i B0 _) hb2))
      | (go_at_call 35; refine (hs2 _ (a0r e1 hb2)).mono ?_; rintro e w3 ⟨rfl, hb3⟩; clear hs2; have hb4 := a0r hb2 hb3; obtain ⟨_, _, _, _⟩ := e3s (a0m B1 hb4); obtain ⟨_, _, _, _⟩ := e3s (a0m (b7i B0 _) hb4)))
     go_ret2
     exact ⟨rfl, a0r e1 hb4⟩
end Go.VI
namespace Go.VI
open Go.Proofs Go.RowKit
set_option maxRecDepth 100000
theorem i6o : OrdOK (fun h => Small h.2.2.2.1) i1s e6r := by
 refine ⟨fun g h hg hh => j5u hg hh, fun g _ => ?_, fun f g h _ _ _ a b => ?_, fun f g h _ _ _ a b => ?_, fun g h hg _ => j2g hg⟩
 · rw [cmpH_neg, b4g]; decide
 · rw [cmpH_neg] at *; exact c9q a b
 · rw [cmpH_neg] at *
   intro c
   cases hgf : a9f g f with
   | true => exact b (c9q hgf c)
   | false =>
    have : f = g := d4g (by simpa using a) hgf
    rw [this] at c
    exact b c
theorem h2v : ∀ (l : List HE) (p : HE), (p :: l).Pairwise (fun a b => ¬ i1s b.heap a.heap < 0) → Strict (p.heap :: (ddF e6r p l).map HE.heap) ∧ ∀ x, x ∈ p.heap :: (ddF e6r p l).map HE.heap ↔ x ∈ (p :: l).map HE.heap
 | [], p, _ => ⟨by simp [ddF, Strict], fun x => by simp [ddF]⟩
 | y :: l, p, hs => by
  have hs' := (List.pairwise_cons.1 hs).2
  obtain ⟨i1, i2⟩ := h2v l y hs'
  simp only [ddF]
  cases hb : e6r y.heap p.heap with
  | true =>
   have e := sameB_iff.1 hb
   rw [if_pos rfl, ← e]
   exact ⟨i1, fun x => by rw [i2 x]; simp [e]⟩
  | false =>
   rw [if_neg (by simp)]
   have hyp := (List.pairwise_cons.1 hs).1 y (by simp)
   rw [cmpH_neg] at hyp
   have hlt : a9f p.heap y.heap = true := by
    cases h : a9f p.heap y.heap with
    | true => rfl
    | false =>
     have : y.heap = p.heap := d4g (by simpa using hyp) h
     rw [f2i this] at hb
     cases hb
   refine ⟨?_, fun x => ?_⟩
   · refine List.pairwise_cons.2 ⟨fun x hx => ?_, i1⟩
     rw [List.map_cons] at hx
     rcases List.mem_cons.1 hx with rfl | hx'
     · exact hlt
     · exact c9q hlt ((List.pairwise_cons.1 i1).1 x hx')
   · rw [List.map_cons, List.mem_cons, i2 x, List.map_cons (f := HE.heap) (a := p), List.mem_cons]
theorem f5r {hs hs2 : List HE} (h : g3d i1s e6r hs hs2) : Strict (hs2.map HE.heap) ∧ ∀ x, x ∈ hs2.map HE.heap ↔ x ∈ hs.map HE.heap := by
 obtain ⟨hs', hp, hso, rfl⟩ := h
 have hmem : ∀ x, x ∈ hs'.map HE.heap ↔ x ∈ hs.map HE.heap := fun x => (hp.map HE.heap).mem_iff
 have hsp : hs'.Pairwise (fun a b => ¬ i1s b.heap a.heap < 0) := by
  rw [List.pairwise_iff_getElem]
  intro i j hi hj hij
  exact hso i j _ _ hij (List.getElem?_eq_getElem hi) (List.getElem?_eq_getElem hj)
 cases hs' with
 | nil => exact ⟨by simp [dd, Strict], fun x => by rw [← hmem]; simp [dd]⟩
 | cons p l =>
  obtain ⟨s1, s2⟩ := h2v l p hsp
  exact ⟨s1, fun x => (s2 x).trans (hmem x)⟩
def j5l (g h : a0b) (R : List a0b) (b : Bool) : Prop := ∀ (Z Zh : Nat → Prop) (W : World) (ga ha : Option Addr) (gc hc : Nat), ArgH Z W g (.slice ga g.2.2.2.1.length gc) → ArgH Zh W h (.slice ha h.2.2.2.1.length hc) →
 Calls Tryz.prog 8 #[hpV g (.slice ga g.2.2.2.1.length gc), hpV h (.slice ha h.2.2.2.1.length hc)] W fun e w' => ∃ v gs, e = .returned (.tuple #[v, .bool b]) ∧ Below W.heap.size W w' ∧ DeepH w' W.heap.size 29 55 v gs ∧ gs.map HE.heap = R
def k0k (g h : a0b) : Prop := One g ∧ One h ∧ g.2.2.2.1.length + h.2.2.2.1.length ≤ 4
theorem h5a (g h : a0b) (hg : Small g.2.2.2.1) (hh : Small h.2.2.2.1) : ∃ R b, a4d (g, h, ()) = some (R, b, ()) ∧ g6v R ∧ R.length ≤ 17496 ∧ j5l g h R b ∧ (b = true ↔ k0k g h) ∧
 (b = true → Strict R ∧ ∀ x, x ∈ R ↔ ∃ t ∈ T24, ∃ v, e9p v ∧ Hit (h3d g.2.2.2.1).2.2.2.1 (a8w t h.2.2.2.1).2.2.2.1 v x) ∧ (b = false → R = []) := by
 have hg' := hg
 have hh' := hh
 unfold Small at hg' hh'
 by_cases hc : k0k g h
 · obtain ⟨og, oh, h4⟩ := hc
   obtain ⟨X, Y, Z, lg, ⟨⟩⟩ := g
   obtain ⟨X', Y', Z', lh, ⟨⟩⟩ := h
   obtain ⟨R, e, sr⟩ := j7y og oh h4
   have og' := og
   have oh' := oh
   obtain ⟨ok1, ng, wg⟩ := og
   obtain ⟨ok2, nh, wh⟩ := oh
   obtain ⟨sg, ig, rg⟩ := okHeap_iff.1 ok1
   obtain ⟨sh, ih, rh⟩ := okHeap_iff.1 ok2
   simp only at sg ig rg sh ih rh ng nh wg wh h4
   have gg : GoodH X Y Z lg := ⟨sg, ig, rg, ng⟩
   have gh : GoodH X' Y' Z' lh := ⟨sh, ih, rh, nh⟩
   have pg : 0 < lg.length := List.length_pos_iff.2 ng
   have ph : 0 < lh.length := List.length_pos_iff.2 nh
   obtain ⟨K, c1, c2⟩ := j0s (X := X) (Y := Y) (Z := Z) (l := lg) hg ok1 sg ig ng
   have eK : h3d lg = K := a7e c2
   have hF := e2e c2 (a7k sg ig) (by omega)
   have wF := d4j c2 wg
   have hFl := d1q c2
   obtain ⟨b1, f1, k1⟩ := g3n (X, Y, Z, lg, ()) hg
   obtain ⟨b2, f2, k2⟩ := g3n (X', Y', Z', lh, ()) hh
   have t1 : b1 = true := k1.2 og'
   have t2 : b2 = true := k2.2 oh'
   subst t1; subst t2
   obtain ⟨J, jm⟩ := j7o gh hF wF wh (by omega) (by omega)
   have hcm : ∀ x, x ∈ (VJ K.2.2.2.1).cands K.2.2.2.1 ((List.range T24.length).map fun i => a8w (tAt i) lh) ↔ x ∈ R := fun x => by rw [jm, sr.mem, eK]
   have hne : (VJ K.2.2.2.1).cands K.2.2.2.1 ((List.range T24.length).map fun i => a8w (tAt i) lh) ≠ [] := fun h0 => by
    obtain ⟨x, hx⟩ := j7u gh hF wF wh (by omega)
    have := (jm x).2 hx
    rw [h0] at this
    cases this
   refine ⟨R, true, e, sr.small, sr.len, fun Za Zb W ga ha gc hc aa ab => ?_, ⟨fun _ => ⟨og', oh', h4⟩, fun _ => rfl⟩, fun _ => ⟨sr.strict, sr.mem⟩, (fun h => by cases h)⟩
   refine (j2e (F0 := K) (bF := true) aa ab f1 f2 h4 c1 j0d (by decide) (gf := fun i => gfV (tAt i) (X', Y', Z', lh, ())) (cf := fun i => a8w (tAt i) lh) (bf := fun _ => true) (fun i t ht => by
    simp only [i5m ht]
    exact i0n gh (i1r t (List.mem_of_getElem? ht))) J hne i6o (fun x hx => sr.small x ((hcm x).1 hx))).mono ?_
   rintro e w' ⟨v, hs, hs2, rfl, hb, hd, hq, hso⟩
   obtain ⟨s1, s2⟩ := f5r hso
   exact ⟨v, hs2, rfl, hb, hd, f8n _ _ s1 sr.strict fun x => by rw [s2, hq, hcm]⟩
 · obtain ⟨b1, e1, k1⟩ := i6s g hg
   obtain ⟨b2, e2, k2⟩ := i6s h hh
   obtain ⟨c1, f1, l1⟩ := g3n g hg
   obtain ⟨c2, f2, l2⟩ := g3n h hh
   have hno : ¬ (c1 = true ∧ c2 = true ∧ g.2.2.2.1.length + h.2.2.2.1.length ≤ 4) := fun ⟨a, b, c⟩ => hc ⟨l1.1 a, l2.1 b, c⟩
   have hno' : ¬ (b1 = true ∧ b2 = true ∧ g.2.2.2.1.length + h.2.2.2.1.length ≤ 4) := fun ⟨a, b, c⟩ => hc ⟨k1.1 a, k2.1 b, c⟩
   have e : a4d (g, h, ()) = some ([], false, ()) := by
    rw [e0d, e1]
    simp only [Option.bind_some]
    cases b1 with
    | false => rfl
    | true =>
     simp only [Bool.not_true, cond_false]
     rw [e2]
     simp only [Option.bind_some]
     cases b2 with
     | false => rfl
     | true =>
      simp only [Bool.not_true, cond_false]
      have : ¬ (g.2.2.2.1.length + h.2.2.2.1.length ≤ 4) := fun h => hno' ⟨rfl, rfl, h⟩
      rw [w64 (by omega) (by omega), decide_eq_true (by omega)]
      rfl
   refine ⟨[], false, e, (fun a ha => by cases ha), by simp, fun Za Zb W ga ha gc hc' aa ab => ?_, ⟨(fun h => by cases h), fun h => absurd h hc⟩, (fun h => by cases h), fun _ => rfl⟩
   refine (j7x aa ab f1 f2 ⟨hg', hh'⟩ hno).mono ?_
   rintro e w' ⟨rfl, hb⟩
   exact ⟨_, [], rfl, hb, DeepH.nil ⟨rfl, .inl ⟨rfl, rfl⟩⟩, rfl⟩
end Go.VI
namespace Go.VI
open Go.Proofs Go.RowKit
set_option maxRecDepth 100000
set_option maxHeartbeats 1000000 in
theorem j1c {G : a0j} (hF : a2l ([(0, 0, 0, ())], ()) = some (G, ())) (W : World) :
 Calls Tryz.prog 50 #[.int .i64 1] W fun e w' => ∃ v gs, e = .returned v ∧ Below W.heap.size W w' ∧ DeepH w' W.heap.size 29 55 v gs ∧ gs.map HE.heap = [G] := by
 have ho : (W.alloc (.cells #[.int .i64 0, .int .i64 0, .int .i64 0] 55)).ownsRow W.heap.size 55 3 (.slice (some ⟨W.heap.size, 0, none⟩) 1 1) [((0, 0, 0, ()) : DA3)].length (enc3 [(0, 0, 0, ())]) :=
  ⟨rfl, .inr ⟨W.heap.size, 1, _, rfl, Nat.le_refl _, alloc_at _ _, Nat.le_refl _, by decide, rfl, rfl⟩⟩
 have hw := k0p (Z := fun _ => False) ho
 have hc := j7p (Z := fun q => (Value.slice (some ⟨W.heap.size, 0, none⟩) 1 1).ownBlock = some q) (fun q hq => (hw.lt q hq).2) (hw.reads _ (fun _ hz => hz.elim) fun q hq => hq) hF
 clear hw ho
 unfold hpV at hc
 go_enter Tryz.func50, Tryz.ntmps50
 go_wp2_with (go_at_call 42; refine hc.mono ?_; rintro e w2 ⟨u, rfl, hb2, hu⟩; obtain ⟨x, y, rfl⟩ := hu.slice1)
 go_ret
 have sA := a1a W (.cells #[.int .i64 0, .int .i64 0, .int .i64 0] 55)
 have hB := a0r (a5t W _) hb2
 refine ⟨_, [⟨G.1, G.2.1, G.2.2.1, G.2.2.2.1, .slice x G.2.2.2.1.length y⟩], rfl, b6f hB _, ⟨⟨rfl, .inr ⟨_, 1, _, rfl, hB.size, alloc_at _ _, Nat.le_refl _, by decide, rfl, rfl⟩⟩, fun i a ha => ?_, fun i j a b q ha hb _ _ => ?_⟩, rfl⟩
 · obtain ⟨rfl, rfl⟩ : i = 0 ∧ a = ⟨G.1, G.2.1, G.2.2.1, G.2.2.2.1, .slice x G.2.2.2.1.length y⟩ := by
    cases i with
    | zero => exact ⟨rfl, (Option.some.inj ha).symm⟩
    | succ i => simp at ha
   exact b3d (OwnV.rebaseH hu fun q hq => by have := (hu.lt q hq).1; omega) (a5t _ _)
 · cases i with
   | zero => cases j with
    | zero => rfl
    | succ j => simp at hb
   | succ i => simp at ha
end Go.VI
namespace Go.VI
open Go.Proofs Go.RowKit
set_option maxRecDepth 100000
theorem i6m {W : World} {n a b : Int} {r : Bool} (hF : a1x (n, a, b, ()) = some (r, ())) :
 Calls Tryz.prog 49 #[.int .i64 n, .int .i64 a, .int .i64 b] W fun e' w' => e' = .returned (.bool r) ∧ Below W.heap.size W w' :=
 c8u (fn := Tryz.f49) (r := (r, ())) c4q rfl Tryz.func49 rfl (by kernel_rfl) (Z := fun _ => False) trivial (fun _ h => h.elim) (xs := (n, a, b, ())) (vs := [.int .i64 n, .int .i64 a, .int .i64 b])
  ⟨_, _, rfl, (fun _ => rfl), rfl, _, _, rfl, (fun _ => rfl), rfl, _, _, rfl, (fun _ => rfl), rfl, rfl⟩ hF
theorem i7b {W : World} {n : Int} (hF : a1x (n, 1, 4, ()) = some (false, ())) :
 Calls Tryz.prog 16 #[.int .i64 n] W fun e w' => e = .returned (.tuple #[.slice none 0 0, .bool false]) ∧ Below W.heap.size W w' := by
 have hc := i6m (W := W) hF
 go_enter Tryz.func16, Tryz.ntmps16
 go_wp2_with (go_at_call 49; refine hc.mono ?_; rintro e w2 ⟨rfl, hb2⟩)
 go_ret2
 exact ⟨rfl, hb2⟩
theorem i4r {W : World} {n : Int} {Post : List a0j → Prop} (hF : a1x (n, 1, 4, ()) = some (true, ()))
 (hf : ∀ U, Calls Tryz.prog 50 #[.int .i64 n] U fun e w' => ∃ v gs, e = .returned v ∧ Below U.heap.size U w' ∧ DeepH w' U.heap.size 29 55 v gs ∧ Post (gs.map HE.heap)) :
 Calls Tryz.prog 16 #[.int .i64 n] W fun e w' => ∃ v gs, e = .returned (.tuple #[v, .bool true]) ∧ Below W.heap.size W w' ∧ DeepH w' W.heap.size 29 55 v gs ∧ Post (gs.map HE.heap) := by
 have hc := i6m (W := W) hF
 go_enter Tryz.func16, Tryz.ntmps16
 go_wp2_with (first
  | (go_at_call 49; refine hc.mono ?_; rintro e w2 ⟨rfl, hb2⟩; have hf2 := hf w2)
  | (go_at_call 50; refine hf2.mono ?_; rintro e w3 ⟨v, gs, rfl, hb3, hd3, hp⟩))
 go_ret2
 exact ⟨v, gs, rfl, a0r hb2 hb3, hd3.rebase hb2.size, hp⟩
end Go.VI
namespace Go.VI
open Go.Proofs Go.RowKit
set_option maxRecDepth 100000
noncomputable def VFb : FormV := ⟨(VJ []).bey, fun l d => decide (d ∈ l), h3d, fun h => b1r h.2.2.2.1⟩
theorem i5i {n : Nat} {L : List a0b} (hL : ∀ y ∈ L, Form n y) {y : a0b} (hy : y ∈ L) {c : a0a} (hc : c ∈ y.2.2.2.1) {f : Nat} (hf : f < 6) : VFb.bey c f = stp f c := by
 obtain ⟨g, _⟩ := (hL y hy).facts
 refine g8n [] ?_ hf
 have := sides_iff.1 g.sides
 have := within3_iff.1 (g.ins c hc)
 unfold e6t; omega
section
variable {n : Nat} (h3 : n ≤ 3) {L : List a0b} (hL : ∀ y ∈ L, Form n y)
include h3 hL
theorem i4x {y : a0b} (hy : y ∈ L) {c : a0a} (hc : c ∈ y.2.2.2.1) {f : Nat} (hf : f < 6) (hd : stp f c ∉ y.2.2.2.1) : ∃ K, a2l (y.2.2.2.1 ++ [stp f c], ()) = some (K, ()) ∧ Nrm (y.2.2.2.1 ++ [stp f c]) K ∧ GoodH K.1 K.2.1 K.2.2.1 K.2.2.2.1 := by
 obtain ⟨k1, k2, k3, k4⟩ := f1b (hL y hy) hc hf hd
 have hcl := c0y k1 (by omega)
 obtain ⟨K, e1, e2⟩ := i6v (l := y.2.2.2.1 ++ [stp f c]) (by unfold Small; omega) hcl k4 (by simp)
 obtain ⟨lo, hi, a⟩ := e2
 obtain ⟨s1, s2⟩ := a.ok hcl
 refine ⟨K, e1, ⟨lo, hi, a⟩, s1, s2, a.srt, fun e => ?_⟩
 have := (a.mem (a1s (stp f c) (negC lo))).2 (by rw [a4j]; simp)
 rw [e] at this
 cases this
theorem k0o (hl : L.length ≤ 100) : StepOK VFb L := by
 refine ⟨⟨hl, fun y hy => by have := (hL y hy).facts.2.2.1; omega⟩, fun y hy c hc f hf => i9t [] c hf, fun y hy c hc f hf => h2m (hL y hy).smallH _, fun y hy c hc f hf hd => ?_, fun y hy c hc f hf hd => ?_⟩
 · rw [i5i hL hy hc hf] at hd ⊢
   obtain ⟨K, e1, e2, _⟩ := i4x h3 hL hy hc hf (of_decide_eq_false hd)
   rw [e1]
   show some (K, ()) = some (h3d _, ())
   rw [a7e e2]
 · rw [i5i hL hy hc hf] at hd ⊢
   obtain ⟨K, e1, e2, e3⟩ := i4x h3 hL hy hc hf (of_decide_eq_false hd)
   have e : VFb.hof (y.2.2.2.1 ++ [stp f c]) = K := a7e e2
   rw [e]
   exact ⟨T24, _, _, _, _, e6i e3, rfl⟩
theorem j5b (x : a0b) : x ∈ VFb.cands L ↔ ∃ y ∈ L, ∃ c ∈ y.2.2.2.1, ∃ f, f < 6 ∧ j0i y c f x := by
 unfold FormV.cands
 rw [List.mem_flatMap]
 constructor
 · rintro ⟨y, hy, hx⟩
   unfold FormV.candH at hx
   rw [List.take_length, List.mem_flatMap] at hx
   obtain ⟨c, hc, hx⟩ := hx
   unfold FormV.candC at hx
   obtain ⟨f, hf, e⟩ := List.mem_filterMap.1 hx
   have hf6 := List.mem_range.1 hf
   unfold FormV.cand at e
   rw [i5i hL hy hc hf6] at e
   by_cases hd : stp f c ∈ y.2.2.2.1
   · rw [if_pos (show VFb.has y.2.2.2.1 (stp f c) = true from decide_eq_true hd)] at e; cases e
   · rw [if_neg (show ¬ VFb.has y.2.2.2.1 (stp f c) = true from fun h => hd (of_decide_eq_true h))] at e
     obtain ⟨K, e1, e2, _⟩ := i4x h3 hL hy hc hf6 hd
     have e' : b1r (h3d (y.2.2.2.1 ++ [stp f c])).2.2.2.1 = x := Option.some.inj e
     rw [a7e e2, d7o e2] at e'
     exact ⟨y, hy, c, hc, f, hf6, hd, e'.symm⟩
 · rintro ⟨y, hy, c, hc, f, hf, hd, rfl⟩
   refine ⟨y, hy, ?_⟩
   unfold FormV.candH
   rw [List.take_length, List.mem_flatMap]
   refine ⟨c, hc, ?_⟩
   unfold FormV.candC
   refine List.mem_filterMap.2 ⟨f, List.mem_range.2 hf, ?_⟩
   unfold FormV.cand
   rw [i5i hL hy hc hf, if_neg (show ¬ VFb.has y.2.2.2.1 (stp f c) = true from fun h => hd (of_decide_eq_true h))]
   obtain ⟨K, e1, e2, _⟩ := i4x h3 hL hy hc hf hd
   show some (b1r (h3d (y.2.2.2.1 ++ [stp f c])).2.2.2.1) = _
   rw [a7e e2, d7o e2]
end
theorem k0i : ∀ (l : List a0a), l ≠ [] → ∃ f ∈ l, ∀ c ∈ l, c.1 ≤ f.1
 | [], h => absurd rfl h
 | a :: l, _ => by
  by_cases hl : l = []
  · subst hl; exact ⟨a, by simp, fun c hc => by rw [List.mem_singleton.1 hc]; omega⟩
  · obtain ⟨f, hf, h⟩ := k0i l hl
    by_cases hc : f.1 ≤ a.1
    · exact ⟨a, by simp, fun c hc' => by
       rcases List.mem_cons.1 hc' with rfl | hc'
       · omega
       · have := h c hc'; omega⟩
    · exact ⟨f, by simp [hf], fun c hc' => by
       rcases List.mem_cons.1 hc' with rfl | hc'
       · omega
       · exact h c hc'⟩
theorem i8h {n : Nat} {y : a0b} (hy : Form n y) : ∃ c ∈ y.2.2.2.1, stp 1 c ∉ y.2.2.2.1 := by
 obtain ⟨g, _⟩ := hy.facts
 obtain ⟨c, hc, hm⟩ := k0i _ g.ne
 refine ⟨c, hc, fun h => ?_⟩
 have := hm _ h
 rw [k1g] at this
 simp only at this
 omega
def h4i (n : Int) (L : List a0j) : Prop := ∀ U : World, Calls Tryz.prog 50 #[.int .i64 n] U fun e w' => ∃ v gs, e = .returned v ∧ Below U.heap.size U w' ∧ DeepH w' U.heap.size 29 55 v gs ∧ gs.map HE.heap = L
theorem e6g {n : Nat} (h1 : 1 ≤ n) (h3 : n ≤ 3) {L L' : List a0b} {k k' : Nat} (s : Sr L (Form n) k) (hk : k ≤ 100) (hne : L ≠ []) (h : h4i n L) (s' : Sr L' (Form (n + 1)) k') : h4i ((n + 1 : Nat) : Int) L' ∧ L' ≠ [] := by
 have hL : ∀ y ∈ L, Form n y := fun y hy => (s.mem y).1 hy
 have hl := s.len
 have hm : ∀ x, x ∈ VFb.cands L ↔ x ∈ L' := fun x => by
  rw [j5b h3 hL, s'.mem, i1j h1 h3]
  constructor
  · rintro ⟨y, hy, c, hc, f, hf, hd, e⟩; exact ⟨y, hL y hy, c, hc, f, hf, hd, e⟩
  · rintro ⟨y, hy, c, hc, f, hf, hd, e⟩; exact ⟨y, (s.mem y).2 hy, c, hc, f, hf, hd, e⟩
 obtain ⟨y, hy⟩ := List.exists_mem_of_ne_nil L hne
 obtain ⟨c, hc, hd⟩ := i8h (hL y hy)
 have hx : b1r (y.2.2.2.1 ++ [stp 1 c]) ∈ VFb.cands L := (j5b h3 hL _).2 ⟨y, hy, c, hc, 1, by omega, hd, rfl⟩
 refine ⟨fun W => ?_, fun e => ?_⟩
 · refine (i7h (n := n) (by omega) h (k0o h3 hL (by omega)) (fun e => by rw [e] at hx; cases hx) i6o (fun x hx => s'.small x ((hm x).1 hx)) W).mono ?_
   rintro e w' ⟨v, hs, hs2, rfl, hb, hdp, hq, hso⟩
   obtain ⟨s1, s2⟩ := f5r hso
   exact ⟨v, hs2, rfl, hb, hdp, f8n _ _ s1 s'.strict fun x => by rw [s2, hq, hm]⟩
 · have := (hm _).1 hx
   rw [e] at this
   cases this
abbrev i1q : a0a := (0, 0, 0, ())
abbrev j4h : a0b := (1, 1, 1, [i1q], ())
theorem i5k : Nrm [i1q] j4h := ⟨i1q, i1q, f2j _, e5y _, by decide, by decide, by decide, List.pairwise_singleton .., fun c => by
 rw [List.mem_singleton, List.mem_singleton]
 constructor
 · intro h; rw [h]; rfl
 · intro h
   have h0 := congrArg (·.1) h
   have h1 := congrArg (·.2.1) h
   have h2 := congrArg (·.2.2.1) h
   simp only [a1s] at h0 h1 h2
   exact a5q (by show c.1 = 0; omega) (by show c.2.1 = 0; omega) (by show c.2.2.1 = 0; omega)⟩
theorem j7q (t : a0c) : tl t i1q = i1q := by
 have h : ∀ f, a8y i1q f = 0 := fun f => by
  unfold a8y
  cases decide (f = 0) <;> cases decide (f = 1) <;> rfl
 unfold tl
 rw [h, h, h]
 refine a5q ?_ ?_ ?_
 · show (bif decide (t.2.1.1 = 1) then -(0 : Int) else 0) = 0; cases decide (t.2.1.1 = 1) <;> rfl
 · show (bif decide (t.2.1.2.1 = 1) then -(0 : Int) else 0) = 0; cases decide (t.2.1.2.1 = 1) <;> rfl
 · show (bif decide (t.2.1.2.2.1 = 1) then -(0 : Int) else 0) = 0; cases decide (t.2.1.2.2.1 = 1) <;> rfl
theorem frm_box1 : b1r [i1q] = j4h := by
 obtain ⟨t, ht, e⟩ := h6b [i1q]
 rw [e]
 unfold a8w
 rw [List.map_cons, List.map_nil, j7q]
 exact a7e i5k
theorem j6q (c : a0a) : b1r [c] = j4h := by
 rw [← frm_box1, ← d6g (l := [i1q]) c]
 congr 1
 show [c] = [a1s i1q c]
 rw [show a1s i1q c = c from a5q (by simp [a1s]) (by simp [a1s]) (by simp [a1s])]
theorem i1m : GoodH 1 1 1 [i1q] := ⟨by decide, fun c hc => by rw [List.mem_singleton.1 hc]; decide, List.pairwise_singleton .., by simp⟩
theorem k1c (x : a0b) : Form 1 x ↔ x = j4h := by
 constructor
 · rintro ⟨X, Y, Z, l, g, w, e, rfl⟩
   obtain ⟨c, rfl⟩ := List.length_eq_one_iff.1 e
   exact j6q c
 · rintro rfl
   exact ⟨1, 1, 1, [i1q], i1m, f5d _, rfl, frm_box1.symm⟩
theorem sr1 : Sr [j4h] (Form 1) 1 := ⟨List.pairwise_singleton .., fun a ha => by rw [List.mem_singleton.1 ha]; unfold Small; decide, fun x => by rw [List.mem_singleton, k1c], by simp⟩
theorem im1 : h4i 1 [j4h] := j1c (by
 obtain ⟨h, e1, e2⟩ := i6v (l := [i1q]) (by unfold Small; decide) (fun c hc d hd => by rw [List.mem_singleton.1 hc, List.mem_singleton.1 hd]; decide) (fun c hc => by rw [List.mem_singleton.1 hc]; decide) (by simp)
 rw [show h = j4h from e2.uniq i5k] at e1
 exact e1)
theorem j1y : b2e (1, 1, 1, ()) = some (j4h, ()) := by rw [j7i (by decide)]; rfl
structure FmL (n : Nat) (L : List a0b) : Prop where
 sr : Sr L (Form n) 2000
 ne : L ≠ []
 sp : b1i ((n : Int), ()) = some (L, ())
 im : h4i (n : Int) L
theorem N_5 : N = N - 5 + 1 + 1 + 1 + 1 + 1 := by have := b6u; omega
theorem fm1 : ∃ L, FmL 1 L := ⟨[j4h], sr1.congr (fun _ => Iff.rfl) (by omega), by simp, by
 rw [c1o, j1y]
 simp only [Option.bind_some]
 rw [N_5]; exact g3g _ 1 _, im1⟩
theorem fm2 : ∃ L, FmL 2 L := by
 obtain ⟨L2, s2, e2⟩ := j8l (n := 1) (by omega) (by omega) sr1 (by omega) (q := 6) (by omega) (by omega) (N - 5 + 1 + 1 + 1 + 1) (p0 := 2) (by omega)
 obtain ⟨i2, n2⟩ := e6g (n := 1) (by omega) (by omega) sr1 (by omega) (by simp) im1 s2
 refine ⟨L2, s2.congr (fun _ => Iff.rfl) (by omega), n2, ?_, i2⟩
 rw [c1o, j1y]
 simp only [Option.bind_some]
 rw [N_5]
 refine Eq.trans ?_ (g3g (N - 5 + 1 + 1 + 1) 2 L2)
 exact e2
theorem fm3 : ∃ L, FmL 3 L := by
 obtain ⟨L2, s2, e2⟩ := j8l (n := 1) (by omega) (by omega) sr1 (by omega) (q := 6) (by omega) (by omega) (N - 5 + 1 + 1 + 1 + 1) (p0 := 3) (by omega)
 obtain ⟨i2, n2⟩ := e6g (n := 1) (by omega) (by omega) sr1 (by omega) (by simp) im1 s2
 obtain ⟨L3, s3, e3⟩ := j8l (n := 2) (by omega) (by omega) s2 (by omega) (q := 12) (by omega) (by omega) (N - 5 + 1 + 1 + 1) (p0 := 3) (by omega)
 obtain ⟨i3, n3⟩ := e6g (n := 2) (by omega) (by omega) s2 (by omega) n2 i2 s3
 refine ⟨L3, s3.congr (fun _ => Iff.rfl) (by omega), n3, ?_, i3⟩
 rw [c1o, j1y]
 simp only [Option.bind_some]
 rw [N_5]
 refine Eq.trans ?_ (g3g (N - 5 + 1 + 1) 3 L3)
 exact e2.trans e3
theorem fm4 : ∃ L, FmL 4 L := by
 obtain ⟨L2, s2, e2⟩ := j8l (n := 1) (by omega) (by omega) sr1 (by omega) (q := 6) (by omega) (by omega) (N - 5 + 1 + 1 + 1 + 1) (p0 := 4) (by omega)
 obtain ⟨i2, n2⟩ := e6g (n := 1) (by omega) (by omega) sr1 (by omega) (by simp) im1 s2
 obtain ⟨L3, s3, e3⟩ := j8l (n := 2) (by omega) (by omega) s2 (by omega) (q := 12) (by omega) (by omega) (N - 5 + 1 + 1 + 1) (p0 := 4) (by omega)
 obtain ⟨i3, n3⟩ := e6g (n := 2) (by omega) (by omega) s2 (by omega) n2 i2 s3
 obtain ⟨L4, s4, e4⟩ := j8l (n := 3) (by omega) (by omega) s3 (by omega) (q := 18) (by omega) (by omega) (N - 5 + 1 + 1) (p0 := 4) (by omega)
 obtain ⟨i4, n4⟩ := e6g (n := 3) (by omega) (by omega) s3 (by omega) n3 i3 s4
 refine ⟨L4, s4.congr (fun _ => Iff.rfl) (by omega), n4, ?_, i4⟩
 rw [c1o, j1y]
 simp only [Option.bind_some]
 rw [N_5]
 refine Eq.trans ?_ (g3g (N - 5 + 1) 4 L4)
 exact e2.trans (e3.trans e4)
theorem j5j {n : Nat} (h : 1 ≤ n ∧ n ≤ 4) : ∃ L, FmL n L := by
 obtain rfl | rfl | rfl | rfl : n = 1 ∨ n = 2 ∨ n = 3 ∨ n = 4 := by omega
 · exact fm1
 · exact fm2
 · exact fm3
 · exact fm4
end Go.VI
