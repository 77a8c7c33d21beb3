/- Plain: what is reached from cell to cell. -/
import Derived.Test.YtlnfgikipeiaiaaGreatG30p2
namespace Go.VI
open Go.Proofs
def nb (c d : a0a) : Prop := ∃ k, k < 6 ∧ d = stp k c
theorem nb_iff {c d : a0a} : nb c d ↔ (d.2.1 = c.2.1 ∧ d.2.2.1 = c.2.2.1 ∧ (d.1 = c.1 - 1 ∨ d.1 = c.1 + 1)) ∨ (d.1 = c.1 ∧ d.2.2.1 = c.2.2.1 ∧ (d.2.1 = c.2.1 - 1 ∨ d.2.1 = c.2.1 + 1)) ∨ (d.1 = c.1 ∧ d.2.1 = c.2.1 ∧ (d.2.2.1 = c.2.2.1 - 1 ∨ d.2.2.1 = c.2.2.1 + 1)) := by
 obtain ⟨x, y, z, ⟨⟩⟩ := c
 obtain ⟨x', y', z', ⟨⟩⟩ := d
 constructor
 · rintro ⟨k, hk, e⟩
   rcases six hk with rfl | rfl | rfl | rfl | rfl | rfl <;> simp only [stp, Prod.mk.injEq, and_true] at e <;> obtain ⟨rfl, rfl, rfl⟩ := e <;> simp <;> omega
 · rintro (⟨h1, h2, h3 | h3⟩ | ⟨h1, h2, h3 | h3⟩ | ⟨h1, h2, h3 | h3⟩) <;> simp only at h1 h2 h3 <;> subst h1 <;> subst h2 <;> subst h3
   · exact ⟨0, by omega, by simp [stp]; omega⟩
   · exact ⟨1, by omega, by simp [stp]⟩
   · exact ⟨2, by omega, by simp [stp]; omega⟩
   · exact ⟨3, by omega, by simp [stp]⟩
   · exact ⟨4, by omega, by simp [stp]; omega⟩
   · exact ⟨5, by omega, by simp [stp]⟩
theorem e2x {c d : a0a} (h : nb c d) : nb d c := by
 rw [nb_iff] at h ⊢
 omega
inductive Rch (p q : a0a → Prop) : a0a → Prop
 | base {c : a0a} : p c → Rch p q c
 | step {c d : a0a} : Rch p q c → nb c d → q d → Rch p q d
theorem Rch.mono {p p' q q' : a0a → Prop} (hp : ∀ c, p c → Rch p' q' c) (hq : ∀ c, q c → q' c) {c : a0a} (h : Rch p q c) : Rch p' q' c := by
 induction h with
 | base h => exact hp _ h
 | step _ hn hd ih => exact .step ih hn (hq _ hd)
theorem Rch.of {p q r : a0a → Prop} (hp : ∀ c, p c → r c) (hq : ∀ c d, r c → nb c d → q d → r d) {c : a0a} (h : Rch p q c) : r c := by
 induction h with
 | base h => exact hp _ h
 | step _ hn hd ih => exact hq _ _ ih hn hd
def j0j (X Y Z : Int) (c : a0a) : List a0a := ((List.range 6).map fun k => stp k c).filter (a0k X Y Z)
theorem mem_nears {X Y Z : Int} {c d : a0a} : d ∈ j0j X Y Z c ↔ a0k X Y Z d = true ∧ nb c d := by
 unfold j0j nb
 simp only [List.mem_filter, List.mem_map, List.mem_range]
 constructor
 · rintro ⟨⟨k, hk, rfl⟩, h⟩; exact ⟨h, k, hk, rfl⟩
 · rintro ⟨h, k, hk, rfl⟩; exact ⟨⟨k, hk, rfl⟩, h⟩
theorem j1d (X Y Z : Int) (c : a0a) : Ins X Y Z (j0j X Y Z c) := fun d hd => (mem_nears.1 hd).1
def i3q (X Y Z : Int) (c : a0a) : BitVec 64 := mask Y Z (j0j X Y Z c) 0
theorem h8o {X Y Z : Int} (hs : sides X Y Z = true) {c d : a0a} (hd : a0k X Y Z d = true) : (i3q X Y Z c).getLsbD (idx Y Z d) = true ↔ nb c d := by
 unfold i3q
 rw [f3d hs (j1d X Y Z c) hd, decide_eq_true_eq, mem_nears]
 exact ⟨fun h => h.2, fun h => ⟨hd, h⟩⟩
def Low (n : Nat) (v : BitVec 64) : Prop := ∀ i, n ≤ i → v.getLsbD i = false
theorem j3q {X Y Z : Int} (hs : sides X Y Z = true) {l : List a0a} (hl : Ins X Y Z l) : Low (X * Y * Z).toNat (mask Y Z l 0) := by
 intro i hi
 rw [g3t]
 have h0 : (0 : BitVec 64).getLsbD i = false := by simp
 rw [h0, Bool.false_or, Bool.and_eq_false_iff]
 right
 rw [List.any_eq_false]
 intro c hc
 have := (idx_eq hs (hl c hc)).2.1
 simp only [decide_eq_true_eq]
 omega
theorem j0z {n : Nat} {v w : BitVec 64} (hv : Low n v) (hw : Low n w) (h : ∀ i, i < n → v.getLsbD i = w.getLsbD i) : v = w := by
 apply BitVec.eq_of_getLsbD_eq
 intro i _
 by_cases hi : i < n
 · exact h i hi
 · rw [hv i (by omega), hw i (by omega)]
theorem j7n {X Y Z : Int} (hs : sides X Y Z = true) {v w : BitVec 64} (hv : Low (X * Y * Z).toNat v) (hw : Low (X * Y * Z).toNat w) (h : ∀ c, a0k X Y Z c = true → v.getLsbD (idx Y Z c) = w.getLsbD (idx Y Z c)) : v = w := by
 refine j0z hv hw fun i hi => ?_
 obtain ⟨h1, h2⟩ := c2s hs hi
 rw [← h2]
 exact h _ h1
def h5y (X Y Z : Int) (u v : BitVec 64) : (d k : Nat) → BitVec 64 → BitVec 64
 | 0, _, acc => acc
 | d + 1, k, acc => h5y X Y Z u v d (k + 1) (bif v.getLsbD k then acc ||| (i3q X Y Z (cellOf Y Z k) &&& u) else acc)
theorem e2w (X Y Z : Int) (u v : BitVec 64) (i : Nat) : ∀ (d k : Nat) (acc : BitVec 64), (h5y X Y Z u v d k acc).getLsbD i = true ↔ acc.getLsbD i = true ∨ ∃ j, k ≤ j ∧ j < k + d ∧ v.getLsbD j = true ∧ (i3q X Y Z (cellOf Y Z j)).getLsbD i = true ∧ u.getLsbD i = true
 | 0, k, acc => by
  simp only [h5y]
  constructor
  · exact .inl
  · rintro (h | ⟨j, h1, h2, _⟩)
    · exact h
    · omega
 | d + 1, k, acc => by
  rw [h5y, e2w X Y Z u v i d (k + 1)]
  cases hk : v.getLsbD k with
  | false =>
   simp only [cond_false]
   constructor
   · rintro (h | ⟨j, h1, h2, h3⟩)
     · exact .inl h
     · exact .inr ⟨j, by omega, by omega, h3⟩
   · rintro (h | ⟨j, h1, h2, h3⟩)
     · exact .inl h
     · have : j ≠ k := fun e => by rw [e, hk] at h3; cases h3.1
       exact .inr ⟨j, by omega, by omega, h3⟩
  | true =>
   simp only [cond_true, BitVec.getLsbD_or, BitVec.getLsbD_and, Bool.or_eq_true, Bool.and_eq_true]
   constructor
   · rintro ((h | h) | ⟨j, h1, h2, h3⟩)
     · exact .inl h
     · exact .inr ⟨k, by omega, by omega, hk, h.1, h.2⟩
     · exact .inr ⟨j, by omega, by omega, h3⟩
   · rintro (h | ⟨j, h1, h2, h3, h4, h5⟩)
     · exact .inl (.inl h)
     · by_cases e : j = k
       · subst e; exact .inl (.inr ⟨h4, h5⟩)
       · exact .inr ⟨j, by omega, by omega, h3, h4, h5⟩
def f5g (X Y Z : Int) (u v : BitVec 64) : BitVec 64 := h5y X Y Z u v (X * Y * Z).toNat 0 v
theorem g6f {X Y Z : Int} {u v : BitVec 64} (hv : Low (X * Y * Z).toNat v) (hu : Low (X * Y * Z).toNat u) : Low (X * Y * Z).toNat (f5g X Y Z u v) := by
 intro i hi
 cases hb : (f5g X Y Z u v).getLsbD i with
 | false => rfl
 | true =>
  unfold f5g at hb
  rw [e2w] at hb
  rcases hb with hb | ⟨_, _, _, _, _, hb⟩
  · rw [hv i hi] at hb; cases hb
  · rw [hu i hi] at hb; cases hb
theorem g7h {X Y Z : Int} {u v : BitVec 64} (i : Nat) (h : v.getLsbD i = true) : (f5g X Y Z u v).getLsbD i = true := by
 unfold f5g
 rw [e2w]
 exact .inl h
def unset (n : Nat) (v : BitVec 64) : Nat := ((List.range n).filter fun i => !v.getLsbD i).length
theorem filter_lt {α : Type} (p p' : α → Bool) : ∀ (l : List α), (∀ x ∈ l, p' x = true → p x = true) → (∃ x ∈ l, p x = true ∧ p' x = false) → (l.filter p').length < (l.filter p).length
 | [], _, h => by obtain ⟨x, hx, _⟩ := h; cases hx
 | a :: l, h, hx => by
  have le : ∀ (l : List α), (∀ x ∈ l, p' x = true → p x = true) → (l.filter p').length ≤ (l.filter p).length := by
   intro l
   induction l with
   | nil => intro _; simp
   | cons b l ih =>
    intro h
    have := ih fun x hx => h x (List.mem_cons_of_mem _ hx)
    cases hb' : p' b with
    | false =>
     cases hb : p b <;> simp [List.filter_cons, hb, hb'] <;> omega
    | true =>
     have hb := h b (List.mem_cons_self ..) hb'
     simp [List.filter_cons, hb, hb']; omega
  obtain ⟨x, hx, h1, h2⟩ := hx
  have hl := le l fun x hx => h x (List.mem_cons_of_mem _ hx)
  rcases List.mem_cons.1 hx with rfl | hx
  · simp only [List.filter_cons, h1, h2, if_true, List.length_cons, Bool.false_eq_true, if_false]
    omega
  · have ih := filter_lt p p' l (fun x hx => h x (List.mem_cons_of_mem _ hx)) ⟨x, hx, h1, h2⟩
    cases ha' : p' a with
    | false => cases ha : p a <;> simp [List.filter_cons, ha, ha'] <;> omega
    | true =>
     have ha := h a (List.mem_cons_self ..) ha'
     simp [List.filter_cons, ha, ha']; omega
theorem i6a {n : Nat} {v w : BitVec 64} (hv : Low n v) (hw : Low n w) (hsub : ∀ i, v.getLsbD i = true → w.getLsbD i = true) (hne : w ≠ v) : unset n w < unset n v := by
 unfold unset
 refine filter_lt _ _ _ (fun i _ h => ?_) ?_
 · cases hb : v.getLsbD i with
   | false => rfl
   | true => rw [hsub i hb] at h; exact h
 · apply Classical.byContradiction
   intro hno
   apply hne
   refine j0z hw hv fun i hi => ?_
   cases hb : v.getLsbD i with
   | true => exact hsub i hb
   | false =>
    cases hb' : w.getLsbD i with
    | false => rfl
    | true => exact absurd ⟨i, List.mem_range.2 hi, by simp [hb], by simp [hb']⟩ hno
theorem j2o (n : Nat) (v : BitVec 64) : unset n v ≤ n := by
 unfold unset
 have := List.length_filter_le (fun i => !v.getLsbD i) (List.range n)
 simpa using this
def g3i (X Y Z : Int) (v : BitVec 64) (c : a0a) : Prop := a0k X Y Z c = true ∧ v.getLsbD (idx Y Z c) = true
theorem Rch.within {X Y Z : Int} {v u : BitVec 64} {c : a0a} (h : Rch (g3i X Y Z v) (g3i X Y Z u) c) : a0k X Y Z c = true := by
 induction h with
 | base h => exact h.1
 | step _ _ h _ => exact h.1
theorem i1u {X Y Z : Int} (hs : sides X Y Z = true) {v0 u v : BitVec 64} (h : ∀ c, g3i X Y Z v c → Rch (g3i X Y Z v0) (g3i X Y Z u) c) (c : a0a) (hc : g3i X Y Z (f5g X Y Z u v) c) : Rch (g3i X Y Z v0) (g3i X Y Z u) c := by
 obtain ⟨h1, h2⟩ := hc
 unfold f5g at h2
 rw [e2w] at h2
 rcases h2 with h2 | ⟨j, _, hj, h3, h4, h5⟩
 · exact h c ⟨h1, h2⟩
 · obtain ⟨k1, k2⟩ := c2s (i := j) hs (by omega)
   exact .step (h _ ⟨k1, by rw [k2]; exact h3⟩) ((h8o hs h1).1 h4) ⟨h1, h5⟩
theorem g1e {X Y Z : Int} (hs : sides X Y Z = true) {v0 u w : BitVec 64} (hsub : ∀ i, v0.getLsbD i = true → w.getLsbD i = true) (hw : f5g X Y Z u w = w) (c : a0a) (h : Rch (g3i X Y Z v0) (g3i X Y Z u) c) : w.getLsbD (idx Y Z c) = true := by
 induction h with
 | base h => exact hsub _ h.2
 | step hr hn hd ih =>
  rename_i c d
  have hc := hr.within
  rw [← hw]
  unfold f5g
  rw [e2w]
  refine .inr ⟨idx Y Z c, Nat.zero_le _, by have := (idx_eq hs hc).2.1; omega, ih, ?_, hd.2⟩
  rw [h3c hs hc]
  exact (h8o hs hd.1).2 hn
def i3a (X Y Z : Int) (l : List a0a) (d : a0a) : Prop := a0k X Y Z d = true ∧ d ∉ l
def Outer (X Y Z : Int) (l : List a0a) (c : a0a) : Prop := i3a X Y Z l c ∧ ∃ m, a0k X Y Z m = false ∧ nb m c
def k1o (X Y Z : Int) (l : List a0a) : a0a → Prop := Rch (Outer X Y Z l) (i3a X Y Z l)
structure Bfs (X Y Z : Int) (l M : List a0a) (n k : Nat) (ls sn : List a0a) : Prop where
 srt : Srt sn
 ins : Ins X Y Z sn
 out : ∀ c ∈ sn, k1o X Y Z l c
 mem : ∀ c, c ∈ ls ↔ c ∈ M ∨ c ∈ sn
 done : ∀ i, i < n → ∀ c, ls[i]? = some c → ∀ d, nb c d → i3a X Y Z l d → d ∈ sn
 part : ∀ c, ls[n]? = some c → ∀ j, j < k → i3a X Y Z l (stp j c) → stp j c ∈ sn
 len : ls.length = M.length + sn.length
theorem Bfs.next {X Y Z : Int} {l M ls sn : List a0a} {n : Nat} (h : Bfs X Y Z l M n 6 ls sn) : Bfs X Y Z l M (n + 1) 0 ls sn :=
 ⟨h.srt, h.ins, h.out, h.mem, fun i hi c hc d hd hf => by
  by_cases e : i = n
  · subst e
    obtain ⟨k, hk, rfl⟩ := hd
    exact h.part c hc k hk hf
  · exact h.done i (by omega) c hc d hd hf, fun c _ j hj => by omega, h.len⟩
theorem Bfs.pass {X Y Z : Int} {l M ls sn : List a0a} {n k : Nat} (h : Bfs X Y Z l M n k ls sn) (hk : ∀ c, ls[n]? = some c → i3a X Y Z l (stp k c) → stp k c ∈ sn) : Bfs X Y Z l M n (k + 1) ls sn :=
 ⟨h.srt, h.ins, h.out, h.mem, h.done, fun c hc j hj hf => by
  by_cases e : j = k
  · subst e; exact hk c hc hf
  · exact h.part c hc j (by omega) hf, h.len⟩
theorem Bfs.add {X Y Z : Int} {l M ls sn sn' : List a0a} {n k : Nat} (hM : ∀ m ∈ M, a0k X Y Z m = false) (h : Bfs X Y Z l M n k ls sn) {c : a0a} (hc : ls[n]? = some c) (hk : k < 6) (hf : i3a X Y Z l (stp k c)) (hn : stp k c ∉ sn)
 (hs : Srt sn') (hm : ∀ x, x ∈ sn' ↔ x = stp k c ∨ x ∈ sn) : Bfs X Y Z l M n (k + 1) (ls ++ [stp k c]) sn' := by
 have hlt : n < ls.length := (List.getElem?_eq_some_iff.1 hc).1
 have hlen : sn'.length = sn.length + 1 := by
  have hp : sn'.Perm (stp k c :: sn) := by
   refine (List.perm_ext_iff_of_nodup hs.nodup (List.nodup_cons.2 ⟨hn, h.srt.nodup⟩)).2 fun x => ?_
   rw [hm, List.mem_cons]
  simpa using hp.length_eq
 refine ⟨hs, fun x hx => ?_, fun x hx => ?_, fun x => ?_, fun i hi c' hc' d hd hfd => ?_, fun c' hc' j hj hfj => ?_, ?_⟩
 · rcases (hm x).1 hx with rfl | hx
   · exact hf.1
   · exact h.ins x hx
 · rcases (hm x).1 hx with rfl | hx
   · have hcm : c ∈ ls := List.mem_of_getElem? hc
     rcases (h.mem c).1 hcm with hcM | hcs
     · exact .base ⟨hf, c, hM c hcM, k, hk, rfl⟩
     · exact .step (h.out c hcs) ⟨k, hk, rfl⟩ hf
   · exact h.out x hx
 · rw [List.mem_append, List.mem_singleton, h.mem, hm]
   constructor
   · rintro ((h1 | h1) | h1)
     · exact .inl h1
     · exact .inr (.inr h1)
     · exact .inr (.inl h1)
   · rintro (h1 | h1 | h1)
     · exact .inl (.inl h1)
     · exact .inr h1
     · exact .inl (.inr h1)
 · rw [List.getElem?_append_left (by omega)] at hc'
   exact (hm d).2 (.inr (h.done i hi c' hc' d hd hfd))
 · rw [List.getElem?_append_left hlt, hc] at hc'
   obtain rfl := Option.some.inj hc'
   by_cases e : j = k
   · subst e; exact (hm _).2 (.inl rfl)
   · exact (hm _).2 (.inr (h.part c hc j (by omega) hfj))
 · rw [List.length_append, List.length_singleton, h.len, hlen]
   omega
theorem Bfs.all {X Y Z : Int} {l M ls sn : List a0a} (hM : ∀ m c, a0k X Y Z m = false → a0k X Y Z c = true → nb m c → m ∈ M) (h : Bfs X Y Z l M ls.length 0 ls sn) (c : a0a) : c ∈ sn ↔ k1o X Y Z l c := by
 have key : ∀ m, m ∈ ls → ∀ d, nb m d → i3a X Y Z l d → d ∈ sn := by
  intro m hm d hd hf
  obtain ⟨i, hi, e⟩ := List.getElem_of_mem hm
  exact h.done i hi m (by rw [List.getElem?_eq_getElem hi, e]) d hd hf
 refine ⟨h.out c, fun hc => Rch.of (r := fun c => c ∈ sn) (fun c hc => ?_) (fun c d hc hn hf => ?_) hc⟩
 · obtain ⟨hf, m, hm, hn⟩ := hc
   exact key m ((h.mem m).2 (.inl (hM m c hm hf.1 hn))) c hn hf
 · exact key c ((h.mem c).2 (.inr hc)) d hn hf
theorem a4n {X Y Z : Int} (hs : sides X Y Z = true) {l : List a0a} (hi : Ins X Y Z l) (hr : Srt l) : l.length ≤ 64 := by
 have h1 : l = a3x X Y Z (mask Y Z l 0) := (i4o hs hi hr).symm
 have h2 := c7i Y Z (mask Y Z l 0) (X * Y * Z).toNat 0
 have h3 := c2q hs
 rw [h1]
 unfold a3x
 omega
def SetIs (X Y Z : Int) (v : BitVec 64) (g : a0a → Bool) : Prop := Low (X * Y * Z).toNat v ∧ ∀ c, a0k X Y Z c = true → v.getLsbD (idx Y Z c) = g c
theorem SetIs.ext {X Y Z : Int} (hs : sides X Y Z = true) {v w : BitVec 64} {g : a0a → Bool} (hv : SetIs X Y Z v g) (hw : SetIs X Y Z w g) : v = w :=
 j7n hs hv.1 hw.1 fun c hc => by rw [hv.2 c hc, hw.2 c hc]
theorem d4e {X Y Z : Int} (hs : sides X Y Z = true) {l : List a0a} (hl : Ins X Y Z l) : SetIs X Y Z (mask Y Z l 0) (fun c => decide (c ∈ l)) := ⟨j3q hs hl, fun _ hc => f3d hs hl hc⟩
theorem SetIs.cells {X Y Z : Int} (hs : sides X Y Z = true) {v : BitVec 64} {g : a0a → Bool} (hv : SetIs X Y Z v g) {l : List a0a} (hr : Srt l) (hm : ∀ c, c ∈ l ↔ a0k X Y Z c = true ∧ g c = true) : a3x X Y Z v = l :=
 e4z _ _ (b6g hs v) hr fun c => by
  rw [c5p hs, hm]
  constructor
  · rintro ⟨h1, h2⟩; rw [hv.2 c h1] at h2; exact ⟨h1, h2⟩
  · rintro ⟨h1, h2⟩; exact ⟨h1, by rw [hv.2 c h1]; exact h2⟩
theorem SetIs.bits {X Y Z : Int} {v : BitVec 64} {g : a0a → Bool} (hv : SetIs X Y Z v g) {q : List a0a} (hi : Ins X Y Z q) (hg : ∀ c, a0k X Y Z c = true → g c = decide (c ∈ q)) : j9n X Y Z v q :=
 ⟨hi, fun c hc => by rw [hv.2 c hc, hg c hc]⟩
end Go.VI
namespace Go.VI
open Go.Proofs
theorem j3u (X Y Z : Int) (c : a0a) : i3q X Y Z c = (List.range 6).foldl (fun v k => bif a0k X Y Z (stp k c) then v ||| BitVec.twoPow 64 (idx Y Z (stp k c)) else v) 0 := by
 unfold i3q j0j mask
 rw [List.foldl_filter, List.foldl_map]
 congr 1
 funext v k
 cases a0k X Y Z (stp k c) <;> rfl
theorem j9v {X Y Z : Int} (hs : sides X Y Z = true) : c5q ((X, Y, Z, ()), ()) = some (((X * Y * Z).toNat : Int), ()) := by
 have h := c2q hs
 have s := sides_iff.1 hs
 rw [h2p]
 show some (IntKind.wrap .i64 (IntKind.wrap .i64 (X * Y) * Z), ()) = _
 rw [w64 (x := X * Y) (by omega) (by omega), w64 (x := X * Y * Z) (by omega) (by omega)]
 congr 2
 omega
theorem h8n {X Y Z : Int} (hs : sides X Y Z = true) {c : a0a} (hc : e6t c) (m0 m1 : Nat) (v : BitVec 64) (d j : Nat) (hd : d < 3) (hj : j < 2) :
 a8g m0 (m1 + 1) X Y Z c.1 c.2.1 c.2.2.1 (v.toNat : Int) (d : Int) (d : Int) (-1) 1 (j : Int) = a8g m0 m1 X Y Z c.1 c.2.1 c.2.2.1 (((bif a0k X Y Z (stp (2 * d + j) c) then v ||| BitVec.twoPow 64 (idx Y Z (stp (2 * d + j) c)) else v).toNat : Nat) : Int) (d : Int) (d : Int) (-1) 1 ((j + 1 : Nat) : Int) := by
 rw [g1c]
 unfold e6t at hc
 have hst : (((bif decide ((d : Int) = (0 : Int)) then (IntKind.wrap .i64 ((bif decide ((d : Int) = (0 : Int)) then c.1 else (bif decide ((d : Int) = (1 : Int)) then c.2.1 else c.2.2.1)) + (bif decide ((j : Int) = (0 : Int)) then (-1) else 1))) else c.1), ((bif decide ((d : Int) = (1 : Int)) then (IntKind.wrap .i64 ((bif decide ((d : Int) = (0 : Int)) then c.1 else (bif decide ((d : Int) = (1 : Int)) then c.2.1 else c.2.2.1)) + (bif decide ((j : Int) = (0 : Int)) then (-1) else 1))) else c.2.1), ((bif decide ((d : Int) = (2 : Int)) then (IntKind.wrap .i64 ((bif decide ((d : Int) = (0 : Int)) then c.1 else (bif decide ((d : Int) = (1 : Int)) then c.2.1 else c.2.2.1)) + (bif decide ((j : Int) = (0 : Int)) then (-1) else 1))) else c.2.2.1), ()))) : a0a) = stp (2 * d + j) c := by
  have e1 : ∀ x : Int, -1000 ≤ x → x ≤ 1000 → IntKind.wrap .i64 (x + -1) = x + -1 := fun x h0 h1 => by rw [w64 (by omega) (by omega)]
  have e2 : ∀ x : Int, -1000 ≤ x → x ≤ 1000 → IntKind.wrap .i64 (x + 1) = x + 1 := fun x h0 h1 => by rw [w64 (by omega) (by omega)]
  have hd3 : d = 0 ∨ d = 1 ∨ d = 2 := by omega
  have hj2 : j = 0 ∨ j = 1 := by omega
  rcases hd3 with rfl | rfl | rfl <;> rcases hj2 with rfl | rfl <;> simp [stp, e1 _ hc.1 hc.2.1, e1 _ hc.2.2.1 hc.2.2.2.1, e1 _ hc.2.2.2.2.1 hc.2.2.2.2.2, e2 _ hc.1 hc.2.1, e2 _ hc.2.2.1 hc.2.2.2.1, e2 _ hc.2.2.2.2.1 hc.2.2.2.2.2]
 rw [hst, decide_eq_true (p := (j : Int) < 2) (by omega), a1j (k := j) (n := 2) hj, a1j (k := d) (n := 3) hd, h9n (X, Y, Z, ()) _ hs, a5v j (by omega)]
 simp only [cond_true, Option.bind_some]
 cases hw : a0k X Y Z (stp (2 * d + j) c) with
 | false => simp
 | true =>
  rw [d7e hs hw]
  simp only [cond_true, Option.bind_some]
  rw [decide_eq_true (p := (0 : Int) ≤ (idx Y Z (stp (2 * d + j) c) : Int)) (by omega), j3z, k0e]
  rfl
theorem j9f {X Y Z : Int} (hs : sides X Y Z = true) {c : a0a} (hc : e6t c) : d3x ((X, Y, Z, ()), c, ()) = some (((i3q X Y Z c).toNat : Int), ()) := by
 obtain ⟨n, hn⟩ : ∃ n, N = n + 10 := ⟨N - 10, by have := b6u; omega⟩
 have done6 : ∀ (m0 m1 : Nat) (v : BitVec 64) (d : Nat), d < 3 → a8g m0 (m1 + 1) X Y Z c.1 c.2.1 c.2.2.1 (v.toNat : Int) (d : Int) (d : Int) (-1) 1 ((2 : Nat) : Int) = a6t m0 X Y Z c.1 c.2.1 c.2.2.1 (v.toNat : Int) ((d + 1 : Nat) : Int) := by
  intro m0 m1 v d hd
  rw [g1c, a5v d (by omega)]
  rfl
 have step3 : ∀ (m0 : Nat) (v : BitVec 64) (d : Nat), d < 3 → a6t (m0 + 1) X Y Z c.1 c.2.1 c.2.2.1 (v.toNat : Int) (d : Int) = a8g m0 N X Y Z c.1 c.2.1 c.2.2.1 (v.toNat : Int) (d : Int) (d : Int) (-1) 1 ((0 : Nat) : Int) := by
  intro m0 v d hd
  rw [g1n, decide_eq_true (by omega)]
  rfl
 have end3 : ∀ (m0 : Nat) (v : Int), a6t (m0 + 1) X Y Z c.1 c.2.1 c.2.2.1 v ((3 : Nat) : Int) = some (v, ()) := by
  intro m0 v
  rw [g1n]
  rfl
 have round : ∀ (m0 : Nat) (v : BitVec 64) (d : Nat), d < 3 → a6t (m0 + 1) X Y Z c.1 c.2.1 c.2.2.1 (v.toNat : Int) (d : Int) = a6t m0 X Y Z c.1 c.2.1 c.2.2.1 ((((fun (v : BitVec 64) (k : Nat) => bif a0k X Y Z (stp k c) then v ||| BitVec.twoPow 64 (idx Y Z (stp k c)) else v) ((fun (v : BitVec 64) (k : Nat) => bif a0k X Y Z (stp k c) then v ||| BitVec.twoPow 64 (idx Y Z (stp k c)) else v) v (2 * d + 0)) (2 * d + 1)).toNat : Nat) : Int) ((d + 1 : Nat) : Int) := by
  intro m0 v d hd
  rw [step3 m0 v d hd, hn, h8n hs hc m0 (n + 9) v d 0 hd (by omega), h8n hs hc m0 (n + 8) _ d 1 hd (by omega), done6 m0 (n + 7) _ d hd]
 rw [i8b]
 show a6t N X Y Z c.1 c.2.1 c.2.2.1 (((0 : BitVec 64).toNat : Nat) : Int) ((0 : Nat) : Int) = _
 rw [hn, round (n + 9) 0 0 (by omega), round (n + 8) _ 1 (by omega), round (n + 7) _ 2 (by omega), end3, j3u]
 rfl
theorem i2b {X Y Z : Int} (hs : sides X Y Z = true) (u v : BitVec 64) (m0 : Nat) : ∀ (d k m : Nat) (acc : BitVec 64), k + d = (X * Y * Z).toNat → d < m →
 b3b m0 m X Y Z (v.toNat : Int) (u.toNat : Int) (acc.toNat : Int) (((X * Y * Z).toNat : Nat) : Int) (k : Int) = if h5y X Y Z u v d k acc = v then some ((v.toNat : Int), ()) else a8l m0 X Y Z ((h5y X Y Z u v d k acc).toNat : Int) (u.toNat : Int)
 | d, k, 0, acc, _, h => by omega
 | d, k, m + 1, acc, hk, hm => by
  have h64 := c2q hs
  rw [h5f]
  cases d with
  | zero =>
   rw [ltF (by omega), h5y]
   simp only [cond_false]
   have e : decide ((acc.toNat : Int) = (v.toNat : Int)) = decide (acc = v) := by
    rw [Bool.eq_iff_iff, decide_eq_true_eq, decide_eq_true_eq]
    constructor
    · intro h; exact BitVec.eq_of_toNat_eq (by omega)
    · intro h; rw [h]
   rw [e]
   by_cases h : acc = v <;> simp [h]
  | succ d =>
   obtain ⟨h1, h2⟩ := c2s hs (i := k) (by omega)
   rw [ltT (by omega), h7u, h3k hs (by omega)]
   simp only [cond_true, Option.bind_some]
   rw [j9f hs (j1q hs h1), a5v k (by omega), h5y]
   simp only [Option.bind_some]
   rw [j8d, k0e]
   cases v.getLsbD k with
   | false => exact i2b hs u v m0 d (k + 1) m _ (by omega) (by omega)
   | true => exact i2b hs u v m0 d (k + 1) m _ (by omega) (by omega)
theorem i2j {X Y Z : Int} (hs : sides X Y Z = true) (u v : BitVec 64) (m : Nat) : a8l (m + 1) X Y Z (v.toNat : Int) (u.toNat : Int) = if f5g X Y Z u v = v then some ((v.toNat : Int), ()) else a8l m X Y Z ((f5g X Y Z u v).toNat : Int) (u.toNat : Int) := by
 rw [h6r, j9v hs]
 exact i2b hs u v m (X * Y * Z).toNat 0 N v (by omega) (by have := c2q hs; have := b6u; omega)
theorem j3o {X Y Z : Int} (hs : sides X Y Z = true) {v0 u : BitVec 64} (hu : Low (X * Y * Z).toNat u) : ∀ (n : Nat) (v : BitVec 64), unset (X * Y * Z).toNat v ≤ n → Low (X * Y * Z).toNat v → (∀ i, v0.getLsbD i = true → v.getLsbD i = true) → (∀ c, g3i X Y Z v c → Rch (g3i X Y Z v0) (g3i X Y Z u) c) →
 ∃ w : BitVec 64, (∀ m, n < m → a8l m X Y Z (v.toNat : Int) (u.toNat : Int) = some ((w.toNat : Int), ())) ∧ Low (X * Y * Z).toNat w ∧ ∀ c, g3i X Y Z w c ↔ Rch (g3i X Y Z v0) (g3i X Y Z u) c := by
 intro n
 induction n with
 | zero =>
  intro v hn hv hsub hr
  by_cases h : f5g X Y Z u v = v
  · refine ⟨v, fun m hm => ?_, hv, fun c => ⟨hr c, fun hc => ⟨hc.within, g1e hs hsub h c hc⟩⟩⟩
    obtain ⟨m, rfl⟩ : ∃ m', m = m' + 1 := ⟨m - 1, by omega⟩
    rw [i2j hs, if_pos h]
  · have := i6a hv (g6f hv hu) (fun i hi => g7h i hi) h
    omega
 | succ n ih =>
  intro v hn hv hsub hr
  by_cases h : f5g X Y Z u v = v
  · refine ⟨v, fun m hm => ?_, hv, fun c => ⟨hr c, fun hc => ⟨hc.within, g1e hs hsub h c hc⟩⟩⟩
    obtain ⟨m, rfl⟩ : ∃ m', m = m' + 1 := ⟨m - 1, by omega⟩
    rw [i2j hs, if_pos h]
  · have hlt := i6a hv (g6f hv hu) (fun i hi => g7h i hi) h
    obtain ⟨w, h1, h2, h3⟩ := ih (f5g X Y Z u v) (by omega) (g6f hv hu) (fun i hi => g7h i (hsub i hi)) (fun c hc => i1u hs hr c hc)
    refine ⟨w, fun m hm => ?_, h2, h3⟩
    obtain ⟨m, rfl⟩ : ∃ m', m = m' + 1 := ⟨m - 1, by omega⟩
    rw [i2j hs, if_neg h]
    exact h1 m (by omega)
theorem j6h {X Y Z : Int} (hs : sides X Y Z = true) {v u : BitVec 64} (hv : Low (X * Y * Z).toNat v) (hu : Low (X * Y * Z).toNat u) : ∃ w : BitVec 64, c7p ((X, Y, Z, ()), (v.toNat : Int), (u.toNat : Int), ()) = some ((w.toNat : Int), ()) ∧ Low (X * Y * Z).toNat w ∧ ∀ c, g3i X Y Z w c ↔ Rch (g3i X Y Z v) (g3i X Y Z u) c := by
 obtain ⟨w, h1, h2, h3⟩ := j3o hs hu 64 v (by have := j2o (X * Y * Z).toNat v; have := c2q hs; omega) hv (fun _ h => h) (fun c hc => .base hc)
 refine ⟨w, ?_, h2, h3⟩
 rw [i2i]
 exact h1 N (by have := b6u; omega)
end Go.VI
namespace Go.VI
open Go.Proofs
def sh (d s : Int) (c : a0a) : a0a := ((bif decide (d = 0) then c.1 + s else c.1), (bif decide (d = 1) then c.2.1 + s else c.2.1), (bif decide (d = 2) then c.2.2.1 + s else c.2.2.1), ())
theorem dir {d : Int} (h0 : 0 ≤ d) (h1 : d ≤ 2) : d = 0 ∨ d = 1 ∨ d = 2 := by omega
theorem i2k {d : Int} (h0 : 0 ≤ d) (h1 : d ≤ 2) : inB d 3 = true := by
 rcases dir h0 h1 with rfl | rfl | rfl <;> decide
def i2f (X Y Z d : Int) : Int := bif decide (d = 0) then X else (bif decide (d = 1) then Y else Z)
theorem g3j {X Y Z : Int} (l : List a0a) {d : Int} (d0 : 0 ≤ d) (d1 : d ≤ 2) : a1e ((X, Y, Z, l, ()), d, ()) = some (i2f X Y Z d, ()) := by
 rw [b7l, i2k d0 d1]; rfl
end Go.VI
namespace Go.VI
open Go.Proofs
end Go.VI
namespace Go.VI
open Go.Proofs
theorem j5q {l : List a0a} (k : Nat) : cut l 0 (k : Int) = l.take k := by simp [cut]
theorem j5o {l : List a0a} (k : Nat) : cut l (k : Int) (l.length : Int) = l.drop k := by simp [cut]
theorem i9u {X Y Z : Int} {l : List a0a} (hl : l.length ≤ 3000000) : b2j ((X, Y, Z, l, ()), ()) = some ((X, Y, Z, l, ()), ()) := by
 rw [i0i]
 simp only [List.length_nil, List.nil_append, b8q, Option.bind_some]
 rw [decide_eq_true (by omega), decide_eq_true (by omega)]
 rfl
theorem h3j {l : List a0a} (hr : Srt l) (c : a0a) (k : Nat) (h1 : ∀ x ∈ l.take k, ltC x c = true) (h2 : ∀ x ∈ l.drop k, ltC c x = true) : Srt (l.take k ++ [c] ++ l.drop k) := by
 unfold Srt
 rw [List.append_assoc, List.pairwise_append]
 have ht : Srt (l.take k) := List.Pairwise.sublist (List.take_sublist k l) hr
 have hd : Srt (l.drop k) := List.Pairwise.sublist (List.drop_sublist k l) hr
 refine ⟨ht, List.pairwise_cons.2 ⟨h2, hd⟩, fun a ha b hb => ?_⟩
 rcases List.mem_cons.1 hb with rfl | hb'
 · exact h1 a ha
 · exact d5i (h1 a ha) (h2 b hb')
theorem mem_insert {l : List a0a} (c x : a0a) (k : Nat) : x ∈ l.take k ++ [c] ++ l.drop k ↔ x = c ∨ x ∈ l := by
 have : x ∈ l ↔ x ∈ l.take k ∨ x ∈ l.drop k := by rw [← List.mem_append, List.take_append_drop]
 rw [this]
 simp only [List.mem_append, List.mem_singleton]
 constructor
 · rintro ((h | h) | h)
   · exact .inr (.inl h)
   · exact .inl h
   · exact .inr (.inr h)
 · rintro (h | h | h)
   · exact .inl (.inr h)
   · exact .inl (.inl h)
   · exact .inr h
theorem j4w {X Y Z : Int} {l : List a0a} (hr : Srt l) (c : a0a) (hl : l.length ≤ 2500000) : ∀ (n k m : Nat), l.length = k + n → n < m → (∀ x ∈ l.take k, ltC x c = true) →
 ∃ l', b2c m X Y Z l c.1 c.2.1 c.2.2.1 0 0 0 [] (k : Int) = some ((X, Y, Z, l', ()), ()) ∧ Srt l' ∧ (∀ x, x ∈ l' ↔ x = c ∨ x ∈ l) ∧ l'.length ≤ l.length + 1
 | n, k, 0, hk, hm, _ => by omega
 | n, k, m + 1, hk, hm, hlow => by
  have g1 : (decide (((List.length ([] : List a0a)) + (List.length (l.take k))) * 24 ≤ 140737488355328) && decide (((List.length ([] : List a0a)) + (List.length (l.take k))) ≤ 140737488355328)) = true := by
   rw [List.length_take, List.length_nil, decide_eq_true (by omega), decide_eq_true (by omega)]; rfl
  have g2 : (decide (((List.length (([] : List a0a) ++ (l.take k))) + (List.length ([c] : List a0a))) * 24 ≤ 140737488355328) && decide (((List.length (([] : List a0a) ++ (l.take k))) + (List.length ([c] : List a0a))) ≤ 140737488355328)) = true := by
   rw [List.nil_append, List.length_take, List.length_singleton, decide_eq_true (by omega), decide_eq_true (by omega)]; rfl
  have g3 : (decide (((List.length ((([] : List a0a) ++ (l.take k)) ++ ([c] : List a0a))) + (List.length (l.drop k))) * 24 ≤ 140737488355328) && decide (((List.length ((([] : List a0a) ++ (l.take k)) ++ ([c] : List a0a))) + (List.length (l.drop k))) ≤ 140737488355328)) = true := by
   rw [List.nil_append, List.length_append, List.length_take, List.length_singleton, List.length_drop, decide_eq_true (by omega), decide_eq_true (by omega)]; rfl
  have g4 : (decide ((0 : Int) ≤ 0) && decide ((0 : Int) ≤ (k : Int)) && decide ((k : Int) ≤ (List.length l : Int))) = true := by
   rw [decide_eq_true (by omega), decide_eq_true (by omega), decide_eq_true (by omega)]; rfl
  have g5 : (decide ((0 : Int) ≤ (k : Int)) && decide ((k : Int) ≤ (List.length l : Int)) && decide ((List.length l : Int) ≤ (List.length l : Int))) = true := by
   rw [decide_eq_true (by omega), decide_eq_true (by omega), decide_eq_true (by omega)]; rfl
  have hlen : (l.take k ++ [c] ++ l.drop k).length ≤ l.length + 1 := by
   rw [List.length_append, List.length_append, List.length_take, List.length_drop, List.length_singleton]; omega
  have ec : ((c.1, (c.2.1, (c.2.2.1, ()))) : a0a) = c := rfl
  rw [g4i]
  by_cases hlt : k < l.length
  · rw [ltT hlt, a1j hlt, b9l (t := a0e) hlt, b9e, ec, j5q, j5o, g1, g2, g3, g4, g5, a5v k (by omega)]
    simp only [cond_true, Option.bind_some, Bool.and_true]
    cases hb : ltC l[k] c with
    | true =>
     refine j4w hr c hl (n - 1) (k + 1) m (by omega) (by omega) ?_
     intro x hx
     rw [List.take_add_one, List.getElem?_eq_getElem hlt] at hx
     rcases List.mem_append.1 hx with h | h
     · exact hlow x h
     · have : x = l[k] := by simpa using h
       rw [this]; exact hb
    | false =>
     simp only [cond_false]
     by_cases he : l[k] = c
     · have hq : (decide ((l[k]).1 = c.1) && (decide ((l[k]).2.1 = c.2.1) && decide ((l[k]).2.2.1 = c.2.2.1))) = true := by rw [he]; simp
       rw [hq, i9u (by omega)]
       refine ⟨l, rfl, hr, fun x => ?_, by omega⟩
       constructor
       · exact .inr
       · rintro (rfl | h)
         · rw [← he]; exact List.getElem_mem hlt
         · exact h
     · have hq : (decide ((l[k]).1 = c.1) && (decide ((l[k]).2.1 = c.2.1) && decide ((l[k]).2.2.1 = c.2.2.1))) = false := by
        rw [Bool.eq_false_iff]
        intro h
        simp only [Bool.and_eq_true, decide_eq_true_eq] at h
        exact he (a5q h.1 h.2.1 h.2.2)
       rw [hq, b8q]
       have hck : ltC c l[k] = true := by
        cases h : ltC c l[k] with
        | true => rfl
        | false => exact absurd (f3n hb h) he
       refine ⟨l.take k ++ [c] ++ l.drop k, rfl, h3j hr c k hlow ?_, fun x => mem_insert c x k, hlen⟩
       intro x hx
       rw [drop_at l k hlt] at hx
       rcases List.mem_cons.1 hx with rfl | h
       · exact hck
       · have hd : Srt (l.drop k) := List.Pairwise.sublist (List.drop_sublist k l) hr
         rw [drop_at l k hlt] at hd
         exact d5i hck ((List.pairwise_cons.1 hd).1 x h)
  · rw [ltF hlt, ec, j5q, j5o, g1, g2, g3, g4, g5, b8q]
    refine ⟨l.take k ++ [c] ++ l.drop k, rfl, h3j hr c k hlow ?_, fun x => mem_insert c x k, hlen⟩
    intro x hx
    rw [List.drop_eq_nil_of_le (by omega)] at hx
    cases hx
theorem f4i {X Y Z : Int} {l : List a0a} (hr : Srt l) (c : a0a) (hl : l.length ≤ 2500000) : ∃ l', a4s ((X, Y, Z, l, ()), c, ()) = some ((X, Y, Z, l', ()), ()) ∧ Srt l' ∧ (∀ x, x ∈ l' ↔ x = c ∨ x ∈ l) ∧ l'.length ≤ l.length + 1 := by
 obtain ⟨l', h, r⟩ := j4w (X := X) (Y := Y) (Z := Z) hr c hl l.length 0 N (by simp) (by have := b6u; omega) (by simp)
 exact ⟨l', by rw [h5i]; exact h, r⟩
end Go.VI
namespace Go.VI
open Go.Proofs
theorem i2h {l : List a0a} (h : l.length ≤ 64) : Small l := by unfold Small; omega
theorem b7v {α : Type} {l : List α} {x : α} (h : l.length ≤ 100000000) : (decide ((l.length + ([x] : List α).length) * 24 ≤ 140737488355328) && decide (l.length + ([x] : List α).length ≤ 140737488355328)) = true := by
 rw [Bool.and_eq_true, decide_eq_true_eq, decide_eq_true_eq]
 simp only [List.length_singleton]
 omega
theorem j7f (a c : a0a) : (decide (a.1 = c.1) && (decide (a.2.1 = c.2.1) && (decide (a.2.2.1 = c.2.2.1) && true))) = decide (a = c) := by
 rw [Bool.eq_iff_iff, Bool.and_eq_true, Bool.and_eq_true, Bool.and_eq_true, decide_eq_true_eq, decide_eq_true_eq, decide_eq_true_eq, decide_eq_true_eq]
 constructor
 · rintro ⟨h1, h2, h3, _⟩; exact a5q h1 h2 h3
 · intro h; rw [← h]; exact ⟨rfl, rfl, rfl, rfl⟩
theorem g5e {X Y Z X' Y' Z' : Int} (l : List a0a) (c : a0a) (hl : l.length ≤ 3000000) : ∀ (d i m : Nat) (out : List a0a), l.length = i + d → d < m → out.length ≤ i →
 a5g m X Y Z l c.1 c.2.1 c.2.2.1 0 0 0 [] X' Y' Z' out (i : Int) = some ((X', Y', Z', out ++ (l.drop i).filter (fun x => !decide (x = c)), ()), ())
 | d, i, 0, out, _, h, _ => by omega
 | d, i, m + 1, out, hk, hm, ho => by
  rw [f6q]
  by_cases hlt : i < l.length
  · rw [ltT hlt, a1j hlt, b9l (t := a0e) hlt, j7f l[i] c, b7v (by omega), drop_at l i hlt, a5v i (by omega)]
    simp only [cond_true, List.filter_cons]
    by_cases e : l[i] = c
    · rw [decide_eq_true e]
      simp only [Bool.not_true, cond_false, Bool.false_eq_true, if_false]
      exact g5e l c hl (d - 1) (i + 1) m out (by omega) (by omega) (by omega)
    · rw [decide_eq_false e]
      simp only [Bool.not_false, cond_true, if_true]
      rw [g5e l c hl (d - 1) (i + 1) m _ (by omega) (by omega) (by simp; omega)]
      simp
  · rw [ltF hlt, List.drop_eq_nil_of_le (by omega)]
    simp
theorem h9p {X Y Z : Int} (l : List a0a) (c : a0a) (hl : l.length ≤ 3000000) : a7x ((X, Y, Z, l, ()), c, ()) = some ((X, Y, Z, l.filter (fun x => !decide (x = c)), ()), ()) := by
 have := g5e (X := X) (Y := Y) (Z := Z) (X' := X) (Y' := Y) (Z' := Z) l c hl l.length 0 N [] (by simp) (by have := b6u; omega) (by simp)
 rw [g2b, a2x]
 exact this
theorem i3m {X Y Z X' Y' Z' : Int} {l al : List a0a} (hl : Small l) (hal : Small al) : ∀ (d i m : Nat) (out : List a0a), al.length = i + d → d < m → out.length ≤ i →
 a3g m X Y Z l 0 0 0 [] X' Y' Z' out al (i : Int) = some ((X', Y', Z', out ++ (al.drop i).filter (fun x => !decide (x ∈ l)), ()), true, ())
 | d, i, 0, out, _, h, _ => by omega
 | d, i, m + 1, out, hk, hm, ho => by
  have hal' := hal
  unfold Small at hal'
  rw [f1n]
  by_cases hlt : i < al.length
  · rw [ltT hlt, a1j hlt, b9l (t := a0e) hlt, i4g X Y Z l _ hl, b7v (by omega), drop_at al i hlt, a5v i (by omega)]
    simp only [cond_true, Option.bind_some, List.filter_cons]
    by_cases e : al[i] ∈ l
    · rw [decide_eq_true e]
      simp only [Bool.not_true, cond_false, Bool.false_eq_true, if_false]
      exact i3m hl hal (d - 1) (i + 1) m out (by omega) (by omega) (by omega)
    · rw [decide_eq_false e]
      simp only [Bool.not_false, cond_true, if_true]
      rw [i3m hl hal (d - 1) (i + 1) m _ (by omega) (by omega) (by simp; omega)]
      simp
  · rw [ltF hlt, List.drop_eq_nil_of_le (by omega)]
    simp
theorem j0m {S1 S2 S3 : Int} (hS : sides S1 S2 S3 = true) {l : List a0a} (hl : Small l) {g : a0a → a0a} {F : a0a × Unit → Option (a0a × Unit)} (hF : ∀ c ∈ l, F (c, ()) = some (g c, ()) ∧ a0k S1 S2 S3 (g c) = true) : ∀ (d i m : Nat) (v : BitVec 64), l.length = i + d → d < m →
 b4d m S1 S2 S3 0 0 0 [] F (v.toNat : Int) l (l.length : Int) (i : Int) = some ((S1, S2, S3, a3x S1 S2 S3 (mask S2 S3 ((l.drop i).map g) v), ()), ())
 | d, i, 0, v, _, h => by omega
 | d, i, m + 1, v, hk, hm => by
  have hl' := hl
  unfold Small at hl'
  rw [g9u]
  by_cases hlt : i < l.length
  · obtain ⟨h1, h2⟩ := hF l[i] (List.getElem_mem hlt)
    rw [ltT hlt, a1j hlt, b9l (t := a0e) hlt, h1, drop_at l i hlt, a5v i (by omega)]
    simp only [cond_true, Option.bind_some]
    rw [d7e hS h2]
    simp only [Option.bind_some]
    rw [decide_eq_true (p := (0 : Int) ≤ (idx S2 S3 (g l[i]) : Int)) (by omega), j3z, k0e]
    simp only [cond_true]
    rw [j0m hS hl hF (d - 1) (i + 1) m _ (by omega) (by omega)]
    rfl
  · rw [ltF hlt, List.drop_eq_nil_of_le (by omega)]
    simp only [cond_false]
    rw [h1j hS]
    rfl
theorem i2p {X Y Z S1 S2 S3 : Int} (hS : sides S1 S2 S3 = true) {l : List a0a} (hl : Small l) {g : a0a → a0a} {F : a0a × Unit → Option (a0a × Unit)} (hF : ∀ c ∈ l, F (c, ()) = some (g c, ()) ∧ a0k S1 S2 S3 (g c) = true) : a6u ((X, Y, Z, l, ()), (S1, S2, S3, ()), F, ()) = some ((S1, S2, S3, a3x S1 S2 S3 (mask S2 S3 (l.map g) 0), ()), ()) := by
 have := j0m hS hl hF l.length 0 N 0 (by simp) (by unfold Small at hl; have := b6u; omega)
 rw [h9w]
 exact this
theorem j3w {S1 S2 S3 : Int} (hS : sides S1 S2 S3 = true) {l l' : List a0a} {g : a0a → a0a} (hg : ∀ c ∈ l, a0k S1 S2 S3 (g c) = true) (hr : Srt l') (hm : ∀ c, c ∈ l' ↔ c ∈ l.map g) : a3x S1 S2 S3 (mask S2 S3 (l.map g) 0) = l' := by
 have hi : Ins S1 S2 S3 (l.map g) := fun x hx => by
  obtain ⟨c, hc, rfl⟩ := List.mem_map.1 hx
  exact hg c hc
 refine (d4e hS hi).cells hS hr fun c => ?_
 rw [hm, decide_eq_true_eq]
 exact ⟨fun h => ⟨hi c h, h⟩, fun h => h.2⟩
def i8q (X Y Z d : Int) (c : a0a) : a0a := ((bif decide (d = 0) then X - 1 - c.1 else c.1), (bif decide (d = 1) then Y - 1 - c.2.1 else c.2.1), (bif decide (d = 2) then Z - 1 - c.2.2.1 else c.2.2.1), ())
theorem j6e {X Y Z d : Int} {c : a0a} (hc : a0k X Y Z c = true) : a0k X Y Z (i8q X Y Z d c) = true := by
 rw [within3_iff] at hc ⊢
 unfold i8q
 simp only
 refine ⟨?_, ?_, ?_⟩
 · cases decide (d = 0) <;> simp <;> omega
 · cases decide (d = 1) <;> simp <;> omega
 · cases decide (d = 2) <;> simp <;> omega
theorem i5h {X Y Z d : Int} (hs : sides X Y Z = true) (d0 : 0 ≤ d) (d1 : d ≤ 2) {c : a0a} (hc : a0k X Y Z c = true) (A : a0a) (hA : A = (X, Y, Z, ())) : (((bif decide (d = (0 : Int)) then (IntKind.wrap .i64 ((IntKind.wrap .i64 ((bif decide (d = (0 : Int)) then A.1 else (bif decide (d = (1 : Int)) then A.2.1 else A.2.2.1)) - 1)) - (bif decide (d = (0 : Int)) then c.1 else (bif decide (d = (1 : Int)) then c.2.1 else c.2.2.1)))) else c.1), ((bif decide (d = (1 : Int)) then (IntKind.wrap .i64 ((IntKind.wrap .i64 ((bif decide (d = (0 : Int)) then A.1 else (bif decide (d = (1 : Int)) then A.2.1 else A.2.2.1)) - 1)) - (bif decide (d = (0 : Int)) then c.1 else (bif decide (d = (1 : Int)) then c.2.1 else c.2.2.1)))) else c.2.1), ((bif decide (d = (2 : Int)) then (IntKind.wrap .i64 ((IntKind.wrap .i64 ((bif decide (d = (0 : Int)) then A.1 else (bif decide (d = (1 : Int)) then A.2.1 else A.2.2.1)) - 1)) - (bif decide (d = (0 : Int)) then c.1 else (bif decide (d = (1 : Int)) then c.2.1 else c.2.2.1)))) else c.2.2.1), ()))) : a0a) = i8q X Y Z d c := by
 subst hA
 have s := sides_iff.1 hs
 have w := within3_iff.1 hc
 have e : ∀ S x : Int, 1 ≤ S → S ≤ 4 → 0 ≤ x → x ≤ 4 → IntKind.wrap .i64 (IntKind.wrap .i64 (S - 1) - x) = S - 1 - x := fun S x h1 h2 h3 h4 => by rw [w64 (x := S - 1) (by omega) (by omega), w64 (by omega) (by omega)]
 have e1 := e X c.1 (by omega) (by omega) (by omega) (by omega)
 have e2 := e Y c.2.1 (by omega) (by omega) (by omega) (by omega)
 have e3 := e Z c.2.2.1 (by omega) (by omega) (by omega) (by omega)
 rcases dir d0 d1 with rfl | rfl | rfl <;> simp [i8q, e1, e2, e3]
theorem h2n {X Y Z d : Int} (hs : sides X Y Z = true) (d0 : 0 ≤ d) (d1 : d ≤ 2) {l : List a0a} (hl : Small l) (hi : Ins X Y Z l) : ∀ (n i m : Nat) (out : List a0a), l.length = i + n → n < m → Srt out → (∀ c, c ∈ out ↔ c ∈ (l.take i).map (i8q X Y Z d)) → out.length ≤ i →
 ∃ out', a4m m X Y Z l 0 0 0 [] X Y Z out d (i : Int) = some ((X, Y, Z, out', ()), ()) ∧ Srt out' ∧ ∀ c, c ∈ out' ↔ c ∈ l.map (i8q X Y Z d)
 | n, i, 0, out, _, h, _, _, _ => by omega
 | n, i, m + 1, out, hk, hm, hr, hmem, hlen => by
  have hl' := hl
  unfold Small at hl'
  rw [f1p]
  by_cases hlt : i < l.length
  · rw [ltT hlt, a1j hlt, b9l (t := a0e) hlt, g3j l d0 d1, i2k d0 d1, a5v i (by omega)]
    simp only [cond_true, Option.bind_some]
    have ht := i5h hs d0 d1 (hi _ (List.getElem_mem hlt)) (X, Y, Z, ()) rfl
    obtain ⟨l', g1, g2, g3, g4⟩ := f4i (X := X) (Y := Y) (Z := Z) hr (i8q X Y Z d l[i]) (by omega)
    have ht' : (((bif decide (d = (0 : Int)) then (IntKind.wrap .i64 ((IntKind.wrap .i64 (i2f X Y Z d - 1)) - (bif decide (d = (0 : Int)) then l[i].1 else (bif decide (d = (1 : Int)) then l[i].2.1 else l[i].2.2.1)))) else l[i].1), ((bif decide (d = (1 : Int)) then (IntKind.wrap .i64 ((IntKind.wrap .i64 (i2f X Y Z d - 1)) - (bif decide (d = (0 : Int)) then l[i].1 else (bif decide (d = (1 : Int)) then l[i].2.1 else l[i].2.2.1)))) else l[i].2.1), ((bif decide (d = (2 : Int)) then (IntKind.wrap .i64 ((IntKind.wrap .i64 (i2f X Y Z d - 1)) - (bif decide (d = (0 : Int)) then l[i].1 else (bif decide (d = (1 : Int)) then l[i].2.1 else l[i].2.2.1)))) else l[i].2.2.1), ()))) : a0a) = i8q X Y Z d l[i] := ht
    rw [ht', g1]
    simp only [Option.bind_some]
    refine h2n hs d0 d1 hl hi (n - 1) (i + 1) m l' (by omega) (by omega) g2 (fun c => ?_) (by omega)
    rw [g3, hmem, List.take_add_one, List.getElem?_eq_getElem hlt, List.map_append, List.mem_append]
    simp only [Option.toList_some, List.map_cons, List.map_nil, List.mem_singleton]
    exact or_comm
  · rw [ltF hlt]
    refine ⟨out, rfl, hr, fun c => ?_⟩
    rw [hmem, List.take_of_length_le (by omega)]
theorem isDir (d : Int) : a8i (d, ()) = some (decide (0 ≤ d) && decide (d ≤ 2), ()) := by
 rw [f3l, c5a]
 rfl
end Go.VI
namespace Go.VI
open Go.Proofs
def a1s (c d : a0a) : a0a := (c.1 + d.1, c.2.1 + d.2.1, c.2.2.1 + d.2.2.1, ())
def negC (c : a0a) : a0a := (-c.1, -c.2.1, -c.2.2.1, ())
theorem j3h {c d v : a0a} : a1s c v = a1s d v ↔ c = d := by
 constructor
 · intro h
   simp only [a1s, Prod.mk.injEq, and_true] at h
   exact a5q (by omega) (by omega) (by omega)
 · rintro rfl; rfl
theorem b0u (c v : a0a) : a1s (a1s c v) (negC v) = c := a5q (by simp [a1s, negC]; omega) (by simp [a1s, negC]; omega) (by simp [a1s, negC]; omega)
theorem a4j (c v : a0a) : a1s (a1s c (negC v)) v = c := a5q (by simp [a1s, negC]; omega) (by simp [a1s, negC]; omega) (by simp [a1s, negC]; omega)
theorem h1w (a b c : a0a) : a1s (a1s a b) c = a1s a (a1s b c) := a5q (by simp [a1s]; omega) (by simp [a1s]; omega) (by simp [a1s]; omega)
theorem j7c (a b v : a0a) : ltC (a1s a v) (a1s b v) = ltC a b := by
 have : ltC (a1s a v) (a1s b v) = true ↔ ltC a b = true := by
  rw [ltC_iff, ltC_iff]; simp only [a1s]; omega
 cases h : ltC a b with
 | true => exact this.2 h
 | false =>
  cases h' : ltC (a1s a v) (a1s b v) with
  | true => rw [this.1 h'] at h; cases h
  | false => rfl
theorem h4v {l : List a0a} (h : Srt l) (v : a0a) : Srt (l.map fun c => a1s c v) := by
 unfold Srt at h ⊢
 rw [List.pairwise_map]
 exact h.imp fun {a b} hab => by rw [j7c]; exact hab
structure IsLow (l : List a0a) (p : a0a) : Prop where
 le : ∀ c ∈ l, p.1 ≤ c.1 ∧ p.2.1 ≤ c.2.1 ∧ p.2.2.1 ≤ c.2.2.1
 at0 : ∃ c ∈ l, c.1 = p.1
 at1 : ∃ c ∈ l, c.2.1 = p.2.1
 at2 : ∃ c ∈ l, c.2.2.1 = p.2.2.1
structure IsHigh (l : List a0a) (p : a0a) : Prop where
 le : ∀ c ∈ l, c.1 ≤ p.1 ∧ c.2.1 ≤ p.2.1 ∧ c.2.2.1 ≤ p.2.2.1
 at0 : ∃ c ∈ l, c.1 = p.1
 at1 : ∃ c ∈ l, c.2.1 = p.2.1
 at2 : ∃ c ∈ l, c.2.2.1 = p.2.2.1
theorem IsLow.uniq {l : List a0a} {p q : a0a} (h : IsLow l p) (k : IsLow l q) : p = q := by
 obtain ⟨a, a1, a2⟩ := h.at0; obtain ⟨b, b1, b2⟩ := h.at1; obtain ⟨c, c1, c2⟩ := h.at2
 obtain ⟨a', a1', a2'⟩ := k.at0; obtain ⟨b', b1', b2'⟩ := k.at1; obtain ⟨c', c1', c2'⟩ := k.at2
 have := h.le a' a1'; have := h.le b' b1'; have := h.le c' c1'
 have := k.le a a1; have := k.le b b1; have := k.le c c1
 exact a5q (by omega) (by omega) (by omega)
theorem IsHigh.uniq {l : List a0a} {p q : a0a} (h : IsHigh l p) (k : IsHigh l q) : p = q := by
 obtain ⟨a, a1, a2⟩ := h.at0; obtain ⟨b, b1, b2⟩ := h.at1; obtain ⟨c, c1, c2⟩ := h.at2
 obtain ⟨a', a1', a2'⟩ := k.at0; obtain ⟨b', b1', b2'⟩ := k.at1; obtain ⟨c', c1', c2'⟩ := k.at2
 have := h.le a' a1'; have := h.le b' b1'; have := h.le c' c1'
 have := k.le a a1; have := k.le b b1; have := k.le c c1
 exact a5q (by omega) (by omega) (by omega)
theorem IsLow.set {l l' : List a0a} (e : ∀ c, c ∈ l ↔ c ∈ l') {p : a0a} (h : IsLow l p) : IsLow l' p := by
 obtain ⟨a, a1, a2⟩ := h.at0; obtain ⟨b, b1, b2⟩ := h.at1; obtain ⟨c, c1, c2⟩ := h.at2
 exact ⟨fun c hc => h.le c ((e c).2 hc), ⟨a, (e a).1 a1, a2⟩, ⟨b, (e b).1 b1, b2⟩, ⟨c, (e c).1 c1, c2⟩⟩
theorem IsHigh.set {l l' : List a0a} (e : ∀ c, c ∈ l ↔ c ∈ l') {p : a0a} (h : IsHigh l p) : IsHigh l' p := by
 obtain ⟨a, a1, a2⟩ := h.at0; obtain ⟨b, b1, b2⟩ := h.at1; obtain ⟨c, c1, c2⟩ := h.at2
 exact ⟨fun c hc => h.le c ((e c).2 hc), ⟨a, (e a).1 a1, a2⟩, ⟨b, (e b).1 b1, b2⟩, ⟨c, (e c).1 c1, c2⟩⟩
theorem IsLow.add {l : List a0a} {p : a0a} (h : IsLow l p) (v : a0a) : IsLow (l.map fun c => a1s c v) (a1s p v) := by
 obtain ⟨a, a1, a2⟩ := h.at0; obtain ⟨b, b1, b2⟩ := h.at1; obtain ⟨c, c1, c2⟩ := h.at2
 refine ⟨fun d hd => ?_, ⟨_, List.mem_map_of_mem a1, by simp [a1s]; omega⟩, ⟨_, List.mem_map_of_mem b1, by simp [a1s]; omega⟩, ⟨_, List.mem_map_of_mem c1, by simp [a1s]; omega⟩⟩
 obtain ⟨x, hx, rfl⟩ := List.mem_map.1 hd
 have := h.le x hx
 simp only [a1s]; omega
theorem IsHigh.add {l : List a0a} {p : a0a} (h : IsHigh l p) (v : a0a) : IsHigh (l.map fun c => a1s c v) (a1s p v) := by
 obtain ⟨a, a1, a2⟩ := h.at0; obtain ⟨b, b1, b2⟩ := h.at1; obtain ⟨c, c1, c2⟩ := h.at2
 refine ⟨fun d hd => ?_, ⟨_, List.mem_map_of_mem a1, by simp [a1s]; omega⟩, ⟨_, List.mem_map_of_mem b1, by simp [a1s]; omega⟩, ⟨_, List.mem_map_of_mem c1, by simp [a1s]; omega⟩⟩
 obtain ⟨x, hx, rfl⟩ := List.mem_map.1 hd
 have := h.le x hx
 simp only [a1s]; omega
structure NrmIs (l : List a0a) (h : a0b) (lo hi : a0a) : Prop where
 low : IsLow l lo
 high : IsHigh l hi
 x : h.1 = hi.1 - lo.1 + 1
 y : h.2.1 = hi.2.1 - lo.2.1 + 1
 z : h.2.2.1 = hi.2.2.1 - lo.2.2.1 + 1
 srt : Srt h.2.2.2.1
 mem : ∀ c, c ∈ h.2.2.2.1 ↔ a1s c lo ∈ l
def Nrm (l : List a0a) (h : a0b) : Prop := ∃ lo hi, NrmIs l h lo hi
theorem i5r {g h : a0b} (h1 : g.1 = h.1) (h2 : g.2.1 = h.2.1) (h3 : g.2.2.1 = h.2.2.1) (h4 : g.2.2.2.1 = h.2.2.2.1) : g = h := by
 obtain ⟨a, b, c, d, ⟨⟩⟩ := g
 obtain ⟨a', b', c', d', ⟨⟩⟩ := h
 simp only at h1 h2 h3 h4
 subst h1; subst h2; subst h3; subst h4; rfl
theorem Nrm.uniq {l : List a0a} {g h : a0b} (a : Nrm l g) (b : Nrm l h) : g = h := by
 obtain ⟨lo, hi, a⟩ := a
 obtain ⟨lo', hi', b⟩ := b
 obtain rfl := a.low.uniq b.low
 obtain rfl := a.high.uniq b.high
 exact i5r (by rw [a.x, b.x]) (by rw [a.y, b.y]) (by rw [a.z, b.z]) (e4z _ _ a.srt b.srt fun c => by rw [a.mem, b.mem])
theorem Nrm.set {l l' : List a0a} (e : ∀ c, c ∈ l ↔ c ∈ l') {h : a0b} (a : Nrm l h) : Nrm l' h := by
 obtain ⟨lo, hi, a⟩ := a
 exact ⟨lo, hi, a.low.set e, a.high.set e, a.x, a.y, a.z, a.srt, fun c => by rw [a.mem, e]⟩
theorem Nrm.add {l : List a0a} {h : a0b} (a : Nrm l h) (v : a0a) : Nrm (l.map fun c => a1s c v) h := by
 obtain ⟨lo, hi, a⟩ := a
 refine ⟨a1s lo v, a1s hi v, a.low.add v, a.high.add v, by rw [a.x]; simp only [a1s]; omega, by rw [a.y]; simp only [a1s]; omega, by rw [a.z]; simp only [a1s]; omega, a.srt, fun c => ?_⟩
 rw [a.mem, List.mem_map]
 constructor
 · intro hc; exact ⟨_, hc, h1w ..⟩
 · rintro ⟨d, hd, e⟩
   rw [← h1w, j3h] at e
   rw [← e]; exact hd
theorem Nrm.moved {l : List a0a} {h : a0b} (a : Nrm l h) : ∃ v, ∀ c, c ∈ h.2.2.2.1 ↔ a1s c v ∈ l := by
 obtain ⟨lo, hi, a⟩ := a
 exact ⟨lo, a.mem⟩
end Go.VI
namespace Go.VI
open Go.Proofs
def mn (a b : Int) : Int := bif decide (b < a) then b else a
def mx (a b : Int) : Int := bif decide (b > a) then b else a
def mnC (p c : a0a) : a0a := (mn p.1 c.1, mn p.2.1 c.2.1, mn p.2.2.1 c.2.2.1, ())
def mxC (p c : a0a) : a0a := (mx p.1 c.1, mx p.2.1 c.2.1, mx p.2.2.1 c.2.2.1, ())
theorem j7t (a b : Int) : mn a b ≤ a ∧ mn a b ≤ b ∧ (mn a b = a ∨ mn a b = b) := by
 unfold mn
 by_cases h : b < a
 · rw [decide_eq_true h]; simp; omega
 · rw [decide_eq_false h]; simp; omega
theorem h6f (a b : Int) : a ≤ mx a b ∧ b ≤ mx a b ∧ (mx a b = a ∨ mx a b = b) := by
 unfold mx
 by_cases h : b > a
 · rw [decide_eq_true h]; simp; omega
 · rw [decide_eq_false h]; simp; omega
theorem f2j (c : a0a) : IsLow [c] c := ⟨fun d hd => by rw [List.mem_singleton.1 hd]; omega, ⟨c, by simp⟩, ⟨c, by simp⟩, ⟨c, by simp⟩⟩
theorem e5y (c : a0a) : IsHigh [c] c := ⟨fun d hd => by rw [List.mem_singleton.1 hd]; omega, ⟨c, by simp⟩, ⟨c, by simp⟩, ⟨c, by simp⟩⟩
theorem IsLow.snoc {l : List a0a} {p : a0a} (h : IsLow l p) (c : a0a) : IsLow (l ++ [c]) (mnC p c) := by
 have e0 := j7t p.1 c.1; have e1 := j7t p.2.1 c.2.1; have e2 := j7t p.2.2.1 c.2.2.1
 obtain ⟨a, a1, a2⟩ := h.at0; obtain ⟨b, b1, b2⟩ := h.at1; obtain ⟨d, d1, d2⟩ := h.at2
 refine ⟨fun x hx => ?_, ?_, ?_, ?_⟩
 · simp only [mnC]
   rcases List.mem_append.1 hx with hx | hx
   · have := h.le x hx; omega
   · rw [List.mem_singleton.1 hx]; omega
 · rcases e0.2.2 with e | e
   · exact ⟨a, List.mem_append_left _ a1, by simp only [mnC]; rw [a2, e]⟩
   · exact ⟨c, by simp, by simp only [mnC]; rw [e]⟩
 · rcases e1.2.2 with e | e
   · exact ⟨b, List.mem_append_left _ b1, by simp only [mnC]; rw [b2, e]⟩
   · exact ⟨c, by simp, by simp only [mnC]; rw [e]⟩
 · rcases e2.2.2 with e | e
   · exact ⟨d, List.mem_append_left _ d1, by simp only [mnC]; rw [d2, e]⟩
   · exact ⟨c, by simp, by simp only [mnC]; rw [e]⟩
theorem IsHigh.snoc {l : List a0a} {p : a0a} (h : IsHigh l p) (c : a0a) : IsHigh (l ++ [c]) (mxC p c) := by
 have e0 := h6f p.1 c.1; have e1 := h6f p.2.1 c.2.1; have e2 := h6f p.2.2.1 c.2.2.1
 obtain ⟨a, a1, a2⟩ := h.at0; obtain ⟨b, b1, b2⟩ := h.at1; obtain ⟨d, d1, d2⟩ := h.at2
 refine ⟨fun x hx => ?_, ?_, ?_, ?_⟩
 · simp only [mxC]
   rcases List.mem_append.1 hx with hx | hx
   · have := h.le x hx; omega
   · rw [List.mem_singleton.1 hx]; omega
 · rcases e0.2.2 with e | e
   · exact ⟨a, List.mem_append_left _ a1, by simp only [mxC]; rw [a2, e]⟩
   · exact ⟨c, by simp, by simp only [mxC]; rw [e]⟩
 · rcases e1.2.2 with e | e
   · exact ⟨b, List.mem_append_left _ b1, by simp only [mxC]; rw [b2, e]⟩
   · exact ⟨c, by simp, by simp only [mxC]; rw [e]⟩
 · rcases e2.2.2 with e | e
   · exact ⟨d, List.mem_append_left _ d1, by simp only [mxC]; rw [d2, e]⟩
   · exact ⟨c, by simp, by simp only [mxC]; rw [e]⟩
theorem h8r : N = (((N - 4) + 1) + 1 + 1) + 1 := by have := b6u; omega
theorem j7k (m : Nat) (p0 p1 p2 : Int) (p3 : List a0a) (p4 p5 p6 : Int) (p7 : List a0a) (lo hi c : a0a) (l : List a0a) (n k : Int) :
 a3k m N p0 p1 p2 p3 p4 p5 p6 p7 lo.1 lo.2.1 lo.2.2.1 hi.1 hi.2.1 hi.2.2.1 c.1 c.2.1 c.2.2.1 l n k 0 =
 a6w m p0 p1 p2 p3 p4 p5 p6 p7 (mnC lo c).1 (mnC lo c).2.1 (mnC lo c).2.2.1 (mxC hi c).1 (mxC hi c).2.1 (mxC hi c).2.2.1 l n (IntKind.wrap .i64 (k + 1)) := by
 rw [h8r, b3e]
 show a3k m (N - 4 + 1 + 1 + 1) p0 p1 p2 p3 p4 p5 p6 p7 (mn lo.1 c.1) lo.2.1 lo.2.2.1 (mx hi.1 c.1) hi.2.1 hi.2.2.1 c.1 c.2.1 c.2.2.1 l n k 1 = _
 rw [b3e]
 show a3k m (N - 4 + 1 + 1) p0 p1 p2 p3 p4 p5 p6 p7 (mn lo.1 c.1) (mn lo.2.1 c.2.1) lo.2.2.1 (mx hi.1 c.1) (mx hi.2.1 c.2.1) hi.2.2.1 c.1 c.2.1 c.2.2.1 l n k 2 = _
 rw [b3e]
 show a3k m (N - 4 + 1) p0 p1 p2 p3 p4 p5 p6 p7 (mn lo.1 c.1) (mn lo.2.1 c.2.1) (mn lo.2.2.1 c.2.2.1) (mx hi.1 c.1) (mx hi.2.1 c.2.1) (mx hi.2.2.1 c.2.2.1) c.1 c.2.1 c.2.2.1 l n k 3 = _
 rw [b3e]
 rfl
theorem k0a (m : Nat) (p0 p1 p2 : Int) (p3 : List a0a) (lo hi c : a0a) (l0 l : List a0a) (n k : Int) :
 a5a m N p0 p1 p2 p3 lo.1 lo.2.1 lo.2.2.1 hi.1 hi.2.1 hi.2.2.1 c.1 c.2.1 c.2.2.1 l0 l n k 0 =
 a7c m p0 p1 p2 p3 (mnC lo c).1 (mnC lo c).2.1 (mnC lo c).2.2.1 (mxC hi c).1 (mxC hi c).2.1 (mxC hi c).2.2.1 l0 l n (IntKind.wrap .i64 (k + 1)) := by
 rw [h8r, b6z]
 show a5a m (N - 4 + 1 + 1 + 1) p0 p1 p2 p3 (mn lo.1 c.1) lo.2.1 lo.2.2.1 (mx hi.1 c.1) hi.2.1 hi.2.2.1 c.1 c.2.1 c.2.2.1 l0 l n k 1 = _
 rw [b6z]
 show a5a m (N - 4 + 1 + 1) p0 p1 p2 p3 (mn lo.1 c.1) (mn lo.2.1 c.2.1) lo.2.2.1 (mx hi.1 c.1) (mx hi.2.1 c.2.1) hi.2.2.1 c.1 c.2.1 c.2.2.1 l0 l n k 2 = _
 rw [b6z]
 show a5a m (N - 4 + 1) p0 p1 p2 p3 (mn lo.1 c.1) (mn lo.2.1 c.2.1) (mn lo.2.2.1 c.2.2.1) (mx hi.1 c.1) (mx hi.2.1 c.2.1) (mx hi.2.2.1 c.2.2.1) c.1 c.2.1 c.2.2.1 l0 l n k 3 = _
 rw [b6z]
 rfl
end Go.VI
namespace Go.VI
open Go.Proofs
def Close (l : List a0a) : Prop := ∀ c ∈ l, ∀ d ∈ l, c.1 - d.1 ≤ 3 ∧ c.2.1 - d.2.1 ≤ 3 ∧ c.2.2.1 - d.2.2.1 ≤ 3
theorem Close.set {l l' : List a0a} (e : ∀ c, c ∈ l ↔ c ∈ l') (h : Close l) : Close l' := fun c hc d hd => h c ((e c).2 hc) d ((e d).2 hd)
theorem Close.add {l : List a0a} (h : Close l) (v : a0a) : Close (l.map fun c => a1s c v) := fun c hc d hd => by
 obtain ⟨a, ha, rfl⟩ := List.mem_map.1 hc
 obtain ⟨b, hb, rfl⟩ := List.mem_map.1 hd
 have := h a ha b hb
 simp only [a1s]; omega
theorem a7k {X Y Z : Int} {l : List a0a} (hs : sides X Y Z = true) (hi : Ins X Y Z l) : Close l := fun c hc d hd => by
 have := sides_iff.1 hs
 have := within3_iff.1 (hi c hc)
 have := within3_iff.1 (hi d hd)
 omega
theorem NrmIs.ok {l : List a0a} {h : a0b} {lo hi : a0a} (a : NrmIs l h lo hi) (hc : Close l) : sides h.1 h.2.1 h.2.2.1 = true ∧ Ins h.1 h.2.1 h.2.2.1 h.2.2.2.1 := by
 obtain ⟨p, p1, p2⟩ := a.low.at0; obtain ⟨q, q1, q2⟩ := a.low.at1; obtain ⟨r, r1, r2⟩ := a.low.at2
 obtain ⟨p', p1', p2'⟩ := a.high.at0; obtain ⟨q', q1', q2'⟩ := a.high.at1; obtain ⟨r', r1', r2'⟩ := a.high.at2
 have := hc p' p1' p p1; have := hc q' q1' q q1; have := hc r' r1' r r1
 have := a.low.le p' p1'; have := a.low.le q' q1'; have := a.low.le r' r1'
 refine ⟨sides_iff.2 ⟨by rw [a.x]; omega, by rw [a.y]; omega, by rw [a.z]; omega⟩, fun c hc' => ?_⟩
 have hm := (a.mem c).1 hc'
 have h1 := a.low.le _ hm
 have h2 := a.high.le _ hm
 simp only [a1s] at h1 h2
 rw [within3_iff, a.x, a.y, a.z]
 omega
theorem h6u {l : List a0a} {k : Nat} (h : k < l.length) {c0 lo : a0a} (a : IsLow (c0 :: l.take k) lo) : IsLow (c0 :: l.take (k + 1)) (mnC lo l[k]) := by
 have := a.snoc l[k]
 rw [List.take_succ_eq_append_getElem h]
 exact this
theorem g3v {l : List a0a} {k : Nat} (h : k < l.length) {c0 lo : a0a} (a : IsHigh (c0 :: l.take k) lo) : IsHigh (c0 :: l.take (k + 1)) (mxC lo l[k]) := by
 have := a.snoc l[k]
 rw [List.take_succ_eq_append_getElem h]
 exact this
theorem g3s {X Y Z : Int} (hs : sides X Y Z = true) {l : List a0a} (hi : Ins X Y Z l) (c : a0a) : c ∈ a3x X Y Z (mask Y Z l 0) ↔ c ∈ l := by
 rw [c5p hs]
 constructor
 · rintro ⟨h1, h2⟩
   have := (d4e hs hi).2 c h1
   rw [h2] at this
   exact of_decide_eq_true this.symm
 · intro h
   have h1 := hi c h
   exact ⟨h1, ((d4e hs hi).2 c h1).trans (decide_eq_true h)⟩
noncomputable def h5n (X Y Z : Int) (l : List a0a) (lo hi : a0a) : Option (a0b × Bool × Unit) :=
 Option.bind (a1w ((hi.1, (hi.2.1, (hi.2.2.1, ()))), ((IntKind.wrap .i64 (0 - lo.1)), ((IntKind.wrap .i64 (0 - lo.2.1)), ((IntKind.wrap .i64 (0 - lo.2.2.1)), ()))), ())) fun r1 =>
  Option.bind (a1w (r1.1, (1, (1, (1, ()))), ())) fun r2 =>
  Option.bind (a6u ((X, (Y, (Z, (l, ())))), r2.1, (fun (y : a0a × Unit) => a9c (y.1, ((IntKind.wrap .i64 (0 - lo.1)), ((IntKind.wrap .i64 (0 - lo.2.1)), ((IntKind.wrap .i64 (0 - lo.2.2.1)), ()))), ())), ())) fun r3 =>
  some (r3.1, true, ())
theorem j2f {X Y Z : Int} {l : List a0a} (hl : Small l) (c0 : a0a) : ∀ (d k m : Nat) (lo hi : a0a), l.length = k + d → d < m → IsLow (c0 :: l.take k) lo → IsHigh (c0 :: l.take k) hi →
 ∃ lo' hi', IsLow (c0 :: l) lo' ∧ IsHigh (c0 :: l) hi' ∧ a6w m X Y Z l 0 0 0 [] lo.1 lo.2.1 lo.2.2.1 hi.1 hi.2.1 hi.2.2.1 l (l.length : Int) (k : Int) = h5n X Y Z l lo' hi'
 | d, k, 0, lo, hi, _, h, _, _ => by omega
 | d, k, m + 1, lo, hi, hk, hm, a, b => by
  have hl' := hl
  unfold Small at hl'
  rw [f8l]
  by_cases hlt : k < l.length
  · rw [ltT hlt, a1j hlt]
    simp only [cond_true]
    rw [b9l (t := a0e) hlt, j7k, a5v k (by omega)]
    exact j2f hl c0 (d - 1) (k + 1) m _ _ (by omega) (by omega) (h6u hlt a) (g3v hlt b)
  · rw [ltF hlt]
    have e : l.take k = l := List.take_of_length_le (by omega)
    rw [e] at a b
    exact ⟨lo, hi, a, b, rfl⟩
theorem f1w {x : Int} (h0 : -1000000 ≤ x) (h1 : x ≤ 1000000) : IntKind.wrap .i64 (0 - x) = -x := by rw [w64 (by omega) (by omega)]; omega
theorem j7m {c d : a0a} (h : ∀ x y : Int, (x, y) ∈ [(c.1, d.1), (c.2.1, d.2.1), (c.2.2.1, d.2.2.1)] → -1000000 ≤ x ∧ x ≤ 1000000 ∧ -1000000 ≤ y ∧ y ≤ 1000000) : a1w (c, d, ()) = some (a1s c d, ()) := by
 have h0 := h c.1 d.1 (by simp)
 have h1 := h c.2.1 d.2.1 (by simp)
 have h2 := h c.2.2.1 d.2.2.1 (by simp)
 rw [e3z]
 simp only [a1s]
 rw [w64 (by omega) (by omega), w64 (by omega) (by omega), w64 (by omega) (by omega)]
def c7v (c : a0a) : Prop := -1000000 ≤ c.1 ∧ c.1 ≤ 1000000 ∧ -1000000 ≤ c.2.1 ∧ c.2.1 ≤ 1000000 ∧ -1000000 ≤ c.2.2.1 ∧ c.2.2.1 ≤ 1000000
theorem f_add {c d : a0a} (h : c7v c) (k : c7v d) : a1w (c, d, ()) = some (a1s c d, ()) := by
 unfold c7v at h k
 refine j7m fun x y hxy => ?_
 simp only [List.mem_cons, Prod.mk.injEq, List.not_mem_nil, or_false] at hxy
 rcases hxy with ⟨rfl, rfl⟩ | ⟨rfl, rfl⟩ | ⟨rfl, rfl⟩ <;> omega
theorem i3p {X Y Z : Int} {l : List a0a} (hl : Small l) (hc : Close l) {lo hi : a0a} (a : IsLow l lo) (b : IsHigh l hi) (t : ∀ c ∈ l, -500000 ≤ c.1 ∧ c.1 ≤ 500000 ∧ -500000 ≤ c.2.1 ∧ c.2.1 ≤ 500000 ∧ -500000 ≤ c.2.2.1 ∧ c.2.2.1 ≤ 500000) :
 ∃ h, h5n X Y Z l lo hi = some (h, true, ()) ∧ NrmIs l h lo hi := by
 obtain ⟨p, p1, p2⟩ := a.at0; obtain ⟨q, q1, q2⟩ := a.at1; obtain ⟨r, r1, r2⟩ := a.at2
 obtain ⟨p', p1', p2'⟩ := b.at0; obtain ⟨q', q1', q2'⟩ := b.at1; obtain ⟨r', r1', r2'⟩ := b.at2
 have t1 := t p p1; have t2 := t q q1; have t3 := t r r1; have t4 := t p' p1'; have t5 := t q' q1'; have t6 := t r' r1'
 have c1 := hc p' p1' p p1; have c2 := hc q' q1' q q1; have c3 := hc r' r1' r r1
 have l1 := a.le p' p1'; have l2 := a.le q' q1'; have l3 := a.le r' r1'
 have hlo : c7v (-lo.1, -lo.2.1, -lo.2.2.1, ()) := by unfold c7v; simp only; omega
 have hS : sides (hi.1 + -lo.1 + 1) (hi.2.1 + -lo.2.1 + 1) (hi.2.2.1 + -lo.2.2.1 + 1) = true := sides_iff.2 ⟨by omega, by omega, by omega⟩
 have hw : ∀ c ∈ l, a0k (hi.1 + -lo.1 + 1) (hi.2.1 + -lo.2.1 + 1) (hi.2.2.1 + -lo.2.2.1 + 1) (a1s c (-lo.1, -lo.2.1, -lo.2.2.1, ())) = true := fun c hc => by
  have := a.le c hc
  have := b.le c hc
  rw [within3_iff]; simp only [a1s]; omega
 unfold h5n
 rw [f1w (by omega) (by omega), f1w (by omega) (by omega), f1w (by omega) (by omega)]
 rw [f_add (c := (hi.1, hi.2.1, hi.2.2.1, ())) (by unfold c7v; simp only; omega) hlo]
 simp only [Option.bind_some, a1s]
 rw [f_add (by unfold c7v; simp only; omega) (by unfold c7v; simp only; omega)]
 simp only [Option.bind_some, a1s]
 rw [i2p hS hl (g := fun c => a1s c (-lo.1, -lo.2.1, -lo.2.2.1, ())) fun c hc => ⟨by
  have := t c hc
  simp only
  rw [f7u, f_add (by unfold c7v; omega) hlo]; rfl, hw c hc⟩]
 simp only [Option.bind_some]
 refine ⟨_, rfl, a, b, ?_, ?_, ?_, b6g hS _, fun c => ?_⟩
 · simp only; omega
 · simp only; omega
 · simp only; omega
 · have hi' : Ins (hi.1 + -lo.1 + 1) (hi.2.1 + -lo.2.1 + 1) (hi.2.2.1 + -lo.2.2.1 + 1) (l.map fun c => a1s c (-lo.1, -lo.2.1, -lo.2.2.1, ())) := fun x hx => by
    obtain ⟨c, hc, rfl⟩ := List.mem_map.1 hx
    exact hw c hc
   simp only
   rw [g3s hS hi' c, List.mem_map]
   constructor
   · rintro ⟨d, hd, rfl⟩
     have e : a1s (a1s d (-lo.1, -lo.2.1, -lo.2.2.1, ())) lo = d := a4j d lo
     rw [e]; exact hd
   · intro hc
     have e : a1s (a1s c lo) (-lo.1, -lo.2.1, -lo.2.2.1, ()) = c := b0u c lo
     exact ⟨_, hc, e⟩
theorem e6m {l : List a0a} {c0 : a0a} (h : c0 ∈ l) (c : a0a) : c ∈ c0 :: l ↔ c ∈ l := by
 rw [List.mem_cons]
 exact ⟨fun h' => h'.elim (fun e => e ▸ h) id, .inr⟩
theorem j0s {X Y Z : Int} {l : List a0a} (hl : Small l) (ho : e3m (X, Y, Z, l, ()) = true) (hs : sides X Y Z = true) (hi : Ins X Y Z l) (hne : l ≠ []) :
 ∃ h, a2j ((X, Y, Z, l, ()), ()) = some (h, true, ()) ∧ Nrm l h := by
 have hpos : 0 < l.length := List.length_pos_iff.2 hne
 rw [g4t, b7w _ hl, ho]
 simp only [Option.bind_some, Bool.not_true, cond_false]
 rw [decide_eq_false (p := (l.length : Int) = 0) (by omega), show inB (0 : Int) l.length = true from a1j (k := 0) hpos]
 simp only [cond_false, cond_true]
 rw [show nth a0e l 0 = l[0] from b9l (t := a0e) (k := 0) hpos]
 obtain ⟨lo, hh, a, b, e⟩ := j2f (X := X) (Y := Y) (Z := Z) hl l[0] l.length 0 N l[0] l[0] (by omega) (by unfold Small at hl; have := b6u; omega) (by simpa using f2j _) (by simpa using e5y _)
 have e' := e
 rw [show ((0 : Nat) : Int) = 0 from rfl] at e'
 rw [e']
 have hm : l[0] ∈ l := List.getElem_mem _
 obtain ⟨h, h1, h2⟩ := i3p (X := X) (Y := Y) (Z := Z) hl (a7k hs hi) (a.set (e6m hm)) (b.set (e6m hm)) fun c hc => by
  have := sides_iff.1 hs
  have := within3_iff.1 (hi c hc)
  omega
 exact ⟨h, h1, _, _, h2⟩
end Go.VI
namespace Go.VI
open Go.Proofs
theorem j0g {S1 S2 S3 : Int} (hS : sides S1 S2 S3 = true) {l : List a0a} (hl : Small l) {v : a0a} (tv : c7v v) (tl : ∀ c ∈ l, c7v c) (hF : ∀ c ∈ l, a0k S1 S2 S3 (a1s c v) = true) : ∀ (d i m : Nat) (w : BitVec 64), l.length = i + d → d < m →
 a5u m 0 0 0 [] v.1 v.2.1 v.2.2.1 S1 S2 S3 (w.toNat : Int) l (l.length : Int) (i : Int) = some ((S1, S2, S3, a3x S1 S2 S3 (mask S2 S3 ((l.drop i).map fun c => a1s c v) w), ()), ())
 | d, i, 0, w, _, h => by omega
 | d, i, m + 1, w, hk, hm => by
  have hl' := hl
  unfold Small at hl'
  rw [g3a]
  by_cases hlt : i < l.length
  · have h2 := hF l[i] (List.getElem_mem hlt)
    rw [ltT hlt, a1j hlt, b9l (t := a0e) hlt, drop_at l i hlt, a5v i (by omega)]
    simp only [cond_true]
    rw [show ((v.1, (v.2.1, (v.2.2.1, ()))) : a0a) = v from rfl, f_add (tl _ (List.getElem_mem hlt)) tv]
    simp only [Option.bind_some]
    rw [d7e hS h2]
    simp only [Option.bind_some]
    rw [decide_eq_true (p := (0 : Int) ≤ (idx S2 S3 (a1s l[i] v) : Int)) (by omega), j3z, k0e]
    simp only [cond_true]
    rw [j0g hS hl tv tl hF (d - 1) (i + 1) m _ (by omega) (by omega)]
    rfl
  · rw [ltF hlt, List.drop_eq_nil_of_le (by omega)]
    simp only [cond_false]
    rw [h1j hS]
    rfl
noncomputable def h7a (l : List a0a) (lo hi : a0a) : Option (a0b × Unit) :=
 Option.bind (a1w ((hi.1, (hi.2.1, (hi.2.2.1, ()))), ((IntKind.wrap .i64 (0 - lo.1)), ((IntKind.wrap .i64 (0 - lo.2.1)), ((IntKind.wrap .i64 (0 - lo.2.2.1)), ()))), ())) fun r1 =>
  Option.bind (a1w (r1.1, (1, (1, (1, ()))), ())) fun r2 =>
  a5u N 0 0 0 [] (IntKind.wrap .i64 (0 - lo.1)) (IntKind.wrap .i64 (0 - lo.2.1)) (IntKind.wrap .i64 (0 - lo.2.2.1)) r2.1.1 r2.1.2.1 r2.1.2.2.1 0 l (List.length l : Int) 0
theorem j5a {l : List a0a} (hl : Small l) (c0 : a0a) : ∀ (d k m : Nat) (lo hi : a0a), l.length = k + d → d < m → IsLow (c0 :: l.take k) lo → IsHigh (c0 :: l.take k) hi →
 ∃ lo' hi', IsLow (c0 :: l) lo' ∧ IsHigh (c0 :: l) hi' ∧ a7c m 0 0 0 [] lo.1 lo.2.1 lo.2.2.1 hi.1 hi.2.1 hi.2.2.1 l l (l.length : Int) (k : Int) = h7a l lo' hi'
 | d, k, 0, lo, hi, _, h, _, _ => by omega
 | d, k, m + 1, lo, hi, hk, hm, a, b => by
  have hl' := hl
  unfold Small at hl'
  rw [g6k]
  by_cases hlt : k < l.length
  · rw [ltT hlt, a1j hlt]
    simp only [cond_true]
    rw [b9l (t := a0e) hlt, k0a, a5v k (by omega)]
    exact j5a hl c0 (d - 1) (k + 1) m _ _ (by omega) (by omega) (h6u hlt a) (g3v hlt b)
  · rw [ltF hlt]
    have e : l.take k = l := List.take_of_length_le (by omega)
    rw [e] at a b
    exact ⟨lo, hi, a, b, rfl⟩
theorem i8i {l : List a0a} (hl : Small l) (hc : Close l) {lo hi : a0a} (a : IsLow l lo) (b : IsHigh l hi) (t : ∀ c ∈ l, -500000 ≤ c.1 ∧ c.1 ≤ 500000 ∧ -500000 ≤ c.2.1 ∧ c.2.1 ≤ 500000 ∧ -500000 ≤ c.2.2.1 ∧ c.2.2.1 ≤ 500000) :
 ∃ h, h7a l lo hi = some (h, ()) ∧ NrmIs l h lo hi := by
 obtain ⟨p, p1, p2⟩ := a.at0; obtain ⟨q, q1, q2⟩ := a.at1; obtain ⟨r, r1, r2⟩ := a.at2
 obtain ⟨p', p1', p2'⟩ := b.at0; obtain ⟨q', q1', q2'⟩ := b.at1; obtain ⟨r', r1', r2'⟩ := b.at2
 have t1 := t p p1; have t2 := t q q1; have t3 := t r r1; have t4 := t p' p1'; have t5 := t q' q1'; have t6 := t r' r1'
 have c1 := hc p' p1' p p1; have c2 := hc q' q1' q q1; have c3 := hc r' r1' r r1
 have l1 := a.le p' p1'; have l2 := a.le q' q1'; have l3 := a.le r' r1'
 have hlo : c7v (-lo.1, -lo.2.1, -lo.2.2.1, ()) := by unfold c7v; simp only; omega
 have hS : sides (hi.1 + -lo.1 + 1) (hi.2.1 + -lo.2.1 + 1) (hi.2.2.1 + -lo.2.2.1 + 1) = true := sides_iff.2 ⟨by omega, by omega, by omega⟩
 have hw : ∀ c ∈ l, a0k (hi.1 + -lo.1 + 1) (hi.2.1 + -lo.2.1 + 1) (hi.2.2.1 + -lo.2.2.1 + 1) (a1s c (-lo.1, -lo.2.1, -lo.2.2.1, ())) = true := fun c hc => by
  have := a.le c hc
  have := b.le c hc
  rw [within3_iff]; simp only [a1s]; omega
 unfold h7a
 rw [f1w (by omega) (by omega), f1w (by omega) (by omega), f1w (by omega) (by omega)]
 rw [f_add (c := (hi.1, hi.2.1, hi.2.2.1, ())) (by unfold c7v; simp only; omega) hlo]
 simp only [Option.bind_some, a1s]
 rw [f_add (by unfold c7v; simp only; omega) (by unfold c7v; simp only; omega)]
 simp only [Option.bind_some, a1s]
 have h14 := j0g hS hl hlo (fun c hc => by have := t c hc; unfold c7v; omega) hw l.length 0 N 0 (by simp) (by unfold Small at hl; have := b6u; omega)
 have h14' : a5u N 0 0 0 [] (-lo.1) (-lo.2.1) (-lo.2.2.1) (hi.1 + -lo.1 + 1) (hi.2.1 + -lo.2.1 + 1) (hi.2.2.1 + -lo.2.2.1 + 1) 0 l (List.length l : Int) 0 = _ := h14
 rw [h14']
 refine ⟨_, rfl, a, b, ?_, ?_, ?_, b6g hS _, fun c => ?_⟩
 · simp only; omega
 · simp only; omega
 · simp only; omega
 · have hi' : Ins (hi.1 + -lo.1 + 1) (hi.2.1 + -lo.2.1 + 1) (hi.2.2.1 + -lo.2.2.1 + 1) (l.map fun c => a1s c (-lo.1, -lo.2.1, -lo.2.2.1, ())) := fun x hx => by
    obtain ⟨c, hc, rfl⟩ := List.mem_map.1 hx
    exact hw c hc
   simp only [List.drop_zero]
   rw [g3s hS hi' c, List.mem_map]
   constructor
   · rintro ⟨d, hd, rfl⟩
     have e : a1s (a1s d (-lo.1, -lo.2.1, -lo.2.2.1, ())) lo = d := a4j d lo
     rw [e]; exact hd
   · intro hc
     have e : a1s (a1s c lo) (-lo.1, -lo.2.1, -lo.2.2.1, ()) = c := b0u c lo
     exact ⟨_, hc, e⟩
def i7c (l : List a0a) : Prop := ∀ c ∈ l, -500000 ≤ c.1 ∧ c.1 ≤ 500000 ∧ -500000 ≤ c.2.1 ∧ c.2.1 ≤ 500000 ∧ -500000 ≤ c.2.2.1 ∧ c.2.2.1 ≤ 500000
theorem i6v {l : List a0a} (hl : Small l) (hc : Close l) (t : i7c l) (hne : l ≠ []) : ∃ h, a2l (l, ()) = some (h, ()) ∧ Nrm l h := by
 have hpos : 0 < l.length := List.length_pos_iff.2 hne
 rw [h3u, show inB (0 : Int) l.length = true from a1j (k := 0) hpos]
 simp only [cond_true]
 rw [show nth a0e l 0 = l[0] from b9l (t := a0e) (k := 0) hpos]
 obtain ⟨lo, hh, a, b, e⟩ := j5a hl l[0] l.length 0 N l[0] l[0] (by omega) (by unfold Small at hl; have := b6u; omega) (by simpa using f2j _) (by simpa using e5y _)
 have e' : a7c N 0 0 0 [] (l[0]).1 (l[0]).2.1 (l[0]).2.2.1 (l[0]).1 (l[0]).2.1 (l[0]).2.2.1 l l (l.length : Int) 0 = h7a l lo hh := e
 rw [e']
 have hm : l[0] ∈ l := List.getElem_mem _
 obtain ⟨h, h1, h2⟩ := i8i hl hc (a.set (e6m hm)) (b.set (e6m hm)) t
 exact ⟨h, h1, _, _, h2⟩
def tl (t : a0c) (c : a0a) : a0a := ((bif decide (t.2.1.1 = 1) then -a8y c t.1.1 else a8y c t.1.1), (bif decide (t.2.1.2.1 = 1) then -a8y c t.1.2.1 else a8y c t.1.2.1), (bif decide (t.2.1.2.2.1 = 1) then -a8y c t.1.2.2.1 else a8y c t.1.2.2.1), ())
def tv (t : a0c) (S : a0a) : a0a := ((bif decide (t.2.1.1 = 1) then S.1 - 1 else 0), (bif decide (t.2.1.2.1 = 1) then S.2.1 - 1 else 0), (bif decide (t.2.1.2.2.1 = 1) then S.2.2.1 - 1 else 0), ())
def OkT (t : a0c) : Prop := (t.1.1 = 0 ∨ t.1.1 = 1 ∨ t.1.1 = 2) ∧ (t.1.2.1 = 0 ∨ t.1.2.1 = 1 ∨ t.1.2.1 = 2) ∧ (t.1.2.2.1 = 0 ∨ t.1.2.2.1 = 1 ∨ t.1.2.2.1 = 2)
theorem h6o (c d : a0a) (i : Int) : a8y (a1s c d) i = a8y c i + a8y d i := by
 unfold a8y a1s
 cases decide (i = 0) <;> cases decide (i = 1) <;> rfl
theorem j5e (t : a0c) (c d : a0a) : tl t (a1s c d) = a1s (tl t c) (tl t d) := by
 unfold tl
 rw [h6o, h6o, h6o]
 unfold a1s
 refine a5q ?_ ?_ ?_
 · simp only; cases decide (t.2.1.1 = 1) <;> simp <;> omega
 · simp only; cases decide (t.2.1.2.1 = 1) <;> simp <;> omega
 · simp only; cases decide (t.2.1.2.2.1 = 1) <;> simp <;> omega
end Go.VI
namespace Go.VI
open Go.Proofs
theorem j2n {x : Int} (h : x = 0 ∨ x = 1 ∨ x = 2) : inB x 3 = true := by
 rcases h with rfl | rfl | rfl <;> rfl
def i0a (c : a0a) (f s x : Int) : Int := bif decide (s = 1) then (IntKind.wrap .i64 ((IntKind.wrap .i64 (x - 1)) - a8y c f)) else a8y c f
theorem i9a (m : Nat) (c : a0a) (p3 p4 p5 x y z : Int) (t : a0c) (S : a0a) (f0 f1 f2 : Int) (h : inB f0 3 = true) :
 a1z (m + 1) c.1 c.2.1 c.2.2.1 p3 p4 p5 x y z t S f0 f1 f2 0 = a1z m c.1 c.2.1 c.2.2.1 p3 p4 p5 (i0a c f0 t.2.1.1 S.1) y z t S f0 f1 f2 1 := by
 rw [b5l]
 have e : ∀ b : Bool, (bif decide ((0 : Int) = 0) then inB f0 3 else b) = true := fun b => h
 unfold i0a
 cases hs : decide (t.2.1.1 = 1) with
 | true =>
  have hs' : decide ((bif decide ((0 : Int) = 0) then t.2.1.1 else (bif decide ((0 : Int) = 1) then t.2.1.2.1 else t.2.1.2.2.1)) = 1) = true := hs
  show (bif inB f0 3 then bif decide ((bif decide ((0 : Int) = 0) then t.2.1.1 else (bif decide ((0 : Int) = 1) then t.2.1.2.1 else t.2.1.2.2.1)) = 1) then (bif inB f0 3 then _ else _) else _ else _) = _
  rw [h, hs']
  rfl
 | false =>
  have hs' : decide ((bif decide ((0 : Int) = 0) then t.2.1.1 else (bif decide ((0 : Int) = 1) then t.2.1.2.1 else t.2.1.2.2.1)) = 1) = false := hs
  show (bif inB f0 3 then bif decide ((bif decide ((0 : Int) = 0) then t.2.1.1 else (bif decide ((0 : Int) = 1) then t.2.1.2.1 else t.2.1.2.2.1)) = 1) then _ else _ else _) = _
  rw [h, hs']
  rfl
theorem i7n (m : Nat) (c : a0a) (p3 p4 p5 x y z : Int) (t : a0c) (S : a0a) (f0 f1 f2 : Int) (h : inB f1 3 = true) :
 a1z (m + 1) c.1 c.2.1 c.2.2.1 p3 p4 p5 x y z t S f0 f1 f2 1 = a1z m c.1 c.2.1 c.2.2.1 p3 p4 p5 x (i0a c f1 t.2.1.2.1 S.2.1) z t S f0 f1 f2 2 := by
 rw [b5l]
 unfold i0a
 cases hs : decide (t.2.1.2.1 = 1) with
 | true =>
  have hs' : decide ((bif decide ((1 : Int) = 0) then t.2.1.1 else (bif decide ((1 : Int) = 1) then t.2.1.2.1 else t.2.1.2.2.1)) = 1) = true := hs
  show (bif inB f1 3 then bif decide ((bif decide ((1 : Int) = 0) then t.2.1.1 else (bif decide ((1 : Int) = 1) then t.2.1.2.1 else t.2.1.2.2.1)) = 1) then (bif inB f1 3 then _ else _) else _ else _) = _
  rw [h, hs']
  rfl
 | false =>
  have hs' : decide ((bif decide ((1 : Int) = 0) then t.2.1.1 else (bif decide ((1 : Int) = 1) then t.2.1.2.1 else t.2.1.2.2.1)) = 1) = false := hs
  show (bif inB f1 3 then bif decide ((bif decide ((1 : Int) = 0) then t.2.1.1 else (bif decide ((1 : Int) = 1) then t.2.1.2.1 else t.2.1.2.2.1)) = 1) then _ else _ else _) = _
  rw [h, hs']
  rfl
theorem i7z (m : Nat) (c : a0a) (p3 p4 p5 x y z : Int) (t : a0c) (S : a0a) (f0 f1 f2 : Int) (h : inB f2 3 = true) :
 a1z (m + 1) c.1 c.2.1 c.2.2.1 p3 p4 p5 x y z t S f0 f1 f2 2 = a1z m c.1 c.2.1 c.2.2.1 p3 p4 p5 x y (i0a c f2 t.2.1.2.2.1 S.2.2.1) t S f0 f1 f2 3 := by
 rw [b5l]
 unfold i0a
 cases hs : decide (t.2.1.2.2.1 = 1) with
 | true =>
  have hs' : decide ((bif decide ((2 : Int) = 0) then t.2.1.1 else (bif decide ((2 : Int) = 1) then t.2.1.2.1 else t.2.1.2.2.1)) = 1) = true := hs
  show (bif inB f2 3 then bif decide ((bif decide ((2 : Int) = 0) then t.2.1.1 else (bif decide ((2 : Int) = 1) then t.2.1.2.1 else t.2.1.2.2.1)) = 1) then (bif inB f2 3 then _ else _) else _ else _) = _
  rw [h, hs']
  rfl
 | false =>
  have hs' : decide ((bif decide ((2 : Int) = 0) then t.2.1.1 else (bif decide ((2 : Int) = 1) then t.2.1.2.1 else t.2.1.2.2.1)) = 1) = false := hs
  show (bif inB f2 3 then bif decide ((bif decide ((2 : Int) = 0) then t.2.1.1 else (bif decide ((2 : Int) = 1) then t.2.1.2.1 else t.2.1.2.2.1)) = 1) then _ else _ else _) = _
  rw [h, hs']
  rfl
theorem f7a {c : a0a} {f s x : Int} (hc : -1000 ≤ a8y c f ∧ a8y c f ≤ 1000) (hx : -1000 ≤ x ∧ x ≤ 1000) : i0a c f s x = (bif decide (s = 1) then -a8y c f else a8y c f) + (bif decide (s = 1) then x - 1 else 0) := by
 unfold i0a
 cases decide (s = 1) with
 | true =>
  simp only [cond_true]
  rw [w64 (x := x - 1) (by omega) (by omega), w64 (by omega) (by omega)]
  omega
 | false => simp
theorem j8e {c : a0a} {t : a0c} {S : a0a} (ht : OkT t) (hc : e6t c) (hS : e6t S) : a8v (c, t, S, ()) = some (a1s (tl t c) (tv t S), ()) := by
 have hg : ∀ f, -1000 ≤ a8y c f ∧ a8y c f ≤ 1000 := fun f => by
  unfold e6t at hc
  unfold a8y
  cases decide (f = 0) <;> cases decide (f = 1) <;> simp <;> omega
 unfold e6t at hS
 rw [h0n, h8r, i9a _ _ _ _ _ _ _ _ _ _ _ _ _ (j2n ht.1), i7n _ _ _ _ _ _ _ _ _ _ _ _ _ (j2n ht.2.1), i7z _ _ _ _ _ _ _ _ _ _ _ _ _ (j2n ht.2.2), b5l]
 show some ((i0a c t.1.1 t.2.1.1 S.1, i0a c t.1.2.1 t.2.1.2.1 S.2.1, i0a c t.1.2.2.1 t.2.1.2.2.1 S.2.2.1, ()), ()) = _
 rw [f7a (hg _) (by omega), f7a (hg _) (by omega), f7a (hg _) (by omega)]
 rfl
end Go.VI
namespace Go.VI
open Go.Proofs
theorem j1r (X Y Z f : Int) : (bif decide (f = (0 : Int)) then X else (bif decide (f = (1 : Int)) then Y else Z)) = a8y (X, Y, Z, ()) f := rfl
theorem h6n {X Y Z : Int} {c : a0a} (h : a0k X Y Z c = true) {f : Int} : 0 ≤ a8y c f ∧ a8y c f ≤ a8y (X, Y, Z, ()) f - 1 := by
 rw [within3_iff] at h
 unfold a8y
 cases decide (f = 0) <;> cases decide (f = 1) <;> simp <;> omega
theorem d3z {X Y Z : Int} (h : sides X Y Z = true) {f : Int} : 1 ≤ a8y (X, Y, Z, ()) f ∧ a8y (X, Y, Z, ()) f ≤ 4 := by
 have := sides_iff.1 h
 unfold a8y
 cases decide (f = 0) <;> cases decide (f = 1) <;> simp <;> omega
def tS (t : a0c) (X Y Z : Int) : a0a := (a8y (X, Y, Z, ()) t.1.1, a8y (X, Y, Z, ()) t.1.2.1, a8y (X, Y, Z, ()) t.1.2.2.1, ())
theorem h5r {t : a0c} {X Y Z : Int} (h : sides X Y Z = true) : sides (tS t X Y Z).1 (tS t X Y Z).2.1 (tS t X Y Z).2.2.1 = true :=
 sides_iff.2 ⟨d3z h, d3z h, d3z h⟩
theorem i9r {t : a0c} {X Y Z : Int} {c : a0a} (h : a0k X Y Z c = true) : a0k (tS t X Y Z).1 (tS t X Y Z).2.1 (tS t X Y Z).2.2.1 (a1s (tl t c) (tv t (tS t X Y Z))) = true := by
 have h0 := h6n h (f := t.1.1)
 have h1 := h6n h (f := t.1.2.1)
 have h2 := h6n h (f := t.1.2.2.1)
 rw [within3_iff]
 unfold tS tl tv a1s
 refine ⟨?_, ?_, ?_⟩
 · simp only; cases decide (t.2.1.1 = 1) <;> simp <;> omega
 · simp only; cases decide (t.2.1.2.1 = 1) <;> simp <;> omega
 · simp only; cases decide (t.2.1.2.2.1 = 1) <;> simp <;> omega
theorem j4n {t : a0c} (ht : OkT t) {X Y Z : Int} {l : List a0a} (hs : sides X Y Z = true) (hi : Ins X Y Z l) (hl : Small l) :
 ∃ l', a4v (t, (X, Y, Z, l, ()), ()) = some (((tS t X Y Z).1, (tS t X Y Z).2.1, (tS t X Y Z).2.2.1, l', ()), ()) ∧ Srt l' ∧ Ins (tS t X Y Z).1 (tS t X Y Z).2.1 (tS t X Y Z).2.2.1 l' ∧ ∀ c, c ∈ l' ↔ c ∈ (l.map (tl t)).map fun c => a1s c (tv t (tS t X Y Z)) := by
 have hS := h5r (t := t) hs
 rw [h9z, a6x]
 simp only [Option.bind_some]
 rw [j2n ht.1, j2n ht.2.1, j2n ht.2.2]
 simp only [cond_true]
 rw [j1r, j1r, j1r]
 have hw : ∀ c ∈ l, a0k (tS t X Y Z).1 (tS t X Y Z).2.1 (tS t X Y Z).2.2.1 (a1s (tl t c) (tv t (tS t X Y Z))) = true := fun c hc => i9r (hi c hc)
 have hm := i2p (X := X) (Y := Y) (Z := Z) hS hl (g := fun c => a1s (tl t c) (tv t (tS t X Y Z))) (F := fun y => a8v (y.1, t, tS t X Y Z, ())) fun c hc => ⟨j8e ht (show e6t c by
  have := sides_iff.1 hs
  have := within3_iff.1 (hi c hc)
  unfold e6t; omega) (by
  have := sides_iff.1 hS
  unfold e6t; omega), hw c hc⟩
 have hm' : a6u ((X, Y, Z, l, ()), (a8y (X, Y, Z, ()) t.1.1, (a8y (X, Y, Z, ()) t.1.2.1, (a8y (X, Y, Z, ()) t.1.2.2.1, ()))), (fun y => a8v (y.1, t, (a8y (X, Y, Z, ()) t.1.1, (a8y (X, Y, Z, ()) t.1.2.1, (a8y (X, Y, Z, ()) t.1.2.2.1, ()))), ())), ()) = _ := hm
 rw [hm']
 have hi' : Ins (tS t X Y Z).1 (tS t X Y Z).2.1 (tS t X Y Z).2.2.1 (l.map fun c => a1s (tl t c) (tv t (tS t X Y Z))) := fun x hx => by
  obtain ⟨c, hc, rfl⟩ := List.mem_map.1 hx
  exact hw c hc
 refine ⟨_, rfl, b6g hS _, fun c hc => hi' c ((g3s hS hi' c).1 hc), fun c => ?_⟩
 rw [g3s hS hi' c, List.map_map]
 rfl
theorem i9q {t : a0c} (ht : OkT t) {X Y Z : Int} {l : List a0a} (hs : sides X Y Z = true) (hi : Ins X Y Z l) (hl : Small l) (hne : l ≠ []) :
 ∃ h' k, a4v (t, (X, Y, Z, l, ()), ()) = some (h', ()) ∧ a2j (h', ()) = some (k, true, ()) ∧ Nrm (l.map (tl t)) k := by
 obtain ⟨l', e1, e2, e3, e4⟩ := j4n ht hs hi hl
 have hS := h5r (t := t) hs
 have hne' : l' ≠ [] := by
  obtain ⟨c, hc⟩ := List.exists_mem_of_ne_nil l hne
  intro h
  have := (e4 (a1s (tl t c) (tv t (tS t X Y Z)))).2 (List.mem_map_of_mem (List.mem_map_of_mem hc))
  rw [h] at this
  cases this
 have hl' : Small l' := by have := a4n hS e3 e2; unfold Small; omega
 obtain ⟨k, k1, k2⟩ := j0s hl' (okHeap_iff.2 ⟨hS, e3, e2⟩) hS e3 hne'
 refine ⟨_, k, e1, k1, ?_⟩
 have := (k2.set e4).add (negC (tv t (tS t X Y Z)))
 refine this.set fun c => ?_
 rw [List.map_map]
 simp only [List.mem_map, Function.comp]
 constructor
 · rintro ⟨d, ⟨x, hx, rfl⟩, rfl⟩; exact ⟨x, hx, (b0u ..).symm⟩
 · rintro ⟨x, hx, rfl⟩; exact ⟨_, ⟨x, hx, rfl⟩, b0u ..⟩
end Go.VI
namespace Go.VI
open Go.Proofs
theorem h7i (a b : Int) : a6s (a, b, ()) = some (mn a b, ()) := by
 rw [g9o]
 unfold mn
 by_cases h : a < b
 · rw [decide_eq_true h, decide_eq_false (show ¬ b < a by omega)]; rfl
 · rw [decide_eq_false h]
   by_cases h' : b < a
   · rw [decide_eq_true h']; rfl
   · rw [decide_eq_false h', show b = a by omega]; rfl
theorem d6f (a b : Int) : a1i (a, b, ()) = some (mx a b, ()) := by
 rw [f3r]
 unfold mx
 by_cases h : a > b
 · rw [decide_eq_true h, decide_eq_false (show ¬ b > a by omega)]; rfl
 · rw [decide_eq_false h]
   by_cases h' : b > a
   · rw [decide_eq_true h']; rfl
   · rw [decide_eq_false h', show b = a by omega]; rfl
theorem h7k {n k : Nat} (h : n ≤ 2000000) (hk : k ≤ 2000000) : (decide ((n + k) * 24 ≤ 140737488355328) && decide (n + k ≤ 140737488355328)) = true := by
 rw [decide_eq_true (by omega), decide_eq_true (by omega)]; rfl
theorem i6u {X Y Z : Int} {l : List a0a} (hl : Small l) {v : a0a} (tv : c7v v) (tl : ∀ c ∈ l, c7v c) : ∀ (d k m : Nat) (out : List a0a), l.length = k + d → d < m → out.length = k →
 b0r m X Y Z l v.1 v.2.1 v.2.2.1 out (k : Int) = some (out ++ (l.drop k).map (fun c => a1s c v), ())
 | d, k, 0, out, _, h, _ => by omega
 | d, k, m + 1, out, hk, hm, ho => by
  have hl' := hl
  unfold Small at hl'
  rw [g2h]
  by_cases hlt : k < l.length
  · have ht := tl _ (List.getElem_mem hlt)
    have e : ((IntKind.wrap .i64 ((l[k]).1 + v.1), (IntKind.wrap .i64 ((l[k]).2.1 + v.2.1), (IntKind.wrap .i64 ((l[k]).2.2.1 + v.2.2.1), ()))) : a0a) = a1s l[k] v := by
     unfold c7v at tv ht
     unfold a1s
     rw [w64 (by omega) (by omega), w64 (by omega) (by omega), w64 (by omega) (by omega)]
    rw [ltT hlt, a1j hlt, b9l (t := a0e) hlt, drop_at l k hlt, e, a5v k (by omega)]
    simp only [cond_true]
    rw [show (List.length ([a1s l[k] v] : List a0a)) = 1 from rfl, h7k (by omega) (by omega)]
    simp only [cond_true]
    rw [i6u hl tv tl (d - 1) (k + 1) m _ (by omega) (by omega) (by simp [ho])]
    simp only [List.append_assoc, List.map_cons, List.cons_append, List.nil_append]
  · rw [ltF hlt, List.drop_eq_nil_of_le (by omega)]
    simp
theorem g3r {X Y Z : Int} {l : List a0a} (hl : Small l) {v : a0a} (tv : c7v v) (tl : ∀ c ∈ l, c7v c) : a2z ((X, Y, Z, l, ()), v, ()) = some (l.map (fun c => a1s c v), ()) := by
 rw [h0m]
 have := i6u (X := X) (Y := Y) (Z := Z) hl tv tl l.length 0 N [] (by omega) (by unfold Small at hl; have := b6u; omega) rfl
 simpa using this
theorem j2u (m : Nat) (X Y Z : Int) (l : List a0a) (lo hi : a0a) {k : Nat} (hk : k < l.length) :
 a2t m N X Y Z l 0 0 0 [] lo.1 lo.2.1 lo.2.2.1 hi.1 hi.2.1 hi.2.2.1 (k : Int) 0 =
 a3w m X Y Z l 0 0 0 [] (mnC lo l[k]).1 (mnC lo l[k]).2.1 (mnC lo l[k]).2.2.1 (mxC hi l[k]).1 (mxC hi l[k]).2.1 (mxC hi l[k]).2.2.1 (IntKind.wrap .i64 ((k : Int) + 1)) := by
 have hb := a1j hk
 have hn : nth a0e l (k : Int) = l[k] := b9l (t := a0e) hk
 rw [h8r]
 rw [b2a]
 show (bif inB (k : Int) l.length then Option.bind (a6s (lo.1, (nth a0e l (k : Int)).1, ())) fun r4 => bif inB (k : Int) l.length then Option.bind (a1i (hi.1, (nth a0e l (k : Int)).1, ())) fun r9 => a2t m (N - 4 + 1 + 1 + 1) X Y Z l 0 0 0 [] r4.1 (lo.2.1) (lo.2.2.1) r9.1 (hi.2.1) (hi.2.2.1) (k : Int) 1 else none else none) = _
 rw [hb, hn, h7i]
 simp only [cond_true, Option.bind_some]
 rw [d6f]
 simp only [Option.bind_some]
 rw [b2a]
 show (bif inB (k : Int) l.length then Option.bind (a6s (lo.2.1, (nth a0e l (k : Int)).2.1, ())) fun r4 => bif inB (k : Int) l.length then Option.bind (a1i (hi.2.1, (nth a0e l (k : Int)).2.1, ())) fun r9 => a2t m (N - 4 + 1 + 1) X Y Z l 0 0 0 [] (mn lo.1 (l[k]).1) r4.1 (lo.2.2.1) (mx hi.1 (l[k]).1) r9.1 (hi.2.2.1) (k : Int) 2 else none else none) = _
 rw [hb, hn, h7i]
 simp only [cond_true, Option.bind_some]
 rw [d6f]
 simp only [Option.bind_some]
 rw [b2a]
 show (bif inB (k : Int) l.length then Option.bind (a6s (lo.2.2.1, (nth a0e l (k : Int)).2.2.1, ())) fun r4 => bif inB (k : Int) l.length then Option.bind (a1i (hi.2.2.1, (nth a0e l (k : Int)).2.2.1, ())) fun r9 => a2t m (N - 4 + 1) X Y Z l 0 0 0 [] (mn lo.1 (l[k]).1) (mn lo.2.1 (l[k]).2.1) r4.1 (mx hi.1 (l[k]).1) (mx hi.2.1 (l[k]).2.1) r9.1 (k : Int) 3 else none else none) = _
 rw [hb, hn, h7i]
 simp only [cond_true, Option.bind_some]
 rw [d6f]
 simp only [Option.bind_some]
 rw [b2a]
 rfl
noncomputable def g4h (X Y Z : Int) (l : List a0a) (lo hi : a0a) : Option (a0b × Unit) :=
 Option.bind (a1l ((IntKind.wrap .i64 ((IntKind.wrap .i64 (hi.1 - lo.1)) + 1)), (IntKind.wrap .i64 ((IntKind.wrap .i64 (hi.2.1 - lo.2.1)) + 1)), (IntKind.wrap .i64 ((IntKind.wrap .i64 (hi.2.2.1 - lo.2.2.1)) + 1)), ())) fun r1 =>
  Option.bind (a2z ((X, (Y, (Z, (l, ())))), ((IntKind.wrap .i64 (0 - lo.1)), ((IntKind.wrap .i64 (0 - lo.2.1)), ((IntKind.wrap .i64 (0 - lo.2.2.1)), ()))), ())) fun r2 =>
  some ((r1.1.1, (r1.1.2.1, (r1.1.2.2.1, (r2.1, ())))), ())
theorem i5j {X Y Z : Int} {l : List a0a} (hl : Small l) (c0 : a0a) : ∀ (d k m : Nat) (lo hi : a0a), l.length = k + d → d < m → IsLow (c0 :: l.take k) lo → IsHigh (c0 :: l.take k) hi →
 ∃ lo' hi', IsLow (c0 :: l) lo' ∧ IsHigh (c0 :: l) hi' ∧ a3w m X Y Z l 0 0 0 [] lo.1 lo.2.1 lo.2.2.1 hi.1 hi.2.1 hi.2.2.1 (k : Int) = g4h X Y Z l lo' hi'
 | d, k, 0, lo, hi, _, h, _, _ => by omega
 | d, k, m + 1, lo, hi, hk, hm, a, b => by
  have hl' := hl
  unfold Small at hl'
  rw [f4m]
  by_cases hlt : k < l.length
  · rw [ltT hlt]
    simp only [cond_true]
    rw [j2u _ _ _ _ _ _ _ hlt, a5v k (by omega)]
    exact i5j hl c0 (d - 1) (k + 1) m _ _ (by omega) (by omega) (h6u hlt a) (g3v hlt b)
  · rw [ltF hlt]
    have e : l.take k = l := List.take_of_length_le (by omega)
    rw [e] at a b
    exact ⟨lo, hi, a, b, rfl⟩
theorem h5q {X Y Z : Int} {l : List a0a} (hl : Small l) (hr : Srt l) (t : i7c l) (hne : l ≠ []) : ∃ h, a2k ((X, Y, Z, l, ()), ()) = some (h, ()) ∧ Nrm l h := by
 have hpos : 0 < l.length := List.length_pos_iff.2 hne
 rw [g1w, show inB (0 : Int) l.length = true from a1j (k := 0) hpos]
 simp only [cond_true]
 rw [show nth a0e l 0 = l[0] from b9l (t := a0e) (k := 0) hpos]
 obtain ⟨lo, hi, a, b, e⟩ := i5j (X := X) (Y := Y) (Z := Z) hl l[0] l.length 0 N l[0] l[0] (by omega) (by unfold Small at hl; have := b6u; omega) (by simpa using f2j _) (by simpa using e5y _)
 have e' : a3w N X Y Z l 0 0 0 [] (l[0]).1 (l[0]).2.1 (l[0]).2.2.1 (l[0]).1 (l[0]).2.1 (l[0]).2.2.1 0 = g4h X Y Z l lo hi := e
 rw [e']
 have hm : l[0] ∈ l := List.getElem_mem _
 replace a := a.set (e6m hm)
 replace b := b.set (e6m hm)
 obtain ⟨p, p1, p2⟩ := a.at0; obtain ⟨q, q1, q2⟩ := a.at1; obtain ⟨r, r1, r2⟩ := a.at2
 obtain ⟨p', p1', p2'⟩ := b.at0; obtain ⟨q', q1', q2'⟩ := b.at1; obtain ⟨r', r1', r2'⟩ := b.at2
 have t1 := t p p1; have t2 := t q q1; have t3 := t r r1; have t4 := t p' p1'; have t5 := t q' q1'; have t6 := t r' r1'
 have hlo : c7v (-lo.1, -lo.2.1, -lo.2.2.1, ()) := by unfold c7v; simp only; omega
 unfold g4h
 rw [f1w (by omega) (by omega), f1w (by omega) (by omega), f1w (by omega) (by omega), w64 (x := hi.1 - lo.1) (by omega) (by omega), w64 (x := hi.2.1 - lo.2.1) (by omega) (by omega), w64 (x := hi.2.2.1 - lo.2.2.1) (by omega) (by omega),
  w64 (by omega) (by omega), w64 (by omega) (by omega), w64 (by omega) (by omega), a2x]
 simp only [Option.bind_some]
 rw [g3r hl hlo fun c hc => by have := t c hc; unfold c7v; omega]
 refine ⟨_, rfl, lo, hi, a, b, rfl, rfl, rfl, h4v hr _, fun c => ?_⟩
 simp only [List.mem_map]
 constructor
 · rintro ⟨d, hd, rfl⟩
   have e : a1s (a1s d (-lo.1, -lo.2.1, -lo.2.2.1, ())) lo = d := a4j d lo
   rw [e]; exact hd
 · intro hc
   have e : a1s (a1s c lo) (-lo.1, -lo.2.1, -lo.2.2.1, ()) = c := b0u c lo
   exact ⟨_, hc, e⟩
section
variable (m n : Nat) (X Y Z : Int) (l : List a0a) (f0 f1 f2 s0 s1 s2 S1 S2 S3 : Int) (o : List a0a) (x y z : Int)
theorem i8f {k : Nat} (hk : k < l.length) (h : inB f0 3 = true) :
 a2a m (n + 1) X Y Z l f0 f1 f2 s0 s1 s2 0 0 0 [] S1 S2 S3 o x y z (k : Int) 0 = a2a m n X Y Z l f0 f1 f2 s0 s1 s2 0 0 0 [] S1 S2 S3 o (i0a l[k] f0 s0 (a8y (X, Y, Z, ()) f0)) y z (k : Int) 1 := by
 have hn : nth a0e l (k : Int) = l[k] := b9l (t := a0e) hk
 have e : inB (bif decide ((0 : Int) = (0 : Int)) then f0 else (bif decide ((0 : Int) = (1 : Int)) then f1 else f2)) 3 = true := h
 have el : a1e ((X, (Y, (Z, (l, ())))), (bif decide ((0 : Int) = (0 : Int)) then f0 else (bif decide ((0 : Int) = (1 : Int)) then f1 else f2)), ()) = some (a8y (X, Y, Z, ()) f0, ()) := by
  show a1e ((X, (Y, (Z, (l, ())))), f0, ()) = _
  rw [b7l, h]; rfl
 rw [b7d, a1j hk, e, hn]
 unfold i0a
 cases hs : decide (s0 = 1) with
 | true =>
  have hs' : decide ((bif decide ((0 : Int) = (0 : Int)) then s0 else (bif decide ((0 : Int) = (1 : Int)) then s1 else s2)) = 1) = true := hs
  rw [hs', el]
  rfl
 | false =>
  have hs' : decide ((bif decide ((0 : Int) = (0 : Int)) then s0 else (bif decide ((0 : Int) = (1 : Int)) then s1 else s2)) = 1) = false := hs
  rw [hs']
  rfl
theorem i8c {k : Nat} (hk : k < l.length) (h : inB f1 3 = true) :
 a2a m (n + 1) X Y Z l f0 f1 f2 s0 s1 s2 0 0 0 [] S1 S2 S3 o x y z (k : Int) 1 = a2a m n X Y Z l f0 f1 f2 s0 s1 s2 0 0 0 [] S1 S2 S3 o x (i0a l[k] f1 s1 (a8y (X, Y, Z, ()) f1)) z (k : Int) 2 := by
 have hn : nth a0e l (k : Int) = l[k] := b9l (t := a0e) hk
 have e : inB (bif decide ((1 : Int) = (0 : Int)) then f0 else (bif decide ((1 : Int) = (1 : Int)) then f1 else f2)) 3 = true := h
 have el : a1e ((X, (Y, (Z, (l, ())))), (bif decide ((1 : Int) = (0 : Int)) then f0 else (bif decide ((1 : Int) = (1 : Int)) then f1 else f2)), ()) = some (a8y (X, Y, Z, ()) f1, ()) := by
  show a1e ((X, (Y, (Z, (l, ())))), f1, ()) = _
  rw [b7l, h]; rfl
 rw [b7d, a1j hk, e, hn]
 unfold i0a
 cases hs : decide (s1 = 1) with
 | true =>
  have hs' : decide ((bif decide ((1 : Int) = (0 : Int)) then s0 else (bif decide ((1 : Int) = (1 : Int)) then s1 else s2)) = 1) = true := hs
  rw [hs', el]
  rfl
 | false =>
  have hs' : decide ((bif decide ((1 : Int) = (0 : Int)) then s0 else (bif decide ((1 : Int) = (1 : Int)) then s1 else s2)) = 1) = false := hs
  rw [hs']
  rfl
theorem i9f {k : Nat} (hk : k < l.length) (h : inB f2 3 = true) :
 a2a m (n + 1) X Y Z l f0 f1 f2 s0 s1 s2 0 0 0 [] S1 S2 S3 o x y z (k : Int) 2 = a2a m n X Y Z l f0 f1 f2 s0 s1 s2 0 0 0 [] S1 S2 S3 o x y (i0a l[k] f2 s2 (a8y (X, Y, Z, ()) f2)) (k : Int) 3 := by
 have hn : nth a0e l (k : Int) = l[k] := b9l (t := a0e) hk
 have e : inB (bif decide ((2 : Int) = (0 : Int)) then f0 else (bif decide ((2 : Int) = (1 : Int)) then f1 else f2)) 3 = true := h
 have el : a1e ((X, (Y, (Z, (l, ())))), (bif decide ((2 : Int) = (0 : Int)) then f0 else (bif decide ((2 : Int) = (1 : Int)) then f1 else f2)), ()) = some (a8y (X, Y, Z, ()) f2, ()) := by
  show a1e ((X, (Y, (Z, (l, ())))), f2, ()) = _
  rw [b7l, h]; rfl
 rw [b7d, a1j hk, e, hn]
 unfold i0a
 cases hs : decide (s2 = 1) with
 | true =>
  have hs' : decide ((bif decide ((2 : Int) = (0 : Int)) then s0 else (bif decide ((2 : Int) = (1 : Int)) then s1 else s2)) = 1) = true := hs
  rw [hs', el]
  rfl
 | false =>
  have hs' : decide ((bif decide ((2 : Int) = (0 : Int)) then s0 else (bif decide ((2 : Int) = (1 : Int)) then s1 else s2)) = 1) = false := hs
  rw [hs']
  rfl
end
theorem j2k (m : Nat) {X Y Z : Int} {l : List a0a} {t : a0c} (ht : OkT t) (hs : sides X Y Z = true) (hi : Ins X Y Z l) (S1 S2 S3 : Int) (o : List a0a) {k : Nat} (hk : k < l.length) :
 a2a m N X Y Z l t.1.1 t.1.2.1 t.1.2.2.1 t.2.1.1 t.2.1.2.1 t.2.1.2.2.1 0 0 0 [] S1 S2 S3 o 0 0 0 (k : Int) 0 =
 Option.bind (a4s ((S1, (S2, (S3, (o, ())))), a1s (tl t l[k]) (tv t (tS t X Y Z)), ())) fun r1 => a9k m X Y Z l t.1.1 t.1.2.1 t.1.2.2.1 t.2.1.1 t.2.1.2.1 t.2.1.2.2.1 0 0 0 [] r1.1.1 r1.1.2.1 r1.1.2.2.1 r1.1.2.2.2.1 (IntKind.wrap .i64 ((k : Int) + 1)) := by
 have hc := hi _ (List.getElem_mem hk)
 have hg : ∀ f, -1000 ≤ a8y l[k] f ∧ a8y l[k] f ≤ 1000 := fun f => by
  have := h6n hc (f := f); have := d3z hs (f := f); omega
 have hx : ∀ f, -1000 ≤ a8y (X, Y, Z, ()) f ∧ a8y (X, Y, Z, ()) f ≤ 1000 := fun f => by have := d3z hs (f := f); omega
 rw [h8r, i8f _ _ _ _ _ _ _ _ _ _ _ _ _ _ _ _ _ _ _ hk (j2n ht.1), i8c _ _ _ _ _ _ _ _ _ _ _ _ _ _ _ _ _ _ _ hk (j2n ht.2.1), i9f _ _ _ _ _ _ _ _ _ _ _ _ _ _ _ _ _ _ _ hk (j2n ht.2.2), b7d]
 rw [f7a (hg _) (hx _), f7a (hg _) (hx _), f7a (hg _) (hx _)]
 rfl
theorem j2a {X Y Z : Int} {l : List a0a} {t : a0c} (ht : OkT t) (hs : sides X Y Z = true) (hi : Ins X Y Z l) (hl : Small l) (S1 S2 S3 : Int) : ∀ (d k m : Nat) (o : List a0a), l.length = k + d → d < m → Srt o → o.length ≤ k → (∀ c, c ∈ o ↔ c ∈ (l.take k).map fun c => a1s (tl t c) (tv t (tS t X Y Z))) →
 ∃ o', a9k m X Y Z l t.1.1 t.1.2.1 t.1.2.2.1 t.2.1.1 t.2.1.2.1 t.2.1.2.2.1 0 0 0 [] S1 S2 S3 o (k : Int) = some ((S1, S2, S3, o', ()), ()) ∧ Srt o' ∧ ∀ c, c ∈ o' ↔ c ∈ l.map fun c => a1s (tl t c) (tv t (tS t X Y Z))
 | d, k, 0, o, _, h, _, _, _ => by omega
 | d, k, m + 1, o, hk, hm, hr, ho, he => by
  have hl' := hl
  unfold Small at hl'
  rw [g8a]
  by_cases hlt : k < l.length
  · rw [ltT hlt]
    simp only [cond_true]
    rw [j2k m ht hs hi S1 S2 S3 o hlt]
    obtain ⟨o', e1, e2, e3, e4⟩ := f4i (X := S1) (Y := S2) (Z := S3) hr (a1s (tl t l[k]) (tv t (tS t X Y Z))) (by omega)
    rw [e1]
    simp only [Option.bind_some]
    rw [a5v k (by omega)]
    refine j2a ht hs hi hl S1 S2 S3 (d - 1) (k + 1) m o' (by omega) (by omega) e2 (by omega) fun c => ?_
    rw [e3, he, List.take_succ_eq_append_getElem hlt, List.map_append, List.mem_append]
    simp only [List.map_cons, List.map_nil, List.mem_singleton]
    exact Or.comm
  · rw [ltF hlt]
    rw [List.take_of_length_le (by omega)] at he
    exact ⟨o, rfl, hr, he⟩
theorem j9j {t : a0c} (ht : OkT t) {X Y Z : Int} {l : List a0a} (hs : sides X Y Z = true) (hi : Ins X Y Z l) (hl : Small l) :
 ∃ l', b0l ((X, Y, Z, l, ()), t, ()) = some (((tS t X Y Z).1, (tS t X Y Z).2.1, (tS t X Y Z).2.2.1, l', ()), ()) ∧ Srt l' ∧ ∀ c, c ∈ l' ↔ c ∈ (l.map (tl t)).map fun c => a1s c (tv t (tS t X Y Z)) := by
 have e : ∀ f, (f = 0 ∨ f = 1 ∨ f = 2) → a1e ((X, Y, Z, l, ()), f, ()) = some (a8y (X, Y, Z, ()) f, ()) := fun f h => by
  rw [b7l, j2n h]; rfl
 rw [h7b, e _ ht.1]
 simp only [Option.bind_some]
 rw [e _ ht.2.1]
 simp only [Option.bind_some]
 rw [e _ ht.2.2]
 simp only [Option.bind_some]
 rw [a2x]
 simp only [Option.bind_some]
 obtain ⟨o', h1, h2, h3⟩ := j2a ht hs hi hl (a8y (X, Y, Z, ()) t.1.1) (a8y (X, Y, Z, ()) t.1.2.1) (a8y (X, Y, Z, ()) t.1.2.2.1) l.length 0 N [] (by omega) (by unfold Small at hl; have := b6u; omega) List.Pairwise.nil (by simp) (by simp)
 refine ⟨o', h1, h2, fun c => ?_⟩
 rw [h3, List.map_map]
 rfl
theorem i5o {t : a0c} (ht : OkT t) {X Y Z : Int} {l : List a0a} (hs : sides X Y Z = true) (hi : Ins X Y Z l) (hl : Small l) (hne : l ≠ []) :
 ∃ h' k, b0l ((X, Y, Z, l, ()), t, ()) = some (h', ()) ∧ a2k (h', ()) = some (k, ()) ∧ Nrm (l.map (tl t)) k := by
 obtain ⟨l', e1, e2, e4⟩ := j9j ht hs hi hl
 have hS := h5r (t := t) hs
 have e3 : Ins (tS t X Y Z).1 (tS t X Y Z).2.1 (tS t X Y Z).2.2.1 l' := fun c hc => by
  have := (e4 c).1 hc
  rw [List.map_map] at this
  obtain ⟨d, hd, rfl⟩ := List.mem_map.1 this
  exact i9r (hi d hd)
 have hne' : l' ≠ [] := by
  obtain ⟨c, hc⟩ := List.exists_mem_of_ne_nil l hne
  intro h
  have := (e4 (a1s (tl t c) (tv t (tS t X Y Z)))).2 (List.mem_map_of_mem (List.mem_map_of_mem hc))
  rw [h] at this
  cases this
 have hl' : Small l' := by have := a4n hS e3 e2; unfold Small; omega
 obtain ⟨k, k1, k2⟩ := h5q (X := (tS t X Y Z).1) (Y := (tS t X Y Z).2.1) (Z := (tS t X Y Z).2.2.1) hl' e2 (fun c hc => by
  have := sides_iff.1 hS
  have := within3_iff.1 (e3 c hc)
  omega) hne'
 refine ⟨_, k, e1, k1, ?_⟩
 have := (k2.set e4).add (negC (tv t (tS t X Y Z)))
 refine this.set fun c => ?_
 rw [List.map_map]
 simp only [List.mem_map, Function.comp]
 constructor
 · rintro ⟨d, ⟨x, hx, rfl⟩, rfl⟩; exact ⟨x, hx, (b0u ..).symm⟩
 · rintro ⟨x, hx, rfl⟩; exact ⟨_, ⟨x, hx, rfl⟩, b0u ..⟩
end Go.VI
