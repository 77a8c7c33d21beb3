/- VI, part 2: what an abstract state says of the machine. -/
import Derived.Test.YtlnfgikipeiaiaaViCore
import Derived.Maps.AppendAt
import Derived.Laws.OwnMore
import Derived.Laws.MakeOwn
namespace Go.VI
open Go.RowKit
theorem Slot.beq_iff {a b : Slot} : Slot.beq a b = true ↔ a = b := by
  cases a <;> cases b <;> simp [Slot.beq]
theorem Slot.beq_self (a : Slot) : Slot.beq a a = true := Slot.beq_iff.2 rfl
theorem Slot.beq_ne {a b : Slot} (h : a ≠ b) : Slot.beq a b = false := by
  cases hb : Slot.beq a b
  · rfl
  · exact absurd (Slot.beq_iff.1 hb) h
theorem Loc.beq_iff {x y : Loc} : Loc.beq x y = true ↔ x = y := by
  cases x; cases y
  simp [Loc.beq, Slot.beq_iff, and_assoc]
theorem Env.get_cons_self (env : Env) (s : Slot) (v : AV) : Env.get ((s, v) :: env) s = v := by
  simp [Env.get, Slot.beq_self]
theorem Env.get_cons_ne (env : Env) {s s' : Slot} (v : AV) (h : s ≠ s') : Env.get ((s, v) :: env) s' = env.get s' := by
  simp [Env.get, Slot.beq_ne h]
theorem Env.get_cons (env : Env) (s s' : Slot) (v : AV) : Env.get ((s, v) :: env) s' = if s = s' then v else env.get s' := by
  by_cases h : s = s'
  · subst h; simp [Env.get_cons_self]
  · simp [Env.get_cons_ne _ _ h, h]
theorem setNth_getElem? {α : Type} (l : List α) (n m : Nat) (v : α) : (setNth l n v)[m]? = if n = m ∧ n < l.length then some v else l[m]? := by
  induction l generalizing n m with
  | nil => simp [setNth]
  | cons a r ih =>
    cases n with
    | zero => cases m <;> simp [setNth]
    | succ n => cases m with
      | zero => simp [setNth]
      | succ m => simp [setNth, ih]
theorem setNth_length {α : Type} (l : List α) (n : Nat) (v : α) : (setNth l n v).length = l.length := by
  induction l generalizing n with
  | nil => rfl
  | cons a r ih => cases n <;> simp [setNth, ih]
theorem AV.cell?_setCell (v : AV) (i j i' j' : Nat) (c : Cell) :
    (v.setCell i j c).cell? i' j' = if (j' = j ∧ i' = i) ∧ (v.cell? i j).isSome then some c else v.cell? i' j' := by
  cases v with
  | undef => simp [AV.setCell, AV.cell?]
  | skip => simp [AV.setCell, AV.cell?]
  | num n => simp [AV.setCell, AV.cell?]
  | val g cs =>
    cases i with
    | succ i => simp [AV.setCell, AV.cell?]
    | zero =>
      cases i' with
      | succ i' => simp [AV.setCell, AV.cell?]
      | zero =>
        simp only [AV.setCell, AV.cell?, setNth_getElem?]
        by_cases h : j' = j
        · subst h
          by_cases h2 : j' < cs.length <;> simp [h2]
        · simp [h, Ne.symm h]
  | box w fz cs =>
    cases i with
    | succ i => simp [AV.setCell, AV.cell?]
    | zero =>
      cases i' with
      | succ i' => simp [AV.setCell, AV.cell?]
      | zero =>
        simp only [AV.setCell, AV.cell?, setNth_getElem?]
        by_cases h : j' = j
        · subst h
          by_cases h2 : j' < cs.length <;> simp [h2]
        · simp [h, Ne.symm h]
  | tup l =>
    simp only [AV.setCell, AV.cell?]
    by_cases hi : i < l.length
    · have hl : l[i]? = some l[i] := List.getElem?_eq_getElem hi
      simp only [hl, setNth_getElem?, hi, and_true, Option.bind_some]
      by_cases h : i = i'
      · subst h
        simp only [if_true, Option.bind_some, hl, and_true, setNth_getElem?]
        by_cases h3 : j' = j
        · subst h3
          by_cases h2 : j' < l[i].2.length <;> simp [h2]
        · simp [h3, Ne.symm h3]
      · simp [h, Ne.symm h]
    · have hl : l[i]? = none := List.getElem?_eq_none (by omega)
      simp [hl]
def RepI (Z : Nat → Prop) (w : World) : (t : Ty) → t.den → List Value → Prop
  | .int k, n, cs => cs = [.int k n]
  | .bool, b, cs => cs = [.bool b]
  | .str, s, cs => cs = [.string ⟨s.toArray⟩]
  | .unit, _, cs => cs = []
  | .pair a b, x, cs => ∃ c1 c2, cs = c1 ++ c2 ∧ RepI Z w a x.1 c1 ∧ RepI Z w b x.2 c2
  | .sl t, l, cs => ∃ A c, cs = [.slice A l.length c] ∧ l.length ≤ c ∧
      ∀ i x, l[i]? = some x → ∃ a, A = some a ∧ Z a.block ∧ ∃ xs, RepI Z w t x xs ∧ ∀ j v, xs[j]? = some v → w.cell? (a.add (i * t.size + j)) = some v
theorem RepI.mono {Z Z' : Nat → Prop} {w w' : World} (hZ : ∀ g, Z g → Z' g) (hw : ∀ g, Z g → w'.heap[g]? = w.heap[g]?) :
    ∀ (t : Ty) (x : t.den) (cs : List Value), RepI Z w t x cs → RepI Z' w' t x cs
  | .int _, _, _, h => h
  | .bool, _, _, h => h
  | .str, _, _, h => h
  | .unit, _, _, h => h
  | .pair a b, x, cs, ⟨c1, c2, h0, h1, h2⟩ => ⟨c1, c2, h0, RepI.mono hZ hw a _ _ h1, RepI.mono hZ hw b _ _ h2⟩
  | .sl t, l, cs, ⟨A, c, h0, hc, h1⟩ => ⟨A, c, h0, hc, fun i x hx => by
      obtain ⟨a, hA, hz, xs, hr, hcell⟩ := h1 i x hx
      exact ⟨a, hA, hZ _ hz, xs, RepI.mono hZ hw t x xs hr, fun j v hv => by
        rw [World.cell?_of_block (w := w)]
        · exact hcell j v hv
        · have hb : ∀ n, (a.add n).block = a.block := fun n => by unfold Addr.add; split <;> rfl
          rw [hb]; exact hw _ hz⟩⟩
theorem RepI.length {Z : Nat → Prop} {w : World} : ∀ (t : Ty) (x : t.den) (cs : List Value), RepI Z w t x cs → cs.length = t.size
  | .int _, _, _, h => by rw [h]; rfl
  | .bool, _, _, h => by rw [h]; rfl
  | .str, _, _, h => by rw [h]; rfl
  | .unit, _, _, h => by rw [h]; rfl
  | .pair a b, x, cs, ⟨c1, c2, h0, h1, h2⟩ => by rw [h0, List.length_append, RepI.length a _ _ h1, RepI.length b _ _ h2]; rfl
  | .sl t, l, cs, ⟨A, c, h0, _, _⟩ => by rw [h0]; rfl
theorem RepI.one {Z : Nat → Prop} {w : World} : ∀ (t : Ty) (x : t.den) (cs : List Value), RepI Z w t x cs → ∀ u ∈ cs, u.oneCell' = true
  | .int _, _, _, h => by rw [h]; simp [Value.oneCell']
  | .bool, _, _, h => by rw [h]; simp [Value.oneCell']
  | .str, _, _, h => by rw [h]; simp [Value.oneCell']
  | .unit, _, _, h => by rw [h]; simp
  | .pair a b, x, cs, ⟨c1, c2, h0, h1, h2⟩ => by
    rw [h0]
    intro u hu
    rcases List.mem_append.1 hu with hu | hu
    · exact RepI.one a _ _ h1 u hu
    · exact RepI.one b _ _ h2 u hu
  | .sl t, l, cs, ⟨A, c, h0, _, _⟩ => by rw [h0]; simp [Value.oneCell']
theorem RepI.flat {Z Z' : Nat → Prop} {w w' : World} : ∀ (t : Ty), leads t = false → ∀ (x : t.den) (cs : List Value), RepI Z w t x cs → RepI Z' w' t x cs
  | .int _, _, _, _, h => h
  | .bool, _, _, _, h => h
  | .str, _, _, _, h => h
  | .unit, _, _, _, h => h
  | .pair a b, hl, x, cs, ⟨c1, c2, h0, h1, h2⟩ => by
    simp only [leads, Bool.or_eq_false_iff] at hl
    exact ⟨c1, c2, h0, RepI.flat a hl.1 _ _ h1, RepI.flat b hl.2 _ _ h2⟩
  | .sl t, hl, _, _, _ => by simp [leads] at hl
def RepsL (Z : Nat → Prop) (w : World) (t : Ty) : List t.den → List Value → Prop
  | [], cs => cs = []
  | x :: r, cs => ∃ c1 c2, cs = c1 ++ c2 ∧ RepI Z w t x c1 ∧ RepsL Z w t r c2
theorem RepsL.mono {Z Z' : Nat → Prop} {w w' : World} (hZ : ∀ g, Z g → Z' g) (hw : ∀ g, Z g → w'.heap[g]? = w.heap[g]?) {t : Ty} :
    ∀ (l : List t.den) (cs : List Value), RepsL Z w t l cs → RepsL Z' w' t l cs
  | [], _, h => h
  | _ :: r, _, ⟨c1, c2, h0, h1, h2⟩ => ⟨c1, c2, h0, RepI.mono hZ hw _ _ _ h1, RepsL.mono hZ hw r _ h2⟩
theorem RepsL.length {Z : Nat → Prop} {w : World} {t : Ty} : ∀ (l : List t.den) (cs : List Value), RepsL Z w t l cs → cs.length = l.length * t.size
  | [], _, h => by rw [h]; simp
  | x :: r, _, ⟨c1, c2, h0, h1, h2⟩ => by
    rw [h0, List.length_append, RepI.length _ _ _ h1, RepsL.length r _ h2, List.length_cons, Nat.succ_mul]; omega
theorem RepsL.one {Z : Nat → Prop} {w : World} {t : Ty} : ∀ (l : List t.den) (cs : List Value), RepsL Z w t l cs → ∀ u ∈ cs, u.oneCell' = true
  | [], _, h => by rw [h]; simp
  | x :: r, _, ⟨c1, c2, h0, h1, h2⟩ => by
    rw [h0]
    intro u hu
    rcases List.mem_append.1 hu with hu | hu
    · exact RepI.one _ _ _ h1 u hu
    · exact RepsL.one r _ h2 u hu
theorem RepsL.flat {Z Z' : Nat → Prop} {w w' : World} {t : Ty} (ht : leads t = false) : ∀ (l : List t.den) (cs : List Value), RepsL Z w t l cs → RepsL Z' w' t l cs
  | [], _, h => h
  | _ :: r, _, ⟨c1, c2, h0, h1, h2⟩ => ⟨c1, c2, h0, RepI.flat _ ht _ _ h1, RepsL.flat ht r _ h2⟩
theorem RepsL.append {Z : Nat → Prop} {w : World} {t : Ty} : ∀ (l m : List t.den) (cs ds : List Value), RepsL Z w t l cs → RepsL Z w t m ds → RepsL Z w t (l ++ m) (cs ++ ds)
  | [], m, cs, ds, h, h' => by rw [show cs = [] from h]; simpa using h'
  | x :: r, m, _, ds, ⟨c1, c2, h0, h1, h2⟩, h' => ⟨c1, c2 ++ ds, by rw [h0, List.append_assoc], h1, RepsL.append r m c2 ds h2 h'⟩
theorem RepsL.at {Z : Nat → Prop} {w : World} {t : Ty} : ∀ (l : List t.den) (cs : List Value), RepsL Z w t l cs → ∀ i x, l[i]? = some x →
    ∃ xs, RepI Z w t x xs ∧ ∀ j v, xs[j]? = some v → cs[i * t.size + j]? = some v
  | [], _, _, i, x, hx => by simp at hx
  | y :: r, cs, ⟨c1, c2, h0, h1, h2⟩, i, x, hx => by
    have hlen := RepI.length _ _ _ h1
    cases i with
    | zero =>
      simp at hx
      subst hx
      refine ⟨c1, h1, fun j v hv => ?_⟩
      rw [h0, Nat.zero_mul, Nat.zero_add, List.getElem?_append_left]
      · exact hv
      · rcases Nat.lt_or_ge j c1.length with h | h
        · exact h
        · simp [List.getElem?_eq_none h] at hv
    | succ i =>
      simp at hx
      obtain ⟨xs, hr, hc⟩ := RepsL.at r c2 h2 i x hx
      refine ⟨xs, hr, fun j v hv => ?_⟩
      rw [h0, List.getElem?_append_right (by rw [hlen, Nat.succ_mul]; omega), hlen]
      rw [← hc j v hv]
      congr 1
      rw [Nat.succ_mul]; omega
def OwnRow (w : World) (B : Nat) (e : TypeId) (t : Ty) (v : Value) (n : Nat) (xs : List Value) : Prop :=
  xs.length = n * t.size ∧
  ((v = .slice none 0 0 ∧ n = 0) ∨
   ∃ g cap cur fz, v = .slice (some ⟨g, 0, none⟩) n cap ∧ B ≤ g ∧ w.heap[g]? = some (.cells cur e fz) ∧ (fz = (0, 0) ∨ t = markT ∧ fz = (cap, cap + 1)) ∧ n ≤ cap ∧ cap ≤ maxLen ∧ cur.size = cap * t.size ∧ cur.toList.take (n * t.size) = xs)
theorem OwnRow.of {w : World} {B : Nat} {e : TypeId} {t : Ty} {v : Value} {n : Nat} {xs : List Value} (h : w.ownsRow B e t.size v n xs) : OwnRow w B e t v n xs := by
  refine ⟨h.1, ?_⟩
  rcases h.2 with hn | ⟨g, cap, cur, h1, h2, h3, rest⟩
  · exact .inl hn
  · exact .inr ⟨g, cap, cur, (0, 0), h1, h2, h3, .inl rfl, rest⟩
theorem OwnRow.plain {w : World} {B : Nat} {e : TypeId} {t : Ty} {v : Value} {n : Nat} {xs : List Value} (h : OwnRow w B e t v n xs) (ht : t ≠ markT) : w.ownsRow B e t.size v n xs := by
  refine ⟨h.1, ?_⟩
  rcases h.2 with hn | ⟨g, cap, cur, fz, h1, h2, h3, hf, rest⟩
  · exact .inl hn
  · rcases hf with rfl | ⟨hf, _⟩
    · exact .inr ⟨g, cap, cur, h1, h2, h3, rest⟩
    · exact absurd hf ht
theorem OwnRow.cells {w : World} {B : Nat} {e : TypeId} {t : Ty} {v : Value} {n : Nat} {xs : List Value} (h : OwnRow w B e t v n xs) {g : Nat} (hg : v.ownBlock = some g) : ∀ j u, xs[j]? = some u → w.cell? ((⟨g, 0, none⟩ : Addr).add j) = some u := by
  intro j u hu
  rcases h.2 with ⟨rfl, _⟩ | ⟨g', cap, cur, fz, rfl, _, hgg, _, _, _, _, htake⟩
  · simp [Value.ownBlock] at hg
  · simp [Value.ownBlock] at hg
    subst hg
    have hadd : (⟨g', 0, none⟩ : Addr).add j = ⟨g', j, none⟩ := by unfold Addr.add; split <;> simp_all
    rw [hadd, cell_of_row w g' j cur e fz hgg]
    rw [← htake, List.getElem?_take] at hu
    split at hu
    · simpa using hu
    · cases hu
def OwnV (Z : Nat → Prop) (w : World) (B : Nat) (e : TypeId) (t : Ty) (v : Value) (l : List t.den) : Prop :=
  0 < t.size ∧ ∃ xs, OwnRow w B e t v l.length xs ∧ RepsL Z w t l xs
theorem OwnV.mono {Z Z' : Nat → Prop} {w w' : World} {B : Nat} {e : TypeId} {t : Ty} {v : Value} {l : List t.den} (h : OwnV Z w B e t v l)
    (hZ : ∀ g, Z g → Z' g) (hw : ∀ g, Z g → w'.heap[g]? = w.heap[g]?) (hv : ∀ g, v.ownBlock = some g → w'.heap[g]? = w.heap[g]?) : OwnV Z' w' B e t v l := by
  obtain ⟨h0, xs, ho, hr⟩ := h
  refine ⟨h0, xs, ⟨ho.1, ?_⟩, RepsL.mono hZ hw l xs hr⟩
  rcases ho.2 with hn | ⟨g, cap, cur, fz, rfl, hb, hg, rest⟩
  · exact .inl hn
  · exact .inr ⟨g, cap, cur, fz, rfl, hb, by rw [hv g (by simp [Value.ownBlock])]; exact hg, rest⟩
theorem OwnV.flat {Z Z' : Nat → Prop} {w : World} {B : Nat} {e : TypeId} {t : Ty} {v : Value} {l : List t.den} (h : OwnV Z w B e t v l) (ht : leads t = false) : OwnV Z' w B e t v l := by
  obtain ⟨h0, xs, ho, hr⟩ := h
  exact ⟨h0, xs, ho, RepsL.flat ht l xs hr⟩
theorem OwnV.reads {Z : Nat → Prop} {w : World} {B : Nat} {e : TypeId} {t : Ty} {v : Value} {l : List t.den} (h : OwnV Z w B e t v l) (Z' : Nat → Prop) (hZ : ∀ g, Z g → Z' g)
    (hv : ∀ g, v.ownBlock = some g → Z' g) : RepI Z' w (.sl t) l [v] := by
  obtain ⟨h0, xs, ho, hr⟩ := h
  rcases ho.2 with ⟨rfl, hn⟩ | ⟨g, cap, cur, fz, rfl, hb, hg, _, hnc, hcm, hcs, htake⟩
  · refine ⟨none, 0, by rw [hn], by rw [hn]; exact Nat.le_refl _, fun i x hx => ?_⟩
    have : l = [] := List.eq_nil_of_length_eq_zero hn
    subst this
    simp at hx
  · refine ⟨some ⟨g, 0, none⟩, cap, rfl, hnc, fun i x hx => ?_⟩
    obtain ⟨ys, hy, hc⟩ := RepsL.at l xs hr i x hx
    refine ⟨_, rfl, hv g (by simp [Value.ownBlock]), ys, RepI.mono hZ (fun _ _ => rfl) _ _ _ hy, fun j u hu => ?_⟩
    have hadd : ∀ n, (⟨g, 0, none⟩ : Addr).add n = ⟨g, n, none⟩ := fun n => by unfold Addr.add; split <;> simp_all
    have hx2 := hc j u hu
    rw [hadd, cell_of_row w g _ cur e fz hg]
    rw [← htake, List.getElem?_take] at hx2
    split at hx2
    · simpa using hx2
    · cases hx2
theorem OwnV.slice {Z : Nat → Prop} {w : World} {B : Nat} {e : TypeId} {t : Ty} {v : Value} {l : List t.den} (h : OwnV Z w B e t v l) :
    ∃ A c, v = .slice A l.length c ∧ l.length ≤ c := by
  obtain ⟨_, xs, ho, _⟩ := h
  rcases ho.2 with ⟨rfl, hn⟩ | ⟨g, cap, cur, fz, rfl, hb, hg, _, hnc, _⟩
  · exact ⟨none, 0, by rw [hn], by rw [hn]; exact Nat.le_refl _⟩
  · exact ⟨_, _, rfl, hnc⟩
theorem OwnV.lt {Z : Nat → Prop} {w : World} {B : Nat} {e : TypeId} {t : Ty} {v : Value} {l : List t.den} (h : OwnV Z w B e t v l) : ∀ g, v.ownBlock = some g → B ≤ g ∧ g < w.heap.size := by
  obtain ⟨_, xs, ho, _⟩ := h
  intro k hk
  rcases ho.2 with ⟨rfl, _⟩ | ⟨g, cap, cur, fz, rfl, hb, hg, _⟩
  · simp [Value.ownBlock] at hk
  · simp [Value.ownBlock] at hk
    subst hk
    exact ⟨hb, (Array.getElem?_eq_some_iff.1 hg).1⟩
theorem OwnV.nil {Z : Nat → Prop} {w : World} {B : Nat} {e : TypeId} {t : Ty} (ht : 0 < t.size) : OwnV Z w B e t (.slice none 0 0) [] :=
  ⟨ht, [], OwnRow.of (World.ownsRow_nil w B e t.size), rfl⟩
end Go.VI
