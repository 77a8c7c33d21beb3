/- VI, part 26: a function's answer. -/
import Derived.Test.YtkiiaoekkppghaaViRun
namespace Go.VI
noncomputable section
open Go.RowKit

section
variable {A : Fix} {X : Ctx} {γ : Gh} {Fr : Nat → Prop} {env env' : Env} {a : Act} {w w' : World}

/-- A cell of the answer, its value, and where its row lived. -/
def OCell (A : Fix) (γ : Gh) (Fr : Nat → Prop) (env : Env) (w : World) (c : Cell) (u : Value) (o : Option Loc) : Prop :=
  match c with
  | .own e t _ l => (∃ x ver, o = some x ∧ envCell env x = some (.own e t ver l) ∧ u = γ.φ x ∧ x.s.isLent = false) ∨ (o = none ∧ u = .slice none 0 0 ∧ l = [] ∧ 0 < t.size)
  | c => GoodR A γ w Fr c u ∧ o = none

def OCells (A : Fix) (γ : Gh) (Fr : Nat → Prop) (env : Env) (w : World) (xs xs' : List Loc) (cs : List Cell) (us : List Value) (os : List (Option Loc)) : Prop :=
  us.length = cs.length ∧ os.length = cs.length ∧ (∀ (j : Nat) (c : Cell) (u : Value) (o : Option Loc), cs[j]? = some c → us[j]? = some u → os[j]? = some o → OCell A γ Fr env w c u o ∧ ∀ x, o = some x → x ∈ xs' ∧ x ∉ xs) ∧
  (∀ (j j' : Nat) (x : Loc), os[j]? = some (some x) → os[j']? = some (some x) → j = j') ∧ ∀ x ∈ xs, x ∈ xs'

theorem outCells_sound (h : Core A X γ Fr env a w) : ∀ (cs : List Cell) (xs : List Loc) (us : List Value) (cs' : List Cell) (xs' : List Loc) (l0 l1 : List Slot), RelCs A γ w Fr cs us →
    (outCells xs cs).eval env.get l0 = some ((cs', xs'), l1) → ∃ os, OCells A γ Fr env w xs xs' cs' us os
  | [], xs, us, cs', xs', l0, l1, hr, he => by
    simp only [outCells, Rd.eval, Option.some.injEq, Prod.mk.injEq] at he
    obtain ⟨⟨rfl, rfl⟩, _⟩ := he
    rw [show us = [] from hr]
    exact ⟨[], rfl, rfl, by simp, by simp, fun x hx => hx⟩
  | c :: r, xs, us0, cs', xs', l0, l1, hr0, he => by
    obtain ⟨u, us', rfl, hg, hr⟩ := hr0
    have cons : ∀ (c' : Cell) (o : Option Loc) (xs1 : List Loc) (q1 : List Cell) (os : List (Option Loc)), OCell A γ Fr env w c' u o → (∀ x, o = some x → x ∈ xs1 ∧ x ∉ xs) → (∀ x ∈ xs, x ∈ xs1) → OCells A γ Fr env w xs1 xs' q1 us' os →
        OCells A γ Fr env w xs xs' (c' :: q1) (u :: us') (o :: os) := by
      intro c' o xs1 q1 os k1 k2 k3 ⟨m1, m2, m3, m4, m5⟩
      refine ⟨by simp [m1], by simp [m2], fun j c u' o' hc hu ho => ?_, fun j j' x hj hj' => ?_, fun x hx => m5 x (k3 x hx)⟩
      · cases j with
        | zero =>
          simp at hc hu ho
          subst hc; subst hu; subst ho
          exact ⟨k1, fun x hx => ⟨m5 x (k2 x hx).1, (k2 x hx).2⟩⟩
        | succ j =>
          obtain ⟨n1, n2⟩ := m3 j c u' o' (by simpa using hc) (by simpa using hu) (by simpa using ho)
          exact ⟨n1, fun x hx => ⟨(n2 x hx).1, fun hm => (n2 x hx).2 (k3 x hm)⟩⟩
      · have far : ∀ (k : Nat) (x : Loc), o = some x → os[k]? = some (some x) → False := by
          intro k x ho hk
          have hlt : k < q1.length := by rw [← m2]; exact (List.getElem?_eq_some_iff.1 hk).1
          have := (m3 k _ _ _ (List.getElem?_eq_getElem hlt) (List.getElem?_eq_getElem (by omega)) hk).2 x rfl
          exact this.2 (k2 x ho).1
        cases j with
        | zero => cases j' with
          | zero => rfl
          | succ j' => simp at hj hj'; exact (far j' x hj hj').elim
        | succ j => cases j' with
          | zero => simp at hj hj'; exact (far j x hj' hj).elim
          | succ j' => rw [m4 j j' x (by simpa using hj) (by simpa using hj')]
    have plain : (∀ e t v l, c ≠ .own e t v l) → ((outCells xs r).bind fun q => Rd.pure (c :: q.1, q.2)).eval env.get l0 = some ((cs', xs'), l1) → ∃ os, OCells A γ Fr env w xs xs' cs' (u :: us') os := by
      intro hno he
      simp only [Rd.eval_bind, Option.bind_eq_some_iff] at he
      obtain ⟨⟨⟨q1, q2⟩, l2⟩, h1, h2⟩ := he
      simp only [Rd.eval, Option.some.injEq, Prod.mk.injEq] at h2
      obtain ⟨⟨rfl, rfl⟩, _⟩ := h2
      obtain ⟨os, ho⟩ := outCells_sound h r xs us' q1 _ l0 l2 hr h1
      refine ⟨none :: os, cons c none xs q1 os ?_ (by simp) (fun x hx => hx) ho⟩
      unfold OCell
      split
      · exact absurd rfl (hno _ _ _ _)
      · exact ⟨hg, rfl⟩
    cases c with
    | view x ver =>
      simp only [outCells] at he
      cases hmm : (memLoc x xs || x.s.isLent) with
      | true => rw [hmm] at he; simp [Rd.eval] at he
      | false =>
        rw [hmm] at he
        simp only [Bool.or_eq_false_iff] at hmm
        obtain ⟨hm, hnl⟩ := hmm
        simp only [cond_false, Rd.eval_bind, Option.bind_eq_some_iff] at he
        obtain ⟨⟨⟨e, t, l⟩, l2⟩, h1, ⟨⟨q1, q2⟩, l3⟩, h2, h3⟩ := he
        simp only [Rd.eval, Option.some.injEq, Prod.mk.injEq] at h3
        obtain ⟨⟨rfl, rfl⟩, _⟩ := h3
        have hx := ownerAt_eval h1
        obtain ⟨os, ho⟩ := outCells_sound h r (x :: xs) us' q1 _ l2 l3 hr h2
        have hnx : x ∉ xs := fun hh => by rw [(memLoc_iff x xs).2 hh] at hm; cases hm
        refine ⟨some x :: os, cons _ (some x) (x :: xs) q1 os (.inl ⟨x, ver, rfl, hx, hg.1.trans (h.own x e t ver l hx).1, hnl⟩) (fun y hy => ?_) (fun y hy => by simp [hy]) ho⟩
        injection hy with hy
        subst hy
        exact ⟨by simp, hnx⟩
    | nil e t =>
      simp only [outCells] at he
      cases hs : Nat.blt 0 t.size with
      | false => rw [hs] at he; simp [Rd.eval] at he
      | true =>
        rw [hs] at he
        simp only [cond_true, Rd.eval_bind, Option.bind_eq_some_iff] at he
        obtain ⟨⟨⟨q1, q2⟩, l2⟩, h1, h2⟩ := he
        simp only [Rd.eval, Option.some.injEq, Prod.mk.injEq] at h2
        obtain ⟨⟨rfl, rfl⟩, _⟩ := h2
        obtain ⟨os, ho⟩ := outCells_sound h r xs us' q1 _ l0 l2 hr h1
        exact ⟨none :: os, cons _ none xs q1 os (.inr ⟨rfl, hg.1, rfl, Nat.le_of_ble_eq_true hs⟩) (by simp) (fun x hx => hx) ho⟩
    | int k n => exact plain (by simp) he
    | bool b => exact plain (by simp) he
    | str s => exact plain (by simp) he
    | imm t l p => exact plain (by simp) he
    | _ => simp [outCells, Rd.eval] at he

/-- The answer as a whole. -/
def Outs (A : Fix) (γ : Gh) (Fr : Nat → Prop) (env : Env) (w : World) : List Loc → Out → List Value → Prop
  | _, [], vs => vs = []
  | xs, p :: r, vs => ∃ us os vs' xs', vs = mkVal p.1 us :: vs' ∧ (p.1 = false → us.length = 1) ∧ OCells A γ Fr env w xs xs' p.2 us os ∧ Outs A γ Fr env w xs' r vs'

theorem outOf_sound (h : Core A X γ Fr env a w) (K : Known A X) : ∀ (rs : List ResultVar) (xs : List Loc) (out : Out) (l0 l1 : List Slot), (outOf X xs rs).eval env.get l0 = some (out, l1) →
    ∃ vs, (rs.mapM fun | .tmp t => pure (a.tmps.getD t undef) | .cell b t => do loadVar t (← asAddr (a.tmps.getD b undef)) : Sem (List Value)).run A.P w = .ok vs w ∧ Outs A γ Fr env w xs out vs
  | [], xs, out, l0, l1, he => by
    simp only [outOf, Rd.eval, Option.some.injEq, Prod.mk.injEq] at he
    obtain ⟨rfl, _⟩ := he
    exact ⟨[], rfl, rfl⟩
  | .tmp t :: r, xs, out, l0, l1, he => by
    simp only [outOf, Rd.eval] at he
    have hr := h.asRead t
    revert he hr
    generalize asRead (.tmp t) (env.get (.tmp t)) = av
    intro he hr
    cases av with
    | val g cs =>
      simp only [Rd.eval_bind, Option.bind_eq_some_iff] at he
      obtain ⟨⟨⟨cs', xs'⟩, l2⟩, h1, ⟨q, l3⟩, h2, h3⟩ := he
      simp only [Rd.eval, Option.some.injEq, Prod.mk.injEq] at h3
      obtain ⟨rfl, _⟩ := h3
      obtain ⟨us, hv, hg, hcs⟩ := hr
      obtain ⟨os, ho⟩ := outCells_sound h cs xs us cs' xs' _ _ hcs h1
      obtain ⟨vs, k1, k2⟩ := outOf_sound h K r xs' q _ _ h2
      refine ⟨mkVal g us :: vs, ?_, us, os, vs, xs', rfl, fun hgf => by rw [hcs.length]; exact hg hgf, ho, k2⟩
      simp only [List.mapM_cons, Sem.run_bind, Sem.run_pure, Result.andThen_ok, k1, hv]
    | skip => simp [Rd.eval] at he
    | undef => simp [Rd.eval] at he
    | tup l => simp [Rd.eval] at he
    | box _ _ _ => simp [Rd.eval] at he
    | num _ => simp [Rd.eval] at he
  | .cell b T :: r, xs, out, l0, l1, he => by
    simp only [outOf, Rd.eval_bind, Option.bind_eq_some_iff, Ctx.ti, Rd.eval_ofOpt, Option.map_eq_some_iff] at he
    obtain ⟨_, ⟨ti, m1, rfl⟩, ⟨c, l2⟩, m2, ⟨cs, l3⟩, m3, ⟨⟨cs', xs'⟩, l4⟩, m4, ⟨q, l5⟩, m5, m6⟩ := he
    simp only [Rd.eval, Option.some.injEq, Prod.mk.injEq] at m6
    obtain ⟨rfl, _⟩ := m6
    have ht := K.types T ti m1
    obtain ⟨ad, us, hv, hr, hl, hc⟩ := cellsAt_sound h K.globals (rdCell_sound h m2) m3
    obtain ⟨os, ho⟩ := outCells_sound h cs xs us cs' xs' _ _ hr m4
    obtain ⟨vs, k1, k2⟩ := outOf_sound h K r xs' q _ _ m5
    have hv : a.tmps.getD b undef = .pointer (some ad) := hv
    refine ⟨mkVal ti.agg us :: vs, ?_, us, os, vs, xs', rfl, fun hg => by rw [hl]; exact ht.one hg, ho, k2⟩
    have hasA : (asAddr (a.tmps.getD b undef)).run A.P w = .ok ad w := by rw [hv]; rfl
    simp only [List.mapM_cons, Sem.run_bind, hasA, Sem.run_pure, Result.andThen_ok, run_loadVar_at ht hl hc, k1]

/-- The answer, cell by cell. -/
theorem Outs.all : ∀ (out : Out) (xs : List Loc) (vs : List Value), Outs A γ Fr env w xs out vs → ∃ (f : Nat → Nat → Value) (loc : Nat → Nat → Option Loc), vs.length = out.length ∧
    (∀ i p, out[i]? = some p → vs[i]? = some (mkVal p.1 ((List.range p.2.length).map (f i))) ∧ (p.1 = false → p.2.length = 1) ∧ ∀ j c, p.2[j]? = some c → OCell A γ Fr env w c (f i j) (loc i j)) ∧
    (∀ i j x, loc i j = some x → x ∉ xs) ∧ ∀ i j i' j' x, loc i j = some x → loc i' j' = some x → i = i' ∧ j = j'
  | [], xs, vs, h => ⟨fun _ _ => undef, fun _ _ => none, by rw [show vs = [] from h]; rfl, by simp, by simp, by simp⟩
  | p :: r, xs, vs, ⟨us, os, vs', xs', h1, h2, ⟨m1, m2, m3, m4, m5⟩, h4⟩ => by
    obtain ⟨f, loc, k1, k2, k3, k4⟩ := Outs.all r xs' vs' h4
    have hos : ∀ j x, os.getD j none = some x → os[j]? = some (some x) := by
      intro j x hj
      rw [List.getD_eq_getElem?_getD] at hj
      cases ho : os[j]? with
      | none => rw [ho] at hj; cases hj
      | some o => rw [ho] at hj; rw [show o = some x from hj]
    have hin : ∀ j x, os.getD j none = some x → x ∈ xs' ∧ x ∉ xs := by
      intro j x hj
      have ho := hos j x hj
      have hlt : j < p.2.length := by rw [← m2]; exact (List.getElem?_eq_some_iff.1 ho).1
      exact (m3 j _ _ _ (List.getElem?_eq_getElem hlt) (List.getElem?_eq_getElem (by omega)) ho).2 x rfl
    refine ⟨fun i j => match i with | 0 => us.getD j undef | i + 1 => f i j, fun i j => match i with | 0 => os.getD j none | i + 1 => loc i j, by rw [h1]; simp [k1], fun i q hq => ?_, fun i j x hx => ?_, fun i j i' j' x hx hx' => ?_⟩
    · cases i with
      | zero =>
        simp only [List.getElem?_cons_zero, Option.some.injEq] at hq
        subst hq
        refine ⟨by rw [h1, range_map_getD us _ m1]; rfl, fun hg => by rw [← m1]; exact h2 hg, fun j c hc => ?_⟩
        have hlt : j < p.2.length := (List.getElem?_eq_some_iff.1 hc).1
        have hu : us[j]? = some us[j] := List.getElem?_eq_getElem (by omega)
        have ho : os[j]? = some os[j] := List.getElem?_eq_getElem (by omega)
        have := (m3 j c _ _ hc hu ho).1
        have e2 : os.getD j none = os[j] := by simp [List.getD, ho]
        simp only [getD_of hu, e2]
        exact this
      | succ i =>
        obtain ⟨g1, g2, g3⟩ := k2 i q (by simpa using hq)
        exact ⟨by rw [h1]; simpa using g1, g2, g3⟩
    · cases i with
      | zero => exact (hin j x hx).2
      | succ i => exact fun hm => k3 i j x hx (m5 x hm)
    · cases i with
      | zero => cases i' with
        | zero => exact ⟨rfl, m4 j j' x (hos j x hx) (hos j' x hx')⟩
        | succ i' => exact (k3 i' j' x hx' (hin j x hx).1).elim
      | succ i => cases i' with
        | zero => exact (k3 i j x hx (hin j' x hx').1).elim
        | succ i' => obtain ⟨e1, e2⟩ := k4 i j i' j' x hx hx'; exact ⟨by rw [e1], e2⟩

/-! ### The answer, decoded -/
inductive Dec : Cell → RCell → Prop where
  | flat (c : Cell) (h : zcell c = true) (ho : ∀ e t v l, c ≠ .own e t v l) : Dec c (.flat c)
  | own (e : TypeId) (t : Ty) (v : Nat) (l : List t.den) : Dec (.own e t v l) (.own e t l)
  | froze (e : TypeId) (t : Ty) (v : Nat) (l : List t.den) : Dec (.own e t v l) (.imm t l)
  | imm (t : Ty) (l : List t.den) (p : Option Nat) : Dec (.imm t l p) (.imm t l)
  | pass (t : Ty) (l : List t.den) (j : Nat) : Dec (.imm t l (some j)) (.pass j)

def Decs (cs : List Cell) (rs : List RCell) : Prop := cs.length = rs.length ∧ ∀ (j : Nat) (c : Cell) (rc : RCell), cs[j]? = some c → rs[j]? = some rc → Dec c rc

theorem Decs.append {cs cs' : List Cell} {rs rs' : List RCell} (h : Decs cs rs) (h' : Decs cs' rs') : Decs (cs ++ cs') (rs ++ rs') := by
  refine ⟨by simp [h.1, h'.1], fun j c rc hc hr => ?_⟩
  by_cases hj : j < cs.length
  · rw [List.getElem?_append_left hj] at hc
    rw [List.getElem?_append_left (by rw [← h.1]; exact hj)] at hr
    exact h.2 j c rc hc hr
  · rw [List.getElem?_append_right (by omega)] at hc
    rw [List.getElem?_append_right (by rw [← h.1]; omega), ← h.1] at hr
    exact h'.2 _ c rc hc hr

theorem Decs.one {c : Cell} {rc : RCell} (h : Dec c rc) : Decs [c] [rc] := ⟨rfl, fun j c' rc' hc hr => by
  cases j <;> simp at hc hr
  subst hc; subst hr; exact h⟩

theorem decodeM_sound : ∀ (t : Ty) (ms : List RMode) (cs : List Cell) (x : t.den) (r : List Cell) (ms' : List RMode), decodeM t ms cs = some (x, r, ms') → ∃ c1, cs = c1 ++ r ∧ Decs c1 (resM t x ms).1 ∧ (resM t x ms).2 = ms'
  | .int k, ms, cs, x, r, ms', h => by
    cases cs with
    | nil => simp [decodeM] at h
    | cons c cs =>
      cases c <;> simp [decodeM] at h
      obtain ⟨rfl, rfl, rfl, rfl⟩ := h
      exact ⟨_, rfl, Decs.one (.flat _ rfl (by simp)), rfl⟩
  | .bool, ms, cs, x, r, ms', h => by
    cases cs with
    | nil => simp [decodeM] at h
    | cons c cs =>
      cases c <;> simp [decodeM] at h
      obtain ⟨rfl, rfl, rfl⟩ := h
      exact ⟨_, rfl, Decs.one (.flat _ rfl (by simp)), rfl⟩
  | .str, ms, cs, x, r, ms', h => by
    cases cs with
    | nil => simp [decodeM] at h
    | cons c cs =>
      cases c <;> simp [decodeM] at h
      obtain ⟨rfl, rfl, rfl⟩ := h
      exact ⟨_, rfl, Decs.one (.flat _ rfl (by simp)), rfl⟩
  | .unit, ms, cs, x, r, ms', h => by
    simp [decodeM] at h
    obtain ⟨rfl, rfl⟩ := h
    exact ⟨[], rfl, ⟨rfl, by simp⟩, rfl⟩
  | .pair a b, ms, cs, x, r, ms', h => by
    simp only [decodeM, Option.bind_eq_some_iff] at h
    obtain ⟨⟨x1, r1, m1⟩, h1, ⟨x2, r2, m2⟩, h2, h3⟩ := h
    simp only [Option.some.injEq, Prod.mk.injEq] at h3
    obtain ⟨rfl, rfl, rfl⟩ := h3
    obtain ⟨c1, rfl, d1, e1⟩ := decodeM_sound a ms cs x1 r1 m1 h1
    obtain ⟨c2, e0, d2, e2⟩ := decodeM_sound b m1 r1 x2 r2 m2 h2
    refine ⟨c1 ++ c2, by rw [e0, List.append_assoc], ?_, ?_⟩
    · simp only [resM, e1]; exact d1.append d2
    · simp only [resM, e1]; exact e2
  | .sl t, ms, cs, x, r, ms', h => by
    cases ms with
    | nil => simp [decodeM] at h
    | cons m ms =>
      cases cs with
      | nil => cases m <;> simp [decodeM] at h
      | cons c cs =>
        cases m with
        | own e =>
          cases c <;> simp only [decodeM, reduceCtorEq] at h
          split at h
          · rename_i hh
            obtain ⟨rfl, rfl⟩ := hh
            simp only [Option.some.injEq, Prod.mk.injEq] at h
            obtain ⟨rfl, rfl, rfl⟩ := h
            exact ⟨_, rfl, Decs.one (.own _ _ _ _), rfl⟩
          · cases h
        | imm =>
          cases c <;> simp only [decodeM, reduceCtorEq] at h
          · split at h
            · rename_i hh
              subst hh
              simp only [Option.some.injEq, Prod.mk.injEq] at h
              obtain ⟨rfl, rfl, rfl⟩ := h
              exact ⟨_, rfl, Decs.one (.froze _ _ _ _), rfl⟩
            · cases h
          · split at h
            · rename_i hh
              subst hh
              simp only [Option.some.injEq, Prod.mk.injEq] at h
              obtain ⟨rfl, rfl, rfl⟩ := h
              exact ⟨_, rfl, Decs.one (.imm _ _ _), rfl⟩
            · cases h
        | pass j =>
          cases c <;> try (simp [decodeM] at h; done)
          rename_i t' l p
          cases p with
          | none => simp [decodeM] at h
          | some j' =>
            simp only [decodeM] at h
            split at h
            · rename_i hh
              obtain ⟨rfl, rfl⟩ := hh
              simp only [Option.some.injEq, Prod.mk.injEq] at h
              obtain ⟨rfl, rfl, rfl⟩ := h
              exact ⟨_, rfl, Decs.one (.pass _ _ _), rfl⟩
            · cases h

theorem decodeL_sound : ∀ (R : List (Bool × Ty)) (ms : List RMode) (out : Out) (r : denL R), decodeL R ms out = some r →
    out.length = (resL R r ms).length ∧ ∀ (i : Nat) (p : Bool × List RCell) (q : Bool × List Cell), (resL R r ms)[i]? = some p → out[i]? = some q → q.1 = p.1 ∧ Decs q.2 p.2
  | [], ms, out, r, h => by
    cases out with
    | nil => exact ⟨rfl, by simp⟩
    | cons p q => simp [decodeL] at h
  | p :: R, ms, out, r, h => by
    cases out with
    | nil => simp [decodeL] at h
    | cons q out =>
      obtain ⟨g, cs⟩ := q
      simp only [decodeL] at h
      cases hg : (p.1 == g) with
      | false => rw [hg] at h; simp at h
      | true =>
        rw [hg] at h
        have hg : p.1 = g := by simpa using hg
        simp only [cond_true] at h
        split at h
        · rename_i x ms' hx
          simp only [Option.map_eq_some_iff] at h
          obtain ⟨y, h1, rfl⟩ := h
          obtain ⟨c1, e1, d1, e2⟩ := decodeM_sound p.2 ms cs x [] ms' hx
          rw [List.append_nil] at e1
          subst e1
          obtain ⟨k1, k2⟩ := decodeL_sound R ms' out y h1
          simp only [resL, e2]
          refine ⟨by simp [k1], fun i p' q' hp hq => ?_⟩
          cases i with
          | zero =>
            simp at hp hq
            subst hp; subst hq
            exact ⟨hg.symm, d1⟩
          | succ i => exact k2 i p' q' (by simpa using hp) (by simpa using hq)
        · cases h

theorem OwnV.rebase {Z : Nat → Prop} {w : World} {B B' : Nat} {e : TypeId} {t : Ty} {v : Value} {l : List t.den} (h : OwnV Z w B e t v l) (hB : ∀ g, v.ownBlock = some g → B' ≤ g) : OwnV Z w B' e t v l := by
  obtain ⟨h0, xs, ho, hr⟩ := h
  refine ⟨h0, xs, ⟨ho.1, ?_⟩, hr⟩
  rcases ho.2 with hn | ⟨g, cap, cur, fz, h1, h2, rest⟩
  · exact .inl hn
  · exact .inr ⟨g, cap, cur, fz, h1, hB g (by rw [h1]; rfl), rest⟩

/-- The answer keeps the contract. -/
theorem fin_rel (h : Core A X γ Fr env a w) {R : List (Bool × Ty)} {ms : List RMode} {out : Out} {r : denL R} {vs : List Value} (hd : decodeL R ms out = some r) (ho : Outs A γ Fr env w [] out vs) :
    ∃ Z', (∀ g, γ.Z g → Z' g) ∧ (∀ g, Z' g → γ.Z g ∨ (A.w0.heap.size ≤ g ∧ g < w.heap.size)) ∧ ResRel Z' w A.w0.heap.size A.pars (resL R r ms) vs := by
  obtain ⟨f, loc, k1, k2, _, k4⟩ := ho.all
  obtain ⟨d1, d2⟩ := decodeL_sound R ms out r hd
  have hout : ∀ (i : Nat) (p : Bool × List RCell), (resL R r ms)[i]? = some p → ∃ q, out[i]? = some q ∧ q.1 = p.1 ∧ Decs q.2 p.2 := by
    intro i p hp
    have hlt : i < out.length := by rw [d1]; exact (List.getElem?_eq_some_iff.1 hp).1
    exact ⟨_, List.getElem?_eq_getElem hlt, d2 i p _ hp (List.getElem?_eq_getElem hlt)⟩
  have hcell : ∀ (i j : Nat) (p : Bool × List RCell) (rc : RCell), (resL R r ms)[i]? = some p → p.2[j]? = some rc → ∃ c, Dec c rc ∧ OCell A γ Fr env w c (f i j) (loc i j) := by
    intro i j p rc hp hj
    obtain ⟨q, hq, _, hdec⟩ := hout i p hp
    have hlt : j < q.2.length := by rw [hdec.1]; exact (List.getElem?_eq_some_iff.1 hj).1
    exact ⟨_, hdec.2 j _ rc (List.getElem?_eq_getElem hlt) hj, (k2 i q hq).2.2 j _ (List.getElem?_eq_getElem hlt)⟩
  refine ⟨fun g => γ.Z g ∨ ∃ (i j : Nat) (p : Bool × List RCell) (t : Ty) (l : List t.den) (x : Loc) (e : TypeId) (ver : Nat) (l' : List t.den), (resL R r ms)[i]? = some p ∧ p.2[j]? = some (.imm t l) ∧ loc i j = some x ∧ envCell env x = some (.own e t ver l') ∧ x.s.isLent = false ∧ (γ.φ x).ownBlock = some g,
    fun g hg => .inl hg, ?_, f, by rw [k1, d1], fun i p hp => ?_, ?_⟩
  · rintro g (hg | ⟨i, j, p, t, l, x, e, ver, l', _, _, _, hx, hnl, hb⟩)
    · exact .inl hg
    · exact .inr ⟨h.fresh x _ _ _ _ hx hnl g hb, ((h.cell x _ hx).1.lt g hb).2⟩
  · obtain ⟨q, hq, hq1, hdec⟩ := hout i p hp
    obtain ⟨g1, g2, _⟩ := k2 i q hq
    rw [hq1, hdec.1] at g1 g2
    refine ⟨g1, g2, fun j rc hrc => ?_⟩
    obtain ⟨c, hdc, hoc⟩ := hcell i j p rc hp hrc
    cases hdc with
    | flat c hz hno =>
      have hg : GoodR A γ w Fr c (f i j) := by
        unfold OCell at hoc
        split at hoc
        · exact absurd rfl (hno _ _ _ _)
        · exact hoc.1
      refine ⟨hz, ?_⟩
      cases c <;> simp [zcell] at hz
      all_goals exact hg.1
    | own e t v l =>
      rcases hoc with ⟨x, ver, hlx, hx, hu, hnl⟩ | ⟨_, hu, rfl, hs⟩
      · refine ⟨by rw [hu]; exact OwnV.rebase ((h.cell x _ hx).1.mono (fun g hg => .inl hg) (fun _ _ => rfl) (fun _ _ => rfl)) (fun g hg => h.fresh x _ _ _ _ hx hnl g hg), fun g hg => ?_⟩
        rw [hu] at hg
        obtain ⟨a1, a2, a3⟩ := (h.own x e t ver l hx).2.2 g hg
        rintro (hz | ⟨i', j', p', t', l1, x', e', ver', l', hp', hj', hlx', hx', _, hb⟩)
        · exact a1 hz
        · have hxx := a3 x' e' t' ver' l' hx' hb
          subst hxx
          obtain ⟨rfl, rfl⟩ := k4 i j i' j' x' hlx hlx'
          rw [hp] at hp'
          injection hp' with hp'
          subst hp'
          rw [hrc] at hj'
          cases hj'
      · rw [hu]
        exact ⟨OwnV.nil hs, fun g hg => by simp [Value.ownBlock] at hg⟩
    | froze e t v l =>
      rcases hoc with ⟨x, ver, hlx, hx, hu, hnl⟩ | ⟨_, hu, rfl, hs⟩
      · simp only [RRel]
        rw [hu]
        exact (h.cell x _ hx).1.reads _ (fun g hg => .inl hg) (fun g hg => .inr ⟨i, j, p, t, l, x, e, ver, l, hp, hrc, hlx, hx, hnl, hg⟩)
      · simp only [RRel]
        rw [hu]
        exact ⟨none, 0, rfl, Nat.le_refl _, fun i x hx => by simp at hx⟩
    | imm t l pr =>
      have hg : GoodR A γ w Fr (.imm t l pr) (f i j) := hoc.1
      exact RepI.mono (fun g hg => .inl hg) (fun _ _ => rfl) _ _ _ hg.1.1
    | pass t l k =>
      have hg : GoodR A γ w Fr (.imm t l (some k)) (f i j) := hoc.1
      exact hg.1.2 k rfl
  · intro i j i' j' p p' rc rc' g hp hj hr hp' hj' hr' hg hg'
    obtain ⟨c, hdc, hoc⟩ := hcell i j p rc hp hj
    obtain ⟨c', hdc', hoc'⟩ := hcell i' j' p' rc' hp' hj'
    cases hdc <;> simp [RCell.isOwn] at hr
    cases hdc' <;> simp [RCell.isOwn] at hr'
    rcases hoc with ⟨x, ver, hlx, hx, hu, _⟩ | ⟨_, hu, _, _⟩
    · rcases hoc' with ⟨x', ver', hlx', hx', hu', _⟩ | ⟨_, hu', _, _⟩
      · rw [hu] at hg
        rw [hu'] at hg'
        have := ((h.own x _ _ _ _ hx).2.2 g hg).2.2 x' _ _ _ _ hx' hg'
        subst this
        exact k4 i j i' j' x' hlx hlx'
      · rw [hu'] at hg'; simp [Value.ownBlock] at hg'
    · rw [hu] at hg; simp [Value.ownBlock] at hg
end
end
end Go.VI
