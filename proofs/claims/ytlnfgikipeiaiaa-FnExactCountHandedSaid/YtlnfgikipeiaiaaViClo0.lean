/- VI, part 20b: what a closure keeps. -/
import Derived.Test.YtlnfgikipeiaiaaViCall
namespace Go.VI
open Go.RowKit
section
variable {A : Fix} {X : Ctx} {γ : Gh} {Fr : Nat → Prop} {env : Env} {a : Act} {w w' : World} {vn : Nat} {o : Oper} {us : List Upd} {lg : List Slot}
theorem RelArgs.keep {P : Program} {G : World → Prop} {Z Z' : Nat → Prop} {w w' : World} (hZ : ∀ g, Z g → Z' g) (hw : ∀ g, Z g → w'.heap[g]? = w.heap[g]?) :
    ∀ (As : List ATy) (xs : denA As) (vs : List Value), ptrsOnly As = true → RelArgs P G Z w As xs vs → RelArgs P G Z' w' As xs vs
  | [], _, _, _, h => h
  | .ptr t :: r, xs, vs, hp, ⟨ad, us, vs', h1, h2, h3, h4, h5⟩ => ⟨ad, us, vs', h1, hZ _ h2, RepI.mono hZ hw _ _ _ h3, fun j u hu => by
      rw [World.cell?_of_block (w := w)]
      · exact h4 j u hu
      · have hb : (ad.add j).block = ad.block := by unfold Addr.add; split <;> rfl
        rw [hb]; exact hw _ h2, RelArgs.keep hZ hw r xs.2 vs' hp h5⟩
  | .data _ _ :: _, _, _, hp, _ => by simp [ptrsOnly] at hp
  | .clo _ _ :: _, _, _, hp, _ => by simp [ptrsOnly] at hp
  | .lrow _ _ _ :: _, _, _, hp, _ => by simp [ptrsOnly] at hp
  | .lptr _ :: _, _, _, hp, _ => by simp [ptrsOnly] at hp
theorem joinA_rel {P : Program} {G : World → Prop} {Z Z2 : Nat → Prop} {w : World} (hZ : ∀ g, Z2 g → Z g) : ∀ (As : List ATy) (ys : denL (cloTy As)) (xs : denA (capTy As)) (vs cs : List Value),
    ptrsOnly (capTy As) = true → RelArgsL Z2 w (cloTy As) ys vs → RelArgs P G Z w (capTy As) xs cs → RelArgs P G Z w As (joinA As ys xs) (vs ++ cs)
  | .data g t :: r, ys, xs, vs, cs, hp, ⟨us, vs', h1, h2, h3, h4⟩, hc => ⟨us, vs' ++ cs, by rw [h1]; rfl, h2, RepI.mono hZ (fun _ _ => rfl) _ _ _ h3, joinA_rel hZ r ys.2 xs vs' cs hp h4 hc⟩
  | [], ys, xs, vs, cs, _, h, hc => by
    rw [show vs = [] from h]
    exact hc
  | .ptr t :: r, ys, xs, vs, cs, _, h, hc => by
    rw [show vs = [] from h]
    exact hc
  | .clo _ _ :: _, _, _, _, _, hp, _, _ => by simp [capTy, ptrsOnly] at hp
  | .lrow _ _ _ :: _, _, _, _, _, hp, _, _ => by simp [capTy, ptrsOnly] at hp
  | .lptr _ :: _, _, _, _, _, hp, _, _ => by simp [capTy, ptrsOnly] at hp
theorem resM_back {Z : Nat → Prop} {B : Nat} {avs : List Value} : ∀ (t : Ty) (x : t.den) (ms : List RMode) (us : List Value), leads t = false → us.length = (resM t x ms).1.length →
    (∀ (j : Nat) (rc : RCell), (resM t x ms).1[j]? = some rc → RRel Z w B avs rc (us.getD j undef)) → RepI (fun _ => False) w t x us ∧ (resM t x ms).2 = ms
  | .int k, n, ms, us, _, hl, h => by
    match us, hl with
    | [u], _ =>
      have := (h 0 _ rfl).2
      exact ⟨congrArg (· :: []) this, rfl⟩
  | .bool, b, ms, us, _, hl, h => by
    match us, hl with
    | [u], _ =>
      have := (h 0 _ rfl).2
      exact ⟨congrArg (· :: []) this, rfl⟩
  | .str, s, ms, us, _, hl, h => by
    match us, hl with
    | [u], _ =>
      have := (h 0 _ rfl).2
      exact ⟨congrArg (· :: []) this, rfl⟩
  | .unit, _, ms, us, _, hl, h => by
    match us, hl with
    | [], _ => exact ⟨rfl, rfl⟩
  | .pair a b, x, ms, us, hlead, hl, h => by
    simp only [leads, Bool.or_eq_false_iff] at hlead
    simp only [resM, List.length_append] at hl h
    obtain ⟨k1, k2⟩ := resM_back a x.1 ms (us.take (resM a x.1 ms).1.length) hlead.1 (by simp; omega) fun j rc hj => by
      have hlt : j < (resM a x.1 ms).1.length := (List.getElem?_eq_some_iff.1 hj).1
      have := h j rc (by rw [List.getElem?_append_left hlt]; exact hj)
      have e : (us.take (resM a x.1 ms).1.length).getD j undef = us.getD j undef := by simp [List.getD, hlt]
      rw [e]; exact this
    obtain ⟨k3, k4⟩ := resM_back b x.2 (resM a x.1 ms).2 (us.drop (resM a x.1 ms).1.length) hlead.2 (by simp; omega) fun j rc hj => by
      have := h ((resM a x.1 ms).1.length + j) rc (by rw [List.getElem?_append_right (by omega)]; simpa using hj)
      have e : (us.drop (resM a x.1 ms).1.length).getD j undef = us.getD ((resM a x.1 ms).1.length + j) undef := by simp [List.getD, List.getElem?_drop]
      rw [e]; exact this
    exact ⟨⟨_, _, (List.take_append_drop _ us).symm, k1, k3⟩, k4.trans k2⟩
  | .sl t, l, ms, us, hlead, hl, h => by simp [leads] at hlead
theorem resL_back {Z : Nat → Prop} {B : Nat} {avs : List Value} (f : Nat → Nat → Value) : ∀ (R : List (Bool × Ty)) (r : denL R) (ms : List RMode) (vs : List Value) (n : Nat), (R.any fun p => leads p.2) = false → vs.length = (resL R r ms).length →
    (∀ i p, (resL R r ms)[i]? = some p → vs[i]? = some (mkVal p.1 ((List.range p.2.length).map (f (n + i)))) ∧ (p.1 = false → p.2.length = 1) ∧ ∀ j rc, p.2[j]? = some rc → RRel Z w B avs rc (f (n + i) j)) → RelResL w R r vs
  | [], r, ms, vs, n, _, hl, _ => by
    match vs, hl with
    | [], _ => rfl
  | q :: R, r, ms, vs, n, hlead, hl, h => by
    simp only [List.any_cons, Bool.or_eq_false_iff] at hlead
    match vs, hl with
    | v :: vs, hl =>
      obtain ⟨h1, h2, h3⟩ := h 0 _ rfl
      simp only [resL] at h1 h2 h3 hl
      obtain ⟨k1, k2⟩ := resM_back (w := w) (Z := Z) (B := B) (avs := avs) q.2 r.1 ms ((List.range (resM q.2 r.1 ms).1.length).map (f (n + 0))) hlead.1 (by simp) fun j rc hj => by
        have hlt : j < (resM q.2 r.1 ms).1.length := (List.getElem?_eq_some_iff.1 hj).1
        have e : ((List.range (resM q.2 r.1 ms).1.length).map (f (n + 0))).getD j undef = f (n + 0) j := by simp [List.getD, hlt]
        rw [e]; exact h3 j rc hj
      simp only [List.getElem?_cons_zero, Option.some.injEq] at h1
      refine ⟨_, vs, by rw [h1], fun hg => by simpa using h2 hg, hlead.1, k1, ?_⟩
      refine resL_back (Z := Z) (B := B) (avs := avs) f R r.2 (resM q.2 r.1 ms).2 vs (n + 1) hlead.2 (by simpa using hl) fun i p hp => ?_
      have := h (i + 1) p hp
      have e : n + 1 + i = n + (i + 1) := by omega
      rw [e]
      simpa using this
theorem cloOK_of {P : Program} {G : World → Prop} {f : FuncId} {C : Contract} (hC : Sound P G f C) {Z : Nat → Prop} {xs : denA (capTy C.As)} {caps : List Value} (hlt : ∀ g, Z g → g < w.heap.size)
    (hp : ptrsOnly (capTy C.As) = true) (hr : (C.R.any fun p => leads p.2) = false) (h : RelArgs P G Z w (capTy C.As) xs caps) :
    CloOK P G Z w (cloTy C.As) C.R (fun ys => C.F (joinA C.As ys xs)) (.func (.func f) #[] caps.toArray) := by
  refine ⟨f, caps.toArray, rfl, fun w2 Z2 ys vs r hkeep hsz hG h2 hvs hF => ?_⟩
  have hc := RelArgs.keep (Z' := fun g => Z g ∨ Z2 g) (fun g hg => .inl hg) hkeep (capTy C.As) xs caps hp h
  have hall := joinA_rel (Z := fun g => Z g ∨ Z2 g) (Z2 := Z2) (fun g hg => .inr hg) C.As ys xs vs caps hp hvs hc
  have := hC w2 (fun g => Z g ∨ Z2 g) (vs ++ caps) (joinA C.As ys xs) r hG (fun g hg => hg.elim (fun hg => Nat.lt_of_lt_of_le (hlt g hg) hsz) (h2 g)) hall hF
  have e : (vs ++ caps).toArray = vs.toArray ++ caps.toArray := by simp
  rw [e] at this
  refine this.mono ?_
  rintro v w' ⟨Z', us, rfl, hb, _, _, f', hl, hcell, _⟩
  refine ⟨us, rfl, hb, ?_⟩
  exact resL_back f' C.R r C.modes us 0 hr hl fun i p hp => by
    have := hcell i p hp
    rw [Nat.zero_add]
    exact this
theorem makeClo_nil {C : Contract} {c : Cell} {us : List Upd} {e : Slot → AV} {l0 l1 : List Slot} (he : (makeClo C []).eval e l0 = some ((c, us), l1)) : ptrsOnly (capTy C.As) = true ∧ (C.R.any fun p => leads p.2) = false ∧ ∃ xs : denA (capTy C.As), c = .clo (cloTy C.As) C.R (fun ys => C.F (joinA C.As ys xs)) ∧ capTy C.As = [] := by
  simp only [makeClo] at he
  cases hok : (ptrsOnly (capTy C.As) && !(C.R.any fun p => leads p.2)) with
  | false => rw [hok] at he; simp [Rd.eval] at he
  | true =>
    rw [hok] at he
    simp only [Bool.and_eq_true, Bool.not_eq_true'] at hok
    simp only [cond_true, Rd.eval_bind, Option.bind_eq_some_iff] at he
    obtain ⟨⟨⟨xs, ss⟩, l3⟩, h4, ⟨us1, l4⟩, h5, h6⟩ := he
    simp only [Rd.eval, Option.some.injEq, Prod.mk.injEq] at h6
    obtain ⟨⟨rfl, rfl⟩, _⟩ := h6
    refine ⟨hok.1, hok.2, xs, rfl, ?_⟩
    revert h4
    generalize hx : xs = xs'
    clear hx h5
    revert xs xs'
    generalize capTy C.As = As
    intro xs xs' h4
    cases As with
    | nil => rfl
    | cons x r => cases x <;> simp [implodeArgs, Rd.eval] at h4
theorem relArgs_nil {P : Program} {G : World → Prop} {Z : Nat → Prop} {w : World} : ∀ {As : List ATy} (xs : denA As), As = [] → RelArgs P G Z w As xs []
  | [], _, _ => rfl
  | _ :: _, _, h => by cases h
theorem cloArg_sound (hcon : ConOK A.P A.G X) (hlt : ∀ g, γ.Z g → g < w.heap.size) {p p' : Bool × List Cell} {v : Value} {l0 l1 : List Slot} (hr : RelComp A γ w Fr p.1 p.2 v) (he : (cloArg X p).eval env.get l0 = some (p', l1)) : RelComp A γ w Fr p'.1 p'.2 v := by
  unfold cloArg at he
  split at he
  · rename_i f
    split at he
    · rename_i C k1
      simp only [Rd.eval_bind, Option.bind_eq_some_iff] at he
      obtain ⟨⟨⟨c, us1⟩, l2⟩, h1, h2⟩ := he
      simp only [Rd.eval, Option.some.injEq, Prod.mk.injEq] at h2
      obtain ⟨rfl, _⟩ := h2
      obtain ⟨k2, k3, xs, rfl, k4⟩ := makeClo_nil h1
      obtain ⟨us, hv, hl, u, us', rfl, hg, h3⟩ := hr
      have h3 : us' = [] := h3
      subst h3
      have hu : u = .func (.func f) #[] #[] := hg.1
      subst hu
      have hclo := cloOK_of (w := w) (hcon f C (look_looks k1)) (Z := γ.Z) (xs := xs) (caps := []) hlt k2 k3 (relArgs_nil xs k4)
      exact ⟨_, hv, fun _ => rfl, _, [], rfl, ⟨hclo, rfl, by simp [refs], rfl⟩, rfl⟩
    · simp only [Rd.eval, Option.some.injEq, Prod.mk.injEq] at he
      obtain ⟨rfl, _⟩ := he
      exact hr
  · simp only [Rd.eval, Option.some.injEq, Prod.mk.injEq] at he
    obtain ⟨rfl, _⟩ := he
    exact hr
theorem cloArgs_sound (hcon : ConOK A.P A.G X) (hlt : ∀ g, γ.Z g → g < w.heap.size) : ∀ {as as' : List (Bool × List Cell)} {vs : List Value} {l0 l1 : List Slot}, RelComps A γ w Fr as vs → (cloArgs X as).eval env.get l0 = some (as', l1) → RelComps A γ w Fr as' vs
  | [], as', vs, l0, l1, hr, he => by
    simp only [cloArgs, Rd.eval, Option.some.injEq, Prod.mk.injEq] at he
    obtain ⟨rfl, _⟩ := he
    exact hr
  | p :: r, as', vs, l0, l1, ⟨v, vs', h1, h2, h3⟩, he => by
    simp only [cloArgs, Rd.eval_bind, Option.bind_eq_some_iff] at he
    obtain ⟨⟨p', l2⟩, k1, ⟨r', l3⟩, k2, k3⟩ := he
    simp only [Rd.eval, Option.some.injEq, Prod.mk.injEq] at k3
    obtain ⟨rfl, _⟩ := k3
    exact ⟨v, vs', h1, cloArg_sound hcon hlt h2 k1, cloArgs_sound hcon hlt h3 k2⟩
end
end Go.VI
