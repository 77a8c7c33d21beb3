/- VI, part 19: a call's arguments. -/
import Derived.Test.YtlnfgikipeiaiaaViApp
namespace Go.VI
open Go.RowKit
def RelArgs (P : Program) (G : World → Prop) (Z : Nat → Prop) (w : World) : (As : List ATy) → denA As → List Value → Prop
  | [], _, vs => vs = []
  | .data g t :: r, x, vs => ∃ us vs', vs = mkVal g us :: vs' ∧ (g = false → us.length = 1) ∧ RepI Z w t x.1 us ∧ RelArgs P G Z w r x.2 vs'
  | .ptr t :: r, x, vs => ∃ (ad : Addr) (us vs' : List Value), vs = .pointer (some ad) :: vs' ∧ Z ad.block ∧ RepI Z w t x.1 us ∧ (∀ j u, us[j]? = some u → w.cell? (ad.add j) = some u) ∧ RelArgs P G Z w r x.2 vs'
  | .clo a b :: r, x, vs => ∃ v vs', vs = v :: vs' ∧ CloOK P G Z w a b x.1 v ∧ RelArgs P G Z w r x.2 vs'
  | .lrow .. :: _, _, _ => False
  | .lptr _ :: _, _, _ => False
section
variable {A : Fix} {X : Ctx} {γ : Gh} {Fr : Nat → Prop} {env : Env} {a : Act} {w w' : World} {vn : Nat} {o : Oper} {us : List Upd} {lg : List Slot}
theorem zoneOf_app {ss ss' : List Src} {g : Nat} : zoneOf γ (ss ++ ss') g ↔ zoneOf γ ss g ∨ zoneOf γ ss' g := by
  simp only [zoneOf, List.mem_append]
  constructor
  · rintro (h | ⟨s, hs | hs, hb⟩)
    · exact .inl (.inl h)
    · exact .inl (.inr ⟨s, hs, hb⟩)
    · exact .inr (.inr ⟨s, hs, hb⟩)
  · rintro ((h | ⟨s, hs, hb⟩) | (h | ⟨s, hs, hb⟩))
    · exact .inl h
    · exact .inr ⟨s, .inl hs, hb⟩
    · exact .inl h
    · exact .inr ⟨s, .inr hs, hb⟩
theorem solid_own {c c' : Cell} {ss : List Src} {e : Slot → AV} {l0 l1 : List Slot} (ho : c.isOwn = false) (hs : (solid c).eval e l0 = some ((c', ss), l1)) : c'.isOwn = false ∧ (∀ r, refs c' = some r → refs c = some r) := by
  cases c with
  | view x ver =>
    simp only [solid, Rd.eval_bind, Option.bind_eq_some_iff] at hs
    obtain ⟨_, _, h2⟩ := hs
    simp only [Rd.eval, Option.some.injEq, Prod.mk.injEq] at h2
    obtain ⟨⟨rfl, _⟩, _⟩ := h2
    exact ⟨rfl, by simp [refs]⟩
  | sub x ver sz lo hi =>
    simp only [solid, Rd.eval_bind, Option.bind_eq_some_iff] at hs
    obtain ⟨p, _, h2⟩ := hs
    cases hb : Nat.beq sz p.1.2.1.size <;> rw [hb] at h2 <;> simp [Rd.eval] at h2
    obtain ⟨⟨rfl, _⟩, _⟩ := h2
    exact ⟨rfl, by simp [refs]⟩
  | barr b bv off n t =>
    simp only [solid, Rd.eval_bind, Option.bind_eq_some_iff] at hs
    obtain ⟨_, _, _, _, h2⟩ := hs
    simp only [Rd.eval, Option.some.injEq, Prod.mk.injEq] at h2
    obtain ⟨⟨rfl, _⟩, _⟩ := h2
    exact ⟨rfl, by simp [refs]⟩
  | _ =>
    simp only [solid, Rd.eval, Option.some.injEq, Prod.mk.injEq] at hs
    obtain ⟨⟨rfl, _⟩, _⟩ := hs
    exact ⟨ho, fun _ h => h⟩
theorem solids_sound (h : Core A X γ Fr env a w) (Z' : Nat → Prop) : ∀ (cs : List Cell) {us : List Value} {cs' : List Cell} {ss : List Src} {l0 l1 : List Slot}, RelCs A γ w Fr cs us → (solids cs).eval env.get l0 = some ((cs', ss), l1) →
    (∀ g, zoneOf γ ss g → Z' g) → RelCs A { γ with Z := Z' } w Fr cs' us
  | [], us, cs', ss, l0, l1, hr, he, _ => by
    simp only [solids, Rd.eval, Option.some.injEq, Prod.mk.injEq] at he
    obtain ⟨⟨rfl, _⟩, _⟩ := he
    exact hr
  | c :: r, us, cs', ss, l0, l1, ⟨u, us', h1, h2, h3⟩, he, hZ => by
    simp only [solids, Rd.eval_bind, Option.bind_eq_some_iff] at he
    obtain ⟨⟨⟨c', s1⟩, l2⟩, k1, ⟨⟨r', s2⟩, l3⟩, k2, k3⟩ := he
    simp only [Rd.eval, Option.some.injEq, Prod.mk.injEq] at k3
    obtain ⟨⟨rfl, rfl⟩, _⟩ := k3
    have q := solid_own h2.2.2.2 k1
    exact ⟨u, us', h1, ⟨(slice_reads h h2 k1 Z' fun g hg => hZ g (zoneOf_app.2 (.inl hg))).1, h2.2.1, fun r hr => h2.2.2.1 r (q.2 r hr), q.1⟩,
      solids_sound h Z' r h3 k2 fun g hg => hZ g (zoneOf_app.2 (.inr hg))⟩
theorem solidArgs_sound (h : Core A X γ Fr env a w) (Z' : Nat → Prop) : ∀ (cs : List (Bool × List Cell)) {vs : List Value} {cs' : List (Bool × List Cell)} {ss : List Src} {l0 l1 : List Slot}, RelComps A γ w Fr cs vs →
    (solidArgs cs).eval env.get l0 = some ((cs', ss), l1) → (∀ g, zoneOf γ ss g → Z' g) → RelComps A { γ with Z := Z' } w Fr cs' vs
  | [], vs, cs', ss, l0, l1, hr, he, _ => by
    simp only [solidArgs, Rd.eval, Option.some.injEq, Prod.mk.injEq] at he
    obtain ⟨⟨rfl, _⟩, _⟩ := he
    exact hr
  | p :: r, vs, cs', ss, l0, l1, ⟨v, vs', h1, ⟨us, hv, hl, h2⟩, h3⟩, he, hZ => by
    simp only [solidArgs, Rd.eval_bind, Option.bind_eq_some_iff] at he
    obtain ⟨⟨⟨c', s1⟩, l2⟩, k1, ⟨⟨r', s2⟩, l3⟩, k2, k3⟩ := he
    simp only [Rd.eval, Option.some.injEq, Prod.mk.injEq] at k3
    obtain ⟨⟨rfl, rfl⟩, _⟩ := k3
    have hc := solids_sound h Z' p.2 h2 k1 fun g hg => hZ g (zoneOf_app.2 (.inl hg))
    exact ⟨v, vs', h1, ⟨us, hv, fun hg => by rw [← hc.length, h2.length]; exact hl hg, hc⟩, solidArgs_sound h Z' r h3 k2 fun g hg => hZ g (zoneOf_app.2 (.inr hg))⟩
theorem implode_all {Z : Nat → Prop} {t : Ty} {cs : List Cell} {us : List Value} {x : t.den} (h : implode t cs = some (x, [])) (hr : RelCs A { γ with Z := Z } w Fr cs us) : RepI Z w t x us := by
  obtain ⟨u1, u2, rfl, r1, r2⟩ := implode_rel t cs us x [] h hr
  rw [show u2 = [] from r2, List.append_nil]
  exact r1
theorem implodeArgs_ptr {t : Ty} {as : List ATy} {cs : List (Bool × List Cell)} {q : denA (.ptr t :: as) × List Src} {e : Slot → AV} {l0 l1 : List Slot} (he : (implodeArgs (.ptr t :: as) cs).eval e l0 = some (q, l1)) : ∃ c r, cs = (false, [c]) :: r := by
  match cs with
  | [] => simp [implodeArgs, Rd.eval] at he
  | (true, _) :: r => simp [implodeArgs, Rd.eval] at he
  | (false, []) :: r => simp [implodeArgs, Rd.eval] at he
  | (false, c :: c' :: q) :: r => simp [implodeArgs, Rd.eval] at he
  | (false, [c]) :: r => exact ⟨c, r, rfl⟩
theorem implodeArgs_clo {b1 b2 : List (Bool × Ty)} {as : List ATy} {cs : List (Bool × List Cell)} {q : denA (.clo b1 b2 :: as) × List Src} {e : Slot → AV} {l0 l1 : List Slot} (he : (implodeArgs (.clo b1 b2 :: as) cs).eval e l0 = some (q, l1)) :
    ∃ a b F r, cs = (false, [.clo a b F]) :: r := by
  match cs with
  | [] => simp [implodeArgs, Rd.eval] at he
  | (true, _) :: r => simp [implodeArgs, Rd.eval] at he
  | (false, []) :: r => simp [implodeArgs, Rd.eval] at he
  | (false, c :: c' :: q) :: r => simp [implodeArgs, Rd.eval] at he
  | (false, [c]) :: r => cases c <;> first | exact ⟨_, _, _, r, rfl⟩ | simp [implodeArgs, Rd.eval] at he
theorem implodeArgs_lent {as : List ATy} {cs : List (Bool × List Cell)} {e : Slot → AV} {l0 l1 : List Slot} : (∀ g t es (q : denA (.lrow g t es :: as) × List Src), (implodeArgs (.lrow g t es :: as) cs).eval e l0 ≠ some (q, l1)) ∧
    ∀ t (q : denA (.lptr t :: as) × List Src), (implodeArgs (.lptr t :: as) cs).eval e l0 ≠ some (q, l1) := by
  constructor
  · intro g t es q
    match cs with
    | [] => simp [implodeArgs, Rd.eval]
    | (g', c) :: r => cases g' <;> simp [implodeArgs, Rd.eval]
  · intro t q
    match cs with
    | [] => simp [implodeArgs, Rd.eval]
    | (g', c) :: r => cases g' <;> simp [implodeArgs, Rd.eval]
theorem implodeArgs_sound (h : Core A X γ Fr env a w) (Z : Nat → Prop) (hγZ : ∀ g, γ.Z g → Z g) : ∀ (As : List ATy) (cs : List (Bool × List Cell)) {vs : List Value} {xs : denA As} {ss : List Src} {l0 l1 : List Slot},
    RelComps A { γ with Z := Z } w Fr cs vs → (implodeArgs As cs).eval env.get l0 = some ((xs, ss), l1) → (∀ s ∈ ss, ∀ g, srcBlock γ g s → Z g) → RelArgs A.P A.G Z w As xs vs
  | [], cs, vs, xs, ss, l0, l1, hr, he, _ => by
    cases cs with
    | nil => exact hr
    | cons p r => simp [implodeArgs, Rd.eval] at he
  | .data g t :: as, cs, vs, xs, ss, l0, l1, hr, he, hs => by
    cases cs with
    | nil => simp [implodeArgs, Rd.eval] at he
    | cons p r =>
      obtain ⟨g', c⟩ := p
      obtain ⟨v, vs', h1, ⟨us, hv, hl, h2⟩, h3⟩ := hr
      simp only [implodeArgs] at he
      cases hg : (g == g') with
      | false => rw [hg] at he; simp [Rd.eval] at he
      | true =>
        rw [hg] at he
        have hg : g = g' := by simpa using hg
        subst hg
        simp only [cond_true] at he
        split at he
        · rename_i x hx
          simp only [Rd.eval_bind, Option.bind_eq_some_iff] at he
          obtain ⟨⟨⟨q1, q2⟩, l2⟩, k1, k2⟩ := he
          simp only [Rd.eval, Option.some.injEq, Prod.mk.injEq] at k2
          obtain ⟨⟨rfl, rfl⟩, _⟩ := k2
          exact ⟨us, vs', by rw [h1, hv], fun hgf => by rw [h2.length]; exact hl hgf, implode_all hx h2, implodeArgs_sound h Z hγZ as r h3 k1 hs⟩
        · simp [Rd.eval] at he
  | .ptr t :: as, cs, vs, xs, ss, l0, l1, hr, he, hs => by
    obtain ⟨c, r, rfl⟩ := implodeArgs_ptr he
    · simp only [implodeArgs] at he
      simp only [Rd.eval_bind, Option.bind_eq_some_iff] at he
      obtain ⟨⟨⟨p1, p2⟩, l2⟩, k1, k2⟩ := he
      simp only at k2
      split at k2
      · rename_i x hx
        simp only [Rd.eval_bind, Option.bind_eq_some_iff] at k2
        obtain ⟨⟨⟨q1, q2⟩, l3⟩, k3, k4⟩ := k2
        simp only [Rd.eval, Option.some.injEq, Prod.mk.injEq] at k4
        obtain ⟨⟨rfl, rfl⟩, _⟩ := k4
        obtain ⟨v, vs', h1, ⟨us, hv, hl, u, us', rfl, hg, h2⟩, h3⟩ := hr
        have hv : v = u := hv
        have ih := implodeArgs_sound h Z hγZ as r h3 k3 fun s hs' => hs s (List.mem_append_right _ hs')
        have hs1 := fun s (hs' : s ∈ p2) => hs s (List.mem_append_left _ hs')
        unfold getPtr at k1
        split at k1
        · rename_i b bv
          simp only [Rd.eval_bind, Option.bind_eq_some_iff] at k1
          obtain ⟨⟨⟨fz, cs0⟩, l4⟩, m1, m2⟩ := k1
          simp only [Rd.eval, Option.some.injEq, Prod.mk.injEq] at m2
          obtain ⟨⟨rfl, rfl⟩, _⟩ := m2
          obtain ⟨c1, c2⟩ := h.boxCells (boxAt_eval m1) 0
          simp only [List.drop_zero] at c1 c2
          have hzx : ZExt γ { γ with Z := Z } := ⟨rfl, rfl, rfl, hγZ⟩
          have c1' := RelCs.zext hzx c1
          refine ⟨⟨γ.σ b bv, 0, none⟩, _, vs', by rw [h1, hv]; exact congrArg (· :: vs') hg.1, hs1 _ (List.mem_singleton.2 rfl) _ rfl, implode_all hx c1', fun j u hu => ?_, ih⟩
          have := c2 j u hu
          simpa [add_plain] using this
        · rename_i t0 x0
          simp only [Rd.eval, Option.some.injEq, Prod.mk.injEq] at k1
          obtain ⟨⟨rfl, rfl⟩, _⟩ := k1
          obtain ⟨ad, us0, hv0, hz, hrep, hcell⟩ := hg.1
          have hexp := explode_rel (A := A) (γ := { γ with Z := Z }) (w := w) (Fr := Fr) t0 x0 us0 hrep
          have had : ad.add 0 = ad := by simp [Addr.add]
          refine ⟨ad, us0, vs', by rw [h1, hv, hv0, had]; rfl, hz, implode_all hx hexp, hcell, ih⟩
        · simp [Rd.eval] at k1
      · simp [Rd.eval] at k2
  | .clo b1 b2 :: as, cs, vs, xs, ss, l0, l1, hr, he, hs => by
    obtain ⟨d1, d2, F, r, rfl⟩ := implodeArgs_clo he
    · simp only [implodeArgs] at he
      split at he
      · rename_i hh
        obtain ⟨rfl, rfl⟩ := hh
        simp only [Rd.eval_bind, Option.bind_eq_some_iff] at he
        obtain ⟨⟨⟨q1, q2⟩, l3⟩, k3, k4⟩ := he
        simp only [Rd.eval, Option.some.injEq, Prod.mk.injEq] at k4
        obtain ⟨⟨rfl, rfl⟩, _⟩ := k4
        obtain ⟨v, vs', h1, ⟨us, hv, hl, u, us', rfl, hg, h2⟩, h3⟩ := hr
        have hv : v = u := hv
        exact ⟨v, vs', h1, by rw [hv]; exact hg.1, implodeArgs_sound h Z hγZ as r h3 k3 hs⟩
      · simp [Rd.eval] at he
  | .lrow g t es :: as, cs, vs, xs, ss, l0, l1, hr, he, hs => absurd he (implodeArgs_lent.1 g t es _)
  | .lptr t :: as, cs, vs, xs, ss, l0, l1, hr, he, hs => absurd he (implodeArgs_lent.2 t _)
theorem freezeAll_sound {env0 : Env} : ∀ (ss : List Src) (xs : List Loc) (γ : Gh) (env1 : Env) (us : List Upd) (lg lg' : List Slot),
    Core A X γ Fr env1 a w → (∀ y, memLoc y xs = false → envCell env1 y = envCell env0 y) → (∀ y, memLoc y xs = true → ∀ g, (γ.φ y).ownBlock = some g → γ.Z g) →
    (freezeAll xs ss).eval env0.get lg = some (us, lg') → ∃ γ', Core A X γ' Fr (appAll env1 us) a w ∧ ZExt γ γ' ∧ ∀ g, zoneOf γ ss g → γ'.Z g
  | [], xs, γ, env1, us, lg, lg', hc, hag, hx, he => by
    simp only [freezeAll, Rd.eval, Option.some.injEq, Prod.mk.injEq] at he
    obtain ⟨rfl, _⟩ := he
    refine ⟨γ, hc, ZExt.refl γ, fun g hg => ?_⟩
    rcases hg with hg | ⟨s, hs, _⟩
    · exact hg
    · cases hs
  | .arr b bv :: r, xs, γ, env1, us, lg, lg', hc, hag, hx, he => by simp [freezeAll, Rd.eval] at he
  | .row x :: r, xs, γ, env1, us, lg, lg', hc, hag, hx, he => by
    simp only [freezeAll] at he
    cases hm : memLoc x xs with
    | true =>
      rw [hm] at he
      obtain ⟨γ', k1, k2, k3⟩ := freezeAll_sound r xs γ env1 us lg lg' hc hag hx he
      refine ⟨γ', k1, k2, fun g hg => ?_⟩
      rcases hg with hg | ⟨s, hs, hb⟩
      · exact k2.2.2.2 g hg
      · rcases List.mem_cons.1 hs with rfl | hs
        · exact k2.2.2.2 g (hx x hm g hb)
        · exact k3 g (.inr ⟨s, hs, hb⟩)
    | false =>
      rw [hm] at he
      cases hnl : x.s.isLent with
      | true => rw [hnl] at he; simp [Rd.eval] at he
      | false =>
      rw [hnl] at he
      simp only [cond_false, Rd.eval] at he
      split at he
      · rename_i e t ver l hcell
        simp only [Rd.eval_bind, Option.bind_eq_some_iff] at he
        obtain ⟨⟨us1, l2⟩, h2, h3⟩ := he
        simp only [Rd.eval, Option.some.injEq, Prod.mk.injEq] at h3
        obtain ⟨rfl, _⟩ := h3
        have hx1 : envCell env1 x = some (.own e t ver l) := by rw [hag x hm]; exact hcell
        have hk := hc.freeze hx1 hnl
        have hz : ZExt γ { γ with Z := fun g => γ.Z g ∨ (γ.φ x).ownBlock = some g } := ⟨rfl, rfl, rfl, fun g hg => .inl hg⟩
        obtain ⟨γ', k1, k2, k3⟩ := freezeAll_sound r (x :: xs) _ _ us1 _ l2 hk (fun y hy => by
            simp only [memLoc, Bool.or_eq_false_iff] at hy
            have hne : y ≠ x := fun e => by rw [e] at hy; have := Loc.beq_iff.2 (rfl : x = x); rw [this] at hy; exact absurd hy.1 (by simp)
            rw [envCell_app_cell, if_neg (fun hh => hne hh.1)]
            exact hag y hy.2) (fun y hy g hg => by
            simp only [memLoc, Bool.or_eq_true, Loc.beq_iff] at hy
            rcases hy with rfl | hy
            · exact .inr hg
            · exact .inl (hx y hy g hg)) h2
        refine ⟨γ', k1, hz.trans k2, fun g hg => ?_⟩
        rcases hg with hg | ⟨s, hs, hb⟩
        · exact k2.2.2.2 g (.inl hg)
        · rcases List.mem_cons.1 hs with rfl | hs
          · exact k2.2.2.2 g (.inr hb)
          · refine k3 g (.inr ⟨s, hs, ?_⟩)
            cases s <;> exact hb
      · simp [Rd.eval] at he
end
end Go.VI
