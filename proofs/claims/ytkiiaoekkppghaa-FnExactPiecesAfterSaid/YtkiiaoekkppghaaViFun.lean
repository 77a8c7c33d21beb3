/- VI, part 27: a function keeps the contract that the run tells. -/
import Derived.Test.YtkiiaoekkppghaaViFin
namespace Go.VI
noncomputable section
open Go.RowKit

theorem argEnv_other : ∀ (As : List ATy) (xs : denA As) (i j : Nat) (s : Slot), (∀ t, s ≠ .tmp t) → (argEnv As xs i j).get s = .undef
  | [], _, _, _, _, _ => rfl
  | a :: r, xs, i, j, s, h => by
    simp only [argEnv]
    rw [Env.get_cons_ne _ _ (fun e => h i e.symm)]
    exact argEnv_other r xs.2 _ _ s h

theorem argEnv_low : ∀ (As : List ATy) (xs : denA As) (i j t : Nat), t < i → (argEnv As xs i j).get (.tmp t) = .undef
  | [], _, _, _, _, _ => rfl
  | a :: r, xs, i, j, t, h => by
    simp only [argEnv]
    rw [Env.get_cons_ne _ _ (by simp; omega)]
    exact argEnv_low r xs.2 _ _ t (by omega)

section
variable {A : Fix} {γ : Gh} {w : World}

def ArgRel (P : Program) (G : World → Prop) (Z : Nat → Prop) (w : World) : (a : ATy) → a.den → Value → Prop
  | .data g t, x, v => ∃ us, v = mkVal g us ∧ (g = false → us.length = 1) ∧ RepI Z w t x us
  | .ptr t, x, v => ∃ (ad : Addr) (us : List Value), v = .pointer (some ad) ∧ Z ad.block ∧ RepI Z w t x us ∧ ∀ j u, us[j]? = some u → w.cell? (ad.add j) = some u
  | .clo a b, F, v => CloOK P G Z w a b F v
  | .lrow .., _, _ => False
  | .lptr _, _, _ => False

theorem argCells_rel (a : ATy) (x : a.den) (j : Nat) (v : Value) (vs : List Value) (hp : ∀ (m : Nat) (u : Value), (avsOf (v :: vs))[m]? = some u → A.pars[j + m]? = some u)
    (h : ArgRel A.P A.G γ.Z w a x v) :
    ∃ us, v = mkVal (argCells a x j).1 us ∧ v.cells.toList = us ∧ us.length = (argCells a x j).2.length ∧ ((argCells a x j).1 = false → (argCells a x j).2.length = 1) ∧
      ∀ (m : Nat) (c : Cell) (u : Value), (argCells a x j).2[m]? = some c → us[m]? = some u → RelCell A γ w c u ∧ u.oneCell' = true ∧ refs c = none ∧ c.isOwn = false := by
  cases a with
  | data g t =>
    obtain ⟨us, hv, hg, hr⟩ := h
    have he := explode_rel (A := A) (γ := γ) (w := w) (Fr := fun _ => False) t x us hr
    have hc : v.cells = us.toArray := by rw [hv]; exact mkVal_cells he.one hg
    have hlen : us.length = (argCells (.data g t) x j).2.length := by simp [argCells, he.length]
    have hnr : ∀ (t : Ty) (x : t.den), ∀ c ∈ explode t x, refs c = none := by
      intro t
      induction t with
      | int k => intro x c hc; simp [explode] at hc; subst hc; rfl
      | bool => intro x c hc; simp [explode] at hc; subst hc; rfl
      | str => intro x c hc; simp [explode] at hc; subst hc; rfl
      | unit => intro x c hc; simp [explode] at hc
      | pair a b iha ihb =>
        intro x c hc
        simp only [explode, List.mem_append] at hc
        rcases hc with hc | hc
        · exact iha x.1 c hc
        · exact ihb x.2 c hc
      | sl t _ => intro x c hc; simp [explode] at hc; subst hc; rfl
    refine ⟨us, hv, by rw [hc], hlen, fun hgf => by rw [← hlen]; exact hg hgf, fun m c u hcm hu => ?_⟩
    simp only [argCells, List.getElem?_map, List.getElem?_zipIdx, Option.map_map, Option.map_eq_some_iff, Function.comp_apply] at hcm
    obtain ⟨c0, hc0, rfl⟩ := hcm
    obtain ⟨u', hu', g1, g2, g3, g4⟩ := he.get hc0
    rw [hu] at hu'
    injection hu' with hu'
    subst hu'
    have hn := hnr t x c0 (List.mem_of_getElem? hc0)
    cases c0 with
    | imm t' l' p' =>
      refine ⟨⟨g1.1, fun k hk => ?_⟩, g2, rfl, rfl⟩
      injection hk with hk
      rw [← hk, Nat.zero_add]
      have : avsOf (v :: vs) = us ++ avsOf vs := by simp [avsOf, hc]
      refine hp m u ?_
      rw [this, List.getElem?_append_left (List.getElem?_eq_some_iff.1 hu).1]
      exact hu
    | _ => exact ⟨g1, g2, hn, g4⟩
  | ptr t =>
    obtain ⟨ad, us, rfl, hz, hr, hc⟩ := h
    have had : ad.add 0 = ad := by simp [Addr.add]
    refine ⟨[.pointer (some ad)], rfl, rfl, rfl, fun _ => rfl, fun m c u hcm hu => ?_⟩
    cases m <;> simp [argCells] at hcm hu
    subst hcm; subst hu
    exact ⟨⟨ad, us, by rw [had], hz, hr, hc⟩, rfl, rfl, rfl⟩
  | clo as rs =>
    have hv : ∃ f caps, v = .func (.func f) #[] caps := by obtain ⟨f, caps, hv, _⟩ := h; exact ⟨f, caps, hv⟩
    obtain ⟨f, caps, rfl⟩ := hv
    refine ⟨[.func (.func f) #[] caps], rfl, rfl, rfl, fun _ => rfl, fun m c u hcm hu => ?_⟩
    cases m <;> simp [argCells] at hcm hu
    subst hcm; subst hu
    exact ⟨h, rfl, rfl, rfl⟩
  | lrow g t es => exact h.elim
  | lptr t => exact h.elim

theorem RelArgs.head {P : Program} {G : World → Prop} {Z : Nat → Prop} {a : ATy} {r : List ATy} {xs : denA (a :: r)} {vs : List Value} (h : RelArgs P G Z w (a :: r) xs vs) : ∃ v vs', vs = v :: vs' ∧ RelArgs P G Z w r xs.2 vs' ∧
    ArgRel P G Z w a xs.1 v := by
  cases a with
  | data g t =>
    obtain ⟨us, vs', h1, h2, h3, h4⟩ := h
    exact ⟨_, _, h1, h4, us, rfl, h2, h3⟩
  | ptr t =>
    obtain ⟨ad, us, vs', h1, h2, h3, h4, h5⟩ := h
    exact ⟨_, _, h1, h5, ad, us, rfl, h2, h3, h4⟩
  | clo a b =>
    obtain ⟨v, vs', h1, h2, h3⟩ := h
    exact ⟨_, _, h1, h3, h2⟩
  | lrow g t es => exact h.elim
  | lptr t => exact h.elim

theorem args_rel : ∀ (As : List ATy) (xs : denA As) (vs : List Value) (i j : Nat), RelArgs A.P A.G γ.Z w As xs vs → (∀ (m : Nat) (u : Value), (avsOf vs)[m]? = some u → A.pars[j + m]? = some u) → vs.length = As.length ∧
    ∀ t, (argEnv As xs i j).get (.tmp t) = .undef ∨ ∃ k v g cs us, t = i + k ∧ vs[k]? = some v ∧ (argEnv As xs i j).get (.tmp t) = .val g cs ∧ v = mkVal g us ∧ v.cells.toList = us ∧ us.length = cs.length ∧ (g = false → cs.length = 1) ∧
      ∀ (m : Nat) (c : Cell) (u : Value), cs[m]? = some c → us[m]? = some u → RelCell A γ w c u ∧ u.oneCell' = true ∧ refs c = none ∧ c.isOwn = false
  | [], xs, vs, i, j, h, _ => ⟨by rw [show vs = [] from h]; rfl, fun t => .inl rfl⟩
  | a :: r, xs, vs, i, j, h, hp => by
    obtain ⟨v, vs', rfl, h2, h3⟩ := h.head
    obtain ⟨us, k1, k2, k3, k4, k5⟩ := argCells_rel a xs.1 j v vs' hp h3
    have hav : avsOf (v :: vs') = us ++ avsOf vs' := by simp [avsOf, k2]
    obtain ⟨m1, m2⟩ := args_rel r xs.2 vs' (i + 1) (j + (argCells a xs.1 j).2.length) h2 (fun m u hu => by
      have := hp (us.length + m) u (by rw [hav, List.getElem?_append_right (by omega)]; rwa [Nat.add_sub_cancel_left])
      rwa [k3, ← Nat.add_assoc] at this)
    refine ⟨by simp [m1], fun t => ?_⟩
    simp only [argEnv]
    rw [Env.get_cons]
    by_cases ht : i = t
    · subst ht
      rw [if_pos rfl]
      exact .inr ⟨0, v, _, _, us, by simp, rfl, rfl, k1, k2, k3, k4, k5⟩
    · rw [if_neg (by simpa using ht)]
      rcases m2 t with hu | ⟨k, v', g, cs, us', e1, e2, rest⟩
      · exact .inl hu
      · exact .inr ⟨k + 1, v', g, cs, us', by omega, by simpa using e2, rest⟩
end

/-- A function keeps the contract that its run tells. -/
theorem sound_of_run {P : Program} {G : World → Prop} {f : FuncId} {fn : Func} {c : Code} {X : Ctx} {As : List ATy} {R : List (Bool × Ty)} {ms : List RMode} {n0 : Nat} (hm : P.follows .mixedOrders = true) (hst : Stable n0 G) (hty : TyOK P X)
    (hgl : ∀ A : Fix, A.P = P → A.G = G → GlobOK A X) (hcon : ConOK P G X) (hmcon : MConOK P n0 G X) (hf : P.funcs[f]? = some fn) (hb : fn.body = some c) (hn : (fn.name == "runtime.NumGoroutine") = false) (hres : X.results = fn.results.toList) (hnt : X.ntmps = fn.ntmps)
    (hAs : As.length ≤ X.ntmps ∧ X.ntmps ≤ lentBase) : Sound P G f (ofRun X c As R ms) := by
  show ∀ (w : World) (Z : Nat → Prop) (vs : List Value) (xs : denA As) (r : denL R), G w → (∀ g, Z g → g < w.heap.size) → RelArgs P G Z w As xs vs → runF X c As R ms xs = some r →
    FCalls P f vs.toArray w fun v w' => ∃ Z' us, v = mkRes us ∧ Below w.heap.size w w' ∧ (∀ g, Z g → Z' g) ∧ (∀ g, Z' g → Z g ∨ (w.heap.size ≤ g ∧ g < w'.heap.size)) ∧
      ResRel Z' w' w.heap.size (avsOf vs) (resL R r ms) us
  intro w Z vs xs r hG hZ hargs hF
  have hrun := hF
  have hn' : ¬ fn.name = "runtime.NumGoroutine" := by simpa using hn
  refine .inr ⟨by simp [callFunc, program, Sem.run, hf, hb, hn'], calls_of_wp hf hb ?_⟩
  let A : Fix := ⟨P, G, w, avsOf vs, Z, w.heap.size, fun _ => undef, fun _ => none, n0⟩
  have hL : ∀ g, ¬ A.L g := by
    rintro g (⟨k, hk⟩ | ⟨b, hb⟩)
    · exact absurd hk (by simp [A, undef, Value.ownBlock])
    · cases hb
  let γ : Gh := { σ := fun _ _ => 0, ψ := fun _ _ => undef, φ := fun x => match x.s with | .tmp t => ((vs.getD t undef).cells.toList).getD x.j undef | _ => undef, Z := Z }
  have K : Known A X := ⟨hst, ⟨hG, fun g hg => absurd hg (hL g)⟩, hty, hgl A rfl rfl, hcon, hmcon⟩
  obtain ⟨hvl, hav⟩ := args_rel (A := A) (γ := γ) (w := w) As xs vs 0 0 hargs (fun m u hu => by rwa [Nat.zero_add])
  have hcell : ∀ x c, envCell (argEnv As xs 0 0) x = some c → RelCell A γ w c (γ.φ x) ∧ (γ.φ x).oneCell' = true ∧ refs c = none ∧ c.isOwn = false := by
    rintro ⟨s, i, j⟩ c hc
    unfold envCell at hc
    cases s with
    | tmp t =>
      rcases hav t with hu | ⟨k, v, g, cs, us, e1, e2, e3, e4, e5, e6, e7, e8⟩
      · simp only [hu, AV.cell?] at hc; cases hc
      · simp only [e3] at hc
        cases i with
        | succ i => simp [AV.cell?] at hc
        | zero =>
          have hc : cs[j]? = some c := hc
          have hlt : j < us.length := by rw [e6]; exact (List.getElem?_eq_some_iff.1 hc).1
          have hk : t = k := by omega
          subst hk
          have hφ : γ.φ ⟨.tmp t, 0, j⟩ = us[j] := by
            show ((vs.getD t undef).cells.toList).getD j undef = _
            rw [getD_of e2, e5, getD_of (List.getElem?_eq_getElem hlt)]
          rw [hφ]
          exact e8 j c _ hc (List.getElem?_eq_getElem hlt)
    | box b => simp only [argEnv_other As xs 0 0 (.box b) (by simp), AV.cell?] at hc; cases hc
    | ver => simp only [argEnv_other As xs 0 0 .ver (by simp), AV.cell?] at hc; cases hc
    | lent k => simp only [argEnv_other As xs 0 0 (.lent k) (by simp), AV.cell?] at hc; cases hc
  have hbox : ∀ b bv fz cs, (argEnv As xs 0 0).get (.box b) ≠ .box bv fz cs := by
    intro b bv fz cs
    rw [argEnv_other As xs 0 0 (.box b) (by simp)]
    simp
  have hown : ∀ x e t ver l, envCell (argEnv As xs 0 0) x ≠ some (.own e t ver l) := by
    intro x e t ver l hx
    have := (hcell x _ hx).2.2.2
    simp [Cell.isOwn] at this
  have hcore : Core A X γ (fun v => (argEnv As xs 0 0).ver ≤ v) (argEnv As xs 0 0) { tmps := vs.toArray ++ Array.replicate (fn.ntmps - vs.toArray.size) undef, defers := [] } w := by
    refine { frame := ⟨rfl, rfl, rfl, Nat.le_refl _, fun _ _ _ => rfl⟩, glob := hG, zone := hZ, zone0 := ⟨fun g hg => hg, fun g hg => .inl hg⟩, defers := rfl, size := ?_, ntl := hAs.2, baseB := Nat.le_refl _, tmp := fun t => ?_, box := fun b bv fz cs hb => absurd hb (hbox b bv fz cs), cell := fun x c hc => ?_, own := fun x e t ver l hx => absurd hx (hown x e t ver l), inj := fun b b' bv bv' fz fz' cs cs' hb => absurd hb (hbox b bv fz cs), fresh := fun x e t ver l hx => absurd hx (hown x e t ver l), lent := fun _ => rfl, lentloc := fun k c j cl hx => ?_ }
    · simp only [Array.size_append, List.size_toArray, Array.size_replicate, hvl]
      have := hAs.1
      omega
    · rcases hav t with hu | ⟨k, v, g, cs, us, e1, e2, e3, e4, e5, e6, e7, e8⟩
      · rw [hu]; exact trivial
      · rw [e3]
        have hk : t = k := by omega
        subst hk
        refine ⟨?_, e7⟩
        have hlt : t < vs.length := (List.getElem?_eq_some_iff.1 e2).1
        have hv : (vs.toArray ++ Array.replicate (fn.ntmps - vs.toArray.size) undef).getD t undef = v := by
          rw [Array.getD_eq_getD_getElem?, Array.getElem?_append_left (by simpa using hlt), List.getElem?_toArray, e2]
          rfl
        rw [hv, e4]
        congr 1
        have hφ : ∀ j, γ.φ ⟨.tmp t, 0, j⟩ = us.getD j undef := fun j => by
          show ((vs.getD t undef).cells.toList).getD j undef = _
          rw [getD_of e2, e5]
        rw [← range_map_getD us cs.length e6]
        simp [cellVals, hφ]
    · obtain ⟨h1, h2, h3, _⟩ := hcell x c hc
      exact ⟨h1, h2, fun r hr => by rw [h3] at hr; cases hr⟩
    · unfold envCell at hx
      simp only [argEnv_other As xs 0 0 (.lent k) (by simp), AV.cell?] at hx
      cases hx
  refine run_sound K hm c (argEnv As xs 0 0) (finD X R ms) r _ _ w hrun ⟨γ, hcore⟩ fun e env' a' w' hfinD hst' => ?_
  obtain ⟨out, hfin, hdec⟩ := Option.bind_eq_some_iff.1 hfinD
  obtain ⟨γ', hc'⟩ := hst'
  have done : ((outOf X [] X.results).cps env'.get [] fun o _ => some o) = some out → a'.defers = [] ∧ ∃ v, (results fn a'.tmps).run P w' = .ok v w' ∧
      ∃ v0, Ending.returned v = .returned v0 ∧ ∃ Z' us, v0 = mkRes us ∧ Below w.heap.size w w' ∧ (∀ g, Z g → Z' g) ∧ (∀ g, Z' g → Z g ∨ (w.heap.size ≤ g ∧ g < w'.heap.size)) ∧
      ResRel Z' w' w.heap.size (avsOf vs) (resL R r ms) us := by
    intro hfin
    obtain ⟨o, lg, he, ho⟩ := Rd.cps_some _ _ _ _ _ hfin
    injection ho with ho
    subst ho
    obtain ⟨us, m1, m2⟩ := outOf_sound hc' K X.results [] o [] lg he
    obtain ⟨Z', z1, z2, z3⟩ := fin_rel hc' hdec m2
    refine ⟨hc'.defers, mkRes us, ?_, _, rfl, Z', us, rfl, ⟨hc'.frame.os, hc'.frame.tape, hc'.frame.output, hc'.frame.size, fun k hk => hc'.frame.block k hk (hL k)⟩, fun g hg => z1 g (hc'.zone0.1 g hg), fun g hg => ?_, z3⟩
    · rw [hres] at m1
      change Sem.run P _ w' = _ at m1
      have hmap : (fn.results.mapM (fun | .tmp t => pure (a'.tmps.getD t undef) | .cell b t => do loadVar t (← asAddr (a'.tmps.getD b undef)) : ResultVar → Sem Value)).run P w' = .ok us.toArray w' := by
        rw [Array.mapM_eq_mapM_toList, Sem.run_map]
        exact congrArg (fun r => Result.andThen r fun l w => Result.ok (List.toArray l) w) m1
      have hbind : (results fn a'.tmps).run P w' = (((fn.results.mapM (fun | .tmp t => pure (a'.tmps.getD t undef) | .cell b t => do loadVar t (← asAddr (a'.tmps.getD b undef)) : ResultVar → Sem Value)).run P w').andThen
          fun vs w => (pure (if h : vs.size = 1 then vs[0] else .tuple vs) : Sem Value).run P w) := by
        rw [← Sem.run_bind]; rfl
      rw [hbind, hmap, Result.andThen_ok]
      match us with
      | [] => rfl
      | [v] => rfl
      | _ :: _ :: _ => rfl
    · rcases z2 g hg with hg | hg
      · rcases hc'.zone0.2 g hg with h0 | h0
        · exact .inl h0
        · exact .inr ⟨h0, hc'.zone g hg⟩
      · exact .inr hg
  cases e with
  | normal => exact done hfin
  | ret => exact done hfin
  | exit id => simp [fin] at hfin
  | goto l => simp [fin] at hfin
end
end Go.VI
