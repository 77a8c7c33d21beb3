/- VI, part 7: values come to live in a variable. -/
import Derived.Test.YtlnfgikipeiaiaaViPut
namespace Go.VI
open Go.RowKit
def FrD (Fr : Nat → Prop) (vn : Nat) : Nat → Prop := fun v => Fr v ∧ v ≠ vn
theorem Holds.weaken {A : Fix} {X : Ctx} {Fr : Nat → Prop} {env : Env} {a : Act} {w : World} (h : Holds A X Fr env a w) (vn : Nat) : Holds A X (FrD Fr vn) env a w :=
  let ⟨γ, hc⟩ := h; ⟨γ, hc.fr fun _ hh => hh.1⟩
theorem OpOK.weaken {A : Fix} {X : Ctx} {Fr : Nat → Prop} {o : Oper} {us : List Upd} {env : Env} {a : Act} {w : World} (h : OpOK A X Fr o us env a w) (vn : Nat) : OpOK A X (FrD Fr vn) o us env a w :=
  fun next Q hn => h next Q fun a' w' hh => hn a' w' (hh.weaken vn)
theorem appAll_append (env : Env) (us vs : List Upd) : appAll env (us ++ vs) = appAll (appAll env us) vs := by
  induction us generalizing env with
  | nil => rfl
  | cons u r ih => exact ih _
theorem memLoc_iff (x : Loc) (xs : List Loc) : memLoc x xs = true ↔ x ∈ xs := by
  induction xs with
  | nil => simp [memLoc]
  | cons y r ih =>
    simp only [memLoc, Bool.or_eq_true, Loc.beq_iff, ih, List.mem_cons]
    exact ⟨fun h => h.imp Eq.symm id, fun h => h.imp Eq.symm id⟩
structure InstOK (A : Fix) (γ : Gh) (w : World) (Fr : Nat → Prop) (vn : Nat) (env : Env) (cs : List Cell) (vs : List Value) : Prop where
  len : vs.length = cs.length
  one : ∀ (j : Nat) (u : Value), vs[j]? = some u → u.oneCell' = true
  rel : ∀ (j : Nat) (c : Cell) (u : Value), cs[j]? = some c → vs[j]? = some u → c.isOwn = false → GoodR A γ w Fr c u
  own : ∀ (j : Nat) (e : TypeId) (t : Ty) (v : Nat) (l : List t.den) (u : Value), cs[j]? = some (.own e t v l) → vs[j]? = some u → v = vn ∧ OwnV γ.Z w A.B e t u l ∧ ∀ g, u.ownBlock = some g → Free A γ env g
  uniq : ∀ (j j' : Nat) (e e' : TypeId) (t t' : Ty) (v v' : Nat) (l : List t.den) (l' : List t'.den) (u u' : Value) (g : Nat), cs[j]? = some (.own e t v l) → vs[j]? = some u → cs[j']? = some (.own e' t' v' l') → vs[j']? = some u' →
    u.ownBlock = some g → u'.ownBlock = some g → j = j'
section
variable {A : Fix} {X : Ctx} {γ : Gh} {Fr : Nat → Prop} {a : Act} {w w' : World} {vn : Nat}
theorem install_sound {env0 : Env} : ∀ (cs : List Cell) (xs : List Loc) (env1 : Env) (vs : List Value) (cs' : List Cell) (us : List Upd) (lg lg' : List Slot),
    Core A X γ Fr env1 a w → (∀ y, memLoc y xs = false → envCell env1 y = envCell env0 y) → RelCs A γ w Fr cs vs →
    (install vn xs cs).eval env0.get lg = some ((cs', us), lg') →
    InstOK A γ w Fr vn (appAll env1 us) cs' vs ∧ Core A X γ Fr (appAll env1 us) a w ∧ (∀ g, Free A γ env1 g → Free A γ (appAll env1 us) g) ∧
      ∀ (g : Nat), Free A γ env1 g → ∀ (j : Nat) (e : TypeId) (t : Ty) (v : Nat) (l : List t.den) (u : Value), cs'[j]? = some (.own e t v l) → vs[j]? = some u → u.ownBlock ≠ some g
  | [], xs, env1, vs, cs', us, lg, lg', hc, hag, hr, he => by
    simp only [install, Rd.eval, Option.some.injEq, Prod.mk.injEq] at he
    obtain ⟨⟨rfl, rfl⟩, _⟩ := he
    rw [show vs = [] from hr]
    exact ⟨⟨rfl, by simp, by simp, by simp, by simp⟩, hc, fun g hg => hg, by simp⟩
  | c :: r, xs, env1, vs, cs', us, lg, lg', hc, hag, hr, he => by
    obtain ⟨u, vs', rfl, hg, hr'⟩ := hr
    have plain : (∀ p : List Cell × List Upd, True) → c.isOwn = false → ((install vn xs r).bind fun q => Rd.pure (c :: q.1, q.2)).eval env0.get lg = some ((cs', us), lg') →
        InstOK A γ w Fr vn (appAll env1 us) cs' (u :: vs') ∧ Core A X γ Fr (appAll env1 us) a w ∧ (∀ g, Free A γ env1 g → Free A γ (appAll env1 us) g) ∧
        ∀ (g : Nat), Free A γ env1 g → ∀ (j : Nat) (e : TypeId) (t : Ty) (v : Nat) (l : List t.den) (u' : Value), cs'[j]? = some (.own e t v l) → (u :: vs')[j]? = some u' → u'.ownBlock ≠ some g := by
      intro _ hown he
      simp only [Rd.eval_bind, Option.bind_eq_some_iff] at he
      obtain ⟨⟨⟨cs1, us1⟩, l1⟩, h1, h2⟩ := he
      simp only [Rd.eval, Option.some.injEq, Prod.mk.injEq] at h2
      obtain ⟨⟨rfl, rfl⟩, _⟩ := h2
      obtain ⟨k1, k2, k3, k4⟩ := install_sound r xs env1 vs' cs1 us1 lg l1 hc hag hr' h1
      have noown : ∀ (e : TypeId) (t : Ty) (v : Nat) (l : List t.den), c ≠ .own e t v l := fun e t v l hh => by rw [hh] at hown; simp [Cell.isOwn] at hown
      refine ⟨⟨by simp [k1.len], ?_, ?_, ?_, ?_⟩, k2, k3, ?_⟩
      · intro j u' hu
        cases j with
        | zero => simp at hu; subst hu; exact hg.2.1
        | succ j => exact k1.one j u' (by simpa using hu)
      · intro j c' u' hc' hu' ho
        cases j with
        | zero => simp at hc' hu'; subst hc'; subst hu'; exact hg
        | succ j => exact k1.rel j c' u' (by simpa using hc') (by simpa using hu') ho
      · intro j e t v l u' hc' hu'
        cases j with
        | zero => simp at hc'; exact absurd hc' (noown _ _ _ _)
        | succ j => exact k1.own j e t v l u' (by simpa using hc') (by simpa using hu')
      · intro j j' e e' t t' v v' l l' u1 u2 g h1 h2 h3 h4 h5 h6
        cases j with
        | zero => simp at h1; exact absurd h1 (noown _ _ _ _)
        | succ j => cases j' with
          | zero => simp at h3; exact absurd h3 (noown _ _ _ _)
          | succ j' => rw [k1.uniq j j' e e' t t' v v' l l' u1 u2 g (by simpa using h1) (by simpa using h2) (by simpa using h3) (by simpa using h4) h5 h6]
      · intro g hf j e t v l u' hc' hu'
        cases j with
        | zero => simp at hc'; exact absurd hc' (noown _ _ _ _)
        | succ j => exact k4 g hf j e t v l u' (by simpa using hc') (by simpa using hu')
    cases c with
    | own e t v l => simp [install, Rd.eval] at he
    | sub x v s lo hi => simp [install, Rd.eval] at he
    | barr b bv o n t => simp [install, Rd.eval] at he
    | view x ver =>
      simp only [install] at he
      cases hnl : x.s.isLent with
      | true => rw [hnl] at he; exact plain (fun _ => trivial) rfl he
      | false =>
      rw [hnl] at he
      simp only [cond_false] at he
      cases hm : memLoc x xs with
      | true => rw [hm] at he; simp [Rd.eval] at he
      | false =>
        rw [hm] at he
        simp only [cond_false, Rd.eval_bind, Option.bind_eq_some_iff] at he
        obtain ⟨⟨⟨e, t, l⟩, l1⟩, h1, ⟨⟨cs1, us1⟩, l2⟩, h2, h3⟩ := he
        simp only [Rd.eval, Option.some.injEq, Prod.mk.injEq] at h3
        obtain ⟨⟨rfl, rfl⟩, _⟩ := h3
        have hx0 := ownerAt_eval h1
        have hx : envCell env1 x = some (.own e t ver l) := by rw [hag x hm]; exact hx0
        have hu : u = γ.φ x := hg.1.trans (hc.own x e t ver l hx).1
        have hOwn : OwnV γ.Z w A.B e t u l := by rw [hu]; exact (hc.cell x _ hx).1
        have hk := hc.kill x
        have hag' : ∀ y, memLoc y (x :: xs) = false → envCell (Upd.app env1 (.cell x .undef)) y = envCell env0 y := by
          intro y hy
          simp only [memLoc, Bool.or_eq_false_iff] at hy
          have hne : y ≠ x := fun e => by rw [e] at hy; have := Loc.beq_iff.2 (rfl : x = x); rw [this] at hy; exact absurd hy.1 (by simp)
          rw [envCell_app_cell, if_neg (fun hh => hne hh.1)]
          exact hag y hy.2
        obtain ⟨k1, k2, k3, k4⟩ := install_sound r (x :: xs) _ vs' cs1 us1 l1 l2 hk hag' hr' h2
        have hfree : ∀ g, u.ownBlock = some g → Free A γ (Upd.app env1 (.cell x .undef)) g := fun g hgb => hc.kill_free hx hnl (by rw [← hu]; exact hgb)
        refine ⟨⟨by simp [k1.len], ?_, ?_, ?_, ?_⟩, k2, fun g hf => k3 g (hf.kill x), ?_⟩
        · intro j u' hu'
          cases j with
          | zero => simp at hu'; subst hu'; exact hg.2.1
          | succ j => exact k1.one j u' (by simpa using hu')
        · intro j c' u' hc' hu' ho
          cases j with
          | zero => simp at hc'; subst hc'; simp [Cell.isOwn] at ho
          | succ j => exact k1.rel j c' u' (by simpa using hc') (by simpa using hu') ho
        · intro j e' t' v' l' u' hc' hu'
          cases j with
          | zero =>
            simp at hc' hu'
            subst hu'
            obtain ⟨rfl, rfl, rfl, hl⟩ := hc'
            have hl := eq_of_heq hl
            subst hl
            exact ⟨rfl, hOwn, fun g hgb => k3 g (hfree g hgb)⟩
          | succ j => exact k1.own j e' t' v' l' u' (by simpa using hc') (by simpa using hu')
        · intro j j' e1 e2 t1 t2 v1 v2 l1 l2 u1 u2 g h1 h2 h3 h4 h5 h6
          cases j with
          | zero => cases j' with
            | zero => rfl
            | succ j' =>
              simp at h2; subst h2
              exact absurd h6 (k4 g (hfree g h5) j' e2 t2 v2 l2 u2 (by simpa using h3) (by simpa using h4))
          | succ j => cases j' with
            | zero =>
              simp at h4; subst h4
              exact absurd h5 (k4 g (hfree g h6) j e1 t1 v1 l1 u1 (by simpa using h1) (by simpa using h2))
            | succ j' => rw [k1.uniq j j' e1 e2 t1 t2 v1 v2 l1 l2 u1 u2 g (by simpa using h1) (by simpa using h2) (by simpa using h3) (by simpa using h4) h5 h6]
        · intro g hf j e' t' v' l' u' hc' hu'
          cases j with
          | zero =>
            simp at hu'; subst hu'
            rw [hu]
            exact hf.2.2.2 x _ _ _ _ hx
          | succ j => exact k4 g (hf.kill x) j e' t' v' l' u' (by simpa using hc') (by simpa using hu')
    | undef => exact plain (fun _ => trivial) rfl he
    | int k n => exact plain (fun _ => trivial) rfl he
    | bool b => exact plain (fun _ => trivial) rfl he
    | str s => exact plain (fun _ => trivial) rfl he
    | nil e t => exact plain (fun _ => trivial) rfl he
    | imm t l p => exact plain (fun _ => trivial) rfl he
    | addr b bv o => exact plain (fun _ => trivial) rfl he
    | addrI b bv o n s i => exact plain (fun _ => trivial) rfl he
    | gptr g o => exact plain (fun _ => trivial) rfl he
    | gptrI g o n s i => exact plain (fun _ => trivial) rfl he
    | iptr t x o => exact plain (fun _ => trivial) rfl he
    | iptrI t x o n s i => exact plain (fun _ => trivial) rfl he
    | eview x v s i o => exact plain (fun _ => trivial) rfl he
    | eimm t l i o => exact plain (fun _ => trivial) rfl he
    | eviewI x v s i o m s2 j => exact plain (fun _ => trivial) rfl he
    | eimmI t l i o m s2 j => exact plain (fun _ => trivial) rfl he
    | func f => exact plain (fun _ => trivial) rfl he
    | clo as rs F => exact plain (fun _ => trivial) rfl he
theorem getD_of {us : List Value} {j : Nat} {u : Value} (h : us[j]? = some u) : us.getD j undef = u := by simp [List.getD, h]
theorem setψ_old {γ : Gh} {s : Slot} {vn : Nat} {f : Nat → Nat → Value} (hv : Fr vn) : ∀ r, ¬ Fr r → ∀ y, setψ γ s vn f y r = γ.ψ y r := by
  intro r hr y
  have : r ≠ vn := fun e => hr (by rw [e]; exact hv)
  simp [setψ, this]
theorem Core.setInst {env : Env} (h : Core A X γ Fr env a w) (hv : Fr vn) {d : Nat} (hd : d < X.ntmps) {g : Bool} {cs : List Cell} {vs : List Value} (hg : g = false → cs.length = 1)
    (hi : InstOK A γ w Fr vn env cs vs) : Holds A X (FrD Fr vn) ((.tmp d, .val g cs) :: env) (a.put (some d) (mkVal g vs)) w := by
  refine ⟨_, h.setTmpG hd (.val g cs) (fun _ j => vs.getD j undef) (mkVal g vs) (setψ γ (.tmp d) vn (fun _ j => vs.getD j undef)) (fun _ hh => hh.1) (setψ_old hv) ?_ ?_ ?_⟩
  · intro γ' hφ
    refine ⟨?_, hg⟩
    congr 1
    rw [← range_map_getD vs cs.length hi.len]
    simp [cellVals, hφ]
  · intro i j c hcj
    cases i with
    | succ i => simp [AV.cell?] at hcj
    | zero =>
      have hcj : cs[j]? = some c := by simpa [AV.cell?] using hcj
      have hlt : j < vs.length := by rw [hi.len]; exact (List.getElem?_eq_some_iff.1 hcj).1
      have hu : vs[j]? = some vs[j] := List.getElem?_eq_getElem hlt
      rw [getD_of hu]
      have hone := hi.one j _ hu
      cases ho : c.isOwn with
      | false =>
        obtain ⟨g1, g2, g3, g4⟩ := hi.rel j c _ hcj hu ho
        refine ⟨g1.move (γ' := { γ with ψ := setψ γ (.tmp d) vn (fun _ j => vs.getD j undef) }) (fun r hr y => show setψ γ (.tmp d) vn (fun _ j => vs.getD j undef) y r = γ.ψ y r from setψ_old hv r (g3 r hr) y) (fun _ _ _ => rfl) (fun _ hz => hz) (fun _ _ => rfl) (Nat.le_refl _) (fun _ _ _ => rfl), g2, fun r hr hh => g3 r hr hh.1⟩
      | true =>
        cases c <;> simp [Cell.isOwn] at ho
        obtain ⟨_, k2, _⟩ := hi.own j _ _ _ _ _ hcj hu
        exact ⟨k2, hone, by simp [refs]⟩
  · intro i j e t ver l hcj
    cases i with
    | succ i => simp [AV.cell?] at hcj
    | zero =>
      have hcj : cs[j]? = some (.own e t ver l) := by simpa [AV.cell?] using hcj
      have hlt : j < vs.length := by rw [hi.len]; exact (List.getElem?_eq_some_iff.1 hcj).1
      have hu : vs[j]? = some vs[j] := List.getElem?_eq_getElem hlt
      obtain ⟨rfl, k2, k3⟩ := hi.own j _ _ _ _ _ hcj hu
      refine ⟨by simp [setψ], fun hh => hh.2 rfl, fun g hgb => ?_⟩
      rw [getD_of hu] at hgb
      refine ⟨(k3 g hgb).but _, fun i' j' e' t' ver' l' hcj' hgb' => ?_⟩
      cases i' with
      | succ i' => simp [AV.cell?] at hcj'
      | zero =>
        have hcj' : cs[j']? = some (.own e' t' ver' l') := by simpa [AV.cell?] using hcj'
        have hlt' : j' < vs.length := by rw [hi.len]; exact (List.getElem?_eq_some_iff.1 hcj').1
        have hu' : vs[j']? = some vs[j'] := List.getElem?_eq_getElem hlt'
        rw [getD_of hu'] at hgb'
        exact ⟨rfl, (hi.uniq j j' _ _ _ _ _ _ _ _ _ _ g hcj hu hcj' hu' hgb hgb').symm⟩
theorem op_assign {env : Env} {o : Oper} {us : List Upd} {lg : List Slot} (h : Core A X γ Fr env a w) (hv : Fr vn) (hd : dstOk X o) {x : Operand} (ho : o.op = .assign x)
    (he : (opRd X vn o).eval env.get [] = some (us, lg)) : OpOK A X (FrD Fr vn) o us env a w := by
  simp only [opRd, ho] at he
  cases hdst : o.dst with
  | none => rw [hdst] at he; simp [Rd.eval] at he
  | some d =>
    rw [hdst] at he
    simp only [Rd.eval_bind, Option.bind_eq_some_iff] at he
    obtain ⟨⟨av, l1⟩, h1, h2⟩ := he
    have hr := rdOp_sound h h1
    have hrun : (execOp a.eval o).run A.P w = .ok (.value (a.eval x)) w := by simp [execOp, ho]
    refine OpOK.value hrun ?_
    rw [hdst]
    cases av with
    | val g cs =>
      simp only [Rd.eval_bind, Option.bind_eq_some_iff] at h2
      obtain ⟨⟨⟨cs', us'⟩, l2⟩, h3, h4⟩ := h2
      simp only [Rd.eval, Option.some.injEq, Prod.mk.injEq] at h4
      obtain ⟨rfl, _⟩ := h4
      obtain ⟨vs, hv', hg, hcs⟩ := hr
      obtain ⟨k1, k2, _, _⟩ := install_sound cs [] env vs cs' us' l1 l2 h (fun _ _ => rfl) hcs h3
      rw [appAll_append, hv']
      exact k2.setInst hv (hd d hdst) (fun hgf => by rw [← k1.len, hcs.length]; exact hg hgf) k1
    | skip =>
      simp only [Rd.eval, Option.some.injEq, Prod.mk.injEq] at h2
      obtain ⟨rfl, _⟩ := h2
      rw [show a.eval x = undef from hr]
      exact (h.putSkip (hd d hdst)).weaken vn
    | undef => simp [Rd.eval] at h2
    | tup l => simp [Rd.eval] at h2
    | box _ _ _ => simp [Rd.eval] at h2
    | num _ => simp [Rd.eval] at h2
end
end Go.VI
