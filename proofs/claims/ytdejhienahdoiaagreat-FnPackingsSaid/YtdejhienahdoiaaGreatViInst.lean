/- VI, part 7: values come to live in a variable. -/
import Derived.Test.YtdejhienahdoiaaGreatViSt
namespace Go.VI
open Go.RowKit
def FrD (Fr : Nat → Prop) (vn : Nat) : Nat → Prop := fun v => Fr v ∧ v ≠ vn
theorem Holds.weaken {A : Fix} {X : Ctx} {Fr : Nat → Prop} {env : Env} {a : Act} {w : World} (h : Holds A X Fr env a w) (vn : Nat) : Holds A X (FrD Fr vn) env a w :=
  let ⟨γ, hc⟩ := h; ⟨γ, hc.fr fun _ hh => hh.1⟩
theorem OpOK.weaken {A : Fix} {X : Ctx} {Fr : Nat → Prop} {o : Oper} {us : List Upd} {env : Env} {a : Act} {w : World} (h : OpOK A X Fr o us env a w) (vn : Nat) : OpOK A X (FrD Fr vn) o us env a w :=
  fun next Q hn => h next Q fun a' w' hh => hn a' w' (hh.weaken vn)
theorem appAll_append (env : Env) (us vs : List Upd) : appAll env (us ++ vs) = appAll (appAll env us) vs := by
  induction us generalizing env with
  | nil => rfl
  | cons u r ih => exact ih _
theorem memLoc_iff (x : Loc) (xs : List Loc) : memLoc x xs = true ↔ x ∈ xs := by
  induction xs with
  | nil => simp [memLoc]
  | cons y r ih =>
    simp only [memLoc, Bool.or_eq_true, Loc.beq_iff, ih, List.mem_cons]
    exact ⟨fun h => h.imp Eq.symm id, fun h => h.imp Eq.symm id⟩
structure InstOK (A : Fix) (γ : Gh) (w : World) (Fr : Nat → Prop) (vn : Nat) (env : Env) (cs : List Cell) (vs : List Value) : Prop where
  len : vs.length = cs.length
  one : ∀ (j : Nat) (u : Value), vs[j]? = some u → u.oneCell' = true
  rel : ∀ (j : Nat) (c : Cell) (u : Value), cs[j]? = some c → vs[j]? = some u → c.isOwn = false → GoodR A γ w Fr c u
  own : ∀ (j : Nat) (e : TypeId) (t : Ty) (v : Nat) (l : List t.den) (u : Value), cs[j]? = some (.own e t v l) → vs[j]? = some u → v = vn ∧ OwnV γ.Z w A.B e t u l ∧ ∀ g, u.ownBlock = some g → Free A γ env g
  uniq : ∀ (j j' : Nat) (e e' : TypeId) (t t' : Ty) (v v' : Nat) (l : List t.den) (l' : List t'.den) (u u' : Value) (g : Nat), cs[j]? = some (.own e t v l) → vs[j]? = some u → cs[j']? = some (.own e' t' v' l') → vs[j']? = some u' →
    u.ownBlock = some g → u'.ownBlock = some g → j = j'
section
variable {A : Fix} {X : Ctx} {γ : Gh} {Fr : Nat → Prop} {a : Act} {w w' : World} {vn : Nat}
theorem install_sound {env0 : Env} : ∀ (cs : List Cell) (xs : List Loc) (env1 : Env) (vs : List Value) (cs' : List Cell) (us : List Upd) (lg lg' : List Slot),
    Core A X γ Fr env1 a w → (∀ y, memLoc y xs = false → envCell env1 y = envCell env0 y) → RelCs A γ w Fr cs vs →
    (install vn xs cs).eval env0.get lg = some ((cs', us), lg') →
    InstOK A γ w Fr vn (appAll env1 us) cs' vs ∧ Core A X γ Fr (appAll env1 us) a w ∧ (∀ g, Free A γ env1 g → Free A γ (appAll env1 us) g) ∧
      ∀ (g : Nat), Free A γ env1 g → ∀ (j : Nat) (e : TypeId) (t : Ty) (v : Nat) (l : List t.den) (u : Value), cs'[j]? = some (.own e t v l) → vs[j]? = some u → u.ownBlock ≠ some g
  | [], xs, env1, vs, cs', us, lg, lg', hc, hag, hr, he => by
    simp only [install, Rd.eval, Option.some.injEq, Prod.mk.injEq] at he
    obtain ⟨⟨rfl, rfl⟩, _⟩ := he
    rw [show vs = [] from hr]
    exact ⟨⟨rfl, by simp, by simp, by simp, by simp⟩, hc, fun g hg => hg, by simp⟩
  | c :: r, xs, env1, vs, cs', us, lg, lg', hc, hag, hr, he => by
    obtain ⟨u, vs', rfl, hg, hr'⟩ := hr
    have plain : (∀ p : List Cell × List Upd, True) → c.isOwn = false → ((install vn xs r).bind fun q => Rd.pure (c :: q.1, q.2)).eval env0.get lg = some ((cs', us), lg') →
        InstOK A γ w Fr vn (appAll env1 us) cs' (u :: vs') ∧ Core A X γ Fr (appAll env1 us) a w ∧ (∀ g, Free A γ env1 g → Free A γ (appAll env1 us) g) ∧
        ∀ (g : Nat), Free A γ env1 g → ∀ (j : Nat) (e : TypeId) (t : Ty) (v : Nat) (l : List t.den) (u' : Value), cs'[j]? = some (.own e t v l) → (u :: vs')[j]? = some u' → u'.ownBlock ≠ some g := by
      intro _ hown he
      simp only [Rd.eval_bind, Option.bind_eq_some_iff] at he
      obtain ⟨⟨⟨cs1, us1⟩, l1⟩, h1, h2⟩ := he
      simp only [Rd.eval, Option.some.injEq, Prod.mk.injEq] at h2
      obtain ⟨⟨rfl, rfl⟩, _⟩ := h2
      obtain ⟨k1, k2, k3, k4⟩ := install_sound r xs env1 vs' cs1 us1 lg l1 hc hag hr' h1
      have noown : ∀ (e : TypeId) (t : Ty) (v : Nat) (l : List t.den), c ≠ .own e t v l := fun e t v l hh => by rw [hh] at hown; simp [Cell.isOwn] at hown
      refine ⟨⟨by simp [k1.len], ?_, ?_, ?_, ?_⟩, k2, k3, ?_⟩
      · intro j u' hu
        cases j with
        | zero => simp at hu; subst hu; exact hg.2.1
        | succ j => exact k1.one j u' (by simpa using hu)
      · intro j c' u' hc' hu' ho
        cases j with
        | zero => simp at hc' hu'; subst hc'; subst hu'; exact hg
        | succ j => exact k1.rel j c' u' (by simpa using hc') (by simpa using hu') ho
      · intro j e t v l u' hc' hu'
        cases j with
        | zero => simp at hc'; exact absurd hc' (noown _ _ _ _)
        | succ j => exact k1.own j e t v l u' (by simpa using hc') (by simpa using hu')
      · intro j j' e e' t t' v v' l l' u1 u2 g h1 h2 h3 h4 h5 h6
        cases j with
        | zero => simp at h1; exact absurd h1 (noown _ _ _ _)
        | succ j => cases j' with
          | zero => simp at h3; exact absurd h3 (noown _ _ _ _)
          | succ j' => rw [k1.uniq j j' e e' t t' v v' l l' u1 u2 g (by simpa using h1) (by simpa using h2) (by simpa using h3) (by simpa using h4) h5 h6]
      · intro g hf j e t v l u' hc' hu'
        cases j with
        | zero => simp at hc'; exact absurd hc' (noown _ _ _ _)
        | succ j => exact k4 g hf j e t v l u' (by simpa using hc') (by simpa using hu')
    cases c with
    | own e t v l => simp [install, Rd.eval] at he
    | sub x v s lo hi => simp [install, Rd.eval] at he
    | barr b bv o n t => simp [install, Rd.eval] at he
    | view x ver =>
      simp only [install] at he
      cases hnl : x.s.isLent with
      | true => rw [hnl] at he; exact plain (fun _ => trivial) rfl he
      | false =>
      rw [hnl] at he
      simp only [cond_false] at he
      cases hm : memLoc x xs with
      | true => rw [hm] at he; simp [Rd.eval] at he
      | false =>
        rw [hm] at he
        simp only [cond_false, Rd.eval_bind, Option.bind_eq_some_iff] at he
        obtain ⟨⟨⟨e, t, l⟩, l1⟩, h1, ⟨⟨cs1, us1⟩, l2⟩, h2, h3⟩ := he
        simp only [Rd.eval, Option.some.injEq, Prod.mk.injEq] at h3
        obtain ⟨⟨rfl, rfl⟩, _⟩ := h3
        have hx0 := ownerAt_eval h1
        have hx : envCell env1 x = some (.own e t ver l) := by rw [hag x hm]; exact hx0
        have hu : u = γ.φ x := hg.1.trans (hc.own x e t ver l hx).1
        have hOwn : OwnV γ.Z w A.B e t u l := by rw [hu]; exact (hc.cell x _ hx).1
        have hk := hc.kill x
        have hag' : ∀ y, memLoc y (x :: xs) = false → envCell (Upd.app env1 (.cell x .undef)) y = envCell env0 y := by
          intro y hy
          simp only [memLoc, Bool.or_eq_false_iff] at hy
          have hne : y ≠ x := fun e => by rw [e] at hy; have := Loc.beq_iff.2 (rfl : x = x); rw [this] at hy; exact absurd hy.1 (by simp)
          rw [envCell_app_cell, if_neg (fun hh => hne hh.1)]
          exact hag y hy.2
        obtain ⟨k1, k2, k3, k4⟩ := install_sound r (x :: xs) _ vs' cs1 us1 l1 l2 hk hag' hr' h2
        have hfree : ∀ g, u.ownBlock = some g → Free A γ (Upd.app env1 (.cell x .undef)) g := fun g hgb => hc.kill_free hx hnl (by rw [← hu]; exact hgb)
        refine ⟨⟨by simp [k1.len], ?_, ?_, ?_, ?_⟩, k2, fun g hf => k3 g (hf.kill x), ?_⟩
        · intro j u' hu'
          cases j with
          | zero => simp at hu'; subst hu'; exact hg.2.1
          | succ j => exact k1.one j u' (by simpa using hu')
        · intro j c' u' hc' hu' ho
          cases j with
          | zero => simp at hc'; subst hc'; simp [Cell.isOwn] at ho
          | succ j => exact k1.rel j c' u' (by simpa using hc') (by simpa using hu') ho
        · intro j e' t' v' l' u' hc' hu'
          cases j with
          | zero =>
            simp at hc' hu'
            subst hu'
            obtain ⟨rfl, rfl, rfl, hl⟩ := hc'
            have hl := eq_of_heq hl
            subst hl
            exact ⟨rfl, hOwn, fun g hgb => k3 g (hfree g hgb)⟩
          | succ j => exact k1.own j e' t' v' l' u' (by simpa using hc') (by simpa using hu')
        · intro j j' e1 e2 t1 t2 v1 v2 l1 l2 u1 u2 g h1 h2 h3 h4 h5 h6
          cases j with
          | zero => cases j' with
            | zero => rfl
            | succ j' =>
              simp at h2; subst h2
              exact absurd h6 (k4 g (hfree g h5) j' e2 t2 v2 l2 u2 (by simpa using h3) (by simpa using h4))
          | succ j => cases j' with
            | zero =>
              simp at h4; subst h4
              exact absurd h5 (k4 g (hfree g h6) j e1 t1 v1 l1 u1 (by simpa using h1) (by simpa using h2))
            | succ j' => rw [k1.uniq j j' e1 e2 t1 t2 v1 v2 l1 l2 u1 u2 g (by simpa using h1) (by simpa using h2) (by simpa using h3) (by simpa using h4) h5 h6]
        · intro g hf j e' t' v' l' u' hc' hu'
          cases j with
          | zero =>
            simp at hu'; subst hu'
            rw [hu]
            exact hf.2.2.2 x _ _ _ _ hx
          | succ j => exact k4 g (hf.kill x) j e' t' v' l' u' (by simpa using hc') (by simpa using hu')
    | undef => exact plain (fun _ => trivial) rfl he
    | int k n => exact plain (fun _ => trivial) rfl he
    | bool b => exact plain (fun _ => trivial) rfl he
    | str s => exact plain (fun _ => trivial) rfl he
    | nil e t => exact plain (fun _ => trivial) rfl he
    | imm t l p => exact plain (fun _ => trivial) rfl he
    | addr b bv o => exact plain (fun _ => trivial) rfl he
    | addrI b bv o n s i => exact plain (fun _ => trivial) rfl he
    | gptr g o => exact plain (fun _ => trivial) rfl he
    | gptrI g o n s i => exact plain (fun _ => trivial) rfl he
    | iptr t x o => exact plain (fun _ => trivial) rfl he
    | iptrI t x o n s i => exact plain (fun _ => trivial) rfl he
    | eview x v s i o => exact plain (fun _ => trivial) rfl he
    | eimm t l i o => exact plain (fun _ => trivial) rfl he
    | eviewI x v s i o m s2 j => exact plain (fun _ => trivial) rfl he
    | eimmI t l i o m s2 j => exact plain (fun _ => trivial) rfl he
    | func f => exact plain (fun _ => trivial) rfl he
    | clo as rs F => exact plain (fun _ => trivial) rfl he
theorem getD_of {us : List Value} {j : Nat} {u : Value} (h : us[j]? = some u) : us.getD j undef = u := by simp [List.getD, h]
theorem setψ_old {γ : Gh} {s : Slot} {vn : Nat} {f : Nat → Nat → Value} (hv : Fr vn) : ∀ r, ¬ Fr r → ∀ y, setψ γ s vn f y r = γ.ψ y r := by
  intro r hr y
  have : r ≠ vn := fun e => hr (by rw [e]; exact hv)
  simp [setψ, this]
theorem Core.setInst {env : Env} (h : Core A X γ Fr env a w) (hv : Fr vn) {d : Nat} (hd : d < X.ntmps) {g : Bool} {cs : List Cell} {vs : List Value} (hg : g = false → cs.length = 1)
    (hi : InstOK A γ w Fr vn env cs vs) : Holds A X (FrD Fr vn) ((.tmp d, .val g cs) :: env) (a.put (some d) (mkVal g vs)) w := by
  refine ⟨_, h.setTmpG hd (.val g cs) (fun _ j => vs.getD j undef) (mkVal g vs) (setψ γ (.tmp d) vn (fun _ j => vs.getD j undef)) (fun _ hh => hh.1) (setψ_old hv) ?_ ?_ ?_⟩
  · intro γ' hφ
    refine ⟨?_, hg⟩
    congr 1
    rw [← range_map_getD vs cs.length hi.len]
    simp [cellVals, hφ]
  · intro i j c hcj
    cases i with
    | succ i => simp [AV.cell?] at hcj
    | zero =>
      have hcj : cs[j]? = some c := by simpa [AV.cell?] using hcj
      have hlt : j < vs.length := by rw [hi.len]; exact (List.getElem?_eq_some_iff.1 hcj).1
      have hu : vs[j]? = some vs[j] := List.getElem?_eq_getElem hlt
      rw [getD_of hu]
      have hone := hi.one j _ hu
      cases ho : c.isOwn with
      | false =>
        obtain ⟨g1, g2, g3, g4⟩ := hi.rel j c _ hcj hu ho
        refine ⟨g1.move (γ' := { γ with ψ := setψ γ (.tmp d) vn (fun _ j => vs.getD j undef) }) (fun r hr y => show setψ γ (.tmp d) vn (fun _ j => vs.getD j undef) y r = γ.ψ y r from setψ_old hv r (g3 r hr) y) (fun _ _ _ => rfl) (fun _ hz => hz) (fun _ _ => rfl) (Nat.le_refl _) (fun _ _ _ => rfl), g2, fun r hr hh => g3 r hr hh.1⟩
      | true =>
        cases c <;> simp [Cell.isOwn] at ho
        obtain ⟨_, k2, _⟩ := hi.own j _ _ _ _ _ hcj hu
        exact ⟨k2, hone, by simp [refs]⟩
  · intro i j e t ver l hcj
    cases i with
    | succ i => simp [AV.cell?] at hcj
    | zero =>
      have hcj : cs[j]? = some (.own e t ver l) := by simpa [AV.cell?] using hcj
      have hlt : j < vs.length := by rw [hi.len]; exact (List.getElem?_eq_some_iff.1 hcj).1
      have hu : vs[j]? = some vs[j] := List.getElem?_eq_getElem hlt
      obtain ⟨rfl, k2, k3⟩ := hi.own j _ _ _ _ _ hcj hu
      refine ⟨by simp [setψ], fun hh => hh.2 rfl, fun g hgb => ?_⟩
      rw [getD_of hu] at hgb
      refine ⟨(k3 g hgb).but _, fun i' j' e' t' ver' l' hcj' hgb' => ?_⟩
      cases i' with
      | succ i' => simp [AV.cell?] at hcj'
      | zero =>
        have hcj' : cs[j']? = some (.own e' t' ver' l') := by simpa [AV.cell?] using hcj'
        have hlt' : j' < vs.length := by rw [hi.len]; exact (List.getElem?_eq_some_iff.1 hcj').1
        have hu' : vs[j']? = some vs[j'] := List.getElem?_eq_getElem hlt'
        rw [getD_of hu'] at hgb'
        exact ⟨rfl, (hi.uniq j j' _ _ _ _ _ _ _ _ _ _ g hcj hu hcj' hu' hgb hgb').symm⟩
theorem op_assign {env : Env} {o : Oper} {us : List Upd} {lg : List Slot} (h : Core A X γ Fr env a w) (hv : Fr vn) (hd : dstOk X o) {x : Operand} (ho : o.op = .assign x)
    (he : (opRd X vn o).eval env.get [] = some (us, lg)) : OpOK A X (FrD Fr vn) o us env a w := by
  simp only [opRd, ho] at he
  cases hdst : o.dst with
  | none => rw [hdst] at he; simp [Rd.eval] at he
  | some d =>
    rw [hdst] at he
    simp only [Rd.eval_bind, Option.bind_eq_some_iff] at he
    obtain ⟨⟨av, l1⟩, h1, h2⟩ := he
    have hr := rdOp_sound h h1
    have hrun : (execOp a.eval o).run A.P w = .ok (.value (a.eval x)) w := by simp [execOp, ho]
    refine OpOK.value hrun ?_
    rw [hdst]
    cases av with
    | val g cs =>
      simp only [Rd.eval_bind, Option.bind_eq_some_iff] at h2
      obtain ⟨⟨⟨cs', us'⟩, l2⟩, h3, h4⟩ := h2
      simp only [Rd.eval, Option.some.injEq, Prod.mk.injEq] at h4
      obtain ⟨rfl, _⟩ := h4
      obtain ⟨vs, hv', hg, hcs⟩ := hr
      obtain ⟨k1, k2, _, _⟩ := install_sound cs [] env vs cs' us' l1 l2 h (fun _ _ => rfl) hcs h3
      rw [appAll_append, hv']
      exact k2.setInst hv (hd d hdst) (fun hgf => by rw [← k1.len, hcs.length]; exact hg hgf) k1
    | skip =>
      simp only [Rd.eval, Option.some.injEq, Prod.mk.injEq] at h2
      obtain ⟨rfl, _⟩ := h2
      rw [show a.eval x = undef from hr]
      exact (h.putSkip (hd d hdst)).weaken vn
    | undef => simp [Rd.eval] at h2
    | tup l => simp [Rd.eval] at h2
    | box _ _ _ => simp [Rd.eval] at h2
    | num _ => simp [Rd.eval] at h2
end
end Go.VI
namespace Go.VI
open Go.RowKit
theorem mkVal_cells {g : Bool} {us : List Value} (h1 : ∀ u ∈ us, u.oneCell' = true) (hg : g = false → us.length = 1) : (mkVal g us).cells = us.toArray := by
  cases g with
  | true => rfl
  | false =>
    have := hg rfl
    match us, this with
    | [u], _ =>
      have h := h1 u (by simp)
      cases u <;> simp_all [mkVal, Value.cells, Value.oneCell']
theorem add_zero_block (a : Addr) (n : Nat) : (a.add n).block = a.block := by unfold Addr.add; split <;> rfl
theorem add_add (a : Addr) (m n : Nat) : (a.add m).add n = a.add (m + n) := by
  unfold Addr.add
  by_cases hn : n = 0
  · subst hn; simp
  · by_cases hm : m = 0
    · subst hm; simp [hn]
    · have : ¬ (m + n = 0) := by omega
      simp [hn, hm, Nat.add_assoc]
theorem add_plain (g o n : Nat) : (⟨g, o, none⟩ : Addr).add n = ⟨g, o + n, none⟩ := by unfold Addr.add; split <;> simp_all
section
variable {A : Fix} {X : Ctx} {γ : Gh} {Fr : Nat → Prop} {env : Env} {a : Act} {w w' : World} {vn : Nat}
theorem RelCs.one : ∀ {cs : List Cell} {us : List Value}, RelCs A γ w Fr cs us → ∀ u ∈ us, u.oneCell' = true
  | [], us, h => by rw [show us = [] from h]; simp
  | c :: r, us, ⟨u, us', h1, h2, h3⟩ => by
    rw [h1]
    intro u' hu'
    rcases List.mem_cons.1 hu' with rfl | hu'
    · exact h2.2.1
    · exact RelCs.one h3 u' hu'
theorem explode_rel : ∀ (t : Ty) (x : t.den) (us : List Value), RepI γ.Z w t x us → RelCs A γ w Fr (explode t x) us
  | .int k, n, us, h => ⟨_, [], h, good_int k n, rfl⟩
  | .bool, b, us, h => ⟨_, [], h, good_bool b, rfl⟩
  | .str, s, us, h => ⟨_, [], h, good_str s, rfl⟩
  | .unit, _, us, h => h
  | .pair a b, x, us, ⟨c1, c2, h0, h1, h2⟩ => by rw [h0]; exact (explode_rel a x.1 c1 h1).append (explode_rel b x.2 c2 h2)
  | .sl t, l, us, h => by
    obtain ⟨B, c, h0, h1, h2⟩ := h
    exact ⟨_, [], h0, ⟨⟨⟨B, c, rfl, h1, h2⟩, by simp⟩, rfl, by simp [refs], rfl⟩, rfl⟩
theorem implode_rel : ∀ (t : Ty) (cs : List Cell) (us : List Value) (x : t.den) (r : List Cell), implode t cs = some (x, r) → RelCs A γ w Fr cs us →
    ∃ u1 u2, us = u1 ++ u2 ∧ RepI γ.Z w t x u1 ∧ RelCs A γ w Fr r u2
  | .int k, cs, us, x, r, h, hr => by
    cases cs with
    | nil => simp [implode] at h
    | cons c cs =>
      obtain ⟨u, us', rfl, hg, hr'⟩ := hr
      cases c <;> simp [implode] at h
      obtain ⟨rfl, rfl, rfl⟩ := h
      exact ⟨[u], us', rfl, by rw [show u = _ from hg.1]; rfl, hr'⟩
  | .bool, cs, us, x, r, h, hr => by
    cases cs with
    | nil => simp [implode] at h
    | cons c cs =>
      obtain ⟨u, us', rfl, hg, hr'⟩ := hr
      cases c <;> simp [implode] at h
      obtain ⟨rfl, rfl⟩ := h
      exact ⟨[u], us', rfl, by rw [show u = _ from hg.1]; rfl, hr'⟩
  | .str, cs, us, x, r, h, hr => by
    cases cs with
    | nil => simp [implode] at h
    | cons c cs =>
      obtain ⟨u, us', rfl, hg, hr'⟩ := hr
      cases c <;> simp [implode] at h
      obtain ⟨rfl, rfl⟩ := h
      exact ⟨[u], us', rfl, by rw [show u = _ from hg.1]; rfl, hr'⟩
  | .unit, cs, us, x, r, h, hr => by
    simp [implode] at h
    subst h
    exact ⟨[], us, rfl, rfl, hr⟩
  | .pair a b, cs, us, x, r, h, hr => by
    simp only [implode] at h
    split at h
    · rename_i y m h1
      split at h
      · rename_i z m' h2
        simp only [Option.some.injEq, Prod.mk.injEq] at h
        obtain ⟨rfl, rfl⟩ := h
        obtain ⟨u1, u2, rfl, r1, r2⟩ := implode_rel a cs us y m h1 hr
        obtain ⟨u3, u4, rfl, r3, r4⟩ := implode_rel b m u2 z m' h2 r2
        exact ⟨u1 ++ u3, u4, by rw [List.append_assoc], ⟨u1, u3, rfl, r1, r3⟩, r4⟩
      · cases h
    · cases h
  | .sl t, cs, us, x, r, h, hr => by
    cases cs with
    | nil => simp [implode] at h
    | cons c cs =>
      obtain ⟨u, us', rfl, hg, hr'⟩ := hr
      cases c <;> simp [implode] at h
      · obtain ⟨rfl, rfl⟩ := h
        refine ⟨[u], us', rfl, ?_, hr'⟩
        rw [show u = _ from hg.1]
        exact ⟨none, 0, rfl, Nat.le_refl _, fun i x hx => by simp at hx⟩
      · obtain ⟨⟨rfl, rfl⟩, rfl⟩ := h
        exact ⟨[u], us', rfl, hg.1.1, hr'⟩
theorem run_loadVar_at {T : TypeId} {ti : TI} (ht : TIOK A.P T ti) {ad : Addr} {us : List Value} (hl : us.length = ti.ty.size) (hc : ∀ j u, us[j]? = some u → w.cell? (ad.add j) = some u) :
    (loadVar T ad).run A.P w = .ok (mkVal ti.agg us) w := by
  obtain ⟨i, hi, hs, _, _⟩ := ht.info'
  have hu := run_underlying (P := A.P) ht.und w
  have hagg : (isAgg T).run A.P w = .ok ti.agg w := by
    rw [ht.agg]
    unfold isAgg
    simp only [Sem.run_bind, hu, Result.andThen_ok]
    cases ti.desc <;> rfl
  unfold loadVar
  simp only [Sem.run_bind, hagg, Result.andThen_ok]
  cases hg : ti.agg with
  | true =>
    simp only [if_true, Sem.run_bind, sizeOf, typeInfo, Sem.run_pure]
    simp only [program, Sem.run, hi, Sem.run_pure, Result.andThen_ok, hs, ← hl, run_loadCells_list w ad us hc]
    rfl
  | false =>
    have h1 := ht.one hg
    rw [← hl] at h1
    match us, h1 with
    | [u], _ =>
      have := hc 0 u rfl
      have h0 : ad.add 0 = ad := by simp [Addr.add]
      rw [h0] at this
      simp [mkVal, run_load, this]
theorem Core.newBox (h : Core A X γ Fr env a w) (hst : Stable A.n0 A.G) (hv : Fr vn) {d : Nat} (hd : d < X.ntmps) {cs : List Cell} {vs : List Value} (hi : InstOK A γ w Fr vn env cs vs) (T : TypeId) :
    Holds A X (FrD Fr vn) ((.tmp d, .val false [.addr d vn 0]) :: (.box d, .box vn false cs) :: env) (a.put (some d) (.pointer (some ⟨w.heap.size, 0, none⟩))) (w.alloc (.cells vs.toArray T)) := by
  have hlt : ∀ {g : Nat} {o : Obj}, w.heap[g]? = some o → g < w.heap.size := fun hh => (Array.getElem?_eq_some_iff.1 hh).1
  have hbel : Below w.heap.size w (w.alloc (.cells vs.toArray T)) := (Below.refl _ _).alloc (Nat.le_refl _) _
  let σ' : Nat → Nat → Nat := fun b v => if b = d ∧ v = vn then w.heap.size else γ.σ b v
  have hσ : ∀ r, ¬ Fr r → ∀ b, σ' b r = γ.σ b r := fun r hr b => by
    have : r ≠ vn := fun e => hr (by rw [e]; exact hv)
    simp [σ', this]
  have hsz : ∀ y e t ver l, envCell env y = some (.own e t ver l) → ∀ g, (γ.φ y).ownBlock = some g → g < w.heap.size := fun y e t ver l hy g hg => (OwnV.lt (h.cell y _ hy).1 g hg).2
  have hgetv : ∀ j c, cs[j]? = some c → vs[j]? = some (vs.getD j undef) := fun j c hc => by
    have hl : j < vs.length := by rw [hi.len]; exact (List.getElem?_eq_some_iff.1 hc).1
    simp [List.getD, List.getElem?_eq_getElem hl]
  have hmv : ∀ {c u}, RelCell A γ w c u → (∀ r, refs c = some r → ¬ Fr r) → (c.isOwn = true → ∀ g, u.ownBlock = some g → g < w.heap.size) →
      RelCell A { γ with ψ := setψ γ (.box d) vn (fun _ j => vs.getD j undef), σ := σ' } (w.alloc (.cells vs.toArray T)) c u := fun hc hr ho =>
    hc.move (fun r h1 y => show setψ γ (.box d) vn (fun _ j => vs.getD j undef) y r = γ.ψ y r from setψ_old hv r (hr r h1) y) (fun r h1 b => hσ r (hr r h1) b) (fun _ hz => hz)
      (fun g hz => heap_alloc_old w _ g (h.zone g hz)) (by simp) (fun ho' g hg => heap_alloc_old w _ g (ho ho' g hg))
  have hb := h.setBoxG (Fr' := FrD Fr vn) (d := d) (bv := vn) (g0 := w.heap.size) (w' := w.alloc (.cells vs.toArray T)) cs (fun _ j => vs.getD j undef) T
    (setψ γ (.box d) vn (fun _ j => vs.getD j undef)) σ'
    (fun _ hh => hh.1) (setψ_old hv) hσ (by simp [σ']) (fun hh => hh.2 rfl) ⟨fun _ => h.frame.size, fun hh => by have := h.ntl; omega⟩ (fun hz => by have := h.zone _ hz; omega)
    (fun b bv' fz cs' hne hbb => by
      obtain ⟨⟨T', h1⟩, _⟩ := h.box b bv' fz cs' hbb
      have := hlt h1; omega)
    (fun y e t ver l _ hy hg => by have := hsz y e t ver l hy _ hg; omega)
    (GrownD.alloc w _ _) (hst.below h.glob hbel)
    (by rw [heap_alloc_new, range_map_getD vs cs.length hi.len])
    (fun j c hc => by
      have hu := hgetv j c hc
      have hone := hi.one j _ hu
      cases ho : c.isOwn with
      | false =>
        obtain ⟨g1, g2, g3, g4⟩ := hi.rel j c _ hc hu ho
        exact ⟨hmv g1 g3 (fun hh => by rw [ho] at hh; cases hh), g2, fun r hr hh => g3 r hr hh.1⟩
      | true =>
        cases c <;> simp [Cell.isOwn] at ho
        obtain ⟨_, k2, _⟩ := hi.own j _ _ _ _ _ hc hu
        exact ⟨hmv (c := .own _ _ _ _) k2 (by simp [refs]) (fun _ g hg => (k2.lt g hg).2), hone, by simp [refs]⟩)
    (fun j e t ver l hc => by
      have hu := hgetv j _ hc
      obtain ⟨rfl, k2, k3⟩ := hi.own j _ _ _ _ _ hc hu
      refine ⟨by simp [setψ], fun hh => hh.2 rfl, fun g hgb => ⟨(k3 g hgb).but _, by have := (k2.lt g hgb).2; omega, fun j' e' t' ver' l' hc' hgb' => ?_⟩⟩
      exact (hi.uniq j j' _ _ _ _ _ _ _ _ _ _ g hc hu hc' (hgetv j' _ hc') hgb hgb').symm)
  refine Core.putVal hb hd ?_
  exact ⟨[.pointer (some ⟨w.heap.size, 0, none⟩)], rfl, fun _ => rfl, _, [], rfl, ⟨by simp [RelCell, σ'], rfl, fun r hr hh => by simp [refs] at hr; subst hr; exact hh.2 rfl, rfl⟩, rfl⟩
theorem inst_zero {cs : List Cell} (hz : ∀ c ∈ cs, zcell c = true) : InstOK A γ w Fr vn env cs (cs.map cellV) := by
  have hget : ∀ (j : Nat) (u : Value), (cs.map cellV)[j]? = some u → ∃ c, cs[j]? = some c ∧ u = cellV c ∧ zcell c = true := by
    intro j u hu
    rw [List.getElem?_map, Option.map_eq_some_iff] at hu
    obtain ⟨c, hc, rfl⟩ := hu
    exact ⟨c, hc, rfl, hz c (List.mem_of_getElem? hc)⟩
  refine ⟨by simp, fun j u hu => ?_, fun j c u hc hu ho => ?_, fun j e t v l u hc hu => ?_, fun j j' e e' t t' v v' l l' u u' g hc => ?_⟩
  · obtain ⟨c, _, rfl, hzc⟩ := hget j u hu
    exact (zcell_rel (A := A) (γ := γ) (w := w) hzc).2.1
  · obtain ⟨c', hc', rfl, hzc⟩ := hget j u hu
    rw [hc] at hc'; injection hc' with hc'; subst hc'
    obtain ⟨k1, k2, k3, k4⟩ := zcell_rel (A := A) (γ := γ) (w := w) hzc
    exact ⟨k1, k2, by simp [k3], k4⟩
  · have := hz _ (List.mem_of_getElem? hc); simp [zcell] at this
  · have := hz _ (List.mem_of_getElem? hc); simp [zcell] at this
theorem run_zeroValue {T : TypeId} {ti : TI} (ht : TIOK A.P T ti) : (zeroValue T).run A.P w = .ok (mkVal ti.agg (ti.zero.map cellV)) w := by
  obtain ⟨i, hi, hs, _, hz⟩ := ht.info'
  simp only [zeroValue, typeInfo, Sem.run_bind, program, Sem.run, hi, Sem.run_pure, Result.andThen_ok, hz]
theorem zcell_one {c : Cell} (h : zcell c = true) : (cellV c).oneCell' = true := by
  cases c <;> simp [zcell] at h <;> simp [cellV, Value.oneCell']
theorem zero_cells {T : TypeId} {ti : TI} (ht : TIOK A.P T ti) : (mkVal ti.agg (ti.zero.map cellV)).cells = (ti.zero.map cellV).toArray :=
  mkVal_cells (fun u hu => by
    obtain ⟨c, hc, rfl⟩ := List.mem_map.1 hu
    exact zcell_one (ht.zcells c hc)) (fun hg => by rw [List.length_map, ht.zlen]; exact ht.one hg)
theorem run_newVar (T : TypeId) (v : Value) : (newVar T v).run A.P w = .ok ⟨w.heap.size, 0, none⟩ (w.alloc (.cells v.cells T)) := rfl
theorem op_alloc {o : Oper} {us : List Upd} {lg : List Slot} (h : Core A X γ Fr env a w) (hst : Stable A.n0 A.G) (hty : TyOK A.P X) (hv : Fr vn) (hd : dstOk X o) {T : TypeId} (ho : o.op = .alloc T)
    (he : (opRd X vn o).eval env.get [] = some (us, lg)) : OpOK A X (FrD Fr vn) o us env a w := by
  simp only [opRd, ho] at he
  cases hdst : o.dst with
  | none => rw [hdst] at he; simp [Rd.eval] at he
  | some d =>
    rw [hdst] at he
    simp only [Rd.eval_bind, Option.bind_eq_some_iff, Ctx.ti, Rd.eval_ofOpt, Option.map_eq_some_iff] at he
    obtain ⟨_, ⟨ti, h1, rfl⟩, h2⟩ := he
    simp only [Rd.eval, Option.some.injEq, Prod.mk.injEq] at h2
    obtain ⟨rfl, _⟩ := h2
    have ht := hty T ti h1
    have hrun : (execOp a.eval o).run A.P w = .ok (.value (.pointer (some ⟨w.heap.size, 0, none⟩))) (w.alloc (.cells (ti.zero.map cellV).toArray T)) := by
      simp only [execOp, ho, Instr.alloc, Sem.run_bind, run_zeroValue ht, Result.andThen_ok, run_newVar, Sem.run_pure, zero_cells ht]
    refine OpOK.value hrun ?_
    rw [hdst]
    exact h.newBox hst hv (hd d hdst) (inst_zero ht.zcells) T
theorem op_box {o : Oper} {us : List Upd} {lg : List Slot} (h : Core A X γ Fr env a w) (hst : Stable A.n0 A.G) (hv : Fr vn) (hd : dstOk X o) {T : TypeId} {x : Operand} (ho : o.op = .box T x)
    (he : (opRd X vn o).eval env.get [] = some (us, lg)) : OpOK A X (FrD Fr vn) o us env a w := by
  simp only [opRd, ho] at he
  cases hdst : o.dst with
  | none => rw [hdst] at he; simp [Rd.eval] at he
  | some d =>
    rw [hdst] at he
    simp only [Rd.eval_bind, Option.bind_eq_some_iff, Ctx.ti, Rd.eval_ofOpt, Option.map_eq_some_iff] at he
    obtain ⟨_, ⟨ti, h1, rfl⟩, ⟨av, l1⟩, h2, h3⟩ := he
    have hr := rdOp_sound h h2
    cases av with
    | val g cs =>
      simp only at h3
      cases hc : (g == ti.agg && Nat.beq cs.length ti.ty.size) with
      | false => rw [hc] at h3; simp [Rd.eval] at h3
      | true =>
        rw [hc] at h3
        simp only [cond_true, Rd.eval_bind, Option.bind_eq_some_iff] at h3
        obtain ⟨⟨⟨cs', us'⟩, l2⟩, h4, h5⟩ := h3
        simp only [Rd.eval, Option.some.injEq, Prod.mk.injEq] at h5
        obtain ⟨rfl, _⟩ := h5
        obtain ⟨vs, hv', hg, hcs⟩ := hr
        obtain ⟨k1, k2, _, _⟩ := install_sound cs [] env vs cs' us' l1 l2 h (fun _ _ => rfl) hcs h4
        have hcells : (a.eval x).cells = vs.toArray := by
          rw [hv']; exact mkVal_cells hcs.one (fun hgf => by rw [hcs.length]; exact hg hgf)
        have hrun : (execOp a.eval o).run A.P w = .ok (.value (.pointer (some ⟨w.heap.size, 0, none⟩))) (w.alloc (.cells vs.toArray T)) := by
          simp only [execOp, ho, Instr.box, Sem.run_bind, Result.andThen_ok, run_newVar, Sem.run_pure, hcells]
        refine OpOK.value hrun ?_
        rw [hdst, appAll_append]
        exact k2.newBox hst hv (hd d hdst) k1 T
    | skip => simp [Rd.eval] at h3
    | undef => simp [Rd.eval] at h3
    | tup l => simp [Rd.eval] at h3
    | box _ _ _ => simp [Rd.eval] at h3
    | num _ => simp [Rd.eval] at h3
end
end Go.VI
namespace Go.VI
open Go.RowKit
def GlobOK (A : Fix) (X : Ctx) : Prop := ∀ w, A.G w → ∀ g p, look X.globals g = some p → ∃ us, RepI (fun _ => False) w p.1 p.2 us ∧ ∀ j u, us[j]? = some u → w.cell? ⟨g, j, none⟩ = some u
theorem inB_iff {i : Int} {n : Nat} : inB i n = true ↔ 0 ≤ i ∧ i.toNat < n := by
  simp only [inB, Bool.and_eq_true, decide_eq_true_eq]
  omega
theorem nth_get {t : Ty} {l : List t.den} {i : Int} (h : inB i l.length = true) : l[i.toNat]? = some (nth t l i) := by
  have := (inB_iff.1 h).2
  simp [nth, List.getD, List.getElem?_eq_getElem this]
section
variable {A : Fix} {X : Ctx} {γ : Gh} {Fr : Nat → Prop} {env : Env} {a : Act} {w w' : World} {vn : Nat}
theorem selCell_good (i : Int) : ∀ (n j : Nat) (cs : List Cell) (us : List Value) (sz : Nat) (c : Cell), selCell i j cs sz n = some c → RelCs A γ w Fr cs us → (j : Int) ≤ i → i < ((j + n : Nat) : Int) →
    ∃ u, us[(i.toNat - j) * sz]? = some u ∧ GoodR A γ w Fr c u
  | 0, j, cs, us, sz, c, h, hr, h1, h2 => by omega
  | n + 1, j, [], us, sz, c, h, hr, h1, h2 => by simp [selCell] at h
  | 1, j, c0 :: cs, us, sz, c, h, hr, h1, h2 => by
    simp only [selCell, Option.some.injEq] at h
    subst h
    obtain ⟨u, us', rfl, hg, _⟩ := hr
    exact ⟨u, by have : i.toNat - j = 0 := by omega
                 simp [this], hg⟩
  | n + 2, j, c0 :: cs, us, sz, c, h, hr, h1, h2 => by
    have hd := hr.drop sz
    obtain ⟨u, us', hus, hg, _⟩ := id hr
    simp only [selCell] at h
    have rest : ∀ c', selCell i (j + 1) ((c0 :: cs).drop sz) sz (n + 1) = some c' → i ≠ (j : Int) → ∃ u', us[(i.toNat - j) * sz]? = some u' ∧ GoodR A γ w Fr c' u' := by
      intro c' hc' hne
      obtain ⟨u', hu', hg'⟩ := selCell_good i (n + 1) (j + 1) _ _ sz c' hc' hd (by omega) (by omega)
      refine ⟨u', ?_, hg'⟩
      rw [List.getElem?_drop] at hu'
      rw [← hu']
      congr 1
      have : i.toNat - j = (i.toNat - (j + 1)) + 1 := by omega
      rw [this, Nat.succ_mul]; omega
    have here : i = (j : Int) → us[(i.toNat - j) * sz]? = some u := by
      intro he
      have : i.toNat - j = 0 := by omega
      rw [this, hus]; simp
    split at h
    · rename_i k x k' y hsel
      split at h
      · rename_i hk
        subst hk
        injection h with h
        subst h
        by_cases he : i = (j : Int)
        · refine ⟨u, here he, ?_⟩
          simp only [he, decide_true, cond_true]
          exact hg
        · obtain ⟨u', hu', hg'⟩ := rest _ hsel he
          refine ⟨u', hu', ?_⟩
          simp only [he, decide_false, cond_false]
          exact hg'
      · cases h
    · rename_i x y hsel
      injection h with h
      subst h
      by_cases he : i = (j : Int)
      · refine ⟨u, here he, ?_⟩
        simp only [he, decide_true, cond_true]
        exact hg
      · obtain ⟨u', hu', hg'⟩ := rest _ hsel he
        refine ⟨u', hu', ?_⟩
        simp only [he, decide_false, cond_false]
        exact hg'
    · rename_i x y hsel
      injection h with h
      subst h
      by_cases he : i = (j : Int)
      · refine ⟨u, here he, ?_⟩
        simp only [he, decide_true, cond_true]
        exact hg
      · obtain ⟨u', hu', hg'⟩ := rest _ hsel he
        refine ⟨u', hu', ?_⟩
        simp only [he, decide_false, cond_false]
        exact hg'
    · cases h
theorem selCells_good (i : Int) (cs : List Cell) (us : List Value) (n sz : Nat) (hr : RelCs A γ w Fr cs us) (hi : inB i n = true) : ∀ (m d : Nat) (cs' : List Cell), selCells i cs n sz d m = some cs' →
    ∃ us', RelCs A γ w Fr cs' us' ∧ us'.length = m ∧ ∀ (j : Nat) (u : Value), us'[j]? = some u → us[i.toNat * sz + (d + j)]? = some u
  | 0, d, cs', h => by
    simp [selCells] at h
    subst h
    exact ⟨[], rfl, rfl, by simp⟩
  | m + 1, d, cs', h => by
    simp only [selCells] at h
    split at h
    · rename_i c hc
      simp only [Option.map_eq_some_iff] at h
      obtain ⟨r, h1, rfl⟩ := h
      obtain ⟨us', k1, k2, k3⟩ := selCells_good i cs us n sz hr hi m (d + 1) r h1
      obtain ⟨h0, h2⟩ := inB_iff.1 hi
      obtain ⟨u, hu, hg⟩ := selCell_good i n 0 (cs.drop d) (us.drop d) sz c hc (hr.drop d) (by omega) (by omega)
      rw [List.getElem?_drop] at hu
      refine ⟨u :: us', ⟨u, us', rfl, hg, k1⟩, by simp [k2], fun j u' hj => ?_⟩
      cases j with
      | zero =>
        simp at hj
        subst hj
        rw [← hu]; congr 1; simp; omega
      | succ j =>
        have := k3 j u' (by simpa using hj)
        rw [← this]; congr 1; omega
    · cases h
theorem Core.boxCells (h : Core A X γ Fr env a w) {b bv : Nat} {fz : Bool} {cs0 : List Cell} (hb : env.get (.box b) = .box bv fz cs0) (off : Nat) :
    RelCs A γ w Fr (VI.readCells (.box b) 0 off (cs0.drop off)) ((cellVals γ (.box b) 0 cs0.length).drop off) ∧
    ∀ j u, (cellVals γ (.box b) 0 cs0.length)[j]? = some u → w.cell? ⟨γ.σ b bv, j, none⟩ = some u := by
  constructor
  · have := h.readCells (.box b) 0 off (cs0.drop off) (fun k c hk => by
      rw [List.getElem?_drop] at hk
      show (env.get (.box b)).cell? 0 (off + k) = some c
      rw [hb]; exact hk)
    have e : (cellVals γ (.box b) 0 cs0.length).drop off = (List.range (cs0.drop off).length).map fun k => γ.φ ⟨.box b, 0, off + k⟩ := by
      apply List.ext_getElem?
      intro k
      simp only [cellVals, List.getElem?_drop, List.getElem?_map, List.length_drop]
      by_cases hk : off + k < cs0.length
      · simp [List.getElem?_range hk, List.getElem?_range (show k < cs0.length - off by omega)]
      · rw [List.getElem?_eq_none (by simp; omega), List.getElem?_eq_none (by simp; omega)]
        rfl
    rw [e]; exact this
  · intro j u hu
    obtain ⟨⟨T, hg⟩, _⟩ := h.box b bv fz cs0 hb
    rw [cell_of_row w _ j _ T (0, 0) hg]
    simpa using hu
theorem cellsAt_sound (h : Core A X γ Fr env a w) (hgl : GlobOK A X) {n : Nat} {c : Cell} {v : Value} {cs : List Cell} {lg lg' : List Slot} (hg : GoodR A γ w Fr c v)
    (he : (cellsAt X n c).eval env.get lg = some (cs, lg')) :
    ∃ ad us, v = .pointer (some ad) ∧ RelCs A γ w Fr cs us ∧ us.length = n ∧ ∀ j u, us[j]? = some u → w.cell? (ad.add j) = some u := by
  have take : ∀ (cs0 cs' : List Cell) (us0 : List Value) (ad : Addr) (off : Nat), RelCs A γ w Fr cs0 us0 → VI.takeN n (cs0.drop off) = some cs' → (∀ j u, us0[j]? = some u → w.cell? (ad.add j) = some u) →
      ∃ us, RelCs A γ w Fr cs' us ∧ us.length = n ∧ ∀ j u, us[j]? = some u → w.cell? ((ad.add off).add j) = some u := by
    intro cs0 cs' us0 ad off hr ht hc
    obtain ⟨e1, e2⟩ := takeN_eq ht
    have hr' := (hr.drop off).takeN ht
    refine ⟨_, hr', by rw [hr'.length, e1, List.length_take]; exact Nat.min_eq_left e2, fun j u hj => ?_⟩
    rw [add_add]
    refine hc _ u ?_
    rw [List.getElem?_take] at hj
    split at hj
    · rwa [List.getElem?_drop] at hj
    · cases hj
  cases c with
  | addr b bv off =>
    simp only [cellsAt, Rd.eval_bind, Option.bind_eq_some_iff, Rd.eval_ofOpt, Option.map_eq_some_iff] at he
    obtain ⟨⟨⟨fz, cs0⟩, l1⟩, h1, _, ⟨cs', h2, rfl⟩, h3⟩ := he
    simp only [Rd.eval, Option.some.injEq, Prod.mk.injEq] at h3
    obtain ⟨rfl, _⟩ := h3
    have hb := boxAt_eval h1
    obtain ⟨k1, k2⟩ := h.boxCells hb off
    obtain ⟨e1, e2⟩ := takeN_eq h2
    have hr := h.readCells (.box b) 0 off cs' (fun k c hk => by
      show (env.get (.box b)).cell? 0 (off + k) = some c
      rw [hb]
      rw [e1, List.getElem?_take] at hk
      split at hk
      · rwa [List.getElem?_drop] at hk
      · cases hk)
    refine ⟨⟨γ.σ b bv, off, none⟩, _, hg.1, hr, by rw [List.length_map, List.length_range, e1, List.length_take]; exact Nat.min_eq_left e2, fun j u hj => ?_⟩
    rw [add_plain]
    refine k2 _ u ?_
    rw [List.getElem?_map, Option.map_eq_some_iff] at hj
    obtain ⟨j', hj', rfl⟩ := hj
    have hlt : j < cs'.length := by
      rcases Nat.lt_or_ge j cs'.length with hh | hh
      · exact hh
      · rw [List.getElem?_eq_none (by simpa using hh)] at hj'; cases hj'
    rw [List.getElem?_range hlt] at hj'
    injection hj' with hj'
    subst hj'
    rw [cellVals_get]
    rw [e1] at hlt
    simp only [List.length_take, List.length_drop] at hlt
    dsimp only at hlt ⊢
    omega
  | addrI b bv off m sz i =>
    simp only [cellsAt, Rd.eval_bind, Option.bind_eq_some_iff, Rd.eval_ofOpt, Option.map_eq_some_iff] at he
    obtain ⟨⟨⟨fz, cs0⟩, l1⟩, h1, cs', h2, h3⟩ := he
    simp only [Prod.mk.injEq] at h3
    obtain ⟨rfl, _⟩ := h3
    have hb := boxAt_eval h1
    obtain ⟨k1, k2⟩ := h.boxCells hb off
    obtain ⟨hin, hv⟩ := hg.1
    obtain ⟨us', r1, r2, r3⟩ := selCells_good i _ _ m sz k1 hin n 0 cs' h2
    refine ⟨_, us', hv, r1, r2, fun j u hj => ?_⟩
    have := r3 j u hj
    rw [add_plain]
    refine k2 _ u ?_
    rw [List.getElem?_drop] at this
    rw [← this]; congr 1; omega
  | gptr g off =>
    simp only [cellsAt, global, Rd.eval_bind, Option.bind_eq_some_iff, Rd.eval_ofOpt, Option.map_eq_some_iff] at he
    obtain ⟨⟨cs0, l1⟩, ⟨_, ⟨p, h1, rfl⟩, h1'⟩, cs', h2, h3⟩ := he
    simp only [Rd.eval, Option.some.injEq, Prod.mk.injEq] at h1' h3
    obtain ⟨rfl, _⟩ := h1'
    obtain ⟨rfl, _⟩ := h3
    obtain ⟨us0, hr0, hc0⟩ := hgl w h.glob g p h1
    obtain ⟨us, r1, r2, r3⟩ := take _ cs' us0 ⟨g, 0, none⟩ off (explode_rel p.1 p.2 us0 (RepI.mono (fun _ hf => hf.elim) (fun _ hf => hf.elim) _ _ _ hr0)) h2 (fun j u hj => by rw [add_plain, Nat.zero_add]; exact hc0 j u hj)
    refine ⟨⟨g, off, none⟩, us, hg.1, r1, r2, fun j u hj => ?_⟩
    have := r3 j u hj
    rwa [add_plain, Nat.zero_add] at this
  | gptrI g off m sz i =>
    simp only [cellsAt, global, Rd.eval_bind, Option.bind_eq_some_iff, Rd.eval_ofOpt, Option.map_eq_some_iff] at he
    obtain ⟨⟨cs0, l1⟩, ⟨_, ⟨p, h1, rfl⟩, h1'⟩, cs', h2, h3⟩ := he
    simp only [Rd.eval, Option.some.injEq, Prod.mk.injEq] at h1' h3
    obtain ⟨rfl, _⟩ := h1'
    obtain ⟨rfl, _⟩ := h3
    obtain ⟨us0, hr0, hc0⟩ := hgl w h.glob g p h1
    obtain ⟨hin, hv⟩ := hg.1
    have hr1 : RelCs A γ w Fr (explode p.1 p.2) us0 := explode_rel p.1 p.2 us0 (RepI.mono (fun _ hf => hf.elim) (fun _ hf => hf.elim) _ _ _ hr0)
    obtain ⟨us', r1, r2, r3⟩ := selCells_good i _ _ m sz (hr1.drop off) hin n 0 cs' h2
    refine ⟨_, us', hv, r1, r2, fun j u hj => ?_⟩
    have := r3 j u hj
    rw [add_plain]
    refine hc0 _ u ?_
    rw [List.getElem?_drop] at this
    rw [← this]; congr 1; omega
  | iptr t x off =>
    simp only [cellsAt, Rd.eval_ofOpt, Option.map_eq_some_iff, Prod.mk.injEq] at he
    obtain ⟨cs', h2, rfl, _⟩ := he
    obtain ⟨ad, us0, hv, hz, hr0, hc0⟩ := hg.1
    obtain ⟨us, r1, r2, r3⟩ := take _ cs' us0 ad off (explode_rel t x us0 hr0) h2 hc0
    exact ⟨_, us, hv, r1, r2, r3⟩
  | iptrI t x off m sz i =>
    simp only [cellsAt, Rd.eval_ofOpt, Option.map_eq_some_iff, Prod.mk.injEq] at he
    obtain ⟨cs', h2, rfl, _⟩ := he
    obtain ⟨hin, ad, us0, hv, hz, hr0, hc0⟩ := hg.1
    have hr1 : RelCs A γ w Fr (explode t x) us0 := explode_rel t x us0 hr0
    obtain ⟨us', r1, r2, r3⟩ := selCells_good i _ _ m sz (hr1.drop off) hin n 0 cs' h2
    refine ⟨_, us', hv, r1, r2, fun j u hj => ?_⟩
    have := r3 j u hj
    rw [add_add]
    refine hc0 _ u ?_
    rw [List.getElem?_drop] at this
    rw [← this]; congr 1; omega
  | eview x ver sz i off =>
    simp only [cellsAt, Rd.eval_bind, Option.bind_eq_some_iff] at he
    obtain ⟨⟨⟨e, t, l⟩, l1⟩, h1, h2⟩ := he
    have hx := ownerAt_eval h1
    simp only at h2 hx
    cases hs : Nat.beq sz t.size with
    | false => rw [hs] at h2; simp [Rd.eval] at h2
    | true =>
      have hs' : sz = t.size := Nat.eq_of_beq_eq_true hs
      rw [hs] at h2
      simp only [cond_true, Rd.eval_ofOpt, Option.map_eq_some_iff, Prod.mk.injEq] at h2
      obtain ⟨cs', h2, rfl, _⟩ := h2
      obtain ⟨g, m, c, hψ, hin, hv⟩ := hg.1
      have hφ : γ.φ x = .slice (some ⟨g, 0, none⟩) m c := by rw [← (h.own x e t ver l hx).1]; exact hψ
      have hown := (h.cell x _ hx).1
      rw [hφ] at hown
      obtain ⟨_, xs, ho, hrs⟩ := hown
      have hm : m = l.length := by
        rcases ho.2 with ⟨hn, _⟩ | ⟨g', cap, cur, fz', hh, _⟩
        · cases hn
        · injection hh with h1 h2 h3
      rw [hm] at hin
      obtain ⟨us0, hr0, hc0⟩ := hrs.at l xs i.toNat _ (nth_get hin)
      obtain ⟨us, r1, r2, r3⟩ := take _ cs' us0 ⟨g, i.toNat * t.size, none⟩ off (explode_rel t _ us0 hr0) h2 (fun j u hj => by
        have := ho.cells (g := g) (by simp [Value.ownBlock]) _ _ (hc0 j u hj)
        rw [add_plain] at this ⊢
        rwa [Nat.zero_add] at this)
      refine ⟨_, us, hv, r1, r2, fun j u hj => ?_⟩
      have := r3 j u hj
      rw [add_plain] at this
      rw [hs']; exact this
  | eimm t l i off =>
    simp only [cellsAt, Rd.eval_ofOpt, Option.map_eq_some_iff, Prod.mk.injEq] at he
    obtain ⟨cs', h2, rfl, _⟩ := he
    obtain ⟨hin, ad, c, hrow, hv⟩ := hg.1
    obtain ⟨B, c', hB, _, hel⟩ := hrow
    simp only [List.cons.injEq, Value.slice.injEq, and_true] at hB
    obtain ⟨a', ha', hz, us0, hr0, hc0⟩ := hel i.toNat _ (nth_get hin)
    rw [← hB.1] at ha'
    injection ha' with ha'
    subst ha'
    obtain ⟨us, r1, r2, r3⟩ := take _ cs' us0 (ad.add (i.toNat * t.size)) off (explode_rel t _ us0 hr0) h2 (fun j u hj => by rw [add_add]; exact hc0 j u hj)
    refine ⟨_, us, hv, r1, r2, fun j u hj => ?_⟩
    have := r3 j u hj
    rwa [add_add ad] at this
  | eviewI x ver sz i off m sz2 j =>
    simp only [cellsAt, Rd.eval_bind, Option.bind_eq_some_iff] at he
    obtain ⟨⟨⟨e, t, l⟩, l1⟩, h1, h2⟩ := he
    have hx := ownerAt_eval h1
    simp only at h2 hx
    cases hs : Nat.beq sz t.size with
    | false => rw [hs] at h2; simp [Rd.eval] at h2
    | true =>
      have hs' : sz = t.size := Nat.eq_of_beq_eq_true hs
      rw [hs] at h2
      simp only [cond_true, Rd.eval_ofOpt, Option.map_eq_some_iff, Prod.mk.injEq] at h2
      obtain ⟨cs', h2, rfl, _⟩ := h2
      obtain ⟨g, m', c, hψ, hin, hinj, hv⟩ := hg.1
      have hφ : γ.φ x = .slice (some ⟨g, 0, none⟩) m' c := by rw [← (h.own x e t ver l hx).1]; exact hψ
      have hown := (h.cell x _ hx).1
      rw [hφ] at hown
      obtain ⟨_, xs, ho, hrs⟩ := hown
      have hm : m' = l.length := by
        rcases ho.2 with ⟨hn, _⟩ | ⟨g', cap, cur, fz', hh, _⟩
        · cases hn
        · injection hh with h1 h2 h3
      rw [hm] at hin
      obtain ⟨us0, hr0, hc0⟩ := hrs.at l xs i.toNat _ (nth_get hin)
      have hr1 : RelCs A γ w Fr (explode t (nth t l i)) us0 := explode_rel t _ us0 hr0
      obtain ⟨us', r1, r2, r3⟩ := selCells_good j _ _ m sz2 (hr1.drop off) hinj n 0 cs' h2
      refine ⟨_, us', hv, r1, r2, fun k u hk => ?_⟩
      have h4 := r3 k u hk
      rw [List.getElem?_drop] at h4
      have h5 := ho.cells (g := g) (by simp [Value.ownBlock]) _ _ (hc0 _ u h4)
      rw [add_plain, Nat.zero_add] at h5
      rw [add_plain, hs', ← h5]
      congr 2; omega
  | eimmI t l i off m sz2 j =>
    simp only [cellsAt, Rd.eval_ofOpt, Option.map_eq_some_iff, Prod.mk.injEq] at he
    obtain ⟨cs', h2, rfl, _⟩ := he
    obtain ⟨hin, hinj, ad, c, hrow, hv⟩ := hg.1
    obtain ⟨B, c', hB, _, hel⟩ := hrow
    simp only [List.cons.injEq, Value.slice.injEq, and_true] at hB
    obtain ⟨a', ha', hz, us0, hr0, hc0⟩ := hel i.toNat _ (nth_get hin)
    rw [← hB.1] at ha'
    injection ha' with ha'
    subst ha'
    have hr1 : RelCs A γ w Fr (explode t (nth t l i)) us0 := explode_rel t _ us0 hr0
    obtain ⟨us', r1, r2, r3⟩ := selCells_good j _ _ m sz2 (hr1.drop off) hinj n 0 cs' h2
    refine ⟨_, us', hv, r1, r2, fun k u hk => ?_⟩
    have h4 := r3 k u hk
    rw [List.getElem?_drop] at h4
    have h5 := hc0 _ u h4
    rw [add_add, ← h5]
    congr 2; omega
  | undef => simp [cellsAt, Rd.eval] at he
  | int k n => simp [cellsAt, Rd.eval] at he
  | bool b => simp [cellsAt, Rd.eval] at he
  | str s => simp [cellsAt, Rd.eval] at he
  | own e t v l => simp [cellsAt, Rd.eval] at he
  | nil e t => simp [cellsAt, Rd.eval] at he
  | imm t l p => simp [cellsAt, Rd.eval] at he
  | view x v => simp [cellsAt, Rd.eval] at he
  | sub x v s lo hi => simp [cellsAt, Rd.eval] at he
  | barr b bv o n t => simp [cellsAt, Rd.eval] at he
  | func f => simp [cellsAt, Rd.eval] at he
  | clo as rs F => simp [cellsAt, Rd.eval] at he
theorem op_load {o : Oper} {us : List Upd} {lg : List Slot} (h : Core A X γ Fr env a w) (hgl : GlobOK A X) (hty : TyOK A.P X) (hd : dstOk X o) {T : TypeId} {x : Operand} (ho : o.op = .load T x)
    (he : (opRd X vn o).eval env.get [] = some (us, lg)) : OpOK A X Fr o us env a w := by
  simp only [opRd, ho, Rd.eval_bind, Option.bind_eq_some_iff, Ctx.ti, Rd.eval_ofOpt, Option.map_eq_some_iff] at he
  obtain ⟨_, ⟨ti, h1, rfl⟩, ⟨c, l1⟩, h2, ⟨cs, l2⟩, h3, h4⟩ := he
  simp only [Rd.eval, Option.some.injEq, Prod.mk.injEq] at h4
  obtain ⟨rfl, _⟩ := h4
  have ht := hty T ti h1
  obtain ⟨ad, vs, hv, hr, hl, hc⟩ := cellsAt_sound h hgl (rdCell_sound h h2) h3
  have hrun : (execOp a.eval o).run A.P w = .ok (.value (mkVal ti.agg vs)) w := by
    simp only [execOp, ho, Instr.loadAt, Instr.sureAddr, hv, Sem.run_bind, Sem.run_pure, Result.andThen_ok, run_loadVar_at ht hl hc]
  exact OpOK.value hrun (h.put hd (av := .val ti.agg cs) ⟨vs, rfl, fun hg => by rw [← hr.length, hl]; exact ht.one hg, hr⟩ (.inl ⟨_, _, rfl⟩))
end
end Go.VI
namespace Go.VI
open Go.RowKit
theorem spliceAt_get {α : Type} : ∀ (l : List α) (off : Nat) (new : List α) (j : Nat), off + new.length ≤ l.length →
    (spliceAt l off new)[j]? = if off ≤ j ∧ j < off + new.length then new[j - off]? else l[j]?
  | l, 0, [], j, _ => by cases l <;> simp [spliceAt]
  | [], 0, v :: vs, j, h => by simp at h
  | [], n + 1, new, j, h => by simp at h
  | a :: r, 0, v :: vs, j, h => by
    cases j with
    | zero => simp [spliceAt]
    | succ j =>
      simp only [spliceAt, List.getElem?_cons_succ]
      rw [spliceAt_get r 0 vs j (by simp at h ⊢; omega)]
      simp only [Nat.zero_le, true_and, Nat.zero_add, List.length_cons, Nat.add_lt_add_iff_right, Nat.sub_zero, List.getElem?_cons_succ]
  | a :: r, n + 1, new, j, h => by
    cases j with
    | zero => cases new <;> simp [spliceAt]
    | succ j =>
      have h' : n + new.length ≤ r.length := by simp at h; omega
      have e : spliceAt (a :: r) (n + 1) new = a :: spliceAt r n new := by cases new <;> rfl
      rw [e, List.getElem?_cons_succ, spliceAt_get r n new j h']
      have : (n + 1 ≤ j + 1 ∧ j + 1 < n + 1 + new.length) ↔ (n ≤ j ∧ j < n + new.length) := by omega
      simp only [this, Nat.add_sub_add_right, List.getElem?_cons_succ]
theorem spliceAt_length {α : Type} : ∀ (l : List α) (off : Nat) (new : List α), off + new.length ≤ l.length → (spliceAt l off new).length = l.length
  | l, 0, [], _ => by cases l <;> simp [spliceAt]
  | [], 0, v :: vs, h => by simp at h
  | [], n + 1, new, h => by simp at h
  | a :: r, 0, v :: vs, h => by simp only [spliceAt, List.length_cons, spliceAt_length r 0 vs (by simp at h ⊢; omega)]
  | a :: r, n + 1, new, h => by
    have e : spliceAt (a :: r) (n + 1) new = a :: spliceAt r n new := by cases new <;> rfl
    rw [e, List.length_cons, spliceAt_length r n new (by simp at h; omega), List.length_cons]
theorem splice_eq {α : Type} (l : List α) (off : Nat) (new : List α) (h : off + new.length ≤ l.length) : spliceAt l off new = l.take off ++ new ++ l.drop (off + new.length) := by
  apply List.ext_getElem?
  intro j
  rw [spliceAt_get l off new j h, List.append_assoc]
  by_cases h1 : j < off
  · rw [if_neg (by omega), List.getElem?_append_left (by simp; omega), List.getElem?_take, if_pos h1]
  · rw [List.getElem?_append_right (by simp; omega)]
    have hl : (l.take off).length = off := by simp; omega
    rw [hl]
    by_cases h2 : j < off + new.length
    · rw [if_pos (by omega), List.getElem?_append_left (by omega)]
    · rw [if_neg (by omega), List.getElem?_append_right (by omega), List.getElem?_drop]
      congr 1; omega
section
variable {A : Fix} {X : Ctx} {γ : Gh} {Fr : Nat → Prop} {env : Env} {a : Act} {w w' : World} {vn : Nat}
theorem get_appAll_other (s : Slot) : ∀ (us : List Upd) (env : Env), (us.any fun u => Slot.beq u.slot s) = false → (appAll env us).get s = env.get s
  | [], env, _ => rfl
  | u :: r, env, h => by
    simp only [List.any_cons, Bool.or_eq_false_iff] at h
    rw [appAll, get_appAll_other s r _ h.2]
    have hne : u.slot ≠ s := fun e => by rw [Slot.beq_iff.2 e] at h; exact absurd h.1 (by simp)
    cases u with
    | set s' v => exact Env.get_cons_ne _ _ hne
    | cell x c => rw [get_app_cell, if_neg (show ¬ x.s = s from hne)]
theorem run_storeCells_fz (P : Program) (g o : Nat) (t : TypeId) (fz : Nat × Nat) : ∀ (vs : List Value) (i : Nat) (cur : Array Value) (w : World), w.heap[g]? = some (.cells cur t fz) → (fz.2 ≤ fz.1 ∨ cur.size ≤ fz.1) → o + i + vs.length ≤ cur.size → (∀ v ∈ vs, v.oneCell' = true) →
    (storeCells ⟨g, o, none⟩ vs i).run P w = .ok () (w.setRow g (cur.toList.take (o + i) ++ vs ++ cur.toList.drop (o + i + vs.length)).toArray)
  | [], i, cur, w, hg, _, _, _ => by
    simp only [storeCells, List.append_nil, List.length_nil, Nat.add_zero, List.take_append_drop, Array.toArray_toList]
    rw [setRow_self w g cur t fz hg]
    rfl
  | v :: rest, i, cur, w, hg, hfz, hl, h1 => by
    have hi : o + i < cur.size := by simp at hl; omega
    have hadd : (⟨g, o, none⟩ : Addr).add i = ⟨g, o + i, none⟩ := by unfold Addr.add; split <;> simp_all
    have hcell : w.cell? ⟨g, o + i, none⟩ = some cur[o + i] := by simp [World.cell?, hg, hi]
    have hfro : w.frozen? ⟨g, o + i, none⟩ = false := by
      obtain ⟨lo, hi'⟩ := fz
      simp only [World.frozen?, hg, Bool.and_eq_false_iff, decide_eq_false_iff_not]
      simp only at hfz
      omega
    have hst : (store ((⟨g, o, none⟩ : Addr).add i) v).run P w = .ok () (w.setRow g (cur.setIfInBounds (o + i) v)) := by
      rw [hadd, run_store P w _ v _ (h1 v (by simp)), hcell]
      simp [hfro, setCell_eq_setRow w g (o + i) cur t fz v hg]
    have ih := run_storeCells_fz P g o t fz rest (i + 1) (cur.setIfInBounds (o + i) v) (w.setRow g (cur.setIfInBounds (o + i) v)) (setRow_heap w g cur _ t _ hg) (by simpa using hfz) (by simp at hl ⊢; omega) (fun x hx => h1 x (by simp [hx]))
    simp only [storeCells, Sem.run_bind, hst, Result.andThen_ok, ih, setRow_setRow]
    congr 3
    have e := list_seg_step cur.toList (o + i) v rest (by simp at hl ⊢; omega)
    simpa [Array.toList_setIfInBounds, Nat.add_assoc] using e
theorem run_storeVar_at {T : TypeId} {ti : TI} (ht : TIOK A.P T ti) {g o : Nat} {ty : TypeId} {cur : Array Value} {v : Value} {us : List Value} (hc : v.cells = us.toArray) (hl : us.length = ti.ty.size)
    {fz : Nat × Nat} (hg : w.heap[g]? = some (.cells cur ty fz)) (hfz : fz.2 ≤ fz.1 ∨ cur.size ≤ fz.1) (hfit : o + us.length ≤ cur.size) (h1 : ∀ u ∈ us, u.oneCell' = true) :
    (storeVar T ⟨g, o, none⟩ v).run A.P w = .ok () (w.setRow g (cur.toList.take o ++ us ++ cur.toList.drop (o + us.length)).toArray) := by
  obtain ⟨i, hi, hs, _, _⟩ := ht.info'
  have hst := run_storeCells_fz A.P g o ty fz us 0 cur w hg hfz (by simpa using hfit) h1
  simp only [Nat.add_zero] at hst
  have hsz : ¬ (us.length ≠ i.size) := by rw [hl, hs]; simp
  unfold storeVar
  simp only [hc, List.size_toArray, Sem.run_bind, sizeOf, typeInfo, program, Sem.run, hi, Sem.run_pure, Result.andThen_ok, hsz, if_false, hst]
theorem setRow_grown {g : Nat} {cs : Array Value} : GrownD w (w.setRow g cs) (some g) :=
  ⟨rfl, rfl, rfl, by simp, fun k _ hk => setRow_other w g k _ (fun e => hk (by rw [e])), Nat.le_refl _⟩
theorem Core.glob_own (h : Core A X γ Fr env a w) (hst : Stable A.n0 A.G) (hG0 : BaseOK A) {row : Option Nat} (hg : GrownD w w' row) (hr : ∀ g, row = some g → A.w0.heap.size ≤ g ∨ A.L g) : A.G w' :=
  hst.2 w w' h.glob hg.size fun k hk => hg.block k (Nat.lt_of_lt_of_le hk (hst.1 w h.glob)) fun e => by
    rcases hr k e.symm with h1 | h1
    · have := hst.1 _ hG0.1; omega
    · have := hG0.2 k h1; omega
theorem Core.storeBox (h : Core A X γ Fr env a w) (hst : Stable A.n0 A.G) (hG0 : BaseOK A) (hv : Fr vn) {b bv : Nat} {cs0 : List Cell} (hb : env.get (.box b) = .box bv false cs0) {off : Nat} {new : List Cell} {us : List Value}
    (hfit : off + new.length ≤ cs0.length) (hi : InstOK A γ w Fr vn env new us) :
    Holds A X (FrD Fr vn) ((.box b, .box bv false (spliceAt cs0 off new)) :: env) a
      (w.setRow (γ.σ b bv) ((cellVals γ (.box b) 0 cs0.length).take off ++ us ++ (cellVals γ (.box b) 0 cs0.length).drop (off + us.length)).toArray) := by
  obtain ⟨⟨T, hg⟩, hB, hfz, hbv⟩ := h.box b bv false cs0 hb
  have hz0 : ¬ γ.Z (γ.σ b bv) := fun hz => by have := hfz.2 hz; cases this
  have hlen := hi.len
  have hcl := cellVals_length γ (.box b) 0 cs0.length
  let row := (cellVals γ (.box b) 0 cs0.length).take off ++ us ++ (cellVals γ (.box b) 0 cs0.length).drop (off + us.length)
  have hrow : row = spliceAt (cellVals γ (.box b) 0 cs0.length) off us := by rw [splice_eq _ _ _ (by rw [hcl, hlen]; exact hfit)]
  have hrl : row.length = cs0.length := by rw [hrow, spliceAt_length _ _ _ (by rw [hcl, hlen]; exact hfit), hcl]
  have hsl : (spliceAt cs0 off new).length = cs0.length := spliceAt_length _ _ _ hfit
  have hrget : ∀ j, j < cs0.length → row[j]? = if off ≤ j ∧ j < off + new.length then us[j - off]? else some (γ.φ ⟨.box b, 0, j⟩) := by
    intro j hj
    rw [hrow, spliceAt_get _ _ _ _ (by rw [hcl, hlen]; exact hfit), hlen]
    split
    · rfl
    · exact cellVals_get γ (.box b) 0 cs0.length j hj
  have hcell0 : ∀ j c, cs0[j]? = some c → envCell env ⟨.box b, 0, j⟩ = some c := fun j c hc => by show (env.get (.box b)).cell? 0 j = some c; rw [hb]; exact hc
  have hlt : ∀ {g : Nat} {o : Obj}, w.heap[g]? = some o → g < w.heap.size := fun hh => (Array.getElem?_eq_some_iff.1 hh).1
  have hw'z : ∀ g, γ.Z g → (w.setRow (γ.σ b bv) row.toArray).heap[g]? = w.heap[g]? := fun g hz => setRow_other w _ _ _ (fun e => hz0 (by rw [← e]; exact hz))
  let f : Nat → Nat → Value := fun _ j => row.getD j undef
  have hfj : ∀ j u, row[j]? = some u → f 0 j = u := fun j u hu => by simp [f, List.getD, hu]
  let ψ' := fun (x : Loc) (v : Nat) => if v = vn ∧ x.s = .box b then f x.c x.j else γ.ψ x v
  have hψ : ∀ r, ¬ Fr r → ∀ y, ψ' y r = γ.ψ y r := by
    intro r hr y
    have : r ≠ vn := fun e => hr (by rw [e]; exact hv)
    simp [ψ', this]
  have hmv : ∀ {c u}, RelCell A γ w c u → (∀ r, refs c = some r → ¬ Fr r) → (c.isOwn = true → ∀ g, u.ownBlock = some g → g ≠ γ.σ b bv) →
      RelCell A { γ with ψ := ψ', σ := γ.σ } (w.setRow (γ.σ b bv) row.toArray) c u := fun hc hr ho =>
    hc.move (fun r h1 y => hψ r (hr r h1) y) (fun _ _ _ => rfl) (fun _ hz => hz) hw'z (by simp) (fun ho' g hg => setRow_other w _ _ _ (ho ho' g hg))
  have hnew : ∀ j c, (spliceAt cs0 off new)[j]? = some c → j < cs0.length ∧ ((off ≤ j ∧ j < off + new.length ∧ new[j - off]? = some c ∧ ∃ u, us[j - off]? = some u ∧ f 0 j = u) ∨
      (¬ (off ≤ j ∧ j < off + new.length) ∧ cs0[j]? = some c ∧ f 0 j = γ.φ ⟨.box b, 0, j⟩)) := by
    intro j c hc
    have hj : j < cs0.length := by rw [← hsl]; exact (List.getElem?_eq_some_iff.1 hc).1
    rw [spliceAt_get _ _ _ _ hfit] at hc
    have hr := hrget j hj
    refine ⟨hj, ?_⟩
    by_cases hin : off ≤ j ∧ j < off + new.length
    · rw [if_pos hin] at hc hr
      have hju : j - off < us.length := by rw [hlen]; omega
      refine .inl ⟨hin.1, hin.2, hc, us[j - off], List.getElem?_eq_getElem hju, hfj j _ (by rw [hr]; exact List.getElem?_eq_getElem hju)⟩
    · rw [if_neg hin] at hc hr
      exact .inr ⟨hin, hc, hfj j _ hr⟩
  have hsetB := h.setBoxG (Fr' := FrD Fr vn) (d := b) (bv := bv) (g0 := γ.σ b bv) (w' := w.setRow (γ.σ b bv) row.toArray) (spliceAt cs0 off new) f T ψ' γ.σ
    (fun _ hh => hh.1) hψ (fun _ _ _ => rfl) rfl (fun hh => hbv hh.1) hB hz0
    (fun b' bv' fz cs' hne hbb he => hne (h.inj b' b bv' bv fz false cs' cs0 hbb hb he))
    (fun y e t ver l _ hy hgy => (h.own y e t ver l hy).2.2 _ hgy |>.2.1 b bv false cs0 hb rfl)
    setRow_grown (h.glob_own hst hG0 setRow_grown fun g hg => by injection hg with hg; subst hg; exact h.boxMine hb)
    (by
      rw [setRow_heap w _ _ _ T _ hg]
      congr 3
      rw [hsl, ← hrl]
      exact (range_map_getD row row.length rfl).symm)
    (fun j c hc => by
      obtain ⟨hj, hh⟩ := hnew j c hc
      rcases hh with ⟨h1, h2, hc', u, hu, hfu⟩ | ⟨hn, hc', hfu⟩
      · rw [hfu]
        have hone := hi.one _ u hu
        cases ho : c.isOwn with
        | false =>
          obtain ⟨g1, g2, g3, g4⟩ := hi.rel _ c u hc' hu ho
          exact ⟨hmv g1 g3 (fun hh => by rw [ho] at hh; cases hh), g2, fun r hr hh => g3 r hr hh.1⟩
        | true =>
          cases c <;> simp [Cell.isOwn] at ho
          obtain ⟨_, k2, k3⟩ := hi.own _ _ _ _ _ _ hc' hu
          exact ⟨hmv (c := .own _ _ _ _) k2 (by simp [refs]) (fun _ g hg' e => (k3 g hg').2.2.1 b bv false cs0 hb e.symm), hone, by simp [refs]⟩
      · rw [hfu]
        obtain ⟨g1, g2, g3⟩ := h.cell _ c (hcell0 j c hc')
        refine ⟨hmv g1 g3 (fun ho g hg' e => ?_), g2, fun r hr hh => g3 r hr hh.1⟩
        cases c <;> simp [Cell.isOwn] at ho
        exact ((h.own _ _ _ _ _ (hcell0 j _ hc')).2.2 g hg').2.1 b bv false cs0 hb e.symm)
    (fun j e t ver l hc => by
      obtain ⟨hj, hh⟩ := hnew j _ hc
      rcases hh with ⟨h1, h2, hc', u, hu, hfu⟩ | ⟨hn, hc', hfu⟩
      · obtain ⟨rfl, k2, k3⟩ := hi.own _ _ _ _ _ _ hc' hu
        refine ⟨by simp [ψ'], fun hh => hh.2 rfl, fun g hgb => ?_⟩
        rw [hfu] at hgb
        have hf := k3 g hgb
        refine ⟨hf.but _, fun e => hf.2.2.1 b bv false cs0 hb e.symm, fun j' e' t' ver' l' hc2 hgb' => ?_⟩
        obtain ⟨hj', hh'⟩ := hnew j' _ hc2
        rcases hh' with ⟨h1', h2', hc2', u', hu', hfu'⟩ | ⟨hn', hc2', hfu'⟩
        · rw [hfu'] at hgb'
          have := hi.uniq _ _ _ _ _ _ _ _ _ _ _ _ g hc' hu hc2' hu' hgb hgb'
          omega
        · rw [hfu'] at hgb'
          exact absurd hgb' (hf.2.2.2 _ _ _ _ _ (hcell0 j' _ hc2'))
      · obtain ⟨k1, k2, k3⟩ := h.own _ _ _ _ _ (hcell0 j _ hc')
        refine ⟨by rw [hψ _ k2, hfu]; exact k1, fun hh => k2 hh.1, fun g hgb => ?_⟩
        rw [hfu] at hgb
        obtain ⟨a1, a2, a3⟩ := k3 g hgb
        refine ⟨⟨h.fresh _ _ _ _ _ (hcell0 j _ hc') rfl g hgb, a1, a2, fun y e' t' ver' l' hy1 hy hgy => hy1 ?_⟩, fun e => a2 b bv false cs0 hb e.symm, fun j' e' t' ver' l' hc2 hgb' => ?_⟩
        · rw [a3 y _ _ _ _ hy hgy]
        · obtain ⟨hj', hh'⟩ := hnew j' _ hc2
          rcases hh' with ⟨h1', h2', hc2', u', hu', hfu'⟩ | ⟨hn', hc2', hfu'⟩
          · rw [hfu'] at hgb'
            obtain ⟨_, _, m3⟩ := hi.own _ _ _ _ _ _ hc2' hu'
            exact absurd hgb ((m3 g hgb').2.2.2 _ _ _ _ _ (hcell0 j _ hc'))
          · rw [hfu'] at hgb'
            have := a3 _ _ _ _ _ (hcell0 j' _ hc2') hgb'
            simp only [Loc.mk.injEq, true_and] at this
            exact this)
  exact ⟨_, hsetB⟩
theorem pick_zip (b : Bool) : ∀ (new : List Cell) (us : List Value) (olds : List Cell) (vs : List Value) (hs : List Cell), RelCs A γ w Fr new us → RelCs A γ w Fr olds vs → new.length = olds.length →
    allSome (List.zipWith (pickCell b) new olds) = some hs → RelCs A γ w Fr hs (if b then us else vs)
  | [], us, [], vs, hs, h1, h2, _, h => by
    simp [allSome] at h
    subst h
    rw [show us = [] from h1, show vs = [] from h2]
    cases b <;> exact rfl
  | [], us, _ :: _, vs, hs, h1, h2, hl, h => by simp at hl
  | _ :: _, us, [], vs, hs, h1, h2, hl, h => by simp at hl
  | c :: r, us, d :: s, vs, hs, ⟨u, us', hu, hg, hr⟩, ⟨v, vs', hv, hg', hr'⟩, hl, h => by
    simp only [List.zipWith_cons_cons] at h
    cases hp : pickCell b c d with
    | none => rw [hp] at h; cases h
    | some e =>
      rw [hp] at h
      simp only [allSome, Option.map_eq_some_iff] at h
      obtain ⟨hs', h1, rfl⟩ := h
      have ih := pick_zip b r us' s vs' hs' hr hr' (by simpa using hl) h1
      have hgood := pickCell_good hp hg hg'
      rw [hu, hv]
      cases b
      · exact ⟨v, vs', rfl, hgood, ih⟩
      · exact ⟨u, us', rfl, hgood, ih⟩
theorem RelCs.split {n : Nat} {cs : List Cell} {vs : List Value} (h : RelCs A γ w Fr cs vs) : RelCs A γ w Fr (cs.take n) (vs.take n) := by
  have hl := h.length
  refine RelCs.of_get (by simp [hl]) fun j c u h1 h2 => ?_
  rw [List.getElem?_take] at h1 h2
  split at h1
  · rename_i hj
    rw [if_pos hj] at h2
    obtain ⟨u', hu', hg⟩ := h.get h1
    rw [h2] at hu'
    injection hu' with hu'
    rw [hu']; exact hg
  · cases h1
theorem putCells_step {i : Int} {new : List Cell} {sz j n : Nat} {cs cs' : List Cell} (h : putCells i new sz j (n + 1) cs = some cs') :
    ∃ hs r, sz ≤ cs.length ∧ allSome (List.zipWith (pickCell (decide (i = (j : Int)))) new (cs.take sz)) = some hs ∧ putCells i new sz (j + 1) n (cs.drop sz) = some r ∧ cs' = hs ++ r := by
  simp only [putCells] at h
  split at h
  · cases h
  · rename_i olds h1
    split at h
    · cases h
    · rename_i hs h2
      simp only [Option.map_eq_some_iff] at h
      obtain ⟨r, h3, rfl⟩ := h
      obtain ⟨e1, e2⟩ := takeN_eq h1
      rw [e1] at h2
      exact ⟨hs, r, e2, h2, h3, rfl⟩
theorem putCells_out {i : Int} {new : List Cell} {us : List Value} (hn : RelCs A γ w Fr new us) : ∀ (n j : Nat) (cs : List Cell) (vs : List Value) (cs' : List Cell), i < (j : Int) →
    putCells i new new.length j n cs = some cs' → RelCs A γ w Fr cs vs → RelCs A γ w Fr cs' vs
  | 0, j, cs, vs, cs', hij, h, hr => by simp [putCells] at h; subst h; exact hr
  | n + 1, j, cs, vs, cs', hij, h, hr => by
    obtain ⟨hs, r, h0, h1, h2, rfl⟩ := putCells_step h
    have hd : decide (i = (j : Int)) = false := by simp; omega
    rw [hd] at h1
    have k1 := pick_zip false new us _ _ hs hn (hr.split (n := new.length)) (by rw [List.length_take]; omega) h1
    have k2 := putCells_out hn n (j + 1) _ _ r (by omega) h2 (hr.drop new.length)
    have := k1.append k2
    simpa using this
theorem putCells_in {i : Int} {new : List Cell} {us : List Value} (hn : RelCs A γ w Fr new us) : ∀ (n j : Nat) (cs : List Cell) (vs : List Value) (cs' : List Cell), (j : Int) ≤ i → i < ((j + n : Nat) : Int) →
    putCells i new new.length j n cs = some cs' → RelCs A γ w Fr cs vs → RelCs A γ w Fr cs' (spliceAt vs ((i.toNat - j) * new.length) us) ∧ (i.toNat - j) * new.length + new.length ≤ vs.length
  | 0, j, cs, vs, cs', h1, h2, h, hr => by omega
  | n + 1, j, cs, vs, cs', hij, hij', h, hr => by
    obtain ⟨hs, r, h0, h1, h2, rfl⟩ := putCells_step h
    have hul := hn.length
    have hvl := hr.length
    by_cases he : i = (j : Int)
    · have hd : decide (i = (j : Int)) = true := by simp [he]
      rw [hd] at h1
      have k1 := pick_zip true new us _ _ hs hn (hr.split (n := new.length)) (by rw [List.length_take]; omega) h1
      have k2 := putCells_out hn n (j + 1) _ _ r (by omega) h2 (hr.drop new.length)
      have hz : i.toNat - j = 0 := by omega
      have := k1.append k2
      rw [hz, Nat.zero_mul, splice_eq _ _ _ (by omega)]
      refine ⟨?_, by omega⟩
      simpa [hul] using this
    · have hd : decide (i = (j : Int)) = false := by simp [he]
      rw [hd] at h1
      have k1 := pick_zip false new us _ _ hs hn (hr.split (n := new.length)) (by rw [List.length_take]; omega) h1
      obtain ⟨k2, k3⟩ := putCells_in hn n (j + 1) _ _ r (by omega) (by omega) h2 (hr.drop new.length)
      have hz : i.toNat - j = (i.toNat - (j + 1)) + 1 := by omega
      have hm : (i.toNat - j) * new.length = (i.toNat - (j + 1)) * new.length + new.length := by rw [hz, Nat.succ_mul]
      rw [List.length_drop] at k3
      refine ⟨?_, by omega⟩
      have := k1.append k2
      have e : spliceAt vs ((i.toNat - j) * new.length) us = vs.take new.length ++ spliceAt (vs.drop new.length) ((i.toNat - (j + 1)) * new.length) us := by
        apply List.ext_getElem?
        intro k
        rw [spliceAt_get _ _ _ _ (by omega)]
        by_cases hk : k < new.length
        · rw [if_neg (by omega), List.getElem?_append_left (by rw [List.length_take]; omega), List.getElem?_take, if_pos hk]
        · rw [List.getElem?_append_right (by rw [List.length_take]; omega), List.length_take, Nat.min_eq_left (by omega), spliceAt_get _ _ _ _ (by rw [List.length_drop]; omega), List.getElem?_drop]
          have c1 : ((i.toNat - j) * new.length ≤ k ∧ k < (i.toNat - j) * new.length + us.length) ↔ ((i.toNat - (j + 1)) * new.length ≤ k - new.length ∧ k - new.length < (i.toNat - (j + 1)) * new.length + us.length) := by omega
          by_cases hc : (i.toNat - j) * new.length ≤ k ∧ k < (i.toNat - j) * new.length + us.length
          · rw [if_pos hc, if_pos (c1.1 hc)]; congr 1; omega
          · rw [if_neg hc, if_neg (fun hh => hc (c1.2 hh))]; congr 1; omega
      rw [e]
      exact this
theorem RelCs.inst {cs : List Cell} {us : List Value} (h : RelCs A γ w Fr cs us) : InstOK A γ w Fr vn env cs us := by
  have hno : ∀ (j : Nat) (e : TypeId) (t : Ty) (v : Nat) (l : List t.den), cs[j]? ≠ some (.own e t v l) := fun j e t v l hc => by
    obtain ⟨u, _, _, _, _, hh⟩ := h.get hc
    simp [Cell.isOwn] at hh
  refine ⟨h.length, fun j u hu => h.one u (List.mem_of_getElem? hu), fun j c u hc hu _ => ?_, fun j e t v l u hc => absurd hc (hno j e t v l), fun j j' e e' t t' v v' l l' u u' g hc => absurd hc (hno j e t v l)⟩
  obtain ⟨u', hu', hg⟩ := h.get hc
  rw [hu] at hu'
  injection hu' with hu'
  rw [hu']; exact hg
theorem RepsL.set {Z : Nat → Prop} {t : Ty} : ∀ (l : List t.den) (xs : List Value) (i : Nat) (y : t.den) (seg : List Value), RepsL Z w t l xs → i < l.length → RepI Z w t y seg →
    RepsL Z w t (l.set i y) (spliceAt xs (i * t.size) seg) ∧ i * t.size + seg.length ≤ xs.length
  | [], xs, i, y, seg, h, hi, hy => by simp at hi
  | x :: r, xs, 0, y, seg, ⟨c1, c2, h0, h1, h2⟩, hi, hy => by
    have e1 := RepI.length _ _ _ h1
    have e2 := RepI.length _ _ _ hy
    have e : spliceAt xs (0 * t.size) seg = seg ++ c2 := by
      rw [Nat.zero_mul, h0, splice_eq _ _ _ (by simp; omega)]
      simp [e2, ← e1]
    rw [e, h0]
    exact ⟨⟨seg, c2, rfl, hy, h2⟩, by simp; omega⟩
  | x :: r, xs, i + 1, y, seg, ⟨c1, c2, h0, h1, h2⟩, hi, hy => by
    have e1 := RepI.length _ _ _ h1
    have e2 := RepI.length _ _ _ hy
    obtain ⟨k1, k2⟩ := RepsL.set r c2 i y seg h2 (by simpa using hi) hy
    have hfit : (i + 1) * t.size + seg.length ≤ xs.length := by rw [h0, List.length_append, Nat.succ_mul]; omega
    refine ⟨⟨c1, _, ?_, h1, k1⟩, hfit⟩
    rw [splice_eq _ _ _ hfit, splice_eq _ _ _ k2, h0]
    have a1 : (i + 1) * t.size = c1.length + i * t.size := by rw [Nat.succ_mul]; omega
    rw [a1, List.take_append, List.drop_append]
    have b1 : c1.take (c1.length + i * t.size) = c1 := List.take_of_length_le (by omega)
    have b2 : c1.drop (c1.length + i * t.size + seg.length) = [] := List.drop_of_length_le (by omega)
    rw [b1, b2]
    simp only [List.nil_append, List.append_assoc]
    congr 4 <;> omega
end
end Go.VI
namespace Go.VI
open Go.RowKit
section
variable {A : Fix} {X : Ctx} {γ : Gh} {Fr : Nat → Prop} {env : Env} {a : Act} {w w' : World} {vn : Nat}
theorem Core.storeElem (h : Core A X γ Fr env a w) (hst : Stable A.n0 A.G) (hG0 : BaseOK A) {x : Loc} {e : TypeId} {t : Ty} {ver : Nat} {l : List t.den} (hx : envCell env x = some (.own e t ver l))
    {g m c : Nat} (hφ : γ.φ x = .slice (some ⟨g, 0, none⟩) m c) {i : Int} (hin : inB i l.length = true) {off : Nat} {new : List Cell} {us : List Value} {y : t.den}
    (hr : RelCs A γ w Fr new us) (hy : putElem t (nth t l i) off new = some y) (hfit : off + new.length ≤ t.size) :
    ∃ cur fz, w.heap[g]? = some (.cells cur e fz) ∧ (fz.2 ≤ fz.1 ∨ cur.size ≤ fz.1) ∧ i.toNat * t.size + off + us.length ≤ cur.size ∧
      Core A X γ Fr (Upd.app env (.cell x (.own e t ver (l.set i.toNat y)))) a
        (w.setRow g (cur.toList.take (i.toNat * t.size + off) ++ us ++ cur.toList.drop (i.toNat * t.size + off + us.length)).toArray) := by
  have hcx := (h.cell x _ hx).1
  have hul := hr.length
  rw [show γ.φ x = _ from hφ] at hcx
  obtain ⟨ht0, xs, ho, hrs⟩ := id hcx
  rcases ho.2 with ⟨hn, _⟩ | ⟨g', cap, cur, fz, hh, hB, hg, hff, hnc, hcm, hcs, htake⟩
  · cases hn
  · injection hh with e1 e2 e3
    injection e1 with e1
    injection e1 with e1
    subst e1
    have hi := (inB_iff.1 hin).2
    have hxl := hrs.length
    obtain ⟨us0, hr0, hc0⟩ := hrs.at l xs i.toNat _ (nth_get hin)
    have hl0 := RepI.length _ _ _ hr0
    have hex : RelCs A γ w Fr (explode t (nth t l i)) us0 := explode_rel t _ us0 hr0
    have hexl := hex.length
    have hsp : RelCs A γ w Fr (spliceAt (explode t (nth t l i)) off new) (spliceAt us0 off us) := by
      rw [splice_eq _ _ _ (by omega), splice_eq _ _ _ (by omega), hul]
      exact ((hex.split (n := off)).append hr).append (hex.drop _)
    have hrep : RepI γ.Z w t y (spliceAt us0 off us) := by
      simp only [putElem] at hy
      split at hy
      · rename_i y' himp
        injection hy with hy
        subst hy
        obtain ⟨u1, u2, hu, hr1, hr2⟩ := implode_rel t _ _ _ _ himp hsp
        rw [show u2 = [] from hr2, List.append_nil] at hu
        rw [hu]; exact hr1
      · cases hy
    obtain ⟨hset, hfit2⟩ := hrs.set l xs i.toNat y _ hi hrep
    have hsl : (spliceAt us0 off us).length = us0.length := spliceAt_length _ _ _ (by omega)
    have hxc : xs.length ≤ cur.size := by
      rw [← htake, List.length_take]; simp; exact Nat.min_le_right _ _
    have hbig : i.toNat * t.size + off + us.length ≤ xs.length := by rw [hsl] at hfit2; omega
    have hfitc : i.toNat * t.size + off + us.length ≤ cur.size := by omega
    have hfz : fz.2 ≤ fz.1 ∨ cur.size ≤ fz.1 := by
      rcases hff with rfl | ⟨rfl, rfl⟩
      · exact .inl (Nat.le_refl _)
      · exact .inr (by rw [hcs]; simp [markT, Ty.size])
    refine ⟨cur, fz, hg, hfz, hfitc, ?_⟩
    have hxs' : spliceAt xs (i.toNat * t.size) (spliceAt us0 off us) = spliceAt xs (i.toNat * t.size + off) us := by
      apply List.ext_getElem?
      intro k
      rw [spliceAt_get _ _ _ _ hfit2, spliceAt_get _ _ _ _ hbig, hsl]
      by_cases h1 : i.toNat * t.size ≤ k ∧ k < i.toNat * t.size + us0.length
      · rw [if_pos h1, spliceAt_get _ _ _ _ (by omega)]
        by_cases h2 : off ≤ k - i.toNat * t.size ∧ k - i.toNat * t.size < off + us.length
        · rw [if_pos h2, if_pos (by omega)]; congr 1; omega
        · rw [if_neg h2, if_neg (by omega)]
          have hk : k - i.toNat * t.size < us0.length := by omega
          rw [List.getElem?_eq_getElem hk, ← hc0 _ _ (List.getElem?_eq_getElem hk)]
          congr 1; omega
      · rw [if_neg h1, if_neg (by omega)]
    have hrowsp : cur.toList.take (i.toNat * t.size + off) ++ us ++ cur.toList.drop (i.toNat * t.size + off + us.length) = spliceAt cur.toList (i.toNat * t.size + off) us :=
      (splice_eq _ _ _ (by simpa using hfitc)).symm
    have hown' : OwnV γ.Z (w.setRow g (spliceAt cur.toList (i.toNat * t.size + off) us).toArray) A.B e t (γ.φ x) (l.set i.toNat y) := by
      rw [hφ]
      refine ⟨ht0, spliceAt xs (i.toNat * t.size + off) us, ⟨?_, .inr ⟨g, cap, _, fz, ?_, hB, setRow_heap w g cur _ e _ hg, hff, ?_, hcm, ?_, ?_⟩⟩, ?_⟩
      · rw [spliceAt_length _ _ _ hbig, hxl, List.length_set]
      · rw [e2, e3, List.length_set]
      · rw [List.length_set]; exact hnc
      · rw [List.size_toArray, spliceAt_length _ _ _ (by simpa using hfitc)]; simpa using hcs
      · apply List.ext_getElem?
        intro k
        rw [List.getElem?_take, List.length_set]
        show (if k < l.length * t.size then (spliceAt cur.toList (i.toNat * t.size + off) us)[k]? else none) = _
        rw [spliceAt_get _ _ _ _ (by simpa using hfitc), spliceAt_get _ _ _ _ hbig]
        have hxk : ∀ k, k < l.length * t.size → cur.toList[k]? = xs[k]? := fun k hk => by rw [← htake, List.getElem?_take, if_pos hk]
        by_cases hk : k < l.length * t.size
        · rw [if_pos hk, hxk k hk]
        · rw [if_neg hk]
          rw [if_neg (by omega), List.getElem?_eq_none (by omega)]
      · rw [← hxs']
        refine RepsL.mono (fun _ hz => hz) (fun g' hz => setRow_other w g g' _ (fun hgg => ?_)) _ _ hset
        have := ((h.own x e t ver l hx).2.2 g (by rw [hφ]; rfl)).1
        exact this (by rw [← hgg]; exact hz)
    rw [hrowsp]
    exact h.setOwn hx (row := some g) setRow_grown (fun g' hg' => by injection hg' with hg'; subst hg'; rw [hφ]; rfl) (h.glob_own hst hG0 setRow_grown fun g' hg' => by injection hg' with hg'; subst hg'; exact h.mine hx (by rw [hφ]; rfl)) hown'
theorem splice_in {α : Type} (row : List α) (P : Nat) (B vs : List α) (k : Nat) (hB : P + B.length ≤ row.length) (hrow : ∀ n, n < B.length → row[P + n]? = B[n]?) (hk : k + vs.length ≤ B.length) :
    row.take P ++ spliceAt B k vs ++ row.drop (P + (spliceAt B k vs).length) = row.take (P + k) ++ vs ++ row.drop (P + k + vs.length) := by
  have hsl : (spliceAt B k vs).length = B.length := spliceAt_length _ _ _ hk
  rw [← splice_eq _ _ _ (by rw [hsl]; exact hB), ← splice_eq _ _ _ (by omega)]
  apply List.ext_getElem?
  intro n
  rw [spliceAt_get row P (spliceAt B k vs) n (by rw [hsl]; exact hB), spliceAt_get row (P + k) vs n (by omega), hsl]
  by_cases c1 : P ≤ n ∧ n < P + B.length
  · rw [if_pos c1, spliceAt_get _ _ _ _ hk]
    by_cases c2 : k ≤ n - P ∧ n - P < k + vs.length
    · rw [if_pos c2, if_pos (by omega)]; congr 1; omega
    · rw [if_neg c2, if_neg (by omega), ← hrow _ (by omega)]; congr 1; omega
  · rw [if_neg c1, if_neg (by omega)]
theorem zip_noown (b : Bool) : ∀ (new olds hs : List Cell), new.length = olds.length → allSome (List.zipWith (pickCell b) new olds) = some hs → ∀ c ∈ olds, c.isOwn = false
  | [], [], hs, _, h => by simp
  | [], _ :: _, hs, hl, h => by simp at hl
  | _ :: _, [], hs, hl, h => by simp at hl
  | c :: r, d :: s, hs, hl, h => by
    simp only [List.zipWith_cons_cons] at h
    cases hp : pickCell b c d with
    | none => rw [hp] at h; cases h
    | some e =>
      rw [hp] at h
      simp only [allSome, Option.map_eq_some_iff] at h
      obtain ⟨hs', h1, _⟩ := h
      intro x hx
      rcases List.mem_cons.1 hx with rfl | hx
      · unfold pickCell at hp
        split at hp <;> first | rfl | cases hp
      · exact zip_noown b r s hs' (by simpa using hl) h1 x hx
theorem putCells_noown {i : Int} {new : List Cell} : ∀ (n j : Nat) (cs cs' : List Cell), putCells i new new.length j n cs = some cs' → ∀ (k : Nat) (c : Cell), k < n * new.length → cs[k]? = some c → c.isOwn = false
  | 0, j, cs, cs', h, k, c, hk, hc => by simp at hk
  | n + 1, j, cs, cs', h, k, c, hk, hc => by
    obtain ⟨hs, r, h0, h1, h2, _⟩ := putCells_step h
    by_cases hkl : k < new.length
    · refine zip_noown _ _ _ hs (by rw [List.length_take]; omega) h1 c (List.mem_of_getElem? (i := k) ?_)
      rw [List.getElem?_take, if_pos hkl]; exact hc
    · refine putCells_noown n (j + 1) _ r h2 (k - new.length) c (by rw [Nat.succ_mul] at hk; omega) ?_
      rw [List.getElem?_drop, ← hc]; congr 1; omega
theorem storeAt_sound (h : Core A X γ Fr env a w) (hst : Stable A.n0 A.G) (hG0 : BaseOK A) (hv : Fr vn) {T : TypeId} {ti : TI} (ht : TIOK A.P T ti) {c : Cell} {pv v : Value} {cs : List Cell} {vs : List Value} {us : List Upd} {lg lg' : List Slot}
    (hg : GoodR A γ w Fr c pv) (hcs : RelCs A γ w Fr cs vs) (hcells : v.cells = vs.toArray) (hlen : cs.length = ti.ty.size)
    (he : (storeAt vn cs c).eval env.get lg = some (us, lg')) : ∃ ad w', pv = .pointer (some ad) ∧ (storeVar T ad v).run A.P w = .ok () w' ∧ Holds A X (FrD Fr vn) (appAll env us) a w' := by
  have hvl := hcs.length
  cases c with
  | addr b bv off =>
    simp only [storeAt, Rd.eval_bind, Option.bind_eq_some_iff] at he
    obtain ⟨⟨⟨fz, cs0⟩, l3⟩, h5, h6⟩ := he
    have hb := boxAt_eval h5
    simp only at hb h6
    cases fz with
    | true => simp [Rd.eval] at h6
    | false =>
      simp only [cond_false] at h6
      cases hfit : Nat.ble (off + cs.length) cs0.length with
      | false => rw [hfit] at h6; simp [Rd.eval] at h6
      | true =>
        rw [hfit] at h6
        have hfit := Nat.le_of_ble_eq_true hfit
        simp only [Bool.not_true, cond_false, Rd.eval_bind, Option.bind_eq_some_iff] at h6
        obtain ⟨⟨⟨cs', ks⟩, l4⟩, h8, h9⟩ := h6
        obtain ⟨k1, k2, _, _⟩ := install_sound cs [] env vs cs' ks _ l4 h (fun _ _ => rfl) hcs h8
        simp only at h9
        cases hany : (ks.any fun u => Slot.beq u.slot (.box b)) with
        | true => rw [hany] at h9; simp [Rd.eval] at h9
        | false =>
          rw [hany] at h9
          simp only [cond_false, Rd.eval, Option.some.injEq, Prod.mk.injEq] at h9
          obtain ⟨rfl, _⟩ := h9
          have hb' : (appAll env ks).get (.box b) = .box bv false cs0 := by rw [get_appAll_other _ ks env hany]; exact hb
          have hcl : cs'.length = cs.length := by rw [← k1.len, hvl]
          obtain ⟨⟨T', hrow⟩, _⟩ := k2.box b bv false cs0 hb'
          have hrun := run_storeVar_at (w := w) ht (g := γ.σ b bv) (o := off) hcells (by rw [hvl]; exact hlen) hrow (.inl (Nat.le_refl _)) (by rw [List.size_toArray, cellVals_length, hvl]; exact hfit) hcs.one
          refine ⟨_, _, hg.1, hrun, ?_⟩
          rw [appAll_append]
          exact k2.storeBox hst hG0 hv hb' (by rw [hcl]; exact hfit) k1
  | addrI b bv off m sz i =>
    simp only [storeAt, Rd.eval_bind, Option.bind_eq_some_iff] at he
    obtain ⟨⟨⟨fz, cs0⟩, l3⟩, h5, h6⟩ := he
    have hb := boxAt_eval h5
    simp only at hb h6
    cases fz with
    | true => simp [Rd.eval] at h6
    | false =>
      simp only [cond_false] at h6
      cases hfit : (Nat.beq cs.length sz && Nat.ble (off + m * sz) cs0.length) with
      | false => rw [hfit] at h6; simp [Rd.eval] at h6
      | true =>
        rw [hfit] at h6
        simp only [Bool.and_eq_true] at hfit
        have hsz := Nat.eq_of_beq_eq_true hfit.1
        have hfit := Nat.le_of_ble_eq_true hfit.2
        subst hsz
        simp only [Bool.not_true, cond_false, Rd.eval_bind, Option.bind_eq_some_iff, Rd.eval_ofOpt, Option.map_eq_some_iff] at h6
        obtain ⟨_, ⟨arr, h7, rfl⟩, _, ⟨arr', h8, rfl⟩, h9⟩ := h6
        simp only [Rd.eval, Option.some.injEq, Prod.mk.injEq] at h9
        obtain ⟨rfl, _⟩ := h9
        simp only at h7 h8
        obtain ⟨e1, e2⟩ := takeN_eq h7
        obtain ⟨hin, hpv⟩ := hg.1
        have hin' := inB_iff.1 hin
        obtain ⟨⟨T', hrow⟩, _⟩ := h.box b bv false cs0 hb
        let row := cellVals γ (.box b) 0 cs0.length
        have hrl : row.length = cs0.length := cellVals_length γ (.box b) 0 cs0.length
        have harr : RelCs A γ w Fr arr ((row.drop off).take (m * cs.length)) := by
          refine RelCs.of_get (by rw [e1]; simp [hrl]) fun j c u hc hu => ?_
          rw [e1, List.getElem?_take] at hc
          rw [List.getElem?_take] at hu
          split at hc
          · rename_i hj
            rw [if_pos hj, List.getElem?_drop] at hu
            rw [List.getElem?_drop] at hc
            have hlt : off + j < cs0.length := (List.getElem?_eq_some_iff.1 hc).1
            rw [cellVals_get γ (.box b) 0 cs0.length _ hlt] at hu
            injection hu with hu
            subst hu
            have hown : c.isOwn = false := putCells_noown m 0 arr arr' h8 j c hj (by rw [e1, List.getElem?_take, if_pos hj, List.getElem?_drop]; exact hc)
            obtain ⟨g1, g2, g3⟩ := h.cell ⟨.box b, 0, off + j⟩ c (by show (env.get (.box b)).cell? 0 (off + j) = some c; rw [hb]; exact hc)
            exact ⟨g1, g2, g3, hown⟩
          · cases hc
        obtain ⟨k1, k2⟩ := putCells_in hcs m 0 arr _ arr' (by omega) (by omega) h8 harr
        simp only [Nat.sub_zero] at k1 k2
        have hal := k1.length
        have hvfit : i.toNat * cs.length + vs.length ≤ ((row.drop off).take (m * cs.length)).length := by rw [hvl]; exact k2
        have hal' : arr'.length = m * cs.length := by
          rw [← hal, spliceAt_length _ _ _ hvfit, List.length_take, List.length_drop, hrl]; omega
        have hk2' : i.toNat * cs.length + cs.length ≤ m * cs.length := by
          rw [← Nat.succ_mul]; exact Nat.mul_le_mul_right _ hin'.2
        have hsb := h.storeBox hst hG0 hv hb (off := off) (new := arr') (us := spliceAt ((row.drop off).take (m * cs.length)) (i.toNat * cs.length) vs) (by rw [hal']; exact hfit) k1.inst
        have hrun := run_storeVar_at (w := w) ht (g := γ.σ b bv) (o := off + i.toNat * cs.length) hcells (by rw [hvl]; exact hlen) hrow (.inl (Nat.le_refl _)) (by rw [List.size_toArray, cellVals_length, hvl]; omega) hcs.one
        refine ⟨_, _, hpv, hrun, ?_⟩
        have hsl : (spliceAt ((row.drop off).take (m * cs.length)) (i.toNat * cs.length) vs).length = m * cs.length := by rw [hal, hal']
        have hrow2 : row.take off ++ spliceAt ((row.drop off).take (m * cs.length)) (i.toNat * cs.length) vs ++ row.drop (off + (spliceAt ((row.drop off).take (m * cs.length)) (i.toNat * cs.length) vs).length) =
            row.take (off + i.toNat * cs.length) ++ vs ++ row.drop (off + i.toNat * cs.length + vs.length) := by
          have hA : off + (spliceAt ((row.drop off).take (m * cs.length)) (i.toNat * cs.length) vs).length ≤ row.length := by rw [hsl, hrl]; exact hfit
          have hB : off + i.toNat * cs.length + vs.length ≤ row.length := by rw [hvl, hrl]; omega
          rw [← splice_eq _ _ _ hA, ← splice_eq _ _ _ hB]
          apply List.ext_getElem?
          intro k
          rw [spliceAt_get _ _ _ _ hA, spliceAt_get _ _ _ _ hB, hsl]
          by_cases c1 : off ≤ k ∧ k < off + m * cs.length
          · rw [if_pos c1, spliceAt_get _ _ _ _ hvfit]
            by_cases c2 : i.toNat * cs.length ≤ k - off ∧ k - off < i.toNat * cs.length + vs.length
            · rw [if_pos c2, if_pos (by omega)]; congr 1; omega
            · rw [if_neg c2, if_neg (by omega), List.getElem?_take, if_pos (by omega), List.getElem?_drop]; congr 1; omega
          · rw [if_neg c1, if_neg (by omega)]
        rw [← hrow2]
        exact hsb
  | eview x ver sz i off =>
    simp only [storeAt, Rd.eval_bind, Option.bind_eq_some_iff] at he
    obtain ⟨⟨⟨e, t, l⟩, l3⟩, h5, h6⟩ := he
    have hx := ownerAt_eval h5
    simp only at hx h6
    cases hs : Nat.beq sz t.size with
    | false => rw [hs] at h6; simp [Rd.eval] at h6
    | true =>
      rw [hs] at h6
      have hs := Nat.eq_of_beq_eq_true hs
      subst hs
      simp only [Bool.not_true, cond_false] at h6
      cases hp : (cs.all plainCell && Nat.ble (off + cs.length) t.size) with
      | false => rw [hp] at h6; simp [Rd.eval] at h6
      | true =>
        rw [hp] at h6
        simp only [Bool.and_eq_true] at hp
        have hfit := Nat.le_of_ble_eq_true hp.2
        simp only [Bool.not_true, cond_false, Rd.eval_bind, Option.bind_eq_some_iff, Rd.eval_ofOpt, Option.map_eq_some_iff] at h6
        obtain ⟨_, ⟨y, h7, rfl⟩, h8⟩ := h6
        simp only [Rd.eval, Option.some.injEq, Prod.mk.injEq] at h8
        obtain ⟨rfl, _⟩ := h8
        obtain ⟨g, m, cc, hψ, hin, hpv⟩ := hg.1
        have hφ : γ.φ x = .slice (some ⟨g, 0, none⟩) m cc := by rw [← (h.own x e t ver l hx).1]; exact hψ
        have hm : m = l.length := by
          obtain ⟨Ad, c', hsl, _⟩ := OwnV.slice (h.cell x _ hx).1
          rw [hφ] at hsl
          injection hsl with _ h2 _
        rw [hm] at hin
        obtain ⟨cur, fz, hgc, hfz, hfc, hcore⟩ := h.storeElem hst hG0 hx hφ hin hcs h7 hfit
        have hrun := run_storeVar_at (w := w) ht (g := g) (o := i.toNat * t.size + off) hcells (by rw [hvl]; exact hlen) hgc hfz hfc hcs.one
        exact ⟨_, _, hpv, hrun, _, hcore.fr fun _ hh => hh.1⟩
  | eviewI x ver sz i off m sz2 j =>
    simp only [storeAt, Rd.eval_bind, Option.bind_eq_some_iff] at he
    obtain ⟨⟨⟨e, t, l⟩, l3⟩, h5, h6⟩ := he
    have hx := ownerAt_eval h5
    simp only at hx h6
    cases hs : Nat.beq sz t.size with
    | false => rw [hs] at h6; simp [Rd.eval] at h6
    | true =>
      rw [hs] at h6
      have hs := Nat.eq_of_beq_eq_true hs
      subst hs
      simp only [Bool.not_true, cond_false] at h6
      cases hp : (Nat.beq cs.length sz2 && Nat.ble (off + m * sz2) t.size) with
      | false => rw [hp] at h6; simp [Rd.eval] at h6
      | true =>
        rw [hp] at h6
        simp only [Bool.and_eq_true] at hp
        have hsz := Nat.eq_of_beq_eq_true hp.1
        have hfit := Nat.le_of_ble_eq_true hp.2
        subst hsz
        simp only [Bool.not_true, cond_false, Rd.eval_bind, Option.bind_eq_some_iff, Rd.eval_ofOpt, Option.map_eq_some_iff] at h6
        obtain ⟨_, ⟨arr, h7, rfl⟩, _, ⟨arr', h8, rfl⟩, _, ⟨y, h9, rfl⟩, h10⟩ := h6
        simp only [Rd.eval, Option.some.injEq, Prod.mk.injEq] at h10
        obtain ⟨rfl, _⟩ := h10
        simp only at h7 h8 h9
        obtain ⟨e1, e2⟩ := takeN_eq h7
        obtain ⟨g, m', cc, hψ, hin, hinj, hpv⟩ := hg.1
        have hφ : γ.φ x = .slice (some ⟨g, 0, none⟩) m' cc := by rw [← (h.own x e t ver l hx).1]; exact hψ
        have hcx := (h.cell x _ hx).1
        have hm : m' = l.length := by
          obtain ⟨Ad, c', hsl, _⟩ := OwnV.slice hcx
          rw [hφ] at hsl
          injection hsl with _ h2 _
        rw [hm] at hin
        have hin' := inB_iff.1 hinj
        rw [hφ] at hcx
        obtain ⟨ht0, xs, ho, hrs⟩ := id hcx
        obtain ⟨us0, hr0, hc0⟩ := hrs.at l xs i.toNat _ (nth_get hin)
        have hl0 := RepI.length _ _ _ hr0
        have hex : RelCs A γ w Fr (explode t (nth t l i)) us0 := explode_rel t _ us0 hr0
        have hexl := hex.length
        have harr : RelCs A γ w Fr arr ((us0.drop off).take (m * cs.length)) := by
          rw [e1]
          exact (hex.drop off).split
        have harl : ((us0.drop off).take (m * cs.length)).length = m * cs.length := by
          rw [List.length_take, List.length_drop]; omega
        obtain ⟨k1, k2⟩ := putCells_in hcs m 0 arr _ arr' (by omega) (by omega) h8 harr
        simp only [Nat.sub_zero] at k1 k2
        rw [harl] at k2
        have hal := k1.length
        have hsl : (spliceAt ((us0.drop off).take (m * cs.length)) (j.toNat * cs.length) vs).length = m * cs.length := by
          rw [spliceAt_length _ _ _ (by rw [harl, hvl]; exact k2), harl]
        rw [hsl] at hal
        obtain ⟨cur, fz, hgc, hfz, hfc, hcore⟩ := h.storeElem hst hG0 hx hφ hin k1 h9 (by rw [← hal]; exact hfit)
        rw [hsl] at hfc
        have hcur : ∀ k, k < m * cs.length → cur.toList[i.toNat * t.size + off + k]? = ((us0.drop off).take (m * cs.length))[k]? := by
          intro k hk
          rw [List.getElem?_take, if_pos hk, List.getElem?_drop]
          have hk2 : off + k < us0.length := by omega
          rw [List.getElem?_eq_getElem hk2]
          have := ho.cells (g := g) (by simp [Value.ownBlock]) _ _ (hc0 _ _ (List.getElem?_eq_getElem hk2))
          rw [add_plain, Nat.zero_add, cell_of_row w g _ cur e fz hgc] at this
          rw [Array.getElem?_toList, ← this]
          congr 1; omega
        have hworld := splice_in cur.toList (i.toNat * t.size + off) ((us0.drop off).take (m * cs.length)) vs (j.toNat * cs.length) (by rw [harl]; simpa using hfc) (by rw [harl]; exact hcur) (by rw [harl, hvl]; exact k2)
        rw [hworld] at hcore
        have hrun := run_storeVar_at (w := w) ht (g := g) (o := i.toNat * t.size + off + j.toNat * cs.length) hcells (by rw [hvl]; exact hlen) hgc hfz (by rw [hvl]; omega) hcs.one
        exact ⟨_, _, hpv, hrun, _, hcore.fr fun _ hh => hh.1⟩
  | undef => simp [storeAt, Rd.eval] at he
  | int k n => simp [storeAt, Rd.eval] at he
  | bool b => simp [storeAt, Rd.eval] at he
  | str s => simp [storeAt, Rd.eval] at he
  | own e t v l => simp [storeAt, Rd.eval] at he
  | nil e t => simp [storeAt, Rd.eval] at he
  | imm t l p => simp [storeAt, Rd.eval] at he
  | view x v => simp [storeAt, Rd.eval] at he
  | sub x v s lo hi => simp [storeAt, Rd.eval] at he
  | barr b bv o n t => simp [storeAt, Rd.eval] at he
  | gptr g o => simp [storeAt, Rd.eval] at he
  | gptrI g o n s i => simp [storeAt, Rd.eval] at he
  | iptr t x o => simp [storeAt, Rd.eval] at he
  | iptrI t x o n s i => simp [storeAt, Rd.eval] at he
  | eimm t l i o => simp [storeAt, Rd.eval] at he
  | eimmI t l i o m s2 j => simp [storeAt, Rd.eval] at he
  | func f => simp [storeAt, Rd.eval] at he
  | clo as rs F => simp [storeAt, Rd.eval] at he
theorem op_store {o : Oper} {us : List Upd} {lg : List Slot} (h : Core A X γ Fr env a w) (hst : Stable A.n0 A.G) (hG0 : BaseOK A) (hty : TyOK A.P X) (hv : Fr vn) {T : TypeId} {x y : Operand} (ho : o.op = .store T x y)
    (he : (opRd X vn o).eval env.get [] = some (us, lg)) : OpOK A X (FrD Fr vn) o us env a w := by
  have hdn : o.dst = none := by
    cases hdn : o.dst with
    | none => rfl
    | some d => simp [opRd, ho, hdn, Rd.eval] at he
  simp only [opRd, ho, hdn, Rd.eval_bind, Option.bind_eq_some_iff, Ctx.ti, Rd.eval_ofOpt, Option.map_eq_some_iff] at he
  obtain ⟨_, ⟨ti, h1, rfl⟩, ⟨c, l1⟩, h2, ⟨av, l2⟩, h3, h4⟩ := he
  have ht := hty T ti h1
  have hr := rdOp_sound h h3
  cases av with
  | val g cs =>
    simp only at h4
    cases hlen : Nat.beq cs.length ti.ty.size with
    | false => rw [hlen] at h4; simp [Rd.eval] at h4
    | true =>
      rw [hlen] at h4
      have hlen := Nat.eq_of_beq_eq_true hlen
      simp only [cond_true] at h4
      obtain ⟨vs, hv', hg, hcs⟩ := hr
      obtain ⟨ad, w', hp, hrun, hh⟩ := storeAt_sound h hst hG0 hv ht (v := a.eval y) (rdCell_sound h h2) hcs (by rw [hv']; exact mkVal_cells hcs.one (fun hgf => by rw [hcs.length]; exact hg hgf)) hlen h4
      refine OpOK.skip (w' := w') ?_ (by rw [hdn]; exact hh)
      simp only [execOp, ho, Instr.storeAt, Instr.sureAddr, hp, Sem.run_bind, Sem.run_pure, Result.andThen_ok, hrun]
  | skip => simp [Rd.eval] at h4
  | undef => simp [Rd.eval] at h4
  | tup l => simp [Rd.eval] at h4
  | box _ _ _ => simp [Rd.eval] at h4
  | num _ => simp [Rd.eval] at h4
end
end Go.VI
