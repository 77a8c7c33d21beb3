/- VI, part 20: calls. -/
import Derived.Test.YtlnfgikipeiaiaaViArgs
namespace Go.VI
open Go.RowKit
def RRel (Z : Nat → Prop) (w : World) (B : Nat) (avs : List Value) : RCell → Value → Prop
  | .flat c, u => zcell c = true ∧ u = cellV c
  | .own e t l, u => OwnV Z w B e t u l ∧ ∀ g, u.ownBlock = some g → ¬ Z g
  | .imm t l, u => RepI Z w (.sl t) l [u]
  | .pass j, u => avs[j]? = some u
  | .bad, _ => False
def RCell.isOwn : RCell → Bool
  | .own .. => true
  | _ => false
def ResRel (Z : Nat → Prop) (w : World) (B : Nat) (avs : List Value) (rs : List (Bool × List RCell)) (vs : List Value) : Prop :=
  ∃ f : Nat → Nat → Value, vs.length = rs.length ∧
    (∀ i p, rs[i]? = some p → vs[i]? = some (mkVal p.1 ((List.range p.2.length).map (f i))) ∧ (p.1 = false → p.2.length = 1) ∧ ∀ j rc, p.2[j]? = some rc → RRel Z w B avs rc (f i j)) ∧
    ∀ i j i' j' p p' rc rc' g, rs[i]? = some p → p.2[j]? = some rc → rc.isOwn = true → rs[i']? = some p' → p'.2[j']? = some rc' → rc'.isOwn = true →
      (f i j).ownBlock = some g → (f i' j').ownBlock = some g → i = i' ∧ j = j'
def avsOf (vs : List Value) : List Value := (vs.map fun v => v.cells.toList).flatten
def Sound (P : Program) (G : World → Prop) (f : FuncId) (C : Contract) : Prop :=
  ∀ (w : World) (Z : Nat → Prop) (vs : List Value) (xs : denA C.As) (r : denL C.R), G w → (∀ g, Z g → g < w.heap.size) → RelArgs P G Z w C.As xs vs → C.F xs = some r →
    FCalls P f vs.toArray w fun v w' => ∃ Z' us, v = mkRes us ∧ Below w.heap.size w w' ∧ (∀ g, Z g → Z' g) ∧ (∀ g, Z' g → Z g ∨ (w.heap.size ≤ g ∧ g < w'.heap.size)) ∧
      ResRel Z' w' w.heap.size (avsOf vs) (resL C.R r C.modes) us
def ConOK (P : Program) (G : World → Prop) (X : Ctx) : Prop := ∀ f C, C ∈ looks X.con f → Sound P G f C
theorem look_looks {α : Type} : ∀ {l : List (Nat × α)} {k : Nat} {x : α}, look l k = some x → x ∈ looks l k
  | [], k, x, h => by simp [look] at h
  | p :: r, k, x, h => by
    simp only [look] at h
    simp only [looks]
    cases hb : Nat.beq p.1 k with
    | true => rw [hb] at h; simp only [cond_true, Option.some.injEq] at h; subst h; simp
    | false => rw [hb] at h; simp only [cond_false] at h ⊢; exact look_looks h
theorem callAlts_eval {vn : Nat} {cs : List (Bool × List Cell)} {e : Slot → AV} : ∀ (r : List Contract) (C : Contract) {q : List (Bool × List Cell) × List Upd} {l0 l1 : List Slot}, (callAlts vn cs C r).eval e l0 = some (q, l1) → ∃ D ∈ C :: r, ∃ m0 m1, (callBy D vn cs).eval e m0 = some (q, m1)
  | [], C, q, l0, l1, h => ⟨C, List.mem_cons_self .., l0, l1, h⟩
  | D :: r, C, q, l0, l1, h => by
    simp only [callAlts, Rd.eval_bind, Option.bind_eq_some_iff] at h
    obtain ⟨⟨p, l2⟩, _, ⟨xs, l3⟩, _, h3⟩ := h
    simp only [Rd.eval] at h3
    cases hb : (C.F xs.1).isSome with
    | true => rw [hb] at h3; exact ⟨C, List.mem_cons_self .., _, _, h3⟩
    | false =>
      rw [hb] at h3
      obtain ⟨E, hE, m0, m1, h4⟩ := callAlts_eval r D h3
      exact ⟨E, List.mem_cons_of_mem _ hE, m0, m1, h4⟩
theorem OwnV.base {Z : Nat → Prop} {w : World} {B B' : Nat} {e : TypeId} {t : Ty} {v : Value} {l : List t.den} (h : OwnV Z w B e t v l) (hB : B' ≤ B) : OwnV Z w B' e t v l := by
  obtain ⟨h0, xs, ho, hr⟩ := h
  refine ⟨h0, xs, ⟨ho.1, ?_⟩, hr⟩
  rcases ho.2 with hn | ⟨g, cap, cur, fz, h1, h2, rest⟩
  · exact .inl hn
  · exact .inr ⟨g, cap, cur, fz, h1, Nat.le_trans hB h2, rest⟩
theorem resM_flat : ∀ (t : Ty) (x : t.den) (ms : List RMode), (ms.any fun | .imm => true | _ => false) = false → inner t = false →
    (∀ rc ∈ (resM t x ms).1, (∀ e t' l, rc = .own e t' l → leads t' = false) ∧ ∀ t' l, rc ≠ .imm t' l) ∧ ((resM t x ms).2.any fun | .imm => true | _ => false) = false
  | .int k, x, ms, hm, _ => ⟨by simp [resM], hm⟩
  | .bool, x, ms, hm, _ => ⟨by simp [resM], hm⟩
  | .str, x, ms, hm, _ => ⟨by simp [resM], hm⟩
  | .unit, x, ms, hm, _ => ⟨by simp [resM], hm⟩
  | .pair a b, x, ms, hm, hi => by
    simp only [inner, Bool.or_eq_false_iff] at hi
    obtain ⟨k1, k2⟩ := resM_flat a x.1 ms hm hi.1
    obtain ⟨k3, k4⟩ := resM_flat b x.2 _ k2 hi.2
    refine ⟨fun rc hrc => ?_, k4⟩
    simp only [resM, List.mem_append] at hrc
    rcases hrc with hrc | hrc
    · exact k1 rc hrc
    · exact k3 rc hrc
  | .sl t, l, [], hm, hi => ⟨by simp [resM], rfl⟩
  | .sl t, l, .own e :: ms, hm, hi => by
    simp only [List.any_cons, Bool.or_eq_false_iff] at hm
    refine ⟨fun rc hrc => ?_, hm.2⟩
    simp only [resM, List.mem_singleton] at hrc
    subst hrc
    exact ⟨fun e' t' l' hh => by injection hh with _ h2 _; subst h2; exact hi, fun t' l' hh => by cases hh⟩
  | .sl t, l, .imm :: ms, hm, hi => by simp at hm
  | .sl t, l, .pass j :: ms, hm, hi => by
    refine ⟨fun rc hrc => ?_, by simpa [resM] using hm⟩
    have hrc : rc = .pass j := by simpa [resM] using hrc
    subst hrc
    constructor
    · intro e' t' l' hh; cases hh
    · intro t' l' hh; cases hh
theorem resL_flat : ∀ (R : List (Bool × Ty)) (x : denL R) (ms : List RMode), (ms.any fun | .imm => true | _ => false) = false → (R.any fun p => inner p.2) = false →
    ∀ p ∈ resL R x ms, ∀ rc ∈ p.2, (∀ e t' l, rc = .own e t' l → leads t' = false) ∧ ∀ t' l, rc ≠ .imm t' l
  | [], x, ms, hm, _ => by simp [resL]
  | q :: r, x, ms, hm, hi => by
    simp only [List.any_cons, Bool.or_eq_false_iff] at hi
    obtain ⟨k1, k2⟩ := resM_flat q.2 x.1 ms hm hi.1
    have ih := resL_flat r x.2 _ k2 hi.2
    intro p hp
    simp only [resL, List.mem_cons] at hp
    rcases hp with rfl | hp
    · exact k1
    · exact ih p hp
section
variable {A : Fix} {X : Ctx} {γ : Gh} {Fr : Nat → Prop} {env : Env} {a : Act} {w w' : World} {vn : Nat} {o : Oper} {us : List Upd} {lg : List Slot}
theorem RelComps.flat : ∀ {cs : List (Bool × List Cell)} {vs : List Value}, RelComps A γ w Fr cs vs → RelCs A γ w Fr (cs.map (·.2)).flatten (avsOf vs)
  | [], vs, h => by rw [show vs = [] from h]; exact rfl
  | p :: r, vs, ⟨v, vs', h1, ⟨us, hv, hl, h2⟩, h3⟩ => by
    rw [h1, hv]
    have : avsOf (mkVal p.1 us :: vs') = us ++ avsOf vs' := by
      simp [avsOf, mkVal_cells h2.one (fun hg => by rw [h2.length]; exact hl hg)]
    rw [this, List.map_cons, List.flatten_cons]
    exact h2.append (RelComps.flat h3)
def InstComps (A : Fix) (γ : Gh) (w : World) (Fr : Nat → Prop) (vn : Nat) (env : Env) (cs : List (Bool × List Cell)) (f : Nat → Nat → Value) : Prop :=
  (∀ i p, cs[i]? = some p → (p.1 = false → p.2.length = 1) ∧ ∀ j c, p.2[j]? = some c → (c.isOwn = false → GoodR A γ w Fr c (f i j)) ∧
    (∀ e t v l, c = .own e t v l → v = vn ∧ OwnV γ.Z w A.B e t (f i j) l ∧ ∀ g, (f i j).ownBlock = some g → Free A γ env g)) ∧
  ∀ i j i' j' p p' c c' g, cs[i]? = some p → p.2[j]? = some c → c.isOwn = true → cs[i']? = some p' → p'.2[j']? = some c' → c'.isOwn = true →
      (f i j).ownBlock = some g → (f i' j').ownBlock = some g → i = i' ∧ j = j'
theorem asAV_cell {cs : List (Bool × List Cell)} {i j : Nat} {c : Cell} (h : (asAV cs).cell? i j = some c) : ∃ p, cs[i]? = some p ∧ p.2[j]? = some c := by
  unfold asAV at h
  split at h
  · rename_i g cs'
    cases i with
    | zero => exact ⟨_, rfl, h⟩
    | succ i => simp [AV.cell?] at h
  · simp only [AV.cell?, Option.bind_eq_some_iff] at h
    exact h
theorem Core.putRes (h : Core A X γ Fr env a w) (hv : Fr vn) (hd : dstOk X o) {cs : List (Bool × List Cell)} {f : Nat → Nat → Value} {vs : List Value} (hl : vs.length = cs.length)
    (hvs : ∀ i p, cs[i]? = some p → vs[i]? = some (mkVal p.1 ((List.range p.2.length).map (f i)))) (hi : InstComps A γ w Fr vn env cs f) :
    Holds A X (FrD Fr vn) (appAll env (dstSet o (asAV cs))) (a.put o.dst (mkRes vs)) w := by
  unfold dstSet
  cases hdst : o.dst with
  | none => exact ⟨γ, h.fr fun _ hh => hh.1⟩
  | some d =>
    refine ⟨_, h.setTmpG (hd d hdst) (asAV cs) f (mkRes vs) (setψ γ (.tmp d) vn f) (fun _ hh => hh.1) (setψ_old hv) ?_ ?_ ?_⟩
    · intro γ' hφ
      have hcv : ∀ i n, cellVals γ' (.tmp d) i n = (List.range n).map (f i) := fun i n => by simp [cellVals, hφ]
      unfold asAV
      split
      · rename_i g cs'
        have hv1 := hvs 0 _ rfl
        match vs, hl with
        | [v], _ =>
          simp only [List.getElem?_cons_zero, Option.some.injEq] at hv1
          exact ⟨by rw [hcv]; exact hv1, (hi.1 0 _ rfl).1⟩
      · rename_i hne
        refine ⟨?_, fun p hp => ?_⟩
        · have hm : mkRes vs = .tuple vs.toArray := by
            match vs, hl with
            | [], _ => rfl
            | [v], hl =>
              match cs, hl with
              | [p], _ => exact absurd rfl (hne p.1 p.2)
            | _ :: _ :: _, _ => rfl
          rw [hm]
          congr 2
          apply List.ext_getElem?
          intro i
          simp only [tupVals, List.getElem?_map, List.getElem?_zipIdx, hcv]
          cases hp : cs[i]? with
          | none =>
            have : cs.length ≤ i := by
              rcases Nat.lt_or_ge i cs.length with hlt | hge
              · simp [List.getElem?_eq_getElem hlt] at hp
              · exact hge
            simp [List.getElem?_eq_none (show vs.length ≤ i by omega)]
          | some p => simp [hvs i p hp]
        · obtain ⟨i, hi'⟩ := List.mem_iff_getElem?.1 hp
          exact (hi.1 i p hi').1
    · intro i j c hc
      obtain ⟨p, hp, hpj⟩ := asAV_cell hc
      obtain ⟨k1, k2⟩ := (hi.1 i p hp).2 j c hpj
      cases ho : c.isOwn with
      | false =>
        obtain ⟨g1, g2, g3, _⟩ := k1 ho
        exact ⟨g1.move (γ' := { γ with ψ := setψ γ (.tmp d) vn f }) (fun r hr y => setψ_old hv r (g3 r hr) y) (fun _ _ _ => rfl) (fun _ hz => hz) (fun _ _ => rfl) (Nat.le_refl _) (fun _ _ _ => rfl), g2, fun r hr hh => g3 r hr hh.1⟩
      | true =>
        cases c <;> simp [Cell.isOwn] at ho
        obtain ⟨_, k3, _⟩ := k2 _ _ _ _ rfl
        exact ⟨k3, by obtain ⟨B, c', hh, _⟩ := OwnV.slice k3; rw [hh]; rfl, by simp [refs]⟩
    · intro i j e t ver l hc
      obtain ⟨p, hp, hpj⟩ := asAV_cell hc
      obtain ⟨rfl, k3, k4⟩ := ((hi.1 i p hp).2 j _ hpj).2 _ _ _ _ rfl
      refine ⟨by simp [setψ], fun hh => hh.2 rfl, fun g hg => ⟨(k4 g hg).but _, fun i' j' e' t' ver' l' hc' hg' => ?_⟩⟩
      obtain ⟨p', hp', hpj'⟩ := asAV_cell hc'
      exact hi.2 i' j' i j p' p _ _ g hp' hpj' rfl hp hpj rfl hg' hg
theorem Core.zoneGrow (h : Core A X γ Fr env a w) {Z2 : Nat → Prop} (hZ : ∀ g, γ.Z g → Z2 g) (h2 : ∀ g, Z2 g → γ.Z g ∨ Free A γ env g) (h3 : ∀ g, Z2 g → g < w.heap.size) (h4 : ∀ g, Z2 g → γ.Z g ∨ A.w0.heap.size ≤ g) : Core A X { γ with Z := Z2 } Fr env a w := by
  refine { h with zone := h3, zone0 := ⟨fun g hg => hZ g (h.zone0.1 g hg), fun g hg => (h4 g hg).elim (h.zone0.2 g) .inr⟩, box := ?_, cell := ?_, own := ?_ }
  · intro b ver fz cs hb
    obtain ⟨b1, b2, b3, b4⟩ := h.box b ver fz cs hb
    refine ⟨b1, b2, ⟨fun hf => hZ _ (b3.1 hf), fun hz => ?_⟩, b4⟩
    rcases h2 _ hz with hz | hz
    · exact b3.2 hz
    · exact absurd rfl (hz.2.2.1 b ver fz cs hb)
  · intro x c hc
    obtain ⟨h1, k2, k3⟩ := h.cell x c hc
    exact ⟨h1.move (fun _ _ _ => rfl) (fun _ _ _ => rfl) hZ (fun _ _ => rfl) (Nat.le_refl _) (fun _ _ _ => rfl), k2, k3⟩
  · intro x e t ver l hc
    obtain ⟨k1, k2, k3⟩ := h.own x e t ver l hc
    refine ⟨k1, k2, fun g hg => ?_⟩
    obtain ⟨a1, a2, a3⟩ := k3 g hg
    refine ⟨fun hz => ?_, a2, a3⟩
    rcases h2 _ hz with hz | hz
    · exact a1 hz
    · exact hz.2.2.2 x e t ver l hc hg
theorem GoodR.world {c : Cell} {u : Value} (h : GoodR A γ w Fr c u) (hZ : ∀ g, γ.Z g → w'.heap[g]? = w.heap[g]?) (hs : w.heap.size ≤ w'.heap.size) : GoodR A γ w' Fr c u :=
  ⟨h.1.move (fun _ _ _ => rfl) (fun _ _ _ => rfl) (fun _ hz => hz) hZ hs (fun ho => by rw [h.2.2.2] at ho; cases ho), h.2⟩
theorem Core.row_lt (h : Core A X γ Fr env a w) {x : Loc} {e : TypeId} {t : Ty} {ver : Nat} {l : List t.den} (hx : envCell env x = some (.own e t ver l)) {g : Nat} (hg : srcBlock γ g (.row x)) : g < w.heap.size :=
  (OwnV.lt (h.cell x _ hx).1 g hg).2
theorem Core.arr_lt (h : Core A X γ Fr env a w) {b bv : Nat} {fz : Bool} {cs : List Cell} (hb : env.get (.box b) = .box bv fz cs) {g : Nat} (hg : srcBlock γ g (.arr b bv)) : g < w.heap.size := by
  obtain ⟨⟨T, h1⟩, _⟩ := h.box b bv fz cs hb
  rw [← show γ.σ b bv = g from hg]
  exact (Array.getElem?_eq_some_iff.1 h1).1
theorem solid_lt (h : Core A X γ Fr env a w) {c c' : Cell} {ss : List Src} {l0 l1 : List Slot} (hs : (solid c).eval env.get l0 = some ((c', ss), l1)) : ∀ s ∈ ss, ∀ g, srcBlock γ g s → g < w.heap.size := by
  cases c with
  | view x ver =>
    simp only [solid, Rd.eval_bind, Option.bind_eq_some_iff] at hs
    obtain ⟨_, k1, h2⟩ := hs
    simp only [Rd.eval, Option.some.injEq, Prod.mk.injEq] at h2
    obtain ⟨⟨_, rfl⟩, _⟩ := h2
    intro s hs g hg
    rw [List.mem_singleton.1 hs] at hg
    exact h.row_lt (ownerAt_eval k1) hg
  | sub x ver sz lo hi =>
    simp only [solid, Rd.eval_bind, Option.bind_eq_some_iff] at hs
    obtain ⟨p, k1, h2⟩ := hs
    cases hb : Nat.beq sz p.1.2.1.size <;> rw [hb] at h2 <;> simp [Rd.eval] at h2
    obtain ⟨⟨_, rfl⟩, _⟩ := h2
    intro s hs g hg
    rw [List.mem_singleton.1 hs] at hg
    exact h.row_lt (ownerAt_eval k1) hg
  | barr b bv off n t =>
    simp only [solid, Rd.eval_bind, Option.bind_eq_some_iff] at hs
    obtain ⟨_, k1, _, _, h2⟩ := hs
    simp only [Rd.eval, Option.some.injEq, Prod.mk.injEq] at h2
    obtain ⟨⟨_, rfl⟩, _⟩ := h2
    intro s hs g hg
    rw [List.mem_singleton.1 hs] at hg
    exact h.arr_lt (boxAt_eval k1) hg
  | _ =>
    simp only [solid, Rd.eval, Option.some.injEq, Prod.mk.injEq] at hs
    obtain ⟨⟨_, rfl⟩, _⟩ := hs
    intro s hs; cases hs
theorem solids_lt (h : Core A X γ Fr env a w) : ∀ (cs : List Cell) {cs' : List Cell} {ss : List Src} {l0 l1 : List Slot}, (solids cs).eval env.get l0 = some ((cs', ss), l1) → ∀ s ∈ ss, ∀ g, srcBlock γ g s → g < w.heap.size
  | [], cs', ss, l0, l1, he => by
    simp only [solids, Rd.eval, Option.some.injEq, Prod.mk.injEq] at he
    obtain ⟨⟨_, rfl⟩, _⟩ := he
    intro s hs; cases hs
  | c :: r, cs', ss, l0, l1, he => by
    simp only [solids, Rd.eval_bind, Option.bind_eq_some_iff] at he
    obtain ⟨⟨⟨c', s1⟩, l2⟩, k1, ⟨⟨r', s2⟩, l3⟩, k2, k3⟩ := he
    simp only [Rd.eval, Option.some.injEq, Prod.mk.injEq] at k3
    obtain ⟨⟨_, rfl⟩, _⟩ := k3
    intro s hs g hg
    rcases List.mem_append.1 hs with hs | hs
    · exact solid_lt h k1 s hs g hg
    · exact solids_lt h r k2 s hs g hg
theorem solidArgs_lt (h : Core A X γ Fr env a w) : ∀ (cs : List (Bool × List Cell)) {cs' : List (Bool × List Cell)} {ss : List Src} {l0 l1 : List Slot}, (solidArgs cs).eval env.get l0 = some ((cs', ss), l1) → ∀ s ∈ ss, ∀ g, srcBlock γ g s → g < w.heap.size
  | [], cs', ss, l0, l1, he => by
    simp only [solidArgs, Rd.eval, Option.some.injEq, Prod.mk.injEq] at he
    obtain ⟨⟨_, rfl⟩, _⟩ := he
    intro s hs; cases hs
  | c :: r, cs', ss, l0, l1, he => by
    simp only [solidArgs, Rd.eval_bind, Option.bind_eq_some_iff] at he
    obtain ⟨⟨⟨c', s1⟩, l2⟩, k1, ⟨⟨r', s2⟩, l3⟩, k2, k3⟩ := he
    simp only [Rd.eval, Option.some.injEq, Prod.mk.injEq] at k3
    obtain ⟨⟨_, rfl⟩, _⟩ := k3
    intro s hs g hg
    rcases List.mem_append.1 hs with hs | hs
    · exact solids_lt h _ k1 s hs g hg
    · exact solidArgs_lt h r k2 s hs g hg
theorem implodeArgs_lt (h : Core A X γ Fr env a w) : ∀ (As : List ATy) (cs : List (Bool × List Cell)) {xs : denA As} {ss : List Src} {l0 l1 : List Slot}, (implodeArgs As cs).eval env.get l0 = some ((xs, ss), l1) → ∀ s ∈ ss, ∀ g, srcBlock γ g s → g < w.heap.size
  | [], cs, xs, ss, l0, l1, he => by
    cases cs with
    | nil =>
      simp only [implodeArgs, Rd.eval, Option.some.injEq, Prod.mk.injEq] at he
      obtain ⟨⟨_, rfl⟩, _⟩ := he
      intro s hs; cases hs
    | cons p r => simp [implodeArgs, Rd.eval] at he
  | .data g t :: as, cs, xs, ss, l0, l1, he => by
    cases cs with
    | nil => simp [implodeArgs, Rd.eval] at he
    | cons p r =>
      obtain ⟨g', c⟩ := p
      simp only [implodeArgs] at he
      cases hg : (g == g') with
      | false => rw [hg] at he; simp [Rd.eval] at he
      | true =>
        rw [hg] at he
        simp only [cond_true] at he
        split at he
        · simp only [Rd.eval_bind, Option.bind_eq_some_iff] at he
          obtain ⟨⟨⟨q1, q2⟩, l2⟩, k1, k2⟩ := he
          simp only [Rd.eval, Option.some.injEq, Prod.mk.injEq] at k2
          obtain ⟨⟨_, rfl⟩, _⟩ := k2
          exact implodeArgs_lt h as r k1
        · simp [Rd.eval] at he
  | .ptr t :: as, cs, xs, ss, l0, l1, he => by
    obtain ⟨c, r, rfl⟩ := implodeArgs_ptr he
    simp only [implodeArgs, Rd.eval_bind, Option.bind_eq_some_iff] at he
    obtain ⟨⟨⟨p1, p2⟩, l2⟩, k1, k2⟩ := he
    simp only at k2
    split at k2
    · simp only [Rd.eval_bind, Option.bind_eq_some_iff] at k2
      obtain ⟨⟨⟨q1, q2⟩, l3⟩, k3, k4⟩ := k2
      simp only [Rd.eval, Option.some.injEq, Prod.mk.injEq] at k4
      obtain ⟨⟨_, rfl⟩, _⟩ := k4
      intro s hs g hg
      rcases List.mem_append.1 hs with hs | hs
      · unfold getPtr at k1
        split at k1
        · simp only [Rd.eval_bind, Option.bind_eq_some_iff] at k1
          obtain ⟨⟨⟨fz, cs0⟩, l4⟩, m1, m2⟩ := k1
          simp only [Rd.eval, Option.some.injEq, Prod.mk.injEq] at m2
          obtain ⟨⟨_, rfl⟩, _⟩ := m2
          rw [List.mem_singleton.1 hs] at hg
          exact h.arr_lt (boxAt_eval m1) hg
        · simp only [Rd.eval, Option.some.injEq, Prod.mk.injEq] at k1
          obtain ⟨⟨_, rfl⟩, _⟩ := k1
          cases hs
        · simp [Rd.eval] at k1
      · exact implodeArgs_lt h as r k3 s hs g hg
    · simp [Rd.eval] at k2
  | .clo b1 b2 :: as, cs, xs, ss, l0, l1, he => by
    obtain ⟨d1, d2, F, r, rfl⟩ := implodeArgs_clo he
    simp only [implodeArgs] at he
    split at he
    · simp only [Rd.eval_bind, Option.bind_eq_some_iff] at he
      obtain ⟨⟨⟨q1, q2⟩, l3⟩, k3, k4⟩ := he
      simp only [Rd.eval, Option.some.injEq, Prod.mk.injEq] at k4
      obtain ⟨⟨_, rfl⟩, _⟩ := k4
      exact implodeArgs_lt h as r k3
    · simp [Rd.eval] at he
  | .lrow g t es :: as, cs, xs, ss, l0, l1, he => absurd he (implodeArgs_lent.1 g t es _)
  | .lptr t :: as, cs, xs, ss, l0, l1, he => absurd he (implodeArgs_lent.2 t _)
theorem toCells_get {args : List Cell} {rs : List (Bool × List RCell)} {i : Nat} {p : Bool × List Cell} (h : (toCells args vn rs)[i]? = some p) : ∃ q, rs[i]? = some q ∧ p = (q.1, q.2.map (RCell.to args vn)) := by
  simp only [toCells, List.getElem?_map, Option.map_eq_some_iff] at h
  obtain ⟨q, h1, h2⟩ := h
  exact ⟨q, h1, h2.symm⟩
theorem toCells_cell {args : List Cell} {q : Bool × List RCell} {j : Nat} {c : Cell} (h : (q.2.map (RCell.to args vn))[j]? = some c) : ∃ rc, q.2[j]? = some rc ∧ c = rc.to args vn := by
  simp only [List.getElem?_map, Option.map_eq_some_iff] at h
  obtain ⟨rc, h1, h2⟩ := h
  exact ⟨rc, h1, h2.symm⟩
theorem resRel_inst {γ2 : Gh} {Z' : Nat → Prop} {B : Nat} {env1 : Env} {avs : List Value} {args : List Cell} {rs : List (Bool × List RCell)} {f : Nat → Nat → Value} (hB : A.B ≤ B)
    (hcell : ∀ i p, rs[i]? = some p → (p.1 = false → p.2.length = 1) ∧ ∀ j rc, p.2[j]? = some rc → RRel Z' w' B avs rc (f i j))
    (huniq : ∀ i j i' j' p p' rc rc' g, rs[i]? = some p → p.2[j]? = some rc → rc.isOwn = true → rs[i']? = some p' → p'.2[j']? = some rc' → rc'.isOwn = true →
      (f i j).ownBlock = some g → (f i' j').ownBlock = some g → i = i' ∧ j = j')
    (hargs : RelCs A γ2 w' Fr args avs)
    (hz : (∀ g, Z' g → γ2.Z g) ∨ ∀ p ∈ rs, ∀ rc ∈ p.2, (∀ e t' l, rc = .own e t' l → leads t' = false) ∧ ∀ t' l, rc ≠ .imm t' l)
    (hfree : ∀ g, B ≤ g → g < w'.heap.size → ¬ Z' g → Free A γ2 env1 g) : InstComps A γ2 w' Fr vn env1 (toCells args vn rs) f := by
  have own : ∀ (i j : Nat) (q : Bool × List RCell) (e : TypeId) (t : Ty) (l : List t.den), rs[i]? = some q → q.2[j]? = some (.own e t l) → OwnV γ2.Z w' A.B e t (f i j) l ∧ ∀ g, (f i j).ownBlock = some g → Free A γ2 env1 g := by
    intro i j q e t l hq hj
    obtain ⟨k1, k2⟩ := (hcell i q hq).2 j _ hj
    refine ⟨?_, fun g hg => hfree g (k1.lt g hg).1 (k1.lt g hg).2 (k2 g hg)⟩
    rcases hz with hz | hz
    · exact (k1.mono hz (fun _ _ => rfl) (fun _ _ => rfl)).base hB
    · exact (k1.flat ((hz q (List.mem_of_getElem? hq) _ (List.mem_of_getElem? hj)).1 e t l rfl)).base hB
  refine ⟨fun i p hp => ?_, fun i j i' j' p p' c c' g hp hc ho hp' hc' ho' hg hg' => ?_⟩
  · obtain ⟨q, hq, rfl⟩ := toCells_get hp
    refine ⟨fun hg => by rw [List.length_map]; exact (hcell i q hq).1 hg, fun j c hc => ?_⟩
    obtain ⟨rc, hrc, rfl⟩ := toCells_cell hc
    have hR := (hcell i q hq).2 j rc hrc
    cases rc with
    | flat c =>
      obtain ⟨k1, k2, k3, k4⟩ := zcell_rel (A := A) (γ := γ2) (w := w') hR.1
      have hR2 : f i j = cellV c := hR.2
      rw [hR2]
      refine ⟨fun _ => ⟨k1, k2, by simp [RCell.to, k3], k4⟩, fun e t v l hh => ?_⟩
      have hh : c = .own e t v l := hh
      rw [hh] at k4
      simp [Cell.isOwn] at k4
    | own e t l =>
      refine ⟨fun hh => by simp [RCell.to, Cell.isOwn] at hh, fun e' t' v' l' hh => ?_⟩
      have hh : Cell.own e t vn l = .own e' t' v' l' := hh
      injection hh with h1 h2 h3 h4
      subst h1; subst h2; subst h3
      have h4 := eq_of_heq h4
      subst h4
      exact ⟨rfl, own i j q _ _ _ hq hrc⟩
    | imm t l =>
      refine ⟨fun _ => ?_, fun e' t' v' l' hh => by cases hh⟩
      rcases hz with hz | hz
      · have hR : RepI Z' w' (.sl t) l [f i j] := hR
        refine ⟨⟨RepI.mono hz (fun _ _ => rfl) _ _ _ hR, by simp⟩, ?_, by simp [RCell.to, refs], rfl⟩
        exact RepI.one _ _ _ hR _ (by simp)
      · exact absurd rfl ((hz q (List.mem_of_getElem? hq) _ (List.mem_of_getElem? hrc)).2 t l)
    | pass k =>
      have hR : avs[k]? = some (f i j) := hR
      have hlt : k < args.length := by rw [← hargs.length]; exact (List.getElem?_eq_some_iff.1 hR).1
      obtain ⟨u, hu, hg⟩ := hargs.get (List.getElem?_eq_getElem hlt)
      rw [hR] at hu
      injection hu with hu
      subst hu
      have hc' : RCell.to args vn (.pass k) = args[k] := by simp [RCell.to, List.getD, List.getElem?_eq_getElem hlt]
      rw [hc']
      refine ⟨fun _ => hg, fun e t v l hh => ?_⟩
      have := hg.2.2.2
      rw [hh] at this
      simp [Cell.isOwn] at this
    | bad => exact hR.elim
  · obtain ⟨q, hq, rfl⟩ := toCells_get hp
    obtain ⟨rc, hrc, rfl⟩ := toCells_cell hc
    obtain ⟨q', hq', rfl⟩ := toCells_get hp'
    obtain ⟨rc', hrc', rfl⟩ := toCells_cell hc'
    have isO : ∀ (i j : Nat) (q : Bool × List RCell) (rc : RCell), rs[i]? = some q → q.2[j]? = some rc → (rc.to args vn).isOwn = true → rc.isOwn = true := by
      intro i j q rc hq hj ho
      have hR := (hcell i q hq).2 j rc hj
      cases rc with
      | flat c =>
        have := (zcell_rel (A := A) (γ := γ2) (w := w') hR.1).2.2.2
        have ho : c.isOwn = true := ho
        rw [ho] at this; cases this
      | own => rfl
      | imm => simp [RCell.to, Cell.isOwn] at ho
      | pass k =>
        have hR : avs[k]? = some (f i j) := hR
        have hlt : k < args.length := by rw [← hargs.length]; exact (List.getElem?_eq_some_iff.1 hR).1
        obtain ⟨u, hu, hg⟩ := hargs.get (List.getElem?_eq_getElem hlt)
        have hc' : RCell.to args vn (.pass k) = args[k] := by simp [RCell.to, List.getD, List.getElem?_eq_getElem hlt]
        rw [hc', hg.2.2.2] at ho; cases ho
      | bad => exact hR.elim
    exact huniq i j i' j' q q' rc rc' g hq hrc (isO i j q rc hq hrc ho) hq' hrc' (isO i' j' q' rc' hq' hrc' ho') hg hg'
theorem callBy_sound (h : Core A X γ Fr env a w) (hst : Stable A.n0 A.G) {f : FuncId} {C : Contract} (hC : Sound A.P A.G f C) {as : List (Bool × List Cell)} {vs : List Value} (hr : RelComps A γ w Fr as vs)
    {cs : List (Bool × List Cell)} {us : List Upd} {l0 l1 : List Slot} (he : (callBy C vn as).eval env.get l0 = some ((cs, us), l1)) :
    FCalls A.P f vs.toArray w fun v w' => ∃ γ2 uss fv, v = mkRes uss ∧ Core A X γ2 Fr (appAll env us) a w' ∧ uss.length = cs.length ∧
      (∀ i p, cs[i]? = some p → uss[i]? = some (mkVal p.1 ((List.range p.2.length).map (fv i)))) ∧ InstComps A γ2 w' Fr vn (appAll env us) cs fv := by
  simp only [callBy, Rd.eval_bind, Option.bind_eq_some_iff] at he
  obtain ⟨⟨⟨ps, ss⟩, l2⟩, h1, ⟨⟨xs, ss2⟩, l3⟩, h2, ⟨us0, l4⟩, h3, h4⟩ := he
  simp only [Rd.eval, Option.bind_eq_some_iff, Option.some.injEq, Prod.mk.injEq] at h4
  obtain ⟨r, hF, ⟨rfl, rfl⟩, _⟩ := h4
  simp only at h2 h3 hF
  have hZ0 : ∀ g, γ.Z g → zoneOf γ (ss ++ ss2) g := fun g hg => .inl hg
  have hps := solidArgs_sound h (zoneOf γ (ss ++ ss2)) as hr h1 fun g hg => zoneOf_app.2 (.inl hg)
  have hargs := implodeArgs_sound h (zoneOf γ (ss ++ ss2)) hZ0 C.As ps hps h2 (fun s hs g hb => .inr ⟨s, List.mem_append_right _ hs, hb⟩)
  have hlt : ∀ g, zoneOf γ (ss ++ ss2) g → g < w.heap.size := by
    rintro g (hg | ⟨s, hs, hg⟩)
    · exact h.zone g hg
    · rcases List.mem_append.1 hs with hs | hs
      · exact solidArgs_lt h as h1 s hs g hg
      · exact implodeArgs_lt h C.As ps h2 s hs g hg
  have key : ∃ γ1, Core A X γ1 Fr (appAll env us0) a w ∧ ZExt γ γ1 ∧ (freezes C.R C.modes = true → ∀ g, zoneOf γ (ss ++ ss2) g → γ1.Z g) := by
    cases hf : freezes C.R C.modes with
    | true =>
      rw [hf] at h3
      obtain ⟨γ1, k1, k2, k3⟩ := freezeAll_sound (ss ++ ss2) [] γ env us0 _ _ h (fun _ _ => rfl) (fun y hy => by simp [memLoc] at hy) h3
      exact ⟨γ1, k1, k2, fun _ => k3⟩
    | false =>
      rw [hf] at h3
      simp only [cond_false, Rd.eval, Option.some.injEq, Prod.mk.injEq] at h3
      obtain ⟨rfl, _⟩ := h3
      exact ⟨γ, h, ZExt.refl γ, fun hh => by cases hh⟩
  obtain ⟨γ1, c1, hz1, hfz⟩ := key
  refine (hC w (zoneOf γ (ss ++ ss2)) vs xs r h.glob hlt hargs hF).mono ?_
  rintro v w' ⟨Z', uss, rfl, hbel, hsub, hsup, f', hl, hcell, huniq⟩
  have hG : A.G w' := hst.below h.glob hbel
  have cw := c1.world (row := none) ⟨hbel.os, hbel.tape, hbel.output, hbel.size, fun k hk _ => hbel.block k hk, hbel.drawn⟩ (fun g hg => by cases hg) hG
  have hZ2lt : ∀ g, (γ1.Z g ∨ (Z' g ∧ w.heap.size ≤ g)) → g < w'.heap.size := by
    rintro g (hg | ⟨hg, _⟩)
    · exact cw.zone g hg
    · rcases hsup g hg with hg | hg
      · exact Nat.lt_of_lt_of_le (hlt g hg) hbel.size
      · exact hg.2
  have c2 := cw.zoneGrow (Z2 := fun g => γ1.Z g ∨ (Z' g ∧ w.heap.size ≤ g)) (fun g hg => .inl hg) (fun g hg => hg.imp id fun hh => c1.free_new hh.2) hZ2lt (fun g hg => hg.imp id fun hh => Nat.le_trans h.frame.size hh.2)
  have hz2 : ZExt γ { γ1 with Z := fun g => γ1.Z g ∨ (Z' g ∧ w.heap.size ≤ g) } := ⟨hz1.1, hz1.2.1, hz1.2.2.1, fun g hg => .inl (hz1.2.2.2 g hg)⟩
  refine ⟨{ γ1 with Z := fun g => γ1.Z g ∨ (Z' g ∧ w.heap.size ≤ g) }, uss, f', rfl, c2, by rw [hl]; simp [toCells], ?_, ?_⟩
  · intro i p hp
    obtain ⟨q, hq, rfl⟩ := toCells_get hp
    rw [(hcell i q hq).1, List.length_map]
  · have hkeep : ∀ g, zoneOf γ (ss ++ ss2) g → w'.heap[g]? = w.heap[g]? := fun g hg => hbel.block g (hlt g hg)
    refine resRel_inst (B := w.heap.size) (Z' := Z') (avs := avsOf vs) (Nat.le_trans h.baseB h.frame.size) (fun i p hp => (hcell i p hp).2) huniq ?_ ?_ ?_
    · cases hf : freezes C.R C.modes with
      | true =>
        simp only [cond_true]
        have hzz : ZExt { γ with Z := zoneOf γ (ss ++ ss2) } { γ1 with Z := fun g => γ1.Z g ∨ (Z' g ∧ w.heap.size ≤ g) } := ⟨hz1.1, hz1.2.1, hz1.2.2.1, fun g hg => .inl (hfz hf g hg)⟩
        have := RelComps.flat hps
        exact RelCs.of_get this.length fun j c u hc hu => by
          obtain ⟨u', hu', hg⟩ := this.get hc
          rw [hu] at hu'; injection hu' with hu'; subst hu'
          exact (hg.world hkeep hbel.size).zext hzz
      | false =>
        simp only [cond_false]
        have := RelComps.flat hr
        exact RelCs.of_get this.length fun j c u hc hu => by
          obtain ⟨u', hu', hg⟩ := this.get hc
          rw [hu] at hu'; injection hu' with hu'; subst hu'
          exact (hg.world (fun g hg => hbel.block g (h.zone g hg)) hbel.size).zext hz2
    · cases hf : freezes C.R C.modes with
      | true =>
        left
        intro g hg
        rcases hsup g hg with hg' | hg'
        · exact .inl (hfz hf g hg')
        · exact .inr ⟨hg, hg'.1⟩
      | false =>
        right
        simp only [freezes, hasImm, Bool.or_eq_false_iff] at hf
        exact resL_flat C.R r C.modes hf.1 hf.2
    · intro g hB hlt' hnz
      have hfr := c1.free_new hB
      refine ⟨hfr.1, fun hz => ?_, hfr.2.2.1, hfr.2.2.2⟩
      rcases hz with hz | hz
      · exact hfr.2.1 hz
      · exact hnz hz.1
end
end Go.VI
