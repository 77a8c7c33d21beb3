/- VI, part 21c: a call to which rows and variables are lent. -/
import Derived.Test.YtdejhienahdoiaaGreatViApp
import Derived.Orders
namespace Go.VI
open Go.RowKit
section
variable {A : Fix} {X : Ctx} {γ : Gh} {Fr : Nat → Prop} {env : Env} {a : Act} {w w' : World} {vn : Nat} {o : Oper} {us : List Upd} {lg : List Slot}
def SrcOK (env : Env) : Src → Prop
  | .row x => ∃ e t ver l, envCell env x = some (.own e t ver l)
  | .arr b bv => ∃ fz cs, env.get (.box b) = .box bv fz cs
theorem solid_src {c c' : Cell} {ss : List Src} {l0 l1 : List Slot} (hs : (solid c).eval env.get l0 = some ((c', ss), l1)) : ∀ s ∈ ss, SrcOK env s := by
  cases c with
  | view x ver =>
    simp only [solid, Rd.eval_bind, Option.bind_eq_some_iff] at hs
    obtain ⟨_, k1, h2⟩ := hs
    simp only [Rd.eval, Option.some.injEq, Prod.mk.injEq] at h2
    obtain ⟨⟨_, rfl⟩, _⟩ := h2
    intro s hs
    rw [List.mem_singleton.1 hs]
    exact ⟨_, _, _, _, ownerAt_eval k1⟩
  | sub x ver sz lo hi =>
    simp only [solid, Rd.eval_bind, Option.bind_eq_some_iff] at hs
    obtain ⟨p, k1, h2⟩ := hs
    cases hb : Nat.beq sz p.1.2.1.size <;> rw [hb] at h2 <;> simp [Rd.eval] at h2
    obtain ⟨⟨_, rfl⟩, _⟩ := h2
    intro s hs
    rw [List.mem_singleton.1 hs]
    exact ⟨_, _, _, _, ownerAt_eval k1⟩
  | barr b bv off n t =>
    simp only [solid, Rd.eval_bind, Option.bind_eq_some_iff] at hs
    obtain ⟨_, k1, _, _, h2⟩ := hs
    simp only [Rd.eval, Option.some.injEq, Prod.mk.injEq] at h2
    obtain ⟨⟨_, rfl⟩, _⟩ := h2
    intro s hs
    rw [List.mem_singleton.1 hs]
    exact ⟨_, _, boxAt_eval k1⟩
  | _ =>
    simp only [solid, Rd.eval, Option.some.injEq, Prod.mk.injEq] at hs
    obtain ⟨⟨_, rfl⟩, _⟩ := hs
    intro s hs; cases hs
theorem solids_src : ∀ (cs : List Cell) {cs' : List Cell} {ss : List Src} {l0 l1 : List Slot}, (solids cs).eval env.get l0 = some ((cs', ss), l1) → ∀ s ∈ ss, SrcOK env s
  | [], cs', ss, l0, l1, he => by
    simp only [solids, Rd.eval, Option.some.injEq, Prod.mk.injEq] at he
    obtain ⟨⟨_, rfl⟩, _⟩ := he
    intro s hs; cases hs
  | c :: r, cs', ss, l0, l1, he => by
    simp only [solids, Rd.eval_bind, Option.bind_eq_some_iff] at he
    obtain ⟨⟨⟨c', s1⟩, l2⟩, k1, ⟨⟨r', s2⟩, l3⟩, k2, k3⟩ := he
    simp only [Rd.eval, Option.some.injEq, Prod.mk.injEq] at k3
    obtain ⟨⟨_, rfl⟩, _⟩ := k3
    intro s hs
    rcases List.mem_append.1 hs with hs | hs
    · exact solid_src k1 s hs
    · exact solids_src r k2 s hs
theorem lendArgs_src : ∀ (As : List ATy) (cs : List (Bool × List Cell)) {q : denA As × List Src × List Lsrc} {l0 l1 : List Slot}, (lendArgs As cs).eval env.get l0 = some (q, l1) → ∀ s ∈ q.2.1, SrcOK env s
  | [], cs, q, l0, l1, he => by
    cases cs with
    | nil =>
      simp only [lendArgs, Rd.eval, Option.some.injEq, Prod.mk.injEq] at he
      obtain ⟨rfl, _⟩ := he
      simp
    | cons p r => simp [lendArgs, Rd.eval] at he
  | .lrow g t es :: as, cs, q, l0, l1, he => by
    cases cs with
    | nil => simp [lendArgs, Rd.eval] at he
    | cons p r =>
      obtain ⟨g', c⟩ := p
      simp only [lendArgs] at he
      cases hg : (g == g') with
      | false => rw [hg] at he; simp [Rd.eval] at he
      | true =>
        rw [hg] at he
        simp only [cond_true, Rd.eval_bind, Option.bind_eq_some_iff] at he
        obtain ⟨⟨p, l2⟩, k1, k2⟩ := he
        simp only at k2
        split at k2
        · simp only [Rd.eval_bind, Option.bind_eq_some_iff] at k2
          obtain ⟨⟨q1, l3⟩, k3, k4⟩ := k2
          simp only [Rd.eval, Option.some.injEq, Prod.mk.injEq] at k4
          obtain ⟨rfl, _⟩ := k4
          exact lendArgs_src as r k3
        · simp [Rd.eval] at k2
  | .lptr t :: as, cs, q, l0, l1, he => by
    obtain ⟨b, bv, r, rfl⟩ := lendArgs_ptr he
    simp only [lendArgs, Rd.eval_bind, Option.bind_eq_some_iff] at he
    obtain ⟨⟨⟨fz, cs0⟩, l2⟩, k1, k2⟩ := he
    simp only at k2
    cases hp : (fz || !(cs0.all plainCell)) with
    | true => rw [hp] at k2; simp [Rd.eval] at k2
    | false =>
      rw [hp] at k2
      simp only [cond_false] at k2
      split at k2
      · simp only [Rd.eval_bind, Option.bind_eq_some_iff] at k2
        obtain ⟨⟨q1, l3⟩, k3, k4⟩ := k2
        simp only [Rd.eval, Option.some.injEq, Prod.mk.injEq] at k4
        obtain ⟨rfl, _⟩ := k4
        exact lendArgs_src as r k3
      · simp [Rd.eval] at k2
  | .data g t :: as, cs, q, l0, l1, he => by
    cases cs with
    | nil => simp [lendArgs, Rd.eval] at he
    | cons p r =>
      obtain ⟨g', c⟩ := p
      simp only [lendArgs] at he
      cases hg : (g == g') with
      | false => rw [hg] at he; simp [Rd.eval] at he
      | true =>
        rw [hg] at he
        simp only [cond_true, Rd.eval_bind, Option.bind_eq_some_iff] at he
        obtain ⟨⟨⟨p1, p2⟩, l2⟩, k1, k2⟩ := he
        simp only at k2
        split at k2
        · simp only [Rd.eval_bind, Option.bind_eq_some_iff] at k2
          obtain ⟨⟨q1, l3⟩, k3, k4⟩ := k2
          simp only [Rd.eval, Option.some.injEq, Prod.mk.injEq] at k4
          obtain ⟨rfl, _⟩ := k4
          intro s hs
          rcases List.mem_append.1 hs with hs | hs
          · exact solids_src c k1 s hs
          · exact lendArgs_src as r k3 s hs
        · simp [Rd.eval] at k2
  | .ptr t :: as, cs, q, l0, l1, he => absurd he (lendArgs_none.1 t _)
  | .clo a b :: as, cs, q, l0, l1, he => absurd he (lendArgs_none.2 a b _)
theorem freezeAll_upds {env0 : Env} : ∀ (ss : List Src) (xs : List Loc) {us : List Upd} {lg lg' : List Slot}, (freezeAll xs ss).eval env0.get lg = some (us, lg') → ∀ u ∈ us, ∃ x c, u = .cell x c ∧ Src.row x ∈ ss
  | [], xs, us, lg, lg', he => by
    simp only [freezeAll, Rd.eval, Option.some.injEq, Prod.mk.injEq] at he
    obtain ⟨rfl, _⟩ := he
    simp
  | .arr b bv :: r, xs, us, lg, lg', he => by simp [freezeAll, Rd.eval] at he
  | .row x :: r, xs, us, lg, lg', he => by
    simp only [freezeAll] at he
    have tail : ∀ {xs us lg lg'}, (freezeAll xs r).eval env0.get lg = some (us, lg') → ∀ u ∈ us, ∃ y c, u = .cell y c ∧ Src.row y ∈ Src.row x :: r := fun h u hu => by
      obtain ⟨y, c, h1, h2⟩ := freezeAll_upds r _ h u hu
      exact ⟨y, c, h1, List.mem_cons_of_mem _ h2⟩
    cases hm : memLoc x xs with
    | true => rw [hm] at he; exact tail he
    | false =>
      rw [hm] at he
      cases hnl : x.s.isLent with
      | true => rw [hnl] at he; simp [Rd.eval] at he
      | false =>
      rw [hnl] at he
      simp only [cond_false, Rd.eval] at he
      split at he
      · simp only [Rd.eval_bind, Option.bind_eq_some_iff] at he
        obtain ⟨⟨us1, l2⟩, h2, h3⟩ := he
        simp only [Rd.eval, Option.some.injEq, Prod.mk.injEq] at h3
        obtain ⟨rfl, _⟩ := h3
        intro u hu
        rcases List.mem_cons.1 hu with rfl | hu
        · exact ⟨x, _, rfl, List.mem_cons_self⟩
        · exact tail h2 u hu
      · simp [Rd.eval] at he
theorem envCell_appAll : ∀ (us : List Upd) (env : Env) (x : Loc), (∀ u ∈ us, ∃ y c, u = .cell y c ∧ y ≠ x) → envCell (appAll env us) x = envCell env x
  | [], _, _, _ => rfl
  | u :: r, env, x, h => by
    obtain ⟨y, c, rfl, hne⟩ := h u (by simp)
    rw [appAll, envCell_appAll r _ x fun v hv => h v (by simp [hv]), envCell_app_cell, if_neg (fun hh => hne hh.1.symm)]
theorem get_appAll_ne : ∀ (us : List Upd) (env : Env) (s : Slot), (∀ u ∈ us, ∃ y c, u = .cell y c ∧ y.s ≠ s) → (appAll env us).get s = env.get s
  | [], _, _, _ => rfl
  | u :: r, env, s, h => by
    obtain ⟨y, c, rfl, hne⟩ := h u (by simp)
    rw [appAll, get_appAll_ne r _ s fun v hv => h v (by simp [hv]), get_app_cell, if_neg hne]
theorem memNat_iff (n : Nat) (l : List Nat) : memNat n l = true ↔ n ∈ l := by
  induction l with
  | nil => simp [memNat]
  | cons m r ih =>
    simp only [memNat, Bool.or_eq_true, ih, List.mem_cons]
    exact ⟨fun h => h.imp (fun h => (Nat.eq_of_beq_eq_true h).symm) id, fun h => h.imp (fun h => by rw [h]; exact Nat.beq_refl _) id⟩
structure LendOK (ls : List Lsrc) (ss : List Src) : Prop where
  rows : distinctL (lsrcRows ls) = true
  boxes : distinctN (lsrcBoxes ls) = true
  srcs : ∀ s ∈ ss, srcApart (lsrcRows ls) (lsrcBoxes ls) s = true
  far : ∀ x ∈ lsrcRows ls, ∀ b ∈ lsrcBoxes ls, x.s ≠ .box b
  flat : flatRows ls = true
theorem lendOk_iff {ls : List Lsrc} {ss : List Src} (h : lendOk ls ss = true) : LendOK ls ss := by
  simp only [lendOk, Bool.and_eq_true, List.all_eq_true] at h
  obtain ⟨⟨⟨⟨h1, h2⟩, h3⟩, h4⟩, h5⟩ := h
  refine ⟨h1, h2, h3, fun x hx b hb e => ?_, h5⟩
  have := h4 x hx
  rw [e] at this
  simp only [Bool.not_eq_true'] at this
  rw [(memNat_iff b _).2 hb] at this
  cases this
def LsBlock (γ : Gh) (env : Env) : Lsrc → Nat → Prop
  | .row x ver e t, g => (∃ l, envCell env x = some (.own e t ver l)) ∧ (γ.φ x).ownBlock = some g
  | .nil _ _, _ => False
  | .box b bv cs, g => env.get (.box b) = .box bv false cs ∧ cs.all plainCell = true ∧ γ.σ b bv = g
theorem LsRel.at : ∀ {ls : List Lsrc} {is : List Item}, LsRel γ env ls is → ∀ (i : Nat) (p : Item) (g : Nat), is[i]? = some p → p.block = some g → ∃ s, ls[i]? = some s ∧ LsBlock γ env s g
  | [], is, h, i, p, g, hp, _ => by rw [show is = [] from h] at hp; simp at hp
  | .row x ver e t :: r, is, ⟨is', l, h1, h2, h3⟩, i, p, g, hp, hb => by
    rw [h1] at hp
    cases i with
    | zero => simp at hp; subst hp; exact ⟨_, rfl, ⟨l, h2⟩, hb⟩
    | succ i => simp at hp; obtain ⟨s, k1, k2⟩ := LsRel.at h3 i p g hp hb; exact ⟨s, by simpa using k1, k2⟩
  | .nil e t :: r, is, ⟨is', h1, h3⟩, i, p, g, hp, hb => by
    rw [h1] at hp
    cases i with
    | zero => simp at hp; subst hp; simp [Item.block, Value.ownBlock] at hb
    | succ i => simp at hp; obtain ⟨s, k1, k2⟩ := LsRel.at h3 i p g hp hb; exact ⟨s, by simpa using k1, k2⟩
  | .box b bv cs :: r, is, ⟨is', h1, h2, h3, h4⟩, i, p, g, hp, hb => by
    rw [h1] at hp
    cases i with
    | zero =>
      simp at hp; subst hp
      simp [Item.block] at hb
      exact ⟨_, rfl, h2, h3, hb⟩
    | succ i => simp at hp; obtain ⟨s, k1, k2⟩ := LsRel.at h4 i p g hp hb; exact ⟨s, by simpa using k1, k2⟩
theorem rows_at : ∀ {ls : List Lsrc}, distinctL (lsrcRows ls) = true → ∀ (i j : Nat) {x : Loc} {v1 v2 e1 e2 : Nat} {t1 t2 : Ty}, ls[i]? = some (.row x v1 e1 t1) → ls[j]? = some (.row x v2 e2 t2) → i = j
  | [], _, i, j, _, _, _, _, _, _, _, h, _ => by simp at h
  | s :: r, hd, i, j, x, v1, v2, e1, e2, t1, t2, hi, hj => by
    have mem : ∀ (k : Nat) (v e : Nat) (t : Ty), r[k]? = some (.row x v e t) → x ∈ lsrcRows r := by
      clear hd hi hj
      induction r with
      | nil => intro k v e t h; simp at h
      | cons s' r ih =>
        intro k v e t h
        cases k with
        | zero => simp at h; subst h; simp [lsrcRows]
        | succ k =>
          have := ih k v e t (by simpa using h)
          cases s' <;> simp [lsrcRows, this]
    have hd' : distinctL (lsrcRows r) = true := by
      cases s with
      | row y _ _ _ => simp only [lsrcRows, distinctL, Bool.and_eq_true] at hd; exact hd.2
      | nil _ _ => exact hd
      | box _ _ _ => exact hd
    cases i with
    | zero => cases j with
      | zero => rfl
      | succ j =>
        simp at hi hj
        subst hi
        simp only [lsrcRows, distinctL, Bool.and_eq_true, Bool.not_eq_true'] at hd
        rw [(memLoc_iff x _).2 (mem j _ _ _ hj)] at hd
        cases hd.1
    | succ i => cases j with
      | zero =>
        simp at hi hj
        subst hj
        simp only [lsrcRows, distinctL, Bool.and_eq_true, Bool.not_eq_true'] at hd
        rw [(memLoc_iff x _).2 (mem i _ _ _ hi)] at hd
        cases hd.1
      | succ j => rw [rows_at hd' i j (by simpa using hi) (by simpa using hj)]
theorem boxes_at : ∀ {ls : List Lsrc}, distinctN (lsrcBoxes ls) = true → ∀ (i j : Nat) {b v1 v2 : Nat} {c1 c2 : List Cell}, ls[i]? = some (.box b v1 c1) → ls[j]? = some (.box b v2 c2) → i = j
  | [], _, i, j, _, _, _, _, _, h, _ => by simp at h
  | s :: r, hd, i, j, b, v1, v2, c1, c2, hi, hj => by
    have mem : ∀ (k v : Nat) (c : List Cell), r[k]? = some (.box b v c) → b ∈ lsrcBoxes r := by
      clear hd hi hj
      induction r with
      | nil => intro k v c h; simp at h
      | cons s' r ih =>
        intro k v c h
        cases k with
        | zero => simp at h; subst h; simp [lsrcBoxes]
        | succ k =>
          have := ih k v c (by simpa using h)
          cases s' <;> simp [lsrcBoxes, this]
    have hd' : distinctN (lsrcBoxes r) = true := by
      cases s with
      | row y _ _ _ => exact hd
      | nil _ _ => exact hd
      | box _ _ _ => simp only [lsrcBoxes, distinctN, Bool.and_eq_true] at hd; exact hd.2
    cases i with
    | zero => cases j with
      | zero => rfl
      | succ j =>
        simp at hi hj
        subst hi
        simp only [lsrcBoxes, distinctN, Bool.and_eq_true, Bool.not_eq_true'] at hd
        rw [(memNat_iff b _).2 (mem j _ _ hj)] at hd
        cases hd.1
    | succ i => cases j with
      | zero =>
        simp at hi hj
        subst hj
        simp only [lsrcBoxes, distinctN, Bool.and_eq_true, Bool.not_eq_true'] at hd
        rw [(memNat_iff b _).2 (mem i _ _ hi)] at hd
        cases hd.1
      | succ j => rw [boxes_at hd' i j (by simpa using hi) (by simpa using hj)]
theorem mem_rows : ∀ {ls : List Lsrc} {x : Loc} {v e : Nat} {t : Ty}, Lsrc.row x v e t ∈ ls → x ∈ lsrcRows ls
  | s :: r, x, v, e, t, h => by
    rcases List.mem_cons.1 h with rfl | h
    · simp [lsrcRows]
    · have := mem_rows h
      cases s <;> simp [lsrcRows, this]
theorem mem_boxes : ∀ {ls : List Lsrc} {b v : Nat} {c : List Cell}, Lsrc.box b v c ∈ ls → b ∈ lsrcBoxes ls
  | s :: r, b, v, c, h => by
    rcases List.mem_cons.1 h with rfl | h
    · simp [lsrcBoxes]
    · have := mem_boxes h
      cases s <;> simp [lsrcBoxes, this]
theorem plain_noown {cs : List Cell} (h : cs.all plainCell = true) : ∀ c ∈ cs, c.isOwn = false := by
  intro c hc
  have := (List.all_eq_true.1 h) c hc
  cases c <;> simp [plainCell] at this <;> rfl
theorem lend_sep (h : Core A X γ Fr env a w) (hst : Stable A.n0 A.G) (hG0 : BaseOK A) {ls : List Lsrc} {ss : List Src} {is : List Item} (hr : LsRel γ env ls is) (hk : LendOK ls ss) (hs : ∀ s ∈ ss, SrcOK env s) : Aside (zoneOf γ ss) w A.n0 is := by
  have hn : A.n0 ≤ A.w0.heap.size := hst.1 _ hG0.1
  have key : ∀ (i : Nat) (p : Item) (g : Nat), is[i]? = some p → p.block = some g → ¬ zoneOf γ ss g ∧ g < w.heap.size ∧ A.n0 ≤ g := by
    intro i p g hp hb
    obtain ⟨s, hsi, hsb⟩ := hr.at i p g hp hb
    have hmem := List.mem_of_getElem? hsi
    cases s with
    | nil e t => exact hsb.elim
    | row x ver e t =>
      obtain ⟨⟨l, hx⟩, hgx⟩ := hsb
      obtain ⟨a1, a2, a3⟩ := (h.own x e t ver l hx).2.2 g hgx
      refine ⟨?_, ((h.cell x _ hx).1.lt g hgx).2, (h.mine hx hgx).elim (fun hh => Nat.le_trans hn hh) (hG0.2 g)⟩
      rintro (hz | ⟨s, hs', hsg⟩)
      · exact a1 hz
      · have hap := hk.srcs s hs'
        have hok := hs s hs'
        cases s with
        | row y =>
          obtain ⟨e', t', ver', l', hy⟩ := hok
          have := a3 y _ _ _ _ hy hsg
          subst this
          simp only [srcApart, Bool.not_eq_true'] at hap
          rw [(memLoc_iff y _).2 (mem_rows hmem)] at hap
          cases hap
        | arr b bv =>
          obtain ⟨fz, cs, hbx⟩ := hok
          exact a2 b bv fz cs hbx hsg
    | box b bv cs =>
      obtain ⟨hbx, hpl, hg⟩ := hsb
      subst hg
      obtain ⟨⟨T, hT⟩, h2, h3, _⟩ := h.box b bv false cs hbx
      refine ⟨?_, (Array.getElem?_eq_some_iff.1 hT).1, (h.boxMine hbx).elim (fun hh => Nat.le_trans hn hh) (hG0.2 _)⟩
      rintro (hz | ⟨s, hs', hsg⟩)
      · have := h3.2 hz; cases this
      · have hap := hk.srcs s hs'
        have hok := hs s hs'
        cases s with
        | row y =>
          obtain ⟨e', t', ver', l', hy⟩ := hok
          exact ((h.own y _ _ _ _ hy).2.2 _ hsg).2.1 b bv false cs hbx rfl
        | arr b' bv' =>
          obtain ⟨fz, cs', hbx'⟩ := hok
          have := h.inj b' b bv' bv fz false cs' cs hbx' hbx hsg
          subst this
          simp only [srcApart, Bool.not_eq_true'] at hap
          rw [(memNat_iff b' _).2 (mem_boxes hmem)] at hap
          cases hap
  refine ⟨fun g ⟨it, hit, hb⟩ => ?_, fun i j p q g hp hq hpb hqb => ?_⟩
  · obtain ⟨i, hi⟩ := List.mem_iff_getElem?.1 hit
    exact key i it g hi hb
  · obtain ⟨s, hsi, hsb⟩ := hr.at i p g hp hpb
    obtain ⟨s', hsj, hsb'⟩ := hr.at j q g hq hqb
    cases s with
    | nil e t => exact hsb.elim
    | row x ver e t =>
      obtain ⟨⟨l, hx⟩, hgx⟩ := hsb
      obtain ⟨a1, a2, a3⟩ := (h.own x e t ver l hx).2.2 g hgx
      cases s' with
      | nil e t => exact hsb'.elim
      | row y ver' e' t' =>
        obtain ⟨⟨l', hy⟩, hgy⟩ := hsb'
        have := a3 y _ _ _ _ hy hgy
        subst this
        exact rows_at hk.rows i j hsi hsj
      | box b bv cs => exact absurd hsb'.2.2 (a2 b bv false cs hsb'.1)
    | box b bv cs =>
      obtain ⟨hbx, hpl, hg⟩ := hsb
      cases s' with
      | nil e t => exact hsb'.elim
      | row y ver' e' t' =>
        obtain ⟨⟨l', hy⟩, hgy⟩ := hsb'
        exact absurd hg (((h.own y _ _ _ _ hy).2.2 g hgy).2.1 b bv false cs hbx)
      | box b' bv' cs' =>
        obtain ⟨hbx', hpl', hg'⟩ := hsb'
        have := h.inj b b' bv bv' false false cs cs' hbx hbx' (hg.trans hg'.symm)
        subst this
        exact boxes_at hk.boxes i j hsi hsj
structure LsApart (ls : List Lsrc) : Prop where
  rows : distinctL (lsrcRows ls) = true
  boxes : distinctN (lsrcBoxes ls) = true
  far : ∀ x ∈ lsrcRows ls, ∀ b ∈ lsrcBoxes ls, x.s ≠ .box b
theorem LsApart.tail {s : Lsrc} {ls : List Lsrc} (h : LsApart (s :: ls)) : LsApart ls := by
  refine ⟨?_, ?_, fun x hx b hb => h.far x ?_ b ?_⟩
  · cases s with
    | row y _ _ _ => have := h.rows; simp only [lsrcRows, distinctL, Bool.and_eq_true] at this; exact this.2
    | nil _ _ => exact h.rows
    | box _ _ _ => exact h.rows
  · cases s with
    | row y _ _ _ => exact h.boxes
    | nil _ _ => exact h.boxes
    | box _ _ _ => have := h.boxes; simp only [lsrcBoxes, distinctN, Bool.and_eq_true] at this; exact this.2
  · cases s <;> simp [lsrcRows, hx]
  · cases s <;> simp [lsrcBoxes, hb]
theorem LsApart.row {x : Loc} {v e : Nat} {t : Ty} {ls : List Lsrc} (h : LsApart (.row x v e t :: ls)) : x ∉ lsrcRows ls ∧ ∀ b ∈ lsrcBoxes ls, x.s ≠ .box b := by
  have h1 := h.rows
  simp only [lsrcRows, distinctL, Bool.and_eq_true, Bool.not_eq_true'] at h1
  refine ⟨fun hx => ?_, fun b hb => h.far x (by simp [lsrcRows]) b (by simpa [lsrcBoxes] using hb)⟩
  rw [(memLoc_iff x _).2 hx] at h1
  cases h1.1
theorem LsApart.box {b v : Nat} {c : List Cell} {ls : List Lsrc} (h : LsApart (.box b v c :: ls)) : b ∉ lsrcBoxes ls ∧ ∀ x ∈ lsrcRows ls, x.s ≠ .box b := by
  have h1 := h.boxes
  simp only [lsrcBoxes, distinctN, Bool.and_eq_true, Bool.not_eq_true'] at h1
  refine ⟨fun hb => ?_, fun x hx => h.far x (by simpa [lsrcRows] using hx) b (by simp [lsrcBoxes])⟩
  rw [(memNat_iff b _).2 hb] at h1
  cases h1.1
theorem LsRel.congr {env' : Env} {γ' : Gh} (hφ : γ'.φ = γ.φ) (hσ : γ'.σ = γ.σ) : ∀ {ls : List Lsrc} {is : List Item}, LsRel γ env ls is → (∀ x ∈ lsrcRows ls, envCell env' x = envCell env x) → (∀ b ∈ lsrcBoxes ls, env'.get (.box b) = env.get (.box b)) → LsRel γ' env' ls is
  | [], is, h, _, _ => h
  | .row x ver e t :: r, is, ⟨is', l, h1, h2, h3⟩, hx, hb => ⟨is', l, by rw [hφ]; exact h1, by rw [hx x (by simp [lsrcRows])]; exact h2, LsRel.congr hφ hσ h3 (fun y hy => hx y (by simp [lsrcRows, hy])) fun b hb' => hb b (by simpa [lsrcBoxes] using hb')⟩
  | .nil e t :: r, is, ⟨is', h1, h3⟩, hx, hb => ⟨is', h1, LsRel.congr hφ hσ h3 (fun y hy => hx y (by simpa [lsrcRows] using hy)) fun b hb' => hb b (by simpa [lsrcBoxes] using hb')⟩
  | .box b bv cs :: r, is, ⟨is', h1, h2, h3, h4⟩, hx, hb => ⟨is', by rw [hσ, show cellVals γ' (.box b) 0 cs.length = cellVals γ (.box b) 0 cs.length by simp [cellVals, hφ]]; exact h1, by rw [hb b (by simp [lsrcBoxes])]; exact h2, h3, LsRel.congr hφ hσ h4 (fun y hy => hx y (by simpa [lsrcRows] using hy)) fun b' hb' => hb b' (by simp [lsrcBoxes, hb'])⟩
def Pend (A : Fix) (γ : Gh) (Fr : Nat → Prop) (w' : World) (env : Env) : List Lsrc → List Item → Prop
  | [], is => is = []
  | .row x ver e t :: r, is => ∃ is', is = .row (γ.φ x) e t :: is' ∧ envCell env x = some .undef ∧ γ.ψ x ver = γ.φ x ∧ ¬ Fr ver ∧ (∀ g, (γ.φ x).ownBlock = some g → Loose A γ env g ∧ A.B ≤ g ∧ (x.s.isLent = false → A.w0.heap.size ≤ g)) ∧ Pend A γ Fr w' env r is'
  | .nil e t :: r, is => ∃ is', is = .row (.slice none 0 0) e t :: is' ∧ Pend A γ Fr w' env r is'
  | .box b bv cs :: r, is => ∃ is' us, is = .box (γ.σ b bv) us :: is' ∧ (∀ v fz c, env.get (.box b) ≠ .box v fz c) ∧ ¬ Fr bv ∧ ((b < lentBase → A.w0.heap.size ≤ γ.σ b bv) ∧ (lentBase ≤ b → A.lb (b - lentBase) = some (γ.σ b bv))) ∧ Loose A γ env (γ.σ b bv) ∧
      RelCs A γ w' Fr cs us ∧ cs.all plainCell = true ∧ Pend A γ Fr w' env r is'
theorem Pend.congr {γ' : Gh} {env' : Env} {w2 : World} (hψ : γ'.ψ = γ.ψ) (hσ : γ'.σ = γ.σ) : ∀ {ls : List Lsrc} {is : List Item}, Pend A γ Fr w' env ls is → (∀ x ∈ lsrcRows ls, γ'.φ x = γ.φ x ∧ (envCell env x = some .undef → envCell env' x = some .undef)) →
    (∀ b ∈ lsrcBoxes ls, (∀ v fz c, env.get (.box b) ≠ .box v fz c) → ∀ v fz c, env'.get (.box b) ≠ .box v fz c) → (∀ g, Lof is g → Loose A γ env g → Loose A γ' env' g) → (∀ cs us, cs.all plainCell = true → RelCs A γ w' Fr cs us → RelCs A γ' w2 Fr cs us) → Pend A γ' Fr w2 env' ls is
  | [], is, h, _, _, _, _ => h
  | .row x ver e t :: r, is, ⟨is', h1, h2, h3, h4, h5, h6⟩, hx, hb, hl, hc => by
    obtain ⟨k1, k2⟩ := hx x (by simp [lsrcRows])
    refine ⟨is', by rw [k1]; exact h1, k2 h2, by rw [hψ, k1]; exact h3, h4, fun g hg => ?_, Pend.congr hψ hσ h6 (fun y hy => hx y (by simp [lsrcRows, hy])) (fun b hb' => hb b (by simpa [lsrcBoxes] using hb')) (fun g ⟨it, hit, hg⟩ => hl g ⟨it, by rw [h1]; simp [hit], hg⟩) hc⟩
    rw [k1] at hg
    exact ⟨hl g ⟨.row (γ.φ x) e t, by rw [h1]; exact List.mem_cons_self, hg⟩ (h5 g hg).1, (h5 g hg).2⟩
  | .nil e t :: r, is, ⟨is', h1, h6⟩, hx, hb, hl, hc => ⟨is', h1, Pend.congr hψ hσ h6 (fun y hy => hx y (by simpa [lsrcRows] using hy)) (fun b hb' => hb b (by simpa [lsrcBoxes] using hb')) (fun g ⟨it, hit, hg⟩ => hl g ⟨it, by rw [h1]; simp [hit], hg⟩) hc⟩
  | .box b bv cs :: r, is, ⟨is', us, h1, h2, h3, h4, h5, h6, h7, h8⟩, hx, hb, hl, hc =>
    ⟨is', us, by rw [hσ]; exact h1, hb b (by simp [lsrcBoxes]) h2, h3, by rw [hσ]; exact h4, by rw [hσ]; exact hl _ ⟨_, by rw [h1]; exact List.mem_cons_self, rfl⟩ h5, hc cs us h7 h6, h7,
      Pend.congr hψ hσ h8 (fun y hy => hx y (by simpa [lsrcRows] using hy)) (fun b' hb' => hb b' (by simp [lsrcBoxes, hb'])) (fun g ⟨it, hit, hg⟩ => hl g ⟨it, by rw [h1]; simp [hit], hg⟩) hc⟩
theorem kill_all : ∀ (ls : List Lsrc) (env : Env) (is : List Item), Core A X γ Fr env a w → LsRel γ env ls is → LsApart ls →
    Core A X γ Fr (appAll env (killUpds ls)) a w ∧ Pend A γ Fr w (appAll env (killUpds ls)) ls is ∧ (∀ g, Loose A γ env g → Loose A γ (appAll env (killUpds ls)) g) ∧ (∀ g, Lof is g → Loose A γ (appAll env (killUpds ls)) g) ∧
      (∀ x, x ∉ lsrcRows ls → (∀ b ∈ lsrcBoxes ls, x.s ≠ .box b) → envCell (appAll env (killUpds ls)) x = envCell env x) ∧ (∀ b, b ∉ lsrcBoxes ls → (∀ v fz c, env.get (.box b) ≠ .box v fz c) → ∀ v fz c, (appAll env (killUpds ls)).get (.box b) ≠ .box v fz c)
  | [], env, is, h, hr, _ => ⟨h, hr, fun _ hg => hg, fun g ⟨it, hit, _⟩ => (by rw [show is = [] from hr] at hit; cases hit), fun _ _ _ => rfl, fun _ _ h => h⟩
  | .row x ver e t :: r, env, is, h, ⟨is', l, h1, h2, h3⟩, hap => by
    obtain ⟨n1, n2⟩ := hap.row
    have hk := h.kill x
    have hr' : LsRel γ (Upd.app env (.cell x .undef)) r is' := LsRel.congr rfl rfl h3 (fun y hy => by rw [envCell_app_cell, if_neg (fun (hh : y = x ∧ _) => n1 (hh.1 ▸ hy))]) (fun b hb => by rw [get_app_cell, if_neg (n2 b hb)])
    obtain ⟨k1, k2, k3, k4, k5, k6⟩ := kill_all r _ is' hk hr' hap.tail
    have hx0 : envCell (Upd.app env (.cell x .undef)) x = some .undef := by rw [envCell_app_cell, if_pos ⟨rfl, by rw [h2]; rfl⟩]
    refine ⟨k1, ⟨is', h1, ?_, (h.own x e t ver l h2).1, (h.own x e t ver l h2).2.1, fun g hg => ⟨k3 g (h.kill_loose h2 hg), ((h.cell x _ h2).1.lt g hg).1, fun hn => h.fresh x e t ver l h2 hn g hg⟩, k2⟩, fun g hg => k3 g (hg.kill x), ?_, ?_, ?_⟩
    · rw [killUpds, appAll, k5 x n1 n2]; exact hx0
    · rintro g ⟨it, hit, hg⟩
      rw [h1] at hit
      rcases List.mem_cons.1 hit with rfl | hit
      · exact k3 g (h.kill_loose h2 hg)
      · exact k4 g ⟨it, hit, hg⟩
    · intro y hy hb
      simp only [lsrcRows, List.mem_cons, not_or] at hy
      rw [killUpds, appAll, k5 y hy.2 (fun b hb' => hb b (by simpa [lsrcBoxes] using hb')), envCell_app_cell, if_neg (fun hh => hy.1 hh.1)]
    · intro b hb hnb v fz c
      refine k6 b (by simpa [lsrcBoxes] using hb) (fun v fz c hh => ?_) v fz c
      rw [get_app_cell] at hh
      split at hh
      · obtain ⟨cs', hb', _⟩ := box_setCell hh
        exact hnb _ _ _ hb'
      · exact hnb _ _ _ hh
  | .nil e t :: r, env, is, h, ⟨is', h1, h3⟩, hap => by
    obtain ⟨k1, k2, k3, k4, k5, k6⟩ := kill_all r env is' h h3 hap.tail
    refine ⟨k1, ⟨is', h1, k2⟩, k3, ?_, k5, k6⟩
    rintro g ⟨it, hit, hg⟩
    rw [h1] at hit
    rcases List.mem_cons.1 hit with rfl | hit
    · simp [Item.block, Value.ownBlock] at hg
    · exact k4 g ⟨it, hit, hg⟩
  | .box b bv cs :: r, env, is, h, ⟨is', h1, h2, h3, h4⟩, hap => by
    obtain ⟨n1, n2⟩ := hap.box
    have hk := h.killBox b
    have hr' : LsRel γ ((.box b, .undef) :: env) r is' := LsRel.congr rfl rfl h4 (fun y hy => by rw [envCell_cons, if_neg (Ne.symm (n2 y hy))]) (fun b' hb' => Env.get_cons_ne _ _ (fun e => n1 (by injection e with e; rw [e]; exact hb')))
    obtain ⟨k1, k2, k3, k4, k5, k6⟩ := kill_all r _ is' hk hr' hap.tail
    obtain ⟨_, b2, _, b4⟩ := h.box b bv false cs h2
    obtain ⟨c1, _⟩ := h.boxCells h2 0
    simp only [List.drop_zero] at c1
    have hnov : VI.readCells (.box b) 0 0 cs = cs := by
      apply List.ext_getElem?
      intro j
      rw [readCells_get]
      cases hj : cs[j]? with
      | none => rfl
      | some c =>
        have hc := (List.all_eq_true.1 h3) c (List.mem_of_getElem? hj)
        cases c <;> simp [plainCell] at hc <;> rfl
    rw [hnov] at c1
    have hlo := h.killBox_loose h2
    refine ⟨k1, ⟨is', _, h1, fun v fz c => k6 b n1 (fun v fz c => by rw [Env.get_cons_self]; simp) v fz c, b4, b2, k3 _ hlo, c1, h3, k2⟩, fun g hg => k3 g (hg.killBox b), ?_, ?_, ?_⟩
    · rintro g ⟨it, hit, hg⟩
      rw [h1] at hit
      rcases List.mem_cons.1 hit with rfl | hit
      · simp only [Item.block, Option.some.injEq] at hg
        rw [← hg]
        exact k3 _ hlo
      · exact k4 g ⟨it, hit, hg⟩
    · intro y hy hb
      show envCell (appAll ((.box b, .undef) :: env) (killUpds r)) y = _
      rw [k5 y (by simpa [lsrcRows] using hy) (fun b' hb' => hb b' (by simp [lsrcBoxes, hb'])), envCell_cons, if_neg (Ne.symm (hb b (by simp [lsrcBoxes])))]
    · intro b' hb' hnb v fz c
      simp only [lsrcBoxes, List.mem_cons, not_or] at hb'
      exact k6 b' hb'.2 (fun v fz c => by rw [Env.get_cons_ne _ _ (by simpa using Ne.symm hb'.1)]; exact hnb v fz c) v fz c
theorem uniq_tail {p : Item} {is : List Item} (h : ∀ (i j : Nat) (p' q : Item) (g : Nat), (p :: is)[i]? = some p' → (p :: is)[j]? = some q → p'.block = some g → q.block = some g → i = j) :
    (∀ (i j : Nat) (p q : Item) (g : Nat), is[i]? = some p → is[j]? = some q → p.block = some g → q.block = some g → i = j) ∧ ∀ g g', p.block = some g → Lof is g' → g ≠ g' := by
  refine ⟨fun i j p' q g h1 h2 h3 h4 => ?_, fun g g' hg ⟨it, hit, hg'⟩ e => ?_⟩
  · have := h (i + 1) (j + 1) p' q g (by simpa using h1) (by simpa using h2) h3 h4
    omega
  · subst e
    obtain ⟨k, hk⟩ := List.mem_iff_getElem?.1 hit
    have := h 0 (k + 1) p it g rfl (by simpa using hk) hg hg'
    omega
theorem box_back : ∀ {cs cs' : List Cell} {us us' : List Value}, RelCs A γ w' Fr cs us → BoxOut cs' us us' → RelCs A γ w' Fr (List.zipWith boxCell cs cs') us'
  | [], cs', us, us', h, hb => by
    rw [show us = [] from h] at hb
    cases cs' with
    | nil => exact hb.2
    | cons c r => obtain ⟨u, u', s, s', h1, _⟩ := hb; cases h1
  | c :: r, cs', us, us', ⟨u, us1, h1, hg, hr⟩, hb => by
    cases cs' with
    | nil => rw [h1] at hb; cases hb.1
    | cons c' r' =>
      obtain ⟨u0, u', s, s', e1, e2, hor, hb'⟩ := hb
      rw [h1] at e1
      injection e1 with e1 e3
      subst e1; subst e3
      refine ⟨u', s', e2, ?_, box_back hr hb'⟩
      have hund : ∀ v : Value, v.oneCell' = true → GoodR A γ w' Fr .undef v := fun v hv => ⟨trivial, hv, by simp [refs], rfl⟩
      rcases hor with ⟨hz, hu⟩ | ⟨t, l, p, rfl, hu⟩
      · obtain ⟨g1, g2, g3, g4⟩ := zcell_rel (A := A) (γ := γ) (w := w') hz
        rw [hu]
        cases c' <;> simp [zcell] at hz
        all_goals simp only [boxCell]
        · exact ⟨g1, g2, by simp [refs], rfl⟩
        · exact ⟨g1, g2, by simp [refs], rfl⟩
        · exact ⟨g1, g2, by simp [refs], rfl⟩
        · exact hund _ g2
      · rw [hu]
        cases c <;> simp only [boxCell] <;> first | exact hg | exact hund _ hg.2.1
theorem zip_box_noown {cs cs' : List Cell} (h : cs.all plainCell = true) : ∀ c ∈ List.zipWith boxCell cs cs', c.isOwn = false := by
  induction cs generalizing cs' with
  | nil => simp
  | cons a r ih =>
    cases cs' with
    | nil => simp
    | cons b s =>
      simp only [List.all_cons, Bool.and_eq_true] at h
      intro c hc
      simp only [List.zipWith_cons_cons, List.mem_cons] at hc
      rcases hc with rfl | hc
      · have ha := h.1
        cases b <;> simp only [boxCell] <;> first | rfl | (cases a <;> simp [plainCell] at ha <;> rfl)
      · exact ih h.2 c hc
theorem revive_all {Z' : Nat → Prop} : ∀ (ls : List Lsrc) (γ : Gh) (env : Env) (is : List Item) (ns : List New), Core A X γ Fr env a w' → Pend A γ Fr w' env ls is → LsApart ls → flatRows ls = true →
    (∀ (i j : Nat) (p q : Item) (g : Nat), is[i]? = some p → is[j]? = some q → p.block = some g → q.block = some g → i = j) → OutN Z' w' is ns →
    ∃ γ2, Core A X γ2 Fr (appAll env (lendUpds ls ns)) a w' ∧ γ2.ψ = γ.ψ ∧ γ2.σ = γ.σ ∧ γ2.Z = γ.Z ∧ ∀ g, Loose A γ env g → ¬ Lof is g → Loose A γ2 (appAll env (lendUpds ls ns)) g
  | [], γ, env, is, ns, h, hp, _, _, _, ho => ⟨γ, by cases ns <;> exact h, rfl, rfl, rfl, fun g hg _ => by cases ns <;> exact hg⟩
  | .nil e t :: r, γ, env, is, ns, h, ⟨is', h1, h2⟩, hap, hfl, hu, ho => by
    subst h1
    obtain ⟨l, ns', rfl, _, ho'⟩ := ho
    obtain ⟨u1, _⟩ := uniq_tail hu
    obtain ⟨γ2, k1, k2, k3, k4, k5⟩ := revive_all r γ env is' ns' h h2 hap.tail (by simpa [flatRows] using hfl) u1 ho'
    exact ⟨γ2, k1, k2, k3, k4, fun g hg hn => k5 g hg fun ⟨it, hit, hb⟩ => hn ⟨it, by simp [hit], hb⟩⟩
  | .row x ver e t :: r, γ, env, is, ns, h, ⟨is', h1, h2, h3, h4, h5, h6⟩, hap, hfl, hu, ho => by
    subst h1
    obtain ⟨l, ns', rfl, hown, ho'⟩ := ho
    obtain ⟨u1, u2⟩ := uniq_tail hu
    obtain ⟨n1, n2⟩ := hap.row
    simp only [flatRows, Bool.and_eq_true, Bool.not_eq_true'] at hfl
    have hc := h.reviveRow h2 h3 h4 (OwnV.rebaseM (hown.flat hfl.1) fun g hg => (h5 g hg).2.1) (fun g hg => (h5 g hg).1) (fun hn g hg => (h5 g hg).2.2 hn)
    have hp : Pend A γ Fr w' (Upd.app env (.cell x (.own e t ver l))) r is' := Pend.congr rfl rfl h6 (fun y hy => ⟨rfl, fun hyu => by rw [envCell_app_cell, if_neg (fun (hh : y = x ∧ _) => n1 (hh.1 ▸ hy))]; exact hyu⟩)
      (fun b hb hnb v fz c hh => by
        rw [get_app_cell, if_neg (n2 b hb)] at hh
        exact hnb _ _ _ hh)
      (fun g hg hl => hl.reviveRow fun hx => u2 g g hx hg rfl) (fun _ _ _ hr => hr)
    obtain ⟨γ2, k1, k2, k3, k4, k5⟩ := revive_all r γ _ is' ns' hc hp hap.tail hfl.2 u1 ho'
    have e1 : lendUpds (.row x ver e t :: r) (.row t l :: ns') = .cell x (.own e t ver l) :: lendUpds r ns' := by simp [lendUpds]
    rw [e1]
    exact ⟨γ2, k1, k2, k3, k4, fun g hg hn => k5 g (hg.reviveRow fun hx => hn ⟨_, List.mem_cons_self, hx⟩) fun ⟨it, hit, hb⟩ => hn ⟨it, by simp [hit], hb⟩⟩
  | .box b bv cs :: r, γ, env, is, ns, h, ⟨is', us, h1, h2, h3, h4, h5, h6, h7, h8⟩, hap, hfl, hu, ho => by
    subst h1
    obtain ⟨cs', ns', us', rfl, hbo, ⟨T, hT⟩, ho'⟩ := ho
    obtain ⟨u1, u2⟩ := uniq_tail hu
    obtain ⟨n1, n2⟩ := hap.box
    have hrc := box_back h6 hbo
    have hc := h.reviveBox (bv := bv) h2 h3 h4 h5 hT hrc
    have hno := zip_box_noown (cs' := cs') h7
    have hp : Pend A { γ with φ := setφ γ (.box b) fun _ j => us'.getD j undef } Fr w' ((.box b, .box bv false (List.zipWith boxCell cs cs')) :: env) r is' := by
      refine Pend.congr (γ := γ) (γ' := { γ with φ := setφ γ (.box b) fun _ j => us'.getD j undef }) rfl rfl h8 (fun y hy => ⟨by simp [setφ, n2 y hy], fun hyu => by rw [envCell_cons, if_neg (Ne.symm (n2 y hy))]; exact hyu⟩) (fun b' hb' hnb v fz c hh => ?_) (fun g hg hl => hl.reviveBox (fun e => u2 _ g rfl hg e) hno) (fun cs2 us2 hpl hr => ?_)
      · rw [Env.get_cons_ne _ _ (fun e => n1 (by injection e with e; rw [e]; exact hb'))] at hh
        exact hnb _ _ _ hh
      · exact RelCs.of_get hr.length fun j c u hcj huj => by
          obtain ⟨u2, hu2, hg⟩ := hr.get hcj
          rw [huj] at hu2
          injection hu2 with hu2
          subst hu2
          exact ⟨hg.1.move (fun _ _ _ => rfl) (fun _ _ _ => rfl) (fun _ hz => hz) (fun _ _ => rfl) (Nat.le_refl _) (fun _ _ _ => rfl), hg.2⟩
    obtain ⟨γ2, k1, k2, k3, k4, k5⟩ := revive_all r _ _ is' ns' hc hp hap.tail (by simpa [flatRows] using hfl) u1 ho'
    exact ⟨γ2, k1, k2, k3, k4, fun g hg hn => k5 g (hg.reviveBox (fun e => hn ⟨_, List.mem_cons_self, by simp [Item.block, e]⟩) hno) fun ⟨it, hit, hb⟩ => hn ⟨it, by simp [hit], hb⟩⟩
theorem callByM_sound (h : Core A X γ Fr env a w) (hst : Stable A.n0 A.G) (hG0 : BaseOK A) {f : FuncId} {C : MContract} (hC : SoundM A.P A.n0 A.G f C) {as : List (Bool × List Cell)} {vs : List Value} (hr : RelComps A γ w Fr as vs)
    {cs : List (Bool × List Cell)} {us : List Upd} {l0 l1 : List Slot} (he : (callByM C vn as).eval env.get l0 = some ((cs, us), l1)) :
    FCalls A.P f vs.toArray w fun v w' => ∃ γ2 uss fv, v = mkRes uss ∧ Core A X γ2 Fr (appAll env us) a w' ∧ uss.length = cs.length ∧
      (∀ i p, cs[i]? = some p → uss[i]? = some (mkVal p.1 ((List.range p.2.length).map (fv i)))) ∧ InstComps A γ2 w' Fr vn (appAll env us) cs fv := by
  simp only [callByM, Rd.eval_bind, Option.bind_eq_some_iff] at he
  obtain ⟨⟨q, l2⟩, h1, h2⟩ := he
  obtain ⟨xs, ss, ls⟩ := q
  simp only at h2
  cases hok : lendOk ls ss with
  | false => rw [hok] at h2; simp [Rd.eval] at h2
  | true =>
  rw [hok] at h2
  simp only [Bool.not_true, cond_false, Rd.eval_bind, Option.bind_eq_some_iff] at h2
  obtain ⟨⟨us0, l4⟩, h3, h4⟩ := h2
  simp only [Rd.eval, Option.bind_eq_some_iff, Option.some.injEq, Prod.mk.injEq] at h4
  obtain ⟨⟨r, m⟩, hF, ⟨rfl, rfl⟩, _⟩ := h4
  have hk := lendOk_iff hok
  have hsrc := lendArgs_src C.As as h1
  simp only at h3 hF hsrc
  have hZ0 : ∀ g, γ.Z g → zoneOf γ ss g := fun g hg => .inl hg
  obtain ⟨is, hargs, hls, hlt0⟩ := lendArgs_sound h (zoneOf γ ss) hZ0 C.As as hr h1 fun g hg => hg
  simp only at hargs hls hlt0
  have hlt : ∀ g, zoneOf γ ss g → g < w.heap.size := by
    rintro g (hg | ⟨s, hs, hg⟩)
    · exact h.zone g hg
    · exact hlt0 s hs g hg
  have hsep := lend_sep h hst hG0 hls hk hsrc
  have key : ∃ γ1, Core A X γ1 Fr (appAll env us0) a w ∧ ZExt γ γ1 ∧ (freezes C.R C.modes = true → ∀ g, zoneOf γ ss g → γ1.Z g) ∧ (∀ u ∈ us0, ∃ x c, u = Upd.cell x c ∧ Src.row x ∈ ss) := by
    cases hf : freezes C.R C.modes with
    | true =>
      rw [hf] at h3
      obtain ⟨γ1, k1, k2, k3⟩ := freezeAll_sound ss [] γ env us0 _ _ h (fun _ _ => rfl) (fun y hy => by simp [memLoc] at hy) h3
      exact ⟨γ1, k1, k2, fun _ => k3, freezeAll_upds ss [] h3⟩
    | false =>
      rw [hf] at h3
      simp only [cond_false, Rd.eval, Option.some.injEq, Prod.mk.injEq] at h3
      obtain ⟨rfl, _⟩ := h3
      exact ⟨γ, h, ZExt.refl γ, fun hh => (by cases hh), by simp⟩
  obtain ⟨γ1, c1, hz1, hfz, hus0⟩ := key
  have hls1 : LsRel γ1 (appAll env us0) ls is := by
    refine LsRel.congr hz1.2.2.1 hz1.2.1 hls (fun x hx => envCell_appAll us0 env x fun u hu => ?_) (fun b hb => get_appAll_ne us0 env _ fun u hu => ?_)
    · obtain ⟨y, c, rfl, hy⟩ := hus0 u hu
      refine ⟨y, c, rfl, fun e => ?_⟩
      have := hk.srcs _ hy
      simp only [srcApart, Bool.not_eq_true'] at this
      rw [e, (memLoc_iff x _).2 hx] at this
      cases this
    · obtain ⟨y, c, rfl, hy⟩ := hus0 u hu
      refine ⟨y, c, rfl, fun e => ?_⟩
      obtain ⟨e', t', ver', l', hyc⟩ := hsrc _ hy
      have hbx : ∀ {ls : List Lsrc} {is : List Item}, LsRel γ env ls is → b ∈ lsrcBoxes ls → ∃ bv cs, env.get (.box b) = .box bv false cs ∧ cs.all plainCell = true := by
        intro ls
        induction ls with
        | nil => intro is _ hb; simp [lsrcBoxes] at hb
        | cons s r ih =>
          intro is hl hb
          cases s with
          | row x ver e t => obtain ⟨is', l, _, _, h3⟩ := hl; exact ih h3 (by simpa [lsrcBoxes] using hb)
          | nil e t => obtain ⟨is', _, h3⟩ := hl; exact ih h3 (by simpa [lsrcBoxes] using hb)
          | box b' bv cs =>
            obtain ⟨is', _, h2, h3, h4⟩ := hl
            simp only [lsrcBoxes, List.mem_cons] at hb
            rcases hb with rfl | hb
            · exact ⟨bv, cs, h2, h3⟩
            · exact ih h4 hb
      obtain ⟨bv, cs, hb1, hb2⟩ := hbx hls hb
      unfold envCell at hyc
      rw [e, hb1] at hyc
      cases hi : y.c with
      | zero =>
        rw [hi] at hyc
        have := plain_noown hb2 _ (List.mem_of_getElem? hyc)
        simp [Cell.isOwn] at this
      | succ i => rw [hi] at hyc; simp [AV.cell?] at hyc
  have hap : LsApart ls := ⟨hk.rows, hk.boxes, hk.far⟩
  obtain ⟨c2, hpend, kl1, kl2, _, _⟩ := kill_all ls _ is c1 hls1 hap
  refine (hC w (zoneOf γ ss) vs xs r m is h.glob hlt hargs hsep hF).mono ?_
  rintro v w' ⟨Z', uss, rfl, hfr, hsub, hsup, ⟨f', hl, hcell, huniq⟩, hout⟩
  have hG : A.G w' := hst.2 w w' h.glob hfr.size fun k hkk => hfr.block k (Nat.lt_of_lt_of_le hkk (hst.1 w h.glob)) fun hL => by have := (hsep.zone k hL).2.2; omega
  have c3 := c2.worldM hfr.os hfr.tape hfr.output hfr.size hfr.drawn (fun k hkk hnl => hfr.block k hkk fun hL => hnl (kl2 k hL)) hG
  have hZw : ∀ g, γ1.Z g → w'.heap[g]? = w.heap[g]? := fun g hg => hfr.block g (c1.zone g hg) fun hL => (kl2 g hL).2.1 hg
  have hpend' : Pend A γ1 Fr w' (appAll (appAll env us0) (killUpds ls)) ls is := Pend.congr rfl rfl hpend (fun x _ => ⟨rfl, fun h => h⟩) (fun b _ h => h) (fun g _ h => h) fun cs us hpl hrc =>
    RelCs.of_get hrc.length fun j c u hcj huj => by
      obtain ⟨u2, hu2, hg⟩ := hrc.get hcj
      rw [huj] at hu2
      injection hu2 with hu2
      subst hu2
      exact hg.world hZw hfr.size
  have hZ2lt : ∀ g, (γ1.Z g ∨ (Z' g ∧ w.heap.size ≤ g)) → g < w'.heap.size := by
    rintro g (hg | ⟨hg, _⟩)
    · exact c3.zone g hg
    · rcases hsup g hg with hg | hg
      · exact Nat.lt_of_lt_of_le (hlt g hg) hfr.size
      · exact hg.2
  have c4 := c3.zoneGrow (Z2 := fun g => γ1.Z g ∨ (Z' g ∧ w.heap.size ≤ g)) (fun g hg => .inl hg) (fun g hg => hg.imp id fun hh => c2.free_new hh.2) hZ2lt (fun g hg => hg.imp id fun hh => Nat.le_trans h.frame.size hh.2)
  have hpend2 : Pend A { γ1 with Z := fun g => γ1.Z g ∨ (Z' g ∧ w.heap.size ≤ g) } Fr w' (appAll (appAll env us0) (killUpds ls)) ls is := Pend.congr (γ := γ1) (γ' := { γ1 with Z := fun g => γ1.Z g ∨ (Z' g ∧ w.heap.size ≤ g) }) rfl rfl hpend' (fun x _ => ⟨rfl, fun h => h⟩) (fun b _ h => h)
    (fun g hL hlo => ⟨hlo.1, fun hz => hz.elim hlo.2.1 fun hh => by have := (hsep.zone g hL).2.1; omega, hlo.2.2.1, hlo.2.2.2⟩)
    (fun cs us hpl hrc => hrc.zext (γ := γ1) (γ' := { γ1 with Z := fun g => γ1.Z g ∨ (Z' g ∧ w.heap.size ≤ g) }) ⟨rfl, rfl, rfl, fun g hg => .inl hg⟩)
  obtain ⟨γ2, c5, e1, e2, e3, kl3⟩ := revive_all ls _ _ is (newsOf C.As m) c4 hpend2 hap hk.flat hsep.uniq hout
  have henv : appAll env (us0 ++ (killUpds ls ++ lendUpds ls (newsOf C.As m))) = appAll (appAll (appAll env us0) (killUpds ls)) (lendUpds ls (newsOf C.As m)) := by rw [appAll_append, appAll_append]
  rw [henv]
  refine ⟨γ2, uss, f', rfl, c5, by rw [hl]; simp [toCells], ?_, ?_⟩
  · intro i p hp
    obtain ⟨q, hq, rfl⟩ := toCells_get hp
    rw [(hcell i q hq).1, List.length_map]
  · refine resRel_inst (B := w.heap.size) (Z' := Z') (avs := []) (Nat.le_trans h.baseB h.frame.size) (fun i p hp => (hcell i p hp).2) huniq rfl ?_ ?_
    · cases hf : freezes C.R C.modes with
      | true =>
        left
        intro g hg
        rw [e3]
        rcases hsup g hg with hg' | hg'
        · exact .inl (hfz hf g hg')
        · exact .inr ⟨hg, hg'.1⟩
      | false =>
        right
        simp only [freezes, hasImm, Bool.or_eq_false_iff] at hf
        exact resL_flat C.R r C.modes hf.1 hf.2
    · intro g hB hlt' hnz
      have hfr2 := c2.free_new hB
      have hlo : Loose A { γ1 with Z := fun g => γ1.Z g ∨ (Z' g ∧ w.heap.size ≤ g) } (appAll (appAll env us0) (killUpds ls)) g :=
        ⟨.inl hfr2.1, fun hz => hz.elim hfr2.2.1 fun hh => hnz hh.1, hfr2.2.2.1, hfr2.2.2.2⟩
      have := kl3 g hlo fun hL => by have := (hsep.zone g hL).2.1; omega
      exact ⟨hfr2.1, this.2⟩
end
end Go.VI
namespace Go.VI
open Go.RowKit
section
variable {A : Fix} {X : Ctx} {γ : Gh} {Fr : Nat → Prop} {env : Env} {a : Act} {w w' : World} {vn : Nat} {o : Oper} {us : List Upd} {lg : List Slot}
theorem RelArgs.keep {P : Program} {G : World → Prop} {Z Z' : Nat → Prop} {w w' : World} (hZ : ∀ g, Z g → Z' g) (hw : ∀ g, Z g → w'.heap[g]? = w.heap[g]?) :
    ∀ (As : List ATy) (xs : denA As) (vs : List Value), ptrsOnly As = true → RelArgs P G Z w As xs vs → RelArgs P G Z' w' As xs vs
  | [], _, _, _, h => h
  | .ptr t :: r, xs, vs, hp, ⟨ad, us, vs', h1, h2, h3, h4, h5⟩ => ⟨ad, us, vs', h1, hZ _ h2, RepI.mono hZ hw _ _ _ h3, fun j u hu => by
      rw [World.cell?_of_block (w := w)]
      · exact h4 j u hu
      · have hb : (ad.add j).block = ad.block := by unfold Addr.add; split <;> rfl
        rw [hb]; exact hw _ h2, RelArgs.keep hZ hw r xs.2 vs' hp h5⟩
  | .data _ _ :: _, _, _, hp, _ => by simp [ptrsOnly] at hp
  | .clo _ _ :: _, _, _, hp, _ => by simp [ptrsOnly] at hp
  | .lrow _ _ _ :: _, _, _, hp, _ => by simp [ptrsOnly] at hp
  | .lptr _ :: _, _, _, hp, _ => by simp [ptrsOnly] at hp
theorem joinA_rel {P : Program} {G : World → Prop} {Z Z2 : Nat → Prop} {w : World} (hZ : ∀ g, Z2 g → Z g) : ∀ (As : List ATy) (ys : denL (cloTy As)) (xs : denA (capTy As)) (vs cs : List Value),
    ptrsOnly (capTy As) = true → RelArgsL Z2 w (cloTy As) ys vs → RelArgs P G Z w (capTy As) xs cs → RelArgs P G Z w As (joinA As ys xs) (vs ++ cs)
  | .data g t :: r, ys, xs, vs, cs, hp, ⟨us, vs', h1, h2, h3, h4⟩, hc => ⟨us, vs' ++ cs, by rw [h1]; rfl, h2, RepI.mono hZ (fun _ _ => rfl) _ _ _ h3, joinA_rel hZ r ys.2 xs vs' cs hp h4 hc⟩
  | [], ys, xs, vs, cs, _, h, hc => by
    rw [show vs = [] from h]
    exact hc
  | .ptr t :: r, ys, xs, vs, cs, _, h, hc => by
    rw [show vs = [] from h]
    exact hc
  | .clo _ _ :: _, _, _, _, _, hp, _, _ => by simp [capTy, ptrsOnly] at hp
  | .lrow _ _ _ :: _, _, _, _, _, hp, _, _ => by simp [capTy, ptrsOnly] at hp
  | .lptr _ :: _, _, _, _, _, hp, _, _ => by simp [capTy, ptrsOnly] at hp
theorem resM_back {Z : Nat → Prop} {B : Nat} {avs : List Value} : ∀ (t : Ty) (x : t.den) (ms : List RMode) (us : List Value), leads t = false → us.length = (resM t x ms).1.length →
    (∀ (j : Nat) (rc : RCell), (resM t x ms).1[j]? = some rc → RRel Z w B avs rc (us.getD j undef)) → RepI (fun _ => False) w t x us ∧ (resM t x ms).2 = ms
  | .int k, n, ms, us, _, hl, h => by
    match us, hl with
    | [u], _ =>
      have := (h 0 _ rfl).2
      exact ⟨congrArg (· :: []) this, rfl⟩
  | .bool, b, ms, us, _, hl, h => by
    match us, hl with
    | [u], _ =>
      have := (h 0 _ rfl).2
      exact ⟨congrArg (· :: []) this, rfl⟩
  | .str, s, ms, us, _, hl, h => by
    match us, hl with
    | [u], _ =>
      have := (h 0 _ rfl).2
      exact ⟨congrArg (· :: []) this, rfl⟩
  | .unit, _, ms, us, _, hl, h => by
    match us, hl with
    | [], _ => exact ⟨rfl, rfl⟩
  | .pair a b, x, ms, us, hlead, hl, h => by
    simp only [leads, Bool.or_eq_false_iff] at hlead
    simp only [resM, List.length_append] at hl h
    obtain ⟨k1, k2⟩ := resM_back a x.1 ms (us.take (resM a x.1 ms).1.length) hlead.1 (by simp; omega) fun j rc hj => by
      have hlt : j < (resM a x.1 ms).1.length := (List.getElem?_eq_some_iff.1 hj).1
      have := h j rc (by rw [List.getElem?_append_left hlt]; exact hj)
      have e : (us.take (resM a x.1 ms).1.length).getD j undef = us.getD j undef := by simp [List.getD, hlt]
      rw [e]; exact this
    obtain ⟨k3, k4⟩ := resM_back b x.2 (resM a x.1 ms).2 (us.drop (resM a x.1 ms).1.length) hlead.2 (by simp; omega) fun j rc hj => by
      have := h ((resM a x.1 ms).1.length + j) rc (by rw [List.getElem?_append_right (by omega)]; simpa using hj)
      have e : (us.drop (resM a x.1 ms).1.length).getD j undef = us.getD ((resM a x.1 ms).1.length + j) undef := by simp [List.getD, List.getElem?_drop]
      rw [e]; exact this
    exact ⟨⟨_, _, (List.take_append_drop _ us).symm, k1, k3⟩, k4.trans k2⟩
  | .sl t, l, ms, us, hlead, hl, h => by simp [leads] at hlead
theorem resL_back {Z : Nat → Prop} {B : Nat} {avs : List Value} (f : Nat → Nat → Value) : ∀ (R : List (Bool × Ty)) (r : denL R) (ms : List RMode) (vs : List Value) (n : Nat), (R.any fun p => leads p.2) = false → vs.length = (resL R r ms).length →
    (∀ i p, (resL R r ms)[i]? = some p → vs[i]? = some (mkVal p.1 ((List.range p.2.length).map (f (n + i)))) ∧ (p.1 = false → p.2.length = 1) ∧ ∀ j rc, p.2[j]? = some rc → RRel Z w B avs rc (f (n + i) j)) → RelResL w R r vs
  | [], r, ms, vs, n, _, hl, _ => by
    match vs, hl with
    | [], _ => rfl
  | q :: R, r, ms, vs, n, hlead, hl, h => by
    simp only [List.any_cons, Bool.or_eq_false_iff] at hlead
    match vs, hl with
    | v :: vs, hl =>
      obtain ⟨h1, h2, h3⟩ := h 0 _ rfl
      simp only [resL] at h1 h2 h3 hl
      obtain ⟨k1, k2⟩ := resM_back (w := w) (Z := Z) (B := B) (avs := avs) q.2 r.1 ms ((List.range (resM q.2 r.1 ms).1.length).map (f (n + 0))) hlead.1 (by simp) fun j rc hj => by
        have hlt : j < (resM q.2 r.1 ms).1.length := (List.getElem?_eq_some_iff.1 hj).1
        have e : ((List.range (resM q.2 r.1 ms).1.length).map (f (n + 0))).getD j undef = f (n + 0) j := by simp [List.getD, hlt]
        rw [e]; exact h3 j rc hj
      simp only [List.getElem?_cons_zero, Option.some.injEq] at h1
      refine ⟨_, vs, by rw [h1], fun hg => by simpa using h2 hg, hlead.1, k1, ?_⟩
      refine resL_back (Z := Z) (B := B) (avs := avs) f R r.2 (resM q.2 r.1 ms).2 vs (n + 1) hlead.2 (by simpa using hl) fun i p hp => ?_
      have := h (i + 1) p hp
      have e : n + 1 + i = n + (i + 1) := by omega
      rw [e]
      simpa using this
theorem cloOK_of {P : Program} {G : World → Prop} {f : FuncId} {C : Contract} (hC : Sound P G f C) {Z : Nat → Prop} {xs : denA (capTy C.As)} {caps : List Value} (hlt : ∀ g, Z g → g < w.heap.size)
    (hp : ptrsOnly (capTy C.As) = true) (hr : (C.R.any fun p => leads p.2) = false) (h : RelArgs P G Z w (capTy C.As) xs caps) :
    CloOK P G Z w (cloTy C.As) C.R (fun ys => C.F (joinA C.As ys xs)) (.func (.func f) #[] caps.toArray) := by
  refine ⟨f, caps.toArray, rfl, fun w2 Z2 ys vs r hkeep hsz hG h2 hvs hF => ?_⟩
  have hc := RelArgs.keep (Z' := fun g => Z g ∨ Z2 g) (fun g hg => .inl hg) hkeep (capTy C.As) xs caps hp h
  have hall := joinA_rel (Z := fun g => Z g ∨ Z2 g) (Z2 := Z2) (fun g hg => .inr hg) C.As ys xs vs caps hp hvs hc
  have := hC w2 (fun g => Z g ∨ Z2 g) (vs ++ caps) (joinA C.As ys xs) r hG (fun g hg => hg.elim (fun hg => Nat.lt_of_lt_of_le (hlt g hg) hsz) (h2 g)) hall hF
  have e : (vs ++ caps).toArray = vs.toArray ++ caps.toArray := by simp
  rw [e] at this
  refine this.mono ?_
  rintro v w' ⟨Z', us, rfl, hb, _, _, f', hl, hcell, _⟩
  refine ⟨us, rfl, hb, ?_⟩
  exact resL_back f' C.R r C.modes us 0 hr hl fun i p hp => by
    have := hcell i p hp
    rw [Nat.zero_add]
    exact this
theorem makeClo_nil {C : Contract} {c : Cell} {us : List Upd} {e : Slot → AV} {l0 l1 : List Slot} (he : (makeClo C []).eval e l0 = some ((c, us), l1)) : ptrsOnly (capTy C.As) = true ∧ (C.R.any fun p => leads p.2) = false ∧ ∃ xs : denA (capTy C.As), c = .clo (cloTy C.As) C.R (fun ys => C.F (joinA C.As ys xs)) ∧ capTy C.As = [] := by
  simp only [makeClo] at he
  cases hok : (ptrsOnly (capTy C.As) && !(C.R.any fun p => leads p.2)) with
  | false => rw [hok] at he; simp [Rd.eval] at he
  | true =>
    rw [hok] at he
    simp only [Bool.and_eq_true, Bool.not_eq_true'] at hok
    simp only [cond_true, Rd.eval_bind, Option.bind_eq_some_iff] at he
    obtain ⟨⟨⟨xs, ss⟩, l3⟩, h4, ⟨us1, l4⟩, h5, h6⟩ := he
    simp only [Rd.eval, Option.some.injEq, Prod.mk.injEq] at h6
    obtain ⟨⟨rfl, rfl⟩, _⟩ := h6
    refine ⟨hok.1, hok.2, xs, rfl, ?_⟩
    revert h4
    generalize hx : xs = xs'
    clear hx h5
    revert xs xs'
    generalize capTy C.As = As
    intro xs xs' h4
    cases As with
    | nil => rfl
    | cons x r => cases x <;> simp [implodeArgs, Rd.eval] at h4
theorem relArgs_nil {P : Program} {G : World → Prop} {Z : Nat → Prop} {w : World} : ∀ {As : List ATy} (xs : denA As), As = [] → RelArgs P G Z w As xs []
  | [], _, _ => rfl
  | _ :: _, _, h => by cases h
theorem cloArg_sound (hcon : ConOK A.P A.G X) (hlt : ∀ g, γ.Z g → g < w.heap.size) {p p' : Bool × List Cell} {v : Value} {l0 l1 : List Slot} (hr : RelComp A γ w Fr p.1 p.2 v) (he : (cloArg X p).eval env.get l0 = some (p', l1)) : RelComp A γ w Fr p'.1 p'.2 v := by
  unfold cloArg at he
  split at he
  · rename_i f
    split at he
    · rename_i C k1
      simp only [Rd.eval_bind, Option.bind_eq_some_iff] at he
      obtain ⟨⟨⟨c, us1⟩, l2⟩, h1, h2⟩ := he
      simp only [Rd.eval, Option.some.injEq, Prod.mk.injEq] at h2
      obtain ⟨rfl, _⟩ := h2
      obtain ⟨k2, k3, xs, rfl, k4⟩ := makeClo_nil h1
      obtain ⟨us, hv, hl, u, us', rfl, hg, h3⟩ := hr
      have h3 : us' = [] := h3
      subst h3
      have hu : u = .func (.func f) #[] #[] := hg.1
      subst hu
      have hclo := cloOK_of (w := w) (hcon f C (look_looks k1)) (Z := γ.Z) (xs := xs) (caps := []) hlt k2 k3 (relArgs_nil xs k4)
      exact ⟨_, hv, fun _ => rfl, _, [], rfl, ⟨hclo, rfl, by simp [refs], rfl⟩, rfl⟩
    · simp only [Rd.eval, Option.some.injEq, Prod.mk.injEq] at he
      obtain ⟨rfl, _⟩ := he
      exact hr
  · simp only [Rd.eval, Option.some.injEq, Prod.mk.injEq] at he
    obtain ⟨rfl, _⟩ := he
    exact hr
theorem cloArgs_sound (hcon : ConOK A.P A.G X) (hlt : ∀ g, γ.Z g → g < w.heap.size) : ∀ {as as' : List (Bool × List Cell)} {vs : List Value} {l0 l1 : List Slot}, RelComps A γ w Fr as vs → (cloArgs X as).eval env.get l0 = some (as', l1) → RelComps A γ w Fr as' vs
  | [], as', vs, l0, l1, hr, he => by
    simp only [cloArgs, Rd.eval, Option.some.injEq, Prod.mk.injEq] at he
    obtain ⟨rfl, _⟩ := he
    exact hr
  | p :: r, as', vs, l0, l1, ⟨v, vs', h1, h2, h3⟩, he => by
    simp only [cloArgs, Rd.eval_bind, Option.bind_eq_some_iff] at he
    obtain ⟨⟨p', l2⟩, k1, ⟨r', l3⟩, k2, k3⟩ := he
    simp only [Rd.eval, Option.some.injEq, Prod.mk.injEq] at k3
    obtain ⟨rfl, _⟩ := k3
    exact ⟨v, vs', h1, cloArg_sound hcon hlt h2 k1, cloArgs_sound hcon hlt h3 k2⟩
end
end Go.VI
namespace Go.VI
open Go.RowKit
section
variable {A : Fix} {X : Ctx} {γ : Gh} {Fr : Nat → Prop} {env : Env} {a : Act} {w w' : World} {vn : Nat} {o : Oper} {us : List Upd} {lg : List Slot}
theorem OpOK.call {Fr' : Nat → Prop} {f : FuncId} {args : Array Value} (hrun : (execOp a.eval o).run A.P w = (callFunc f args).run A.P w)
    (h : FCalls A.P f args w fun v w' => Holds A X Fr' (appAll env us) (a.put o.dst v) w') : OpOK A X Fr' o us env a w := by
  intro next Q hn
  unfold Oper.wp
  rw [hrun]
  rcases h with ⟨v, w', h1, h2⟩ | ⟨h1, h2⟩
  · rw [h1]; exact hn _ _ h2
  · rw [h1, Oper.upon_enter]
    refine h2.mono ?_
    rintro e w' ⟨v, rfl, hh⟩
    exact hn _ _ hh
theorem rdArgs_sound (h : Core A X γ Fr env a w) : ∀ (xs : List Operand) (ts : List TypeId) {as : List (Bool × List Cell)} {l0 l1 : List Slot}, (rdArgs X xs ts).eval env.get l0 = some (as, l1) → RelComps A γ w Fr as (xs.map a.eval)
  | [], ts, as, l0, l1, he => by
    simp only [rdArgs, Rd.eval, Option.some.injEq, Prod.mk.injEq] at he
    obtain ⟨rfl, _⟩ := he
    rfl
  | x :: r, ts, as, l0, l1, he => by
    simp only [rdArgs, Rd.eval_bind, Option.bind_eq_some_iff] at he
    obtain ⟨⟨av, l2⟩, h1, h2⟩ := he
    have hr := rdOp_sound h h1
    cases av with
    | val g cs =>
      simp only [Rd.eval_bind, Option.bind_eq_some_iff] at h2
      obtain ⟨⟨q, l3⟩, h3, h4⟩ := h2
      simp only [Rd.eval, Option.some.injEq, Prod.mk.injEq] at h4
      obtain ⟨rfl, _⟩ := h4
      exact ⟨_, _, rfl, hr, rdArgs_sound h r _ h3⟩
    | skip => simp [Rd.eval] at h2
    | undef => simp [Rd.eval] at h2
    | tup l => simp [Rd.eval] at h2
    | box _ _ _ => simp [Rd.eval] at h2
    | num _ => simp [Rd.eval] at h2
theorem op_callf (h : Core A X γ Fr env a w) (hst : Stable A.n0 A.G) (hG0 : BaseOK A) (hcon : ConOK A.P A.G X) (hmcon : MConOK A.P A.n0 A.G X) (hv : Fr vn) (hd : dstOk X o) {c : Call} {f : FuncId} (ho : o.op = .call c) (hc : c.callee = .value (.func f))
    (he : (opRd X vn o).eval env.get [] = some (us, lg)) : OpOK A X (FrD Fr vn) o us env a w := by
  have hargs : (c.args.toList.map a.eval).toArray = c.args.map a.eval := by apply Array.ext'; simp
  have hrun : (execOp a.eval o).run A.P w = (callFunc f (c.args.map a.eval)).run A.P w := by simp [execOp, ho, resolve, hc, Act.eval, Deferred.ofValue, invoke]
  simp only [opRd, ho, hc] at he
  split at he
  · rename_i C0 r0 k1
    simp only [Rd.eval_bind, Option.bind_eq_some_iff] at he
    obtain ⟨⟨as0, l1⟩, h1, ⟨as, l0⟩, h0, ⟨⟨cs, us1⟩, l2⟩, h2, h3⟩ := he
    obtain ⟨C, hC, m0, m1, h2⟩ := callAlts_eval r0 C0 h2
    rw [← k1] at hC
    simp only [Rd.eval, Option.some.injEq, Prod.mk.injEq] at h3
    obtain ⟨rfl, _⟩ := h3
    have hr := cloArgs_sound hcon h.zone (rdArgs_sound h _ _ h1) h0
    have hs := callBy_sound h hst (hcon f C hC) hr h2
    rw [hargs] at hs
    refine OpOK.call (f := f) (args := c.args.map a.eval) hrun (hs.mono ?_)
    rintro v w' ⟨γ2, uss, fv, rfl, c1, c2, c3, c4⟩
    rw [appAll_append]
    exact c1.putRes hv hd c2 c3 c4
  · simp only [Rd.eval_bind, Option.bind_eq_some_iff, Rd.eval_ofOpt, Option.map_eq_some_iff] at he
    obtain ⟨_, ⟨C, k1, rfl⟩, ⟨as, l1⟩, h1, ⟨⟨cs, us1⟩, l2⟩, h2, h3⟩ := he
    simp only [Rd.eval, Option.some.injEq, Prod.mk.injEq] at h3
    obtain ⟨rfl, _⟩ := h3
    have hr := rdArgs_sound h _ _ h1
    have hs := callByM_sound h hst hG0 (hmcon f C k1) hr h2
    rw [hargs] at hs
    refine OpOK.call (f := f) (args := c.args.map a.eval) hrun (hs.mono ?_)
    rintro v w' ⟨γ2, uss, fv, rfl, c1, c2, c3, c4⟩
    rw [appAll_append]
    exact c1.putRes hv hd c2 c3 c4
theorem implodeL_sound (h : Core A X γ Fr env a w) (Z : Nat → Prop) : ∀ (As : List (Bool × Ty)) (cs : List (Bool × List Cell)) {vs : List Value} {xs : denL As} {l0 l1 : List Slot},
    RelComps A { γ with Z := Z } w Fr cs vs → (implodeL As cs).eval env.get l0 = some (xs, l1) → RelArgsL Z w As xs vs
  | [], cs, vs, xs, l0, l1, hr, he => by
    cases cs with
    | nil => exact hr
    | cons p r => simp [implodeL, Rd.eval] at he
  | q :: as, cs, vs, xs, l0, l1, hr, he => by
    cases cs with
    | nil => simp [implodeL, Rd.eval] at he
    | cons p r =>
      obtain ⟨g', c⟩ := p
      obtain ⟨v, vs', h1, ⟨us, hv, hl, h2⟩, h3⟩ := hr
      simp only [implodeL] at he
      cases hg : (q.1 == g') with
      | false => rw [hg] at he; simp [Rd.eval] at he
      | true =>
        rw [hg] at he
        have hg : q.1 = g' := by simpa using hg
        subst hg
        simp only [cond_true] at he
        split at he
        · rename_i x hx
          simp only [Rd.eval_bind, Option.bind_eq_some_iff] at he
          obtain ⟨⟨q1, l2⟩, k1, k2⟩ := he
          simp only [Rd.eval, Option.some.injEq, Prod.mk.injEq] at k2
          obtain ⟨rfl, _⟩ := k2
          exact ⟨us, vs', by rw [h1, hv], fun hgf => by rw [h2.length]; exact hl hgf, implode_all hx h2, implodeL_sound h Z as r h3 k1⟩
        · simp [Rd.eval] at he
theorem resM_leadless : ∀ (t : Ty) (x : t.den) (ms : List RMode) (us : List Value), leads t = false → RepI (fun _ => False) w t x us →
    us.length = (resM t x ms).1.length ∧ (∀ (j : Nat) (rc : RCell) (u : Value), (resM t x ms).1[j]? = some rc → us[j]? = some u → ∃ c, rc = .flat c ∧ zcell c = true ∧ u = cellV c) ∧ (resM t x ms).2 = ms
  | .int k, n, ms, us, _, h => by
    rw [show us = [.int k n] from h]
    exact ⟨rfl, fun j rc u h1 h2 => by cases j <;> simp [resM] at h1 h2; subst h1; subst h2; exact ⟨_, rfl, rfl, rfl⟩, rfl⟩
  | .bool, b, ms, us, _, h => by
    rw [show us = [.bool b] from h]
    exact ⟨rfl, fun j rc u h1 h2 => by cases j <;> simp [resM] at h1 h2; subst h1; subst h2; exact ⟨_, rfl, rfl, rfl⟩, rfl⟩
  | .str, s, ms, us, _, h => by
    rw [show us = [.string ⟨s.toArray⟩] from h]
    exact ⟨rfl, fun j rc u h1 h2 => by cases j <;> simp [resM] at h1 h2; subst h1; subst h2; exact ⟨_, rfl, rfl, rfl⟩, rfl⟩
  | .unit, _, ms, us, _, h => by
    rw [show us = [] from h]
    exact ⟨rfl, fun j rc u h1 h2 => by simp at h2, rfl⟩
  | .pair a b, x, ms, us, hl, ⟨c1, c2, h0, h1, h2⟩ => by
    simp only [leads, Bool.or_eq_false_iff] at hl
    obtain ⟨k1, k2, k3⟩ := resM_leadless a x.1 ms c1 hl.1 h1
    obtain ⟨k4, k5, k6⟩ := resM_leadless b x.2 ms c2 hl.2 h2
    simp only [resM, k3]
    refine ⟨by rw [h0]; simp [k1, k4], fun j rc u hj hu => ?_, k6⟩
    rw [h0] at hu
    by_cases hlt : j < c1.length
    · rw [List.getElem?_append_left (by omega)] at hj
      rw [List.getElem?_append_left hlt] at hu
      exact k2 j rc u hj hu
    · rw [List.getElem?_append_right (by omega)] at hj
      rw [List.getElem?_append_right (by omega), k1] at hu
      exact k5 _ rc u hj hu
  | .sl t, l, ms, us, hl, h => by simp [leads] at hl
theorem resL_leadless (avs : List Value) (Z : Nat → Prop) (B : Nat) : ∀ (R : List (Bool × Ty)) (r : denL R) (vs : List Value), RelResL w R r vs → ∃ f : Nat → Nat → Value, vs.length = (resL R r []).length ∧
    ∀ i p, (resL R r [])[i]? = some p → vs[i]? = some (mkVal p.1 ((List.range p.2.length).map (f i))) ∧ (p.1 = false → p.2.length = 1) ∧ ∀ j rc, p.2[j]? = some rc → RRel Z w B avs rc (f i j) ∧ ∃ c, rc = .flat c
  | [], r, vs, h => ⟨fun _ _ => undef, by rw [show vs = [] from h]; rfl, fun i p hp => by simp [resL] at hp⟩
  | q :: R, r, vs, ⟨us, vs', h1, h2, h3, h4, h5⟩ => by
    obtain ⟨k1, k2, k3⟩ := resM_leadless q.2 r.1 [] us h3 h4
    obtain ⟨f, g1, g2⟩ := resL_leadless avs Z B R r.2 vs' h5
    refine ⟨fun i j => match i with | 0 => us.getD j undef | i + 1 => f i j, ?_, fun i p hp => ?_⟩
    · rw [h1]; simp [resL, k3, g1]
    · cases i with
      | zero =>
        simp only [resL, List.getElem?_cons_zero, Option.some.injEq] at hp
        subst hp
        refine ⟨by rw [h1, range_map_getD us _ k1]; rfl, fun hg => by rw [← k1]; exact h2 hg, fun j rc hrc => ?_⟩
        have hlt : j < us.length := by rw [k1]; exact (List.getElem?_eq_some_iff.1 hrc).1
        obtain ⟨c, rfl, hz, hu⟩ := k2 j rc _ hrc (List.getElem?_eq_getElem hlt)
        refine ⟨⟨hz, ?_⟩, c, rfl⟩
        simp only
        rw [← hu, getD_of (List.getElem?_eq_getElem hlt)]
      | succ i =>
        simp only [resL, k3, List.getElem?_cons_succ] at hp
        obtain ⟨m1, m2, m3⟩ := g2 i p hp
        exact ⟨by rw [h1]; simpa using m1, m2, m3⟩
theorem op_callv (h : Core A X γ Fr env a w) (hst : Stable A.n0 A.G) (hcon : ConOK A.P A.G X) (hv : Fr vn) (hd : dstOk X o) {c : Call} {x : Operand} (ho : o.op = .call c) (hc : c.callee = .value x) (hx : ∀ f, x ≠ .func f)
    (he : (opRd X vn o).eval env.get [] = some (us, lg)) : OpOK A X (FrD Fr vn) o us env a w := by
  have he' : ((rdCell X x 0).bind fun
          | .clo as rs F => (rdArgs X c.args.toList c.argTypes.toList).bind fun vs =>
            (solidArgs vs).bind fun p => (implodeL as p.1).bind fun xs =>
            .opt _ (F xs) fun r => .pure (dstSet o (asAV (toCells [] vn (resL rs r []))))
          | .func f => (Rd.ofOpt (look X.con f)).bind fun C => (rdArgs X c.args.toList c.argTypes.toList).bind fun as =>
            (callBy C vn as).bind fun q => .pure (q.2 ++ dstSet o (asAV q.1))
          | _ => .fail).eval env.get [] = some (us, lg) := by
    simp only [opRd, ho, hc] at he
    cases x with
    | func f => exact absurd rfl (hx f)
    | tmp t => exact he
    | const k => exact he
    | global g => exact he
  simp only [Rd.eval_bind, Option.bind_eq_some_iff] at he'
  obtain ⟨⟨cc, l1⟩, h1, h2⟩ := he'
  have hg := rdCell_sound h h1
  cases cc with
  | clo as rs F =>
    simp only [Rd.eval_bind, Option.bind_eq_some_iff] at h2
    obtain ⟨⟨vs, l2⟩, h3, ⟨⟨ps, ss⟩, l3⟩, h4, ⟨xs, l4⟩, h5, h6⟩ := h2
    simp only [Rd.eval, Option.bind_eq_some_iff, Option.some.injEq, Prod.mk.injEq] at h6
    obtain ⟨r, hF, rfl, _⟩ := h6
    simp only at h5 hF
    have hr := rdArgs_sound h _ _ h3
    have hps := solidArgs_sound h (zoneOf γ ss) vs hr h4 fun _ hg => hg
    have hargs := implodeL_sound h (zoneOf γ ss) as ps hps h5
    have hlt : ∀ g, zoneOf γ ss g → g < w.heap.size := by
      rintro g (hg | ⟨s, hs, hg⟩)
      · exact h.zone g hg
      · exact solidArgs_lt h vs h4 s hs g hg
    obtain ⟨f, caps, hfv, hcl⟩ := hg.1
    have hcalls := hcl w (zoneOf γ ss) xs _ r (fun _ _ => rfl) (Nat.le_refl _) h.glob hlt hargs hF
    refine OpOK.call (f := f) (args := (c.args.toList.map a.eval).toArray ++ caps) ?_ (hcalls.mono ?_)
    · have hargs' : (c.args.toList.map a.eval).toArray = c.args.map a.eval := by apply Array.ext'; simp
      rw [hargs']
      simp [execOp, ho, resolve, hc, hfv, Deferred.ofValue, invoke]
    · rintro e w' ⟨us1, rfl, hbel, hres⟩
      have hG : A.G w' := hst.below h.glob hbel
      have cw := h.world (row := none) ⟨hbel.os, hbel.tape, hbel.output, hbel.size, fun k hk _ => hbel.block k hk, hbel.drawn⟩ (fun g hg => by cases hg) hG
      obtain ⟨fv, g1, g2⟩ := resL_leadless (w := w') [] γ.Z w.heap.size rs r us1 hres
      refine cw.putRes hv hd (f := fv) (by rw [g1]; simp [toCells]) (fun i p hp => ?_) (resRel_inst (B := w.heap.size) (Z' := γ.Z) (avs := []) (Nat.le_trans h.baseB h.frame.size) (fun i p hp => ⟨(g2 i p hp).2.1, fun j rc hrc => ((g2 i p hp).2.2 j rc hrc).1⟩) ?_ rfl (.inl fun _ hg => hg) ?_)
      · obtain ⟨q, hq, rfl⟩ := toCells_get hp
        rw [(g2 i q hq).1, List.length_map]
      · intro i j i' j' p p' rc rc' g hp hrc ho'
        obtain ⟨_, cc, rfl⟩ := (g2 i p hp).2.2 j rc hrc
        simp [RCell.isOwn] at ho'
      · intro g hB _ _
        exact h.free_new hB
  | func f =>
    simp only [Rd.eval_bind, Option.bind_eq_some_iff, Rd.eval_ofOpt, Option.map_eq_some_iff] at h2
    obtain ⟨_, ⟨C, k1, rfl⟩, ⟨as, l1⟩, h3, ⟨⟨cs, us1⟩, l2⟩, h4, h5⟩ := h2
    simp only [Rd.eval, Option.some.injEq, Prod.mk.injEq] at h5
    obtain ⟨rfl, _⟩ := h5
    have hfv : a.eval x = .func (.func f) #[] #[] := hg.1
    have hargs : (c.args.toList.map a.eval).toArray = c.args.map a.eval := by apply Array.ext'; simp
    have hrun : (execOp a.eval o).run A.P w = (callFunc f (c.args.map a.eval)).run A.P w := by simp [execOp, ho, resolve, hc, hfv, Deferred.ofValue, invoke]
    have hr := rdArgs_sound h _ _ h3
    have hs := callBy_sound h hst (hcon f C (look_looks k1)) hr h4
    rw [hargs] at hs
    refine OpOK.call (f := f) (args := c.args.map a.eval) hrun (hs.mono ?_)
    rintro v w' ⟨γ2, uss, fv, rfl, c1, c2, c3, c4⟩
    rw [appAll_append]
    exact c1.putRes hv hd c2 c3 c4
  | _ => simp [Rd.eval] at h2
end
end Go.VI
namespace Go.VI
open Go.RowKit
section
variable {A : Fix} {X : Ctx} {γ : Gh} {Fr : Nat → Prop} {env : Env} {a : Act} {w w' : World} {vn : Nat} {o : Oper} {us : List Upd} {lg : List Slot}
theorem RelComps.zext {γ' : Gh} (hz : ZExt γ γ') : ∀ {cs : List (Bool × List Cell)} {vs : List Value}, RelComps A γ w Fr cs vs → RelComps A γ' w Fr cs vs
  | [], _, h => h
  | _ :: _, _, ⟨v, vs', h1, ⟨us, k1, k2, k3⟩, h3⟩ => ⟨v, vs', h1, ⟨us, k1, k2, RelCs.zext hz k3⟩, RelComps.zext hz h3⟩
theorem Core.freezeBox (h : Core A X γ Fr env a w) {b bv : Nat} {fz : Bool} {cs : List Cell} (hb : env.get (.box b) = .box bv fz cs) (hlb : b < lentBase) :
    Core A X { γ with Z := fun g => γ.Z g ∨ g = γ.σ b bv } Fr ((.box b, .box bv true cs) :: env) a w := by
  have hget : ∀ b1 v1 f1 c1, Env.get ((.box b, .box bv true cs) :: env) (.box b1) = .box v1 f1 c1 → ∃ f0, env.get (.box b1) = .box v1 f0 c1 ∧ (b1 = b → f1 = true) ∧ (b1 ≠ b → f0 = f1) := by
    intro b1 v1 f1 c1 h1
    by_cases e : b1 = b
    · subst e
      rw [Env.get_cons_self] at h1
      injection h1 with h1 h2 h3
      subst h1; subst h2; subst h3
      exact ⟨fz, hb, fun _ => rfl, fun hh => absurd rfl hh⟩
    · rw [Env.get_cons_ne _ _ (by intro hh; injection hh with hh; exact e hh.symm)] at h1
      exact ⟨f1, h1, fun hh => absurd hh e, fun _ => rfl⟩
  have hcell : ∀ x, envCell ((.box b, .box bv true cs) :: env) x = envCell env x := by
    intro x
    unfold envCell
    by_cases e : x.s = .box b
    · rw [e, Env.get_cons_self, hb]
      obtain ⟨s, c, j⟩ := x
      cases c <;> rfl
    · rw [Env.get_cons_ne _ _ (fun hh => e hh.symm)]
  obtain ⟨⟨T, b1⟩, b2, b3, b4⟩ := h.box b bv fz cs hb
  have hlt : γ.σ b bv < w.heap.size := (Array.getElem?_eq_some_iff.1 b1).1
  refine { frame := h.frame, glob := h.glob, zone := fun g hg => hg.elim (h.zone g) fun e => e ▸ hlt, zone0 := ⟨fun g hg => .inl (h.zone0.1 g hg), fun g hg => hg.elim (h.zone0.2 g) fun e => .inr (e ▸ b2.1 hlb)⟩, defers := h.defers, size := h.size, ntl := h.ntl, baseB := h.baseB, tmp := ?_, box := ?_, cell := ?_, own := ?_, inj := ?_, fresh := ?_, lent := h.lent, lentloc := ?_ }
  · intro t
    rw [Env.get_cons_ne _ _ (by simp)]
    exact h.tmp t
  · intro b1 v1 f1 c1 h1
    obtain ⟨f0, k1, k2, k3⟩ := hget b1 v1 f1 c1 h1
    obtain ⟨a1, a2, a3, a4⟩ := h.box b1 v1 f0 c1 k1
    refine ⟨a1, a2, ⟨fun hf => ?_, fun hz => ?_⟩, a4⟩
    · by_cases e : b1 = b
      · subst e
        rw [hb] at k1
        injection k1 with k1 _ _
        exact .inr (by rw [k1])
      · have hf0 : f0 = true := by rw [k3 e]; exact hf
        exact .inl (a3.1 hf0)
    · by_cases e : b1 = b
      · exact k2 e
      · rcases hz with hz | hz
        · rw [← k3 e]; exact a3.2 hz
        · exact absurd (h.inj b1 b v1 bv f0 fz c1 cs k1 hb hz) e
  · intro x c hc
    rw [hcell] at hc
    obtain ⟨a1, a2, a3⟩ := h.cell x c hc
    exact ⟨a1.move (fun _ _ _ => rfl) (fun _ _ _ => rfl) (fun _ hz => .inl hz) (fun _ _ => rfl) (Nat.le_refl _) (fun _ _ _ => rfl), a2, a3⟩
  · intro x e t ver l hc
    rw [hcell] at hc
    obtain ⟨k1, k2, k3⟩ := h.own x e t ver l hc
    refine ⟨k1, k2, fun g hg => ?_⟩
    obtain ⟨a1, a2, a3⟩ := k3 g hg
    refine ⟨?_, ?_, ?_⟩
    · rintro (hz | hz)
      · exact a1 hz
      · exact a2 b bv fz cs hb hz.symm
    · intro b1 v1 f1 c1 h1
      obtain ⟨f0, q1, _⟩ := hget b1 v1 f1 c1 h1
      exact a2 b1 v1 f0 c1 q1
    · intro y e' t' ver' l' hy
      rw [hcell] at hy
      exact a3 y e' t' ver' l' hy
  · intro x1 x2 v1 v2 f1 f2 c1 c2 h1 h2 hs
    obtain ⟨g1, q1, _⟩ := hget x1 v1 f1 c1 h1
    obtain ⟨g2, q2, _⟩ := hget x2 v2 f2 c2 h2
    exact h.inj x1 x2 v1 v2 g1 g2 c1 c2 q1 q2 hs
  · intro x e t ver l hc
    rw [hcell] at hc
    exact h.fresh x e t ver l hc
  · intro k c j cl hc
    rw [hcell] at hc
    exact h.lentloc k c j cl hc
theorem sealBoxes_sound {env0 : Env} : ∀ (ss : List Src) (xs : List Nat) (γ : Gh) (env1 : Env) (us : List Upd) (lg lg' : List Slot),
    Core A X γ Fr env1 a w → (∀ b, memNat b xs = false → env1.get (.box b) = env0.get (.box b)) →
    (∀ b, memNat b xs = true → ∃ bv fz cs, env0.get (.box b) = .box bv fz cs ∧ γ.Z (γ.σ b bv)) →
    (∀ b bv, Src.arr b bv ∈ ss → ∃ fz cs, env0.get (.box b) = .box bv fz cs) →
    (sealBoxes xs ss).eval env0.get lg = some (us, lg') → ∃ γ', Core A X γ' Fr (appAll env1 us) a w ∧ ZExt γ γ' ∧ ∀ g, zoneOf γ ss g → γ'.Z g
  | [], xs, γ, env1, us, lg, lg', hc, hag, hx, hb, he => by
    simp only [sealBoxes, Rd.eval, Option.some.injEq, Prod.mk.injEq] at he
    obtain ⟨rfl, _⟩ := he
    refine ⟨γ, hc, ZExt.refl γ, fun g hg => ?_⟩
    rcases hg with hg | ⟨s, hs, _⟩
    · exact hg
    · cases hs
  | .row x :: r, xs, γ, env1, us, lg, lg', hc, hag, hx, hb, he => by simp [sealBoxes, Rd.eval] at he
  | .arr b bv :: r, xs, γ, env1, us, lg, lg', hc, hag, hx, hb, he => by
    simp only [sealBoxes] at he
    cases hm : memNat b xs with
    | true =>
      rw [hm] at he
      obtain ⟨γ', k1, k2, k3⟩ := sealBoxes_sound r xs γ env1 us lg lg' hc hag hx (fun b' bv' hs => hb b' bv' (List.mem_cons_of_mem _ hs)) he
      refine ⟨γ', k1, k2, fun g hg => ?_⟩
      rcases hg with hg | ⟨s, hs, hsb⟩
      · exact k2.2.2.2 g hg
      · rcases List.mem_cons.1 hs with rfl | hs
        · obtain ⟨bv1, fz1, cs1, q1, q2⟩ := hx b hm
          obtain ⟨fz2, cs2, q3⟩ := hb b bv (List.mem_cons_self ..)
          rw [q1] at q3
          injection q3 with q3 _ _
          have hsb : γ.σ b bv = g := hsb
          rw [← hsb, ← q3]
          exact k2.2.2.2 _ q2
        · exact k3 g (.inr ⟨s, hs, hsb⟩)
    | false =>
      rw [hm] at he
      simp only [cond_false, Rd.eval_bind, Option.bind_eq_some_iff] at he
      obtain ⟨⟨⟨fz, cs⟩, l1⟩, h1, h2⟩ := he
      simp only at h2
      cases hfz : fz with
      | true =>
        rw [hfz] at h2
        simp only [cond_true] at h2
        have hb0 := boxAt_eval h1
        have hb1 : env1.get (.box b) = .box bv fz cs := by rw [hag b hm]; exact hb0
        have hzb : γ.Z (γ.σ b bv) := (hc.box b bv fz cs hb1).2.2.1.1 hfz
        obtain ⟨γ', k1, k2, k3⟩ := sealBoxes_sound r (b :: xs) γ env1 us l1 lg' hc (fun b' hb' => by
            simp only [memNat, Bool.or_eq_false_iff] at hb'
            exact hag b' hb'.2) (fun b' hb' => by
            simp only [memNat, Bool.or_eq_true] at hb'
            rcases hb' with hb' | hb'
            · have e : b' = b := (Nat.eq_of_beq_eq_true hb').symm
              subst e
              exact ⟨bv, fz, cs, hb0, hzb⟩
            · exact hx b' hb') (fun b' bv' hs => hb b' bv' (List.mem_cons_of_mem _ hs)) h2
        refine ⟨γ', k1, k2, fun g hg => ?_⟩
        rcases hg with hg | ⟨s, hs, hsb⟩
        · exact k2.2.2.2 g hg
        · rcases List.mem_cons.1 hs with rfl | hs
          · have hsb : γ.σ b bv = g := hsb
            rw [← hsb]
            exact k2.2.2.2 _ hzb
          · exact k3 g (.inr ⟨s, hs, hsb⟩)
      | false =>
      rw [hfz] at h2
      simp only [cond_false] at h2
      cases hok : (Nat.blt b lentBase && cs.all plainCell) with
      | false => rw [hok] at h2; simp [Rd.eval] at h2
      | true =>
        rw [hok] at h2
        simp only [cond_true, Rd.eval_bind, Option.bind_eq_some_iff] at h2
        obtain ⟨⟨us1, l2⟩, h3, h4⟩ := h2
        simp only [Rd.eval, Option.some.injEq, Prod.mk.injEq] at h4
        obtain ⟨rfl, _⟩ := h4
        have hlt : b < lentBase := by
          simp only [Bool.and_eq_true] at hok
          exact Nat.le_of_ble_eq_true hok.1
        have hb0 := boxAt_eval h1
        have hb1 : env1.get (.box b) = .box bv fz cs := by rw [hag b hm]; exact hb0
        have hk := hc.freezeBox hb1 hlt
        have hz : ZExt γ { γ with Z := fun g => γ.Z g ∨ g = γ.σ b bv } := ⟨rfl, rfl, rfl, fun g hg => .inl hg⟩
        obtain ⟨γ', k1, k2, k3⟩ := sealBoxes_sound r (b :: xs) _ _ us1 _ l2 hk (fun b' hb' => by
            simp only [memNat, Bool.or_eq_false_iff] at hb'
            have hne : b' ≠ b := fun e => by rw [e, Nat.beq_refl] at hb'; exact absurd hb'.1 (by simp)
            rw [Env.get_cons_ne _ _ (by intro hh; injection hh with hh; exact hne hh.symm)]
            exact hag b' hb'.2) (fun b' hb' => by
            simp only [memNat, Bool.or_eq_true] at hb'
            rcases hb' with hb' | hb'
            · have e : b' = b := (Nat.eq_of_beq_eq_true hb').symm
              subst e
              exact ⟨bv, fz, cs, hb0, .inr rfl⟩
            · obtain ⟨bv1, fz1, cs1, q1, q2⟩ := hx b' hb'
              exact ⟨bv1, fz1, cs1, q1, .inl q2⟩) (fun b' bv' hs => hb b' bv' (List.mem_cons_of_mem _ hs)) h3
        refine ⟨γ', k1, hz.trans k2, fun g hg => ?_⟩
        rcases hg with hg | ⟨s, hs, hsb⟩
        · exact k2.2.2.2 g (.inl hg)
        · rcases List.mem_cons.1 hs with rfl | hs
          · have hsb : γ.σ b bv = g := hsb
            exact k2.2.2.2 g (.inr hsb.symm)
          · exact k3 g (.inr ⟨s, hs, hsb⟩)
theorem sealTmp_sound (h : Holds A X Fr env a w) (c : Operand) : Holds A X Fr (sealTmp env c) a w := by
  unfold sealTmp
  split
  · split
    · split
      · rename_i b bv _ _ v cs hb
        cases hok : (Nat.beq v bv && (Nat.blt b lentBase && cs.all plainCell)) with
        | false => exact h
        | true =>
          simp only [Bool.and_eq_true] at hok
          obtain ⟨γ, hc⟩ := h
          exact ⟨_, hc.freezeBox hb (Nat.le_of_ble_eq_true hok.2.1)⟩
      · exact h
    · exact h
  · exact h
theorem sealAll_sound : ∀ (cs : List Operand) {env : Env}, Holds A X Fr env a w → Holds A X Fr (sealAll cs env) a w
  | [], _, h => h
  | c :: r, _, h => sealAll_sound r (sealTmp_sound h c)
theorem preSeal_sound : ∀ (ops : List Oper) {env : Env}, Holds A X Fr env a w → Holds A X Fr (preSeal ops env) a w
  | [], _, h => h
  | o :: r, env, h => by
    unfold preSeal
    split
    · exact preSeal_sound r (sealAll_sound _ h)
    · exact preSeal_sound r h
theorem getPtr_src {c : Cell} {cs : List Cell} {ss : List Src} {l0 l1 : List Slot} (he : (getPtr c).eval env.get l0 = some ((cs, ss), l1)) : ∀ b bv, Src.arr b bv ∈ ss → ∃ fz cs0, env.get (.box b) = .box bv fz cs0 := by
  unfold getPtr at he
  split at he
  · rename_i b0 bv0
    simp only [Rd.eval_bind, Option.bind_eq_some_iff] at he
    obtain ⟨⟨⟨fz, cs0⟩, l4⟩, m1, m2⟩ := he
    simp only [Rd.eval, Option.some.injEq, Prod.mk.injEq] at m2
    obtain ⟨⟨_, rfl⟩, _⟩ := m2
    intro b bv hs
    have := List.mem_singleton.1 hs
    injection this with h1 h2
    subst h1; subst h2
    exact ⟨fz, cs0, boxAt_eval m1⟩
  · simp only [Rd.eval, Option.some.injEq, Prod.mk.injEq] at he
    obtain ⟨⟨_, rfl⟩, _⟩ := he
    intro b bv hs; cases hs
  · simp [Rd.eval] at he
theorem implodeArgs_src : ∀ (As : List ATy) (cs : List (Bool × List Cell)) {xs : denA As} {ss : List Src} {l0 l1 : List Slot}, ptrsOnly As = true → (implodeArgs As cs).eval env.get l0 = some ((xs, ss), l1) →
    ∀ b bv, Src.arr b bv ∈ ss → ∃ fz cs0, env.get (.box b) = .box bv fz cs0
  | [], cs, xs, ss, l0, l1, _, he => by
    cases cs with
    | nil =>
      simp only [implodeArgs, Rd.eval, Option.some.injEq, Prod.mk.injEq] at he
      obtain ⟨⟨_, rfl⟩, _⟩ := he
      intro b bv hs; cases hs
    | cons p r => simp [implodeArgs, Rd.eval] at he
  | .ptr t :: as, cs, xs, ss, l0, l1, hp, he => by
    obtain ⟨c, r, rfl⟩ := implodeArgs_ptr he
    simp only [implodeArgs, Rd.eval_bind, Option.bind_eq_some_iff] at he
    obtain ⟨⟨⟨p1, p2⟩, l2⟩, k1, k2⟩ := he
    simp only at k2
    split at k2
    · simp only [Rd.eval_bind, Option.bind_eq_some_iff] at k2
      obtain ⟨⟨⟨q1, q2⟩, l3⟩, k3, k4⟩ := k2
      simp only [Rd.eval, Option.some.injEq, Prod.mk.injEq] at k4
      obtain ⟨⟨_, rfl⟩, _⟩ := k4
      intro b bv hs
      rcases List.mem_append.1 hs with hs | hs
      · exact getPtr_src k1 b bv hs
      · exact implodeArgs_src as r hp k3 b bv hs
    · simp [Rd.eval] at k2
  | .data _ _ :: _, _, _, _, _, _, hp, _ => by simp [ptrsOnly] at hp
  | .clo _ _ :: _, _, _, _, _, _, hp, _ => by simp [ptrsOnly] at hp
  | .lrow _ _ _ :: _, _, _, _, _, _, hp, _ => by simp [ptrsOnly] at hp
  | .lptr _ :: _, _, _, _, _, _, hp, _ => by simp [ptrsOnly] at hp
theorem op_makeFunc (h : Core A X γ Fr env a w) (hcon : ConOK A.P A.G X) (hd : dstOk X o) {fn : Fn} {first caps : Array Operand} (ho : o.op = .makeFunc fn first caps)
    (he : (opRd X vn o).eval env.get [] = some (us, lg)) : OpOK A X Fr o us env a w := by
  simp only [opRd, ho] at he
  split at he
  · rename_i f hfirst
    simp only [Rd.eval_bind, Option.bind_eq_some_iff, Rd.eval_ofOpt, Option.map_eq_some_iff] at he
    obtain ⟨_, ⟨C, k1, rfl⟩, ⟨vs, l1⟩, h1, ⟨⟨c, us0⟩, l2⟩, h2, h3⟩ := he
    simp only [Rd.eval, Option.some.injEq, Prod.mk.injEq] at h3
    obtain ⟨rfl, _⟩ := h3
    have hr := rdArgs_sound h _ _ h1
    simp only [makeClo] at h2
    cases hok : (ptrsOnly (capTy C.As) && !(C.R.any fun p => leads p.2)) with
    | false => rw [hok] at h2; simp [Rd.eval] at h2
    | true =>
      rw [hok] at h2
      simp only [Bool.and_eq_true, Bool.not_eq_true'] at hok
      simp only [cond_true, Rd.eval_bind, Option.bind_eq_some_iff] at h2
      obtain ⟨⟨⟨xs, ss⟩, l3⟩, h4, ⟨us1, l4⟩, h5, h6⟩ := h2
      simp only [Rd.eval, Option.some.injEq, Prod.mk.injEq] at h6
      obtain ⟨⟨rfl, rfl⟩, _⟩ := h6
      simp only at h5
      have hz0 : ZExt γ { γ with Z := zoneOf γ ss } := ⟨rfl, rfl, rfl, fun g hg => .inl hg⟩
      have hargs := implodeArgs_sound h (zoneOf γ ss) (fun g hg => .inl hg) (capTy C.As) vs (RelComps.zext hz0 hr) h4 (fun s hs g hb => .inr ⟨s, hs, hb⟩)
      have hlt : ∀ g, zoneOf γ ss g → g < w.heap.size := by
        rintro g (hg | ⟨s, hs, hg⟩)
        · exact h.zone g hg
        · exact implodeArgs_lt h (capTy C.As) vs h4 s hs g hg
      obtain ⟨γ1, c1, z1, z2⟩ := sealBoxes_sound ss [] γ env us1 _ _ h (fun _ _ => rfl) (fun b hb => by simp [memNat] at hb) (implodeArgs_src _ _ hok.1 h4) h5
      have hclo := cloOK_of (hcon f C (look_looks k1)) hlt hok.1 hok.2 hargs
      have hrel : RelCell A γ1 w (.clo (cloTy C.As) C.R (fun ys => C.F (joinA C.As ys xs))) (.func (.func f) #[] (caps.toList.map a.eval).toArray) := by
        obtain ⟨f', caps', e1, e2⟩ := hclo
        exact ⟨f', caps', e1, fun w2 Z2 ys vs r hk => e2 w2 Z2 ys vs r (fun g hg => hk g (z2 g hg))⟩
      have ecaps : (caps.toList.map a.eval).toArray = caps.map a.eval := by apply Array.ext'; simp
      rw [ecaps] at hrel
      have hfe : first = #[] := by apply Array.ext'; exact hfirst
      refine OpOK.value (w' := w) (v := .func (.func f) #[] (caps.map a.eval)) ?_ ?_
      · simp [execOp, ho, Instr.makeFunc, hfe, Sem.run_pure]
      · rw [appAll_append]
        exact c1.putCell hd ⟨hrel, rfl, by simp [refs], rfl⟩
  · simp [Rd.eval] at he
end
end Go.VI
namespace Go.VI
open Go.RowKit
theorem Rd.eval_log {α : Type} (env : Slot → AV) : ∀ (m : Rd α) (lg : List Slot), m.eval env lg = (m.eval env []).map fun p => (p.1, p.2 ++ lg)
  | .pure a, lg => rfl
  | .opt _ o k, lg => by
    simp only [Rd.eval]
    cases o with
    | none => rfl
    | some x => simp only [Option.bind_some]; exact Rd.eval_log env (k x) lg
  | .get s k, lg => by
    simp only [Rd.eval]
    rw [Rd.eval_log env (k (env s)) (s :: lg), Rd.eval_log env (k (env s)) [s]]
    simp [Option.map_map, Function.comp_def]
  | .guard b k, lg => by
    simp only [Rd.eval]
    cases b
    · rfl
    · exact Rd.eval_log env k lg
  | .br b k1 k2, lg => by
    simp only [Rd.eval]
    cases b
    · exact Rd.eval_log env k2 lg
    · exact Rd.eval_log env k1 lg
  | .fail, lg => rfl
theorem Rd.eval_local {α : Type} (e e' : Slot → AV) : ∀ (m : Rd α) (lg : List Slot) (x : α) (lg' : List Slot), m.eval e lg = some (x, lg') → (∀ s ∈ lg', e' s = e s) → m.eval e' lg = some (x, lg')
  | .pure a, lg, x, lg', h, _ => h
  | .opt _ o k, lg, x, lg', h, hl => by
    simp only [Rd.eval, Option.bind_eq_some_iff] at h ⊢
    obtain ⟨y, rfl, h⟩ := h
    exact ⟨y, rfl, Rd.eval_local e e' (k y) lg x lg' h hl⟩
  | .get s k, lg, x, lg', h, hl => by
    simp only [Rd.eval] at h ⊢
    have hs : s ∈ lg' := by
      rw [Rd.eval_log] at h
      simp only [Option.map_eq_some_iff, Prod.mk.injEq] at h
      obtain ⟨p, _, _, rfl⟩ := h
      simp
    rw [hl s hs]
    exact Rd.eval_local e e' (k (e s)) (s :: lg) x lg' h hl
  | .guard b k, lg, x, lg', h, hl => by
    simp only [Rd.eval] at h ⊢
    cases b
    · cases h
    · exact Rd.eval_local e e' k lg x lg' h hl
  | .br b k1 k2, lg, x, lg', h, hl => by
    simp only [Rd.eval] at h ⊢
    cases b
    · exact Rd.eval_local e e' k2 lg x lg' h hl
    · exact Rd.eval_local e e' k1 lg x lg' h hl
  | .fail, lg, x, lg', h, _ => by cases h
structure Known (A : Fix) (X : Ctx) : Prop where
  stable : Stable A.n0 A.G
  g0 : BaseOK A
  types : TyOK A.P X
  globals : GlobOK A X
  con : ConOK A.P A.G X
  mcon : MConOK A.P A.n0 A.G X
section
variable {A : Fix} {X : Ctx} {γ : Gh} {Fr : Nat → Prop} {env : Env} {a : Act} {w w' : World} {vn : Nat} {o : Oper} {us : List Upd} {lg : List Slot}
theorem op_builtin (h : Core A X γ Fr env a w) (K : Known A X) (hv : Fr vn) (hd : dstOk X o) {c : Call} {b : Builtin} (ho : o.op = .call c) (hc : c.callee = .builtin b) (he : (opRd X vn o).eval env.get [] = some (us, lg)) :
    OpOK A X (FrD Fr vn) o us env a w := by
  have he0 := he
  simp only [opRd, ho, hc] at he
  unfold builtinRd at he
  split at he
  · rename_i h1 h2
    exact (op_len h K.types hd ho hc h1 h2 he0).weaken vn
  · rename_i h1 h2
    exact op_append h K.stable K.g0 K.types hv hd ho hc h1 h2 he0
  · rename_i h1
    exact (op_max h hd ho hc h1 he0).weaken vn
  · rename_i h1
    exact (op_min h hd ho hc h1 he0).weaken vn
  · simp [Rd.eval] at he
theorem opRd_sound (h : Core A X γ Fr env a w) (K : Known A X) (hv : Fr vn) (hd : dstOk X o) (he : (opRd X vn o).eval env.get [] = some (us, lg)) : OpOK A X (FrD Fr vn) o us env a w := by
  cases ho : o.op with
  | move x => exact (op_move h hd ho he).weaken vn
  | assign x => exact op_assign h hv hd ho he
  | pick c x y => exact (op_pick h hd ho he).weaken vn
  | alloc T => exact op_alloc h K.stable K.types hv hd ho he
  | box T x => exact op_box h K.stable hv hd ho he
  | load T x => exact (op_load h K.globals K.types hd ho he).weaken vn
  | store T x y => exact op_store h K.stable K.g0 K.types hv ho he
  | nilCheck x => exact (op_nilCheck h hd ho he).weaken vn
  | build T ps => exact (op_build h K.types hd ho he).weaken vn
  | buildSlice T n ps => exact op_buildSlice h K.stable K.types hv hd ho he
  | makeSlice T n m => exact op_makeSlice h K.stable K.types hv hd ho he
  | binOp op T x y T' => exact (op_binOp h K.types hd ho he).weaken vn
  | unOp op T x => exact (op_unOp h hd ho he).weaken vn
  | convert S D x => exact op_convert h K.stable K.types hv hd ho he
  | slice T x lo hi mx => exact (op_slice h K.types hd ho he).weaken vn
  | fieldAddr T x f => exact (op_fieldAddr h K.types hd ho he).weaken vn
  | field T x f => exact (op_field h K.types hd ho he).weaken vn
  | indexAddr T x ix => exact (op_indexAddr h K.types hd ho he).weaken vn
  | index T x ix => exact (op_index h K.types hd ho he).weaken vn
  | extract x i => exact (op_extract h hd ho he).weaken vn
  | call c =>
    cases hc : c.callee with
    | builtin b => exact op_builtin h K hv hd ho hc he
    | value x =>
      cases x with
      | func f => exact op_callf h K.stable K.g0 K.con K.mcon hv hd ho hc he
      | tmp t => exact op_callv h K.stable K.con hv hd ho hc (by intro f hh; cases hh) he
      | const k => exact op_callv h K.stable K.con hv hd ho hc (by intro f hh; cases hh) he
      | global g => exact op_callv h K.stable K.con hv hd ho hc (by intro f hh; cases hh) he
    | invoke r n => simp [opRd, ho, hc, Rd.eval] at he
  | makeFunc fn first caps => exact (op_makeFunc h K.con hd ho he).weaken vn
  | _ => simp [opRd, ho, Rd.eval] at he
theorem step_sound {ops : Array Oper} {i : Nat} (h : Core A X γ Fr env a w) (K : Known A X) (hv : Fr vn) (hoi : ops[i]? = some o) (he : (stepRd X ops.toList vn o).eval env.get [] = some (us, lg))
    {Q : Exit → Act → World → Prop} {N : Act → World → Prop} (hn : ∀ a' w', Holds A X (FrD Fr vn) (appAll env us) a' w' → N a' w') : wpOp A.P ops Q i N a w := by
  unfold wpOp
  rw [hoi]
  simp only
  have stp : ∀ (t : Bool) (l0 : List Slot) (l1 : List Slot), (opStep X vn o t).eval env.get l0 = some (us, l1) → Region.wanted o (yielded ops a.tmps) = t →
      (if Region.wanted o (yielded ops a.tmps) = true then o.wp A.P a w N Q ∨ (o.asks A.P a w ∧ LetsOut Q) else N (a.put o.dst undef) w) := by
    intro t l0 l1 hs hw
    rw [hw]
    simp only [opStep, Rd.eval] at hs
    cases hd0 : dstB X o with
    | false => rw [hd0] at hs; simp at hs
    | true =>
      rw [hd0] at hs
      simp only [cond_true] at hs
      have hd : dstOk X o := by
        intro d hdd
        simp only [dstB, hdd] at hd0
        exact Nat.le_of_ble_eq_true hd0
      cases t with
      | true =>
        simp only [cond_true] at hs
        rw [Rd.eval_log] at hs
        simp only [Option.map_eq_some_iff, Prod.mk.injEq] at hs
        obtain ⟨⟨us', l2⟩, hs, rfl, _⟩ := hs
        exact Or.inl (opRd_sound h K hv hd hs N Q hn)
      | false =>
        simp only [cond_false, Rd.eval, Option.some.injEq, Prod.mk.injEq] at hs
        obtain ⟨rfl, _⟩ := hs
        simp only [Bool.false_eq_true, if_false]
        refine hn _ _ ((h.put hd (av := .skip) (v := undef) rfl (.inr (.inr rfl))).weaken vn)
  unfold stepRd at he
  split at he
  · simp [Rd.eval] at he
  · rename_i hg
    refine stp true _ _ he ?_
    unfold guardTmp at hg
    unfold Region.wanted
    split at hg
    · rename_i hgg; rw [hgg]
    · split at hg <;> cases hg
  · rename_i d want hg
    simp only [Rd.eval] at he
    unfold guardTmp at hg
    split at hg
    · cases hg
    · rename_i j want' hgg
      split at hg
      · rename_i d' hdj
        simp only [Option.some.injEq, Prod.mk.injEq] at hg
        obtain ⟨rfl, rfl⟩ := hg
        have hdj' : (ops[j]?).bind (·.dst) = some d' := by simpa using hdj
        have hr := h.asRead d'
        have hwant : Region.wanted o (yielded ops a.tmps) = (yielded ops a.tmps j == some want') := by unfold Region.wanted; rw [hgg]
        have hy : yielded ops a.tmps j = match a.tmps[d']? with | some (.bool b) => some b | _ => none := by
          unfold yielded
          rw [hdj']
          rfl
        split at he
        · rename_i hsk
          rw [hsk] at hr
          have hr : a.tmps.getD d' undef = undef := hr
          refine stp false _ _ he ?_
          rw [hwant, hy]
          cases ht : a.tmps[d']? with
          | none => rfl
          | some v =>
            rw [Array.getD_eq_getD_getElem?, ht] at hr
            have hr : v = undef := hr
            subst hr
            rfl
        · rename_i b hb
          rw [hb] at hr
          have hr := (relR_one hr).1
          have hr : a.tmps.getD d' undef = .bool b := hr
          refine stp _ _ _ he ?_
          rw [hwant, hy]
          cases ht : a.tmps[d']? with
          | none =>
            rw [Array.getD_eq_getD_getElem?, ht] at hr
            cases hr
          | some v =>
            rw [Array.getD_eq_getD_getElem?, ht] at hr
            have hr : v = .bool b := hr
            subst hr
            cases b <;> cases want' <;> rfl
        · simp [Rd.eval] at he
      · cases hg
end
end Go.VI
