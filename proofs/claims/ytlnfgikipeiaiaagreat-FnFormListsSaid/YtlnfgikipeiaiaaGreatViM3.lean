/- VI, part 21c: a call to which rows and variables are lent. -/
import Derived.Test.YtlnfgikipeiaiaaGreatViApp
import Derived.Orders
namespace Go.VI
open Go.RowKit
section
variable {A : Fix} {X : Ctx} {γ : Gh} {Fr : Nat → Prop} {env : Env} {a : Act} {w w' : World} {vn : Nat} {o : Oper} {us : List Upd} {lg : List Slot}
def j4a (env : Env) : Src → Prop
 | .row x => ∃ e t ver l, a0g env x = some (.own e t ver l)
 | .arr b bv => ∃ fz cs, env.get (.box b) = .box bv fz cs
theorem j2i {c c' : Cell} {ss : List Src} {l0 l1 : List Slot} (hs : (solid c).eval env.get l0 = some ((c', ss), l1)) : ∀ s ∈ ss, j4a env s := by
 cases c with
 | view x ver =>
  simp only [solid, Rd.eval_bind, Option.bind_eq_some_iff] at hs
  obtain ⟨_, k1, h2⟩ := hs
  simp only [Rd.eval, Option.some.injEq, Prod.mk.injEq] at h2
  obtain ⟨⟨_, rfl⟩, _⟩ := h2
  intro s hs
  rw [List.mem_singleton.1 hs]
  exact ⟨_, _, _, _, a1k k1⟩
 | sub x ver sz lo hi =>
  simp only [solid, Rd.eval_bind, Option.bind_eq_some_iff] at hs
  obtain ⟨p, k1, h2⟩ := hs
  cases hb : Nat.beq sz p.1.2.1.size <;> rw [hb] at h2 <;> simp [Rd.eval] at h2
  obtain ⟨⟨_, rfl⟩, _⟩ := h2
  intro s hs
  rw [List.mem_singleton.1 hs]
  exact ⟨_, _, _, _, a1k k1⟩
 | barr b bv off n t =>
  simp only [solid, Rd.eval_bind, Option.bind_eq_some_iff] at hs
  obtain ⟨_, k1, _, _, h2⟩ := hs
  simp only [Rd.eval, Option.some.injEq, Prod.mk.injEq] at h2
  obtain ⟨⟨_, rfl⟩, _⟩ := h2
  intro s hs
  rw [List.mem_singleton.1 hs]
  exact ⟨_, _, a5b k1⟩
 | _ =>
  simp only [solid, Rd.eval, Option.some.injEq, Prod.mk.injEq] at hs
  obtain ⟨⟨_, rfl⟩, _⟩ := hs
  intro s hs; cases hs
theorem h1u : ∀ (cs : List Cell) {cs' : List Cell} {ss : List Src} {l0 l1 : List Slot}, (d9o cs).eval env.get l0 = some ((cs', ss), l1) → ∀ s ∈ ss, j4a env s
 | [], cs', ss, l0, l1, he => by
  simp only [d9o, Rd.eval, Option.some.injEq, Prod.mk.injEq] at he
  obtain ⟨⟨_, rfl⟩, _⟩ := he
  intro s hs; cases hs
 | c :: r, cs', ss, l0, l1, he => by
  simp only [d9o, Rd.eval_bind, Option.bind_eq_some_iff] at he
  obtain ⟨⟨⟨c', s1⟩, l2⟩, k1, ⟨⟨r', s2⟩, l3⟩, k2, k3⟩ := he
  simp only [Rd.eval, Option.some.injEq, Prod.mk.injEq] at k3
  obtain ⟨⟨_, rfl⟩, _⟩ := k3
  intro s hs
  rcases List.mem_append.1 hs with hs | hs
  · exact j2i k1 s hs
  · exact h1u r k2 s hs
theorem d0j : ∀ (As : List ATy) (cs : List (Bool × List Cell)) {q : c4b As × List Src × List Lsrc} {l0 l1 : List Slot}, (a1o As cs).eval env.get l0 = some (q, l1) → ∀ s ∈ q.2.1, j4a env s
 | [], cs, q, l0, l1, he => by
  cases cs with
  | nil =>
   simp only [a1o, Rd.eval, Option.some.injEq, Prod.mk.injEq] at he
   obtain ⟨rfl, _⟩ := he
   simp
  | cons p r => simp [a1o, Rd.eval] at he
 | .lrow g t es :: as, cs, q, l0, l1, he => by
  cases cs with
  | nil => simp [a1o, Rd.eval] at he
  | cons p r =>
   obtain ⟨g', c⟩ := p
   simp only [a1o] at he
   cases hg : (g == g') with
   | false => rw [hg] at he; simp [Rd.eval] at he
   | true =>
    rw [hg] at he
    simp only [cond_true, Rd.eval_bind, Option.bind_eq_some_iff] at he
    obtain ⟨⟨p, l2⟩, k1, k2⟩ := he
    simp only at k2
    split at k2
    · simp only [Rd.eval_bind, Option.bind_eq_some_iff] at k2
      obtain ⟨⟨q1, l3⟩, k3, k4⟩ := k2
      simp only [Rd.eval, Option.some.injEq, Prod.mk.injEq] at k4
      obtain ⟨rfl, _⟩ := k4
      exact d0j as r k3
    · simp [Rd.eval] at k2
 | .lptr t :: as, cs, q, l0, l1, he => by
  obtain ⟨b, bv, r, rfl⟩ := g0h he
  simp only [a1o, Rd.eval_bind, Option.bind_eq_some_iff] at he
  obtain ⟨⟨⟨fz, cs0⟩, l2⟩, k1, k2⟩ := he
  simp only at k2
  cases hp : (fz || !(cs0.all plainCell)) with
  | true => rw [hp] at k2; simp [Rd.eval] at k2
  | false =>
   rw [hp] at k2
   simp only [cond_false] at k2
   split at k2
   · simp only [Rd.eval_bind, Option.bind_eq_some_iff] at k2
     obtain ⟨⟨q1, l3⟩, k3, k4⟩ := k2
     simp only [Rd.eval, Option.some.injEq, Prod.mk.injEq] at k4
     obtain ⟨rfl, _⟩ := k4
     exact d0j as r k3
   · simp [Rd.eval] at k2
 | .data g t :: as, cs, q, l0, l1, he => by
  cases cs with
  | nil => simp [a1o, Rd.eval] at he
  | cons p r =>
   obtain ⟨g', c⟩ := p
   simp only [a1o] at he
   cases hg : (g == g') with
   | false => rw [hg] at he; simp [Rd.eval] at he
   | true =>
    rw [hg] at he
    simp only [cond_true, Rd.eval_bind, Option.bind_eq_some_iff] at he
    obtain ⟨⟨⟨p1, p2⟩, l2⟩, k1, k2⟩ := he
    simp only at k2
    split at k2
    · simp only [Rd.eval_bind, Option.bind_eq_some_iff] at k2
      obtain ⟨⟨q1, l3⟩, k3, k4⟩ := k2
      simp only [Rd.eval, Option.some.injEq, Prod.mk.injEq] at k4
      obtain ⟨rfl, _⟩ := k4
      intro s hs
      rcases List.mem_append.1 hs with hs | hs
      · exact h1u c k1 s hs
      · exact d0j as r k3 s hs
    · simp [Rd.eval] at k2
 | .ptr t :: as, cs, q, l0, l1, he => absurd he (lendArgs_none.1 t _)
 | .clo a b :: as, cs, q, l0, l1, he => absurd he (lendArgs_none.2 a b _)
theorem e7j {env0 : Env} : ∀ (ss : List Src) (xs : List Loc) {us : List Upd} {lg lg' : List Slot}, (a9o xs ss).eval env0.get lg = some (us, lg') → ∀ u ∈ us, ∃ x c, u = .cell x c ∧ Src.row x ∈ ss
 | [], xs, us, lg, lg', he => by
  simp only [a9o, Rd.eval, Option.some.injEq, Prod.mk.injEq] at he
  obtain ⟨rfl, _⟩ := he
  simp
 | .arr b bv :: r, xs, us, lg, lg', he => by simp [a9o, Rd.eval] at he
 | .row x :: r, xs, us, lg, lg', he => by
  simp only [a9o] at he
  have tail : ∀ {xs us lg lg'}, (a9o xs r).eval env0.get lg = some (us, lg') → ∀ u ∈ us, ∃ y c, u = .cell y c ∧ Src.row y ∈ Src.row x :: r := fun h u hu => by
   obtain ⟨y, c, h1, h2⟩ := e7j r _ h u hu
   exact ⟨y, c, h1, List.mem_cons_of_mem _ h2⟩
  cases hm : a9w x xs with
  | true => rw [hm] at he; exact tail he
  | false =>
   rw [hm] at he
   cases hnl : x.s.isLent with
   | true => rw [hnl] at he; simp [Rd.eval] at he
   | false =>
   rw [hnl] at he
   simp only [cond_false, Rd.eval] at he
   split at he
   · simp only [Rd.eval_bind, Option.bind_eq_some_iff] at he
     obtain ⟨⟨us1, l2⟩, h2, h3⟩ := he
     simp only [Rd.eval, Option.some.injEq, Prod.mk.injEq] at h3
     obtain ⟨rfl, _⟩ := h3
     intro u hu
     rcases List.mem_cons.1 hu with rfl | hu
     · exact ⟨x, _, rfl, List.mem_cons_self⟩
     · exact tail h2 u hu
   · simp [Rd.eval] at he
theorem e8a : ∀ (us : List Upd) (env : Env) (x : Loc), (∀ u ∈ us, ∃ y c, u = .cell y c ∧ y ≠ x) → a0g (a0u env us) x = a0g env x
 | [], _, _, _ => rfl
 | u :: r, env, x, h => by
  obtain ⟨y, c, rfl, hne⟩ := h u (by simp)
  rw [a0u, e8a r _ x fun v hv => h v (by simp [hv]), a0o, if_neg (fun hh => hne hh.1.symm)]
theorem f2e : ∀ (us : List Upd) (env : Env) (s : Slot), (∀ u ∈ us, ∃ y c, u = .cell y c ∧ y.s ≠ s) → (a0u env us).get s = env.get s
 | [], _, _, _ => rfl
 | u :: r, env, s, h => by
  obtain ⟨y, c, rfl, hne⟩ := h u (by simp)
  rw [a0u, f2e r _ s fun v hv => h v (by simp [hv]), a0t, if_neg hne]
theorem d4s (n : Nat) (l : List Nat) : c4j n l = true ↔ n ∈ l := by
 induction l with
 | nil => simp [c4j]
 | cons m r ih =>
  simp only [c4j, Bool.or_eq_true, ih, List.mem_cons]
  exact ⟨fun h => h.imp (fun h => (Nat.eq_of_beq_eq_true h).symm) id, fun h => h.imp (fun h => by rw [h]; exact Nat.beq_refl _) id⟩
structure LendOK (ls : List Lsrc) (ss : List Src) : Prop where
 rows : b2k (a0z ls) = true
 boxes : b2t (a0l ls) = true
 srcs : ∀ s ∈ ss, f4y (a0z ls) (a0l ls) s = true
 far : ∀ x ∈ a0z ls, ∀ b ∈ a0l ls, x.s ≠ .box b
 flat : c9v ls = true
theorem i8n {ls : List Lsrc} {ss : List Src} (h : i6f ls ss = true) : LendOK ls ss := by
 simp only [i6f, Bool.and_eq_true, List.all_eq_true] at h
 obtain ⟨⟨⟨⟨h1, h2⟩, h3⟩, h4⟩, h5⟩ := h
 refine ⟨h1, h2, h3, fun x hx b hb e => ?_, h5⟩
 have := h4 x hx
 rw [e] at this
 simp only [Bool.not_eq_true'] at this
 rw [(d4s b _).2 hb] at this
 cases this
def j7d (γ : Gh) (env : Env) : Lsrc → Nat → Prop
 | .row x ver e t, g => (∃ l, a0g env x = some (.own e t ver l)) ∧ (γ.φ x).ownBlock = some g
 | .nil _ _, _ => False
 | .box b bv cs, g => env.get (.box b) = .box bv false cs ∧ cs.all plainCell = true ∧ γ.σ b bv = g
theorem LsRel.at : ∀ {ls : List Lsrc} {is : List Item}, LsRel γ env ls is → ∀ (i : Nat) (p : Item) (g : Nat), is[i]? = some p → p.block = some g → ∃ s, ls[i]? = some s ∧ j7d γ env s g
 | [], is, h, i, p, g, hp, _ => by rw [show is = [] from h] at hp; simp at hp
 | .row x ver e t :: r, is, ⟨is', l, h1, h2, h3⟩, i, p, g, hp, hb => by
  rw [h1] at hp
  cases i with
  | zero => simp at hp; subst hp; exact ⟨_, rfl, ⟨l, h2⟩, hb⟩
  | succ i => simp at hp; obtain ⟨s, k1, k2⟩ := LsRel.at h3 i p g hp hb; exact ⟨s, by simpa using k1, k2⟩
 | .nil e t :: r, is, ⟨is', h1, h3⟩, i, p, g, hp, hb => by
  rw [h1] at hp
  cases i with
  | zero => simp at hp; subst hp; simp [Item.block, Value.ownBlock] at hb
  | succ i => simp at hp; obtain ⟨s, k1, k2⟩ := LsRel.at h3 i p g hp hb; exact ⟨s, by simpa using k1, k2⟩
 | .box b bv cs :: r, is, ⟨is', h1, h2, h3, h4⟩, i, p, g, hp, hb => by
  rw [h1] at hp
  cases i with
  | zero =>
   simp at hp; subst hp
   simp [Item.block] at hb
   exact ⟨_, rfl, h2, h3, hb⟩
  | succ i => simp at hp; obtain ⟨s, k1, k2⟩ := LsRel.at h4 i p g hp hb; exact ⟨s, by simpa using k1, k2⟩
theorem j2h : ∀ {ls : List Lsrc}, b2k (a0z ls) = true → ∀ (i j : Nat) {x : Loc} {v1 v2 e1 e2 : Nat} {t1 t2 : Ty}, ls[i]? = some (.row x v1 e1 t1) → ls[j]? = some (.row x v2 e2 t2) → i = j
 | [], _, i, j, _, _, _, _, _, _, _, h, _ => by simp at h
 | s :: r, hd, i, j, x, v1, v2, e1, e2, t1, t2, hi, hj => by
  have mem : ∀ (k : Nat) (v e : Nat) (t : Ty), r[k]? = some (.row x v e t) → x ∈ a0z r := by
   clear hd hi hj
   induction r with
   | nil => intro k v e t h; simp at h
   | cons s' r ih =>
    intro k v e t h
    cases k with
    | zero => simp at h; subst h; simp [a0z]
    | succ k =>
     have := ih k v e t (by simpa using h)
     cases s' <;> simp [a0z, this]
  have hd' : b2k (a0z r) = true := by
   cases s with
   | row y _ _ _ => simp only [a0z, b2k, Bool.and_eq_true] at hd; exact hd.2
   | nil _ _ => exact hd
   | box _ _ _ => exact hd
  cases i with
  | zero => cases j with
   | zero => rfl
   | succ j =>
    simp at hi hj
    subst hi
    simp only [a0z, b2k, Bool.and_eq_true, Bool.not_eq_true'] at hd
    rw [(c5u x _).2 (mem j _ _ _ hj)] at hd
    cases hd.1
  | succ i => cases j with
   | zero =>
    simp at hi hj
    subst hj
    simp only [a0z, b2k, Bool.and_eq_true, Bool.not_eq_true'] at hd
    rw [(c5u x _).2 (mem i _ _ _ hi)] at hd
    cases hd.1
   | succ j => rw [j2h hd' i j (by simpa using hi) (by simpa using hj)]
theorem i6c : ∀ {ls : List Lsrc}, b2t (a0l ls) = true → ∀ (i j : Nat) {b v1 v2 : Nat} {c1 c2 : List Cell}, ls[i]? = some (.box b v1 c1) → ls[j]? = some (.box b v2 c2) → i = j
 | [], _, i, j, _, _, _, _, _, h, _ => by simp at h
 | s :: r, hd, i, j, b, v1, v2, c1, c2, hi, hj => by
  have mem : ∀ (k v : Nat) (c : List Cell), r[k]? = some (.box b v c) → b ∈ a0l r := by
   clear hd hi hj
   induction r with
   | nil => intro k v c h; simp at h
   | cons s' r ih =>
    intro k v c h
    cases k with
    | zero => simp at h; subst h; simp [a0l]
    | succ k =>
     have := ih k v c (by simpa using h)
     cases s' <;> simp [a0l, this]
  have hd' : b2t (a0l r) = true := by
   cases s with
   | row y _ _ _ => exact hd
   | nil _ _ => exact hd
   | box _ _ _ => simp only [a0l, b2t, Bool.and_eq_true] at hd; exact hd.2
  cases i with
  | zero => cases j with
   | zero => rfl
   | succ j =>
    simp at hi hj
    subst hi
    simp only [a0l, b2t, Bool.and_eq_true, Bool.not_eq_true'] at hd
    rw [(d4s b _).2 (mem j _ _ hj)] at hd
    cases hd.1
  | succ i => cases j with
   | zero =>
    simp at hi hj
    subst hj
    simp only [a0l, b2t, Bool.and_eq_true, Bool.not_eq_true'] at hd
    rw [(d4s b _).2 (mem i _ _ hi)] at hd
    cases hd.1
   | succ j => rw [i6c hd' i j (by simpa using hi) (by simpa using hj)]
theorem i4z : ∀ {ls : List Lsrc} {x : Loc} {v e : Nat} {t : Ty}, Lsrc.row x v e t ∈ ls → x ∈ a0z ls
 | s :: r, x, v, e, t, h => by
  rcases List.mem_cons.1 h with rfl | h
  · simp [a0z]
  · have := i4z h
    cases s <;> simp [a0z, this]
theorem i0e : ∀ {ls : List Lsrc} {b v : Nat} {c : List Cell}, Lsrc.box b v c ∈ ls → b ∈ a0l ls
 | s :: r, b, v, c, h => by
  rcases List.mem_cons.1 h with rfl | h
  · simp [a0l]
  · have := i0e h
    cases s <;> simp [a0l, this]
theorem i2v {cs : List Cell} (h : cs.all plainCell = true) : ∀ c ∈ cs, c.isOwn = false := by
 intro c hc
 have := (List.all_eq_true.1 h) c hc
 cases c <;> simp [plainCell] at this <;> rfl
theorem j2t (h : Core A X γ Fr env a w) (hst : Stable A.n0 A.G) (hG0 : e7a A) {ls : List Lsrc} {ss : List Src} {is : List Item} (hr : LsRel γ env ls is) (hk : LendOK ls ss) (hs : ∀ s ∈ ss, j4a env s) : Aside (a6q γ ss) w A.n0 is := by
 have hn : A.n0 ≤ A.w0.heap.size := hst.1 _ hG0.1
 have key : ∀ (i : Nat) (p : Item) (g : Nat), is[i]? = some p → p.block = some g → ¬ a6q γ ss g ∧ g < w.heap.size ∧ A.n0 ≤ g := by
  intro i p g hp hb
  obtain ⟨s, hsi, hsb⟩ := hr.at i p g hp hb
  have hmem := List.mem_of_getElem? hsi
  cases s with
  | nil e t => exact hsb.elim
  | row x ver e t =>
   obtain ⟨⟨l, hx⟩, hgx⟩ := hsb
   obtain ⟨a1, a2, a3⟩ := (h.own x e t ver l hx).2.2 g hgx
   refine ⟨?_, ((h.cell x _ hx).1.lt g hgx).2, (h.mine hx hgx).elim (fun hh => Nat.le_trans hn hh) (hG0.2 g)⟩
   rintro (hz | ⟨s, hs', hsg⟩)
   · exact a1 hz
   · have hap := hk.srcs s hs'
     have hok := hs s hs'
     cases s with
     | row y =>
      obtain ⟨e', t', ver', l', hy⟩ := hok
      have := a3 y _ _ _ _ hy hsg
      subst this
      simp only [f4y, Bool.not_eq_true'] at hap
      rw [(c5u y _).2 (i4z hmem)] at hap
      cases hap
     | arr b bv =>
      obtain ⟨fz, cs, hbx⟩ := hok
      exact a2 b bv fz cs hbx hsg
  | box b bv cs =>
   obtain ⟨hbx, hpl, hg⟩ := hsb
   subst hg
   obtain ⟨⟨T, hT⟩, h2, h3, _⟩ := h.box b bv false cs hbx
   refine ⟨?_, (Array.getElem?_eq_some_iff.1 hT).1, (h.boxMine hbx).elim (fun hh => Nat.le_trans hn hh) (hG0.2 _)⟩
   rintro (hz | ⟨s, hs', hsg⟩)
   · have := h3.2 hz; cases this
   · have hap := hk.srcs s hs'
     have hok := hs s hs'
     cases s with
     | row y =>
      obtain ⟨e', t', ver', l', hy⟩ := hok
      exact ((h.own y _ _ _ _ hy).2.2 _ hsg).2.1 b bv false cs hbx rfl
     | arr b' bv' =>
      obtain ⟨fz, cs', hbx'⟩ := hok
      have := h.inj b' b bv' bv fz false cs' cs hbx' hbx hsg
      subst this
      simp only [f4y, Bool.not_eq_true'] at hap
      rw [(d4s b' _).2 (i0e hmem)] at hap
      cases hap
 refine ⟨fun g ⟨it, hit, hb⟩ => ?_, fun i j p q g hp hq hpb hqb => ?_⟩
 · obtain ⟨i, hi⟩ := List.mem_iff_getElem?.1 hit
   exact key i it g hi hb
 · obtain ⟨s, hsi, hsb⟩ := hr.at i p g hp hpb
   obtain ⟨s', hsj, hsb'⟩ := hr.at j q g hq hqb
   cases s with
   | nil e t => exact hsb.elim
   | row x ver e t =>
    obtain ⟨⟨l, hx⟩, hgx⟩ := hsb
    obtain ⟨a1, a2, a3⟩ := (h.own x e t ver l hx).2.2 g hgx
    cases s' with
    | nil e t => exact hsb'.elim
    | row y ver' e' t' =>
     obtain ⟨⟨l', hy⟩, hgy⟩ := hsb'
     have := a3 y _ _ _ _ hy hgy
     subst this
     exact j2h hk.rows i j hsi hsj
    | box b bv cs => exact absurd hsb'.2.2 (a2 b bv false cs hsb'.1)
   | box b bv cs =>
    obtain ⟨hbx, hpl, hg⟩ := hsb
    cases s' with
    | nil e t => exact hsb'.elim
    | row y ver' e' t' =>
     obtain ⟨⟨l', hy⟩, hgy⟩ := hsb'
     exact absurd hg (((h.own y _ _ _ _ hy).2.2 g hgy).2.1 b bv false cs hbx)
    | box b' bv' cs' =>
     obtain ⟨hbx', hpl', hg'⟩ := hsb'
     have := h.inj b b' bv bv' false false cs cs' hbx hbx' (hg.trans hg'.symm)
     subst this
     exact i6c hk.boxes i j hsi hsj
structure LsApart (ls : List Lsrc) : Prop where
 rows : b2k (a0z ls) = true
 boxes : b2t (a0l ls) = true
 far : ∀ x ∈ a0z ls, ∀ b ∈ a0l ls, x.s ≠ .box b
theorem LsApart.tail {s : Lsrc} {ls : List Lsrc} (h : LsApart (s :: ls)) : LsApart ls := by
 refine ⟨?_, ?_, fun x hx b hb => h.far x ?_ b ?_⟩
 · cases s with
   | row y _ _ _ => have := h.rows; simp only [a0z, b2k, Bool.and_eq_true] at this; exact this.2
   | nil _ _ => exact h.rows
   | box _ _ _ => exact h.rows
 · cases s with
   | row y _ _ _ => exact h.boxes
   | nil _ _ => exact h.boxes
   | box _ _ _ => have := h.boxes; simp only [a0l, b2t, Bool.and_eq_true] at this; exact this.2
 · cases s <;> simp [a0z, hx]
 · cases s <;> simp [a0l, hb]
theorem LsApart.row {x : Loc} {v e : Nat} {t : Ty} {ls : List Lsrc} (h : LsApart (.row x v e t :: ls)) : x ∉ a0z ls ∧ ∀ b ∈ a0l ls, x.s ≠ .box b := by
 have h1 := h.rows
 simp only [a0z, b2k, Bool.and_eq_true, Bool.not_eq_true'] at h1
 refine ⟨fun hx => ?_, fun b hb => h.far x (by simp [a0z]) b (by simpa [a0l] using hb)⟩
 rw [(c5u x _).2 hx] at h1
 cases h1.1
theorem LsApart.box {b v : Nat} {c : List Cell} {ls : List Lsrc} (h : LsApart (.box b v c :: ls)) : b ∉ a0l ls ∧ ∀ x ∈ a0z ls, x.s ≠ .box b := by
 have h1 := h.boxes
 simp only [a0l, b2t, Bool.and_eq_true, Bool.not_eq_true'] at h1
 refine ⟨fun hb => ?_, fun x hx => h.far x (by simpa [a0z] using hx) b (by simp [a0l])⟩
 rw [(d4s b _).2 hb] at h1
 cases h1.1
theorem LsRel.congr {env' : Env} {γ' : Gh} (hφ : γ'.φ = γ.φ) (hσ : γ'.σ = γ.σ) : ∀ {ls : List Lsrc} {is : List Item}, LsRel γ env ls is → (∀ x ∈ a0z ls, a0g env' x = a0g env x) → (∀ b ∈ a0l ls, env'.get (.box b) = env.get (.box b)) → LsRel γ' env' ls is
 | [], is, h, _, _ => h
 | .row x ver e t :: r, is, ⟨is', l, h1, h2, h3⟩, hx, hb => ⟨is', l, by rw [hφ]; exact h1, by rw [hx x (by simp [a0z])]; exact h2, LsRel.congr hφ hσ h3 (fun y hy => hx y (by simp [a0z, hy])) fun b hb' => hb b (by simpa [a0l] using hb')⟩
 | .nil e t :: r, is, ⟨is', h1, h3⟩, hx, hb => ⟨is', h1, LsRel.congr hφ hσ h3 (fun y hy => hx y (by simpa [a0z] using hy)) fun b hb' => hb b (by simpa [a0l] using hb')⟩
 | .box b bv cs :: r, is, ⟨is', h1, h2, h3, h4⟩, hx, hb => ⟨is', by rw [hσ, show a0p γ' (.box b) 0 cs.length = a0p γ (.box b) 0 cs.length by simp [a0p, hφ]]; exact h1, by rw [hb b (by simp [a0l])]; exact h2, h3, LsRel.congr hφ hσ h4 (fun y hy => hx y (by simpa [a0z] using hy)) fun b' hb' => hb b' (by simp [a0l, hb'])⟩
def Pend (A : Fix) (γ : Gh) (Fr : Nat → Prop) (w' : World) (env : Env) : List Lsrc → List Item → Prop
 | [], is => is = []
 | .row x ver e t :: r, is => ∃ is', is = .row (γ.φ x) e t :: is' ∧ a0g env x = some .undef ∧ γ.ψ x ver = γ.φ x ∧ ¬ Fr ver ∧ (∀ g, (γ.φ x).ownBlock = some g → Loose A γ env g ∧ A.B ≤ g ∧ (x.s.isLent = false → A.w0.heap.size ≤ g)) ∧ Pend A γ Fr w' env r is'
 | .nil e t :: r, is => ∃ is', is = .row (.slice none 0 0) e t :: is' ∧ Pend A γ Fr w' env r is'
 | .box b bv cs :: r, is => ∃ is' us, is = .box (γ.σ b bv) us :: is' ∧ (∀ v fz c, env.get (.box b) ≠ .box v fz c) ∧ ¬ Fr bv ∧ ((b < a0s → A.w0.heap.size ≤ γ.σ b bv) ∧ (a0s ≤ b → A.lb (b - a0s) = some (γ.σ b bv))) ∧ Loose A γ env (γ.σ b bv) ∧
  RelCs A γ w' Fr cs us ∧ cs.all plainCell = true ∧ Pend A γ Fr w' env r is'
theorem Pend.congr {γ' : Gh} {env' : Env} {w2 : World} (hψ : γ'.ψ = γ.ψ) (hσ : γ'.σ = γ.σ) : ∀ {ls : List Lsrc} {is : List Item}, Pend A γ Fr w' env ls is → (∀ x ∈ a0z ls, γ'.φ x = γ.φ x ∧ (a0g env x = some .undef → a0g env' x = some .undef)) →
 (∀ b ∈ a0l ls, (∀ v fz c, env.get (.box b) ≠ .box v fz c) → ∀ v fz c, env'.get (.box b) ≠ .box v fz c) → (∀ g, Lof is g → Loose A γ env g → Loose A γ' env' g) → (∀ cs us, cs.all plainCell = true → RelCs A γ w' Fr cs us → RelCs A γ' w2 Fr cs us) → Pend A γ' Fr w2 env' ls is
 | [], is, h, _, _, _, _ => h
 | .row x ver e t :: r, is, ⟨is', h1, h2, h3, h4, h5, h6⟩, hx, hb, hl, hc => by
  obtain ⟨k1, k2⟩ := hx x (by simp [a0z])
  refine ⟨is', by rw [k1]; exact h1, k2 h2, by rw [hψ, k1]; exact h3, h4, fun g hg => ?_, Pend.congr hψ hσ h6 (fun y hy => hx y (by simp [a0z, hy])) (fun b hb' => hb b (by simpa [a0l] using hb')) (fun g ⟨it, hit, hg⟩ => hl g ⟨it, by rw [h1]; simp [hit], hg⟩) hc⟩
  rw [k1] at hg
  exact ⟨hl g ⟨.row (γ.φ x) e t, by rw [h1]; exact List.mem_cons_self, hg⟩ (h5 g hg).1, (h5 g hg).2⟩
 | .nil e t :: r, is, ⟨is', h1, h6⟩, hx, hb, hl, hc => ⟨is', h1, Pend.congr hψ hσ h6 (fun y hy => hx y (by simpa [a0z] using hy)) (fun b hb' => hb b (by simpa [a0l] using hb')) (fun g ⟨it, hit, hg⟩ => hl g ⟨it, by rw [h1]; simp [hit], hg⟩) hc⟩
 | .box b bv cs :: r, is, ⟨is', us, h1, h2, h3, h4, h5, h6, h7, h8⟩, hx, hb, hl, hc =>
  ⟨is', us, by rw [hσ]; exact h1, hb b (by simp [a0l]) h2, h3, by rw [hσ]; exact h4, by rw [hσ]; exact hl _ ⟨_, by rw [h1]; exact List.mem_cons_self, rfl⟩ h5, hc cs us h7 h6, h7,
   Pend.congr hψ hσ h8 (fun y hy => hx y (by simpa [a0z] using hy)) (fun b' hb' => hb b' (by simp [a0l, hb'])) (fun g ⟨it, hit, hg⟩ => hl g ⟨it, by rw [h1]; simp [hit], hg⟩) hc⟩
theorem g3c : ∀ (ls : List Lsrc) (env : Env) (is : List Item), Core A X γ Fr env a w → LsRel γ env ls is → LsApart ls →
 Core A X γ Fr (a0u env (a7m ls)) a w ∧ Pend A γ Fr w (a0u env (a7m ls)) ls is ∧ (∀ g, Loose A γ env g → Loose A γ (a0u env (a7m ls)) g) ∧ (∀ g, Lof is g → Loose A γ (a0u env (a7m ls)) g) ∧
  (∀ x, x ∉ a0z ls → (∀ b ∈ a0l ls, x.s ≠ .box b) → a0g (a0u env (a7m ls)) x = a0g env x) ∧ (∀ b, b ∉ a0l ls → (∀ v fz c, env.get (.box b) ≠ .box v fz c) → ∀ v fz c, (a0u env (a7m ls)).get (.box b) ≠ .box v fz c)
 | [], env, is, h, hr, _ => ⟨h, hr, fun _ hg => hg, fun g ⟨it, hit, _⟩ => (by rw [show is = [] from hr] at hit; cases hit), fun _ _ _ => rfl, fun _ _ h => h⟩
 | .row x ver e t :: r, env, is, h, ⟨is', l, h1, h2, h3⟩, hap => by
  obtain ⟨n1, n2⟩ := hap.row
  have hk := h.kill x
  have hr' : LsRel γ (Upd.app env (.cell x .undef)) r is' := LsRel.congr rfl rfl h3 (fun y hy => by rw [a0o, if_neg (fun (hh : y = x ∧ _) => n1 (hh.1 ▸ hy))]) (fun b hb => by rw [a0t, if_neg (n2 b hb)])
  obtain ⟨k1, k2, k3, k4, k5, k6⟩ := g3c r _ is' hk hr' hap.tail
  have hx0 : a0g (Upd.app env (.cell x .undef)) x = some .undef := by rw [a0o, if_pos ⟨rfl, by rw [h2]; rfl⟩]
  refine ⟨k1, ⟨is', h1, ?_, (h.own x e t ver l h2).1, (h.own x e t ver l h2).2.1, fun g hg => ⟨k3 g (h.kill_loose h2 hg), ((h.cell x _ h2).1.lt g hg).1, fun hn => h.fresh x e t ver l h2 hn g hg⟩, k2⟩, fun g hg => k3 g (hg.kill x), ?_, ?_, ?_⟩
  · rw [a7m, a0u, k5 x n1 n2]; exact hx0
  · rintro g ⟨it, hit, hg⟩
    rw [h1] at hit
    rcases List.mem_cons.1 hit with rfl | hit
    · exact k3 g (h.kill_loose h2 hg)
    · exact k4 g ⟨it, hit, hg⟩
  · intro y hy hb
    simp only [a0z, List.mem_cons, not_or] at hy
    rw [a7m, a0u, k5 y hy.2 (fun b hb' => hb b (by simpa [a0l] using hb')), a0o, if_neg (fun hh => hy.1 hh.1)]
  · intro b hb hnb v fz c
    refine k6 b (by simpa [a0l] using hb) (fun v fz c hh => ?_) v fz c
    rw [a0t] at hh
    split at hh
    · obtain ⟨cs', hb', _⟩ := a7a hh
      exact hnb _ _ _ hb'
    · exact hnb _ _ _ hh
 | .nil e t :: r, env, is, h, ⟨is', h1, h3⟩, hap => by
  obtain ⟨k1, k2, k3, k4, k5, k6⟩ := g3c r env is' h h3 hap.tail
  refine ⟨k1, ⟨is', h1, k2⟩, k3, ?_, k5, k6⟩
  rintro g ⟨it, hit, hg⟩
  rw [h1] at hit
  rcases List.mem_cons.1 hit with rfl | hit
  · simp [Item.block, Value.ownBlock] at hg
  · exact k4 g ⟨it, hit, hg⟩
 | .box b bv cs :: r, env, is, h, ⟨is', h1, h2, h3, h4⟩, hap => by
  obtain ⟨n1, n2⟩ := hap.box
  have hk := h.killBox b
  have hr' : LsRel γ ((.box b, .undef) :: env) r is' := LsRel.congr rfl rfl h4 (fun y hy => by rw [a2d, if_neg (Ne.symm (n2 y hy))]) (fun b' hb' => Env.get_cons_ne _ _ (fun e => n1 (by injection e with e; rw [e]; exact hb')))
  obtain ⟨k1, k2, k3, k4, k5, k6⟩ := g3c r _ is' hk hr' hap.tail
  obtain ⟨_, b2, _, b4⟩ := h.box b bv false cs h2
  obtain ⟨c1, _⟩ := h.boxCells h2 0
  simp only [List.drop_zero] at c1
  have hnov : VI.readCells (.box b) 0 0 cs = cs := by
   apply List.ext_getElem?
   intro j
   rw [c4y]
   cases hj : cs[j]? with
   | none => rfl
   | some c =>
    have hc := (List.all_eq_true.1 h3) c (List.mem_of_getElem? hj)
    cases c <;> simp [plainCell] at hc <;> rfl
  rw [hnov] at c1
  have hlo := h.killBox_loose h2
  refine ⟨k1, ⟨is', _, h1, fun v fz c => k6 b n1 (fun v fz c => by rw [Env.get_cons_self]; simp) v fz c, b4, b2, k3 _ hlo, c1, h3, k2⟩, fun g hg => k3 g (hg.killBox b), ?_, ?_, ?_⟩
  · rintro g ⟨it, hit, hg⟩
    rw [h1] at hit
    rcases List.mem_cons.1 hit with rfl | hit
    · simp only [Item.block, Option.some.injEq] at hg
      rw [← hg]
      exact k3 _ hlo
    · exact k4 g ⟨it, hit, hg⟩
  · intro y hy hb
    show a0g (a0u ((.box b, .undef) :: env) (a7m r)) y = _
    rw [k5 y (by simpa [a0z] using hy) (fun b' hb' => hb b' (by simp [a0l, hb'])), a2d, if_neg (Ne.symm (hb b (by simp [a0l])))]
  · intro b' hb' hnb v fz c
    simp only [a0l, List.mem_cons, not_or] at hb'
    exact k6 b' hb'.2 (fun v fz c => by rw [Env.get_cons_ne _ _ (by simpa using Ne.symm hb'.1)]; exact hnb v fz c) v fz c
theorem g5w {p : Item} {is : List Item} (h : ∀ (i j : Nat) (p' q : Item) (g : Nat), (p :: is)[i]? = some p' → (p :: is)[j]? = some q → p'.block = some g → q.block = some g → i = j) :
 (∀ (i j : Nat) (p q : Item) (g : Nat), is[i]? = some p → is[j]? = some q → p.block = some g → q.block = some g → i = j) ∧ ∀ g g', p.block = some g → Lof is g' → g ≠ g' := by
 refine ⟨fun i j p' q g h1 h2 h3 h4 => ?_, fun g g' hg ⟨it, hit, hg'⟩ e => ?_⟩
 · have := h (i + 1) (j + 1) p' q g (by simpa using h1) (by simpa using h2) h3 h4
   omega
 · subst e
   obtain ⟨k, hk⟩ := List.mem_iff_getElem?.1 hit
   have := h 0 (k + 1) p it g rfl (by simpa using hk) hg hg'
   omega
theorem i6n : ∀ {cs cs' : List Cell} {us us' : List Value}, RelCs A γ w' Fr cs us → h8x cs' us us' → RelCs A γ w' Fr (List.zipWith f1z cs cs') us'
 | [], cs', us, us', h, hb => by
  rw [show us = [] from h] at hb
  cases cs' with
  | nil => exact hb.2
  | cons c r => obtain ⟨u, u', s, s', h1, _⟩ := hb; cases h1
 | c :: r, cs', us, us', ⟨u, us1, h1, hg, hr⟩, hb => by
  cases cs' with
  | nil => rw [h1] at hb; cases hb.1
  | cons c' r' =>
   obtain ⟨u0, u', s, s', e1, e2, hor, hb'⟩ := hb
   rw [h1] at e1
   injection e1 with e1 e3
   subst e1; subst e3
   refine ⟨u', s', e2, ?_, i6n hr hb'⟩
   have hund : ∀ v : Value, v.oneCell' = true → GoodR A γ w' Fr .undef v := fun v hv => ⟨trivial, hv, by simp [refs], rfl⟩
   rcases hor with ⟨hz, hu⟩ | ⟨t, l, p, rfl, hu⟩
   · obtain ⟨g1, g2, g3, g4⟩ := d3n (A := A) (γ := γ) (w := w') hz
     rw [hu]
     cases c' <;> simp [c9e] at hz
     all_goals simp only [f1z]
     · exact ⟨g1, g2, by simp [refs], rfl⟩
     · exact ⟨g1, g2, by simp [refs], rfl⟩
     · exact ⟨g1, g2, by simp [refs], rfl⟩
     · exact hund _ g2
   · rw [hu]
     cases c <;> simp only [f1z] <;> first | exact hg | exact hund _ hg.2.1
theorem h3z {cs cs' : List Cell} (h : cs.all plainCell = true) : ∀ c ∈ List.zipWith f1z cs cs', c.isOwn = false := by
 induction cs generalizing cs' with
 | nil => simp
 | cons a r ih =>
  cases cs' with
  | nil => simp
  | cons b s =>
   simp only [List.all_cons, Bool.and_eq_true] at h
   intro c hc
   simp only [List.zipWith_cons_cons, List.mem_cons] at hc
   rcases hc with rfl | hc
   · have ha := h.1
     cases b <;> simp only [f1z] <;> first | rfl | (cases a <;> simp [plainCell] at ha <;> rfl)
   · exact ih h.2 c hc
theorem e5x {Z' : Nat → Prop} : ∀ (ls : List Lsrc) (γ : Gh) (env : Env) (is : List Item) (ns : List New), Core A X γ Fr env a w' → Pend A γ Fr w' env ls is → LsApart ls → c9v ls = true →
 (∀ (i j : Nat) (p q : Item) (g : Nat), is[i]? = some p → is[j]? = some q → p.block = some g → q.block = some g → i = j) → j4j Z' w' is ns →
 ∃ γ2, Core A X γ2 Fr (a0u env (b5i ls ns)) a w' ∧ γ2.ψ = γ.ψ ∧ γ2.σ = γ.σ ∧ γ2.Z = γ.Z ∧ ∀ g, Loose A γ env g → ¬ Lof is g → Loose A γ2 (a0u env (b5i ls ns)) g
 | [], γ, env, is, ns, h, hp, _, _, _, ho => ⟨γ, by cases ns <;> exact h, rfl, rfl, rfl, fun g hg _ => by cases ns <;> exact hg⟩
 | .nil e t :: r, γ, env, is, ns, h, ⟨is', h1, h2⟩, hap, hfl, hu, ho => by
  subst h1
  obtain ⟨l, ns', rfl, _, ho'⟩ := ho
  obtain ⟨u1, _⟩ := g5w hu
  obtain ⟨γ2, k1, k2, k3, k4, k5⟩ := e5x r γ env is' ns' h h2 hap.tail (by simpa [c9v] using hfl) u1 ho'
  exact ⟨γ2, k1, k2, k3, k4, fun g hg hn => k5 g hg fun ⟨it, hit, hb⟩ => hn ⟨it, by simp [hit], hb⟩⟩
 | .row x ver e t :: r, γ, env, is, ns, h, ⟨is', h1, h2, h3, h4, h5, h6⟩, hap, hfl, hu, ho => by
  subst h1
  obtain ⟨l, ns', rfl, hown, ho'⟩ := ho
  obtain ⟨u1, u2⟩ := g5w hu
  obtain ⟨n1, n2⟩ := hap.row
  simp only [c9v, Bool.and_eq_true, Bool.not_eq_true'] at hfl
  have hc := h.reviveRow h2 h3 h4 (OwnV.rebaseM (hown.flat hfl.1) fun g hg => (h5 g hg).2.1) (fun g hg => (h5 g hg).1) (fun hn g hg => (h5 g hg).2.2 hn)
  have hp : Pend A γ Fr w' (Upd.app env (.cell x (.own e t ver l))) r is' := Pend.congr rfl rfl h6 (fun y hy => ⟨rfl, fun hyu => by rw [a0o, if_neg (fun (hh : y = x ∧ _) => n1 (hh.1 ▸ hy))]; exact hyu⟩)
   (fun b hb hnb v fz c hh => by
     rw [a0t, if_neg (n2 b hb)] at hh
     exact hnb _ _ _ hh)
   (fun g hg hl => hl.reviveRow fun hx => u2 g g hx hg rfl) (fun _ _ _ hr => hr)
  obtain ⟨γ2, k1, k2, k3, k4, k5⟩ := e5x r γ _ is' ns' hc hp hap.tail hfl.2 u1 ho'
  have e1 : b5i (.row x ver e t :: r) (.row t l :: ns') = .cell x (.own e t ver l) :: b5i r ns' := by simp [b5i]
  rw [e1]
  exact ⟨γ2, k1, k2, k3, k4, fun g hg hn => k5 g (hg.reviveRow fun hx => hn ⟨_, List.mem_cons_self, hx⟩) fun ⟨it, hit, hb⟩ => hn ⟨it, by simp [hit], hb⟩⟩
 | .box b bv cs :: r, γ, env, is, ns, h, ⟨is', us, h1, h2, h3, h4, h5, h6, h7, h8⟩, hap, hfl, hu, ho => by
  subst h1
  obtain ⟨cs', ns', us', rfl, hbo, ⟨T, hT⟩, ho'⟩ := ho
  obtain ⟨u1, u2⟩ := g5w hu
  obtain ⟨n1, n2⟩ := hap.box
  have hrc := i6n h6 hbo
  have hc := h.reviveBox (bv := bv) h2 h3 h4 h5 hT hrc
  have hno := h3z (cs' := cs') h7
  have hp : Pend A { γ with φ := b6s γ (.box b) fun _ j => us'.getD j undef } Fr w' ((.box b, .box bv false (List.zipWith f1z cs cs')) :: env) r is' := by
   refine Pend.congr (γ := γ) (γ' := { γ with φ := b6s γ (.box b) fun _ j => us'.getD j undef }) rfl rfl h8 (fun y hy => ⟨by simp [b6s, n2 y hy], fun hyu => by rw [a2d, if_neg (Ne.symm (n2 y hy))]; exact hyu⟩) (fun b' hb' hnb v fz c hh => ?_) (fun g hg hl => hl.reviveBox (fun e => u2 _ g rfl hg e) hno) (fun cs2 us2 hpl hr => ?_)
   · rw [Env.get_cons_ne _ _ (fun e => n1 (by injection e with e; rw [e]; exact hb'))] at hh
     exact hnb _ _ _ hh
   · exact RelCs.of_get hr.length fun j c u hcj huj => by
      obtain ⟨u2, hu2, hg⟩ := hr.get hcj
      rw [huj] at hu2
      injection hu2 with hu2
      subst hu2
      exact ⟨hg.1.move (fun _ _ _ => rfl) (fun _ _ _ => rfl) (fun _ hz => hz) (fun _ _ => rfl) (Nat.le_refl _) (fun _ _ _ => rfl), hg.2⟩
  obtain ⟨γ2, k1, k2, k3, k4, k5⟩ := e5x r _ _ is' ns' hc hp hap.tail (by simpa [c9v] using hfl) u1 ho'
  exact ⟨γ2, k1, k2, k3, k4, fun g hg hn => k5 g (hg.reviveBox (fun e => hn ⟨_, List.mem_cons_self, by simp [Item.block, e]⟩) hno) fun ⟨it, hit, hb⟩ => hn ⟨it, by simp [hit], hb⟩⟩
theorem h6k (h : Core A X γ Fr env a w) (hst : Stable A.n0 A.G) (hG0 : e7a A) {f : FuncId} {C : MContract} (hC : c4m A.P A.n0 A.G f C) {as : List (Bool × List Cell)} {vs : List Value} (hr : RelComps A γ w Fr as vs)
 {cs : List (Bool × List Cell)} {us : List Upd} {l0 l1 : List Slot} (he : (i4w C vn as).eval env.get l0 = some ((cs, us), l1)) :
 FCalls A.P f vs.toArray w fun v w' => ∃ γ2 uss fv, v = e6n uss ∧ Core A X γ2 Fr (a0u env us) a w' ∧ uss.length = cs.length ∧
  (∀ i p, cs[i]? = some p → uss[i]? = some (a3a p.1 ((List.range p.2.length).map (fv i)))) ∧ f4t A γ2 w' Fr vn (a0u env us) cs fv := by
 simp only [i4w, Rd.eval_bind, Option.bind_eq_some_iff] at he
 obtain ⟨⟨q, l2⟩, h1, h2⟩ := he
 obtain ⟨xs, ss, ls⟩ := q
 simp only at h2
 cases hok : i6f ls ss with
 | false => rw [hok] at h2; simp [Rd.eval] at h2
 | true =>
 rw [hok] at h2
 simp only [Bool.not_true, cond_false, Rd.eval_bind, Option.bind_eq_some_iff] at h2
 obtain ⟨⟨us0, l4⟩, h3, h4⟩ := h2
 simp only [Rd.eval, Option.bind_eq_some_iff, Option.some.injEq, Prod.mk.injEq] at h4
 obtain ⟨⟨r, m⟩, hF, ⟨rfl, rfl⟩, _⟩ := h4
 have hk := i8n hok
 have hsrc := d0j C.As as h1
 simp only at h3 hF hsrc
 have hZ0 : ∀ g, γ.Z g → a6q γ ss g := fun g hg => .inl hg
 obtain ⟨is, hargs, hls, hlt0⟩ := c1c h (a6q γ ss) hZ0 C.As as hr h1 fun g hg => hg
 simp only at hargs hls hlt0
 have hlt : ∀ g, a6q γ ss g → g < w.heap.size := by
  rintro g (hg | ⟨s, hs, hg⟩)
  · exact h.zone g hg
  · exact hlt0 s hs g hg
 have hsep := j2t h hst hG0 hls hk hsrc
 have key : ∃ γ1, Core A X γ1 Fr (a0u env us0) a w ∧ ZExt γ γ1 ∧ (freezes C.R C.modes = true → ∀ g, a6q γ ss g → γ1.Z g) ∧ (∀ u ∈ us0, ∃ x c, u = Upd.cell x c ∧ Src.row x ∈ ss) := by
  cases hf : freezes C.R C.modes with
  | true =>
   rw [hf] at h3
   obtain ⟨γ1, k1, k2, k3⟩ := b7x ss [] γ env us0 _ _ h (fun _ _ => rfl) (fun y hy => by simp [a9w] at hy) h3
   exact ⟨γ1, k1, k2, fun _ => k3, e7j ss [] h3⟩
  | false =>
   rw [hf] at h3
   simp only [cond_false, Rd.eval, Option.some.injEq, Prod.mk.injEq] at h3
   obtain ⟨rfl, _⟩ := h3
   exact ⟨γ, h, ZExt.refl γ, fun hh => (by cases hh), by simp⟩
 obtain ⟨γ1, c1, hz1, hfz, hus0⟩ := key
 have hls1 : LsRel γ1 (a0u env us0) ls is := by
  refine LsRel.congr hz1.2.2.1 hz1.2.1 hls (fun x hx => e8a us0 env x fun u hu => ?_) (fun b hb => f2e us0 env _ fun u hu => ?_)
  · obtain ⟨y, c, rfl, hy⟩ := hus0 u hu
    refine ⟨y, c, rfl, fun e => ?_⟩
    have := hk.srcs _ hy
    simp only [f4y, Bool.not_eq_true'] at this
    rw [e, (c5u x _).2 hx] at this
    cases this
  · obtain ⟨y, c, rfl, hy⟩ := hus0 u hu
    refine ⟨y, c, rfl, fun e => ?_⟩
    obtain ⟨e', t', ver', l', hyc⟩ := hsrc _ hy
    have hbx : ∀ {ls : List Lsrc} {is : List Item}, LsRel γ env ls is → b ∈ a0l ls → ∃ bv cs, env.get (.box b) = .box bv false cs ∧ cs.all plainCell = true := by
     intro ls
     induction ls with
     | nil => intro is _ hb; simp [a0l] at hb
     | cons s r ih =>
      intro is hl hb
      cases s with
      | row x ver e t => obtain ⟨is', l, _, _, h3⟩ := hl; exact ih h3 (by simpa [a0l] using hb)
      | nil e t => obtain ⟨is', _, h3⟩ := hl; exact ih h3 (by simpa [a0l] using hb)
      | box b' bv cs =>
       obtain ⟨is', _, h2, h3, h4⟩ := hl
       simp only [a0l, List.mem_cons] at hb
       rcases hb with rfl | hb
       · exact ⟨bv, cs, h2, h3⟩
       · exact ih h4 hb
    obtain ⟨bv, cs, hb1, hb2⟩ := hbx hls hb
    unfold a0g at hyc
    rw [e, hb1] at hyc
    cases hi : y.c with
    | zero =>
     rw [hi] at hyc
     have := i2v hb2 _ (List.mem_of_getElem? hyc)
     simp [Cell.isOwn] at this
    | succ i => rw [hi] at hyc; simp [AV.cell?] at hyc
 have hap : LsApart ls := ⟨hk.rows, hk.boxes, hk.far⟩
 obtain ⟨c2, hpend, kl1, kl2, _, _⟩ := g3c ls _ is c1 hls1 hap
 refine (hC w (a6q γ ss) vs xs r m is h.glob hlt hargs hsep hF).mono ?_
 rintro v w' ⟨Z', uss, rfl, hfr, hsub, hsup, ⟨f', hl, hcell, huniq⟩, hout⟩
 have hG : A.G w' := hst.2 w w' h.glob hfr.size fun k hkk => hfr.block k (Nat.lt_of_lt_of_le hkk (hst.1 w h.glob)) fun hL => by have := (hsep.zone k hL).2.2; omega
 have c3 := c2.worldM hfr.os hfr.tape hfr.output hfr.size hfr.drawn (fun k hkk hnl => hfr.block k hkk fun hL => hnl (kl2 k hL)) hG
 have hZw : ∀ g, γ1.Z g → w'.heap[g]? = w.heap[g]? := fun g hg => hfr.block g (c1.zone g hg) fun hL => (kl2 g hL).2.1 hg
 have hpend' : Pend A γ1 Fr w' (a0u (a0u env us0) (a7m ls)) ls is := Pend.congr rfl rfl hpend (fun x _ => ⟨rfl, fun h => h⟩) (fun b _ h => h) (fun g _ h => h) fun cs us hpl hrc =>
  RelCs.of_get hrc.length fun j c u hcj huj => by
   obtain ⟨u2, hu2, hg⟩ := hrc.get hcj
   rw [huj] at hu2
   injection hu2 with hu2
   subst hu2
   exact hg.world hZw hfr.size
 have hZ2lt : ∀ g, (γ1.Z g ∨ (Z' g ∧ w.heap.size ≤ g)) → g < w'.heap.size := by
  rintro g (hg | ⟨hg, _⟩)
  · exact c3.zone g hg
  · rcases hsup g hg with hg | hg
    · exact Nat.lt_of_lt_of_le (hlt g hg) hfr.size
    · exact hg.2
 have c4 := c3.zoneGrow (Z2 := fun g => γ1.Z g ∨ (Z' g ∧ w.heap.size ≤ g)) (fun g hg => .inl hg) (fun g hg => hg.imp id fun hh => c2.free_new hh.2) hZ2lt (fun g hg => hg.imp id fun hh => Nat.le_trans h.frame.size hh.2)
 have hpend2 : Pend A { γ1 with Z := fun g => γ1.Z g ∨ (Z' g ∧ w.heap.size ≤ g) } Fr w' (a0u (a0u env us0) (a7m ls)) ls is := Pend.congr (γ := γ1) (γ' := { γ1 with Z := fun g => γ1.Z g ∨ (Z' g ∧ w.heap.size ≤ g) }) rfl rfl hpend' (fun x _ => ⟨rfl, fun h => h⟩) (fun b _ h => h)
  (fun g hL hlo => ⟨hlo.1, fun hz => hz.elim hlo.2.1 fun hh => by have := (hsep.zone g hL).2.1; omega, hlo.2.2.1, hlo.2.2.2⟩)
  (fun cs us hpl hrc => hrc.zext (γ := γ1) (γ' := { γ1 with Z := fun g => γ1.Z g ∨ (Z' g ∧ w.heap.size ≤ g) }) ⟨rfl, rfl, rfl, fun g hg => .inl hg⟩)
 obtain ⟨γ2, c5, e1, e2, e3, kl3⟩ := e5x ls _ _ is (c6v C.As m) c4 hpend2 hap hk.flat hsep.uniq hout
 have henv : a0u env (us0 ++ (a7m ls ++ b5i ls (c6v C.As m))) = a0u (a0u (a0u env us0) (a7m ls)) (b5i ls (c6v C.As m)) := by rw [a3u, a3u]
 rw [henv]
 refine ⟨γ2, uss, f', rfl, c5, by rw [hl]; simp [d3d], ?_, ?_⟩
 · intro i p hp
   obtain ⟨q, hq, rfl⟩ := c0u hp
   rw [(hcell i q hq).1, List.length_map]
 · refine f0n (B := w.heap.size) (Z' := Z') (avs := []) (Nat.le_trans h.baseB h.frame.size) (fun i p hp => (hcell i p hp).2) huniq rfl ?_ ?_
   · cases hf : freezes C.R C.modes with
     | true =>
      left
      intro g hg
      rw [e3]
      rcases hsup g hg with hg' | hg'
      · exact .inl (hfz hf g hg')
      · exact .inr ⟨hg, hg'.1⟩
     | false =>
      right
      simp only [freezes, j0v, Bool.or_eq_false_iff] at hf
      exact g8f C.R r C.modes hf.1 hf.2
   · intro g hB hlt' hnz
     have hfr2 := c2.free_new hB
     have hlo : Loose A { γ1 with Z := fun g => γ1.Z g ∨ (Z' g ∧ w.heap.size ≤ g) } (a0u (a0u env us0) (a7m ls)) g :=
      ⟨.inl hfr2.1, fun hz => hz.elim hfr2.2.1 fun hh => hnz hh.1, hfr2.2.2.1, hfr2.2.2.2⟩
     have := kl3 g hlo fun hL => by have := (hsep.zone g hL).2.1; omega
     exact ⟨hfr2.1, this.2⟩
end
end Go.VI
namespace Go.VI
open Go.RowKit
section
variable {A : Fix} {X : Ctx} {γ : Gh} {Fr : Nat → Prop} {env : Env} {a : Act} {w w' : World} {vn : Nat} {o : Oper} {us : List Upd} {lg : List Slot}
theorem RelArgs.keep {P : Program} {G : World → Prop} {Z Z' : Nat → Prop} {w w' : World} (hZ : ∀ g, Z g → Z' g) (hw : ∀ g, Z g → w'.heap[g]? = w.heap[g]?) :
 ∀ (As : List ATy) (xs : c4b As) (vs : List Value), a5o As = true → RelArgs P G Z w As xs vs → RelArgs P G Z' w' As xs vs
 | [], _, _, _, h => h
 | .ptr t :: r, xs, vs, hp, ⟨ad, us, vs', h1, h2, h3, h4, h5⟩ => ⟨ad, us, vs', h1, hZ _ h2, RepI.mono hZ hw _ _ _ h3, fun j u hu => by
  rw [World.cell?_of_block (w := w)]
  · exact h4 j u hu
  · have hb : (ad.add j).block = ad.block := by unfold Addr.add; split <;> rfl
    rw [hb]; exact hw _ h2, RelArgs.keep hZ hw r xs.2 vs' hp h5⟩
 | .data _ _ :: _, _, _, hp, _ => by simp [a5o] at hp
 | .clo _ _ :: _, _, _, hp, _ => by simp [a5o] at hp
 | .lrow _ _ _ :: _, _, _, hp, _ => by simp [a5o] at hp
 | .lptr _ :: _, _, _, hp, _ => by simp [a5o] at hp
theorem h7s {P : Program} {G : World → Prop} {Z Z2 : Nat → Prop} {w : World} (hZ : ∀ g, Z2 g → Z g) : ∀ (As : List ATy) (ys : a1y (i0v As)) (xs : c4b (c9d As)) (vs cs : List Value),
 a5o (c9d As) = true → g3q Z2 w (i0v As) ys vs → RelArgs P G Z w (c9d As) xs cs → RelArgs P G Z w As (i2t As ys xs) (vs ++ cs)
 | .data g t :: r, ys, xs, vs, cs, hp, ⟨us, vs', h1, h2, h3, h4⟩, hc => ⟨us, vs' ++ cs, by rw [h1]; rfl, h2, RepI.mono hZ (fun _ _ => rfl) _ _ _ h3, h7s hZ r ys.2 xs vs' cs hp h4 hc⟩
 | [], ys, xs, vs, cs, _, h, hc => by
  rw [show vs = [] from h]
  exact hc
 | .ptr t :: r, ys, xs, vs, cs, _, h, hc => by
  rw [show vs = [] from h]
  exact hc
 | .clo _ _ :: _, _, _, _, _, hp, _, _ => by simp [c9d, a5o] at hp
 | .lrow _ _ _ :: _, _, _, _, _, hp, _, _ => by simp [c9d, a5o] at hp
 | .lptr _ :: _, _, _, _, _, hp, _, _ => by simp [c9d, a5o] at hp
theorem g4a {Z : Nat → Prop} {B : Nat} {avs : List Value} : ∀ (t : Ty) (x : t.den) (ms : List RMode) (us : List Value), leads t = false → us.length = (c2t t x ms).1.length →
 (∀ (j : Nat) (rc : RCell), (c2t t x ms).1[j]? = some rc → j7z Z w B avs rc (us.getD j undef)) → RepI (fun _ => False) w t x us ∧ (c2t t x ms).2 = ms
 | .int k, n, ms, us, _, hl, h => by
  match us, hl with
  | [u], _ =>
   have := (h 0 _ rfl).2
   exact ⟨congrArg (· :: []) this, rfl⟩
 | .bool, b, ms, us, _, hl, h => by
  match us, hl with
  | [u], _ =>
   have := (h 0 _ rfl).2
   exact ⟨congrArg (· :: []) this, rfl⟩
 | .str, s, ms, us, _, hl, h => by
  match us, hl with
  | [u], _ =>
   have := (h 0 _ rfl).2
   exact ⟨congrArg (· :: []) this, rfl⟩
 | .unit, _, ms, us, _, hl, h => by
  match us, hl with
  | [], _ => exact ⟨rfl, rfl⟩
 | .pair a b, x, ms, us, hlead, hl, h => by
  simp only [leads, Bool.or_eq_false_iff] at hlead
  simp only [c2t, List.length_append] at hl h
  obtain ⟨k1, k2⟩ := g4a a x.1 ms (us.take (c2t a x.1 ms).1.length) hlead.1 (by simp; omega) fun j rc hj => by
   have hlt : j < (c2t a x.1 ms).1.length := (List.getElem?_eq_some_iff.1 hj).1
   have := h j rc (by rw [List.getElem?_append_left hlt]; exact hj)
   have e : (us.take (c2t a x.1 ms).1.length).getD j undef = us.getD j undef := by simp [List.getD, hlt]
   rw [e]; exact this
  obtain ⟨k3, k4⟩ := g4a b x.2 (c2t a x.1 ms).2 (us.drop (c2t a x.1 ms).1.length) hlead.2 (by simp; omega) fun j rc hj => by
   have := h ((c2t a x.1 ms).1.length + j) rc (by rw [List.getElem?_append_right (by omega)]; simpa using hj)
   have e : (us.drop (c2t a x.1 ms).1.length).getD j undef = us.getD ((c2t a x.1 ms).1.length + j) undef := by simp [List.getD, List.getElem?_drop]
   rw [e]; exact this
  exact ⟨⟨_, _, (List.take_append_drop _ us).symm, k1, k3⟩, k4.trans k2⟩
 | .sl t, l, ms, us, hlead, hl, h => by simp [leads] at hlead
theorem i1g {Z : Nat → Prop} {B : Nat} {avs : List Value} (f : Nat → Nat → Value) : ∀ (R : List (Bool × Ty)) (r : a1y R) (ms : List RMode) (vs : List Value) (n : Nat), (R.any fun p => leads p.2) = false → vs.length = (d3m R r ms).length →
 (∀ i p, (d3m R r ms)[i]? = some p → vs[i]? = some (a3a p.1 ((List.range p.2.length).map (f (n + i)))) ∧ (p.1 = false → p.2.length = 1) ∧ ∀ j rc, p.2[j]? = some rc → j7z Z w B avs rc (f (n + i) j)) → h7g w R r vs
 | [], r, ms, vs, n, _, hl, _ => by
  match vs, hl with
  | [], _ => rfl
 | q :: R, r, ms, vs, n, hlead, hl, h => by
  simp only [List.any_cons, Bool.or_eq_false_iff] at hlead
  match vs, hl with
  | v :: vs, hl =>
   obtain ⟨h1, h2, h3⟩ := h 0 _ rfl
   simp only [d3m] at h1 h2 h3 hl
   obtain ⟨k1, k2⟩ := g4a (w := w) (Z := Z) (B := B) (avs := avs) q.2 r.1 ms ((List.range (c2t q.2 r.1 ms).1.length).map (f (n + 0))) hlead.1 (by simp) fun j rc hj => by
    have hlt : j < (c2t q.2 r.1 ms).1.length := (List.getElem?_eq_some_iff.1 hj).1
    have e : ((List.range (c2t q.2 r.1 ms).1.length).map (f (n + 0))).getD j undef = f (n + 0) j := by simp [List.getD, hlt]
    rw [e]; exact h3 j rc hj
   simp only [List.getElem?_cons_zero, Option.some.injEq] at h1
   refine ⟨_, vs, by rw [h1], fun hg => by simpa using h2 hg, hlead.1, k1, ?_⟩
   refine i1g (Z := Z) (B := B) (avs := avs) f R r.2 (c2t q.2 r.1 ms).2 vs (n + 1) hlead.2 (by simpa using hl) fun i p hp => ?_
   have := h (i + 1) p hp
   have e : n + 1 + i = n + (i + 1) := by omega
   rw [e]
   simpa using this
theorem i4y {P : Program} {G : World → Prop} {f : FuncId} {C : Contract} (hC : Sound P G f C) {Z : Nat → Prop} {xs : c4b (c9d C.As)} {caps : List Value} (hlt : ∀ g, Z g → g < w.heap.size)
 (hp : a5o (c9d C.As) = true) (hr : (C.R.any fun p => leads p.2) = false) (h : RelArgs P G Z w (c9d C.As) xs caps) :
 j3c P G Z w (i0v C.As) C.R (fun ys => C.F (i2t C.As ys xs)) (.func (.func f) #[] caps.toArray) := by
 refine ⟨f, caps.toArray, rfl, fun w2 Z2 ys vs r hkeep hsz hG h2 hvs hF => ?_⟩
 have hc := RelArgs.keep (Z' := fun g => Z g ∨ Z2 g) (fun g hg => .inl hg) hkeep (c9d C.As) xs caps hp h
 have hall := h7s (Z := fun g => Z g ∨ Z2 g) (Z2 := Z2) (fun g hg => .inr hg) C.As ys xs vs caps hp hvs hc
 have := hC w2 (fun g => Z g ∨ Z2 g) (vs ++ caps) (i2t C.As ys xs) r hG (fun g hg => hg.elim (fun hg => Nat.lt_of_lt_of_le (hlt g hg) hsz) (h2 g)) hall hF
 have e : (vs ++ caps).toArray = vs.toArray ++ caps.toArray := by simp
 rw [e] at this
 refine this.mono ?_
 rintro v w' ⟨Z', us, rfl, hb, _, _, f', hl, hcell, _⟩
 refine ⟨us, rfl, hb, ?_⟩
 exact i1g f' C.R r C.modes us 0 hr hl fun i p hp => by
  have := hcell i p hp
  rw [Nat.zero_add]
  exact this
theorem i3x {C : Contract} {c : Cell} {us : List Upd} {e : Slot → AV} {l0 l1 : List Slot} (he : (g5u C []).eval e l0 = some ((c, us), l1)) : a5o (c9d C.As) = true ∧ (C.R.any fun p => leads p.2) = false ∧ ∃ xs : c4b (c9d C.As), c = .clo (i0v C.As) C.R (fun ys => C.F (i2t C.As ys xs)) ∧ c9d C.As = [] := by
 simp only [g5u] at he
 cases hok : (a5o (c9d C.As) && !(C.R.any fun p => leads p.2)) with
 | false => rw [hok] at he; simp [Rd.eval] at he
 | true =>
  rw [hok] at he
  simp only [Bool.and_eq_true, Bool.not_eq_true'] at hok
  simp only [cond_true, Rd.eval_bind, Option.bind_eq_some_iff] at he
  obtain ⟨⟨⟨xs, ss⟩, l3⟩, h4, ⟨us1, l4⟩, h5, h6⟩ := he
  simp only [Rd.eval, Option.some.injEq, Prod.mk.injEq] at h6
  obtain ⟨⟨rfl, rfl⟩, _⟩ := h6
  refine ⟨hok.1, hok.2, xs, rfl, ?_⟩
  revert h4
  generalize hx : xs = xs'
  clear hx h5
  revert xs xs'
  generalize c9d C.As = As
  intro xs xs' h4
  cases As with
  | nil => rfl
  | cons x r => cases x <;> simp [a0i, Rd.eval] at h4
theorem i2l {P : Program} {G : World → Prop} {Z : Nat → Prop} {w : World} : ∀ {As : List ATy} (xs : c4b As), As = [] → RelArgs P G Z w As xs []
 | [], _, _ => rfl
 | _ :: _, _, h => by cases h
theorem i0c (hcon : h5x A.P A.G X) (hlt : ∀ g, γ.Z g → g < w.heap.size) {p p' : Bool × List Cell} {v : Value} {l0 l1 : List Slot} (hr : g7p A γ w Fr p.1 p.2 v) (he : (j0o X p).eval env.get l0 = some (p', l1)) : g7p A γ w Fr p'.1 p'.2 v := by
 unfold j0o at he
 split at he
 · rename_i f
   split at he
   · rename_i C k1
     simp only [Rd.eval_bind, Option.bind_eq_some_iff] at he
     obtain ⟨⟨⟨c, us1⟩, l2⟩, h1, h2⟩ := he
     simp only [Rd.eval, Option.some.injEq, Prod.mk.injEq] at h2
     obtain ⟨rfl, _⟩ := h2
     obtain ⟨k2, k3, xs, rfl, k4⟩ := i3x h1
     obtain ⟨us, hv, hl, u, us', rfl, hg, h3⟩ := hr
     have h3 : us' = [] := h3
     subst h3
     have hu : u = .func (.func f) #[] #[] := hg.1
     subst hu
     have hclo := i4y (w := w) (hcon f C (e6l k1)) (Z := γ.Z) (xs := xs) (caps := []) hlt k2 k3 (i2l xs k4)
     exact ⟨_, hv, fun _ => rfl, _, [], rfl, ⟨hclo, rfl, by simp [refs], rfl⟩, rfl⟩
   · simp only [Rd.eval, Option.some.injEq, Prod.mk.injEq] at he
     obtain ⟨rfl, _⟩ := he
     exact hr
 · simp only [Rd.eval, Option.some.injEq, Prod.mk.injEq] at he
   obtain ⟨rfl, _⟩ := he
   exact hr
theorem f2n (hcon : h5x A.P A.G X) (hlt : ∀ g, γ.Z g → g < w.heap.size) : ∀ {as as' : List (Bool × List Cell)} {vs : List Value} {l0 l1 : List Slot}, RelComps A γ w Fr as vs → (g7n X as).eval env.get l0 = some (as', l1) → RelComps A γ w Fr as' vs
 | [], as', vs, l0, l1, hr, he => by
  simp only [g7n, Rd.eval, Option.some.injEq, Prod.mk.injEq] at he
  obtain ⟨rfl, _⟩ := he
  exact hr
 | p :: r, as', vs, l0, l1, ⟨v, vs', h1, h2, h3⟩, he => by
  simp only [g7n, Rd.eval_bind, Option.bind_eq_some_iff] at he
  obtain ⟨⟨p', l2⟩, k1, ⟨r', l3⟩, k2, k3⟩ := he
  simp only [Rd.eval, Option.some.injEq, Prod.mk.injEq] at k3
  obtain ⟨rfl, _⟩ := k3
  exact ⟨v, vs', h1, i0c hcon hlt h2 k1, f2n hcon hlt h3 k2⟩
end
end Go.VI
namespace Go.VI
open Go.RowKit
section
variable {A : Fix} {X : Ctx} {γ : Gh} {Fr : Nat → Prop} {env : Env} {a : Act} {w w' : World} {vn : Nat} {o : Oper} {us : List Upd} {lg : List Slot}
theorem OpOK.call {Fr' : Nat → Prop} {f : FuncId} {args : Array Value} (hrun : (execOp a.eval o).run A.P w = (callFunc f args).run A.P w)
 (h : FCalls A.P f args w fun v w' => Holds A X Fr' (a0u env us) (a.put o.dst v) w') : OpOK A X Fr' o us env a w := by
 intro next Q hn
 unfold Oper.wp
 rw [hrun]
 rcases h with ⟨v, w', h1, h2⟩ | ⟨h1, h2⟩
 · rw [h1]; exact hn _ _ h2
 · rw [h1, Oper.upon_enter]
   refine h2.mono ?_
   rintro e w' ⟨v, rfl, hh⟩
   exact hn _ _ hh
theorem b6m (h : Core A X γ Fr env a w) : ∀ (xs : List Operand) (ts : List TypeId) {as : List (Bool × List Cell)} {l0 l1 : List Slot}, (e4v X xs ts).eval env.get l0 = some (as, l1) → RelComps A γ w Fr as (xs.map a.eval)
 | [], ts, as, l0, l1, he => by
  simp only [e4v, Rd.eval, Option.some.injEq, Prod.mk.injEq] at he
  obtain ⟨rfl, _⟩ := he
  rfl
 | x :: r, ts, as, l0, l1, he => by
  simp only [e4v, Rd.eval_bind, Option.bind_eq_some_iff] at he
  obtain ⟨⟨av, l2⟩, h1, h2⟩ := he
  have hr := a5h h h1
  cases av with
  | val g cs =>
   simp only [Rd.eval_bind, Option.bind_eq_some_iff] at h2
   obtain ⟨⟨q, l3⟩, h3, h4⟩ := h2
   simp only [Rd.eval, Option.some.injEq, Prod.mk.injEq] at h4
   obtain ⟨rfl, _⟩ := h4
   exact ⟨_, _, rfl, hr, b6m h r _ h3⟩
  | skip => simp [Rd.eval] at h2
  | undef => simp [Rd.eval] at h2
  | tup l => simp [Rd.eval] at h2
  | box _ _ _ => simp [Rd.eval] at h2
  | num _ => simp [Rd.eval] at h2
theorem j3e (h : Core A X γ Fr env a w) (hst : Stable A.n0 A.G) (hG0 : e7a A) (hcon : h5x A.P A.G X) (hmcon : h8g A.P A.n0 A.G X) (hv : Fr vn) (hd : b2o X o) {c : Call} {f : FuncId} (ho : o.op = .call c) (hc : c.callee = .value (.func f))
 (he : (b6t X vn o).eval env.get [] = some (us, lg)) : OpOK A X (FrD Fr vn) o us env a w := by
 have hargs : (c.args.toList.map a.eval).toArray = c.args.map a.eval := by apply Array.ext'; simp
 have hrun : (execOp a.eval o).run A.P w = (callFunc f (c.args.map a.eval)).run A.P w := by simp [execOp, ho, resolve, hc, Act.eval, Deferred.ofValue, invoke]
 simp only [b6t, ho, hc] at he
 split at he
 · rename_i C0 r0 k1
   simp only [Rd.eval_bind, Option.bind_eq_some_iff] at he
   obtain ⟨⟨as0, l1⟩, h1, ⟨as, l0⟩, h0, ⟨⟨cs, us1⟩, l2⟩, h2, h3⟩ := he
   obtain ⟨C, hC, m0, m1, h2⟩ := f6c r0 C0 h2
   rw [← k1] at hC
   simp only [Rd.eval, Option.some.injEq, Prod.mk.injEq] at h3
   obtain ⟨rfl, _⟩ := h3
   have hr := f2n hcon h.zone (b6m h _ _ h1) h0
   have hs := g1g h hst (hcon f C hC) hr h2
   rw [hargs] at hs
   refine OpOK.call (f := f) (args := c.args.map a.eval) hrun (hs.mono ?_)
   rintro v w' ⟨γ2, uss, fv, rfl, c1, c2, c3, c4⟩
   rw [a3u]
   exact c1.putRes hv hd c2 c3 c4
 · simp only [Rd.eval_bind, Option.bind_eq_some_iff, Rd.eval_ofOpt, Option.map_eq_some_iff] at he
   obtain ⟨_, ⟨C, k1, rfl⟩, ⟨as, l1⟩, h1, ⟨⟨cs, us1⟩, l2⟩, h2, h3⟩ := he
   simp only [Rd.eval, Option.some.injEq, Prod.mk.injEq] at h3
   obtain ⟨rfl, _⟩ := h3
   have hr := b6m h _ _ h1
   have hs := h6k h hst hG0 (hmcon f C k1) hr h2
   rw [hargs] at hs
   refine OpOK.call (f := f) (args := c.args.map a.eval) hrun (hs.mono ?_)
   rintro v w' ⟨γ2, uss, fv, rfl, c1, c2, c3, c4⟩
   rw [a3u]
   exact c1.putRes hv hd c2 c3 c4
theorem e7v (h : Core A X γ Fr env a w) (Z : Nat → Prop) : ∀ (As : List (Bool × Ty)) (cs : List (Bool × List Cell)) {vs : List Value} {xs : a1y As} {l0 l1 : List Slot},
 RelComps A { γ with Z := Z } w Fr cs vs → (d6u As cs).eval env.get l0 = some (xs, l1) → g3q Z w As xs vs
 | [], cs, vs, xs, l0, l1, hr, he => by
  cases cs with
  | nil => exact hr
  | cons p r => simp [d6u, Rd.eval] at he
 | q :: as, cs, vs, xs, l0, l1, hr, he => by
  cases cs with
  | nil => simp [d6u, Rd.eval] at he
  | cons p r =>
   obtain ⟨g', c⟩ := p
   obtain ⟨v, vs', h1, ⟨us, hv, hl, h2⟩, h3⟩ := hr
   simp only [d6u] at he
   cases hg : (q.1 == g') with
   | false => rw [hg] at he; simp [Rd.eval] at he
   | true =>
    rw [hg] at he
    have hg : q.1 = g' := by simpa using hg
    subst hg
    simp only [cond_true] at he
    split at he
    · rename_i x hx
      simp only [Rd.eval_bind, Option.bind_eq_some_iff] at he
      obtain ⟨⟨q1, l2⟩, k1, k2⟩ := he
      simp only [Rd.eval, Option.some.injEq, Prod.mk.injEq] at k2
      obtain ⟨rfl, _⟩ := k2
      exact ⟨us, vs', by rw [h1, hv], fun hgf => by rw [h2.length]; exact hl hgf, b9u hx h2, e7v h Z as r h3 k1⟩
    · simp [Rd.eval] at he
theorem d8n : ∀ (t : Ty) (x : t.den) (ms : List RMode) (us : List Value), leads t = false → RepI (fun _ => False) w t x us →
 us.length = (c2t t x ms).1.length ∧ (∀ (j : Nat) (rc : RCell) (u : Value), (c2t t x ms).1[j]? = some rc → us[j]? = some u → ∃ c, rc = .flat c ∧ c9e c = true ∧ u = cellV c) ∧ (c2t t x ms).2 = ms
 | .int k, n, ms, us, _, h => by
  rw [show us = [.int k n] from h]
  exact ⟨rfl, fun j rc u h1 h2 => by cases j <;> simp [c2t] at h1 h2; subst h1; subst h2; exact ⟨_, rfl, rfl, rfl⟩, rfl⟩
 | .bool, b, ms, us, _, h => by
  rw [show us = [.bool b] from h]
  exact ⟨rfl, fun j rc u h1 h2 => by cases j <;> simp [c2t] at h1 h2; subst h1; subst h2; exact ⟨_, rfl, rfl, rfl⟩, rfl⟩
 | .str, s, ms, us, _, h => by
  rw [show us = [.string ⟨s.toArray⟩] from h]
  exact ⟨rfl, fun j rc u h1 h2 => by cases j <;> simp [c2t] at h1 h2; subst h1; subst h2; exact ⟨_, rfl, rfl, rfl⟩, rfl⟩
 | .unit, _, ms, us, _, h => by
  rw [show us = [] from h]
  exact ⟨rfl, fun j rc u h1 h2 => by simp at h2, rfl⟩
 | .pair a b, x, ms, us, hl, ⟨c1, c2, h0, h1, h2⟩ => by
  simp only [leads, Bool.or_eq_false_iff] at hl
  obtain ⟨k1, k2, k3⟩ := d8n a x.1 ms c1 hl.1 h1
  obtain ⟨k4, k5, k6⟩ := d8n b x.2 ms c2 hl.2 h2
  simp only [c2t, k3]
  refine ⟨by rw [h0]; simp [k1, k4], fun j rc u hj hu => ?_, k6⟩
  rw [h0] at hu
  by_cases hlt : j < c1.length
  · rw [List.getElem?_append_left (by omega)] at hj
    rw [List.getElem?_append_left hlt] at hu
    exact k2 j rc u hj hu
  · rw [List.getElem?_append_right (by omega)] at hj
    rw [List.getElem?_append_right (by omega), k1] at hu
    exact k5 _ rc u hj hu
 | .sl t, l, ms, us, hl, h => by simp [leads] at hl
theorem f2z (avs : List Value) (Z : Nat → Prop) (B : Nat) : ∀ (R : List (Bool × Ty)) (r : a1y R) (vs : List Value), h7g w R r vs → ∃ f : Nat → Nat → Value, vs.length = (d3m R r []).length ∧
 ∀ i p, (d3m R r [])[i]? = some p → vs[i]? = some (a3a p.1 ((List.range p.2.length).map (f i))) ∧ (p.1 = false → p.2.length = 1) ∧ ∀ j rc, p.2[j]? = some rc → j7z Z w B avs rc (f i j) ∧ ∃ c, rc = .flat c
 | [], r, vs, h => ⟨fun _ _ => undef, by rw [show vs = [] from h]; rfl, fun i p hp => by simp [d3m] at hp⟩
 | q :: R, r, vs, ⟨us, vs', h1, h2, h3, h4, h5⟩ => by
  obtain ⟨k1, k2, k3⟩ := d8n q.2 r.1 [] us h3 h4
  obtain ⟨f, g1, g2⟩ := f2z avs Z B R r.2 vs' h5
  refine ⟨fun i j => match i with | 0 => us.getD j undef | i + 1 => f i j, ?_, fun i p hp => ?_⟩
  · rw [h1]; simp [d3m, k3, g1]
  · cases i with
    | zero =>
     simp only [d3m, List.getElem?_cons_zero, Option.some.injEq] at hp
     subst hp
     refine ⟨by rw [h1, a2w us _ k1]; rfl, fun hg => by rw [← k1]; exact h2 hg, fun j rc hrc => ?_⟩
     have hlt : j < us.length := by rw [k1]; exact (List.getElem?_eq_some_iff.1 hrc).1
     obtain ⟨c, rfl, hz, hu⟩ := k2 j rc _ hrc (List.getElem?_eq_getElem hlt)
     refine ⟨⟨hz, ?_⟩, c, rfl⟩
     simp only
     rw [← hu, b9o (List.getElem?_eq_getElem hlt)]
    | succ i =>
     simp only [d3m, k3, List.getElem?_cons_succ] at hp
     obtain ⟨m1, m2, m3⟩ := g2 i p hp
     exact ⟨by rw [h1]; simpa using m1, m2, m3⟩
theorem h5t (h : Core A X γ Fr env a w) (hst : Stable A.n0 A.G) (hcon : h5x A.P A.G X) (hv : Fr vn) (hd : b2o X o) {c : Call} {x : Operand} (ho : o.op = .call c) (hc : c.callee = .value x) (hx : ∀ f, x ≠ .func f)
 (he : (b6t X vn o).eval env.get [] = some (us, lg)) : OpOK A X (FrD Fr vn) o us env a w := by
 have he' : ((b4s X x 0).bind fun
  | .clo as rs F => (e4v X c.args.toList c.argTypes.toList).bind fun vs =>
   (b2f vs).bind fun p => (d6u as p.1).bind fun xs =>
   .opt _ (F xs) fun r => .pure (a5f o (j0y (d3d [] vn (d3m rs r []))))
  | .func f => (Rd.ofOpt (look X.con f)).bind fun C => (e4v X c.args.toList c.argTypes.toList).bind fun as =>
   (g3w C vn as).bind fun q => .pure (q.2 ++ a5f o (j0y q.1))
  | _ => .fail).eval env.get [] = some (us, lg) := by
  simp only [b6t, ho, hc] at he
  cases x with
  | func f => exact absurd rfl (hx f)
  | tmp t => exact he
  | const k => exact he
  | global g => exact he
 simp only [Rd.eval_bind, Option.bind_eq_some_iff] at he'
 obtain ⟨⟨cc, l1⟩, h1, h2⟩ := he'
 have hg := a1n h h1
 cases cc with
 | clo as rs F =>
  simp only [Rd.eval_bind, Option.bind_eq_some_iff] at h2
  obtain ⟨⟨vs, l2⟩, h3, ⟨⟨ps, ss⟩, l3⟩, h4, ⟨xs, l4⟩, h5, h6⟩ := h2
  simp only [Rd.eval, Option.bind_eq_some_iff, Option.some.injEq, Prod.mk.injEq] at h6
  obtain ⟨r, hF, rfl, _⟩ := h6
  simp only at h5 hF
  have hr := b6m h _ _ h3
  have hps := c6s h (a6q γ ss) vs hr h4 fun _ hg => hg
  have hargs := e7v h (a6q γ ss) as ps hps h5
  have hlt : ∀ g, a6q γ ss g → g < w.heap.size := by
   rintro g (hg | ⟨s, hs, hg⟩)
   · exact h.zone g hg
   · exact e4d h vs h4 s hs g hg
  obtain ⟨f, caps, hfv, hcl⟩ := hg.1
  have hcalls := hcl w (a6q γ ss) xs _ r (fun _ _ => rfl) (Nat.le_refl _) h.glob hlt hargs hF
  refine OpOK.call (f := f) (args := (c.args.toList.map a.eval).toArray ++ caps) ?_ (hcalls.mono ?_)
  · have hargs' : (c.args.toList.map a.eval).toArray = c.args.map a.eval := by apply Array.ext'; simp
    rw [hargs']
    simp [execOp, ho, resolve, hc, hfv, Deferred.ofValue, invoke]
  · rintro e w' ⟨us1, rfl, hbel, hres⟩
    have hG : A.G w' := hst.below h.glob hbel
    have cw := h.world (row := none) ⟨hbel.os, hbel.tape, hbel.output, hbel.size, fun k hk _ => hbel.block k hk, hbel.drawn⟩ (fun g hg => by cases hg) hG
    obtain ⟨fv, g1, g2⟩ := f2z (w := w') [] γ.Z w.heap.size rs r us1 hres
    refine cw.putRes hv hd (f := fv) (by rw [g1]; simp [d3d]) (fun i p hp => ?_) (f0n (B := w.heap.size) (Z' := γ.Z) (avs := []) (Nat.le_trans h.baseB h.frame.size) (fun i p hp => ⟨(g2 i p hp).2.1, fun j rc hrc => ((g2 i p hp).2.2 j rc hrc).1⟩) ?_ rfl (.inl fun _ hg => hg) ?_)
    · obtain ⟨q, hq, rfl⟩ := c0u hp
      rw [(g2 i q hq).1, List.length_map]
    · intro i j i' j' p p' rc rc' g hp hrc ho'
      obtain ⟨_, cc, rfl⟩ := (g2 i p hp).2.2 j rc hrc
      simp [RCell.isOwn] at ho'
    · intro g hB _ _
      exact h.free_new hB
 | func f =>
  simp only [Rd.eval_bind, Option.bind_eq_some_iff, Rd.eval_ofOpt, Option.map_eq_some_iff] at h2
  obtain ⟨_, ⟨C, k1, rfl⟩, ⟨as, l1⟩, h3, ⟨⟨cs, us1⟩, l2⟩, h4, h5⟩ := h2
  simp only [Rd.eval, Option.some.injEq, Prod.mk.injEq] at h5
  obtain ⟨rfl, _⟩ := h5
  have hfv : a.eval x = .func (.func f) #[] #[] := hg.1
  have hargs : (c.args.toList.map a.eval).toArray = c.args.map a.eval := by apply Array.ext'; simp
  have hrun : (execOp a.eval o).run A.P w = (callFunc f (c.args.map a.eval)).run A.P w := by simp [execOp, ho, resolve, hc, hfv, Deferred.ofValue, invoke]
  have hr := b6m h _ _ h3
  have hs := g1g h hst (hcon f C (e6l k1)) hr h4
  rw [hargs] at hs
  refine OpOK.call (f := f) (args := c.args.map a.eval) hrun (hs.mono ?_)
  rintro v w' ⟨γ2, uss, fv, rfl, c1, c2, c3, c4⟩
  rw [a3u]
  exact c1.putRes hv hd c2 c3 c4
 | _ => simp [Rd.eval] at h2
end
end Go.VI
namespace Go.VI
open Go.RowKit
section
variable {A : Fix} {X : Ctx} {γ : Gh} {Fr : Nat → Prop} {env : Env} {a : Act} {w w' : World} {vn : Nat} {o : Oper} {us : List Upd} {lg : List Slot}
theorem RelComps.zext {γ' : Gh} (hz : ZExt γ γ') : ∀ {cs : List (Bool × List Cell)} {vs : List Value}, RelComps A γ w Fr cs vs → RelComps A γ' w Fr cs vs
 | [], _, h => h
 | _ :: _, _, ⟨v, vs', h1, ⟨us, k1, k2, k3⟩, h3⟩ => ⟨v, vs', h1, ⟨us, k1, k2, RelCs.zext hz k3⟩, RelComps.zext hz h3⟩
theorem Core.freezeBox (h : Core A X γ Fr env a w) {b bv : Nat} {fz : Bool} {cs : List Cell} (hb : env.get (.box b) = .box bv fz cs) (hlb : b < a0s) :
 Core A X { γ with Z := fun g => γ.Z g ∨ g = γ.σ b bv } Fr ((.box b, .box bv true cs) :: env) a w := by
 have hget : ∀ b1 v1 f1 c1, Env.get ((.box b, .box bv true cs) :: env) (.box b1) = .box v1 f1 c1 → ∃ f0, env.get (.box b1) = .box v1 f0 c1 ∧ (b1 = b → f1 = true) ∧ (b1 ≠ b → f0 = f1) := by
  intro b1 v1 f1 c1 h1
  by_cases e : b1 = b
  · subst e
    rw [Env.get_cons_self] at h1
    injection h1 with h1 h2 h3
    subst h1; subst h2; subst h3
    exact ⟨fz, hb, fun _ => rfl, fun hh => absurd rfl hh⟩
  · rw [Env.get_cons_ne _ _ (by intro hh; injection hh with hh; exact e hh.symm)] at h1
    exact ⟨f1, h1, fun hh => absurd hh e, fun _ => rfl⟩
 have hcell : ∀ x, a0g ((.box b, .box bv true cs) :: env) x = a0g env x := by
  intro x
  unfold a0g
  by_cases e : x.s = .box b
  · rw [e, Env.get_cons_self, hb]
    obtain ⟨s, c, j⟩ := x
    cases c <;> rfl
  · rw [Env.get_cons_ne _ _ (fun hh => e hh.symm)]
 obtain ⟨⟨T, b1⟩, b2, b3, b4⟩ := h.box b bv fz cs hb
 have hlt : γ.σ b bv < w.heap.size := (Array.getElem?_eq_some_iff.1 b1).1
 refine { frame := h.frame, glob := h.glob, zone := fun g hg => hg.elim (h.zone g) fun e => e ▸ hlt, zone0 := ⟨fun g hg => .inl (h.zone0.1 g hg), fun g hg => hg.elim (h.zone0.2 g) fun e => .inr (e ▸ b2.1 hlb)⟩, defers := h.defers, size := h.size, ntl := h.ntl, baseB := h.baseB, tmp := ?_, box := ?_, cell := ?_, own := ?_, inj := ?_, fresh := ?_, lent := h.lent, lentloc := ?_ }
 · intro t
   rw [Env.get_cons_ne _ _ (by simp)]
   exact h.tmp t
 · intro b1 v1 f1 c1 h1
   obtain ⟨f0, k1, k2, k3⟩ := hget b1 v1 f1 c1 h1
   obtain ⟨a1, a2, a3, a4⟩ := h.box b1 v1 f0 c1 k1
   refine ⟨a1, a2, ⟨fun hf => ?_, fun hz => ?_⟩, a4⟩
   · by_cases e : b1 = b
     · subst e
       rw [hb] at k1
       injection k1 with k1 _ _
       exact .inr (by rw [k1])
     · have hf0 : f0 = true := by rw [k3 e]; exact hf
       exact .inl (a3.1 hf0)
   · by_cases e : b1 = b
     · exact k2 e
     · rcases hz with hz | hz
       · rw [← k3 e]; exact a3.2 hz
       · exact absurd (h.inj b1 b v1 bv f0 fz c1 cs k1 hb hz) e
 · intro x c hc
   rw [hcell] at hc
   obtain ⟨a1, a2, a3⟩ := h.cell x c hc
   exact ⟨a1.move (fun _ _ _ => rfl) (fun _ _ _ => rfl) (fun _ hz => .inl hz) (fun _ _ => rfl) (Nat.le_refl _) (fun _ _ _ => rfl), a2, a3⟩
 · intro x e t ver l hc
   rw [hcell] at hc
   obtain ⟨k1, k2, k3⟩ := h.own x e t ver l hc
   refine ⟨k1, k2, fun g hg => ?_⟩
   obtain ⟨a1, a2, a3⟩ := k3 g hg
   refine ⟨?_, ?_, ?_⟩
   · rintro (hz | hz)
     · exact a1 hz
     · exact a2 b bv fz cs hb hz.symm
   · intro b1 v1 f1 c1 h1
     obtain ⟨f0, q1, _⟩ := hget b1 v1 f1 c1 h1
     exact a2 b1 v1 f0 c1 q1
   · intro y e' t' ver' l' hy
     rw [hcell] at hy
     exact a3 y e' t' ver' l' hy
 · intro x1 x2 v1 v2 f1 f2 c1 c2 h1 h2 hs
   obtain ⟨g1, q1, _⟩ := hget x1 v1 f1 c1 h1
   obtain ⟨g2, q2, _⟩ := hget x2 v2 f2 c2 h2
   exact h.inj x1 x2 v1 v2 g1 g2 c1 c2 q1 q2 hs
 · intro x e t ver l hc
   rw [hcell] at hc
   exact h.fresh x e t ver l hc
 · intro k c j cl hc
   rw [hcell] at hc
   exact h.lentloc k c j cl hc
theorem b9d {env0 : Env} : ∀ (ss : List Src) (xs : List Nat) (γ : Gh) (env1 : Env) (us : List Upd) (lg lg' : List Slot),
 Core A X γ Fr env1 a w → (∀ b, c4j b xs = false → env1.get (.box b) = env0.get (.box b)) →
 (∀ b, c4j b xs = true → ∃ bv fz cs, env0.get (.box b) = .box bv fz cs ∧ γ.Z (γ.σ b bv)) →
 (∀ b bv, Src.arr b bv ∈ ss → ∃ fz cs, env0.get (.box b) = .box bv fz cs) →
 (c1x xs ss).eval env0.get lg = some (us, lg') → ∃ γ', Core A X γ' Fr (a0u env1 us) a w ∧ ZExt γ γ' ∧ ∀ g, a6q γ ss g → γ'.Z g
 | [], xs, γ, env1, us, lg, lg', hc, hag, hx, hb, he => by
  simp only [c1x, Rd.eval, Option.some.injEq, Prod.mk.injEq] at he
  obtain ⟨rfl, _⟩ := he
  refine ⟨γ, hc, ZExt.refl γ, fun g hg => ?_⟩
  rcases hg with hg | ⟨s, hs, _⟩
  · exact hg
  · cases hs
 | .row x :: r, xs, γ, env1, us, lg, lg', hc, hag, hx, hb, he => by simp [c1x, Rd.eval] at he
 | .arr b bv :: r, xs, γ, env1, us, lg, lg', hc, hag, hx, hb, he => by
  simp only [c1x] at he
  cases hm : c4j b xs with
  | true =>
   rw [hm] at he
   obtain ⟨γ', k1, k2, k3⟩ := b9d r xs γ env1 us lg lg' hc hag hx (fun b' bv' hs => hb b' bv' (List.mem_cons_of_mem _ hs)) he
   refine ⟨γ', k1, k2, fun g hg => ?_⟩
   rcases hg with hg | ⟨s, hs, hsb⟩
   · exact k2.2.2.2 g hg
   · rcases List.mem_cons.1 hs with rfl | hs
     · obtain ⟨bv1, fz1, cs1, q1, q2⟩ := hx b hm
       obtain ⟨fz2, cs2, q3⟩ := hb b bv (List.mem_cons_self ..)
       rw [q1] at q3
       injection q3 with q3 _ _
       have hsb : γ.σ b bv = g := hsb
       rw [← hsb, ← q3]
       exact k2.2.2.2 _ q2
     · exact k3 g (.inr ⟨s, hs, hsb⟩)
  | false =>
   rw [hm] at he
   simp only [cond_false, Rd.eval_bind, Option.bind_eq_some_iff] at he
   obtain ⟨⟨⟨fz, cs⟩, l1⟩, h1, h2⟩ := he
   simp only at h2
   cases hfz : fz with
   | true =>
    rw [hfz] at h2
    simp only [cond_true] at h2
    have hb0 := a5b h1
    have hb1 : env1.get (.box b) = .box bv fz cs := by rw [hag b hm]; exact hb0
    have hzb : γ.Z (γ.σ b bv) := (hc.box b bv fz cs hb1).2.2.1.1 hfz
    obtain ⟨γ', k1, k2, k3⟩ := b9d r (b :: xs) γ env1 us l1 lg' hc (fun b' hb' => by
     simp only [c4j, Bool.or_eq_false_iff] at hb'
     exact hag b' hb'.2) (fun b' hb' => by
     simp only [c4j, Bool.or_eq_true] at hb'
     rcases hb' with hb' | hb'
     · have e : b' = b := (Nat.eq_of_beq_eq_true hb').symm
       subst e
       exact ⟨bv, fz, cs, hb0, hzb⟩
     · exact hx b' hb') (fun b' bv' hs => hb b' bv' (List.mem_cons_of_mem _ hs)) h2
    refine ⟨γ', k1, k2, fun g hg => ?_⟩
    rcases hg with hg | ⟨s, hs, hsb⟩
    · exact k2.2.2.2 g hg
    · rcases List.mem_cons.1 hs with rfl | hs
      · have hsb : γ.σ b bv = g := hsb
        rw [← hsb]
        exact k2.2.2.2 _ hzb
      · exact k3 g (.inr ⟨s, hs, hsb⟩)
   | false =>
   rw [hfz] at h2
   simp only [cond_false] at h2
   cases hok : (Nat.blt b a0s && cs.all plainCell) with
   | false => rw [hok] at h2; simp [Rd.eval] at h2
   | true =>
    rw [hok] at h2
    simp only [cond_true, Rd.eval_bind, Option.bind_eq_some_iff] at h2
    obtain ⟨⟨us1, l2⟩, h3, h4⟩ := h2
    simp only [Rd.eval, Option.some.injEq, Prod.mk.injEq] at h4
    obtain ⟨rfl, _⟩ := h4
    have hlt : b < a0s := by
     simp only [Bool.and_eq_true] at hok
     exact Nat.le_of_ble_eq_true hok.1
    have hb0 := a5b h1
    have hb1 : env1.get (.box b) = .box bv fz cs := by rw [hag b hm]; exact hb0
    have hk := hc.freezeBox hb1 hlt
    have hz : ZExt γ { γ with Z := fun g => γ.Z g ∨ g = γ.σ b bv } := ⟨rfl, rfl, rfl, fun g hg => .inl hg⟩
    obtain ⟨γ', k1, k2, k3⟩ := b9d r (b :: xs) _ _ us1 _ l2 hk (fun b' hb' => by
     simp only [c4j, Bool.or_eq_false_iff] at hb'
     have hne : b' ≠ b := fun e => by rw [e, Nat.beq_refl] at hb'; exact absurd hb'.1 (by simp)
     rw [Env.get_cons_ne _ _ (by intro hh; injection hh with hh; exact hne hh.symm)]
     exact hag b' hb'.2) (fun b' hb' => by
     simp only [c4j, Bool.or_eq_true] at hb'
     rcases hb' with hb' | hb'
     · have e : b' = b := (Nat.eq_of_beq_eq_true hb').symm
       subst e
       exact ⟨bv, fz, cs, hb0, .inr rfl⟩
     · obtain ⟨bv1, fz1, cs1, q1, q2⟩ := hx b' hb'
       exact ⟨bv1, fz1, cs1, q1, .inl q2⟩) (fun b' bv' hs => hb b' bv' (List.mem_cons_of_mem _ hs)) h3
    refine ⟨γ', k1, hz.trans k2, fun g hg => ?_⟩
    rcases hg with hg | ⟨s, hs, hsb⟩
    · exact k2.2.2.2 g (.inl hg)
    · rcases List.mem_cons.1 hs with rfl | hs
      · have hsb : γ.σ b bv = g := hsb
        exact k2.2.2.2 g (.inr hsb.symm)
      · exact k3 g (.inr ⟨s, hs, hsb⟩)
theorem h7d (h : Holds A X Fr env a w) (c : Operand) : Holds A X Fr (i2x env c) a w := by
 unfold i2x
 split
 · split
   · split
     · rename_i b bv _ _ v cs hb
       cases hok : (Nat.beq v bv && (Nat.blt b a0s && cs.all plainCell)) with
       | false => exact h
       | true =>
        simp only [Bool.and_eq_true] at hok
        obtain ⟨γ, hc⟩ := h
        exact ⟨_, hc.freezeBox hb (Nat.le_of_ble_eq_true hok.2.1)⟩
     · exact h
   · exact h
 · exact h
theorem f2k : ∀ (cs : List Operand) {env : Env}, Holds A X Fr env a w → Holds A X Fr (i4p cs env) a w
 | [], _, h => h
 | c :: r, _, h => f2k r (h7d h c)
theorem d6a : ∀ (ops : List Oper) {env : Env}, Holds A X Fr env a w → Holds A X Fr (f7q ops env) a w
 | [], _, h => h
 | o :: r, env, h => by
  unfold f7q
  split
  · exact d6a r (f2k _ h)
  · exact d6a r h
theorem i7j {c : Cell} {cs : List Cell} {ss : List Src} {l0 l1 : List Slot} (he : (h7t c).eval env.get l0 = some ((cs, ss), l1)) : ∀ b bv, Src.arr b bv ∈ ss → ∃ fz cs0, env.get (.box b) = .box bv fz cs0 := by
 unfold h7t at he
 split at he
 · rename_i b0 bv0
   simp only [Rd.eval_bind, Option.bind_eq_some_iff] at he
   obtain ⟨⟨⟨fz, cs0⟩, l4⟩, m1, m2⟩ := he
   simp only [Rd.eval, Option.some.injEq, Prod.mk.injEq] at m2
   obtain ⟨⟨_, rfl⟩, _⟩ := m2
   intro b bv hs
   have := List.mem_singleton.1 hs
   injection this with h1 h2
   subst h1; subst h2
   exact ⟨fz, cs0, a5b m1⟩
 · simp only [Rd.eval, Option.some.injEq, Prod.mk.injEq] at he
   obtain ⟨⟨_, rfl⟩, _⟩ := he
   intro b bv hs; cases hs
 · simp [Rd.eval] at he
theorem e1d : ∀ (As : List ATy) (cs : List (Bool × List Cell)) {xs : c4b As} {ss : List Src} {l0 l1 : List Slot}, a5o As = true → (a0i As cs).eval env.get l0 = some ((xs, ss), l1) →
 ∀ b bv, Src.arr b bv ∈ ss → ∃ fz cs0, env.get (.box b) = .box bv fz cs0
 | [], cs, xs, ss, l0, l1, _, he => by
  cases cs with
  | nil =>
   simp only [a0i, Rd.eval, Option.some.injEq, Prod.mk.injEq] at he
   obtain ⟨⟨_, rfl⟩, _⟩ := he
   intro b bv hs; cases hs
  | cons p r => simp [a0i, Rd.eval] at he
 | .ptr t :: as, cs, xs, ss, l0, l1, hp, he => by
  obtain ⟨c, r, rfl⟩ := c8l he
  simp only [a0i, Rd.eval_bind, Option.bind_eq_some_iff] at he
  obtain ⟨⟨⟨p1, p2⟩, l2⟩, k1, k2⟩ := he
  simp only at k2
  split at k2
  · simp only [Rd.eval_bind, Option.bind_eq_some_iff] at k2
    obtain ⟨⟨⟨q1, q2⟩, l3⟩, k3, k4⟩ := k2
    simp only [Rd.eval, Option.some.injEq, Prod.mk.injEq] at k4
    obtain ⟨⟨_, rfl⟩, _⟩ := k4
    intro b bv hs
    rcases List.mem_append.1 hs with hs | hs
    · exact i7j k1 b bv hs
    · exact e1d as r hp k3 b bv hs
  · simp [Rd.eval] at k2
 | .data _ _ :: _, _, _, _, _, _, hp, _ => by simp [a5o] at hp
 | .clo _ _ :: _, _, _, _, _, _, hp, _ => by simp [a5o] at hp
 | .lrow _ _ _ :: _, _, _, _, _, _, hp, _ => by simp [a5o] at hp
 | .lptr _ :: _, _, _, _, _, _, hp, _ => by simp [a5o] at hp
theorem i2u (h : Core A X γ Fr env a w) (hcon : h5x A.P A.G X) (hd : b2o X o) {fn : Fn} {first caps : Array Operand} (ho : o.op = .makeFunc fn first caps)
 (he : (b6t X vn o).eval env.get [] = some (us, lg)) : OpOK A X Fr o us env a w := by
 simp only [b6t, ho] at he
 split at he
 · rename_i f hfirst
   simp only [Rd.eval_bind, Option.bind_eq_some_iff, Rd.eval_ofOpt, Option.map_eq_some_iff] at he
   obtain ⟨_, ⟨C, k1, rfl⟩, ⟨vs, l1⟩, h1, ⟨⟨c, us0⟩, l2⟩, h2, h3⟩ := he
   simp only [Rd.eval, Option.some.injEq, Prod.mk.injEq] at h3
   obtain ⟨rfl, _⟩ := h3
   have hr := b6m h _ _ h1
   simp only [g5u] at h2
   cases hok : (a5o (c9d C.As) && !(C.R.any fun p => leads p.2)) with
   | false => rw [hok] at h2; simp [Rd.eval] at h2
   | true =>
    rw [hok] at h2
    simp only [Bool.and_eq_true, Bool.not_eq_true'] at hok
    simp only [cond_true, Rd.eval_bind, Option.bind_eq_some_iff] at h2
    obtain ⟨⟨⟨xs, ss⟩, l3⟩, h4, ⟨us1, l4⟩, h5, h6⟩ := h2
    simp only [Rd.eval, Option.some.injEq, Prod.mk.injEq] at h6
    obtain ⟨⟨rfl, rfl⟩, _⟩ := h6
    simp only at h5
    have hz0 : ZExt γ { γ with Z := a6q γ ss } := ⟨rfl, rfl, rfl, fun g hg => .inl hg⟩
    have hargs := a9y h (a6q γ ss) (fun g hg => .inl hg) (c9d C.As) vs (RelComps.zext hz0 hr) h4 (fun s hs g hb => .inr ⟨s, hs, hb⟩)
    have hlt : ∀ g, a6q γ ss g → g < w.heap.size := by
     rintro g (hg | ⟨s, hs, hg⟩)
     · exact h.zone g hg
     · exact b4j h (c9d C.As) vs h4 s hs g hg
    obtain ⟨γ1, c1, z1, z2⟩ := b9d ss [] γ env us1 _ _ h (fun _ _ => rfl) (fun b hb => by simp [c4j] at hb) (e1d _ _ hok.1 h4) h5
    have hclo := i4y (hcon f C (e6l k1)) hlt hok.1 hok.2 hargs
    have hrel : RelCell A γ1 w (.clo (i0v C.As) C.R (fun ys => C.F (i2t C.As ys xs))) (.func (.func f) #[] (caps.toList.map a.eval).toArray) := by
     obtain ⟨f', caps', e1, e2⟩ := hclo
     exact ⟨f', caps', e1, fun w2 Z2 ys vs r hk => e2 w2 Z2 ys vs r (fun g hg => hk g (z2 g hg))⟩
    have ecaps : (caps.toList.map a.eval).toArray = caps.map a.eval := by apply Array.ext'; simp
    rw [ecaps] at hrel
    have hfe : first = #[] := by apply Array.ext'; exact hfirst
    refine OpOK.value (w' := w) (v := .func (.func f) #[] (caps.map a.eval)) ?_ ?_
    · simp [execOp, ho, Instr.makeFunc, hfe, Sem.run_pure]
    · rw [a3u]
      exact c1.putCell hd ⟨hrel, rfl, by simp [refs], rfl⟩
 · simp [Rd.eval] at he
end
end Go.VI
namespace Go.VI
open Go.RowKit
theorem Rd.eval_log {α : Type} (env : Slot → AV) : ∀ (m : Rd α) (lg : List Slot), m.eval env lg = (m.eval env []).map fun p => (p.1, p.2 ++ lg)
 | .pure a, lg => rfl
 | .opt _ o k, lg => by
  simp only [Rd.eval]
  cases o with
  | none => rfl
  | some x => simp only [Option.bind_some]; exact Rd.eval_log env (k x) lg
 | .get s k, lg => by
  simp only [Rd.eval]
  rw [Rd.eval_log env (k (env s)) (s :: lg), Rd.eval_log env (k (env s)) [s]]
  simp [Option.map_map, Function.comp_def]
 | .guard b k, lg => by
  simp only [Rd.eval]
  cases b
  · rfl
  · exact Rd.eval_log env k lg
 | .br b k1 k2, lg => by
  simp only [Rd.eval]
  cases b
  · exact Rd.eval_log env k2 lg
  · exact Rd.eval_log env k1 lg
 | .fail, lg => rfl
theorem Rd.eval_local {α : Type} (e e' : Slot → AV) : ∀ (m : Rd α) (lg : List Slot) (x : α) (lg' : List Slot), m.eval e lg = some (x, lg') → (∀ s ∈ lg', e' s = e s) → m.eval e' lg = some (x, lg')
 | .pure a, lg, x, lg', h, _ => h
 | .opt _ o k, lg, x, lg', h, hl => by
  simp only [Rd.eval, Option.bind_eq_some_iff] at h ⊢
  obtain ⟨y, rfl, h⟩ := h
  exact ⟨y, rfl, Rd.eval_local e e' (k y) lg x lg' h hl⟩
 | .get s k, lg, x, lg', h, hl => by
  simp only [Rd.eval] at h ⊢
  have hs : s ∈ lg' := by
   rw [Rd.eval_log] at h
   simp only [Option.map_eq_some_iff, Prod.mk.injEq] at h
   obtain ⟨p, _, _, rfl⟩ := h
   simp
  rw [hl s hs]
  exact Rd.eval_local e e' (k (e s)) (s :: lg) x lg' h hl
 | .guard b k, lg, x, lg', h, hl => by
  simp only [Rd.eval] at h ⊢
  cases b
  · cases h
  · exact Rd.eval_local e e' k lg x lg' h hl
 | .br b k1 k2, lg, x, lg', h, hl => by
  simp only [Rd.eval] at h ⊢
  cases b
  · exact Rd.eval_local e e' k2 lg x lg' h hl
  · exact Rd.eval_local e e' k1 lg x lg' h hl
 | .fail, lg, x, lg', h, _ => by cases h
structure Known (A : Fix) (X : Ctx) : Prop where
 stable : Stable A.n0 A.G
 g0 : e7a A
 types : g8o A.P X
 globals : g7w A X
 con : h5x A.P A.G X
 mcon : h8g A.P A.n0 A.G X
section
variable {A : Fix} {X : Ctx} {γ : Gh} {Fr : Nat → Prop} {env : Env} {a : Act} {w w' : World} {vn : Nat} {o : Oper} {us : List Upd} {lg : List Slot}
theorem i8d (h : Core A X γ Fr env a w) (K : Known A X) (hv : Fr vn) (hd : b2o X o) {c : Call} {b : Builtin} (ho : o.op = .call c) (hc : c.callee = .builtin b) (he : (b6t X vn o).eval env.get [] = some (us, lg)) :
 OpOK A X (FrD Fr vn) o us env a w := by
 have he0 := he
 simp only [b6t, ho, hc] at he
 unfold d3r at he
 split at he
 · rename_i h1 h2
   exact (j9q h K.types hd ho hc h1 h2 he0).weaken vn
 · rename_i h1 h2
   exact j1b h K.stable K.g0 K.types hv hd ho hc h1 h2 he0
 · rename_i h1
   exact (j9c h hd ho hc h1 he0).weaken vn
 · rename_i h1
   exact (j9k h hd ho hc h1 he0).weaken vn
 · simp [Rd.eval] at he
theorem i7p (h : Core A X γ Fr env a w) (K : Known A X) (hv : Fr vn) (hd : b2o X o) (he : (b6t X vn o).eval env.get [] = some (us, lg)) : OpOK A X (FrD Fr vn) o us env a w := by
 cases ho : o.op with
 | move x => exact (j6v h hd ho he).weaken vn
 | assign x => exact j2c h hv hd ho he
 | pick c x y => exact (j7v h hd ho he).weaken vn
 | alloc T => exact j3d h K.stable K.types hv hd ho he
 | box T x => exact k0b h K.stable hv hd ho he
 | load T x => exact (j7a h K.globals K.types hd ho he).weaken vn
 | store T x y => exact j2r h K.stable K.g0 K.types hv ho he
 | nilCheck x => exact (i3h h hd ho he).weaken vn
 | build T ps => exact (j3n h K.types hd ho he).weaken vn
 | buildSlice T n ps => exact h4e h K.stable K.types hv hd ho he
 | makeSlice T n m => exact i0o h K.stable K.types hv hd ho he
 | binOp op T x y T' => exact (j3f h K.types hd ho he).weaken vn
 | unOp op T x => exact (j8g h hd ho he).weaken vn
 | convert S D x => exact i9b h K.stable K.types hv hd ho he
 | slice T x lo hi mx => exact (j3v h K.types hd ho he).weaken vn
 | fieldAddr T x f => exact (i1k h K.types hd ho he).weaken vn
 | field T x f => exact (j2p h K.types hd ho he).weaken vn
 | indexAddr T x ix => exact (h9x h K.types hd ho he).weaken vn
 | index T x ix => exact (j3s h K.types hd ho he).weaken vn
 | extract x i => exact (i7a h hd ho he).weaken vn
 | call c =>
  cases hc : c.callee with
  | builtin b => exact i8d h K hv hd ho hc he
  | value x =>
   cases x with
   | func f => exact j3e h K.stable K.g0 K.con K.mcon hv hd ho hc he
   | tmp t => exact h5t h K.stable K.con hv hd ho hc (by intro f hh; cases hh) he
   | const k => exact h5t h K.stable K.con hv hd ho hc (by intro f hh; cases hh) he
   | global g => exact h5t h K.stable K.con hv hd ho hc (by intro f hh; cases hh) he
  | invoke r n => simp [b6t, ho, hc, Rd.eval] at he
 | makeFunc fn first caps => exact (i2u h K.con hd ho he).weaken vn
 | _ => simp [b6t, ho, Rd.eval] at he
theorem i7q {ops : Array Oper} {i : Nat} (h : Core A X γ Fr env a w) (K : Known A X) (hv : Fr vn) (hoi : ops[i]? = some o) (he : (f2m X ops.toList vn o).eval env.get [] = some (us, lg))
 {Q : Exit → Act → World → Prop} {N : Act → World → Prop} (hn : ∀ a' w', Holds A X (FrD Fr vn) (a0u env us) a' w' → N a' w') : wpOp A.P ops Q i N a w := by
 unfold wpOp
 rw [hoi]
 simp only
 have stp : ∀ (t : Bool) (l0 : List Slot) (l1 : List Slot), (f9b X vn o t).eval env.get l0 = some (us, l1) → Region.wanted o (yielded ops a.tmps) = t →
  (if Region.wanted o (yielded ops a.tmps) = true then o.wp A.P a w N Q ∨ (o.asks A.P a w ∧ LetsOut Q) else N (a.put o.dst undef) w) := by
  intro t l0 l1 hs hw
  rw [hw]
  simp only [f9b, Rd.eval] at hs
  cases hd0 : k0x X o with
  | false => rw [hd0] at hs; simp at hs
  | true =>
   rw [hd0] at hs
   simp only [cond_true] at hs
   have hd : b2o X o := by
    intro d hdd
    simp only [k0x, hdd] at hd0
    exact Nat.le_of_ble_eq_true hd0
   cases t with
   | true =>
    simp only [cond_true] at hs
    rw [Rd.eval_log] at hs
    simp only [Option.map_eq_some_iff, Prod.mk.injEq] at hs
    obtain ⟨⟨us', l2⟩, hs, rfl, _⟩ := hs
    exact Or.inl (i7p h K hv hd hs N Q hn)
   | false =>
    simp only [cond_false, Rd.eval, Option.some.injEq, Prod.mk.injEq] at hs
    obtain ⟨rfl, _⟩ := hs
    simp only [Bool.false_eq_true, if_false]
    refine hn _ _ ((h.put hd (av := .skip) (v := undef) rfl (.inr (.inr rfl))).weaken vn)
 unfold f2m at he
 split at he
 · simp [Rd.eval] at he
 · rename_i hg
   refine stp true _ _ he ?_
   unfold g3f at hg
   unfold Region.wanted
   split at hg
   · rename_i hgg; rw [hgg]
   · split at hg <;> cases hg
 · rename_i d want hg
   simp only [Rd.eval] at he
   unfold g3f at hg
   split at hg
   · cases hg
   · rename_i j want' hgg
     split at hg
     · rename_i d' hdj
       simp only [Option.some.injEq, Prod.mk.injEq] at hg
       obtain ⟨rfl, rfl⟩ := hg
       have hdj' : (ops[j]?).bind (·.dst) = some d' := by simpa using hdj
       have hr := h.asRead d'
       have hwant : Region.wanted o (yielded ops a.tmps) = (yielded ops a.tmps j == some want') := by unfold Region.wanted; rw [hgg]
       have hy : yielded ops a.tmps j = match a.tmps[d']? with | some (.bool b) => some b | _ => none := by
        unfold yielded
        rw [hdj']
        rfl
       split at he
       · rename_i hsk
         rw [hsk] at hr
         have hr : a.tmps.getD d' undef = undef := hr
         refine stp false _ _ he ?_
         rw [hwant, hy]
         cases ht : a.tmps[d']? with
         | none => rfl
         | some v =>
          rw [Array.getD_eq_getD_getElem?, ht] at hr
          have hr : v = undef := hr
          subst hr
          rfl
       · rename_i b hb
         rw [hb] at hr
         have hr := (c5g hr).1
         have hr : a.tmps.getD d' undef = .bool b := hr
         refine stp _ _ _ he ?_
         rw [hwant, hy]
         cases ht : a.tmps[d']? with
         | none =>
          rw [Array.getD_eq_getD_getElem?, ht] at hr
          cases hr
         | some v =>
          rw [Array.getD_eq_getD_getElem?, ht] at hr
          have hr : v = .bool b := hr
          subst hr
          cases b <;> cases want' <;> rfl
       · simp [Rd.eval] at he
     · cases hg
end
end Go.VI
namespace Go.VI
noncomputable section
open Go.RowKit
theorem Upd.app_get (u : Upd) (env : Env) (s : Slot) (h : u.slot ≠ s) : (u.app env).get s = env.get s := by
 cases u with
 | set s' v => exact Env.get_cons_ne env v h
 | cell x c => rw [a0t, if_neg (show ¬ x.s = s from h)]
theorem Upd.app_congr (u : Upd) {e e' : Env} (h : e.get = e'.get) : (u.app e).get = (u.app e').get := by
 funext s
 cases u with
 | set s' v => simp only [Upd.app, Env.get_cons, h]
 | cell x c => simp only [a0t, h]
theorem c9u : ∀ (us : List Upd) {e e' : Env}, e.get = e'.get → (a0u e us).get = (a0u e' us).get
 | [], _, _, h => h
 | u :: r, _, _, h => c9u r (u.app_congr h)
theorem b9n : ∀ (us : List Upd) (env : Env) (s : Slot), (∀ u ∈ us, u.slot ≠ s) → (a0u env us).get s = env.get s
 | [], _, _, _ => rfl
 | u :: r, env, s, h => by
  rw [a0u, b9n r _ s fun v hv => h v (by simp [hv]), u.app_get env s (h u (by simp))]
theorem h6g (u : Upd) {e e' : Env} {s : Slot} (h : e.get s = e'.get s) : (u.app e).get s = (u.app e').get s := by
 cases u with
 | set s' v => simp only [Upd.app, Env.get_cons, h]
 | cell x c => simp only [a0t, h]
theorem e0y : ∀ (us : List Upd) {e e' : Env} {s : Slot}, e.get s = e'.get s → (a0u e us).get s = (a0u e' us).get s
 | [], _, _, _, h => h
 | u :: r, _, _, _, h => e0y r (h6g u h)
theorem i2c (us vs : List Upd) (e : Env) (h : ∀ u ∈ us, ∀ v ∈ vs, u.slot ≠ v.slot) : (a0u (a0u e us) vs).get = (a0u (a0u e vs) us).get := by
 funext s
 by_cases hs : ∃ u ∈ us, u.slot = s
 · obtain ⟨u, hu, rfl⟩ := hs
   have hv : ∀ v ∈ vs, v.slot ≠ u.slot := fun v hv e => h u hu v hv e.symm
   rw [b9n vs _ _ hv]
   exact e0y us (b9n vs e _ hv).symm
 · have hu : ∀ u ∈ us, u.slot ≠ s := fun u hu e => hs ⟨u, hu, e⟩
   rw [b9n us (a0u e vs) s hu]
   exact e0y vs (b9n us e s hu)
structure Rec where
 i : Nat
 us : List Upd
 lg : List Slot
def i3w (p q : Rec) : Prop :=
 (∀ u ∈ p.us, ∀ s ∈ q.lg, u.slot ≠ s) ∧ (∀ u ∈ q.us, ∀ s ∈ p.lg, u.slot ≠ s) ∧ ∀ u ∈ p.us, ∀ v ∈ q.us, u.slot ≠ v.slot
def Tr (S : Nat → Rd (List Upd)) : Env → List Rec → Env → Prop
 | e, [], e' => e.get = e'.get
 | e, r :: rs, e' => (S r.i).eval e.get [] = some (r.us, r.lg) ∧ Tr S (a0u e r.us) rs e'
theorem Tr.congr {S : Nat → Rd (List Upd)} : ∀ (rs : List Rec) {e e1 e' : Env}, e.get = e1.get → Tr S e rs e' → Tr S e1 rs e'
 | [], _, _, _, h, ht => h.symm.trans ht
 | r :: rs, _, _, _, h, ht => ⟨by rw [← h]; exact ht.1, Tr.congr rs (c9u r.us h) ht.2⟩
theorem Tr.swap {S : Nat → Rd (List Upd)} {e e' : Env} {p q : Rec} {rs : List Rec} (h : Tr S e (p :: q :: rs) e') (hi : i3w p q) : Tr S e (q :: p :: rs) e' := by
 obtain ⟨h1, h2, h3⟩ := h
 refine ⟨Rd.eval_local _ _ _ _ _ _ h2 fun s hs => (b9n p.us e s fun u hu => hi.1 u hu s hs).symm, Rd.eval_local _ _ _ _ _ _ h1 fun s hs => b9n q.us e s fun u hu => hi.2.1 u hu s hs, ?_⟩
 exact Tr.congr rs (i2c p.us q.us e hi.2.2) h3
theorem Tr.front {S : Nat → Rd (List Upd)} {r : Rec} {post : List Rec} {e' : Env} : ∀ (pre : List Rec) {e : Env}, Tr S e (pre ++ r :: post) e' → (∀ p ∈ pre, i3w p r) → Tr S e (r :: (pre ++ post)) e'
 | [], _, h, _ => h
 | p :: pre, _, h, hi => by
  have ih := Tr.front pre h.2 fun q hq => hi q (by simp [hq])
  exact Tr.swap (rs := pre ++ post) ⟨h.1, ih⟩ (hi p (by simp))
theorem g7v (s : Slot) (l : List Slot) : f8p s l = true ↔ s ∈ l := by
 induction l with
 | nil => simp [f8p]
 | cons x r ih =>
  simp only [f8p, Bool.or_eq_true, Slot.beq_iff, ih, List.mem_cons]
  exact ⟨fun h => h.imp Eq.symm id, fun h => h.imp Eq.symm id⟩
theorem j2l (xs ys : List Slot) : apart xs ys = true ↔ ∀ x ∈ xs, ∀ y ∈ ys, x ≠ y := by
 simp only [apart, List.all_eq_true, Bool.not_eq_true']
 constructor
 · intro h x hx y hy e
   have := h x hx
   rw [e, (g7v y ys).2 hy] at this
   cases this
 · intro h x hx
   cases hm : f8p x ys with
   | false => rfl
   | true => exact absurd rfl (h x hx x ((g7v x ys).1 hm))
theorem h3g {ws : Nat} {f : Foot} : ∀ {n : Nat} {fs : List Foot}, h1o ws f n fs = true → ∀ k g, fs[k]? = some g → ws.testBit (n + k) = true ∨ (apart f.w g.r = true ∧ apart f.w g.w = true ∧ apart f.r g.w = true)
 | n, [], _, k, g, hg => by simp at hg
 | n, g0 :: r, h, k, g, hg => by
  simp only [h1o, Bool.and_eq_true, Bool.or_eq_true] at h
  cases k with
  | zero =>
   simp at hg
   subst hg
   rcases h.1 with hb | hb
   · exact .inl (by simpa using hb)
   · exact .inr ⟨hb.1.1, hb.1.2, hb.2⟩
  | succ k =>
   have := h3g h.2 k g (by simpa using hg)
   rwa [show n + 1 + k = n + (k + 1) by omega] at this
def a6i : List Oper → List Nat → List Nat
 | [], bs => bs
 | o :: r, bs => a6i r (bs ++ [c3k bs o])
theorem c4o : ∀ (os : List Oper) (bs : List Nat) (i : Nat), i < bs.length → (a6i os bs)[i]? = bs[i]?
 | [], _, _, _ => rfl
 | o :: r, bs, i, h => by rw [a6i, c4o r _ i (by simp; omega), List.getElem?_append_left h]
section
variable {X : Ctx} {all : List Oper} {vn : Nat} {draw : Bool}
def e2a (X : Ctx) (all : List Oper) (vn : Nat) (i : Nat) : Rd (List Upd) :=
 match all[i]? with
 | some o => f2m X all (vn + i) o
 | none => .fail
structure Done (W : List Nat) (done : List Rec) (feet : List Foot) : Prop where
 len : done.length = feet.length
 foot : ∀ k (r : Rec) (f : Foot), done[k]? = some r → feet[k]? = some f → r.i = k ∧ (∀ s ∈ r.lg, s ∈ f.r) ∧ ∀ u ∈ r.us, u.slot ∈ f.w
 pw : done.Pairwise fun p q => (W.getD q.i 0).testBit p.i = true ∨ i3w p q
theorem e1v {ρ : Type} : ∀ (os : List Oper) (st : RegSt) (env : Env) (K : Env → Option ρ) (out : ρ) (done : List Rec) (pre : List Oper), all = pre ++ os → st.waits.length = pre.length →
 (draw = true → st.feet.length = pre.length ∧ Done (a6i os st.waits) done st.feet) →
 f9n X draw all vn os st env K = some out →
 ∃ recs env', Tr (e2a X all vn) env recs env' ∧ K env' = some out ∧ (∀ k r, recs[k]? = some r → r.i = pre.length + k) ∧ recs.length = os.length ∧
  (draw = true → (∀ j o, os[j]? = some o → f0o (pre.length + j) o = true) ∧ (done ++ recs).Pairwise fun p q => ((a6i os st.waits).getD q.i 0).testBit p.i = true ∨ i3w p q)
 | [], st, env, K, out, done, pre, hall, hw, hd, h => by
  refine ⟨[], env, rfl, h, by simp, rfl, fun hdr => ⟨by simp, ?_⟩⟩
  rw [List.append_nil]
  exact (hd hdr).2.pw
 | o :: r, st, env, K, out, done, pre, hall, hw, hd, h => by
  have hio : all[pre.length]? = some o := by rw [hall]; simp
  have go : ∀ (env1 : Env) (wanted : Bool) (g : List Slot), env1.get = env.get →
   (∀ us lg, (f9b X (vn + st.waits.length) o wanted).eval env.get g = some (us, lg) → (f2m X all (vn + st.waits.length) o).eval env.get [] = some (us, lg)) →
   ((f9b X (vn + st.waits.length) o wanted).cps env1.get g fun us lg =>
     bif draw then
      let f : Foot := ⟨g ++ lg, us.map Upd.slot⟩
      let ws := c3k st.waits o
      bif h1o ws f 0 st.feet && f0o st.waits.length o then f9n X draw all vn r ⟨st.feet ++ [f], st.waits ++ [ws]⟩ (a0u env1 us) K else none
     else f9n X draw all vn r ⟨[], st.waits ++ [0]⟩ (a0u env1 us) K) = some out →
   ∃ recs env', Tr (e2a X all vn) env recs env' ∧ K env' = some out ∧ (∀ k r, recs[k]? = some r → r.i = pre.length + k) ∧ recs.length = (o :: r).length ∧
    (draw = true → (∀ j o', (o :: r)[j]? = some o' → f0o (pre.length + j) o' = true) ∧ (done ++ recs).Pairwise fun p q => ((a6i (o :: r) st.waits).getD q.i 0).testBit p.i = true ∨ i3w p q) := by
   intro env1 wanted g henv hst hh
   obtain ⟨us, lg, hev, hK⟩ := Rd.cps_some _ _ _ _ _ hh
   rw [henv] at hev
   have hS := hst us lg hev
   have hSt : (e2a X all vn pre.length).eval env.get [] = some (us, lg) := by
    unfold e2a
    rw [hio]
    simp only
    rw [← hw]; exact hS
   cases hdr : draw with
   | false =>
    rw [hdr] at hK
    simp only [cond_false] at hK
    obtain ⟨recs, env', k1, k2, k3, k4, _⟩ := e1v r ⟨[], st.waits ++ [0]⟩ (a0u env1 us) K out [] (pre ++ [o]) (by rw [hall]; simp) (by simp [hw]) (by rw [hdr]; simp) (by rw [hdr]; exact hK)
    refine ⟨⟨pre.length, us, lg⟩ :: recs, env', ⟨hSt, Tr.congr recs (c9u us henv) k1⟩, k2, fun k rc hk => ?_, by simp [k4], by simp⟩
    cases k with
    | zero => simp at hk; subst hk; rfl
    | succ k => have := k3 k rc (by simpa using hk); rw [this]; simp; omega
   | true =>
    rw [hdr] at hK
    simp only [cond_true] at hK
    obtain ⟨hfl, hdone⟩ := hd hdr
    cases hf : (h1o (c3k st.waits o) ⟨g ++ lg, us.map Upd.slot⟩ 0 st.feet && f0o st.waits.length o) with
    | false => rw [hf] at hK; simp at hK
    | true =>
     rw [hf] at hK
     simp only [cond_true] at hK
     simp only [Bool.and_eq_true] at hf
     have hW : (a6i (o :: r) st.waits).getD pre.length 0 = c3k st.waits o := by
      rw [List.getD_eq_getElem?_getD, a6i, c4o r _ _ (by simp [hw])]
      simp [← hw]
     have hdone' : Done (a6i r (st.waits ++ [c3k st.waits o])) (done ++ [⟨pre.length, us, lg⟩]) (st.feet ++ [⟨g ++ lg, us.map Upd.slot⟩]) := by
      refine ⟨by simp [hdone.len], fun k rc f hk hkf => ?_, ?_⟩
      · by_cases hlt : k < done.length
        · rw [List.getElem?_append_left hlt] at hk
          rw [List.getElem?_append_left (by rw [← hdone.len]; exact hlt)] at hkf
          exact hdone.foot k rc f hk hkf
        · have hkeq : k = done.length := by
           have := (List.getElem?_eq_some_iff.1 hk).1
           simp at this; omega
          subst hkeq
          simp at hk
          rw [hdone.len] at hkf
          simp at hkf
          subst hk; subst hkf
          refine ⟨by rw [hdone.len, hfl], fun s hs => by simp [hs], fun u hu => List.mem_map_of_mem hu⟩
      · rw [List.pairwise_append]
        refine ⟨hdone.pw, by simp, fun p hp q hq => ?_⟩
        simp at hq
        subst hq
        obtain ⟨k, hk⟩ := List.mem_iff_getElem?.1 hp
        have hlt : k < st.feet.length := by rw [← hdone.len]; exact (List.getElem?_eq_some_iff.1 hk).1
        obtain ⟨e1, e2, e3⟩ := hdone.foot k p _ hk (List.getElem?_eq_getElem hlt)
        rcases h3g hf.1 k _ (List.getElem?_eq_getElem hlt) with hb | ⟨a1, a2, a3⟩
        · left
          have : (a6i r (st.waits ++ [c3k st.waits o])).getD pre.length 0 = c3k st.waits o := hW
          rw [this, e1]
          simpa using hb
        · right
          rw [j2l] at a1 a2 a3
          refine ⟨fun u hu s hs e => a3 s (by simp [hs]) _ (e3 u hu) e.symm, fun u hu s hs e => a1 _ (List.mem_map_of_mem hu) s (e2 s hs) e, fun u hu v hv e => a2 _ (List.mem_map_of_mem hv) _ (e3 u hu) e.symm⟩
     obtain ⟨recs, env', k1, k2, k3, k4, k5⟩ := e1v r ⟨st.feet ++ [⟨g ++ lg, us.map Upd.slot⟩], st.waits ++ [c3k st.waits o]⟩ (a0u env1 us) K out (done ++ [⟨pre.length, us, lg⟩]) (pre ++ [o]) (by rw [hall]; simp) (by simp [hw])
      (fun _ => ⟨by simp [hfl], hdone'⟩) (by rw [hdr]; exact hK)
     obtain ⟨k6, k7⟩ := k5 hdr
     refine ⟨⟨pre.length, us, lg⟩ :: recs, env', ⟨hSt, Tr.congr recs (c9u us henv) k1⟩, k2, fun k rc hk => ?_, by simp [k4], fun _ => ⟨fun j o' hj => ?_, ?_⟩⟩
     · cases k with
       | zero => simp at hk; subst hk; rfl
       | succ k => have := k3 k rc (by simpa using hk); rw [this]; simp; omega
     · cases j with
       | zero => simp at hj; subst hj; rw [← hw]; exact hf.2
       | succ j =>
        have := k6 j o' (by simpa using hj)
        simp only [List.length_append, List.length_cons, List.length_nil] at this
        rwa [show pre.length + (0 + 1) + j = pre.length + (j + 1) by omega] at this
     · have e : done ++ [⟨pre.length, us, lg⟩] ++ recs = done ++ ⟨pre.length, us, lg⟩ :: recs := by simp
       rw [e] at k7
       exact k7
  unfold f9n at h
  simp only [f4d, i3b] at h
  split at h
  · cases h
  · rename_i hg
    refine go env true [] rfl (fun us lg hev => ?_) h
    unfold f2m; rw [hg]; exact hev
  · rename_i d want hg
    split at h
    · rename_i hsk
      refine go env false [.tmp d] rfl (fun us lg hev => ?_) h
      unfold f2m; rw [hg]; simp only [Rd.eval, hsk]; exact hev
    · rename_i b hb
      have hlit : ∀ t : Bool, b = t → Env.get ((.tmp d, .val false [.bool t]) :: env) = env.get := by
       intro t ht
       funext s
       rw [Env.get_cons]
       split
       · rename_i hs; rw [← hs, hb, ht]
       · rfl
      cases b with
      | true =>
       simp only [cond_true] at h
       refine go _ want [.tmp d] (hlit true rfl) (fun us lg hev => ?_) h
       unfold f2m; rw [hg]; simp only [Rd.eval, hb, cond_true]; exact hev
      | false =>
       simp only [cond_false] at h
       refine go _ (!want) [.tmp d] (hlit false rfl) (fun us lg hev => ?_) h
       unfold f2m; rw [hg]; simp only [Rd.eval, hb, cond_false]; exact hev
    · cases h
end
end
end Go.VI
