/- VI, part 21b: calls to which rows and variables are lent. -/
import Derived.Test.YtkiiaoekkppghaaViM1
namespace Go.VI
open Go.RowKit

/-! ### What is lent -/
inductive Item where
  | row (v : Value) (e : TypeId) (t : Ty)
  | box (g : Nat) (us : List Value)

def Item.block : Item → Option Nat
  | .row v _ _ => v.ownBlock
  | .box g _ => some g

/-- The cells of a value whose rows are lent. -/
def RepL (Z : Nat → Prop) (w : World) : (t : Ty) → List TypeId → t.den → List Value → List Item → List TypeId → Prop
  | .int k, es, n, cs, is, es' => cs = [.int k n] ∧ is = [] ∧ es' = es
  | .bool, es, b, cs, is, es' => cs = [.bool b] ∧ is = [] ∧ es' = es
  | .str, es, s, cs, is, es' => cs = [.string ⟨s.toArray⟩] ∧ is = [] ∧ es' = es
  | .unit, es, _, cs, is, es' => cs = [] ∧ is = [] ∧ es' = es
  | .pair a b, es, x, cs, is, es' => ∃ c1 c2 i1 i2 em, cs = c1 ++ c2 ∧ is = i1 ++ i2 ∧ RepL Z w a es x.1 c1 i1 em ∧ RepL Z w b em x.2 c2 i2 es'
  | .sl t, es, l, cs, is, es' => ∃ e v, es = e :: es' ∧ cs = [v] ∧ is = [.row v e t] ∧ OwnV Z w 0 e t v l

def RelArgsM (Z : Nat → Prop) (w : World) : (As : List ATy) → denA As → List Value → List Item → Prop
  | [], _, vs, is => vs = [] ∧ is = []
  | .lrow g t es :: r, x, vs, is => ∃ us vs' i1 i2, vs = mkVal g us :: vs' ∧ (g = false → us.length = 1) ∧ is = i1 ++ i2 ∧ RepL Z w t es x.1 us i1 [] ∧ RelArgsM Z w r x.2 vs' i2
  | .lptr t :: r, x, vs, is => ∃ g us vs' i2, vs = .pointer (some ⟨g, 0, none⟩) :: vs' ∧ is = .box g us :: i2 ∧ RepI Z w t x.1 us ∧ (∃ T, w.heap[g]? = some (.cells us.toArray T (0, 0))) ∧ RelArgsM Z w r x.2 vs' i2
  | .data g t :: r, x, vs, is => ∃ us vs', vs = mkVal g us :: vs' ∧ (g = false → us.length = 1) ∧ RepI Z w t x.1 us ∧ RelArgsM Z w r x.2 vs' is
  | .ptr _ :: _, _, _, _ => False
  | .clo _ _ :: _, _, _, _ => False

def Lof (is : List Item) (g : Nat) : Prop := ∃ it ∈ is, it.block = some g

/-- What is lent stands apart. -/
structure Aside (Z : Nat → Prop) (w : World) (n0 : Nat) (is : List Item) : Prop where
  zone : ∀ g, Lof is g → ¬ Z g ∧ g < w.heap.size ∧ n0 ≤ g
  uniq : ∀ (i j : Nat) (p q : Item) (g : Nat), is[i]? = some p → is[j]? = some q → p.block = some g → q.block = some g → i = j

/-- A lent variable's cells, behind the call: flat ones are as told, rows are those that were. -/
def BoxOut : List Cell → List Value → List Value → Prop
  | [], us, us' => us = [] ∧ us' = []
  | c :: r, us, us' => ∃ u u' s s', us = u :: s ∧ us' = u' :: s' ∧ ((zcell c = true ∧ u' = cellV c) ∨ (∃ t l p, c = .imm t l p ∧ u' = u)) ∧ BoxOut r s s'

def OutN (Z : Nat → Prop) (w : World) : List Item → List New → Prop
  | [], ns => ns = []
  | .row v e t :: is, ns => ∃ l ns', ns = .row t l :: ns' ∧ OwnV Z w 0 e t v l ∧ OutN Z w is ns'
  | .box g us :: is, ns => ∃ cs ns' us', ns = .box cs :: ns' ∧ BoxOut cs us us' ∧ (∃ T, w.heap[g]? = some (.cells us'.toArray T (0, 0))) ∧ OutN Z w is ns'

theorem OwnV.rebaseM {Z : Nat → Prop} {w : World} {B B' : Nat} {e : TypeId} {t : Ty} {v : Value} {l : List t.den} (h : OwnV Z w B e t v l) (hB : ∀ g, v.ownBlock = some g → B' ≤ g) : OwnV Z w B' e t v l := by
  obtain ⟨h0, xs, ho, hr⟩ := h
  refine ⟨h0, xs, ⟨ho.1, ?_⟩, hr⟩
  rcases ho.2 with hn | ⟨g, cap, cur, fz, h1, h2, rest⟩
  · exact .inl hn
  · exact .inr ⟨g, cap, cur, fz, h1, hB g (by rw [h1]; rfl), rest⟩

structure FrameL (L : Nat → Prop) (w w' : World) : Prop where
  os : w'.os = w.os
  tape : w'.tape = w.tape
  output : w'.output = w.output
  size : w.heap.size ≤ w'.heap.size
  block : ∀ k, k < w.heap.size → ¬ L k → w'.heap[k]? = w.heap[k]?

/-- A function keeps a contract, rows and variables being lent to it. -/
def SoundM (P : Program) (n0 : Nat) (G : World → Prop) (f : FuncId) (C : MContract) : Prop :=
  ∀ (w : World) (Z : Nat → Prop) (vs : List Value) (xs : denA C.As) (r : denL C.R) (m : denM C.As) (is : List Item), G w → (∀ g, Z g → g < w.heap.size) → RelArgsM Z w C.As xs vs is → Aside Z w n0 is → C.F xs = some (r, m) →
    FCalls P f vs.toArray w fun v w' => ∃ Z' us, v = mkRes us ∧ FrameL (Lof is) w w' ∧ (∀ g, Z g → Z' g) ∧ (∀ g, Z' g → Z g ∨ (w.heap.size ≤ g ∧ g < w'.heap.size)) ∧
      ResRel Z' w' w.heap.size [] (resL C.R r C.modes) us ∧ OutN Z' w' is (newsOf C.As m)

def MConOK (P : Program) (n0 : Nat) (G : World → Prop) (X : Ctx) : Prop := ∀ f C, look X.mcon f = some C → SoundM P n0 G f C

section
variable {A : Fix} {X : Ctx} {γ : Gh} {Fr : Nat → Prop} {env : Env} {a : Act} {w w' : World} {vn : Nat} {o : Oper} {us : List Upd} {lg : List Slot}

/-! ### What is lent by the caller -/
def LsRel (γ : Gh) (env : Env) : List Lsrc → List Item → Prop
  | [], is => is = []
  | .row x ver e t :: r, is => ∃ is' l, is = .row (γ.φ x) e t :: is' ∧ envCell env x = some (.own e t ver l) ∧ LsRel γ env r is'
  | .nil e t :: r, is => ∃ is', is = .row (.slice none 0 0) e t :: is' ∧ LsRel γ env r is'
  | .box b bv cs :: r, is => ∃ is', is = .box (γ.σ b bv) (cellVals γ (.box b) 0 cs.length) :: is' ∧ env.get (.box b) = .box bv false cs ∧ cs.all plainCell = true ∧ LsRel γ env r is'

theorem LsRel.append : ∀ {ls ls' : List Lsrc} {is is' : List Item}, LsRel γ env ls is → LsRel γ env ls' is' → LsRel γ env (ls ++ ls') (is ++ is')
  | [], ls', is, is', h, h' => by rw [show is = [] from h]; simpa using h'
  | .row x ver e t :: r, ls', is, is', ⟨i1, l, h1, h2, h3⟩, h' => ⟨i1 ++ is', l, by rw [h1]; rfl, h2, LsRel.append h3 h'⟩
  | .nil e t :: r, ls', is, is', ⟨i1, h1, h3⟩, h' => ⟨i1 ++ is', by rw [h1]; rfl, LsRel.append h3 h'⟩
  | .box b bv cs :: r, ls', is, is', ⟨i1, h1, h2, h3, h4⟩, h' => ⟨i1 ++ is', by rw [h1]; rfl, h2, h3, LsRel.append h4 h'⟩

theorem lendCells_sound (h : Core A X γ Fr env a w) (Z : Nat → Prop) (hZ : ∀ g, γ.Z g → Z g) : ∀ (t : Ty) (es : List TypeId) (cs : List Cell) {us : List Value} {p : LendP t} {l0 l1 : List Slot}, RelCs A γ w Fr cs us →
    (lendCells t es cs).eval env.get l0 = some (p, l1) → ∃ u1 u2 is, us = u1 ++ u2 ∧ RepL Z w t es p.x u1 is p.es ∧ RelCs A γ w Fr p.cs u2 ∧ LsRel γ env p.ls is
  | .int k, es, cs, us, p, l0, l1, hr, he => by
    match cs, hr with
    | [], _ => simp [lendCells, Rd.eval] at he
    | c :: r, hr =>
      cases c <;> try (simp [lendCells, Rd.eval] at he; done)
      rename_i k' n
      simp only [lendCells] at he
      split at he
      · rename_i hk
        subst hk
        simp only [Rd.eval, Option.some.injEq, Prod.mk.injEq] at he
        obtain ⟨rfl, _⟩ := he
        obtain ⟨u, us', rfl, hg, hrr⟩ := hr
        exact ⟨[u], us', [], rfl, ⟨by rw [show u = _ from hg.1], rfl, rfl⟩, hrr, rfl⟩
      · simp [Rd.eval] at he
  | .bool, es, cs, us, p, l0, l1, hr, he => by
    match cs, hr with
    | [], _ => simp [lendCells, Rd.eval] at he
    | c :: r, hr =>
      cases c <;> simp [lendCells, Rd.eval] at he
      obtain ⟨rfl, _⟩ := he
      obtain ⟨u, us', rfl, hg, hrr⟩ := hr
      exact ⟨[u], us', [], rfl, ⟨by rw [show u = _ from hg.1], rfl, rfl⟩, hrr, rfl⟩
  | .str, es, cs, us, p, l0, l1, hr, he => by
    match cs, hr with
    | [], _ => simp [lendCells, Rd.eval] at he
    | c :: r, hr =>
      cases c <;> simp [lendCells, Rd.eval] at he
      obtain ⟨rfl, _⟩ := he
      obtain ⟨u, us', rfl, hg, hrr⟩ := hr
      exact ⟨[u], us', [], rfl, ⟨by rw [show u = _ from hg.1], rfl, rfl⟩, hrr, rfl⟩
  | .unit, es, cs, us, p, l0, l1, hr, he => by
    simp [lendCells, Rd.eval] at he
    obtain ⟨rfl, _⟩ := he
    exact ⟨[], us, [], rfl, ⟨rfl, rfl, rfl⟩, hr, rfl⟩
  | .pair x y, es, cs, us, p, l0, l1, hr, he => by
    simp only [lendCells, Rd.eval_bind, Option.bind_eq_some_iff] at he
    obtain ⟨⟨p1, l2⟩, h1, ⟨p2, l3⟩, h2, h3⟩ := he
    simp only [Rd.eval, Option.some.injEq, Prod.mk.injEq] at h3
    obtain ⟨rfl, _⟩ := h3
    obtain ⟨u1, u2, i1, rfl, r1, r2, r3⟩ := lendCells_sound h Z hZ x es cs hr h1
    obtain ⟨v1, v2, i2, rfl, s1, s2, s3⟩ := lendCells_sound h Z hZ y p1.es p1.cs r2 h2
    exact ⟨u1 ++ v1, v2, i1 ++ i2, by simp, ⟨u1, v1, i1, i2, p1.es, rfl, rfl, r1, s1⟩, s2, r3.append s3⟩
  | .sl t, [], cs, us, p, l0, l1, hr, he => by simp [lendCells, Rd.eval] at he
  | .sl t, e :: es, cs, us, p, l0, l1, hr, he => by
    match cs, hr with
    | [], _ => simp [lendCells, Rd.eval] at he
    | c :: r, hr =>
      obtain ⟨u, us', rfl, hg, hrr⟩ := hr
      cases c <;> try (simp [lendCells, Rd.eval] at he; done)
      · rename_i e' t'
        simp only [lendCells] at he
        cases hs : Nat.blt 0 t.size with
        | false => rw [hs] at he; simp [Rd.eval] at he
        | true =>
          rw [hs] at he
          simp only [cond_true, Rd.eval, Option.some.injEq, Prod.mk.injEq] at he
          obtain ⟨rfl, _⟩ := he
          have hu : u = .slice none 0 0 := hg.1
          exact ⟨[u], us', [.row (.slice none 0 0) e t], rfl, ⟨e, u, rfl, rfl, by rw [hu], by rw [hu]; exact OwnV.nil (Nat.le_of_ble_eq_true hs)⟩, hrr, [], rfl, rfl⟩
      · rename_i x ver
        simp only [lendCells, Rd.eval_bind, Option.bind_eq_some_iff] at he
        obtain ⟨⟨⟨e', t', l⟩, l2⟩, h1, h2⟩ := he
        simp only at h2
        split at h2
        · rename_i hh
          obtain ⟨rfl, rfl⟩ := hh
          simp only [Rd.eval, Option.some.injEq, Prod.mk.injEq] at h2
          obtain ⟨rfl, _⟩ := h2
          have hx := ownerAt_eval h1
          have hu : u = γ.φ x := hg.1.trans (h.own x _ _ _ _ hx).1
          exact ⟨[u], us', [.row (γ.φ x) e' t'], rfl, ⟨e', u, rfl, rfl, by rw [hu], by rw [hu]; exact ((h.cell x _ hx).1.mono hZ (fun _ _ => rfl) (fun _ _ => rfl)).base (Nat.zero_le _)⟩, hrr, [], l, rfl, hx, rfl⟩
        · simp [Rd.eval] at h2

theorem lendArgs_ptr {t : Ty} {as : List ATy} {cs : List (Bool × List Cell)} {q : denA (.lptr t :: as) × List Src × List Lsrc} {e : Slot → AV} {l0 l1 : List Slot} (he : (lendArgs (.lptr t :: as) cs).eval e l0 = some (q, l1)) : ∃ b bv r, cs = (false, [.addr b bv 0]) :: r := by
  match cs with
  | [] => simp [lendArgs, Rd.eval] at he
  | (true, _) :: r => simp [lendArgs, Rd.eval] at he
  | (false, []) :: r => simp [lendArgs, Rd.eval] at he
  | (false, c :: c' :: q) :: r => simp [lendArgs, Rd.eval] at he
  | (false, [c]) :: r =>
    cases c <;> try (simp [lendArgs, Rd.eval] at he; done)
    rename_i b bv off
    cases off with
    | zero => exact ⟨b, bv, r, rfl⟩
    | succ n => simp [lendArgs, Rd.eval] at he

theorem lendArgs_none {as : List ATy} {cs : List (Bool × List Cell)} {e : Slot → AV} {l0 l1 : List Slot} : (∀ t (q : denA (.ptr t :: as) × List Src × List Lsrc), (lendArgs (.ptr t :: as) cs).eval e l0 ≠ some (q, l1)) ∧
    ∀ a b (q : denA (.clo a b :: as) × List Src × List Lsrc), (lendArgs (.clo a b :: as) cs).eval e l0 ≠ some (q, l1) := by
  constructor
  · intro t q
    match cs with
    | [] => simp [lendArgs, Rd.eval]
    | (g', c) :: r => cases g' <;> simp [lendArgs, Rd.eval]
  · intro t b q
    match cs with
    | [] => simp [lendArgs, Rd.eval]
    | (g', c) :: r => cases g' <;> simp [lendArgs, Rd.eval]

theorem RelCs.plainZ {Z : Nat → Prop} {cs : List Cell} {us : List Value} (h : RelCs A γ w Fr cs us) (hZ : ∀ g, γ.Z g → Z g) : RelCs A { γ with Z := Z } w Fr cs us :=
  RelCs.zext (γ := γ) (γ' := { γ with Z := Z }) ⟨rfl, rfl, rfl, hZ⟩ h

theorem lendArgs_sound (h : Core A X γ Fr env a w) (Z : Nat → Prop) (hZ : ∀ g, γ.Z g → Z g) : ∀ (As : List ATy) (cs : List (Bool × List Cell)) {vs : List Value} {q : denA As × List Src × List Lsrc} {l0 l1 : List Slot},
    RelComps A γ w Fr cs vs → (lendArgs As cs).eval env.get l0 = some (q, l1) → (∀ g, zoneOf γ q.2.1 g → Z g) →
    ∃ is, RelArgsM Z w As q.1 vs is ∧ LsRel γ env q.2.2 is ∧ ∀ s ∈ q.2.1, ∀ g, srcBlock γ g s → g < w.heap.size
  | [], cs, vs, q, l0, l1, hr, he, _ => by
    cases cs with
    | nil =>
      simp only [lendArgs, Rd.eval, Option.some.injEq, Prod.mk.injEq] at he
      obtain ⟨rfl, _⟩ := he
      exact ⟨[], ⟨hr, rfl⟩, rfl, by simp⟩
    | cons p r => simp [lendArgs, Rd.eval] at he
  | .lrow g t es :: as, cs, vs, q, l0, l1, hr, he, hs => by
    cases cs with
    | nil => simp [lendArgs, Rd.eval] at he
    | cons p r =>
      obtain ⟨g', c⟩ := p
      obtain ⟨v, vs', h1, ⟨us, hv, hl, h2⟩, h3⟩ := hr
      simp only [lendArgs] at he
      cases hg : (g == g') with
      | false => rw [hg] at he; simp [Rd.eval] at he
      | true =>
        rw [hg] at he
        have hg : g = g' := by simpa using hg
        subst hg
        simp only [cond_true, Rd.eval_bind, Option.bind_eq_some_iff] at he
        obtain ⟨⟨p, l2⟩, k1, k2⟩ := he
        simp only at k2
        split at k2
        · rename_i hcs hes
          simp only [Rd.eval_bind, Option.bind_eq_some_iff] at k2
          obtain ⟨⟨q1, l3⟩, k3, k4⟩ := k2
          simp only [Rd.eval, Option.some.injEq, Prod.mk.injEq] at k4
          obtain ⟨rfl, _⟩ := k4
          obtain ⟨u1, u2, i1, e1, r1, r2, r3⟩ := lendCells_sound h Z hZ t es c h2 k1
          rw [hcs] at r2
          rw [show u2 = [] from r2, List.append_nil] at e1
          subst e1
          rw [hes] at r1
          obtain ⟨i2, s1, s2, s3⟩ := lendArgs_sound h Z hZ as r h3 k3 hs
          exact ⟨i1 ++ i2, ⟨_, vs', i1, i2, by rw [h1, hv], fun hgf => by rw [h2.length]; exact hl hgf, rfl, r1, s1⟩, r3.append s2, s3⟩
        · simp [Rd.eval] at k2
  | .lptr t :: as, cs, vs, q, l0, l1, hr, he, hs => by
    obtain ⟨b, bv, r, rfl⟩ := lendArgs_ptr he
    obtain ⟨v, vs', h1, ⟨us, hv, hl, u, us', rfl, hg, h2⟩, h3⟩ := hr
    have hv : v = u := hv
    simp only [lendArgs, Rd.eval_bind, Option.bind_eq_some_iff] at he
    obtain ⟨⟨⟨fz, cs0⟩, l2⟩, k1, k2⟩ := he
    simp only at k2
    cases hp : (fz || !(cs0.all plainCell)) with
    | true => rw [hp] at k2; simp [Rd.eval] at k2
    | false =>
      rw [hp] at k2
      simp only [Bool.or_eq_false_iff, Bool.not_eq_false'] at hp
      obtain ⟨rfl, hp⟩ := hp
      simp only [cond_false] at k2
      split at k2
      · rename_i x hx
        simp only [Rd.eval_bind, Option.bind_eq_some_iff] at k2
        obtain ⟨⟨q1, l3⟩, k3, k4⟩ := k2
        simp only [Rd.eval, Option.some.injEq, Prod.mk.injEq] at k4
        obtain ⟨rfl, _⟩ := k4
        obtain ⟨i2, s1, s2, s3⟩ := lendArgs_sound h Z hZ as r h3 k3 hs
        have hb := boxAt_eval k1
        obtain ⟨c1, _⟩ := h.boxCells hb 0
        simp only [List.drop_zero] at c1
        have hnov : VI.readCells (.box b) 0 0 cs0 = cs0 := by
          apply List.ext_getElem?
          intro j
          rw [readCells_get]
          cases hj : cs0[j]? with
          | none => rfl
          | some c =>
            have hc := (List.all_eq_true.1 hp) c (List.mem_of_getElem? hj)
            cases c <;> simp [plainCell] at hc <;> rfl
        rw [hnov] at c1
        obtain ⟨⟨T, hT⟩, _⟩ := h.box b bv false cs0 hb
        exact ⟨.box (γ.σ b bv) (cellVals γ (.box b) 0 cs0.length) :: i2, ⟨γ.σ b bv, _, vs', i2, by rw [h1, hv]; exact congrArg (· :: vs') hg.1, rfl, implode_all hx (c1.plainZ hZ), ⟨T, hT⟩, s1⟩, ⟨i2, rfl, hb, hp, s2⟩, s3⟩
      · simp [Rd.eval] at k2
  | .data g t :: as, cs, vs, q, l0, l1, hr, he, hs => by
    cases cs with
    | nil => simp [lendArgs, Rd.eval] at he
    | cons p r =>
      obtain ⟨g', c⟩ := p
      obtain ⟨v, vs', h1, ⟨us, hv, hl, h2⟩, h3⟩ := hr
      simp only [lendArgs] at he
      cases hg : (g == g') with
      | false => rw [hg] at he; simp [Rd.eval] at he
      | true =>
        rw [hg] at he
        have hg : g = g' := by simpa using hg
        subst hg
        simp only [cond_true, Rd.eval_bind, Option.bind_eq_some_iff] at he
        obtain ⟨⟨⟨p1, p2⟩, l2⟩, k1, k2⟩ := he
        simp only at k2
        split at k2
        · rename_i x hx
          simp only [Rd.eval_bind, Option.bind_eq_some_iff] at k2
          obtain ⟨⟨q1, l3⟩, k3, k4⟩ := k2
          simp only [Rd.eval, Option.some.injEq, Prod.mk.injEq] at k4
          obtain ⟨rfl, _⟩ := k4
          obtain ⟨i2, s1, s2, s3⟩ := lendArgs_sound h Z hZ as r h3 k3 fun g hg => hs g (zoneOf_app.2 (.inr hg))
          have hso := solids_sound h Z c h2 k1 fun g hg => hs g (zoneOf_app.2 (.inl hg))
          refine ⟨i2, ⟨us, vs', by rw [h1, hv], fun hgf => by rw [h2.length]; exact hl hgf, implode_all hx hso, s1⟩, s2, fun s hs' g hg => ?_⟩
          rcases List.mem_append.1 hs' with hs' | hs'
          · exact solids_lt h c k1 s hs' g hg
          · exact s3 s hs' g hg
        · simp [Rd.eval] at k2
  | .ptr t :: as, cs, vs, q, l0, l1, hr, he, hs => absurd he (lendArgs_none.1 t _)
  | .clo a b :: as, cs, vs, q, l0, l1, hr, he, hs => absurd he (lendArgs_none.2 a b _)
end
end Go.VI
