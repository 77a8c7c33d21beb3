/- VI, part 5: reading. -/
import Derived.Test.YtlnfgikipeiaiaaViMove
namespace Go.VI
open Go.RowKit
theorem Rd.eval_bind {α β : Type} (env : Slot → AV) : ∀ (m : Rd α) (f : α → Rd β) (lg : List Slot), (m.bind f).eval env lg = (m.eval env lg).bind fun p => (f p.1).eval env p.2
  | .pure a, f, lg => rfl
  | .opt γ o k, f, lg => by
    simp only [Rd.bind, Rd.eval]
    cases o with
    | none => rfl
    | some x => simp only [Option.bind_some]; exact Rd.eval_bind env (k x) f lg
  | .get s k, f, lg => Rd.eval_bind env (k (env s)) f (s :: lg)
  | .guard b k, f, lg => by
    simp only [Rd.bind, Rd.eval]
    cases b
    · rfl
    · exact Rd.eval_bind env k f lg
  | .br b k1 k2, f, lg => by
    simp only [Rd.bind, Rd.eval]
    cases b
    · exact Rd.eval_bind env k2 f lg
    · exact Rd.eval_bind env k1 f lg
  | .fail, f, lg => rfl
theorem Rd.eval_ofOpt {α : Type} (env : Slot → AV) (o : Option α) (lg : List Slot) : (Rd.ofOpt o).eval env lg = o.map fun a => (a, lg) := by
  cases o <;> rfl
theorem Rd.cps_some {α ρ : Type} (env : Slot → AV) : ∀ (m : Rd α) (lg : List Slot) (K : α → List Slot → Option ρ) (r : ρ), m.cps env lg K = some r →
    ∃ x lg', m.eval env lg = some (x, lg') ∧ K x lg' = some r
  | .pure a, lg, K, r, h => ⟨a, lg, rfl, h⟩
  | .opt γ o k, lg, K, r, h => by
    simp only [Rd.cps, Option.bind_eq_some_iff] at h
    obtain ⟨x, rfl, h⟩ := h
    exact Rd.cps_some env (k x) lg K r h
  | .get s k, lg, K, r, h => Rd.cps_some env (k (env s)) (s :: lg) K r h
  | .guard b k, lg, K, r, h => by
    simp only [Rd.cps] at h
    cases b
    · cases h
    · exact Rd.cps_some env k lg K r h
  | .br b k1 k2, lg, K, r, h => by
    simp only [Rd.cps] at h
    cases b
    · exact Rd.cps_some env k2 lg K r h
    · exact Rd.cps_some env k1 lg K r h
  | .fail, lg, K, r, h => by cases h
def cellV : Cell → Value
  | .int k n => .int k n
  | .bool b => .bool b
  | .str s => .string ⟨s.toArray⟩
  | .nil _ _ => .slice none 0 0
  | _ => undef
def zcell : Cell → Bool
  | .int .. | .bool .. | .str .. | .nil .. => true
  | _ => false
def zmatch : Ty → List Cell → Option (List Cell)
  | .int k, .int k' n :: r => if k = k' ∧ n = 0 then some r else none
  | .bool, .bool false :: r => some r
  | .str, .str [] :: r => some r
  | .unit, r => some r
  | .pair a b, r => (zmatch a r).bind (zmatch b)
  | .sl _, .nil _ _ :: r => some r
  | _, _ => none
theorem zmatch_rep (Z : Nat → Prop) (w : World) : ∀ (t : Ty) (cs r : List Cell), zmatch t cs = some r → ∃ c1, cs = c1 ++ r ∧ RepI Z w t t.dflt (c1.map cellV)
  | .int k, cs, r, h => by
    cases cs with
    | nil => simp [zmatch] at h
    | cons c cs =>
      cases c <;> simp [zmatch] at h
      obtain ⟨⟨rfl, rfl⟩, rfl⟩ := h
      exact ⟨[.int k 0], rfl, rfl⟩
  | .bool, cs, r, h => by
    cases cs with
    | nil => simp [zmatch] at h
    | cons c cs =>
      cases c <;> try (simp [zmatch] at h; done)
      rename_i b
      cases b <;> simp [zmatch] at h
      subst h
      exact ⟨[.bool false], rfl, rfl⟩
  | .str, cs, r, h => by
    cases cs with
    | nil => simp [zmatch] at h
    | cons c cs =>
      cases c <;> try (simp [zmatch] at h; done)
      rename_i s
      cases s <;> simp [zmatch] at h
      subst h
      exact ⟨[.str []], rfl, rfl⟩
  | .unit, cs, r, h => by
    simp [zmatch] at h
    subst h
    exact ⟨[], rfl, rfl⟩
  | .pair a b, cs, r, h => by
    simp only [zmatch, Option.bind_eq_some_iff] at h
    obtain ⟨m, h1, h2⟩ := h
    obtain ⟨c1, e1, r1⟩ := zmatch_rep Z w a cs m h1
    obtain ⟨c2, e2, r2⟩ := zmatch_rep Z w b m r h2
    exact ⟨c1 ++ c2, by rw [e1, e2, List.append_assoc], ⟨_, _, List.map_append, r1, r2⟩⟩
  | .sl t, cs, r, h => by
    cases cs with
    | nil => simp [zmatch] at h
    | cons c cs =>
      cases c <;> simp [zmatch] at h
      subst h
      rename_i e t'
      exact ⟨[.nil e t'], rfl, none, 0, rfl, Nat.le_refl _, fun i x hx => by simp [Ty.dflt] at hx⟩
structure TIOK (P : Program) (T : TypeId) (ti : TI) : Prop where
  und : P.underlying T = some ti.desc
  info : (P.info? T).map (fun i => (i.size, i.bytes, i.zero)) = some (ti.ty.size, ti.bytes, some (mkVal ti.agg (ti.zero.map cellV)))
  zm : zmatch ti.ty ti.zero = some []
  one : ti.agg = false → ti.ty.size = 1
  agg : ti.agg = (match ti.desc with | .struct _ | .array .. => true | _ => false)
  eqs : ti.eqs = true → P.stoodInHeld T = false ∧ ∀ fs, ti.desc = .struct fs → ∀ f ∈ fs.toList, f.name ≠ "_"
theorem TIOK.info' {P : Program} {T : TypeId} {ti : TI} (h : TIOK P T ti) : ∃ i, P.info? T = some i ∧ i.size = ti.ty.size ∧ i.bytes = ti.bytes ∧ i.zero = some (mkVal ti.agg (ti.zero.map cellV)) := by
  have := h.info
  cases hi : P.info? T with
  | none => rw [hi] at this; cases this
  | some i =>
    rw [hi] at this
    simp only [Option.map_some, Option.some.injEq, Prod.mk.injEq] at this
    exact ⟨i, rfl, this⟩
theorem TIOK.zlen {P : Program} {T : TypeId} {ti : TI} (h : TIOK P T ti) : ti.zero.length = ti.ty.size := by
  obtain ⟨c1, e1, r1⟩ := zmatch_rep (fun _ => False) default ti.ty ti.zero [] h.zm
  have := RepI.length _ _ _ r1
  rw [e1]; simpa using this
theorem TIOK.zrep {P : Program} {T : TypeId} {ti : TI} (h : TIOK P T ti) (Z : Nat → Prop) (w : World) : RepI Z w ti.ty ti.ty.dflt (ti.zero.map cellV) := by
  obtain ⟨c1, e1, r1⟩ := zmatch_rep Z w ti.ty ti.zero [] h.zm
  rw [e1]; simpa using r1
theorem zmatch_zcell : ∀ (t : Ty) (cs r : List Cell), zmatch t cs = some r → ∃ c1, cs = c1 ++ r ∧ ∀ c ∈ c1, zcell c = true
  | .int k, cs, r, h => by
    cases cs with
    | nil => simp [zmatch] at h
    | cons c cs =>
      cases c <;> simp [zmatch] at h
      obtain ⟨_, rfl⟩ := h
      exact ⟨[_], rfl, by simp [zcell]⟩
  | .bool, cs, r, h => by
    cases cs with
    | nil => simp [zmatch] at h
    | cons c cs =>
      cases c <;> try (simp [zmatch] at h; done)
      rename_i b
      cases b <;> simp [zmatch] at h
      subst h
      exact ⟨[.bool false], rfl, by simp [zcell]⟩
  | .str, cs, r, h => by
    cases cs with
    | nil => simp [zmatch] at h
    | cons c cs =>
      cases c <;> try (simp [zmatch] at h; done)
      rename_i s
      cases s <;> simp [zmatch] at h
      subst h
      exact ⟨[.str []], rfl, by simp [zcell]⟩
  | .unit, cs, r, h => by
    simp [zmatch] at h
    subst h
    exact ⟨[], rfl, by simp⟩
  | .pair a b, cs, r, h => by
    simp only [zmatch, Option.bind_eq_some_iff] at h
    obtain ⟨m, h1, h2⟩ := h
    obtain ⟨c1, e1, r1⟩ := zmatch_zcell a cs m h1
    obtain ⟨c2, e2, r2⟩ := zmatch_zcell b m r h2
    refine ⟨c1 ++ c2, by rw [e1, e2, List.append_assoc], fun c hc => ?_⟩
    rcases List.mem_append.1 hc with hc | hc
    · exact r1 c hc
    · exact r2 c hc
  | .sl t, cs, r, h => by
    cases cs with
    | nil => simp [zmatch] at h
    | cons c cs =>
      cases c <;> simp [zmatch] at h
      subst h
      exact ⟨[_], rfl, by simp [zcell]⟩
theorem TIOK.zcells {P : Program} {T : TypeId} {ti : TI} (h : TIOK P T ti) : ∀ c ∈ ti.zero, zcell c = true := by
  obtain ⟨c1, e1, r1⟩ := zmatch_zcell ti.ty ti.zero [] h.zm
  rw [e1]; simpa using r1
theorem zcell_rel {A : Fix} {γ : Gh} {w : World} {c : Cell} (h : zcell c = true) : RelCell A γ w c (cellV c) ∧ (cellV c).oneCell' = true ∧ refs c = none ∧ c.isOwn = false := by
  cases c <;> simp [zcell] at h <;> simp [RelCell, cellV, Value.oneCell', refs, Cell.isOwn]
def TyOK (P : Program) (X : Ctx) : Prop := ∀ T ti, look X.types T = some ti → TIOK P T ti
def GoodR (A : Fix) (γ : Gh) (w : World) (Fr : Nat → Prop) (c : Cell) (u : Value) : Prop :=
  RelCell A γ w c u ∧ u.oneCell' = true ∧ (∀ r, refs c = some r → ¬ Fr r) ∧ c.isOwn = false
def RelCs (A : Fix) (γ : Gh) (w : World) (Fr : Nat → Prop) : List Cell → List Value → Prop
  | [], us => us = []
  | c :: r, us => ∃ u us', us = u :: us' ∧ GoodR A γ w Fr c u ∧ RelCs A γ w Fr r us'
def RelComp (A : Fix) (γ : Gh) (w : World) (Fr : Nat → Prop) (g : Bool) (cs : List Cell) (v : Value) : Prop :=
  ∃ us, v = mkVal g us ∧ (g = false → cs.length = 1) ∧ RelCs A γ w Fr cs us
def RelComps (A : Fix) (γ : Gh) (w : World) (Fr : Nat → Prop) : List (Bool × List Cell) → List Value → Prop
  | [], vs => vs = []
  | p :: r, vs => ∃ v vs', vs = v :: vs' ∧ RelComp A γ w Fr p.1 p.2 v ∧ RelComps A γ w Fr r vs'
def RelR (A : Fix) (γ : Gh) (w : World) (Fr : Nat → Prop) : AV → Value → Prop
  | .val g cs, v => RelComp A γ w Fr g cs v
  | .tup l, v => ∃ vs, v = .tuple vs.toArray ∧ RelComps A γ w Fr l vs
  | .skip, v => v = undef
  | _, _ => True
section
variable {A : Fix} {X : Ctx} {γ : Gh} {Fr : Nat → Prop} {env : Env} {a : Act} {w w' : World}
theorem RelCs.length : ∀ {cs : List Cell} {us : List Value}, RelCs A γ w Fr cs us → us.length = cs.length
  | [], us, h => by rw [show us = [] from h]; rfl
  | c :: r, us, ⟨u, us', h1, h2, h3⟩ => by rw [h1, List.length_cons, RelCs.length h3, List.length_cons]
theorem RelCs.get : ∀ {cs : List Cell} {us : List Value}, RelCs A γ w Fr cs us → ∀ {j : Nat} {c : Cell}, cs[j]? = some c → ∃ u, us[j]? = some u ∧ GoodR A γ w Fr c u
  | [], us, h, j, c, hc => by simp at hc
  | c0 :: r, us, ⟨u, us', h1, h2, h3⟩, j, c, hc => by
    subst h1
    cases j with
    | zero => simp at hc; subst hc; exact ⟨u, rfl, h2⟩
    | succ j => simp at hc; obtain ⟨u', h4, h5⟩ := RelCs.get h3 hc; exact ⟨u', by simpa using h4, h5⟩
theorem RelCs.of_get {cs : List Cell} {us : List Value} (hl : us.length = cs.length) (h : ∀ (j : Nat) (c : Cell) (u : Value), cs[j]? = some c → us[j]? = some u → GoodR A γ w Fr c u) : RelCs A γ w Fr cs us := by
  induction cs generalizing us with
  | nil => exact List.eq_nil_of_length_eq_zero (by simpa using hl)
  | cons c r ih =>
    cases us with
    | nil => simp at hl
    | cons u us =>
      refine ⟨u, us, rfl, h 0 c u rfl rfl, ih (by simpa using hl) fun j c u hc hu => h (j + 1) c u (by simpa using hc) (by simpa using hu)⟩
theorem RelCs.append : ∀ {cs ds : List Cell} {us vs : List Value}, RelCs A γ w Fr cs us → RelCs A γ w Fr ds vs → RelCs A γ w Fr (cs ++ ds) (us ++ vs)
  | [], ds, us, vs, h, h' => by rw [show us = [] from h]; simpa using h'
  | c :: r, ds, us, vs, ⟨u, us', h1, h2, h3⟩, h' => ⟨u, us' ++ vs, by rw [h1]; rfl, h2, RelCs.append h3 h'⟩
theorem RelCs.drop : ∀ {cs : List Cell} {us : List Value} (n : Nat), RelCs A γ w Fr cs us → RelCs A γ w Fr (cs.drop n) (us.drop n)
  | cs, us, 0, h => by simpa using h
  | [], us, n + 1, h => by rw [show us = [] from h]; exact rfl
  | c :: r, us, n + 1, ⟨u, us', h1, h2, h3⟩ => by rw [h1]; simpa using RelCs.drop n h3
theorem RelCs.takeN : ∀ {n : Nat} {cs cs' : List Cell} {us : List Value}, RelCs A γ w Fr cs us → takeN n cs = some cs' → RelCs A γ w Fr cs' (us.take n)
  | 0, cs, cs', us, h, h' => by simp [VI.takeN] at h'; subst h'; exact rfl
  | n + 1, [], cs', us, h, h' => by simp [VI.takeN] at h'
  | n + 1, c :: r, cs', us, ⟨u, us', h1, h2, h3⟩, h' => by
    simp only [VI.takeN, Option.map_eq_some_iff] at h'
    obtain ⟨r', h4, rfl⟩ := h'
    rw [h1]
    exact ⟨u, us'.take n, rfl, h2, RelCs.takeN h3 h4⟩
theorem takeN_eq {α : Type} : ∀ {n : Nat} {l l' : List α}, takeN n l = some l' → l' = l.take n ∧ n ≤ l.length
  | 0, l, l', h => by simp [takeN] at h; subst h; simp
  | n + 1, [], l', h => by simp [takeN] at h
  | n + 1, a :: r, l', h => by
    simp only [takeN, Option.map_eq_some_iff] at h
    obtain ⟨r', h1, rfl⟩ := h
    obtain ⟨h2, h3⟩ := takeN_eq h1
    exact ⟨by rw [h2]; rfl, by simp; exact h3⟩
theorem readCells_length (s : Slot) (i : Nat) : ∀ (j : Nat) (cs : List Cell), (readCells s i j cs).length = cs.length
  | _, [] => rfl
  | j, c :: r => by simp [readCells, readCells_length s i (j + 1) r]
theorem readCells_get (s : Slot) (i : Nat) : ∀ (j : Nat) (cs : List Cell) (k : Nat), (readCells s i j cs)[k]? = (cs[k]?).map (viewOf ⟨s, i, j + k⟩)
  | _, [], k => by simp [readCells]
  | j, c :: r, 0 => by simp [readCells]
  | j, c :: r, k + 1 => by
    have := readCells_get s i (j + 1) r k
    simp only [readCells, List.getElem?_cons_succ, this]
    rw [show j + 1 + k = j + (k + 1) by omega]
theorem Core.readCell (h : Core A X γ Fr env a w) {x : Loc} {c : Cell} (hc : envCell env x = some c) :
    GoodR A γ w Fr (viewOf x c) (γ.φ x) := by
  obtain ⟨h1, h2, h3⟩ := h.cell x c hc
  cases c with
  | own e t ver l =>
    obtain ⟨k1, k2, _⟩ := h.own x e t ver l hc
    exact ⟨k1.symm, h2, fun r hr => by simp [refs, viewOf] at hr; subst hr; exact k2, rfl⟩
  | undef => exact ⟨h1, h2, h3, rfl⟩
  | int k n => exact ⟨h1, h2, h3, rfl⟩
  | bool b => exact ⟨h1, h2, h3, rfl⟩
  | str s => exact ⟨h1, h2, h3, rfl⟩
  | nil e t => exact ⟨h1, h2, h3, rfl⟩
  | imm t l p => exact ⟨h1, h2, h3, rfl⟩
  | view x v => exact ⟨h1, h2, h3, rfl⟩
  | sub x v s l h => exact ⟨h1, h2, h3, rfl⟩
  | barr b bv o n t => exact ⟨h1, h2, h3, rfl⟩
  | addr b bv o => exact ⟨h1, h2, h3, rfl⟩
  | addrI b bv o n s i => exact ⟨h1, h2, h3, rfl⟩
  | gptr g o => exact ⟨h1, h2, h3, rfl⟩
  | gptrI g o n s i => exact ⟨h1, h2, h3, rfl⟩
  | iptr t x o => exact ⟨h1, h2, h3, rfl⟩
  | iptrI t x o n s i => exact ⟨h1, h2, h3, rfl⟩
  | eview x v s i o => exact ⟨h1, h2, h3, rfl⟩
  | eimm t l i o => exact ⟨h1, h2, h3, rfl⟩
  | eviewI x v s i o m s2 j => exact ⟨h1, h2, h3, rfl⟩
  | eimmI t l i o m s2 j => exact ⟨h1, h2, h3, rfl⟩
  | func f => exact ⟨h1, h2, h3, rfl⟩
  | clo as rs F => exact ⟨h1, h2, h3, rfl⟩
theorem Core.readCells (h : Core A X γ Fr env a w) (s : Slot) (i j : Nat) (cs : List Cell) (hc : ∀ k c, cs[k]? = some c → envCell env ⟨s, i, j + k⟩ = some c) :
    RelCs A γ w Fr (readCells s i j cs) ((List.range cs.length).map fun k => γ.φ ⟨s, i, j + k⟩) := by
  refine RelCs.of_get (by simp [readCells_length]) fun k c u h1 h2 => ?_
  rw [readCells_get] at h1
  cases hk : cs[k]? with
  | none => rw [hk] at h1; cases h1
  | some c0 =>
    rw [hk] at h1
    simp only [Option.map_some, Option.some.injEq] at h1
    have hlt : k < cs.length := (List.getElem?_eq_some_iff.1 hk).1
    simp [hlt] at h2
    subst h2
    have := h.readCell (hc k c0 hk)
    subst h1
    exact this
theorem Core.readTup (h : Core A X γ Fr env a w) (t : Nat) : ∀ (l : List (Bool × List Cell)) (i : Nat),
    (∀ k p, l[k]? = some p → (p.1 = false → p.2.length = 1) ∧ ∀ j c, p.2[j]? = some c → envCell env ⟨.tmp t, i + k, j⟩ = some c) →
    RelComps A γ w Fr (VI.readTup (.tmp t) i l) ((l.zipIdx i).map fun p => mkVal p.1.1 (cellVals γ (.tmp t) p.2 p.1.2.length))
  | [], i, _ => rfl
  | p :: r, i, hl => by
    refine ⟨_, _, rfl, ⟨cellVals γ (.tmp t) i p.2.length, rfl, fun hg => ?_, ?_⟩, ?_⟩
    · simpa [readCells_length] using (hl 0 p rfl).1 hg
    · have := h.readCells (.tmp t) i 0 p.2 (fun k c hc => by simpa using (hl 0 p rfl).2 k c hc)
      simpa [cellVals] using this
    · exact Core.readTup h t r (i + 1) fun k q hq => by
        have := hl (k + 1) q (by simpa using hq)
        rwa [show i + (k + 1) = i + 1 + k by omega] at this
theorem Core.asRead (h : Core A X γ Fr env a w) (t : Nat) : RelR A γ w Fr (asRead (.tmp t) (env.get (.tmp t))) (a.tmps.getD t undef) := by
  have ht := h.tmp t
  have hc : ∀ i j, envCell env ⟨.tmp t, i, j⟩ = (env.get (.tmp t)).cell? i j := fun i j => rfl
  revert ht hc
  cases env.get (.tmp t) with
  | val g cs =>
    intro ht hc
    obtain ⟨h1, h2⟩ := ht
    refine ⟨_, h1, fun hg => by simpa [readCells_length] using h2 hg, ?_⟩
    have := h.readCells (.tmp t) 0 0 cs (fun k c hk => by rw [hc]; simpa [AV.cell?] using hk)
    simpa [cellVals] using this
  | tup l =>
    intro ht hc
    obtain ⟨h1, h2⟩ := ht
    refine ⟨_, h1, ?_⟩
    refine h.readTup t l 0 fun k p hp => ⟨h2 p (List.mem_of_getElem? hp), fun j c hj => ?_⟩
    rw [hc]
    simp [AV.cell?, hp, hj]
  | skip => intro ht _; exact ht
  | undef => intro _ _; exact trivial
  | box _ _ _ => intro _ _; exact trivial
  | num _ => intro _ _; exact trivial
theorem constCells_rel {A : Fix} {γ : Gh} {w : World} {Fr : Nat → Prop} : ∀ (vs : List Value) (cs : List Cell), constCells vs = some cs → RelCs A γ w Fr cs vs
  | [], cs, h => by simp [constCells] at h; subst h; rfl
  | v :: r, cs, h => by
    cases v <;> simp only [constCells, Option.map_eq_some_iff] at h <;> try cases h
    all_goals
      rename_i hh
      obtain ⟨h1, rfl⟩ := hh
      exact ⟨_, _, rfl, ⟨by simp [RelCell], by simp [Value.oneCell'], by simp [refs], rfl⟩, constCells_rel r _ h1⟩
theorem rdOp_sound (h : Core A X γ Fr env a w) {x : Operand} {T : TypeId} {av : AV} {lg lg' : List Slot} (he : (rdOp X x T).eval env.get lg = some (av, lg')) :
    RelR A γ w Fr av (a.eval x) := by
  have one : ∀ (c : Cell) (u : Value), RelCell A γ w c u → u.oneCell' = true → refs c = none → c.isOwn = false → RelR A γ w Fr (.val false [c]) u := fun c u h1 h2 h3 h4 =>
    ⟨[u], rfl, fun _ => rfl, u, [], rfl, ⟨h1, h2, by simp [h3], h4⟩, rfl⟩
  cases x with
  | tmp t =>
    simp only [rdOp, Rd.eval, Option.some.injEq, Prod.mk.injEq] at he
    obtain ⟨rfl, _⟩ := he
    exact h.asRead t
  | global g =>
    simp only [rdOp, Rd.eval, Option.some.injEq, Prod.mk.injEq] at he
    obtain ⟨rfl, _⟩ := he
    exact one _ _ rfl rfl rfl rfl
  | func f =>
    simp only [rdOp, Rd.eval, Option.some.injEq, Prod.mk.injEq] at he
    obtain ⟨rfl, _⟩ := he
    exact one _ _ rfl rfl rfl rfl
  | const v =>
    unfold rdOp at he
    split at he
    all_goals (try (rename_i heq; cases heq; done))
    · rename_i heq; injection heq with heq; subst heq
      simp only [Rd.eval, Option.some.injEq, Prod.mk.injEq] at he
      obtain ⟨rfl, _⟩ := he
      exact one _ _ rfl rfl rfl rfl
    · rename_i heq; injection heq with heq; subst heq
      simp only [Rd.eval, Option.some.injEq, Prod.mk.injEq] at he
      obtain ⟨rfl, _⟩ := he
      exact one _ _ rfl rfl rfl rfl
    · rename_i heq; injection heq with heq; subst heq
      simp only [Rd.eval, Option.some.injEq, Prod.mk.injEq] at he
      obtain ⟨rfl, _⟩ := he
      exact one _ _ (by simp [RelCell, Act.eval]) rfl rfl rfl
    · rename_i heq; injection heq with heq; subst heq
      simp only [Rd.eval_bind, Option.bind_eq_some_iff, Rd.eval_ofOpt, Ctx.ti, Option.map_eq_some_iff] at he
      obtain ⟨p, ⟨ti, h1, rfl⟩, q, ⟨c, h2, rfl⟩, h3⟩ := he
      simp only [Rd.eval, Option.some.injEq, Prod.mk.injEq] at h3
      obtain ⟨rfl, _⟩ := h3
      simp only [constCell] at h2
      split at h2 <;> simp at h2
      subst h2
      exact one _ _ rfl rfl rfl rfl
    · rename_i heq; injection heq with heq; subst heq
      simp only [Rd.eval_bind, Option.bind_eq_some_iff, Rd.eval_ofOpt, Option.map_eq_some_iff] at he
      obtain ⟨p, ⟨cs, h1, rfl⟩, h3⟩ := he
      simp only [Rd.eval, Option.some.injEq, Prod.mk.injEq] at h3
      obtain ⟨rfl, _⟩ := h3
      exact ⟨_, by simp [Act.eval, mkVal], by simp, constCells_rel _ _ h1⟩
    · simp [Rd.eval] at he
theorem oneCell_eval {av : AV} {c : Cell} {lg lg' : List Slot} {e : Slot → AV} (h : (oneCell av).eval e lg = some (c, lg')) : av = .val false [c] := by
  unfold oneCell at h
  split at h
  · simp only [Rd.eval, Option.some.injEq, Prod.mk.injEq] at h; rw [h.1]
  · simp [Rd.eval] at h
theorem rdCell_sound (h : Core A X γ Fr env a w) {x : Operand} {T : TypeId} {c : Cell} {lg lg' : List Slot} (he : (rdCell X x T).eval env.get lg = some (c, lg')) :
    GoodR A γ w Fr c (a.eval x) := by
  simp only [rdCell, Rd.eval_bind, Option.bind_eq_some_iff] at he
  obtain ⟨⟨av, l1⟩, h1, h2⟩ := he
  have hr := rdOp_sound h h1
  have := oneCell_eval h2
  simp only at this
  subst this
  obtain ⟨us, hv, _, u, us', rfl, hg, hus⟩ := hr
  simp only [mkVal, List.headD_cons] at hv
  rw [hv]; exact hg
theorem rdInt_sound (h : Core A X γ Fr env a w) {x : Operand} {p : IntKind × Int} {lg lg' : List Slot} (he : (rdInt X x).eval env.get lg = some (p, lg')) : a.eval x = .int p.1 p.2 := by
  simp only [rdInt, Rd.eval_bind, Option.bind_eq_some_iff] at he
  obtain ⟨⟨c, l1⟩, h1, h2⟩ := he
  have hg := rdCell_sound h h1
  cases c <;> simp [Rd.eval] at h2
  obtain ⟨rfl, _⟩ := h2
  exact hg.1
theorem rdBool_sound (h : Core A X γ Fr env a w) {x : Operand} {b : Bool} {lg lg' : List Slot} (he : (rdBool X x).eval env.get lg = some (b, lg')) : a.eval x = .bool b := by
  simp only [rdBool, Rd.eval_bind, Option.bind_eq_some_iff] at he
  obtain ⟨⟨c, l1⟩, h1, h2⟩ := he
  have hg := rdCell_sound h h1
  cases c <;> simp [Rd.eval] at h2
  obtain ⟨rfl, _⟩ := h2
  exact hg.1
theorem ownerAt_eval {x : Loc} {ver : Nat} {p : TypeId × (Σ t : Ty, List t.den)} {lg lg' : List Slot} (he : (ownerAt x ver).eval env.get lg = some (p, lg')) :
    envCell env x = some (.own p.1 p.2.1 ver p.2.2) := by
  simp only [ownerAt, Rd.eval] at he
  split at he
  · rename_i e t v l hc
    cases hv : Nat.beq v ver <;> rw [hv] at he <;> simp [Rd.eval] at he
    obtain ⟨rfl, _⟩ := he
    have : v = ver := Nat.eq_of_beq_eq_true hv
    subst this
    exact hc
  · simp [Rd.eval] at he
theorem boxAt_eval {b bv : Nat} {p : Bool × List Cell} {lg lg' : List Slot} (he : (boxAt b bv).eval env.get lg = some (p, lg')) : env.get (.box b) = .box bv p.1 p.2 := by
  simp only [boxAt, Rd.eval] at he
  split at he
  · rename_i v fz cs hc
    cases hv : Nat.beq v bv <;> rw [hv] at he <;> simp [Rd.eval] at he
    obtain ⟨rfl, _⟩ := he
    have : v = bv := Nat.eq_of_beq_eq_true hv
    subst this
    exact hc
  · simp [Rd.eval] at he
end
end Go.VI
