/- VI, part 4: slots are set. -/
import Derived.Test.YtlnfgikipeiaiaaViSt
namespace Go.VI
open Go.RowKit
theorem put_tmps (a : Act) (d : Nat) (v : Value) : (a.put (some d) v).tmps = a.tmps.setIfInBounds d v := rfl
theorem envCell_cons (env : Env) (s : Slot) (av : AV) (x : Loc) : envCell ((s, av) :: env) x = if s = x.s then av.cell? x.c x.j else envCell env x := by
  simp only [envCell, Env.get_cons]
  split <;> rfl
def FreeBut (A : Fix) (γ : Gh) (env : Env) (s : Slot) (g : Nat) : Prop :=
  A.w0.heap.size ≤ g ∧ ¬ γ.Z g ∧ (∀ b bv fz cs, env.get (.box b) = .box bv fz cs → γ.σ b bv ≠ g) ∧ ∀ y e t ver l, y.s ≠ s → envCell env y = some (.own e t ver l) → (γ.φ y).ownBlock ≠ some g
theorem Free.but {A : Fix} {γ : Gh} {env : Env} {g : Nat} (h : Free A γ env g) (s : Slot) : FreeBut A γ env s g := ⟨h.1, h.2.1, h.2.2.1, fun y e t v l _ => h.2.2.2 y e t v l⟩
def setφ (γ : Gh) (s : Slot) (f : Nat → Nat → Value) : Loc → Value := fun x => if x.s = s then f x.c x.j else γ.φ x
def setψ (γ : Gh) (s : Slot) (vn : Nat) (f : Nat → Nat → Value) : Loc → Nat → Value := fun x v => if v = vn ∧ x.s = s then f x.c x.j else γ.ψ x v
section
variable {A : Fix} {X : Ctx} {γ : Gh} {Fr Fr' : Nat → Prop} {env : Env} {a : Act} {w w' : World}
theorem Core.setTmpG (h : Core A X γ Fr env a w) {d : Nat} (hd : d < X.ntmps) (av : AV) (f : Nat → Nat → Value) (v : Value) (ψ' : Loc → Nat → Value)
    (hFr : ∀ v, Fr' v → Fr v) (hψ : ∀ r, ¬ Fr r → ∀ y, ψ' y r = γ.ψ y r)
    (hshape : ∀ γ' : Gh, (∀ i j, γ'.φ ⟨.tmp d, i, j⟩ = f i j) → RelTmp γ' d av v)
    (hcell : ∀ i j c, av.cell? i j = some c → RelCell A { γ with ψ := ψ' } w c (f i j) ∧ (f i j).oneCell' = true ∧ ∀ r, refs c = some r → ¬ Fr' r)
    (hown : ∀ i j e t ver l, av.cell? i j = some (.own e t ver l) → ψ' ⟨.tmp d, i, j⟩ ver = f i j ∧ ¬ Fr' ver ∧ ∀ g, (f i j).ownBlock = some g → FreeBut A γ env (.tmp d) g ∧
      ∀ i' j' e' t' ver' l', av.cell? i' j' = some (.own e' t' ver' l') → (f i' j').ownBlock = some g → i' = i ∧ j' = j) :
    Core A X { γ with ψ := ψ', φ := setφ γ (.tmp d) f } Fr' ((.tmp d, av) :: env) (a.put (some d) v) w := by
  have hmove : ∀ {c u}, RelCell A γ w c u → (∀ r, refs c = some r → ¬ Fr r) → RelCell A { γ with ψ := ψ', φ := setφ γ (.tmp d) f } w c u := fun hc hr =>
    hc.move (fun r h1 y => hψ r (hr r h1) y) (fun _ _ _ => rfl) (fun _ hz => hz) (fun _ _ => rfl) (Nat.le_refl _) (fun _ _ _ => rfl)
  have hmove' : ∀ {c u}, RelCell A { γ with ψ := ψ' } w c u → RelCell A { γ with ψ := ψ', φ := setφ γ (.tmp d) f } w c u := fun hc =>
    hc.move (fun r h1 y => rfl) (fun _ _ _ => rfl) (fun _ hz => hz) (fun _ _ => rfl) (Nat.le_refl _) (fun _ _ _ => rfl)
  have hbx : ∀ b bv fz cs, Env.get ((.tmp d, av) :: env) (.box b) = .box bv fz cs → env.get (.box b) = .box bv fz cs := fun b bv fz cs hb => by
    rwa [Env.get_cons_ne _ _ (by simp)] at hb
  refine { frame := h.frame, glob := h.glob, zone := h.zone, zone0 := h.zone0, defers := h.defers, size := by simp [put_tmps, h.size], ntl := h.ntl, baseB := h.baseB, tmp := ?_, box := ?_, cell := ?_, own := ?_, inj := ?_, fresh := ?_, lent := fun k => by simp [setφ, h.lent k], lentloc := ?_ }
  · intro t
    by_cases ht : d = t
    · subst ht
      rw [Env.get_cons_self, put_tmps]
      have : (a.tmps.setIfInBounds d v).getD d undef = v := by
        simp [Array.getD_eq_getD_getElem?, h.size, hd]
      rw [this]
      exact hshape _ (fun i j => by simp [setφ])
    · rw [Env.get_cons_ne _ _ (by simpa using ht), put_tmps]
      have : (a.tmps.setIfInBounds d v).getD t undef = a.tmps.getD t undef := by
        simp [Array.getD_eq_getD_getElem?, ht]
      rw [this]
      have hφ : ∀ i j, setφ γ (.tmp d) f ⟨.tmp t, i, j⟩ = γ.φ ⟨.tmp t, i, j⟩ := fun i j => by simp [setφ, Ne.symm ht]
      have hcv : ∀ i n, cellVals { γ with ψ := ψ', φ := setφ γ (.tmp d) f } (.tmp t) i n = cellVals γ (.tmp t) i n := fun i n => by simp [cellVals, hφ]
      have := h.tmp t
      revert this
      cases env.get (.tmp t) with
      | val g cs => simp only [RelTmp, hcv]; exact id
      | tup l => simp only [RelTmp, tupVals, hcv]; exact id
      | skip => exact id
      | undef => exact id
      | box _ _ _ => exact id
      | num _ => exact id
  · intro b ver fz cs hb
    obtain ⟨h1, h2, h3, h4⟩ := h.box b ver fz cs (hbx _ _ _ _ hb)
    refine ⟨?_, h2, h3, fun hh => h4 (hFr _ hh)⟩
    have hcv : cellVals { γ with ψ := ψ', φ := setφ γ (.tmp d) f } (.box b) 0 cs.length = cellVals γ (.box b) 0 cs.length := by simp [cellVals, setφ]
    rw [hcv]; exact h1
  · intro x c hc
    rw [envCell_cons] at hc
    split at hc
    · rename_i hs
      obtain ⟨h1, h2, h3⟩ := hcell _ _ _ hc
      have hφx : setφ γ (.tmp d) f x = f x.c x.j := by simp [setφ, hs]
      exact ⟨by show RelCell _ _ _ _ (setφ γ (.tmp d) f x); rw [hφx]; exact hmove' h1, by show (setφ γ (.tmp d) f x).oneCell' = true; rw [hφx]; exact h2, h3⟩
    · rename_i hs
      obtain ⟨h1, h2, h3⟩ := h.cell x c hc
      have hφx : setφ γ (.tmp d) f x = γ.φ x := by simp [setφ, Ne.symm hs]
      exact ⟨by show RelCell _ _ _ _ (setφ γ (.tmp d) f x); rw [hφx]; exact hmove h1 h3, by show (setφ γ (.tmp d) f x).oneCell' = true; rw [hφx]; exact h2, fun r hr hh => h3 r hr (hFr _ hh)⟩
  · intro x e t ver l hc
    rw [envCell_cons] at hc
    split at hc
    · rename_i hs
      obtain ⟨h1, h2, h3⟩ := hown _ _ _ _ _ _ hc
      have hφx : setφ γ (.tmp d) f x = f x.c x.j := by simp [setφ, hs]
      have hx : x = ⟨.tmp d, x.c, x.j⟩ := by cases x; simp only [Loc.mk.injEq] at hs ⊢; exact ⟨hs.symm, trivial, trivial⟩
      refine ⟨?_, h2, ?_⟩
      · show ψ' x ver = setφ γ (.tmp d) f x
        rw [hφx, ← h1, ← hx]
      · intro g hg
        have hg' : (f x.c x.j).ownBlock = some g := by rw [← hφx]; exact hg
        obtain ⟨hfree, huniq⟩ := h3 g hg'
        refine ⟨hfree.2.1, fun b bv fz cs hb => hfree.2.2.1 b bv fz cs (hbx _ _ _ _ hb), fun y e' t' v' l' hy hyg => ?_⟩
        rw [envCell_cons] at hy
        split at hy
        · rename_i hs'
          have hφy : setφ γ (.tmp d) f y = f y.c y.j := by simp [setφ, hs']
          have hyg' : (f y.c y.j).ownBlock = some g := by rw [← hφy]; exact hyg
          obtain ⟨e1, e2⟩ := huniq _ _ _ _ _ _ hy hyg'
          cases x; cases y
          simp only at hs hs' e1 e2
          subst hs; subst hs'; subst e1; subst e2; rfl
        · rename_i hs'
          have hφy : setφ γ (.tmp d) f y = γ.φ y := by simp [setφ, Ne.symm hs']
          have hyg' : (γ.φ y).ownBlock = some g := by rw [← hφy]; exact hyg
          exact absurd hyg' (hfree.2.2.2 y _ _ _ _ (Ne.symm hs') hy)
    · rename_i hs
      obtain ⟨h1, h2, h3⟩ := h.own x e t ver l hc
      have hφx : setφ γ (.tmp d) f x = γ.φ x := by simp [setφ, Ne.symm hs]
      refine ⟨?_, fun hh => h2 (hFr _ hh), ?_⟩
      · show ψ' x ver = setφ γ (.tmp d) f x
        rw [hφx, hψ _ h2]; exact h1
      · intro g hg
        have hg' : (γ.φ x).ownBlock = some g := by rw [← hφx]; exact hg
        obtain ⟨a1, a2, a3⟩ := h3 g hg'
        refine ⟨a1, fun b bv fz cs hb => a2 b bv fz cs (hbx _ _ _ _ hb), fun y e' t' v' l' hy hyg => ?_⟩
        rw [envCell_cons] at hy
        split at hy
        · rename_i hs'
          have hφy : setφ γ (.tmp d) f y = f y.c y.j := by simp [setφ, hs']
          have hyg' : (f y.c y.j).ownBlock = some g := by rw [← hφy]; exact hyg
          exact absurd hg' (((hown _ _ _ _ _ _ hy).2.2 g hyg').1.2.2.2 x _ _ _ _ (Ne.symm hs) hc)
        · rename_i hs'
          have hφy : setφ γ (.tmp d) f y = γ.φ y := by simp [setφ, Ne.symm hs']
          have hyg' : (γ.φ y).ownBlock = some g := by rw [← hφy]; exact hyg
          exact a3 y _ _ _ _ hy hyg'
  · intro b b' bv bv' fz fz' cs cs' h1 h2
    exact h.inj b b' bv bv' fz fz' cs cs' (hbx _ _ _ _ h1) (hbx _ _ _ _ h2)
  · intro x e t ver l hc hnl g hg
    rw [envCell_cons] at hc
    split at hc
    · rename_i hs
      have hφx : setφ γ (.tmp d) f x = f x.c x.j := by simp [setφ, hs]
      have hg' : (f x.c x.j).ownBlock = some g := by rw [← hφx]; exact hg
      exact ((hown _ _ _ _ _ _ hc).2.2 g hg').1.1
    · rename_i hs
      have hφx : setφ γ (.tmp d) f x = γ.φ x := by simp [setφ, Ne.symm hs]
      exact h.fresh x e t ver l hc hnl g (by rw [← hφx]; exact hg)
  · intro k c j cl hc
    rw [envCell_cons, if_neg (by simp)] at hc
    exact h.lentloc k c j cl hc
theorem Core.setBoxG (h : Core A X γ Fr env a w) {d bv g0 : Nat} (cs : List Cell) (f : Nat → Nat → Value) (T : TypeId) (ψ' : Loc → Nat → Value) (σ' : Nat → Nat → Nat)
    (hFr : ∀ v, Fr' v → Fr v) (hψ : ∀ r, ¬ Fr r → ∀ y, ψ' y r = γ.ψ y r) (hσ : ∀ r, ¬ Fr r → ∀ b, σ' b r = γ.σ b r)
    (hg0 : σ' d bv = g0) (hbv : ¬ Fr' bv) (hB : (d < lentBase → A.w0.heap.size ≤ g0) ∧ (lentBase ≤ d → A.lb (d - lentBase) = some g0)) (hz0 : ¬ γ.Z g0)
    (hsep : ∀ b bv' fz cs, b ≠ d → env.get (.box b) = .box bv' fz cs → γ.σ b bv' ≠ g0)
    (hsepo : ∀ y e t ver l, y.s ≠ .box d → envCell env y = some (.own e t ver l) → (γ.φ y).ownBlock ≠ some g0)
    (hgrow : GrownD w w' (some g0)) (hG : A.G w') (hg0' : w'.heap[g0]? = some (.cells ((List.range cs.length).map (f 0)).toArray T (0, 0)))
    (hcell : ∀ j c, cs[j]? = some c → RelCell A { γ with ψ := ψ', σ := σ' } w' c (f 0 j) ∧ (f 0 j).oneCell' = true ∧ ∀ r, refs c = some r → ¬ Fr' r)
    (hown : ∀ j e t ver l, cs[j]? = some (.own e t ver l) → ψ' ⟨.box d, 0, j⟩ ver = f 0 j ∧ ¬ Fr' ver ∧ ∀ g, (f 0 j).ownBlock = some g → FreeBut A γ env (.box d) g ∧ g ≠ g0 ∧
      ∀ j' e' t' ver' l', cs[j']? = some (.own e' t' ver' l') → (f 0 j').ownBlock = some g → j' = j) :
    Core A X { γ with ψ := ψ', σ := σ', φ := setφ γ (.box d) f } Fr' ((.box d, .box bv false cs) :: env) a w' := by
  have hlt : ∀ {g : Nat} {o : Obj}, w.heap[g]? = some o → g < w.heap.size := fun hh => (Array.getElem?_eq_some_iff.1 hh).1
  have hZ : ∀ g, γ.Z g → w'.heap[g]? = w.heap[g]? := fun g hz => hgrow.block g (h.zone g hz) (fun e => by injection e with e; subst e; exact hz0 hz)
  have hmove : ∀ {c u}, RelCell A γ w c u → (∀ r, refs c = some r → ¬ Fr r) → (c.isOwn = true → ∀ g, u.ownBlock = some g → w'.heap[g]? = w.heap[g]?) →
      RelCell A { γ with ψ := ψ', σ := σ', φ := setφ γ (.box d) f } w' c u := fun hc hr ho =>
    hc.move (fun r h1 y => hψ r (hr r h1) y) (fun r h1 b => hσ r (hr r h1) b) (fun _ hz => hz) hZ hgrow.size ho
  have hmove' : ∀ {c u}, RelCell A { γ with ψ := ψ', σ := σ' } w' c u → RelCell A { γ with ψ := ψ', σ := σ', φ := setφ γ (.box d) f } w' c u := fun hc =>
    hc.move (fun r h1 y => rfl) (fun _ _ _ => rfl) (fun _ hz => hz) (fun _ _ => rfl) (Nat.le_refl _) (fun _ _ _ => rfl)
  have hbx : ∀ b bv' fz cs', Env.get ((.box d, .box bv false cs) :: env) (.box b) = .box bv' fz cs' → (b = d ∧ bv' = bv ∧ fz = false ∧ cs' = cs) ∨ (b ≠ d ∧ env.get (.box b) = .box bv' fz cs') := by
    intro b bv' fz cs' hb
    rw [Env.get_cons] at hb
    split at hb
    · rename_i hh
      simp only [Slot.box.injEq] at hh
      simp only [AV.box.injEq] at hb
      exact .inl ⟨hh.symm, hb.1.symm, hb.2.1.symm, hb.2.2.symm⟩
    · rename_i hh
      exact .inr ⟨fun e => hh (by rw [e]), hb⟩
  have hcb : ∀ x c, envCell ((.box d, .box bv false cs) :: env) x = some c → (∃ j, x = ⟨.box d, 0, j⟩ ∧ cs[j]? = some c) ∨ (x.s ≠ .box d ∧ envCell env x = some c) := by
    intro x c hc
    rw [envCell_cons] at hc
    split at hc
    · rename_i hs
      obtain ⟨s, i, j⟩ := x
      simp only at hs hc
      subst hs
      cases i with
      | zero => exact .inl ⟨j, rfl, hc⟩
      | succ i => simp [AV.cell?] at hc
    · rename_i hs
      exact .inr ⟨Ne.symm hs, hc⟩
  have hφd : ∀ j, setφ γ (.box d) f ⟨.box d, 0, j⟩ = f 0 j := fun j => by simp [setφ]
  have hφo : ∀ x : Loc, x.s ≠ .box d → setφ γ (.box d) f x = γ.φ x := fun x hx => by simp [setφ, hx]
  have hσb : ∀ b bv' fz cs', env.get (.box b) = .box bv' fz cs' → σ' b bv' = γ.σ b bv' := fun b bv' fz cs' hb => hσ _ (h.box b bv' fz cs' hb).2.2.2 b
  refine { frame := h.frame.grow hgrow fun g hg => ?_, glob := hG, zone := fun g hz => Nat.lt_of_lt_of_le (h.zone g hz) hgrow.size, zone0 := h.zone0, defers := h.defers, size := h.size, ntl := h.ntl, baseB := h.baseB, tmp := ?_, box := ?_, cell := ?_, own := ?_, inj := ?_, fresh := ?_, lent := fun k => by simp [setφ, h.lent k], lentloc := ?_ }
  · injection hg with hg
    subst hg
    rcases Nat.lt_or_ge d lentBase with hlt' | hge
    · exact .inl (hB.1 hlt')
    · exact .inr (.inr ⟨_, hB.2 hge⟩)
  · intro t
    rw [Env.get_cons_ne _ _ (by simp)]
    have hcv : ∀ i n, cellVals { γ with ψ := ψ', σ := σ', φ := setφ γ (.box d) f } (.tmp t) i n = cellVals γ (.tmp t) i n := fun i n => by simp [cellVals, setφ]
    have := h.tmp t
    revert this
    cases env.get (.tmp t) with
    | val g cs => simp only [RelTmp, hcv]; exact id
    | tup l => simp only [RelTmp, tupVals, hcv]; exact id
    | skip => exact id
    | undef => exact id
    | box _ _ _ => exact id
    | num _ => exact id
  · intro b ver fz cs' hb
    rcases hbx _ _ _ _ hb with ⟨rfl, rfl, rfl, rfl⟩ | ⟨hne, hb⟩
    · refine ⟨⟨T, ?_⟩, by show (_ → _ ≤ σ' b ver) ∧ (_ → _ = some (σ' b ver)); rw [hg0]; exact hB, ⟨fun hf => (by cases hf), fun hz => ?_⟩, hbv⟩
      · show w'.heap[σ' b ver]? = _
        rw [hg0, hg0']
        congr 3
        simp [cellVals, hφd]
      · exact absurd (by simpa [hg0] using hz) hz0
    · obtain ⟨⟨T', h1⟩, h2, h3, h4⟩ := h.box b ver fz cs' hb
      have hs := hσb _ _ _ _ hb
      refine ⟨⟨T', ?_⟩, by show (_ → _ ≤ σ' b ver) ∧ (_ → _ = some (σ' b ver)); rw [hs]; exact h2, by show _ ↔ γ.Z (σ' b ver); rw [hs]; exact h3, fun hh => h4 (hFr _ hh)⟩
      show w'.heap[σ' b ver]? = _
      rw [hs, hgrow.block _ (hlt h1) (fun e => by injection e with e; exact hsep b ver fz cs' hne hb e), h1]
      congr 3
      simp [cellVals, setφ, hne]
  · intro x c hc
    rcases hcb _ _ hc with ⟨j, rfl, hcj⟩ | ⟨hx, hcx⟩
    · obtain ⟨h1, h2, h3⟩ := hcell _ _ hcj
      exact ⟨by show RelCell _ _ _ _ (setφ γ (.box d) f _); rw [hφd]; exact hmove' h1, by show (setφ γ (.box d) f _).oneCell' = true; rw [hφd]; exact h2, h3⟩
    · obtain ⟨h1, h2, h3⟩ := h.cell x c hcx
      have ho : c.isOwn = true → ∀ g, (γ.φ x).ownBlock = some g → w'.heap[g]? = w.heap[g]? := by
        intro ho g hg
        cases c <;> simp [Cell.isOwn] at ho
        exact hgrow.block g (h1.lt g hg).2 (fun e => by injection e with e; subst e; exact hsepo x _ _ _ _ hx hcx hg)
      exact ⟨by show RelCell _ _ _ _ (setφ γ (.box d) f x); rw [hφo x hx]; exact hmove h1 h3 ho, by show (setφ γ (.box d) f x).oneCell' = true; rw [hφo x hx]; exact h2, fun r hr hh => h3 r hr (hFr _ hh)⟩
  · intro x e t ver l hc
    rcases hcb _ _ hc with ⟨j, rfl, hcj⟩ | ⟨hx, hcx⟩
    · obtain ⟨h1, h2, h3⟩ := hown _ _ _ _ _ hcj
      refine ⟨by show ψ' _ ver = setφ γ (.box d) f _; rw [hφd]; exact h1, h2, fun g hg => ?_⟩
      have hg' : (f 0 j).ownBlock = some g := by rw [← hφd]; exact hg
      obtain ⟨hf, hne0, hu⟩ := h3 g hg'
      refine ⟨hf.2.1, fun b bv' fz cs' hb => ?_, fun y e' t' v' l' hy hyg => ?_⟩
      · rcases hbx _ _ _ _ hb with ⟨rfl, rfl, rfl, rfl⟩ | ⟨hne, hb⟩
        · show σ' b bv' ≠ g; rw [hg0]; exact Ne.symm hne0
        · show σ' b bv' ≠ g; rw [hσb _ _ _ _ hb]; exact hf.2.2.1 b bv' fz cs' hb
      · rcases hcb _ _ hy with ⟨j', rfl, hyj⟩ | ⟨hy1, hy⟩
        · have hyg' : (f 0 j').ownBlock = some g := by rw [← hφd]; exact hyg
          rw [hu _ _ _ _ _ hyj hyg']
        · have hyg' : (γ.φ y).ownBlock = some g := by rw [← hφo y hy1]; exact hyg
          exact absurd hyg' (hf.2.2.2 y _ _ _ _ hy1 hy)
    · obtain ⟨h1, h2, h3⟩ := h.own x e t ver l hcx
      refine ⟨by show ψ' x ver = setφ γ (.box d) f x; rw [hφo x hx, hψ _ h2]; exact h1, fun hh => h2 (hFr _ hh), fun g hg => ?_⟩
      have hg' : (γ.φ x).ownBlock = some g := by rw [← hφo x hx]; exact hg
      obtain ⟨a1, a2, a3⟩ := h3 g hg'
      refine ⟨a1, fun b bv' fz cs' hb => ?_, fun y e' t' v' l' hy hyg => ?_⟩
      · rcases hbx _ _ _ _ hb with ⟨rfl, rfl, rfl, rfl⟩ | ⟨hne, hb⟩
        · show σ' b bv' ≠ g; rw [hg0]; exact fun e => hsepo x _ _ _ _ hx hcx (by rw [e]; exact hg')
        · show σ' b bv' ≠ g; rw [hσb _ _ _ _ hb]; exact a2 b bv' fz cs' hb
      · rcases hcb _ _ hy with ⟨j', rfl, hyj⟩ | ⟨hy1, hy⟩
        · have hyg' : (f 0 j').ownBlock = some g := by rw [← hφd]; exact hyg
          exact absurd hg' (((hown _ _ _ _ _ hyj).2.2 g hyg').1.2.2.2 x _ _ _ _ hx hcx)
        · have hyg' : (γ.φ y).ownBlock = some g := by rw [← hφo y hy1]; exact hyg
          exact a3 y _ _ _ _ hy hyg'
  · intro b b' bv1 bv' fz fz' cs1 cs' h1 h2 he
    rcases hbx _ _ _ _ h1 with ⟨rfl, rfl, rfl, rfl⟩ | ⟨hne, h1x⟩ <;> rcases hbx _ _ _ _ h2 with ⟨rfl, rfl, rfl, rfl⟩ | ⟨hne', h2x⟩
    · rfl
    · exfalso
      have he' : σ' b bv1 = σ' b' bv' := he
      rw [hg0, hσb _ _ _ _ h2x] at he'
      exact hsep b' bv' fz' cs' hne' h2x he'.symm
    · exfalso
      have he' : σ' b bv1 = σ' b' bv' := he
      rw [hg0, hσb _ _ _ _ h1x] at he'
      exact hsep b bv1 fz cs1 hne h1x he'
    · have he' : σ' b bv1 = σ' b' bv' := he
      rw [hσb _ _ _ _ h1x, hσb _ _ _ _ h2x] at he'
      exact h.inj b b' bv1 bv' fz fz' cs1 cs' h1x h2x he'
  · intro x e t ver l hc hnl g hg
    rcases hcb _ _ hc with ⟨j, rfl, hcj⟩ | ⟨hx, hcx⟩
    · have hg' : (f 0 j).ownBlock = some g := by rw [← hφd]; exact hg
      exact ((hown _ _ _ _ _ hcj).2.2 g hg').1.1
    · exact h.fresh x e t ver l hcx hnl g (by rw [← hφo x hx]; exact hg)
  · intro k c j cl hc
    rcases hcb _ _ hc with ⟨j', hx, _⟩ | ⟨_, hcx⟩
    · simp at hx
    · exact h.lentloc k c j cl hcx
theorem Core.setOwn (h : Core A X γ Fr env a w) {x : Loc} {e : TypeId} {t : Ty} {ver : Nat} {l l' : List t.den} (hx : envCell env x = some (.own e t ver l))
    {row : Option Nat} (hgrow : GrownD w w' row) (hrow : ∀ g, row = some g → (γ.φ x).ownBlock = some g) (hG : A.G w') (ho : OwnV γ.Z w' A.B e t (γ.φ x) l') :
    Core A X γ Fr (Upd.app env (.cell x (.own e t ver l'))) a w' := by
  have hlt : ∀ {g : Nat} {o : Obj}, w.heap[g]? = some o → g < w.heap.size := fun hh => (Array.getElem?_eq_some_iff.1 hh).1
  have hox := h.own x e t ver l hx
  have hcx := h.cell x _ hx
  have hrz : ∀ g, row = some g → ¬ γ.Z g := fun g hg => (hox.2.2 g (hrow g hg)).1
  have hZ : ∀ g, γ.Z g → w'.heap[g]? = w.heap[g]? := fun g hz => hgrow.block g (h.zone g hz) (fun e => hrz g e.symm hz)
  have hb : ∀ b bv fz cs, (Upd.app env (.cell x (.own e t ver l'))).get (.box b) = .box bv fz cs → ∃ cs', env.get (.box b) = .box bv fz cs' ∧ cs'.length = cs.length := by
    intro b ver fz cs hb
    rw [get_app_cell] at hb
    split at hb
    · exact box_setCell hb
    · exact ⟨cs, hb, rfl⟩
  have hc : ∀ y c, envCell (Upd.app env (.cell x (.own e t ver l'))) y = some c → (y = x ∧ c = .own e t ver l') ∨ (y ≠ x ∧ envCell env y = some c) := by
    intro y c hy
    rw [envCell_app_cell] at hy
    split at hy
    · rename_i hh; injection hy with hy; exact .inl ⟨hh.1, hy.symm⟩
    · rename_i hh
      exact .inr ⟨fun e => hh ⟨e, by rw [hx]; rfl⟩, hy⟩
  refine { frame := h.frame.grow hgrow fun g hg => h.mine hx (hrow g hg), glob := hG, zone := fun g hz => Nat.lt_of_lt_of_le (h.zone g hz) hgrow.size, zone0 := h.zone0, defers := h.defers, size := h.size, ntl := h.ntl, baseB := h.baseB, tmp := ?_, box := ?_, cell := ?_, own := ?_, inj := ?_, fresh := fun y e' t' ver' l1 hy => ?_, lent := h.lent, lentloc := lentloc_app h.lentloc x _ }
  · intro t'
    rw [get_app_cell]
    split
    · exact relTmp_setCell (h.tmp t')
    · exact h.tmp t'
  · intro b bver fz cs hbb
    obtain ⟨cs', h1, h2⟩ := hb b bver fz cs hbb
    obtain ⟨⟨T, b1⟩, b2⟩ := h.box b bver fz cs' h1
    rw [h2] at b1
    refine ⟨⟨T, ?_⟩, b2⟩
    rw [hgrow.block _ (hlt b1) (fun e => (hox.2.2 _ (hrow _ e.symm)).2.1 b bver fz cs' h1 rfl)]
    exact b1
  · intro y c hy
    rcases hc y c hy with ⟨rfl, rfl⟩ | ⟨hne, hy⟩
    · exact ⟨ho, hcx.2.1, by simp [refs]⟩
    · obtain ⟨h1, h2, h3⟩ := h.cell y c hy
      refine ⟨h1.move (fun _ _ _ => rfl) (fun _ _ _ => rfl) (fun _ hz => hz) hZ hgrow.size (fun hown g hg => ?_), h2, h3⟩
      cases c <;> simp [Cell.isOwn] at hown
      exact hgrow.block g (h1.lt g hg).2 (fun e => hne ((hox.2.2 g (hrow g e.symm)).2.2 y _ _ _ _ hy hg))
  · intro y e' t' ver' l1 hy
    rcases hc y _ hy with ⟨rfl, hh⟩ | ⟨hne, hy⟩
    · injection hh with e1 e2 e3 e4
      subst e1; subst e2; subst e3
      refine ⟨hox.1, hox.2.1, fun g hg => ?_⟩
      obtain ⟨a1, a2, a3⟩ := hox.2.2 g hg
      refine ⟨a1, fun b bv fz cs hbb => ?_, fun z e1 t1 v1 l1 hz hzg => ?_⟩
      · obtain ⟨cs', h1, _⟩ := hb b bv fz cs hbb
        exact a2 b bv fz cs' h1
      · rcases hc z _ hz with ⟨hh, _⟩ | ⟨_, hh⟩
        · exact hh
        · exact a3 z e1 t1 v1 l1 hh hzg
    · obtain ⟨h1, h2, h3⟩ := h.own y e' t' ver' l1 hy
      refine ⟨h1, h2, fun g hg => ?_⟩
      obtain ⟨a1, a2, a3⟩ := h3 g hg
      refine ⟨a1, fun b bv fz cs hbb => ?_, fun z e1 t1 v1 l2 hz hzg => ?_⟩
      · obtain ⟨cs', h1, _⟩ := hb b bv fz cs hbb
        exact a2 b bv fz cs' h1
      · rcases hc z _ hz with ⟨hh, _⟩ | ⟨_, hh⟩
        · subst hh
          exact a3 _ _ _ _ _ hx hzg
        · exact a3 z e1 t1 v1 l2 hh hzg
  · intro b b' bv bv' fz fz' cs cs' h1 h2
    obtain ⟨cs1, h1, _⟩ := hb b bv fz cs h1
    obtain ⟨cs2, h2, _⟩ := hb b' bv' fz' cs' h2
    exact h.inj b b' bv bv' fz fz' cs1 cs2 h1 h2
  · rcases hc y _ hy with ⟨rfl, hh⟩ | ⟨_, hh⟩
    · exact h.fresh _ _ _ _ _ hx
    · exact h.fresh y _ _ _ _ hh
end
end Go.VI
