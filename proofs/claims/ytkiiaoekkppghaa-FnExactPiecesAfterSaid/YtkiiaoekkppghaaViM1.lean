/- VI, part 21a: what was lent is laid aside, and comes back. -/
import Derived.Test.YtkiiaoekkppghaaViCall
namespace Go.VI
open Go.RowKit

/-- A block that is one's own or lent, and that nobody has now. -/
def Loose (A : Fix) (γ : Gh) (env : Env) (g : Nat) : Prop :=
  (A.w0.heap.size ≤ g ∨ A.L g) ∧ ¬ γ.Z g ∧ (∀ b bv fz cs, env.get (.box b) = .box bv fz cs → γ.σ b bv ≠ g) ∧ ∀ y e t ver l, envCell env y = some (.own e t ver l) → (γ.φ y).ownBlock ≠ some g

section
variable {A : Fix} {X : Ctx} {γ : Gh} {Fr : Nat → Prop} {env : Env} {a : Act} {w w' : World}

/-- Blocks turn that nobody has. -/
theorem Core.worldM (h : Core A X γ Fr env a w) (hos : w'.os = w.os) (htape : w'.tape = w.tape) (hout : w'.output = w.output) (hsz : w.heap.size ≤ w'.heap.size)
    (hb : ∀ k, k < w.heap.size → ¬ Loose A γ env k → w'.heap[k]? = w.heap[k]?) (hG : A.G w') : Core A X γ Fr env a w' := by
  have hlt : ∀ {g : Nat} {o : Obj}, w.heap[g]? = some o → g < w.heap.size := fun hh => (Array.getElem?_eq_some_iff.1 hh).1
  have hZ : ∀ g, γ.Z g → w'.heap[g]? = w.heap[g]? := fun g hz => hb g (h.zone g hz) fun hl => hl.2.1 hz
  refine { frame := ⟨hos.trans h.frame.os, htape.trans h.frame.tape, hout.trans h.frame.output, Nat.le_trans h.frame.size hsz, fun k hk hL => ?_⟩, glob := hG, zone := fun g hz => Nat.lt_of_lt_of_le (h.zone g hz) hsz, zone0 := h.zone0, defers := h.defers, size := h.size, ntl := h.ntl, baseB := h.baseB, tmp := h.tmp, box := ?_, cell := ?_, own := h.own, inj := h.inj, fresh := h.fresh, lent := h.lent, lentloc := h.lentloc }
  · rw [hb k (Nat.lt_of_lt_of_le hk h.frame.size) (fun hl => hl.1.elim (fun h1 => by omega) hL)]
    exact h.frame.block k hk hL
  · intro b ver fz cs hbx
    obtain ⟨⟨T, h1⟩, h2⟩ := h.box b ver fz cs hbx
    refine ⟨⟨T, ?_⟩, h2⟩
    rw [hb _ (hlt h1) (fun hl => hl.2.2.1 b ver fz cs hbx rfl)]
    exact h1
  · intro x c hc
    obtain ⟨h1, h2, h3⟩ := h.cell x c hc
    refine ⟨h1.move (fun _ _ _ => rfl) (fun _ _ _ => rfl) (fun _ hz => hz) hZ hsz (fun hown g hgb => ?_), h2, h3⟩
    cases c <;> simp [Cell.isOwn] at hown
    exact hb g (h1.lt g hgb).2 fun hl => hl.2.2.2 x _ _ _ _ hc hgb

/-- A variable is laid aside. -/
theorem Core.killBox (h : Core A X γ Fr env a w) (d : Nat) : Core A X γ Fr ((.box d, .undef) :: env) a w := by
  have hbx : ∀ b bv fz cs, Env.get ((.box d, .undef) :: env) (.box b) = .box bv fz cs → b ≠ d ∧ env.get (.box b) = .box bv fz cs := by
    intro b bv fz cs hb
    rw [Env.get_cons] at hb
    split at hb
    · cases hb
    · rename_i hh
      exact ⟨fun e => hh (by rw [e]), hb⟩
  have hc : ∀ x c, envCell ((.box d, .undef) :: env) x = some c → envCell env x = some c := by
    intro x c hx
    rw [envCell_cons] at hx
    split at hx
    · simp [AV.cell?] at hx
    · exact hx
  refine { frame := h.frame, glob := h.glob, zone := h.zone, zone0 := h.zone0, defers := h.defers, size := h.size, ntl := h.ntl, baseB := h.baseB, tmp := fun t => by rw [Env.get_cons_ne _ _ (by simp)]; exact h.tmp t, box := fun b ver fz cs hh => h.box b ver fz cs (hbx _ _ _ _ hh).2, cell := fun x c hx => h.cell x c (hc x c hx), own := ?_, inj := ?_, fresh := fun x e t ver l hx => h.fresh x e t ver l (hc x _ hx), lent := h.lent, lentloc := fun k c j cl hx => h.lentloc k c j cl (hc _ _ hx) }
  · intro x e t ver l hx
    obtain ⟨k1, k2, k3⟩ := h.own x e t ver l (hc x _ hx)
    refine ⟨k1, k2, fun g hg => ?_⟩
    obtain ⟨a1, a2, a3⟩ := k3 g hg
    exact ⟨a1, fun b bv fz cs hh => a2 b bv fz cs (hbx _ _ _ _ hh).2, fun y e' t' v' l' hy => a3 y e' t' v' l' (hc y _ hy)⟩
  · intro b b' bv bv' fz fz' cs cs' h1 h2
    exact h.inj b b' bv bv' fz fz' cs cs' (hbx _ _ _ _ h1).2 (hbx _ _ _ _ h2).2

theorem Core.killBox_loose (h : Core A X γ Fr env a w) {d bv : Nat} {cs : List Cell} (hb : env.get (.box d) = .box bv false cs) : Loose A γ ((.box d, .undef) :: env) (γ.σ d bv) := by
  refine ⟨h.boxMine hb, fun hz => ?_, fun b bv' fz cs' hb' he => ?_, fun y e t ver l hy hyg => ?_⟩
  · have := (h.box d bv false cs hb).2.2.1.2 hz
    cases this
  · rw [Env.get_cons] at hb'
    split at hb'
    · cases hb'
    · rename_i hh
      exact hh (by rw [h.inj b d bv' bv fz false cs' cs hb' hb he])
  · rw [envCell_cons] at hy
    split at hy
    · simp [AV.cell?] at hy
    · exact ((h.own y e t ver l hy).2.2 _ hyg).2.1 d bv false cs hb rfl

theorem Loose.killBox {g : Nat} (h : Loose A γ env g) (d : Nat) : Loose A γ ((.box d, .undef) :: env) g := by
  refine ⟨h.1, h.2.1, fun b bv fz cs hb => ?_, fun y e t v l hy => ?_⟩
  · rw [Env.get_cons] at hb
    split at hb
    · cases hb
    · exact h.2.2.1 b bv fz cs hb
  · rw [envCell_cons] at hy
    split at hy
    · simp [AV.cell?] at hy
    · exact h.2.2.2 y e t v l hy

theorem Core.kill_loose (h : Core A X γ Fr env a w) {x : Loc} {e : TypeId} {t : Ty} {ver : Nat} {l : List t.den} (hx : envCell env x = some (.own e t ver l)) {g : Nat} (hg : (γ.φ x).ownBlock = some g) :
    Loose A γ (Upd.app env (.cell x .undef)) g := by
  obtain ⟨a1, a2, a3⟩ := (h.own x e t ver l hx).2.2 g hg
  refine ⟨h.mine hx hg, a1, fun b bv fz cs hb => ?_, fun y e' t' v' l' hy hyg => ?_⟩
  · rw [get_app_cell] at hb
    split at hb
    · obtain ⟨cs', hb', _⟩ := box_setCell hb
      exact a2 b bv fz cs' hb'
    · exact a2 b bv fz cs hb
  · rw [envCell_app_cell] at hy
    split at hy
    · injection hy with hy; cases hy
    · rename_i hne
      have := a3 y e' t' v' l' hy hyg
      subst this
      exact hne ⟨rfl, by rw [hx]; rfl⟩

theorem Loose.kill {g : Nat} (h : Loose A γ env g) (x : Loc) : Loose A γ (Upd.app env (.cell x .undef)) g := by
  refine ⟨h.1, h.2.1, fun b bv fz cs hb => ?_, fun y e t v l hy => ?_⟩
  · rw [get_app_cell] at hb
    split at hb
    · obtain ⟨cs', hb', _⟩ := box_setCell hb
      exact h.2.2.1 b bv fz cs' hb'
    · exact h.2.2.1 b bv fz cs hb
  · rw [envCell_app_cell] at hy
    split at hy
    · injection hy with hy; cases hy
    · exact h.2.2.2 y e t v l hy

/-- A row comes back. -/
theorem Core.reviveRow (h : Core A X γ Fr env a w) {x : Loc} {e : TypeId} {t : Ty} {ver : Nat} {l : List t.den} (hx : envCell env x = some .undef) (hψ : γ.ψ x ver = γ.φ x) (hfr : ¬ Fr ver)
    (ho : OwnV γ.Z w A.B e t (γ.φ x) l) (hl : ∀ g, (γ.φ x).ownBlock = some g → Loose A γ env g) (hf : x.s.isLent = false → ∀ g, (γ.φ x).ownBlock = some g → A.w0.heap.size ≤ g) :
    Core A X γ Fr (Upd.app env (.cell x (.own e t ver l))) a w := by
  have hb : ∀ b bv fz cs, (Upd.app env (.cell x (.own e t ver l))).get (.box b) = .box bv fz cs → ∃ cs', env.get (.box b) = .box bv fz cs' ∧ cs'.length = cs.length := by
    intro b ver fz cs hb
    rw [get_app_cell] at hb
    split at hb
    · exact box_setCell hb
    · exact ⟨cs, hb, rfl⟩
  have hc : ∀ y c, envCell (Upd.app env (.cell x (.own e t ver l))) y = some c → (y = x ∧ c = .own e t ver l) ∨ (y ≠ x ∧ envCell env y = some c) := by
    intro y c hy
    rw [envCell_app_cell] at hy
    split at hy
    · rename_i hh; injection hy with hy; exact .inl ⟨hh.1, hy.symm⟩
    · rename_i hh
      exact .inr ⟨fun e => hh ⟨e, by rw [hx]; rfl⟩, hy⟩
  have hone : (γ.φ x).oneCell' = true := (h.cell x _ hx).2.1
  refine { frame := h.frame, glob := h.glob, zone := h.zone, zone0 := h.zone0, defers := h.defers, size := h.size, ntl := h.ntl, baseB := h.baseB, tmp := ?_, box := ?_, cell := ?_, own := ?_, inj := ?_, fresh := fun y e' t' ver' l1 hy => ?_, lent := h.lent, lentloc := lentloc_app h.lentloc x _ }
  · intro t'
    rw [get_app_cell]
    split
    · exact relTmp_setCell (h.tmp t')
    · exact h.tmp t'
  · intro b bver fz cs hbb
    obtain ⟨cs', h1, h2⟩ := hb b bver fz cs hbb
    have := h.box b bver fz cs' h1
    rwa [h2] at this
  · intro y c hy
    rcases hc y c hy with ⟨rfl, rfl⟩ | ⟨hne, hy⟩
    · exact ⟨ho, hone, by simp [refs]⟩
    · exact h.cell y c hy
  · intro y e' t' ver' l1 hy
    rcases hc y _ hy with ⟨rfl, hh⟩ | ⟨hne, hy⟩
    · injection hh with e1 e2 e3 e4
      subst e1; subst e2; subst e3
      refine ⟨hψ, hfr, fun g hg => ?_⟩
      have hlo := hl g hg
      refine ⟨hlo.2.1, fun b bv fz cs hbb => ?_, fun z e1 t1 v1 l1 hz hzg => ?_⟩
      · obtain ⟨cs', h1, _⟩ := hb b bv fz cs hbb
        exact hlo.2.2.1 b bv fz cs' h1
      · rcases hc z _ hz with ⟨hh, _⟩ | ⟨_, hh⟩
        · exact hh
        · exact absurd hzg (hlo.2.2.2 z _ _ _ _ hh)
    · have hyo := hy
      clear hy
      obtain ⟨h1, h2, h3⟩ := h.own y e' t' ver' l1 hyo
      refine ⟨h1, h2, fun g hg => ?_⟩
      obtain ⟨a1, a2, a3⟩ := h3 g hg
      refine ⟨a1, fun b bv fz cs hbb => ?_, fun z e1 t1 v1 l2 hz hzg => ?_⟩
      · obtain ⟨cs', h1, _⟩ := hb b bv fz cs hbb
        exact a2 b bv fz cs' h1
      · rcases hc z _ hz with ⟨hh, _⟩ | ⟨_, hh⟩
        · subst hh
          exact absurd hg ((hl g hzg).2.2.2 y _ _ _ _ hyo)
        · exact a3 z e1 t1 v1 l2 hh hzg
  · intro b b' bv bv' fz fz' cs cs' h1 h2
    obtain ⟨cs1, h1, _⟩ := hb b bv fz cs h1
    obtain ⟨cs2, h2, _⟩ := hb b' bv' fz' cs' h2
    exact h.inj b b' bv bv' fz fz' cs1 cs2 h1 h2
  · rcases hc y _ hy with ⟨rfl, hh⟩ | ⟨_, hh⟩
    · exact hf
    · exact h.fresh y _ _ _ _ hh

theorem Loose.reviveRow {g : Nat} (h : Loose A γ env g) {x : Loc} {e : TypeId} {t : Ty} {ver : Nat} {l : List t.den} (hx : (γ.φ x).ownBlock ≠ some g) : Loose A γ (Upd.app env (.cell x (.own e t ver l))) g := by
  refine ⟨h.1, h.2.1, fun b bv fz cs hb => ?_, fun y e' t' v' l' hy => ?_⟩
  · rw [get_app_cell] at hb
    split at hb
    · obtain ⟨cs', hb', _⟩ := box_setCell hb
      exact h.2.2.1 b bv fz cs' hb'
    · exact h.2.2.1 b bv fz cs hb
  · rw [envCell_app_cell] at hy
    split at hy
    · rename_i hh; rw [hh.1]; exact hx
    · exact h.2.2.2 y e' t' v' l' hy

/-- A variable comes back. -/
theorem Core.reviveBox (h : Core A X γ Fr env a w) {d bv : Nat} {cs : List Cell} {us : List Value} {T : TypeId} (_hnb : ∀ v fz c, env.get (.box d) ≠ .box v fz c) (hbv : ¬ Fr bv)
    (hB : (d < lentBase → A.w0.heap.size ≤ γ.σ d bv) ∧ (lentBase ≤ d → A.lb (d - lentBase) = some (γ.σ d bv))) (hlo : Loose A γ env (γ.σ d bv)) (hg : w.heap[γ.σ d bv]? = some (.cells us.toArray T (0, 0)))
    (hr : RelCs A γ w Fr cs us) : Core A X { γ with φ := setφ γ (.box d) fun _ j => us.getD j undef } Fr ((.box d, .box bv false cs) :: env) a w := by
  have hl := hr.length
  have := h.setBoxG (Fr' := Fr) (d := d) (bv := bv) (g0 := γ.σ d bv) (w' := w) cs (fun _ j => us.getD j undef) T γ.ψ γ.σ (fun _ hh => hh) (fun _ _ _ => rfl) (fun _ _ _ => rfl) rfl hbv hB hlo.2.1
    (fun b bv' fz cs' hne hbb => hlo.2.2.1 b bv' fz cs' hbb) (fun y e t ver l _ hy => hlo.2.2.2 y e t ver l hy) ⟨rfl, rfl, rfl, Nat.le_refl _, fun _ _ _ => rfl⟩ h.glob
    (by rw [hg, range_map_getD us cs.length hl])
    (fun j c hc => by
      obtain ⟨u, hu, g1, g2, g3, _⟩ := hr.get hc
      rw [getD_of hu]
      exact ⟨g1.move (fun _ _ _ => rfl) (fun _ _ _ => rfl) (fun _ hz => hz) (fun _ _ => rfl) (Nat.le_refl _) (fun _ _ _ => rfl), g2, g3⟩)
    (fun j e t ver l hc => by
      obtain ⟨u, hu, _, _, _, g4⟩ := hr.get hc
      simp [Cell.isOwn] at g4)
  exact this

theorem Loose.reviveBox {g d bv : Nat} {cs : List Cell} {f : Nat → Nat → Value} (h : Loose A γ env g) (hne : γ.σ d bv ≠ g) (hno : ∀ c ∈ cs, c.isOwn = false) :
    Loose A { γ with φ := setφ γ (.box d) f } ((.box d, .box bv false cs) :: env) g := by
  refine ⟨h.1, h.2.1, fun b bv' fz cs' hb => ?_, fun y e t v l hy => ?_⟩
  · rw [Env.get_cons] at hb
    split at hb
    · rename_i hh
      simp only [Slot.box.injEq] at hh
      subst hh
      injection hb with e1
      subst e1
      exact hne
    · exact h.2.2.1 b bv' fz cs' hb
  · rw [envCell_cons] at hy
    split at hy
    · rename_i hs
      cases hi : y.c with
      | zero =>
        rw [hi] at hy
        have := hno _ (List.mem_of_getElem? hy)
        simp [Cell.isOwn] at this
      | succ i => rw [hi] at hy; simp [AV.cell?] at hy
    · rename_i hs
      show (setφ γ (.box d) f y).ownBlock ≠ some g
      rw [show setφ γ (.box d) f y = γ.φ y by simp [setφ, Ne.symm hs]]
      exact h.2.2.2 y e t v l hy
end
end Go.VI
