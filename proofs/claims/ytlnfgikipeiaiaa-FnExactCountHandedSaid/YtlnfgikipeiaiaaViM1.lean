/- VI, part 21a: what was lent is laid aside, and comes back. -/
import Derived.Test.YtlnfgikipeiaiaaViCall
namespace Go.VI
open Go.RowKit
def Loose (A : Fix) (γ : Gh) (env : Env) (g : Nat) : Prop :=
  (A.w0.heap.size ≤ g ∨ A.L g) ∧ ¬ γ.Z g ∧ (∀ b bv fz cs, env.get (.box b) = .box bv fz cs → γ.σ b bv ≠ g) ∧ ∀ y e t ver l, envCell env y = some (.own e t ver l) → (γ.φ y).ownBlock ≠ some g
section
variable {A : Fix} {X : Ctx} {γ : Gh} {Fr : Nat → Prop} {env : Env} {a : Act} {w w' : World}
theorem Core.worldM (h : Core A X γ Fr env a w) (hos : w'.os = w.os) (htape : w'.tape = w.tape) (hout : w'.output = w.output) (hsz : w.heap.size ≤ w'.heap.size) (hdr : w.drawn ≤ w'.drawn)
    (hb : ∀ k, k < w.heap.size → ¬ Loose A γ env k → w'.heap[k]? = w.heap[k]?) (hG : A.G w') : Core A X γ Fr env a w' := by
  have hlt : ∀ {g : Nat} {o : Obj}, w.heap[g]? = some o → g < w.heap.size := fun hh => (Array.getElem?_eq_some_iff.1 hh).1
  have hZ : ∀ g, γ.Z g → w'.heap[g]? = w.heap[g]? := fun g hz => hb g (h.zone g hz) fun hl => hl.2.1 hz
  refine { frame := ⟨hos.trans h.frame.os, htape.trans h.frame.tape, hout.trans h.frame.output, Nat.le_trans h.frame.size hsz, fun k hk hL => ?_, Nat.le_trans h.frame.drawn hdr⟩, glob := hG, zone := fun g hz => Nat.lt_of_lt_of_le (h.zone g hz) hsz, zone0 := h.zone0, defers := h.defers, size := h.size, ntl := h.ntl, baseB := h.baseB, tmp := h.tmp, box := ?_, cell := ?_, own := h.own, inj := h.inj, fresh := h.fresh, lent := h.lent, lentloc := h.lentloc }
  · rw [hb k (Nat.lt_of_lt_of_le hk h.frame.size) (fun hl => hl.1.elim (fun h1 => by omega) hL)]
    exact h.frame.block k hk hL
  · intro b ver fz cs hbx
    obtain ⟨⟨T, h1⟩, h2⟩ := h.box b ver fz cs hbx
    refine ⟨⟨T, ?_⟩, h2⟩
    rw [hb _ (hlt h1) (fun hl => hl.2.2.1 b ver fz cs hbx rfl)]
    exact h1
  · intro x c hc
    obtain ⟨h1, h2, h3⟩ := h.cell x c hc
    refine ⟨h1.move (fun _ _ _ => rfl) (fun _ _ _ => rfl) (fun _ hz => hz) hZ hsz (fun hown g hgb => ?_), h2, h3⟩
    cases c <;> simp [Cell.isOwn] at hown
    exact hb g (h1.lt g hgb).2 fun hl => hl.2.2.2 x _ _ _ _ hc hgb
theorem Core.killBox (h : Core A X γ Fr env a w) (d : Nat) : Core A X γ Fr ((.box d, .undef) :: env) a w := by
  have hbx : ∀ b bv fz cs, Env.get ((.box d, .undef) :: env) (.box b) = .box bv fz cs → b ≠ d ∧ env.get (.box b) = .box bv fz cs := by
    intro b bv fz cs hb
    rw [Env.get_cons] at hb
    split at hb
    · cases hb
    · rename_i hh
      exact ⟨fun e => hh (by rw [e]), hb⟩
  have hc : ∀ x c, envCell ((.box d, .undef) :: env) x = some c → envCell env x = some c := by
    intro x c hx
    rw [envCell_cons] at hx
    split at hx
    · simp [AV.cell?] at hx
    · exact hx
  refine { frame := h.frame, glob := h.glob, zone := h.zone, zone0 := h.zone0, defers := h.defers, size := h.size, ntl := h.ntl, baseB := h.baseB, tmp := fun t => by rw [Env.get_cons_ne _ _ (by simp)]; exact h.tmp t, box := fun b ver fz cs hh => h.box b ver fz cs (hbx _ _ _ _ hh).2, cell := fun x c hx => h.cell x c (hc x c hx), own := ?_, inj := ?_, fresh := fun x e t ver l hx => h.fresh x e t ver l (hc x _ hx), lent := h.lent, lentloc := fun k c j cl hx => h.lentloc k c j cl (hc _ _ hx) }
  · intro x e t ver l hx
    obtain ⟨k1, k2, k3⟩ := h.own x e t ver l (hc x _ hx)
    refine ⟨k1, k2, fun g hg => ?_⟩
    obtain ⟨a1, a2, a3⟩ := k3 g hg
    exact ⟨a1, fun b bv fz cs hh => a2 b bv fz cs (hbx _ _ _ _ hh).2, fun y e' t' v' l' hy => a3 y e' t' v' l' (hc y _ hy)⟩
  · intro b b' bv bv' fz fz' cs cs' h1 h2
    exact h.inj b b' bv bv' fz fz' cs cs' (hbx _ _ _ _ h1).2 (hbx _ _ _ _ h2).2
theorem Core.killBox_loose (h : Core A X γ Fr env a w) {d bv : Nat} {cs : List Cell} (hb : env.get (.box d) = .box bv false cs) : Loose A γ ((.box d, .undef) :: env) (γ.σ d bv) := by
  refine ⟨h.boxMine hb, fun hz => ?_, fun b bv' fz cs' hb' he => ?_, fun y e t ver l hy hyg => ?_⟩
  · have := (h.box d bv false cs hb).2.2.1.2 hz
    cases this
  · rw [Env.get_cons] at hb'
    split at hb'
    · cases hb'
    · rename_i hh
      exact hh (by rw [h.inj b d bv' bv fz false cs' cs hb' hb he])
  · rw [envCell_cons] at hy
    split at hy
    · simp [AV.cell?] at hy
    · exact ((h.own y e t ver l hy).2.2 _ hyg).2.1 d bv false cs hb rfl
theorem Loose.killBox {g : Nat} (h : Loose A γ env g) (d : Nat) : Loose A γ ((.box d, .undef) :: env) g := by
  refine ⟨h.1, h.2.1, fun b bv fz cs hb => ?_, fun y e t v l hy => ?_⟩
  · rw [Env.get_cons] at hb
    split at hb
    · cases hb
    · exact h.2.2.1 b bv fz cs hb
  · rw [envCell_cons] at hy
    split at hy
    · simp [AV.cell?] at hy
    · exact h.2.2.2 y e t v l hy
theorem Core.kill_loose (h : Core A X γ Fr env a w) {x : Loc} {e : TypeId} {t : Ty} {ver : Nat} {l : List t.den} (hx : envCell env x = some (.own e t ver l)) {g : Nat} (hg : (γ.φ x).ownBlock = some g) :
    Loose A γ (Upd.app env (.cell x .undef)) g := by
  obtain ⟨a1, a2, a3⟩ := (h.own x e t ver l hx).2.2 g hg
  refine ⟨h.mine hx hg, a1, fun b bv fz cs hb => ?_, fun y e' t' v' l' hy hyg => ?_⟩
  · rw [get_app_cell] at hb
    split at hb
    · obtain ⟨cs', hb', _⟩ := box_setCell hb
      exact a2 b bv fz cs' hb'
    · exact a2 b bv fz cs hb
  · rw [envCell_app_cell] at hy
    split at hy
    · injection hy with hy; cases hy
    · rename_i hne
      have := a3 y e' t' v' l' hy hyg
      subst this
      exact hne ⟨rfl, by rw [hx]; rfl⟩
theorem Loose.kill {g : Nat} (h : Loose A γ env g) (x : Loc) : Loose A γ (Upd.app env (.cell x .undef)) g := by
  refine ⟨h.1, h.2.1, fun b bv fz cs hb => ?_, fun y e t v l hy => ?_⟩
  · rw [get_app_cell] at hb
    split at hb
    · obtain ⟨cs', hb', _⟩ := box_setCell hb
      exact h.2.2.1 b bv fz cs' hb'
    · exact h.2.2.1 b bv fz cs hb
  · rw [envCell_app_cell] at hy
    split at hy
    · injection hy with hy; cases hy
    · exact h.2.2.2 y e t v l hy
theorem Core.reviveRow (h : Core A X γ Fr env a w) {x : Loc} {e : TypeId} {t : Ty} {ver : Nat} {l : List t.den} (hx : envCell env x = some .undef) (hψ : γ.ψ x ver = γ.φ x) (hfr : ¬ Fr ver)
    (ho : OwnV γ.Z w A.B e t (γ.φ x) l) (hl : ∀ g, (γ.φ x).ownBlock = some g → Loose A γ env g) (hf : x.s.isLent = false → ∀ g, (γ.φ x).ownBlock = some g → A.w0.heap.size ≤ g) :
    Core A X γ Fr (Upd.app env (.cell x (.own e t ver l))) a w := by
  have hb : ∀ b bv fz cs, (Upd.app env (.cell x (.own e t ver l))).get (.box b) = .box bv fz cs → ∃ cs', env.get (.box b) = .box bv fz cs' ∧ cs'.length = cs.length := by
    intro b ver fz cs hb
    rw [get_app_cell] at hb
    split at hb
    · exact box_setCell hb
    · exact ⟨cs, hb, rfl⟩
  have hc : ∀ y c, envCell (Upd.app env (.cell x (.own e t ver l))) y = some c → (y = x ∧ c = .own e t ver l) ∨ (y ≠ x ∧ envCell env y = some c) := by
    intro y c hy
    rw [envCell_app_cell] at hy
    split at hy
    · rename_i hh; injection hy with hy; exact .inl ⟨hh.1, hy.symm⟩
    · rename_i hh
      exact .inr ⟨fun e => hh ⟨e, by rw [hx]; rfl⟩, hy⟩
  have hone : (γ.φ x).oneCell' = true := (h.cell x _ hx).2.1
  refine { frame := h.frame, glob := h.glob, zone := h.zone, zone0 := h.zone0, defers := h.defers, size := h.size, ntl := h.ntl, baseB := h.baseB, tmp := ?_, box := ?_, cell := ?_, own := ?_, inj := ?_, fresh := fun y e' t' ver' l1 hy => ?_, lent := h.lent, lentloc := lentloc_app h.lentloc x _ }
  · intro t'
    rw [get_app_cell]
    split
    · exact relTmp_setCell (h.tmp t')
    · exact h.tmp t'
  · intro b bver fz cs hbb
    obtain ⟨cs', h1, h2⟩ := hb b bver fz cs hbb
    have := h.box b bver fz cs' h1
    rwa [h2] at this
  · intro y c hy
    rcases hc y c hy with ⟨rfl, rfl⟩ | ⟨hne, hy⟩
    · exact ⟨ho, hone, by simp [refs]⟩
    · exact h.cell y c hy
  · intro y e' t' ver' l1 hy
    rcases hc y _ hy with ⟨rfl, hh⟩ | ⟨hne, hy⟩
    · injection hh with e1 e2 e3 e4
      subst e1; subst e2; subst e3
      refine ⟨hψ, hfr, fun g hg => ?_⟩
      have hlo := hl g hg
      refine ⟨hlo.2.1, fun b bv fz cs hbb => ?_, fun z e1 t1 v1 l1 hz hzg => ?_⟩
      · obtain ⟨cs', h1, _⟩ := hb b bv fz cs hbb
        exact hlo.2.2.1 b bv fz cs' h1
      · rcases hc z _ hz with ⟨hh, _⟩ | ⟨_, hh⟩
        · exact hh
        · exact absurd hzg (hlo.2.2.2 z _ _ _ _ hh)
    · have hyo := hy
      clear hy
      obtain ⟨h1, h2, h3⟩ := h.own y e' t' ver' l1 hyo
      refine ⟨h1, h2, fun g hg => ?_⟩
      obtain ⟨a1, a2, a3⟩ := h3 g hg
      refine ⟨a1, fun b bv fz cs hbb => ?_, fun z e1 t1 v1 l2 hz hzg => ?_⟩
      · obtain ⟨cs', h1, _⟩ := hb b bv fz cs hbb
        exact a2 b bv fz cs' h1
      · rcases hc z _ hz with ⟨hh, _⟩ | ⟨_, hh⟩
        · subst hh
          exact absurd hg ((hl g hzg).2.2.2 y _ _ _ _ hyo)
        · exact a3 z e1 t1 v1 l2 hh hzg
  · intro b b' bv bv' fz fz' cs cs' h1 h2
    obtain ⟨cs1, h1, _⟩ := hb b bv fz cs h1
    obtain ⟨cs2, h2, _⟩ := hb b' bv' fz' cs' h2
    exact h.inj b b' bv bv' fz fz' cs1 cs2 h1 h2
  · rcases hc y _ hy with ⟨rfl, hh⟩ | ⟨_, hh⟩
    · exact hf
    · exact h.fresh y _ _ _ _ hh
theorem Loose.reviveRow {g : Nat} (h : Loose A γ env g) {x : Loc} {e : TypeId} {t : Ty} {ver : Nat} {l : List t.den} (hx : (γ.φ x).ownBlock ≠ some g) : Loose A γ (Upd.app env (.cell x (.own e t ver l))) g := by
  refine ⟨h.1, h.2.1, fun b bv fz cs hb => ?_, fun y e' t' v' l' hy => ?_⟩
  · rw [get_app_cell] at hb
    split at hb
    · obtain ⟨cs', hb', _⟩ := box_setCell hb
      exact h.2.2.1 b bv fz cs' hb'
    · exact h.2.2.1 b bv fz cs hb
  · rw [envCell_app_cell] at hy
    split at hy
    · rename_i hh; rw [hh.1]; exact hx
    · exact h.2.2.2 y e' t' v' l' hy
theorem Core.reviveBox (h : Core A X γ Fr env a w) {d bv : Nat} {cs : List Cell} {us : List Value} {T : TypeId} (_hnb : ∀ v fz c, env.get (.box d) ≠ .box v fz c) (hbv : ¬ Fr bv)
    (hB : (d < lentBase → A.w0.heap.size ≤ γ.σ d bv) ∧ (lentBase ≤ d → A.lb (d - lentBase) = some (γ.σ d bv))) (hlo : Loose A γ env (γ.σ d bv)) (hg : w.heap[γ.σ d bv]? = some (.cells us.toArray T (0, 0)))
    (hr : RelCs A γ w Fr cs us) : Core A X { γ with φ := setφ γ (.box d) fun _ j => us.getD j undef } Fr ((.box d, .box bv false cs) :: env) a w := by
  have hl := hr.length
  have := h.setBoxG (Fr' := Fr) (d := d) (bv := bv) (g0 := γ.σ d bv) (w' := w) cs (fun _ j => us.getD j undef) T γ.ψ γ.σ (fun _ hh => hh) (fun _ _ _ => rfl) (fun _ _ _ => rfl) rfl hbv hB hlo.2.1
    (fun b bv' fz cs' hne hbb => hlo.2.2.1 b bv' fz cs' hbb) (fun y e t ver l _ hy => hlo.2.2.2 y e t ver l hy) ⟨rfl, rfl, rfl, Nat.le_refl _, fun _ _ _ => rfl, Nat.le_refl _⟩ h.glob
    (by rw [hg, range_map_getD us cs.length hl])
    (fun j c hc => by
      obtain ⟨u, hu, g1, g2, g3, _⟩ := hr.get hc
      rw [getD_of hu]
      exact ⟨g1.move (fun _ _ _ => rfl) (fun _ _ _ => rfl) (fun _ hz => hz) (fun _ _ => rfl) (Nat.le_refl _) (fun _ _ _ => rfl), g2, g3⟩)
    (fun j e t ver l hc => by
      obtain ⟨u, hu, _, _, _, g4⟩ := hr.get hc
      simp [Cell.isOwn] at g4)
  exact this
theorem Loose.reviveBox {g d bv : Nat} {cs : List Cell} {f : Nat → Nat → Value} (h : Loose A γ env g) (hne : γ.σ d bv ≠ g) (hno : ∀ c ∈ cs, c.isOwn = false) :
    Loose A { γ with φ := setφ γ (.box d) f } ((.box d, .box bv false cs) :: env) g := by
  refine ⟨h.1, h.2.1, fun b bv' fz cs' hb => ?_, fun y e t v l hy => ?_⟩
  · rw [Env.get_cons] at hb
    split at hb
    · rename_i hh
      simp only [Slot.box.injEq] at hh
      subst hh
      injection hb with e1
      subst e1
      exact hne
    · exact h.2.2.1 b bv' fz cs' hb
  · rw [envCell_cons] at hy
    split at hy
    · rename_i hs
      cases hi : y.c with
      | zero =>
        rw [hi] at hy
        have := hno _ (List.mem_of_getElem? hy)
        simp [Cell.isOwn] at this
      | succ i => rw [hi] at hy; simp [AV.cell?] at hy
    · rename_i hs
      show (setφ γ (.box d) f y).ownBlock ≠ some g
      rw [show setφ γ (.box d) f y = γ.φ y by simp [setφ, Ne.symm hs]]
      exact h.2.2.2 y e t v l hy
end
end Go.VI
/- VI, part 21b: calls to which rows and variables are lent. -/
namespace Go.VI
open Go.RowKit
inductive Item where
  | row (v : Value) (e : TypeId) (t : Ty)
  | box (g : Nat) (us : List Value)
def Item.block : Item → Option Nat
  | .row v _ _ => v.ownBlock
  | .box g _ => some g
def RepL (Z : Nat → Prop) (w : World) : (t : Ty) → List TypeId → t.den → List Value → List Item → List TypeId → Prop
  | .int k, es, n, cs, is, es' => cs = [.int k n] ∧ is = [] ∧ es' = es
  | .bool, es, b, cs, is, es' => cs = [.bool b] ∧ is = [] ∧ es' = es
  | .str, es, s, cs, is, es' => cs = [.string ⟨s.toArray⟩] ∧ is = [] ∧ es' = es
  | .unit, es, _, cs, is, es' => cs = [] ∧ is = [] ∧ es' = es
  | .pair a b, es, x, cs, is, es' => ∃ c1 c2 i1 i2 em, cs = c1 ++ c2 ∧ is = i1 ++ i2 ∧ RepL Z w a es x.1 c1 i1 em ∧ RepL Z w b em x.2 c2 i2 es'
  | .sl t, es, l, cs, is, es' => ∃ e v, es = e :: es' ∧ cs = [v] ∧ is = [.row v e t] ∧ OwnV Z w 0 e t v l
def RelArgsM (Z : Nat → Prop) (w : World) : (As : List ATy) → denA As → List Value → List Item → Prop
  | [], _, vs, is => vs = [] ∧ is = []
  | .lrow g t es :: r, x, vs, is => ∃ us vs' i1 i2, vs = mkVal g us :: vs' ∧ (g = false → us.length = 1) ∧ is = i1 ++ i2 ∧ RepL Z w t es x.1 us i1 [] ∧ RelArgsM Z w r x.2 vs' i2
  | .lptr t :: r, x, vs, is => ∃ g us vs' i2, vs = .pointer (some ⟨g, 0, none⟩) :: vs' ∧ is = .box g us :: i2 ∧ RepI Z w t x.1 us ∧ (∃ T, w.heap[g]? = some (.cells us.toArray T (0, 0))) ∧ RelArgsM Z w r x.2 vs' i2
  | .data g t :: r, x, vs, is => ∃ us vs', vs = mkVal g us :: vs' ∧ (g = false → us.length = 1) ∧ RepI Z w t x.1 us ∧ RelArgsM Z w r x.2 vs' is
  | .ptr _ :: _, _, _, _ => False
  | .clo _ _ :: _, _, _, _ => False
def Lof (is : List Item) (g : Nat) : Prop := ∃ it ∈ is, it.block = some g
structure Aside (Z : Nat → Prop) (w : World) (n0 : Nat) (is : List Item) : Prop where
  zone : ∀ g, Lof is g → ¬ Z g ∧ g < w.heap.size ∧ n0 ≤ g
  uniq : ∀ (i j : Nat) (p q : Item) (g : Nat), is[i]? = some p → is[j]? = some q → p.block = some g → q.block = some g → i = j
def BoxOut : List Cell → List Value → List Value → Prop
  | [], us, us' => us = [] ∧ us' = []
  | c :: r, us, us' => ∃ u u' s s', us = u :: s ∧ us' = u' :: s' ∧ ((zcell c = true ∧ u' = cellV c) ∨ (∃ t l p, c = .imm t l p ∧ u' = u)) ∧ BoxOut r s s'
def OutN (Z : Nat → Prop) (w : World) : List Item → List New → Prop
  | [], ns => ns = []
  | .row v e t :: is, ns => ∃ l ns', ns = .row t l :: ns' ∧ OwnV Z w 0 e t v l ∧ OutN Z w is ns'
  | .box g us :: is, ns => ∃ cs ns' us', ns = .box cs :: ns' ∧ BoxOut cs us us' ∧ (∃ T, w.heap[g]? = some (.cells us'.toArray T (0, 0))) ∧ OutN Z w is ns'
theorem OwnV.rebaseM {Z : Nat → Prop} {w : World} {B B' : Nat} {e : TypeId} {t : Ty} {v : Value} {l : List t.den} (h : OwnV Z w B e t v l) (hB : ∀ g, v.ownBlock = some g → B' ≤ g) : OwnV Z w B' e t v l := by
  obtain ⟨h0, xs, ho, hr⟩ := h
  refine ⟨h0, xs, ⟨ho.1, ?_⟩, hr⟩
  rcases ho.2 with hn | ⟨g, cap, cur, fz, h1, h2, rest⟩
  · exact .inl hn
  · exact .inr ⟨g, cap, cur, fz, h1, hB g (by rw [h1]; rfl), rest⟩
structure FrameL (L : Nat → Prop) (w w' : World) : Prop where
  os : w'.os = w.os
  tape : w'.tape = w.tape
  output : w'.output = w.output
  size : w.heap.size ≤ w'.heap.size
  block : ∀ k, k < w.heap.size → ¬ L k → w'.heap[k]? = w.heap[k]?
  drawn : w.drawn ≤ w'.drawn
def SoundM (P : Program) (n0 : Nat) (G : World → Prop) (f : FuncId) (C : MContract) : Prop :=
  ∀ (w : World) (Z : Nat → Prop) (vs : List Value) (xs : denA C.As) (r : denL C.R) (m : denM C.As) (is : List Item), G w → (∀ g, Z g → g < w.heap.size) → RelArgsM Z w C.As xs vs is → Aside Z w n0 is → C.F xs = some (r, m) →
    FCalls P f vs.toArray w fun v w' => ∃ Z' us, v = mkRes us ∧ FrameL (Lof is) w w' ∧ (∀ g, Z g → Z' g) ∧ (∀ g, Z' g → Z g ∨ (w.heap.size ≤ g ∧ g < w'.heap.size)) ∧
      ResRel Z' w' w.heap.size [] (resL C.R r C.modes) us ∧ OutN Z' w' is (newsOf C.As m)
def MConOK (P : Program) (n0 : Nat) (G : World → Prop) (X : Ctx) : Prop := ∀ f C, look X.mcon f = some C → SoundM P n0 G f C
section
variable {A : Fix} {X : Ctx} {γ : Gh} {Fr : Nat → Prop} {env : Env} {a : Act} {w w' : World} {vn : Nat} {o : Oper} {us : List Upd} {lg : List Slot}
def LsRel (γ : Gh) (env : Env) : List Lsrc → List Item → Prop
  | [], is => is = []
  | .row x ver e t :: r, is => ∃ is' l, is = .row (γ.φ x) e t :: is' ∧ envCell env x = some (.own e t ver l) ∧ LsRel γ env r is'
  | .nil e t :: r, is => ∃ is', is = .row (.slice none 0 0) e t :: is' ∧ LsRel γ env r is'
  | .box b bv cs :: r, is => ∃ is', is = .box (γ.σ b bv) (cellVals γ (.box b) 0 cs.length) :: is' ∧ env.get (.box b) = .box bv false cs ∧ cs.all plainCell = true ∧ LsRel γ env r is'
theorem LsRel.append : ∀ {ls ls' : List Lsrc} {is is' : List Item}, LsRel γ env ls is → LsRel γ env ls' is' → LsRel γ env (ls ++ ls') (is ++ is')
  | [], ls', is, is', h, h' => by rw [show is = [] from h]; simpa using h'
  | .row x ver e t :: r, ls', is, is', ⟨i1, l, h1, h2, h3⟩, h' => ⟨i1 ++ is', l, by rw [h1]; rfl, h2, LsRel.append h3 h'⟩
  | .nil e t :: r, ls', is, is', ⟨i1, h1, h3⟩, h' => ⟨i1 ++ is', by rw [h1]; rfl, LsRel.append h3 h'⟩
  | .box b bv cs :: r, ls', is, is', ⟨i1, h1, h2, h3, h4⟩, h' => ⟨i1 ++ is', by rw [h1]; rfl, h2, h3, LsRel.append h4 h'⟩
theorem lendCells_sound (h : Core A X γ Fr env a w) (Z : Nat → Prop) (hZ : ∀ g, γ.Z g → Z g) : ∀ (t : Ty) (es : List TypeId) (cs : List Cell) {us : List Value} {p : LendP t} {l0 l1 : List Slot}, RelCs A γ w Fr cs us →
    (lendCells t es cs).eval env.get l0 = some (p, l1) → ∃ u1 u2 is, us = u1 ++ u2 ∧ RepL Z w t es p.x u1 is p.es ∧ RelCs A γ w Fr p.cs u2 ∧ LsRel γ env p.ls is
  | .int k, es, cs, us, p, l0, l1, hr, he => by
    match cs, hr with
    | [], _ => simp [lendCells, Rd.eval] at he
    | c :: r, hr =>
      cases c <;> try (simp [lendCells, Rd.eval] at he; done)
      rename_i k' n
      simp only [lendCells] at he
      split at he
      · rename_i hk
        subst hk
        simp only [Rd.eval, Option.some.injEq, Prod.mk.injEq] at he
        obtain ⟨rfl, _⟩ := he
        obtain ⟨u, us', rfl, hg, hrr⟩ := hr
        exact ⟨[u], us', [], rfl, ⟨by rw [show u = _ from hg.1], rfl, rfl⟩, hrr, rfl⟩
      · simp [Rd.eval] at he
  | .bool, es, cs, us, p, l0, l1, hr, he => by
    match cs, hr with
    | [], _ => simp [lendCells, Rd.eval] at he
    | c :: r, hr =>
      cases c <;> simp [lendCells, Rd.eval] at he
      obtain ⟨rfl, _⟩ := he
      obtain ⟨u, us', rfl, hg, hrr⟩ := hr
      exact ⟨[u], us', [], rfl, ⟨by rw [show u = _ from hg.1], rfl, rfl⟩, hrr, rfl⟩
  | .str, es, cs, us, p, l0, l1, hr, he => by
    match cs, hr with
    | [], _ => simp [lendCells, Rd.eval] at he
    | c :: r, hr =>
      cases c <;> simp [lendCells, Rd.eval] at he
      obtain ⟨rfl, _⟩ := he
      obtain ⟨u, us', rfl, hg, hrr⟩ := hr
      exact ⟨[u], us', [], rfl, ⟨by rw [show u = _ from hg.1], rfl, rfl⟩, hrr, rfl⟩
  | .unit, es, cs, us, p, l0, l1, hr, he => by
    simp [lendCells, Rd.eval] at he
    obtain ⟨rfl, _⟩ := he
    exact ⟨[], us, [], rfl, ⟨rfl, rfl, rfl⟩, hr, rfl⟩
  | .pair x y, es, cs, us, p, l0, l1, hr, he => by
    simp only [lendCells, Rd.eval_bind, Option.bind_eq_some_iff] at he
    obtain ⟨⟨p1, l2⟩, h1, ⟨p2, l3⟩, h2, h3⟩ := he
    simp only [Rd.eval, Option.some.injEq, Prod.mk.injEq] at h3
    obtain ⟨rfl, _⟩ := h3
    obtain ⟨u1, u2, i1, rfl, r1, r2, r3⟩ := lendCells_sound h Z hZ x es cs hr h1
    obtain ⟨v1, v2, i2, rfl, s1, s2, s3⟩ := lendCells_sound h Z hZ y p1.es p1.cs r2 h2
    exact ⟨u1 ++ v1, v2, i1 ++ i2, by simp, ⟨u1, v1, i1, i2, p1.es, rfl, rfl, r1, s1⟩, s2, r3.append s3⟩
  | .sl t, [], cs, us, p, l0, l1, hr, he => by simp [lendCells, Rd.eval] at he
  | .sl t, e :: es, cs, us, p, l0, l1, hr, he => by
    match cs, hr with
    | [], _ => simp [lendCells, Rd.eval] at he
    | c :: r, hr =>
      obtain ⟨u, us', rfl, hg, hrr⟩ := hr
      cases c <;> try (simp [lendCells, Rd.eval] at he; done)
      · rename_i e' t'
        simp only [lendCells] at he
        cases hs : Nat.blt 0 t.size with
        | false => rw [hs] at he; simp [Rd.eval] at he
        | true =>
          rw [hs] at he
          simp only [cond_true, Rd.eval, Option.some.injEq, Prod.mk.injEq] at he
          obtain ⟨rfl, _⟩ := he
          have hu : u = .slice none 0 0 := hg.1
          exact ⟨[u], us', [.row (.slice none 0 0) e t], rfl, ⟨e, u, rfl, rfl, by rw [hu], by rw [hu]; exact OwnV.nil (Nat.le_of_ble_eq_true hs)⟩, hrr, [], rfl, rfl⟩
      · rename_i x ver
        simp only [lendCells, Rd.eval_bind, Option.bind_eq_some_iff] at he
        obtain ⟨⟨⟨e', t', l⟩, l2⟩, h1, h2⟩ := he
        simp only at h2
        split at h2
        · rename_i hh
          obtain ⟨rfl, rfl⟩ := hh
          simp only [Rd.eval, Option.some.injEq, Prod.mk.injEq] at h2
          obtain ⟨rfl, _⟩ := h2
          have hx := ownerAt_eval h1
          have hu : u = γ.φ x := hg.1.trans (h.own x _ _ _ _ hx).1
          exact ⟨[u], us', [.row (γ.φ x) e' t'], rfl, ⟨e', u, rfl, rfl, by rw [hu], by rw [hu]; exact ((h.cell x _ hx).1.mono hZ (fun _ _ => rfl) (fun _ _ => rfl)).base (Nat.zero_le _)⟩, hrr, [], l, rfl, hx, rfl⟩
        · simp [Rd.eval] at h2
theorem lendArgs_ptr {t : Ty} {as : List ATy} {cs : List (Bool × List Cell)} {q : denA (.lptr t :: as) × List Src × List Lsrc} {e : Slot → AV} {l0 l1 : List Slot} (he : (lendArgs (.lptr t :: as) cs).eval e l0 = some (q, l1)) : ∃ b bv r, cs = (false, [.addr b bv 0]) :: r := by
  match cs with
  | [] => simp [lendArgs, Rd.eval] at he
  | (true, _) :: r => simp [lendArgs, Rd.eval] at he
  | (false, []) :: r => simp [lendArgs, Rd.eval] at he
  | (false, c :: c' :: q) :: r => simp [lendArgs, Rd.eval] at he
  | (false, [c]) :: r =>
    cases c <;> try (simp [lendArgs, Rd.eval] at he; done)
    rename_i b bv off
    cases off with
    | zero => exact ⟨b, bv, r, rfl⟩
    | succ n => simp [lendArgs, Rd.eval] at he
theorem lendArgs_none {as : List ATy} {cs : List (Bool × List Cell)} {e : Slot → AV} {l0 l1 : List Slot} : (∀ t (q : denA (.ptr t :: as) × List Src × List Lsrc), (lendArgs (.ptr t :: as) cs).eval e l0 ≠ some (q, l1)) ∧
    ∀ a b (q : denA (.clo a b :: as) × List Src × List Lsrc), (lendArgs (.clo a b :: as) cs).eval e l0 ≠ some (q, l1) := by
  constructor
  · intro t q
    match cs with
    | [] => simp [lendArgs, Rd.eval]
    | (g', c) :: r => cases g' <;> simp [lendArgs, Rd.eval]
  · intro t b q
    match cs with
    | [] => simp [lendArgs, Rd.eval]
    | (g', c) :: r => cases g' <;> simp [lendArgs, Rd.eval]
theorem RelCs.plainZ {Z : Nat → Prop} {cs : List Cell} {us : List Value} (h : RelCs A γ w Fr cs us) (hZ : ∀ g, γ.Z g → Z g) : RelCs A { γ with Z := Z } w Fr cs us :=
  RelCs.zext (γ := γ) (γ' := { γ with Z := Z }) ⟨rfl, rfl, rfl, hZ⟩ h
theorem lendArgs_sound (h : Core A X γ Fr env a w) (Z : Nat → Prop) (hZ : ∀ g, γ.Z g → Z g) : ∀ (As : List ATy) (cs : List (Bool × List Cell)) {vs : List Value} {q : denA As × List Src × List Lsrc} {l0 l1 : List Slot},
    RelComps A γ w Fr cs vs → (lendArgs As cs).eval env.get l0 = some (q, l1) → (∀ g, zoneOf γ q.2.1 g → Z g) →
    ∃ is, RelArgsM Z w As q.1 vs is ∧ LsRel γ env q.2.2 is ∧ ∀ s ∈ q.2.1, ∀ g, srcBlock γ g s → g < w.heap.size
  | [], cs, vs, q, l0, l1, hr, he, _ => by
    cases cs with
    | nil =>
      simp only [lendArgs, Rd.eval, Option.some.injEq, Prod.mk.injEq] at he
      obtain ⟨rfl, _⟩ := he
      exact ⟨[], ⟨hr, rfl⟩, rfl, by simp⟩
    | cons p r => simp [lendArgs, Rd.eval] at he
  | .lrow g t es :: as, cs, vs, q, l0, l1, hr, he, hs => by
    cases cs with
    | nil => simp [lendArgs, Rd.eval] at he
    | cons p r =>
      obtain ⟨g', c⟩ := p
      obtain ⟨v, vs', h1, ⟨us, hv, hl, h2⟩, h3⟩ := hr
      simp only [lendArgs] at he
      cases hg : (g == g') with
      | false => rw [hg] at he; simp [Rd.eval] at he
      | true =>
        rw [hg] at he
        have hg : g = g' := by simpa using hg
        subst hg
        simp only [cond_true, Rd.eval_bind, Option.bind_eq_some_iff] at he
        obtain ⟨⟨p, l2⟩, k1, k2⟩ := he
        simp only at k2
        split at k2
        · rename_i hcs hes
          simp only [Rd.eval_bind, Option.bind_eq_some_iff] at k2
          obtain ⟨⟨q1, l3⟩, k3, k4⟩ := k2
          simp only [Rd.eval, Option.some.injEq, Prod.mk.injEq] at k4
          obtain ⟨rfl, _⟩ := k4
          obtain ⟨u1, u2, i1, e1, r1, r2, r3⟩ := lendCells_sound h Z hZ t es c h2 k1
          rw [hcs] at r2
          rw [show u2 = [] from r2, List.append_nil] at e1
          subst e1
          rw [hes] at r1
          obtain ⟨i2, s1, s2, s3⟩ := lendArgs_sound h Z hZ as r h3 k3 hs
          exact ⟨i1 ++ i2, ⟨_, vs', i1, i2, by rw [h1, hv], fun hgf => by rw [h2.length]; exact hl hgf, rfl, r1, s1⟩, r3.append s2, s3⟩
        · simp [Rd.eval] at k2
  | .lptr t :: as, cs, vs, q, l0, l1, hr, he, hs => by
    obtain ⟨b, bv, r, rfl⟩ := lendArgs_ptr he
    obtain ⟨v, vs', h1, ⟨us, hv, hl, u, us', rfl, hg, h2⟩, h3⟩ := hr
    have hv : v = u := hv
    simp only [lendArgs, Rd.eval_bind, Option.bind_eq_some_iff] at he
    obtain ⟨⟨⟨fz, cs0⟩, l2⟩, k1, k2⟩ := he
    simp only at k2
    cases hp : (fz || !(cs0.all plainCell)) with
    | true => rw [hp] at k2; simp [Rd.eval] at k2
    | false =>
      rw [hp] at k2
      simp only [Bool.or_eq_false_iff, Bool.not_eq_false'] at hp
      obtain ⟨rfl, hp⟩ := hp
      simp only [cond_false] at k2
      split at k2
      · rename_i x hx
        simp only [Rd.eval_bind, Option.bind_eq_some_iff] at k2
        obtain ⟨⟨q1, l3⟩, k3, k4⟩ := k2
        simp only [Rd.eval, Option.some.injEq, Prod.mk.injEq] at k4
        obtain ⟨rfl, _⟩ := k4
        obtain ⟨i2, s1, s2, s3⟩ := lendArgs_sound h Z hZ as r h3 k3 hs
        have hb := boxAt_eval k1
        obtain ⟨c1, _⟩ := h.boxCells hb 0
        simp only [List.drop_zero] at c1
        have hnov : VI.readCells (.box b) 0 0 cs0 = cs0 := by
          apply List.ext_getElem?
          intro j
          rw [readCells_get]
          cases hj : cs0[j]? with
          | none => rfl
          | some c =>
            have hc := (List.all_eq_true.1 hp) c (List.mem_of_getElem? hj)
            cases c <;> simp [plainCell] at hc <;> rfl
        rw [hnov] at c1
        obtain ⟨⟨T, hT⟩, _⟩ := h.box b bv false cs0 hb
        exact ⟨.box (γ.σ b bv) (cellVals γ (.box b) 0 cs0.length) :: i2, ⟨γ.σ b bv, _, vs', i2, by rw [h1, hv]; exact congrArg (· :: vs') hg.1, rfl, implode_all hx (c1.plainZ hZ), ⟨T, hT⟩, s1⟩, ⟨i2, rfl, hb, hp, s2⟩, s3⟩
      · simp [Rd.eval] at k2
  | .data g t :: as, cs, vs, q, l0, l1, hr, he, hs => by
    cases cs with
    | nil => simp [lendArgs, Rd.eval] at he
    | cons p r =>
      obtain ⟨g', c⟩ := p
      obtain ⟨v, vs', h1, ⟨us, hv, hl, h2⟩, h3⟩ := hr
      simp only [lendArgs] at he
      cases hg : (g == g') with
      | false => rw [hg] at he; simp [Rd.eval] at he
      | true =>
        rw [hg] at he
        have hg : g = g' := by simpa using hg
        subst hg
        simp only [cond_true, Rd.eval_bind, Option.bind_eq_some_iff] at he
        obtain ⟨⟨⟨p1, p2⟩, l2⟩, k1, k2⟩ := he
        simp only at k2
        split at k2
        · rename_i x hx
          simp only [Rd.eval_bind, Option.bind_eq_some_iff] at k2
          obtain ⟨⟨q1, l3⟩, k3, k4⟩ := k2
          simp only [Rd.eval, Option.some.injEq, Prod.mk.injEq] at k4
          obtain ⟨rfl, _⟩ := k4
          obtain ⟨i2, s1, s2, s3⟩ := lendArgs_sound h Z hZ as r h3 k3 fun g hg => hs g (zoneOf_app.2 (.inr hg))
          have hso := solids_sound h Z c h2 k1 fun g hg => hs g (zoneOf_app.2 (.inl hg))
          refine ⟨i2, ⟨us, vs', by rw [h1, hv], fun hgf => by rw [h2.length]; exact hl hgf, implode_all hx hso, s1⟩, s2, fun s hs' g hg => ?_⟩
          rcases List.mem_append.1 hs' with hs' | hs'
          · exact solids_lt h c k1 s hs' g hg
          · exact s3 s hs' g hg
        · simp [Rd.eval] at k2
  | .ptr t :: as, cs, vs, q, l0, l1, hr, he, hs => absurd he (lendArgs_none.1 t _)
  | .clo a b :: as, cs, vs, q, l0, l1, hr, he, hs => absurd he (lendArgs_none.2 a b _)
end
end Go.VI
/- VI, part 21c: a call to which rows and variables are lent. -/
namespace Go.VI
open Go.RowKit
section
variable {A : Fix} {X : Ctx} {γ : Gh} {Fr : Nat → Prop} {env : Env} {a : Act} {w w' : World} {vn : Nat} {o : Oper} {us : List Upd} {lg : List Slot}
def SrcOK (env : Env) : Src → Prop
  | .row x => ∃ e t ver l, envCell env x = some (.own e t ver l)
  | .arr b bv => ∃ fz cs, env.get (.box b) = .box bv fz cs
theorem solid_src {c c' : Cell} {ss : List Src} {l0 l1 : List Slot} (hs : (solid c).eval env.get l0 = some ((c', ss), l1)) : ∀ s ∈ ss, SrcOK env s := by
  cases c with
  | view x ver =>
    simp only [solid, Rd.eval_bind, Option.bind_eq_some_iff] at hs
    obtain ⟨_, k1, h2⟩ := hs
    simp only [Rd.eval, Option.some.injEq, Prod.mk.injEq] at h2
    obtain ⟨⟨_, rfl⟩, _⟩ := h2
    intro s hs
    rw [List.mem_singleton.1 hs]
    exact ⟨_, _, _, _, ownerAt_eval k1⟩
  | sub x ver sz lo hi =>
    simp only [solid, Rd.eval_bind, Option.bind_eq_some_iff] at hs
    obtain ⟨p, k1, h2⟩ := hs
    cases hb : Nat.beq sz p.1.2.1.size <;> rw [hb] at h2 <;> simp [Rd.eval] at h2
    obtain ⟨⟨_, rfl⟩, _⟩ := h2
    intro s hs
    rw [List.mem_singleton.1 hs]
    exact ⟨_, _, _, _, ownerAt_eval k1⟩
  | barr b bv off n t =>
    simp only [solid, Rd.eval_bind, Option.bind_eq_some_iff] at hs
    obtain ⟨_, k1, _, _, h2⟩ := hs
    simp only [Rd.eval, Option.some.injEq, Prod.mk.injEq] at h2
    obtain ⟨⟨_, rfl⟩, _⟩ := h2
    intro s hs
    rw [List.mem_singleton.1 hs]
    exact ⟨_, _, boxAt_eval k1⟩
  | _ =>
    simp only [solid, Rd.eval, Option.some.injEq, Prod.mk.injEq] at hs
    obtain ⟨⟨_, rfl⟩, _⟩ := hs
    intro s hs; cases hs
theorem solids_src : ∀ (cs : List Cell) {cs' : List Cell} {ss : List Src} {l0 l1 : List Slot}, (solids cs).eval env.get l0 = some ((cs', ss), l1) → ∀ s ∈ ss, SrcOK env s
  | [], cs', ss, l0, l1, he => by
    simp only [solids, Rd.eval, Option.some.injEq, Prod.mk.injEq] at he
    obtain ⟨⟨_, rfl⟩, _⟩ := he
    intro s hs; cases hs
  | c :: r, cs', ss, l0, l1, he => by
    simp only [solids, Rd.eval_bind, Option.bind_eq_some_iff] at he
    obtain ⟨⟨⟨c', s1⟩, l2⟩, k1, ⟨⟨r', s2⟩, l3⟩, k2, k3⟩ := he
    simp only [Rd.eval, Option.some.injEq, Prod.mk.injEq] at k3
    obtain ⟨⟨_, rfl⟩, _⟩ := k3
    intro s hs
    rcases List.mem_append.1 hs with hs | hs
    · exact solid_src k1 s hs
    · exact solids_src r k2 s hs
theorem lendArgs_src : ∀ (As : List ATy) (cs : List (Bool × List Cell)) {q : denA As × List Src × List Lsrc} {l0 l1 : List Slot}, (lendArgs As cs).eval env.get l0 = some (q, l1) → ∀ s ∈ q.2.1, SrcOK env s
  | [], cs, q, l0, l1, he => by
    cases cs with
    | nil =>
      simp only [lendArgs, Rd.eval, Option.some.injEq, Prod.mk.injEq] at he
      obtain ⟨rfl, _⟩ := he
      simp
    | cons p r => simp [lendArgs, Rd.eval] at he
  | .lrow g t es :: as, cs, q, l0, l1, he => by
    cases cs with
    | nil => simp [lendArgs, Rd.eval] at he
    | cons p r =>
      obtain ⟨g', c⟩ := p
      simp only [lendArgs] at he
      cases hg : (g == g') with
      | false => rw [hg] at he; simp [Rd.eval] at he
      | true =>
        rw [hg] at he
        simp only [cond_true, Rd.eval_bind, Option.bind_eq_some_iff] at he
        obtain ⟨⟨p, l2⟩, k1, k2⟩ := he
        simp only at k2
        split at k2
        · simp only [Rd.eval_bind, Option.bind_eq_some_iff] at k2
          obtain ⟨⟨q1, l3⟩, k3, k4⟩ := k2
          simp only [Rd.eval, Option.some.injEq, Prod.mk.injEq] at k4
          obtain ⟨rfl, _⟩ := k4
          exact lendArgs_src as r k3
        · simp [Rd.eval] at k2
  | .lptr t :: as, cs, q, l0, l1, he => by
    obtain ⟨b, bv, r, rfl⟩ := lendArgs_ptr he
    simp only [lendArgs, Rd.eval_bind, Option.bind_eq_some_iff] at he
    obtain ⟨⟨⟨fz, cs0⟩, l2⟩, k1, k2⟩ := he
    simp only at k2
    cases hp : (fz || !(cs0.all plainCell)) with
    | true => rw [hp] at k2; simp [Rd.eval] at k2
    | false =>
      rw [hp] at k2
      simp only [cond_false] at k2
      split at k2
      · simp only [Rd.eval_bind, Option.bind_eq_some_iff] at k2
        obtain ⟨⟨q1, l3⟩, k3, k4⟩ := k2
        simp only [Rd.eval, Option.some.injEq, Prod.mk.injEq] at k4
        obtain ⟨rfl, _⟩ := k4
        exact lendArgs_src as r k3
      · simp [Rd.eval] at k2
  | .data g t :: as, cs, q, l0, l1, he => by
    cases cs with
    | nil => simp [lendArgs, Rd.eval] at he
    | cons p r =>
      obtain ⟨g', c⟩ := p
      simp only [lendArgs] at he
      cases hg : (g == g') with
      | false => rw [hg] at he; simp [Rd.eval] at he
      | true =>
        rw [hg] at he
        simp only [cond_true, Rd.eval_bind, Option.bind_eq_some_iff] at he
        obtain ⟨⟨⟨p1, p2⟩, l2⟩, k1, k2⟩ := he
        simp only at k2
        split at k2
        · simp only [Rd.eval_bind, Option.bind_eq_some_iff] at k2
          obtain ⟨⟨q1, l3⟩, k3, k4⟩ := k2
          simp only [Rd.eval, Option.some.injEq, Prod.mk.injEq] at k4
          obtain ⟨rfl, _⟩ := k4
          intro s hs
          rcases List.mem_append.1 hs with hs | hs
          · exact solids_src c k1 s hs
          · exact lendArgs_src as r k3 s hs
        · simp [Rd.eval] at k2
  | .ptr t :: as, cs, q, l0, l1, he => absurd he (lendArgs_none.1 t _)
  | .clo a b :: as, cs, q, l0, l1, he => absurd he (lendArgs_none.2 a b _)
theorem freezeAll_upds {env0 : Env} : ∀ (ss : List Src) (xs : List Loc) {us : List Upd} {lg lg' : List Slot}, (freezeAll xs ss).eval env0.get lg = some (us, lg') → ∀ u ∈ us, ∃ x c, u = .cell x c ∧ Src.row x ∈ ss
  | [], xs, us, lg, lg', he => by
    simp only [freezeAll, Rd.eval, Option.some.injEq, Prod.mk.injEq] at he
    obtain ⟨rfl, _⟩ := he
    simp
  | .arr b bv :: r, xs, us, lg, lg', he => by simp [freezeAll, Rd.eval] at he
  | .row x :: r, xs, us, lg, lg', he => by
    simp only [freezeAll] at he
    have tail : ∀ {xs us lg lg'}, (freezeAll xs r).eval env0.get lg = some (us, lg') → ∀ u ∈ us, ∃ y c, u = .cell y c ∧ Src.row y ∈ Src.row x :: r := fun h u hu => by
      obtain ⟨y, c, h1, h2⟩ := freezeAll_upds r _ h u hu
      exact ⟨y, c, h1, List.mem_cons_of_mem _ h2⟩
    cases hm : memLoc x xs with
    | true => rw [hm] at he; exact tail he
    | false =>
      rw [hm] at he
      cases hnl : x.s.isLent with
      | true => rw [hnl] at he; simp [Rd.eval] at he
      | false =>
      rw [hnl] at he
      simp only [cond_false, Rd.eval] at he
      split at he
      · simp only [Rd.eval_bind, Option.bind_eq_some_iff] at he
        obtain ⟨⟨us1, l2⟩, h2, h3⟩ := he
        simp only [Rd.eval, Option.some.injEq, Prod.mk.injEq] at h3
        obtain ⟨rfl, _⟩ := h3
        intro u hu
        rcases List.mem_cons.1 hu with rfl | hu
        · exact ⟨x, _, rfl, List.mem_cons_self⟩
        · exact tail h2 u hu
      · simp [Rd.eval] at he
theorem envCell_appAll : ∀ (us : List Upd) (env : Env) (x : Loc), (∀ u ∈ us, ∃ y c, u = .cell y c ∧ y ≠ x) → envCell (appAll env us) x = envCell env x
  | [], _, _, _ => rfl
  | u :: r, env, x, h => by
    obtain ⟨y, c, rfl, hne⟩ := h u (by simp)
    rw [appAll, envCell_appAll r _ x fun v hv => h v (by simp [hv]), envCell_app_cell, if_neg (fun hh => hne hh.1.symm)]
theorem get_appAll_ne : ∀ (us : List Upd) (env : Env) (s : Slot), (∀ u ∈ us, ∃ y c, u = .cell y c ∧ y.s ≠ s) → (appAll env us).get s = env.get s
  | [], _, _, _ => rfl
  | u :: r, env, s, h => by
    obtain ⟨y, c, rfl, hne⟩ := h u (by simp)
    rw [appAll, get_appAll_ne r _ s fun v hv => h v (by simp [hv]), get_app_cell, if_neg hne]
theorem memNat_iff (n : Nat) (l : List Nat) : memNat n l = true ↔ n ∈ l := by
  induction l with
  | nil => simp [memNat]
  | cons m r ih =>
    simp only [memNat, Bool.or_eq_true, ih, List.mem_cons]
    exact ⟨fun h => h.imp (fun h => (Nat.eq_of_beq_eq_true h).symm) id, fun h => h.imp (fun h => by rw [h]; exact Nat.beq_refl _) id⟩
structure LendOK (ls : List Lsrc) (ss : List Src) : Prop where
  rows : distinctL (lsrcRows ls) = true
  boxes : distinctN (lsrcBoxes ls) = true
  srcs : ∀ s ∈ ss, srcApart (lsrcRows ls) (lsrcBoxes ls) s = true
  far : ∀ x ∈ lsrcRows ls, ∀ b ∈ lsrcBoxes ls, x.s ≠ .box b
  flat : flatRows ls = true
theorem lendOk_iff {ls : List Lsrc} {ss : List Src} (h : lendOk ls ss = true) : LendOK ls ss := by
  simp only [lendOk, Bool.and_eq_true, List.all_eq_true] at h
  obtain ⟨⟨⟨⟨h1, h2⟩, h3⟩, h4⟩, h5⟩ := h
  refine ⟨h1, h2, h3, fun x hx b hb e => ?_, h5⟩
  have := h4 x hx
  rw [e] at this
  simp only [Bool.not_eq_true'] at this
  rw [(memNat_iff b _).2 hb] at this
  cases this
def LsBlock (γ : Gh) (env : Env) : Lsrc → Nat → Prop
  | .row x ver e t, g => (∃ l, envCell env x = some (.own e t ver l)) ∧ (γ.φ x).ownBlock = some g
  | .nil _ _, _ => False
  | .box b bv cs, g => env.get (.box b) = .box bv false cs ∧ cs.all plainCell = true ∧ γ.σ b bv = g
theorem LsRel.at : ∀ {ls : List Lsrc} {is : List Item}, LsRel γ env ls is → ∀ (i : Nat) (p : Item) (g : Nat), is[i]? = some p → p.block = some g → ∃ s, ls[i]? = some s ∧ LsBlock γ env s g
  | [], is, h, i, p, g, hp, _ => by rw [show is = [] from h] at hp; simp at hp
  | .row x ver e t :: r, is, ⟨is', l, h1, h2, h3⟩, i, p, g, hp, hb => by
    rw [h1] at hp
    cases i with
    | zero => simp at hp; subst hp; exact ⟨_, rfl, ⟨l, h2⟩, hb⟩
    | succ i => simp at hp; obtain ⟨s, k1, k2⟩ := LsRel.at h3 i p g hp hb; exact ⟨s, by simpa using k1, k2⟩
  | .nil e t :: r, is, ⟨is', h1, h3⟩, i, p, g, hp, hb => by
    rw [h1] at hp
    cases i with
    | zero => simp at hp; subst hp; simp [Item.block, Value.ownBlock] at hb
    | succ i => simp at hp; obtain ⟨s, k1, k2⟩ := LsRel.at h3 i p g hp hb; exact ⟨s, by simpa using k1, k2⟩
  | .box b bv cs :: r, is, ⟨is', h1, h2, h3, h4⟩, i, p, g, hp, hb => by
    rw [h1] at hp
    cases i with
    | zero =>
      simp at hp; subst hp
      simp [Item.block] at hb
      exact ⟨_, rfl, h2, h3, hb⟩
    | succ i => simp at hp; obtain ⟨s, k1, k2⟩ := LsRel.at h4 i p g hp hb; exact ⟨s, by simpa using k1, k2⟩
theorem rows_at : ∀ {ls : List Lsrc}, distinctL (lsrcRows ls) = true → ∀ (i j : Nat) {x : Loc} {v1 v2 e1 e2 : Nat} {t1 t2 : Ty}, ls[i]? = some (.row x v1 e1 t1) → ls[j]? = some (.row x v2 e2 t2) → i = j
  | [], _, i, j, _, _, _, _, _, _, _, h, _ => by simp at h
  | s :: r, hd, i, j, x, v1, v2, e1, e2, t1, t2, hi, hj => by
    have mem : ∀ (k : Nat) (v e : Nat) (t : Ty), r[k]? = some (.row x v e t) → x ∈ lsrcRows r := by
      clear hd hi hj
      induction r with
      | nil => intro k v e t h; simp at h
      | cons s' r ih =>
        intro k v e t h
        cases k with
        | zero => simp at h; subst h; simp [lsrcRows]
        | succ k =>
          have := ih k v e t (by simpa using h)
          cases s' <;> simp [lsrcRows, this]
    have hd' : distinctL (lsrcRows r) = true := by
      cases s with
      | row y _ _ _ => simp only [lsrcRows, distinctL, Bool.and_eq_true] at hd; exact hd.2
      | nil _ _ => exact hd
      | box _ _ _ => exact hd
    cases i with
    | zero => cases j with
      | zero => rfl
      | succ j =>
        simp at hi hj
        subst hi
        simp only [lsrcRows, distinctL, Bool.and_eq_true, Bool.not_eq_true'] at hd
        rw [(memLoc_iff x _).2 (mem j _ _ _ hj)] at hd
        cases hd.1
    | succ i => cases j with
      | zero =>
        simp at hi hj
        subst hj
        simp only [lsrcRows, distinctL, Bool.and_eq_true, Bool.not_eq_true'] at hd
        rw [(memLoc_iff x _).2 (mem i _ _ _ hi)] at hd
        cases hd.1
      | succ j => rw [rows_at hd' i j (by simpa using hi) (by simpa using hj)]
theorem boxes_at : ∀ {ls : List Lsrc}, distinctN (lsrcBoxes ls) = true → ∀ (i j : Nat) {b v1 v2 : Nat} {c1 c2 : List Cell}, ls[i]? = some (.box b v1 c1) → ls[j]? = some (.box b v2 c2) → i = j
  | [], _, i, j, _, _, _, _, _, h, _ => by simp at h
  | s :: r, hd, i, j, b, v1, v2, c1, c2, hi, hj => by
    have mem : ∀ (k v : Nat) (c : List Cell), r[k]? = some (.box b v c) → b ∈ lsrcBoxes r := by
      clear hd hi hj
      induction r with
      | nil => intro k v c h; simp at h
      | cons s' r ih =>
        intro k v c h
        cases k with
        | zero => simp at h; subst h; simp [lsrcBoxes]
        | succ k =>
          have := ih k v c (by simpa using h)
          cases s' <;> simp [lsrcBoxes, this]
    have hd' : distinctN (lsrcBoxes r) = true := by
      cases s with
      | row y _ _ _ => exact hd
      | nil _ _ => exact hd
      | box _ _ _ => simp only [lsrcBoxes, distinctN, Bool.and_eq_true] at hd; exact hd.2
    cases i with
    | zero => cases j with
      | zero => rfl
      | succ j =>
        simp at hi hj
        subst hi
        simp only [lsrcBoxes, distinctN, Bool.and_eq_true, Bool.not_eq_true'] at hd
        rw [(memNat_iff b _).2 (mem j _ _ hj)] at hd
        cases hd.1
    | succ i => cases j with
      | zero =>
        simp at hi hj
        subst hj
        simp only [lsrcBoxes, distinctN, Bool.and_eq_true, Bool.not_eq_true'] at hd
        rw [(memNat_iff b _).2 (mem i _ _ hi)] at hd
        cases hd.1
      | succ j => rw [boxes_at hd' i j (by simpa using hi) (by simpa using hj)]
theorem mem_rows : ∀ {ls : List Lsrc} {x : Loc} {v e : Nat} {t : Ty}, Lsrc.row x v e t ∈ ls → x ∈ lsrcRows ls
  | s :: r, x, v, e, t, h => by
    rcases List.mem_cons.1 h with rfl | h
    · simp [lsrcRows]
    · have := mem_rows h
      cases s <;> simp [lsrcRows, this]
theorem mem_boxes : ∀ {ls : List Lsrc} {b v : Nat} {c : List Cell}, Lsrc.box b v c ∈ ls → b ∈ lsrcBoxes ls
  | s :: r, b, v, c, h => by
    rcases List.mem_cons.1 h with rfl | h
    · simp [lsrcBoxes]
    · have := mem_boxes h
      cases s <;> simp [lsrcBoxes, this]
theorem plain_noown {cs : List Cell} (h : cs.all plainCell = true) : ∀ c ∈ cs, c.isOwn = false := by
  intro c hc
  have := (List.all_eq_true.1 h) c hc
  cases c <;> simp [plainCell] at this <;> rfl
theorem lend_sep (h : Core A X γ Fr env a w) (hst : Stable A.n0 A.G) (hG0 : BaseOK A) {ls : List Lsrc} {ss : List Src} {is : List Item} (hr : LsRel γ env ls is) (hk : LendOK ls ss) (hs : ∀ s ∈ ss, SrcOK env s) : Aside (zoneOf γ ss) w A.n0 is := by
  have hn : A.n0 ≤ A.w0.heap.size := hst.1 _ hG0.1
  have key : ∀ (i : Nat) (p : Item) (g : Nat), is[i]? = some p → p.block = some g → ¬ zoneOf γ ss g ∧ g < w.heap.size ∧ A.n0 ≤ g := by
    intro i p g hp hb
    obtain ⟨s, hsi, hsb⟩ := hr.at i p g hp hb
    have hmem := List.mem_of_getElem? hsi
    cases s with
    | nil e t => exact hsb.elim
    | row x ver e t =>
      obtain ⟨⟨l, hx⟩, hgx⟩ := hsb
      obtain ⟨a1, a2, a3⟩ := (h.own x e t ver l hx).2.2 g hgx
      refine ⟨?_, ((h.cell x _ hx).1.lt g hgx).2, (h.mine hx hgx).elim (fun hh => Nat.le_trans hn hh) (hG0.2 g)⟩
      rintro (hz | ⟨s, hs', hsg⟩)
      · exact a1 hz
      · have hap := hk.srcs s hs'
        have hok := hs s hs'
        cases s with
        | row y =>
          obtain ⟨e', t', ver', l', hy⟩ := hok
          have := a3 y _ _ _ _ hy hsg
          subst this
          simp only [srcApart, Bool.not_eq_true'] at hap
          rw [(memLoc_iff y _).2 (mem_rows hmem)] at hap
          cases hap
        | arr b bv =>
          obtain ⟨fz, cs, hbx⟩ := hok
          exact a2 b bv fz cs hbx hsg
    | box b bv cs =>
      obtain ⟨hbx, hpl, hg⟩ := hsb
      subst hg
      obtain ⟨⟨T, hT⟩, h2, h3, _⟩ := h.box b bv false cs hbx
      refine ⟨?_, (Array.getElem?_eq_some_iff.1 hT).1, (h.boxMine hbx).elim (fun hh => Nat.le_trans hn hh) (hG0.2 _)⟩
      rintro (hz | ⟨s, hs', hsg⟩)
      · have := h3.2 hz; cases this
      · have hap := hk.srcs s hs'
        have hok := hs s hs'
        cases s with
        | row y =>
          obtain ⟨e', t', ver', l', hy⟩ := hok
          exact ((h.own y _ _ _ _ hy).2.2 _ hsg).2.1 b bv false cs hbx rfl
        | arr b' bv' =>
          obtain ⟨fz, cs', hbx'⟩ := hok
          have := h.inj b' b bv' bv fz false cs' cs hbx' hbx hsg
          subst this
          simp only [srcApart, Bool.not_eq_true'] at hap
          rw [(memNat_iff b' _).2 (mem_boxes hmem)] at hap
          cases hap
  refine ⟨fun g ⟨it, hit, hb⟩ => ?_, fun i j p q g hp hq hpb hqb => ?_⟩
  · obtain ⟨i, hi⟩ := List.mem_iff_getElem?.1 hit
    exact key i it g hi hb
  · obtain ⟨s, hsi, hsb⟩ := hr.at i p g hp hpb
    obtain ⟨s', hsj, hsb'⟩ := hr.at j q g hq hqb
    cases s with
    | nil e t => exact hsb.elim
    | row x ver e t =>
      obtain ⟨⟨l, hx⟩, hgx⟩ := hsb
      obtain ⟨a1, a2, a3⟩ := (h.own x e t ver l hx).2.2 g hgx
      cases s' with
      | nil e t => exact hsb'.elim
      | row y ver' e' t' =>
        obtain ⟨⟨l', hy⟩, hgy⟩ := hsb'
        have := a3 y _ _ _ _ hy hgy
        subst this
        exact rows_at hk.rows i j hsi hsj
      | box b bv cs => exact absurd hsb'.2.2 (a2 b bv false cs hsb'.1)
    | box b bv cs =>
      obtain ⟨hbx, hpl, hg⟩ := hsb
      cases s' with
      | nil e t => exact hsb'.elim
      | row y ver' e' t' =>
        obtain ⟨⟨l', hy⟩, hgy⟩ := hsb'
        exact absurd hg (((h.own y _ _ _ _ hy).2.2 g hgy).2.1 b bv false cs hbx)
      | box b' bv' cs' =>
        obtain ⟨hbx', hpl', hg'⟩ := hsb'
        have := h.inj b b' bv bv' false false cs cs' hbx hbx' (hg.trans hg'.symm)
        subst this
        exact boxes_at hk.boxes i j hsi hsj
structure LsApart (ls : List Lsrc) : Prop where
  rows : distinctL (lsrcRows ls) = true
  boxes : distinctN (lsrcBoxes ls) = true
  far : ∀ x ∈ lsrcRows ls, ∀ b ∈ lsrcBoxes ls, x.s ≠ .box b
theorem LsApart.tail {s : Lsrc} {ls : List Lsrc} (h : LsApart (s :: ls)) : LsApart ls := by
  refine ⟨?_, ?_, fun x hx b hb => h.far x ?_ b ?_⟩
  · cases s with
    | row y _ _ _ => have := h.rows; simp only [lsrcRows, distinctL, Bool.and_eq_true] at this; exact this.2
    | nil _ _ => exact h.rows
    | box _ _ _ => exact h.rows
  · cases s with
    | row y _ _ _ => exact h.boxes
    | nil _ _ => exact h.boxes
    | box _ _ _ => have := h.boxes; simp only [lsrcBoxes, distinctN, Bool.and_eq_true] at this; exact this.2
  · cases s <;> simp [lsrcRows, hx]
  · cases s <;> simp [lsrcBoxes, hb]
theorem LsApart.row {x : Loc} {v e : Nat} {t : Ty} {ls : List Lsrc} (h : LsApart (.row x v e t :: ls)) : x ∉ lsrcRows ls ∧ ∀ b ∈ lsrcBoxes ls, x.s ≠ .box b := by
  have h1 := h.rows
  simp only [lsrcRows, distinctL, Bool.and_eq_true, Bool.not_eq_true'] at h1
  refine ⟨fun hx => ?_, fun b hb => h.far x (by simp [lsrcRows]) b (by simpa [lsrcBoxes] using hb)⟩
  rw [(memLoc_iff x _).2 hx] at h1
  cases h1.1
theorem LsApart.box {b v : Nat} {c : List Cell} {ls : List Lsrc} (h : LsApart (.box b v c :: ls)) : b ∉ lsrcBoxes ls ∧ ∀ x ∈ lsrcRows ls, x.s ≠ .box b := by
  have h1 := h.boxes
  simp only [lsrcBoxes, distinctN, Bool.and_eq_true, Bool.not_eq_true'] at h1
  refine ⟨fun hb => ?_, fun x hx => h.far x (by simpa [lsrcRows] using hx) b (by simp [lsrcBoxes])⟩
  rw [(memNat_iff b _).2 hb] at h1
  cases h1.1
theorem LsRel.congr {env' : Env} {γ' : Gh} (hφ : γ'.φ = γ.φ) (hσ : γ'.σ = γ.σ) : ∀ {ls : List Lsrc} {is : List Item}, LsRel γ env ls is → (∀ x ∈ lsrcRows ls, envCell env' x = envCell env x) → (∀ b ∈ lsrcBoxes ls, env'.get (.box b) = env.get (.box b)) → LsRel γ' env' ls is
  | [], is, h, _, _ => h
  | .row x ver e t :: r, is, ⟨is', l, h1, h2, h3⟩, hx, hb => ⟨is', l, by rw [hφ]; exact h1, by rw [hx x (by simp [lsrcRows])]; exact h2, LsRel.congr hφ hσ h3 (fun y hy => hx y (by simp [lsrcRows, hy])) fun b hb' => hb b (by simpa [lsrcBoxes] using hb')⟩
  | .nil e t :: r, is, ⟨is', h1, h3⟩, hx, hb => ⟨is', h1, LsRel.congr hφ hσ h3 (fun y hy => hx y (by simpa [lsrcRows] using hy)) fun b hb' => hb b (by simpa [lsrcBoxes] using hb')⟩
  | .box b bv cs :: r, is, ⟨is', h1, h2, h3, h4⟩, hx, hb => ⟨is', by rw [hσ, show cellVals γ' (.box b) 0 cs.length = cellVals γ (.box b) 0 cs.length by simp [cellVals, hφ]]; exact h1, by rw [hb b (by simp [lsrcBoxes])]; exact h2, h3, LsRel.congr hφ hσ h4 (fun y hy => hx y (by simpa [lsrcRows] using hy)) fun b' hb' => hb b' (by simp [lsrcBoxes, hb'])⟩
def Pend (A : Fix) (γ : Gh) (Fr : Nat → Prop) (w' : World) (env : Env) : List Lsrc → List Item → Prop
  | [], is => is = []
  | .row x ver e t :: r, is => ∃ is', is = .row (γ.φ x) e t :: is' ∧ envCell env x = some .undef ∧ γ.ψ x ver = γ.φ x ∧ ¬ Fr ver ∧ (∀ g, (γ.φ x).ownBlock = some g → Loose A γ env g ∧ A.B ≤ g ∧ (x.s.isLent = false → A.w0.heap.size ≤ g)) ∧ Pend A γ Fr w' env r is'
  | .nil e t :: r, is => ∃ is', is = .row (.slice none 0 0) e t :: is' ∧ Pend A γ Fr w' env r is'
  | .box b bv cs :: r, is => ∃ is' us, is = .box (γ.σ b bv) us :: is' ∧ (∀ v fz c, env.get (.box b) ≠ .box v fz c) ∧ ¬ Fr bv ∧ ((b < lentBase → A.w0.heap.size ≤ γ.σ b bv) ∧ (lentBase ≤ b → A.lb (b - lentBase) = some (γ.σ b bv))) ∧ Loose A γ env (γ.σ b bv) ∧
      RelCs A γ w' Fr cs us ∧ cs.all plainCell = true ∧ Pend A γ Fr w' env r is'
theorem Pend.congr {γ' : Gh} {env' : Env} {w2 : World} (hψ : γ'.ψ = γ.ψ) (hσ : γ'.σ = γ.σ) : ∀ {ls : List Lsrc} {is : List Item}, Pend A γ Fr w' env ls is → (∀ x ∈ lsrcRows ls, γ'.φ x = γ.φ x ∧ (envCell env x = some .undef → envCell env' x = some .undef)) →
    (∀ b ∈ lsrcBoxes ls, (∀ v fz c, env.get (.box b) ≠ .box v fz c) → ∀ v fz c, env'.get (.box b) ≠ .box v fz c) → (∀ g, Lof is g → Loose A γ env g → Loose A γ' env' g) → (∀ cs us, cs.all plainCell = true → RelCs A γ w' Fr cs us → RelCs A γ' w2 Fr cs us) → Pend A γ' Fr w2 env' ls is
  | [], is, h, _, _, _, _ => h
  | .row x ver e t :: r, is, ⟨is', h1, h2, h3, h4, h5, h6⟩, hx, hb, hl, hc => by
    obtain ⟨k1, k2⟩ := hx x (by simp [lsrcRows])
    refine ⟨is', by rw [k1]; exact h1, k2 h2, by rw [hψ, k1]; exact h3, h4, fun g hg => ?_, Pend.congr hψ hσ h6 (fun y hy => hx y (by simp [lsrcRows, hy])) (fun b hb' => hb b (by simpa [lsrcBoxes] using hb')) (fun g ⟨it, hit, hg⟩ => hl g ⟨it, by rw [h1]; simp [hit], hg⟩) hc⟩
    rw [k1] at hg
    exact ⟨hl g ⟨.row (γ.φ x) e t, by rw [h1]; exact List.mem_cons_self, hg⟩ (h5 g hg).1, (h5 g hg).2⟩
  | .nil e t :: r, is, ⟨is', h1, h6⟩, hx, hb, hl, hc => ⟨is', h1, Pend.congr hψ hσ h6 (fun y hy => hx y (by simpa [lsrcRows] using hy)) (fun b hb' => hb b (by simpa [lsrcBoxes] using hb')) (fun g ⟨it, hit, hg⟩ => hl g ⟨it, by rw [h1]; simp [hit], hg⟩) hc⟩
  | .box b bv cs :: r, is, ⟨is', us, h1, h2, h3, h4, h5, h6, h7, h8⟩, hx, hb, hl, hc =>
    ⟨is', us, by rw [hσ]; exact h1, hb b (by simp [lsrcBoxes]) h2, h3, by rw [hσ]; exact h4, by rw [hσ]; exact hl _ ⟨_, by rw [h1]; exact List.mem_cons_self, rfl⟩ h5, hc cs us h7 h6, h7,
      Pend.congr hψ hσ h8 (fun y hy => hx y (by simpa [lsrcRows] using hy)) (fun b' hb' => hb b' (by simp [lsrcBoxes, hb'])) (fun g ⟨it, hit, hg⟩ => hl g ⟨it, by rw [h1]; simp [hit], hg⟩) hc⟩
theorem kill_all : ∀ (ls : List Lsrc) (env : Env) (is : List Item), Core A X γ Fr env a w → LsRel γ env ls is → LsApart ls →
    Core A X γ Fr (appAll env (killUpds ls)) a w ∧ Pend A γ Fr w (appAll env (killUpds ls)) ls is ∧ (∀ g, Loose A γ env g → Loose A γ (appAll env (killUpds ls)) g) ∧ (∀ g, Lof is g → Loose A γ (appAll env (killUpds ls)) g) ∧
      (∀ x, x ∉ lsrcRows ls → (∀ b ∈ lsrcBoxes ls, x.s ≠ .box b) → envCell (appAll env (killUpds ls)) x = envCell env x) ∧ (∀ b, b ∉ lsrcBoxes ls → (∀ v fz c, env.get (.box b) ≠ .box v fz c) → ∀ v fz c, (appAll env (killUpds ls)).get (.box b) ≠ .box v fz c)
  | [], env, is, h, hr, _ => ⟨h, hr, fun _ hg => hg, fun g ⟨it, hit, _⟩ => (by rw [show is = [] from hr] at hit; cases hit), fun _ _ _ => rfl, fun _ _ h => h⟩
  | .row x ver e t :: r, env, is, h, ⟨is', l, h1, h2, h3⟩, hap => by
    obtain ⟨n1, n2⟩ := hap.row
    have hk := h.kill x
    have hr' : LsRel γ (Upd.app env (.cell x .undef)) r is' := LsRel.congr rfl rfl h3 (fun y hy => by rw [envCell_app_cell, if_neg (fun (hh : y = x ∧ _) => n1 (hh.1 ▸ hy))]) (fun b hb => by rw [get_app_cell, if_neg (n2 b hb)])
    obtain ⟨k1, k2, k3, k4, k5, k6⟩ := kill_all r _ is' hk hr' hap.tail
    have hx0 : envCell (Upd.app env (.cell x .undef)) x = some .undef := by rw [envCell_app_cell, if_pos ⟨rfl, by rw [h2]; rfl⟩]
    refine ⟨k1, ⟨is', h1, ?_, (h.own x e t ver l h2).1, (h.own x e t ver l h2).2.1, fun g hg => ⟨k3 g (h.kill_loose h2 hg), ((h.cell x _ h2).1.lt g hg).1, fun hn => h.fresh x e t ver l h2 hn g hg⟩, k2⟩, fun g hg => k3 g (hg.kill x), ?_, ?_, ?_⟩
    · rw [killUpds, appAll, k5 x n1 n2]; exact hx0
    · rintro g ⟨it, hit, hg⟩
      rw [h1] at hit
      rcases List.mem_cons.1 hit with rfl | hit
      · exact k3 g (h.kill_loose h2 hg)
      · exact k4 g ⟨it, hit, hg⟩
    · intro y hy hb
      simp only [lsrcRows, List.mem_cons, not_or] at hy
      rw [killUpds, appAll, k5 y hy.2 (fun b hb' => hb b (by simpa [lsrcBoxes] using hb')), envCell_app_cell, if_neg (fun hh => hy.1 hh.1)]
    · intro b hb hnb v fz c
      refine k6 b (by simpa [lsrcBoxes] using hb) (fun v fz c hh => ?_) v fz c
      rw [get_app_cell] at hh
      split at hh
      · obtain ⟨cs', hb', _⟩ := box_setCell hh
        exact hnb _ _ _ hb'
      · exact hnb _ _ _ hh
  | .nil e t :: r, env, is, h, ⟨is', h1, h3⟩, hap => by
    obtain ⟨k1, k2, k3, k4, k5, k6⟩ := kill_all r env is' h h3 hap.tail
    refine ⟨k1, ⟨is', h1, k2⟩, k3, ?_, k5, k6⟩
    rintro g ⟨it, hit, hg⟩
    rw [h1] at hit
    rcases List.mem_cons.1 hit with rfl | hit
    · simp [Item.block, Value.ownBlock] at hg
    · exact k4 g ⟨it, hit, hg⟩
  | .box b bv cs :: r, env, is, h, ⟨is', h1, h2, h3, h4⟩, hap => by
    obtain ⟨n1, n2⟩ := hap.box
    have hk := h.killBox b
    have hr' : LsRel γ ((.box b, .undef) :: env) r is' := LsRel.congr rfl rfl h4 (fun y hy => by rw [envCell_cons, if_neg (Ne.symm (n2 y hy))]) (fun b' hb' => Env.get_cons_ne _ _ (fun e => n1 (by injection e with e; rw [e]; exact hb')))
    obtain ⟨k1, k2, k3, k4, k5, k6⟩ := kill_all r _ is' hk hr' hap.tail
    obtain ⟨_, b2, _, b4⟩ := h.box b bv false cs h2
    obtain ⟨c1, _⟩ := h.boxCells h2 0
    simp only [List.drop_zero] at c1
    have hnov : VI.readCells (.box b) 0 0 cs = cs := by
      apply List.ext_getElem?
      intro j
      rw [readCells_get]
      cases hj : cs[j]? with
      | none => rfl
      | some c =>
        have hc := (List.all_eq_true.1 h3) c (List.mem_of_getElem? hj)
        cases c <;> simp [plainCell] at hc <;> rfl
    rw [hnov] at c1
    have hlo := h.killBox_loose h2
    refine ⟨k1, ⟨is', _, h1, fun v fz c => k6 b n1 (fun v fz c => by rw [Env.get_cons_self]; simp) v fz c, b4, b2, k3 _ hlo, c1, h3, k2⟩, fun g hg => k3 g (hg.killBox b), ?_, ?_, ?_⟩
    · rintro g ⟨it, hit, hg⟩
      rw [h1] at hit
      rcases List.mem_cons.1 hit with rfl | hit
      · simp only [Item.block, Option.some.injEq] at hg
        rw [← hg]
        exact k3 _ hlo
      · exact k4 g ⟨it, hit, hg⟩
    · intro y hy hb
      show envCell (appAll ((.box b, .undef) :: env) (killUpds r)) y = _
      rw [k5 y (by simpa [lsrcRows] using hy) (fun b' hb' => hb b' (by simp [lsrcBoxes, hb'])), envCell_cons, if_neg (Ne.symm (hb b (by simp [lsrcBoxes])))]
    · intro b' hb' hnb v fz c
      simp only [lsrcBoxes, List.mem_cons, not_or] at hb'
      exact k6 b' hb'.2 (fun v fz c => by rw [Env.get_cons_ne _ _ (by simpa using Ne.symm hb'.1)]; exact hnb v fz c) v fz c
theorem uniq_tail {p : Item} {is : List Item} (h : ∀ (i j : Nat) (p' q : Item) (g : Nat), (p :: is)[i]? = some p' → (p :: is)[j]? = some q → p'.block = some g → q.block = some g → i = j) :
    (∀ (i j : Nat) (p q : Item) (g : Nat), is[i]? = some p → is[j]? = some q → p.block = some g → q.block = some g → i = j) ∧ ∀ g g', p.block = some g → Lof is g' → g ≠ g' := by
  refine ⟨fun i j p' q g h1 h2 h3 h4 => ?_, fun g g' hg ⟨it, hit, hg'⟩ e => ?_⟩
  · have := h (i + 1) (j + 1) p' q g (by simpa using h1) (by simpa using h2) h3 h4
    omega
  · subst e
    obtain ⟨k, hk⟩ := List.mem_iff_getElem?.1 hit
    have := h 0 (k + 1) p it g rfl (by simpa using hk) hg hg'
    omega
theorem box_back : ∀ {cs cs' : List Cell} {us us' : List Value}, RelCs A γ w' Fr cs us → BoxOut cs' us us' → RelCs A γ w' Fr (List.zipWith boxCell cs cs') us'
  | [], cs', us, us', h, hb => by
    rw [show us = [] from h] at hb
    cases cs' with
    | nil => exact hb.2
    | cons c r => obtain ⟨u, u', s, s', h1, _⟩ := hb; cases h1
  | c :: r, cs', us, us', ⟨u, us1, h1, hg, hr⟩, hb => by
    cases cs' with
    | nil => rw [h1] at hb; cases hb.1
    | cons c' r' =>
      obtain ⟨u0, u', s, s', e1, e2, hor, hb'⟩ := hb
      rw [h1] at e1
      injection e1 with e1 e3
      subst e1; subst e3
      refine ⟨u', s', e2, ?_, box_back hr hb'⟩
      have hund : ∀ v : Value, v.oneCell' = true → GoodR A γ w' Fr .undef v := fun v hv => ⟨trivial, hv, by simp [refs], rfl⟩
      rcases hor with ⟨hz, hu⟩ | ⟨t, l, p, rfl, hu⟩
      · obtain ⟨g1, g2, g3, g4⟩ := zcell_rel (A := A) (γ := γ) (w := w') hz
        rw [hu]
        cases c' <;> simp [zcell] at hz
        all_goals simp only [boxCell]
        · exact ⟨g1, g2, by simp [refs], rfl⟩
        · exact ⟨g1, g2, by simp [refs], rfl⟩
        · exact ⟨g1, g2, by simp [refs], rfl⟩
        · exact hund _ g2
      · rw [hu]
        cases c <;> simp only [boxCell] <;> first | exact hg | exact hund _ hg.2.1
theorem zip_box_noown {cs cs' : List Cell} (h : cs.all plainCell = true) : ∀ c ∈ List.zipWith boxCell cs cs', c.isOwn = false := by
  induction cs generalizing cs' with
  | nil => simp
  | cons a r ih =>
    cases cs' with
    | nil => simp
    | cons b s =>
      simp only [List.all_cons, Bool.and_eq_true] at h
      intro c hc
      simp only [List.zipWith_cons_cons, List.mem_cons] at hc
      rcases hc with rfl | hc
      · have ha := h.1
        cases b <;> simp only [boxCell] <;> first | rfl | (cases a <;> simp [plainCell] at ha <;> rfl)
      · exact ih h.2 c hc
theorem revive_all {Z' : Nat → Prop} : ∀ (ls : List Lsrc) (γ : Gh) (env : Env) (is : List Item) (ns : List New), Core A X γ Fr env a w' → Pend A γ Fr w' env ls is → LsApart ls → flatRows ls = true →
    (∀ (i j : Nat) (p q : Item) (g : Nat), is[i]? = some p → is[j]? = some q → p.block = some g → q.block = some g → i = j) → OutN Z' w' is ns →
    ∃ γ2, Core A X γ2 Fr (appAll env (lendUpds ls ns)) a w' ∧ γ2.ψ = γ.ψ ∧ γ2.σ = γ.σ ∧ γ2.Z = γ.Z ∧ ∀ g, Loose A γ env g → ¬ Lof is g → Loose A γ2 (appAll env (lendUpds ls ns)) g
  | [], γ, env, is, ns, h, hp, _, _, _, ho => ⟨γ, by cases ns <;> exact h, rfl, rfl, rfl, fun g hg _ => by cases ns <;> exact hg⟩
  | .nil e t :: r, γ, env, is, ns, h, ⟨is', h1, h2⟩, hap, hfl, hu, ho => by
    subst h1
    obtain ⟨l, ns', rfl, _, ho'⟩ := ho
    obtain ⟨u1, _⟩ := uniq_tail hu
    obtain ⟨γ2, k1, k2, k3, k4, k5⟩ := revive_all r γ env is' ns' h h2 hap.tail (by simpa [flatRows] using hfl) u1 ho'
    exact ⟨γ2, k1, k2, k3, k4, fun g hg hn => k5 g hg fun ⟨it, hit, hb⟩ => hn ⟨it, by simp [hit], hb⟩⟩
  | .row x ver e t :: r, γ, env, is, ns, h, ⟨is', h1, h2, h3, h4, h5, h6⟩, hap, hfl, hu, ho => by
    subst h1
    obtain ⟨l, ns', rfl, hown, ho'⟩ := ho
    obtain ⟨u1, u2⟩ := uniq_tail hu
    obtain ⟨n1, n2⟩ := hap.row
    simp only [flatRows, Bool.and_eq_true, Bool.not_eq_true'] at hfl
    have hc := h.reviveRow h2 h3 h4 (OwnV.rebaseM (hown.flat hfl.1) fun g hg => (h5 g hg).2.1) (fun g hg => (h5 g hg).1) (fun hn g hg => (h5 g hg).2.2 hn)
    have hp : Pend A γ Fr w' (Upd.app env (.cell x (.own e t ver l))) r is' := Pend.congr rfl rfl h6 (fun y hy => ⟨rfl, fun hyu => by rw [envCell_app_cell, if_neg (fun (hh : y = x ∧ _) => n1 (hh.1 ▸ hy))]; exact hyu⟩)
      (fun b hb hnb v fz c hh => by
        rw [get_app_cell, if_neg (n2 b hb)] at hh
        exact hnb _ _ _ hh)
      (fun g hg hl => hl.reviveRow fun hx => u2 g g hx hg rfl) (fun _ _ _ hr => hr)
    obtain ⟨γ2, k1, k2, k3, k4, k5⟩ := revive_all r γ _ is' ns' hc hp hap.tail hfl.2 u1 ho'
    have e1 : lendUpds (.row x ver e t :: r) (.row t l :: ns') = .cell x (.own e t ver l) :: lendUpds r ns' := by simp [lendUpds]
    rw [e1]
    exact ⟨γ2, k1, k2, k3, k4, fun g hg hn => k5 g (hg.reviveRow fun hx => hn ⟨_, List.mem_cons_self, hx⟩) fun ⟨it, hit, hb⟩ => hn ⟨it, by simp [hit], hb⟩⟩
  | .box b bv cs :: r, γ, env, is, ns, h, ⟨is', us, h1, h2, h3, h4, h5, h6, h7, h8⟩, hap, hfl, hu, ho => by
    subst h1
    obtain ⟨cs', ns', us', rfl, hbo, ⟨T, hT⟩, ho'⟩ := ho
    obtain ⟨u1, u2⟩ := uniq_tail hu
    obtain ⟨n1, n2⟩ := hap.box
    have hrc := box_back h6 hbo
    have hc := h.reviveBox (bv := bv) h2 h3 h4 h5 hT hrc
    have hno := zip_box_noown (cs' := cs') h7
    have hp : Pend A { γ with φ := setφ γ (.box b) fun _ j => us'.getD j undef } Fr w' ((.box b, .box bv false (List.zipWith boxCell cs cs')) :: env) r is' := by
      refine Pend.congr (γ := γ) (γ' := { γ with φ := setφ γ (.box b) fun _ j => us'.getD j undef }) rfl rfl h8 (fun y hy => ⟨by simp [setφ, n2 y hy], fun hyu => by rw [envCell_cons, if_neg (Ne.symm (n2 y hy))]; exact hyu⟩) (fun b' hb' hnb v fz c hh => ?_) (fun g hg hl => hl.reviveBox (fun e => u2 _ g rfl hg e) hno) (fun cs2 us2 hpl hr => ?_)
      · rw [Env.get_cons_ne _ _ (fun e => n1 (by injection e with e; rw [e]; exact hb'))] at hh
        exact hnb _ _ _ hh
      · exact RelCs.of_get hr.length fun j c u hcj huj => by
          obtain ⟨u2, hu2, hg⟩ := hr.get hcj
          rw [huj] at hu2
          injection hu2 with hu2
          subst hu2
          exact ⟨hg.1.move (fun _ _ _ => rfl) (fun _ _ _ => rfl) (fun _ hz => hz) (fun _ _ => rfl) (Nat.le_refl _) (fun _ _ _ => rfl), hg.2⟩
    obtain ⟨γ2, k1, k2, k3, k4, k5⟩ := revive_all r _ _ is' ns' hc hp hap.tail (by simpa [flatRows] using hfl) u1 ho'
    exact ⟨γ2, k1, k2, k3, k4, fun g hg hn => k5 g (hg.reviveBox (fun e => hn ⟨_, List.mem_cons_self, by simp [Item.block, e]⟩) hno) fun ⟨it, hit, hb⟩ => hn ⟨it, by simp [hit], hb⟩⟩
theorem callByM_sound (h : Core A X γ Fr env a w) (hst : Stable A.n0 A.G) (hG0 : BaseOK A) {f : FuncId} {C : MContract} (hC : SoundM A.P A.n0 A.G f C) {as : List (Bool × List Cell)} {vs : List Value} (hr : RelComps A γ w Fr as vs)
    {cs : List (Bool × List Cell)} {us : List Upd} {l0 l1 : List Slot} (he : (callByM C vn as).eval env.get l0 = some ((cs, us), l1)) :
    FCalls A.P f vs.toArray w fun v w' => ∃ γ2 uss fv, v = mkRes uss ∧ Core A X γ2 Fr (appAll env us) a w' ∧ uss.length = cs.length ∧
      (∀ i p, cs[i]? = some p → uss[i]? = some (mkVal p.1 ((List.range p.2.length).map (fv i)))) ∧ InstComps A γ2 w' Fr vn (appAll env us) cs fv := by
  simp only [callByM, Rd.eval_bind, Option.bind_eq_some_iff] at he
  obtain ⟨⟨q, l2⟩, h1, h2⟩ := he
  obtain ⟨xs, ss, ls⟩ := q
  simp only at h2
  cases hok : lendOk ls ss with
  | false => rw [hok] at h2; simp [Rd.eval] at h2
  | true =>
  rw [hok] at h2
  simp only [Bool.not_true, cond_false, Rd.eval_bind, Option.bind_eq_some_iff] at h2
  obtain ⟨⟨us0, l4⟩, h3, h4⟩ := h2
  simp only [Rd.eval, Option.bind_eq_some_iff, Option.some.injEq, Prod.mk.injEq] at h4
  obtain ⟨⟨r, m⟩, hF, ⟨rfl, rfl⟩, _⟩ := h4
  have hk := lendOk_iff hok
  have hsrc := lendArgs_src C.As as h1
  simp only at h3 hF hsrc
  have hZ0 : ∀ g, γ.Z g → zoneOf γ ss g := fun g hg => .inl hg
  obtain ⟨is, hargs, hls, hlt0⟩ := lendArgs_sound h (zoneOf γ ss) hZ0 C.As as hr h1 fun g hg => hg
  simp only at hargs hls hlt0
  have hlt : ∀ g, zoneOf γ ss g → g < w.heap.size := by
    rintro g (hg | ⟨s, hs, hg⟩)
    · exact h.zone g hg
    · exact hlt0 s hs g hg
  have hsep := lend_sep h hst hG0 hls hk hsrc
  have key : ∃ γ1, Core A X γ1 Fr (appAll env us0) a w ∧ ZExt γ γ1 ∧ (freezes C.R C.modes = true → ∀ g, zoneOf γ ss g → γ1.Z g) ∧ (∀ u ∈ us0, ∃ x c, u = Upd.cell x c ∧ Src.row x ∈ ss) := by
    cases hf : freezes C.R C.modes with
    | true =>
      rw [hf] at h3
      obtain ⟨γ1, k1, k2, k3⟩ := freezeAll_sound ss [] γ env us0 _ _ h (fun _ _ => rfl) (fun y hy => by simp [memLoc] at hy) h3
      exact ⟨γ1, k1, k2, fun _ => k3, freezeAll_upds ss [] h3⟩
    | false =>
      rw [hf] at h3
      simp only [cond_false, Rd.eval, Option.some.injEq, Prod.mk.injEq] at h3
      obtain ⟨rfl, _⟩ := h3
      exact ⟨γ, h, ZExt.refl γ, fun hh => (by cases hh), by simp⟩
  obtain ⟨γ1, c1, hz1, hfz, hus0⟩ := key
  have hls1 : LsRel γ1 (appAll env us0) ls is := by
    refine LsRel.congr hz1.2.2.1 hz1.2.1 hls (fun x hx => envCell_appAll us0 env x fun u hu => ?_) (fun b hb => get_appAll_ne us0 env _ fun u hu => ?_)
    · obtain ⟨y, c, rfl, hy⟩ := hus0 u hu
      refine ⟨y, c, rfl, fun e => ?_⟩
      have := hk.srcs _ hy
      simp only [srcApart, Bool.not_eq_true'] at this
      rw [e, (memLoc_iff x _).2 hx] at this
      cases this
    · obtain ⟨y, c, rfl, hy⟩ := hus0 u hu
      refine ⟨y, c, rfl, fun e => ?_⟩
      obtain ⟨e', t', ver', l', hyc⟩ := hsrc _ hy
      have hbx : ∀ {ls : List Lsrc} {is : List Item}, LsRel γ env ls is → b ∈ lsrcBoxes ls → ∃ bv cs, env.get (.box b) = .box bv false cs ∧ cs.all plainCell = true := by
        intro ls
        induction ls with
        | nil => intro is _ hb; simp [lsrcBoxes] at hb
        | cons s r ih =>
          intro is hl hb
          cases s with
          | row x ver e t => obtain ⟨is', l, _, _, h3⟩ := hl; exact ih h3 (by simpa [lsrcBoxes] using hb)
          | nil e t => obtain ⟨is', _, h3⟩ := hl; exact ih h3 (by simpa [lsrcBoxes] using hb)
          | box b' bv cs =>
            obtain ⟨is', _, h2, h3, h4⟩ := hl
            simp only [lsrcBoxes, List.mem_cons] at hb
            rcases hb with rfl | hb
            · exact ⟨bv, cs, h2, h3⟩
            · exact ih h4 hb
      obtain ⟨bv, cs, hb1, hb2⟩ := hbx hls hb
      unfold envCell at hyc
      rw [e, hb1] at hyc
      cases hi : y.c with
      | zero =>
        rw [hi] at hyc
        have := plain_noown hb2 _ (List.mem_of_getElem? hyc)
        simp [Cell.isOwn] at this
      | succ i => rw [hi] at hyc; simp [AV.cell?] at hyc
  have hap : LsApart ls := ⟨hk.rows, hk.boxes, hk.far⟩
  obtain ⟨c2, hpend, kl1, kl2, _, _⟩ := kill_all ls _ is c1 hls1 hap
  refine (hC w (zoneOf γ ss) vs xs r m is h.glob hlt hargs hsep hF).mono ?_
  rintro v w' ⟨Z', uss, rfl, hfr, hsub, hsup, ⟨f', hl, hcell, huniq⟩, hout⟩
  have hG : A.G w' := hst.2 w w' h.glob hfr.size fun k hkk => hfr.block k (Nat.lt_of_lt_of_le hkk (hst.1 w h.glob)) fun hL => by have := (hsep.zone k hL).2.2; omega
  have c3 := c2.worldM hfr.os hfr.tape hfr.output hfr.size hfr.drawn (fun k hkk hnl => hfr.block k hkk fun hL => hnl (kl2 k hL)) hG
  have hZw : ∀ g, γ1.Z g → w'.heap[g]? = w.heap[g]? := fun g hg => hfr.block g (c1.zone g hg) fun hL => (kl2 g hL).2.1 hg
  have hpend' : Pend A γ1 Fr w' (appAll (appAll env us0) (killUpds ls)) ls is := Pend.congr rfl rfl hpend (fun x _ => ⟨rfl, fun h => h⟩) (fun b _ h => h) (fun g _ h => h) fun cs us hpl hrc =>
    RelCs.of_get hrc.length fun j c u hcj huj => by
      obtain ⟨u2, hu2, hg⟩ := hrc.get hcj
      rw [huj] at hu2
      injection hu2 with hu2
      subst hu2
      exact hg.world hZw hfr.size
  have hZ2lt : ∀ g, (γ1.Z g ∨ (Z' g ∧ w.heap.size ≤ g)) → g < w'.heap.size := by
    rintro g (hg | ⟨hg, _⟩)
    · exact c3.zone g hg
    · rcases hsup g hg with hg | hg
      · exact Nat.lt_of_lt_of_le (hlt g hg) hfr.size
      · exact hg.2
  have c4 := c3.zoneGrow (Z2 := fun g => γ1.Z g ∨ (Z' g ∧ w.heap.size ≤ g)) (fun g hg => .inl hg) (fun g hg => hg.imp id fun hh => c2.free_new hh.2) hZ2lt (fun g hg => hg.imp id fun hh => Nat.le_trans h.frame.size hh.2)
  have hpend2 : Pend A { γ1 with Z := fun g => γ1.Z g ∨ (Z' g ∧ w.heap.size ≤ g) } Fr w' (appAll (appAll env us0) (killUpds ls)) ls is := Pend.congr (γ := γ1) (γ' := { γ1 with Z := fun g => γ1.Z g ∨ (Z' g ∧ w.heap.size ≤ g) }) rfl rfl hpend' (fun x _ => ⟨rfl, fun h => h⟩) (fun b _ h => h)
    (fun g hL hlo => ⟨hlo.1, fun hz => hz.elim hlo.2.1 fun hh => by have := (hsep.zone g hL).2.1; omega, hlo.2.2.1, hlo.2.2.2⟩)
    (fun cs us hpl hrc => hrc.zext (γ := γ1) (γ' := { γ1 with Z := fun g => γ1.Z g ∨ (Z' g ∧ w.heap.size ≤ g) }) ⟨rfl, rfl, rfl, fun g hg => .inl hg⟩)
  obtain ⟨γ2, c5, e1, e2, e3, kl3⟩ := revive_all ls _ _ is (newsOf C.As m) c4 hpend2 hap hk.flat hsep.uniq hout
  have henv : appAll env (us0 ++ (killUpds ls ++ lendUpds ls (newsOf C.As m))) = appAll (appAll (appAll env us0) (killUpds ls)) (lendUpds ls (newsOf C.As m)) := by rw [appAll_append, appAll_append]
  rw [henv]
  refine ⟨γ2, uss, f', rfl, c5, by rw [hl]; simp [toCells], ?_, ?_⟩
  · intro i p hp
    obtain ⟨q, hq, rfl⟩ := toCells_get hp
    rw [(hcell i q hq).1, List.length_map]
  · refine resRel_inst (B := w.heap.size) (Z' := Z') (avs := []) (Nat.le_trans h.baseB h.frame.size) (fun i p hp => (hcell i p hp).2) huniq rfl ?_ ?_
    · cases hf : freezes C.R C.modes with
      | true =>
        left
        intro g hg
        rw [e3]
        rcases hsup g hg with hg' | hg'
        · exact .inl (hfz hf g hg')
        · exact .inr ⟨hg, hg'.1⟩
      | false =>
        right
        simp only [freezes, hasImm, Bool.or_eq_false_iff] at hf
        exact resL_flat C.R r C.modes hf.1 hf.2
    · intro g hB hlt' hnz
      have hfr2 := c2.free_new hB
      have hlo : Loose A { γ1 with Z := fun g => γ1.Z g ∨ (Z' g ∧ w.heap.size ≤ g) } (appAll (appAll env us0) (killUpds ls)) g :=
        ⟨.inl hfr2.1, fun hz => hz.elim hfr2.2.1 fun hh => hnz hh.1, hfr2.2.2.1, hfr2.2.2.2⟩
      have := kl3 g hlo fun hL => by have := (hsep.zone g hL).2.1; omega
      exact ⟨hfr2.1, this.2⟩
end
end Go.VI
