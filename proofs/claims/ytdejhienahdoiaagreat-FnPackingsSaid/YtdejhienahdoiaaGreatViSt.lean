/- VI, part 3: the relation between an abstract state and the machine's, and how it moves. -/
import Derived.Test.YtdejhienahdoiaaGreatViCore
namespace Go.VI
open Go.RowKit
structure Below (B : Nat) (w w' : World) : Prop where
  os : w'.os = w.os
  tape : w'.tape = w.tape
  output : w'.output = w.output
  size : w.heap.size ≤ w'.heap.size
  block : ∀ k, k < B → w'.heap[k]? = w.heap[k]?
  drawn : w.drawn ≤ w'.drawn
theorem Below.toRow {B : Nat} {w w' : World} (h : Below B w w') : Go.RowKit.Below B w w' := ⟨h.os, h.tape, h.output, h.size, h.block⟩
theorem Below.refl (B : Nat) (w : World) : Below B w w := ⟨rfl, rfl, rfl, Nat.le_refl _, fun _ _ => rfl, Nat.le_refl _⟩
theorem Below.trans {B : Nat} {a b c : World} (h : Below B a b) (k : Below B b c) : Below B a c :=
  ⟨k.os.trans h.os, k.tape.trans h.tape, k.output.trans h.output, Nat.le_trans h.size k.size, fun i hi => (k.block i hi).trans (h.block i hi), Nat.le_trans h.drawn k.drawn⟩
theorem Below.alloc {B : Nat} {w w' : World} (h : Below B w w') (hB : B ≤ w'.heap.size) (o : Obj) : Below B w (w'.alloc o) :=
  ⟨h.os, h.tape, h.output, (h.toRow.alloc hB o).size, (h.toRow.alloc hB o).block, h.drawn⟩
theorem Below.drew {B : Nat} {w w' : World} (h : Below B w w') : Below B w w'.drew := ⟨h.os, h.tape, h.output, h.size, h.block, Nat.le_succ_of_le h.drawn⟩
structure GrownD (w w' : World) (row : Option Nat) : Prop where
  os : w'.os = w.os
  tape : w'.tape = w.tape
  output : w'.output = w.output
  size : w.heap.size ≤ w'.heap.size
  block : ∀ k, k < w.heap.size → some k ≠ row → w'.heap[k]? = w.heap[k]?
  drawn : w.drawn ≤ w'.drawn
theorem GrownD.row {w w' : World} {row : Option Nat} (h : GrownD w w' row) : w.grownBy w' row := ⟨h.os, h.tape, h.output, h.size, h.block⟩
theorem GrownD.alloc (w : World) (o : Obj) (row : Option Nat) : GrownD w (w.alloc o) row :=
  ⟨rfl, rfl, rfl, (World.grownBy_alloc w o row).size, (World.grownBy_alloc w o row).block, Nat.le_refl _⟩
structure Fix where
  P : Program
  G : World → Prop
  w0 : World
  pars : List Value
  Z0 : Nat → Prop
  B : Nat
  lv : Nat → Value
  lb : Nat → Option Nat
  n0 : Nat
def Fix.L (A : Fix) (g : Nat) : Prop := (∃ k, (A.lv k).ownBlock = some g) ∨ ∃ b, A.lb b = some g
structure Frame (A : Fix) (w : World) : Prop where
  os : w.os = A.w0.os
  tape : w.tape = A.w0.tape
  output : w.output = A.w0.output
  size : A.w0.heap.size ≤ w.heap.size
  block : ∀ k, k < A.w0.heap.size → ¬ A.L k → w.heap[k]? = A.w0.heap[k]?
  drawn : A.w0.drawn ≤ w.drawn
theorem Frame.grow {A : Fix} {w w' : World} {row : Option Nat} (h : Frame A w) (hg : GrownD w w' row) (hr : ∀ g, row = some g → A.w0.heap.size ≤ g ∨ A.L g) : Frame A w' :=
  ⟨hg.os.trans h.os, hg.tape.trans h.tape, hg.output.trans h.output, Nat.le_trans h.size hg.size, fun k hk hL => by
    rw [hg.block k (Nat.lt_of_lt_of_le hk h.size) (fun e => (hr k e.symm).elim (fun h1 => by omega) hL)]
    exact h.block k hk hL, Nat.le_trans h.drawn hg.drawn⟩
def Stable (n0 : Nat) (G : World → Prop) : Prop := (∀ w, G w → n0 ≤ w.heap.size) ∧ ∀ w w', G w → w.heap.size ≤ w'.heap.size → (∀ k, k < n0 → w'.heap[k]? = w.heap[k]?) → G w'
theorem Stable.below {n0 : Nat} {G : World → Prop} {w w' : World} (h : Stable n0 G) (hG : G w) (hb : Below w.heap.size w w') : G w' :=
  h.2 w w' hG hb.size fun k hk => hb.block k (Nat.lt_of_lt_of_le hk (h.1 w hG))
def BaseOK (A : Fix) : Prop := A.G A.w0 ∧ ∀ g, A.L g → A.n0 ≤ g
structure Gh where
  σ : Nat → Nat → Nat
  ψ : Loc → Nat → Value
  φ : Loc → Value
  Z : Nat → Prop
def mkVal : Bool → List Value → Value
  | true, us => .agg us.toArray
  | false, us => us.headD undef
def mkRes : List Value → Value
  | [v] => v
  | vs => .tuple vs.toArray
def RelArgsL (Z : Nat → Prop) (w : World) : (as : List (Bool × Ty)) → denL as → List Value → Prop
  | [], _, vs => vs = []
  | p :: r, x, vs => ∃ us vs', vs = mkVal p.1 us :: vs' ∧ (p.1 = false → us.length = 1) ∧ RepI Z w p.2 x.1 us ∧ RelArgsL Z w r x.2 vs'
def RelResL (w : World) : (rs : List (Bool × Ty)) → denL rs → List Value → Prop
  | [], _, vs => vs = []
  | p :: r, x, vs => ∃ us vs', vs = mkVal p.1 us :: vs' ∧ (p.1 = false → us.length = 1) ∧ leads p.2 = false ∧ RepI (fun _ => False) w p.2 x.1 us ∧ RelResL w r x.2 vs'
def FCalls (P : Program) (f : FuncId) (args : Array Value) (w : World) (R : Value → World → Prop) : Prop :=
  (∃ v w', (callFunc f args).run P w = .ok (.value v) w' ∧ R v w') ∨
  ((callFunc f args).run P w = .ok (.enter f args) w ∧ Calls P f args w fun e w' => ∃ v, e = .returned v ∧ R v w')
theorem FCalls.mono {P : Program} {f : FuncId} {args : Array Value} {w : World} {R R' : Value → World → Prop} (h : FCalls P f args w R) (hr : ∀ v w', R v w' → R' v w') : FCalls P f args w R' := by
  rcases h with ⟨v, w', h1, h2⟩ | ⟨h1, h2⟩
  · exact .inl ⟨v, w', h1, hr _ _ h2⟩
  · refine .inr ⟨h1, fun cs => ?_⟩
    obtain ⟨e, w', fr, ⟨v, he, hR⟩, rest⟩ := h2 cs
    exact ⟨e, w', fr, ⟨v, he, hr _ _ hR⟩, rest⟩
def CloOK (P : Program) (G : World → Prop) (Z : Nat → Prop) (w : World) (as rs : List (Bool × Ty)) (F : denL as → Option (denL rs)) (v : Value) : Prop :=
  ∃ f caps, v = .func (.func f) #[] caps ∧
    ∀ w2 Z2 xs vs r, (∀ g, Z g → w2.heap[g]? = w.heap[g]?) → w.heap.size ≤ w2.heap.size → G w2 → (∀ g, Z2 g → g < w2.heap.size) → RelArgsL Z2 w2 as xs vs → F xs = some r →
      FCalls P f (vs.toArray ++ caps) w2 fun v w' => ∃ us, v = mkRes us ∧ Below w2.heap.size w2 w' ∧ RelResL w' rs r us
def RelCell (A : Fix) (γ : Gh) (w : World) : Cell → Value → Prop
  | .undef, _ => True
  | .int k n, v => v = .int k n
  | .bool b, v => v = .bool b
  | .str s, v => v = .string ⟨s.toArray⟩
  | .own e t _ l, v => OwnV γ.Z w A.B e t v l
  | .nil _ _, v => v = .slice none 0 0
  | .imm t l par, v => RepI γ.Z w (.sl t) l [v] ∧ ∀ j, par = some j → A.pars[j]? = some v
  | .view x ver, v => v = γ.ψ x ver
  | .sub x ver sz lo hi, v => ∃ a n c, γ.ψ x ver = .slice a n c ∧ 0 ≤ lo ∧ lo ≤ hi ∧ hi ≤ (n : Int) ∧ v = .slice (if c = lo.toNat then a else a.map (·.add (lo.toNat * sz))) (hi.toNat - lo.toNat) (c - lo.toNat)
  | .barr b bv off n _, v => v = .slice (some ⟨γ.σ b bv, off, none⟩) n n
  | .addr b bv off, v => v = .pointer (some ⟨γ.σ b bv, off, none⟩)
  | .addrI b bv off n sz i, v => inB i n = true ∧ v = .pointer (some ⟨γ.σ b bv, off + i.toNat * sz, none⟩)
  | .gptr g off, v => v = .pointer (some ⟨g, off, none⟩)
  | .gptrI g off n sz i, v => inB i n = true ∧ v = .pointer (some ⟨g, off + i.toNat * sz, none⟩)
  | .iptr t x off, v => ∃ (a : Addr) (us : List Value), v = .pointer (some (a.add off)) ∧ γ.Z a.block ∧ RepI γ.Z w t x us ∧ ∀ j u, us[j]? = some u → w.cell? (a.add j) = some u
  | .iptrI t x off n sz i, v => inB i n = true ∧ ∃ (a : Addr) (us : List Value), v = .pointer (some (a.add (off + i.toNat * sz))) ∧ γ.Z a.block ∧ RepI γ.Z w t x us ∧ ∀ j u, us[j]? = some u → w.cell? (a.add j) = some u
  | .eview x ver sz i off, v => ∃ g n c, γ.ψ x ver = .slice (some ⟨g, 0, none⟩) n c ∧ inB i n = true ∧ v = .pointer (some ⟨g, i.toNat * sz + off, none⟩)
  | .eimm t l i off, v => inB i l.length = true ∧ ∃ (a : Addr) (c : Nat), RepI γ.Z w (.sl t) l [.slice (some a) l.length c] ∧ v = .pointer (some (a.add (i.toNat * t.size + off)))
  | .eviewI x ver sz i off m sz2 j, v => ∃ g n c, γ.ψ x ver = .slice (some ⟨g, 0, none⟩) n c ∧ inB i n = true ∧ inB j m = true ∧ v = .pointer (some ⟨g, i.toNat * sz + off + j.toNat * sz2, none⟩)
  | .eimmI t l i off m sz2 j, v => inB i l.length = true ∧ inB j m = true ∧ ∃ (a : Addr) (c : Nat), RepI γ.Z w (.sl t) l [.slice (some a) l.length c] ∧ v = .pointer (some (a.add (i.toNat * t.size + off + j.toNat * sz2)))
  | .func f, v => v = .func (.func f) #[] #[]
  | .clo as rs F, v => CloOK A.P A.G γ.Z w as rs F v
def refs : Cell → Option Nat
  | .view _ v | .sub _ v _ _ _ | .eview _ v _ _ _ | .eviewI _ v _ _ _ _ _ _ | .barr _ v _ _ _ | .addr _ v _ | .addrI _ v _ _ _ _ => some v
  | _ => none
def Cell.isOwn : Cell → Bool
  | .own .. => true
  | _ => false
theorem RelCell.move {A : Fix} {γ γ' : Gh} {w w' : World} {c : Cell} {v : Value} (h : RelCell A γ w c v)
    (hψ : ∀ r, refs c = some r → ∀ y, γ'.ψ y r = γ.ψ y r) (hσ : ∀ r, refs c = some r → ∀ b, γ'.σ b r = γ.σ b r)
    (hZ : ∀ g, γ.Z g → γ'.Z g) (hw : ∀ g, γ.Z g → w'.heap[g]? = w.heap[g]?) (hs : w.heap.size ≤ w'.heap.size)
    (ho : c.isOwn = true → ∀ g, v.ownBlock = some g → w'.heap[g]? = w.heap[g]?) : RelCell A γ' w' c v := by
  have hcell : ∀ (a : Addr) (n : Nat) (u : Value), γ.Z a.block → w.cell? (a.add n) = some u → w'.cell? (a.add n) = some u := by
    intro a n u hz hc
    rw [World.cell?_of_block (w := w)]
    · exact hc
    · have hb : (a.add n).block = a.block := by unfold Addr.add; split <;> rfl
      rw [hb]; exact hw _ hz
  cases c with
  | undef => trivial
  | int k n => exact h
  | bool b => exact h
  | str s => exact h
  | own e t ver l => exact h.mono hZ hw (ho rfl)
  | nil e t => exact h
  | imm t l par => exact ⟨RepI.mono hZ hw _ _ _ h.1, h.2⟩
  | view x ver => exact h.trans (hψ _ rfl x).symm
  | sub x ver sz lo hi => obtain ⟨a, n, c, h1, h2⟩ := h; exact ⟨a, n, c, (hψ _ rfl x).trans h1, h2⟩
  | barr b bv off n t => exact h.trans (by rw [hσ _ rfl b])
  | addr b bv off => exact h.trans (by rw [hσ _ rfl b])
  | addrI b bv off n sz i => exact ⟨h.1, h.2.trans (by rw [hσ _ rfl b])⟩
  | gptr g off => exact h
  | gptrI g off n sz i => exact h
  | iptr t x off => obtain ⟨a, us, h1, h2, h3, h4⟩ := h; exact ⟨a, us, h1, hZ _ h2, RepI.mono hZ hw _ _ _ h3, fun j u hu => hcell a j u h2 (h4 j u hu)⟩
  | iptrI t x off n sz i => obtain ⟨h0, a, us, h1, h2, h3, h4⟩ := h; exact ⟨h0, a, us, h1, hZ _ h2, RepI.mono hZ hw _ _ _ h3, fun j u hu => hcell a j u h2 (h4 j u hu)⟩
  | eview x ver sz i off => obtain ⟨g, n, c, h1, h2⟩ := h; exact ⟨g, n, c, (hψ _ rfl x).trans h1, h2⟩
  | eimm t l i off => obtain ⟨h0, a, c, h1, h2⟩ := h; exact ⟨h0, a, c, RepI.mono hZ hw _ _ _ h1, h2⟩
  | eviewI x ver sz i off m sz2 j => obtain ⟨g, n, c, h1, h2⟩ := h; exact ⟨g, n, c, (hψ _ rfl x).trans h1, h2⟩
  | eimmI t l i off m sz2 j => obtain ⟨h0, h00, a, c, h1, h2⟩ := h; exact ⟨h0, h00, a, c, RepI.mono hZ hw _ _ _ h1, h2⟩
  | func f => exact h
  | clo as rs F =>
    obtain ⟨f, caps, h1, h3⟩ := h
    exact ⟨f, caps, h1, fun w2 Z2 xs vs r hz hsz => h3 w2 Z2 xs vs r (fun g hg => (hz g (hZ g hg)).trans (hw g hg)) (Nat.le_trans hs hsz)⟩
def envCell (env : Env) (x : Loc) : Option Cell := (env.get x.s).cell? x.c x.j
def cellVals (γ : Gh) (s : Slot) (i n : Nat) : List Value := (List.range n).map fun j => γ.φ ⟨s, i, j⟩
theorem cellVals_length (γ : Gh) (s : Slot) (i n : Nat) : (cellVals γ s i n).length = n := by simp [cellVals]
theorem cellVals_get (γ : Gh) (s : Slot) (i n j : Nat) (h : j < n) : (cellVals γ s i n)[j]? = some (γ.φ ⟨s, i, j⟩) := by simp [cellVals, h]
def tupVals (γ : Gh) (s : Slot) (l : List (Bool × List Cell)) : List Value := l.zipIdx.map fun p => mkVal p.1.1 (cellVals γ s p.2 p.1.2.length)
def RelTmp (γ : Gh) (t : Nat) : AV → Value → Prop
  | .skip, v => v = undef
  | .val g cs, v => v = mkVal g (cellVals γ (.tmp t) 0 cs.length) ∧ (g = false → cs.length = 1)
  | .tup l, v => v = .tuple (tupVals γ (.tmp t) l).toArray ∧ ∀ p ∈ l, p.1 = false → p.2.length = 1
  | _, _ => True
structure Core (A : Fix) (X : Ctx) (γ : Gh) (Fr : Nat → Prop) (env : Env) (a : Act) (w : World) : Prop where
  frame : Frame A w
  glob : A.G w
  zone : ∀ g, γ.Z g → g < w.heap.size
  zone0 : (∀ g, A.Z0 g → γ.Z g) ∧ ∀ g, γ.Z g → A.Z0 g ∨ A.w0.heap.size ≤ g
  defers : a.defers = []
  size : a.tmps.size = X.ntmps
  ntl : X.ntmps ≤ lentBase
  baseB : A.B ≤ A.w0.heap.size
  tmp : ∀ t, RelTmp γ t (env.get (.tmp t)) (a.tmps.getD t undef)
  box : ∀ b ver fz cs, env.get (.box b) = .box ver fz cs → (∃ T, w.heap[γ.σ b ver]? = some (.cells (cellVals γ (.box b) 0 cs.length).toArray T (0, 0))) ∧
    ((b < lentBase → A.w0.heap.size ≤ γ.σ b ver) ∧ (lentBase ≤ b → A.lb (b - lentBase) = some (γ.σ b ver))) ∧ (fz = true ↔ γ.Z (γ.σ b ver)) ∧ ¬ Fr ver
  cell : ∀ x c, envCell env x = some c → RelCell A γ w c (γ.φ x) ∧ (γ.φ x).oneCell' = true ∧ ∀ r, refs c = some r → ¬ Fr r
  own : ∀ x e t ver l, envCell env x = some (.own e t ver l) → γ.ψ x ver = γ.φ x ∧ ¬ Fr ver ∧ ∀ g, (γ.φ x).ownBlock = some g →
    ¬ γ.Z g ∧ (∀ b bv fz cs, env.get (.box b) = .box bv fz cs → γ.σ b bv ≠ g) ∧
    ∀ y e' t' ver' l', envCell env y = some (.own e' t' ver' l') → (γ.φ y).ownBlock = some g → y = x
  inj : ∀ b b' bv bv' fz fz' cs cs', env.get (.box b) = .box bv fz cs → env.get (.box b') = .box bv' fz' cs' → γ.σ b bv = γ.σ b' bv' → b = b'
  fresh : ∀ x e t ver l, envCell env x = some (.own e t ver l) → x.s.isLent = false → ∀ g, (γ.φ x).ownBlock = some g → A.w0.heap.size ≤ g
  lent : ∀ k, γ.φ ⟨.lent k, 0, 0⟩ = A.lv k
  lentloc : ∀ k c j cl, envCell env ⟨.lent k, c, j⟩ = some cl → c = 0 ∧ j = 0
def Free (A : Fix) (γ : Gh) (env : Env) (g : Nat) : Prop :=
  A.w0.heap.size ≤ g ∧ ¬ γ.Z g ∧ (∀ b bv fz cs, env.get (.box b) = .box bv fz cs → γ.σ b bv ≠ g) ∧ ∀ y e t ver l, envCell env y = some (.own e t ver l) → (γ.φ y).ownBlock ≠ some g
section
variable {A : Fix} {X : Ctx} {γ : Gh} {Fr : Nat → Prop} {env : Env} {a : Act} {w w' : World}
theorem Core.world (h : Core A X γ Fr env a w) {row : Option Nat} (hg : GrownD w w' row)
    (hr : ∀ g, row = some g → A.w0.heap.size ≤ g ∧ (g < w.heap.size → Free A γ env g)) (hG : A.G w') : Core A X γ Fr env a w' := by
  have hZ : ∀ g, γ.Z g → w'.heap[g]? = w.heap[g]? := fun g hz => hg.block g (h.zone g hz) (fun e => by
    have := (hr g e.symm).2 (h.zone g hz); exact this.2.1 hz)
  have hlt : ∀ {g : Nat} {o : Obj}, w.heap[g]? = some o → g < w.heap.size := fun hh => (Array.getElem?_eq_some_iff.1 hh).1
  refine { frame := h.frame.grow hg fun g hg => .inl (hr g hg).1, glob := hG, zone := fun g hz => Nat.lt_of_lt_of_le (h.zone g hz) hg.size, zone0 := h.zone0, defers := h.defers, size := h.size, ntl := h.ntl, baseB := h.baseB, tmp := h.tmp, box := ?_, cell := ?_, own := ?_, inj := h.inj, fresh := h.fresh, lent := h.lent, lentloc := h.lentloc }
  · intro b ver fz cs hb
    obtain ⟨⟨T, h1⟩, h2⟩ := h.box b ver fz cs hb
    refine ⟨⟨T, ?_⟩, h2⟩
    rw [hg.block _ (hlt h1) (fun e => ((hr _ e.symm).2 (hlt h1)).2.2.1 b ver fz cs hb rfl)]
    exact h1
  · intro x c hc
    obtain ⟨h1, h2, h3⟩ := h.cell x c hc
    refine ⟨h1.move (fun _ _ _ => rfl) (fun _ _ _ => rfl) (fun _ hz => hz) hZ hg.size (fun hown g hgb => ?_), h2, h3⟩
    cases c <;> simp [Cell.isOwn] at hown
    rename_i e t ver l
    have hl := h1.lt g hgb
    exact hg.block g hl.2 (fun e => ((hr g e.symm).2 hl.2).2.2.2 x _ _ _ _ hc hgb)
  · exact h.own
theorem Core.fr {Fr' : Nat → Prop} (h : Core A X γ Fr env a w) (hf : ∀ v, Fr' v → Fr v) : Core A X γ Fr' env a w :=
  { h with
    box := fun b ver fz cs hb => let ⟨h1, h2, h3, h4⟩ := h.box b ver fz cs hb; ⟨h1, h2, h3, fun hh => h4 (hf _ hh)⟩
    cell := fun x c hc => let ⟨h1, h2, h3⟩ := h.cell x c hc; ⟨h1, h2, fun r hr hh => h3 r hr (hf _ hh)⟩
    own := fun x e t ver l hc => let ⟨h1, h2, h3⟩ := h.own x e t ver l hc; ⟨h1, fun hh => h2 (hf _ hh), h3⟩ }
theorem Core.ext {env' : Env} (h : Core A X γ Fr env a w) (he : ∀ s, env'.get s = env.get s) : Core A X γ Fr env' a w := by
  have hc : ∀ x, envCell env' x = envCell env x := fun x => by simp [envCell, he]
  refine { frame := h.frame, glob := h.glob, zone := h.zone, zone0 := h.zone0, defers := h.defers, size := h.size, ntl := h.ntl, baseB := h.baseB, tmp := fun t => by rw [he]; exact h.tmp t, box := ?_, cell := ?_, own := ?_, inj := ?_, fresh := fun x e t ver l hx => h.fresh x e t ver l (by rwa [hc] at hx), lent := h.lent, lentloc := fun k c j cl hx => h.lentloc k c j cl (by rwa [hc] at hx) }
  · intro b ver fz cs hb; rw [he] at hb; exact h.box b ver fz cs hb
  · intro x c hx; rw [hc] at hx; exact h.cell x c hx
  · intro x e t ver l hx
    rw [hc] at hx
    obtain ⟨h1, h2, h3⟩ := h.own x e t ver l hx
    exact ⟨h1, h2, fun g hg => let ⟨a1, a2, a3⟩ := h3 g hg; ⟨a1, fun b bv fz cs hb => a2 b bv fz cs (by rwa [he] at hb), fun y e' t' v' l' hy => a3 y e' t' v' l' (by rwa [hc] at hy)⟩⟩
  · intro b b' bv bv' fz fz' cs cs' hb hb'; rw [he] at hb hb'; exact h.inj b b' bv bv' fz fz' cs cs' hb hb'
end
theorem relTmp_setCell {γ : Gh} {t : Nat} {v : AV} {u : Value} {i j : Nat} {c : Cell} (h : RelTmp γ t v u) : RelTmp γ t (v.setCell i j c) u := by
  cases v with
  | val g cs => cases i with
    | zero => simpa [AV.setCell, RelTmp, setNth_length] using h
    | succ i => exact h
  | tup l =>
    simp only [AV.setCell]
    by_cases hi : i < l.length
    · have hl : l[i]? = some l[i] := List.getElem?_eq_getElem hi
      simp only [hl, RelTmp] at h ⊢
      refine ⟨h.1.trans ?_, ?_⟩
      · congr 2
        apply List.ext_getElem?
        intro k
        simp only [tupVals, List.getElem?_map, List.getElem?_zipIdx, setNth_getElem?, hi, and_true]
        by_cases hk : i = k
        · subst hk; simp [hl, setNth_length]
        · simp [hk]
      · intro p hp
        obtain ⟨k, hk⟩ := List.mem_iff_getElem?.1 hp
        rw [setNth_getElem?] at hk
        split at hk
        · injection hk with hk; subst hk; simp only [setNth_length]; exact h.2 _ (List.getElem_mem hi)
        · exact h.2 p (List.mem_of_getElem? hk)
    · have hl : l[i]? = none := List.getElem?_eq_none (by omega)
      simp only [hl]; exact h
  | box w fz cs => cases i <;> exact trivial
  | undef => exact trivial
  | skip => exact h
  | num n => exact trivial
theorem get_app_cell (env : Env) (x : Loc) (c : Cell) (s : Slot) : (Upd.app env (.cell x c)).get s = if x.s = s then (env.get s).setCell x.c x.j c else env.get s := by
  simp only [Upd.app, Env.get_cons]
  by_cases h : x.s = s
  · subst h; simp
  · simp [h]
theorem envCell_app_cell (env : Env) (x y : Loc) (c : Cell) : envCell (Upd.app env (.cell x c)) y = if y = x ∧ (envCell env x).isSome then some c else envCell env y := by
  obtain ⟨s, i, j⟩ := x
  obtain ⟨s', i', j'⟩ := y
  simp only [envCell, get_app_cell]
  by_cases h : s = s'
  · subst h
    simp only [if_true, AV.cell?_setCell, Loc.mk.injEq, true_and]
    by_cases h1 : i' = i <;> by_cases h2 : j' = j <;> simp [h1, h2]
  · simp [h, Ne.symm h]
theorem box_setCell {v : AV} {i j : Nat} {c : Cell} {ver : Nat} {fz : Bool} {cs : List Cell} (h : v.setCell i j c = .box ver fz cs) : ∃ cs', v = .box ver fz cs' ∧ cs'.length = cs.length := by
  cases v with
  | box w f cs' => cases i with
    | zero => simp only [AV.setCell, AV.box.injEq] at h; obtain ⟨rfl, rfl, rfl⟩ := h; exact ⟨cs', rfl, (setNth_length _ _ _).symm⟩
    | succ i => simp only [AV.setCell, AV.box.injEq] at h; obtain ⟨rfl, rfl, rfl⟩ := h; exact ⟨cs', rfl, rfl⟩
  | val g cs' => cases i <;> simp [AV.setCell] at h
  | tup l => simp [AV.setCell] at h
  | undef => simp [AV.setCell] at h
  | skip => simp [AV.setCell] at h
  | num n => simp [AV.setCell] at h
section
variable {A : Fix} {X : Ctx} {γ : Gh} {Fr : Nat → Prop} {env : Env} {a : Act} {w w' : World}
theorem lentloc_app {env : Env} (h : ∀ k c j cl, envCell env ⟨.lent k, c, j⟩ = some cl → c = 0 ∧ j = 0) (x : Loc) (c0 : Cell) :
    ∀ k c j cl, envCell (Upd.app env (.cell x c0)) ⟨.lent k, c, j⟩ = some cl → c = 0 ∧ j = 0 := by
  intro k c j cl hy
  rw [envCell_app_cell] at hy
  split at hy
  · rename_i hh
    obtain ⟨c', hc'⟩ := Option.isSome_iff_exists.1 hh.2
    exact h k c j c' (by rw [hh.1]; exact hc')
  · exact h k c j cl hy
theorem Core.kill (h : Core A X γ Fr env a w) (x : Loc) : Core A X γ Fr (Upd.app env (.cell x .undef)) a w := by
  have hb : ∀ b ver fz cs, (Upd.app env (.cell x .undef)).get (.box b) = .box ver fz cs → ∃ cs', env.get (.box b) = .box ver fz cs' ∧ cs'.length = cs.length := by
    intro b ver fz cs hb
    rw [get_app_cell] at hb
    split at hb
    · exact box_setCell hb
    · exact ⟨cs, hb, rfl⟩
  have hc : ∀ y c, envCell (Upd.app env (.cell x .undef)) y = some c → c = .undef ∨ envCell env y = some c := by
    intro y c hy
    rw [envCell_app_cell] at hy
    split at hy
    · injection hy with hy; exact .inl hy.symm
    · exact .inr hy
  refine { frame := h.frame, glob := h.glob, zone := h.zone, zone0 := h.zone0, defers := h.defers, size := h.size, ntl := h.ntl, baseB := h.baseB, tmp := ?_, box := ?_, cell := ?_, own := ?_, inj := ?_, fresh := fun y e t ver l hy => h.fresh y e t ver l ((hc y _ hy).resolve_left (by simp)), lent := h.lent, lentloc := lentloc_app h.lentloc x _ }
  · intro t
    rw [get_app_cell]
    split
    · exact relTmp_setCell (h.tmp t)
    · exact h.tmp t
  · intro b ver fz cs hbb
    obtain ⟨cs', h1, h2⟩ := hb b ver fz cs hbb
    have := h.box b ver fz cs' h1
    rwa [h2] at this
  · intro y c hy
    rw [envCell_app_cell] at hy
    split at hy
    · rename_i hh
      injection hy with hy
      subst hy
      obtain ⟨rfl, hs⟩ := hh
      obtain ⟨c', hc'⟩ := Option.isSome_iff_exists.1 hs
      exact ⟨trivial, (h.cell y c' hc').2.1, by simp [refs]⟩
    · exact h.cell y c hy
  · intro y e t ver l hy
    rcases hc y _ hy with hh | hh
    · cases hh
    · obtain ⟨h1, h2, h3⟩ := h.own y e t ver l hh
      refine ⟨h1, h2, fun g hg => ?_⟩
      obtain ⟨a1, a2, a3⟩ := h3 g hg
      refine ⟨a1, fun b bv fz cs hbb => ?_, fun z e' t' v' l' hz hzg => ?_⟩
      · obtain ⟨cs', h1, _⟩ := hb b bv fz cs hbb
        exact a2 b bv fz cs' h1
      · rcases hc z _ hz with hh | hh
        · cases hh
        · exact a3 z e' t' v' l' hh hzg
  · intro b b' bv bv' fz fz' cs cs' h1 h2
    obtain ⟨cs1, h1, _⟩ := hb b bv fz cs h1
    obtain ⟨cs2, h2, _⟩ := hb b' bv' fz' cs' h2
    exact h.inj b b' bv bv' fz fz' cs1 cs2 h1 h2
theorem Core.kill_free (h : Core A X γ Fr env a w) {x : Loc} {e : TypeId} {t : Ty} {ver : Nat} {l : List t.den} (hx : envCell env x = some (.own e t ver l)) (hnl : x.s.isLent = false) {g : Nat} (hg : (γ.φ x).ownBlock = some g) :
    Free A γ (Upd.app env (.cell x .undef)) g := by
  obtain ⟨a1, a2, a3⟩ := (h.own x e t ver l hx).2.2 g hg
  refine ⟨h.fresh x e t ver l hx hnl g hg, a1, fun b bv fz cs hb => ?_, fun y e' t' v' l' hy hyg => ?_⟩
  · rw [get_app_cell] at hb
    split at hb
    · obtain ⟨cs', hb', _⟩ := box_setCell hb
      exact a2 b bv fz cs' hb'
    · exact a2 b bv fz cs hb
  · rw [envCell_app_cell] at hy
    split at hy
    · injection hy with hy; cases hy
    · rename_i hne
      have := a3 y e' t' v' l' hy hyg
      subst this
      exact hne ⟨rfl, by rw [hx]; rfl⟩
theorem Free.kill {g : Nat} (h : Free A γ env g) (x : Loc) : Free A γ (Upd.app env (.cell x .undef)) g := by
  refine ⟨h.1, h.2.1, fun b bv fz cs hb => ?_, fun y e t v l hy => ?_⟩
  · rw [get_app_cell] at hb
    split at hb
    · obtain ⟨cs', hb', _⟩ := box_setCell hb
      exact h.2.2.1 b bv fz cs' hb'
    · exact h.2.2.1 b bv fz cs hb
  · rw [envCell_app_cell] at hy
    split at hy
    · injection hy with hy; cases hy
    · exact h.2.2.2 y e t v l hy
theorem Core.freeze (h : Core A X γ Fr env a w) {x : Loc} {e : TypeId} {t : Ty} {ver : Nat} {l : List t.den} (hx : envCell env x = some (.own e t ver l)) (hnl : x.s.isLent = false) :
    Core A X { γ with Z := fun g => γ.Z g ∨ (γ.φ x).ownBlock = some g } Fr (Upd.app env (.cell x (.imm t l none))) a w := by
  have hb : ∀ b bv fz cs, (Upd.app env (.cell x (.imm t l none))).get (.box b) = .box bv fz cs → ∃ cs', env.get (.box b) = .box bv fz cs' ∧ cs'.length = cs.length := by
    intro b ver fz cs hb
    rw [get_app_cell] at hb
    split at hb
    · exact box_setCell hb
    · exact ⟨cs, hb, rfl⟩
  have hc : ∀ y c, envCell (Upd.app env (.cell x (.imm t l none))) y = some c → (y = x ∧ c = .imm t l none) ∨ (y ≠ x ∧ envCell env y = some c) := by
    intro y c hy
    rw [envCell_app_cell] at hy
    split at hy
    · rename_i hh; injection hy with hy; exact .inl ⟨hh.1, hy.symm⟩
    · rename_i hh
      exact .inr ⟨fun e => hh ⟨e, by rw [hx]; rfl⟩, hy⟩
  have hox := h.own x e t ver l hx
  have hcx := h.cell x _ hx
  refine { frame := h.frame, glob := h.glob, zone := ?_, zone0 := ⟨fun g hg => .inl (h.zone0.1 g hg), fun g hg => hg.elim (h.zone0.2 g) fun hg => .inr (h.fresh x e t ver l hx hnl g hg)⟩, defers := h.defers, size := h.size, ntl := h.ntl, baseB := h.baseB, tmp := ?_, box := ?_, cell := ?_, own := ?_, inj := ?_, fresh := fun y e' t' ver' l' hy => ?_, lent := h.lent, lentloc := lentloc_app h.lentloc x _ }
  · intro g hg
    rcases hg with hg | hg
    · exact h.zone g hg
    · exact (OwnV.lt hcx.1 g hg).2
  · intro t'
    rw [get_app_cell]
    split
    · exact relTmp_setCell (h.tmp t')
    · exact h.tmp t'
  · intro b ver fz cs hbb
    obtain ⟨cs', h1, h2⟩ := hb b ver fz cs hbb
    obtain ⟨b1, b2, b3, b4⟩ := h.box b ver fz cs' h1
    rw [h2] at b1
    refine ⟨b1, b2, ⟨fun hf => .inl (b3.1 hf), fun hz => ?_⟩, b4⟩
    rcases hz with hz | hz
    · exact b3.2 hz
    · exact absurd rfl ((hox.2.2 _ hz).2.1 b ver fz cs' h1)
  · intro y c hy
    rcases hc y c hy with ⟨rfl, rfl⟩ | ⟨hne, hy⟩
    · exact ⟨⟨OwnV.reads hcx.1 _ (fun g hg => .inl hg) (fun g hg => .inr hg), by simp⟩, hcx.2.1, by simp [refs]⟩
    · obtain ⟨h1, h2, h3⟩ := h.cell y c hy
      exact ⟨h1.move (fun _ _ _ => rfl) (fun _ _ _ => rfl) (fun _ hz => .inl hz) (fun _ _ => rfl) (Nat.le_refl _) (fun _ _ _ => rfl), h2, h3⟩
  · intro y e' t' ver' l' hy
    rcases hc y _ hy with ⟨_, hh⟩ | ⟨hne, hy⟩
    · cases hh
    · obtain ⟨h1, h2, h3⟩ := h.own y e' t' ver' l' hy
      refine ⟨h1, h2, fun g hg => ?_⟩
      obtain ⟨a1, a2, a3⟩ := h3 g hg
      refine ⟨fun hz => ?_, fun b bv fz cs hbb => ?_, fun z e1 t1 v1 l1 hz hzg => ?_⟩
      · rcases hz with hz | hz
        · exact a1 hz
        · exact hne (a3 x e t ver l hx hz).symm
      · obtain ⟨cs', h1, _⟩ := hb b bv fz cs hbb
        exact a2 b bv fz cs' h1
      · rcases hc z _ hz with ⟨_, hh⟩ | ⟨_, hh⟩
        · cases hh
        · exact a3 z e1 t1 v1 l1 hh hzg
  · intro b b' bv bv' fz fz' cs cs' h1 h2
    obtain ⟨cs1, h1, _⟩ := hb b bv fz cs h1
    obtain ⟨cs2, h2, _⟩ := hb b' bv' fz' cs' h2
    exact h.inj b b' bv bv' fz fz' cs1 cs2 h1 h2
  · rcases hc y _ hy with ⟨_, hh⟩ | ⟨_, hh⟩
    · cases hh
    · exact h.fresh y _ _ _ _ hh
theorem Core.flat' (h : Core A X γ Fr env a w) (x : Loc) {c c' : Cell} (hx : envCell env x = some c) (hr : ∀ r, refs c' = some r → refs c = some r) (hno : ∀ e t v l, c' ≠ .own e t v l) (hc : RelCell A γ w c (γ.φ x) → RelCell A γ w c' (γ.φ x)) :
    Core A X γ Fr (Upd.app env (.cell x c')) a w := by
  have hb : ∀ b bv fz cs, (Upd.app env (.cell x c')).get (.box b) = .box bv fz cs → ∃ cs', env.get (.box b) = .box bv fz cs' ∧ cs'.length = cs.length := by
    intro b ver fz cs hb
    rw [get_app_cell] at hb
    split at hb
    · exact box_setCell hb
    · exact ⟨cs, hb, rfl⟩
  have hc2 : ∀ y c2, envCell (Upd.app env (.cell x c')) y = some c2 → (y = x ∧ c2 = c') ∨ envCell env y = some c2 := by
    intro y c2 hy
    rw [envCell_app_cell] at hy
    split at hy
    · rename_i hh; injection hy with hy; exact .inl ⟨hh.1, hy.symm⟩
    · exact .inr hy
  have ho : ∀ y e t v l, envCell (Upd.app env (.cell x c')) y = some (.own e t v l) → envCell env y = some (.own e t v l) := by
    intro y e t v l hy
    rcases hc2 y _ hy with ⟨_, hh⟩ | hh
    · exact absurd hh.symm (hno _ _ _ _)
    · exact hh
  refine { frame := h.frame, glob := h.glob, zone := h.zone, zone0 := h.zone0, defers := h.defers, size := h.size, ntl := h.ntl, baseB := h.baseB, tmp := ?_, box := ?_, cell := ?_, own := ?_, inj := ?_, fresh := fun y e t ver l hy => h.fresh y e t ver l (ho y e t ver l hy), lent := h.lent, lentloc := lentloc_app h.lentloc x _ }
  · intro t
    rw [get_app_cell]
    split
    · exact relTmp_setCell (h.tmp t)
    · exact h.tmp t
  · intro b ver fz cs hbb
    obtain ⟨cs', h1, h2⟩ := hb b ver fz cs hbb
    have := h.box b ver fz cs' h1
    rwa [h2] at this
  · intro y c2 hy
    rcases hc2 y c2 hy with ⟨rfl, rfl⟩ | hy
    · obtain ⟨k1, k2, k3⟩ := h.cell _ c hx
      exact ⟨hc k1, k2, fun r hh => k3 r (hr r hh)⟩
    · exact h.cell y c2 hy
  · intro y e t ver l hy
    obtain ⟨h1, h2, h3⟩ := h.own y e t ver l (ho y _ _ _ _ hy)
    refine ⟨h1, h2, fun g hg => ?_⟩
    obtain ⟨a1, a2, a3⟩ := h3 g hg
    refine ⟨a1, fun b bv fz cs hbb => ?_, fun z e' t' v' l' hz hzg => a3 z e' t' v' l' (ho z _ _ _ _ hz) hzg⟩
    obtain ⟨cs', h1, _⟩ := hb b bv fz cs hbb
    exact a2 b bv fz cs' h1
  · intro b b' bv bv' fz fz' cs cs' h1 h2
    obtain ⟨cs1, h1, _⟩ := hb b bv fz cs h1
    obtain ⟨cs2, h2, _⟩ := hb b' bv' fz' cs' h2
    exact h.inj b b' bv bv' fz fz' cs1 cs2 h1 h2
theorem Core.flat (h : Core A X γ Fr env a w) (x : Loc) {c c' : Cell} (hx : envCell env x = some c) (hr : refs c' = refs c) (hno : ∀ e t v l, c' ≠ .own e t v l) (hc : RelCell A γ w c (γ.φ x) → RelCell A γ w c' (γ.φ x)) :
    Core A X γ Fr (Upd.app env (.cell x c')) a w := h.flat' x hx (fun r hh => by rw [← hr]; exact hh) hno hc
theorem Core.mine (h : Core A X γ Fr env a w) {x : Loc} {e : TypeId} {t : Ty} {ver : Nat} {l : List t.den} (hx : envCell env x = some (.own e t ver l)) {g : Nat} (hg : (γ.φ x).ownBlock = some g) : A.w0.heap.size ≤ g ∨ A.L g := by
  cases hs : x.s.isLent with
  | false => exact .inl (h.fresh x e t ver l hx hs g hg)
  | true =>
    obtain ⟨s, c, j⟩ := x
    cases s <;> simp [Slot.isLent] at hs
    rename_i k
    obtain ⟨rfl, rfl⟩ := h.lentloc k c j _ hx
    rw [h.lent k] at hg
    exact .inr (.inl ⟨k, hg⟩)
theorem Core.boxMine (h : Core A X γ Fr env a w) {b bv : Nat} {fz : Bool} {cs : List Cell} (hb : env.get (.box b) = .box bv fz cs) : A.w0.heap.size ≤ γ.σ b bv ∨ A.L (γ.σ b bv) := by
  obtain ⟨_, ⟨h1, h2⟩, _⟩ := h.box b bv fz cs hb
  rcases Nat.lt_or_ge b lentBase with hlt | hge
  · exact .inl (h1 hlt)
  · exact .inr (.inr ⟨_, h2 hge⟩)
end
end Go.VI
namespace Go.VI
open Go.RowKit
theorem put_tmps (a : Act) (d : Nat) (v : Value) : (a.put (some d) v).tmps = a.tmps.setIfInBounds d v := rfl
theorem envCell_cons (env : Env) (s : Slot) (av : AV) (x : Loc) : envCell ((s, av) :: env) x = if s = x.s then av.cell? x.c x.j else envCell env x := by
  simp only [envCell, Env.get_cons]
  split <;> rfl
def FreeBut (A : Fix) (γ : Gh) (env : Env) (s : Slot) (g : Nat) : Prop :=
  A.w0.heap.size ≤ g ∧ ¬ γ.Z g ∧ (∀ b bv fz cs, env.get (.box b) = .box bv fz cs → γ.σ b bv ≠ g) ∧ ∀ y e t ver l, y.s ≠ s → envCell env y = some (.own e t ver l) → (γ.φ y).ownBlock ≠ some g
theorem Free.but {A : Fix} {γ : Gh} {env : Env} {g : Nat} (h : Free A γ env g) (s : Slot) : FreeBut A γ env s g := ⟨h.1, h.2.1, h.2.2.1, fun y e t v l _ => h.2.2.2 y e t v l⟩
def setφ (γ : Gh) (s : Slot) (f : Nat → Nat → Value) : Loc → Value := fun x => if x.s = s then f x.c x.j else γ.φ x
def setψ (γ : Gh) (s : Slot) (vn : Nat) (f : Nat → Nat → Value) : Loc → Nat → Value := fun x v => if v = vn ∧ x.s = s then f x.c x.j else γ.ψ x v
section
variable {A : Fix} {X : Ctx} {γ : Gh} {Fr Fr' : Nat → Prop} {env : Env} {a : Act} {w w' : World}
theorem Core.setTmpG (h : Core A X γ Fr env a w) {d : Nat} (hd : d < X.ntmps) (av : AV) (f : Nat → Nat → Value) (v : Value) (ψ' : Loc → Nat → Value)
    (hFr : ∀ v, Fr' v → Fr v) (hψ : ∀ r, ¬ Fr r → ∀ y, ψ' y r = γ.ψ y r)
    (hshape : ∀ γ' : Gh, (∀ i j, γ'.φ ⟨.tmp d, i, j⟩ = f i j) → RelTmp γ' d av v)
    (hcell : ∀ i j c, av.cell? i j = some c → RelCell A { γ with ψ := ψ' } w c (f i j) ∧ (f i j).oneCell' = true ∧ ∀ r, refs c = some r → ¬ Fr' r)
    (hown : ∀ i j e t ver l, av.cell? i j = some (.own e t ver l) → ψ' ⟨.tmp d, i, j⟩ ver = f i j ∧ ¬ Fr' ver ∧ ∀ g, (f i j).ownBlock = some g → FreeBut A γ env (.tmp d) g ∧
      ∀ i' j' e' t' ver' l', av.cell? i' j' = some (.own e' t' ver' l') → (f i' j').ownBlock = some g → i' = i ∧ j' = j) :
    Core A X { γ with ψ := ψ', φ := setφ γ (.tmp d) f } Fr' ((.tmp d, av) :: env) (a.put (some d) v) w := by
  have hmove : ∀ {c u}, RelCell A γ w c u → (∀ r, refs c = some r → ¬ Fr r) → RelCell A { γ with ψ := ψ', φ := setφ γ (.tmp d) f } w c u := fun hc hr =>
    hc.move (fun r h1 y => hψ r (hr r h1) y) (fun _ _ _ => rfl) (fun _ hz => hz) (fun _ _ => rfl) (Nat.le_refl _) (fun _ _ _ => rfl)
  have hmove' : ∀ {c u}, RelCell A { γ with ψ := ψ' } w c u → RelCell A { γ with ψ := ψ', φ := setφ γ (.tmp d) f } w c u := fun hc =>
    hc.move (fun r h1 y => rfl) (fun _ _ _ => rfl) (fun _ hz => hz) (fun _ _ => rfl) (Nat.le_refl _) (fun _ _ _ => rfl)
  have hbx : ∀ b bv fz cs, Env.get ((.tmp d, av) :: env) (.box b) = .box bv fz cs → env.get (.box b) = .box bv fz cs := fun b bv fz cs hb => by
    rwa [Env.get_cons_ne _ _ (by simp)] at hb
  refine { frame := h.frame, glob := h.glob, zone := h.zone, zone0 := h.zone0, defers := h.defers, size := by simp [put_tmps, h.size], ntl := h.ntl, baseB := h.baseB, tmp := ?_, box := ?_, cell := ?_, own := ?_, inj := ?_, fresh := ?_, lent := fun k => by simp [setφ, h.lent k], lentloc := ?_ }
  · intro t
    by_cases ht : d = t
    · subst ht
      rw [Env.get_cons_self, put_tmps]
      have : (a.tmps.setIfInBounds d v).getD d undef = v := by
        simp [Array.getD_eq_getD_getElem?, h.size, hd]
      rw [this]
      exact hshape _ (fun i j => by simp [setφ])
    · rw [Env.get_cons_ne _ _ (by simpa using ht), put_tmps]
      have : (a.tmps.setIfInBounds d v).getD t undef = a.tmps.getD t undef := by
        simp [Array.getD_eq_getD_getElem?, ht]
      rw [this]
      have hφ : ∀ i j, setφ γ (.tmp d) f ⟨.tmp t, i, j⟩ = γ.φ ⟨.tmp t, i, j⟩ := fun i j => by simp [setφ, Ne.symm ht]
      have hcv : ∀ i n, cellVals { γ with ψ := ψ', φ := setφ γ (.tmp d) f } (.tmp t) i n = cellVals γ (.tmp t) i n := fun i n => by simp [cellVals, hφ]
      have := h.tmp t
      revert this
      cases env.get (.tmp t) with
      | val g cs => simp only [RelTmp, hcv]; exact id
      | tup l => simp only [RelTmp, tupVals, hcv]; exact id
      | skip => exact id
      | undef => exact id
      | box _ _ _ => exact id
      | num _ => exact id
  · intro b ver fz cs hb
    obtain ⟨h1, h2, h3, h4⟩ := h.box b ver fz cs (hbx _ _ _ _ hb)
    refine ⟨?_, h2, h3, fun hh => h4 (hFr _ hh)⟩
    have hcv : cellVals { γ with ψ := ψ', φ := setφ γ (.tmp d) f } (.box b) 0 cs.length = cellVals γ (.box b) 0 cs.length := by simp [cellVals, setφ]
    rw [hcv]; exact h1
  · intro x c hc
    rw [envCell_cons] at hc
    split at hc
    · rename_i hs
      obtain ⟨h1, h2, h3⟩ := hcell _ _ _ hc
      have hφx : setφ γ (.tmp d) f x = f x.c x.j := by simp [setφ, hs]
      exact ⟨by show RelCell _ _ _ _ (setφ γ (.tmp d) f x); rw [hφx]; exact hmove' h1, by show (setφ γ (.tmp d) f x).oneCell' = true; rw [hφx]; exact h2, h3⟩
    · rename_i hs
      obtain ⟨h1, h2, h3⟩ := h.cell x c hc
      have hφx : setφ γ (.tmp d) f x = γ.φ x := by simp [setφ, Ne.symm hs]
      exact ⟨by show RelCell _ _ _ _ (setφ γ (.tmp d) f x); rw [hφx]; exact hmove h1 h3, by show (setφ γ (.tmp d) f x).oneCell' = true; rw [hφx]; exact h2, fun r hr hh => h3 r hr (hFr _ hh)⟩
  · intro x e t ver l hc
    rw [envCell_cons] at hc
    split at hc
    · rename_i hs
      obtain ⟨h1, h2, h3⟩ := hown _ _ _ _ _ _ hc
      have hφx : setφ γ (.tmp d) f x = f x.c x.j := by simp [setφ, hs]
      have hx : x = ⟨.tmp d, x.c, x.j⟩ := by cases x; simp only [Loc.mk.injEq] at hs ⊢; exact ⟨hs.symm, trivial, trivial⟩
      refine ⟨?_, h2, ?_⟩
      · show ψ' x ver = setφ γ (.tmp d) f x
        rw [hφx, ← h1, ← hx]
      · intro g hg
        have hg' : (f x.c x.j).ownBlock = some g := by rw [← hφx]; exact hg
        obtain ⟨hfree, huniq⟩ := h3 g hg'
        refine ⟨hfree.2.1, fun b bv fz cs hb => hfree.2.2.1 b bv fz cs (hbx _ _ _ _ hb), fun y e' t' v' l' hy hyg => ?_⟩
        rw [envCell_cons] at hy
        split at hy
        · rename_i hs'
          have hφy : setφ γ (.tmp d) f y = f y.c y.j := by simp [setφ, hs']
          have hyg' : (f y.c y.j).ownBlock = some g := by rw [← hφy]; exact hyg
          obtain ⟨e1, e2⟩ := huniq _ _ _ _ _ _ hy hyg'
          cases x; cases y
          simp only at hs hs' e1 e2
          subst hs; subst hs'; subst e1; subst e2; rfl
        · rename_i hs'
          have hφy : setφ γ (.tmp d) f y = γ.φ y := by simp [setφ, Ne.symm hs']
          have hyg' : (γ.φ y).ownBlock = some g := by rw [← hφy]; exact hyg
          exact absurd hyg' (hfree.2.2.2 y _ _ _ _ (Ne.symm hs') hy)
    · rename_i hs
      obtain ⟨h1, h2, h3⟩ := h.own x e t ver l hc
      have hφx : setφ γ (.tmp d) f x = γ.φ x := by simp [setφ, Ne.symm hs]
      refine ⟨?_, fun hh => h2 (hFr _ hh), ?_⟩
      · show ψ' x ver = setφ γ (.tmp d) f x
        rw [hφx, hψ _ h2]; exact h1
      · intro g hg
        have hg' : (γ.φ x).ownBlock = some g := by rw [← hφx]; exact hg
        obtain ⟨a1, a2, a3⟩ := h3 g hg'
        refine ⟨a1, fun b bv fz cs hb => a2 b bv fz cs (hbx _ _ _ _ hb), fun y e' t' v' l' hy hyg => ?_⟩
        rw [envCell_cons] at hy
        split at hy
        · rename_i hs'
          have hφy : setφ γ (.tmp d) f y = f y.c y.j := by simp [setφ, hs']
          have hyg' : (f y.c y.j).ownBlock = some g := by rw [← hφy]; exact hyg
          exact absurd hg' (((hown _ _ _ _ _ _ hy).2.2 g hyg').1.2.2.2 x _ _ _ _ (Ne.symm hs) hc)
        · rename_i hs'
          have hφy : setφ γ (.tmp d) f y = γ.φ y := by simp [setφ, Ne.symm hs']
          have hyg' : (γ.φ y).ownBlock = some g := by rw [← hφy]; exact hyg
          exact a3 y _ _ _ _ hy hyg'
  · intro b b' bv bv' fz fz' cs cs' h1 h2
    exact h.inj b b' bv bv' fz fz' cs cs' (hbx _ _ _ _ h1) (hbx _ _ _ _ h2)
  · intro x e t ver l hc hnl g hg
    rw [envCell_cons] at hc
    split at hc
    · rename_i hs
      have hφx : setφ γ (.tmp d) f x = f x.c x.j := by simp [setφ, hs]
      have hg' : (f x.c x.j).ownBlock = some g := by rw [← hφx]; exact hg
      exact ((hown _ _ _ _ _ _ hc).2.2 g hg').1.1
    · rename_i hs
      have hφx : setφ γ (.tmp d) f x = γ.φ x := by simp [setφ, Ne.symm hs]
      exact h.fresh x e t ver l hc hnl g (by rw [← hφx]; exact hg)
  · intro k c j cl hc
    rw [envCell_cons, if_neg (by simp)] at hc
    exact h.lentloc k c j cl hc
theorem Core.setBoxG (h : Core A X γ Fr env a w) {d bv g0 : Nat} (cs : List Cell) (f : Nat → Nat → Value) (T : TypeId) (ψ' : Loc → Nat → Value) (σ' : Nat → Nat → Nat)
    (hFr : ∀ v, Fr' v → Fr v) (hψ : ∀ r, ¬ Fr r → ∀ y, ψ' y r = γ.ψ y r) (hσ : ∀ r, ¬ Fr r → ∀ b, σ' b r = γ.σ b r)
    (hg0 : σ' d bv = g0) (hbv : ¬ Fr' bv) (hB : (d < lentBase → A.w0.heap.size ≤ g0) ∧ (lentBase ≤ d → A.lb (d - lentBase) = some g0)) (hz0 : ¬ γ.Z g0)
    (hsep : ∀ b bv' fz cs, b ≠ d → env.get (.box b) = .box bv' fz cs → γ.σ b bv' ≠ g0)
    (hsepo : ∀ y e t ver l, y.s ≠ .box d → envCell env y = some (.own e t ver l) → (γ.φ y).ownBlock ≠ some g0)
    (hgrow : GrownD w w' (some g0)) (hG : A.G w') (hg0' : w'.heap[g0]? = some (.cells ((List.range cs.length).map (f 0)).toArray T (0, 0)))
    (hcell : ∀ j c, cs[j]? = some c → RelCell A { γ with ψ := ψ', σ := σ' } w' c (f 0 j) ∧ (f 0 j).oneCell' = true ∧ ∀ r, refs c = some r → ¬ Fr' r)
    (hown : ∀ j e t ver l, cs[j]? = some (.own e t ver l) → ψ' ⟨.box d, 0, j⟩ ver = f 0 j ∧ ¬ Fr' ver ∧ ∀ g, (f 0 j).ownBlock = some g → FreeBut A γ env (.box d) g ∧ g ≠ g0 ∧
      ∀ j' e' t' ver' l', cs[j']? = some (.own e' t' ver' l') → (f 0 j').ownBlock = some g → j' = j) :
    Core A X { γ with ψ := ψ', σ := σ', φ := setφ γ (.box d) f } Fr' ((.box d, .box bv false cs) :: env) a w' := by
  have hlt : ∀ {g : Nat} {o : Obj}, w.heap[g]? = some o → g < w.heap.size := fun hh => (Array.getElem?_eq_some_iff.1 hh).1
  have hZ : ∀ g, γ.Z g → w'.heap[g]? = w.heap[g]? := fun g hz => hgrow.block g (h.zone g hz) (fun e => by injection e with e; subst e; exact hz0 hz)
  have hmove : ∀ {c u}, RelCell A γ w c u → (∀ r, refs c = some r → ¬ Fr r) → (c.isOwn = true → ∀ g, u.ownBlock = some g → w'.heap[g]? = w.heap[g]?) →
      RelCell A { γ with ψ := ψ', σ := σ', φ := setφ γ (.box d) f } w' c u := fun hc hr ho =>
    hc.move (fun r h1 y => hψ r (hr r h1) y) (fun r h1 b => hσ r (hr r h1) b) (fun _ hz => hz) hZ hgrow.size ho
  have hmove' : ∀ {c u}, RelCell A { γ with ψ := ψ', σ := σ' } w' c u → RelCell A { γ with ψ := ψ', σ := σ', φ := setφ γ (.box d) f } w' c u := fun hc =>
    hc.move (fun r h1 y => rfl) (fun _ _ _ => rfl) (fun _ hz => hz) (fun _ _ => rfl) (Nat.le_refl _) (fun _ _ _ => rfl)
  have hbx : ∀ b bv' fz cs', Env.get ((.box d, .box bv false cs) :: env) (.box b) = .box bv' fz cs' → (b = d ∧ bv' = bv ∧ fz = false ∧ cs' = cs) ∨ (b ≠ d ∧ env.get (.box b) = .box bv' fz cs') := by
    intro b bv' fz cs' hb
    rw [Env.get_cons] at hb
    split at hb
    · rename_i hh
      simp only [Slot.box.injEq] at hh
      simp only [AV.box.injEq] at hb
      exact .inl ⟨hh.symm, hb.1.symm, hb.2.1.symm, hb.2.2.symm⟩
    · rename_i hh
      exact .inr ⟨fun e => hh (by rw [e]), hb⟩
  have hcb : ∀ x c, envCell ((.box d, .box bv false cs) :: env) x = some c → (∃ j, x = ⟨.box d, 0, j⟩ ∧ cs[j]? = some c) ∨ (x.s ≠ .box d ∧ envCell env x = some c) := by
    intro x c hc
    rw [envCell_cons] at hc
    split at hc
    · rename_i hs
      obtain ⟨s, i, j⟩ := x
      simp only at hs hc
      subst hs
      cases i with
      | zero => exact .inl ⟨j, rfl, hc⟩
      | succ i => simp [AV.cell?] at hc
    · rename_i hs
      exact .inr ⟨Ne.symm hs, hc⟩
  have hφd : ∀ j, setφ γ (.box d) f ⟨.box d, 0, j⟩ = f 0 j := fun j => by simp [setφ]
  have hφo : ∀ x : Loc, x.s ≠ .box d → setφ γ (.box d) f x = γ.φ x := fun x hx => by simp [setφ, hx]
  have hσb : ∀ b bv' fz cs', env.get (.box b) = .box bv' fz cs' → σ' b bv' = γ.σ b bv' := fun b bv' fz cs' hb => hσ _ (h.box b bv' fz cs' hb).2.2.2 b
  refine { frame := h.frame.grow hgrow fun g hg => ?_, glob := hG, zone := fun g hz => Nat.lt_of_lt_of_le (h.zone g hz) hgrow.size, zone0 := h.zone0, defers := h.defers, size := h.size, ntl := h.ntl, baseB := h.baseB, tmp := ?_, box := ?_, cell := ?_, own := ?_, inj := ?_, fresh := ?_, lent := fun k => by simp [setφ, h.lent k], lentloc := ?_ }
  · injection hg with hg
    subst hg
    rcases Nat.lt_or_ge d lentBase with hlt' | hge
    · exact .inl (hB.1 hlt')
    · exact .inr (.inr ⟨_, hB.2 hge⟩)
  · intro t
    rw [Env.get_cons_ne _ _ (by simp)]
    have hcv : ∀ i n, cellVals { γ with ψ := ψ', σ := σ', φ := setφ γ (.box d) f } (.tmp t) i n = cellVals γ (.tmp t) i n := fun i n => by simp [cellVals, setφ]
    have := h.tmp t
    revert this
    cases env.get (.tmp t) with
    | val g cs => simp only [RelTmp, hcv]; exact id
    | tup l => simp only [RelTmp, tupVals, hcv]; exact id
    | skip => exact id
    | undef => exact id
    | box _ _ _ => exact id
    | num _ => exact id
  · intro b ver fz cs' hb
    rcases hbx _ _ _ _ hb with ⟨rfl, rfl, rfl, rfl⟩ | ⟨hne, hb⟩
    · refine ⟨⟨T, ?_⟩, by show (_ → _ ≤ σ' b ver) ∧ (_ → _ = some (σ' b ver)); rw [hg0]; exact hB, ⟨fun hf => (by cases hf), fun hz => ?_⟩, hbv⟩
      · show w'.heap[σ' b ver]? = _
        rw [hg0, hg0']
        congr 3
        simp [cellVals, hφd]
      · exact absurd (by simpa [hg0] using hz) hz0
    · obtain ⟨⟨T', h1⟩, h2, h3, h4⟩ := h.box b ver fz cs' hb
      have hs := hσb _ _ _ _ hb
      refine ⟨⟨T', ?_⟩, by show (_ → _ ≤ σ' b ver) ∧ (_ → _ = some (σ' b ver)); rw [hs]; exact h2, by show _ ↔ γ.Z (σ' b ver); rw [hs]; exact h3, fun hh => h4 (hFr _ hh)⟩
      show w'.heap[σ' b ver]? = _
      rw [hs, hgrow.block _ (hlt h1) (fun e => by injection e with e; exact hsep b ver fz cs' hne hb e), h1]
      congr 3
      simp [cellVals, setφ, hne]
  · intro x c hc
    rcases hcb _ _ hc with ⟨j, rfl, hcj⟩ | ⟨hx, hcx⟩
    · obtain ⟨h1, h2, h3⟩ := hcell _ _ hcj
      exact ⟨by show RelCell _ _ _ _ (setφ γ (.box d) f _); rw [hφd]; exact hmove' h1, by show (setφ γ (.box d) f _).oneCell' = true; rw [hφd]; exact h2, h3⟩
    · obtain ⟨h1, h2, h3⟩ := h.cell x c hcx
      have ho : c.isOwn = true → ∀ g, (γ.φ x).ownBlock = some g → w'.heap[g]? = w.heap[g]? := by
        intro ho g hg
        cases c <;> simp [Cell.isOwn] at ho
        exact hgrow.block g (h1.lt g hg).2 (fun e => by injection e with e; subst e; exact hsepo x _ _ _ _ hx hcx hg)
      exact ⟨by show RelCell _ _ _ _ (setφ γ (.box d) f x); rw [hφo x hx]; exact hmove h1 h3 ho, by show (setφ γ (.box d) f x).oneCell' = true; rw [hφo x hx]; exact h2, fun r hr hh => h3 r hr (hFr _ hh)⟩
  · intro x e t ver l hc
    rcases hcb _ _ hc with ⟨j, rfl, hcj⟩ | ⟨hx, hcx⟩
    · obtain ⟨h1, h2, h3⟩ := hown _ _ _ _ _ hcj
      refine ⟨by show ψ' _ ver = setφ γ (.box d) f _; rw [hφd]; exact h1, h2, fun g hg => ?_⟩
      have hg' : (f 0 j).ownBlock = some g := by rw [← hφd]; exact hg
      obtain ⟨hf, hne0, hu⟩ := h3 g hg'
      refine ⟨hf.2.1, fun b bv' fz cs' hb => ?_, fun y e' t' v' l' hy hyg => ?_⟩
      · rcases hbx _ _ _ _ hb with ⟨rfl, rfl, rfl, rfl⟩ | ⟨hne, hb⟩
        · show σ' b bv' ≠ g; rw [hg0]; exact Ne.symm hne0
        · show σ' b bv' ≠ g; rw [hσb _ _ _ _ hb]; exact hf.2.2.1 b bv' fz cs' hb
      · rcases hcb _ _ hy with ⟨j', rfl, hyj⟩ | ⟨hy1, hy⟩
        · have hyg' : (f 0 j').ownBlock = some g := by rw [← hφd]; exact hyg
          rw [hu _ _ _ _ _ hyj hyg']
        · have hyg' : (γ.φ y).ownBlock = some g := by rw [← hφo y hy1]; exact hyg
          exact absurd hyg' (hf.2.2.2 y _ _ _ _ hy1 hy)
    · obtain ⟨h1, h2, h3⟩ := h.own x e t ver l hcx
      refine ⟨by show ψ' x ver = setφ γ (.box d) f x; rw [hφo x hx, hψ _ h2]; exact h1, fun hh => h2 (hFr _ hh), fun g hg => ?_⟩
      have hg' : (γ.φ x).ownBlock = some g := by rw [← hφo x hx]; exact hg
      obtain ⟨a1, a2, a3⟩ := h3 g hg'
      refine ⟨a1, fun b bv' fz cs' hb => ?_, fun y e' t' v' l' hy hyg => ?_⟩
      · rcases hbx _ _ _ _ hb with ⟨rfl, rfl, rfl, rfl⟩ | ⟨hne, hb⟩
        · show σ' b bv' ≠ g; rw [hg0]; exact fun e => hsepo x _ _ _ _ hx hcx (by rw [e]; exact hg')
        · show σ' b bv' ≠ g; rw [hσb _ _ _ _ hb]; exact a2 b bv' fz cs' hb
      · rcases hcb _ _ hy with ⟨j', rfl, hyj⟩ | ⟨hy1, hy⟩
        · have hyg' : (f 0 j').ownBlock = some g := by rw [← hφd]; exact hyg
          exact absurd hg' (((hown _ _ _ _ _ hyj).2.2 g hyg').1.2.2.2 x _ _ _ _ hx hcx)
        · have hyg' : (γ.φ y).ownBlock = some g := by rw [← hφo y hy1]; exact hyg
          exact a3 y _ _ _ _ hy hyg'
  · intro b b' bv1 bv' fz fz' cs1 cs' h1 h2 he
    rcases hbx _ _ _ _ h1 with ⟨rfl, rfl, rfl, rfl⟩ | ⟨hne, h1x⟩ <;> rcases hbx _ _ _ _ h2 with ⟨rfl, rfl, rfl, rfl⟩ | ⟨hne', h2x⟩
    · rfl
    · exfalso
      have he' : σ' b bv1 = σ' b' bv' := he
      rw [hg0, hσb _ _ _ _ h2x] at he'
      exact hsep b' bv' fz' cs' hne' h2x he'.symm
    · exfalso
      have he' : σ' b bv1 = σ' b' bv' := he
      rw [hg0, hσb _ _ _ _ h1x] at he'
      exact hsep b bv1 fz cs1 hne h1x he'
    · have he' : σ' b bv1 = σ' b' bv' := he
      rw [hσb _ _ _ _ h1x, hσb _ _ _ _ h2x] at he'
      exact h.inj b b' bv1 bv' fz fz' cs1 cs' h1x h2x he'
  · intro x e t ver l hc hnl g hg
    rcases hcb _ _ hc with ⟨j, rfl, hcj⟩ | ⟨hx, hcx⟩
    · have hg' : (f 0 j).ownBlock = some g := by rw [← hφd]; exact hg
      exact ((hown _ _ _ _ _ hcj).2.2 g hg').1.1
    · exact h.fresh x e t ver l hcx hnl g (by rw [← hφo x hx]; exact hg)
  · intro k c j cl hc
    rcases hcb _ _ hc with ⟨j', hx, _⟩ | ⟨_, hcx⟩
    · simp at hx
    · exact h.lentloc k c j cl hcx
theorem Core.setOwn (h : Core A X γ Fr env a w) {x : Loc} {e : TypeId} {t : Ty} {ver : Nat} {l l' : List t.den} (hx : envCell env x = some (.own e t ver l))
    {row : Option Nat} (hgrow : GrownD w w' row) (hrow : ∀ g, row = some g → (γ.φ x).ownBlock = some g) (hG : A.G w') (ho : OwnV γ.Z w' A.B e t (γ.φ x) l') :
    Core A X γ Fr (Upd.app env (.cell x (.own e t ver l'))) a w' := by
  have hlt : ∀ {g : Nat} {o : Obj}, w.heap[g]? = some o → g < w.heap.size := fun hh => (Array.getElem?_eq_some_iff.1 hh).1
  have hox := h.own x e t ver l hx
  have hcx := h.cell x _ hx
  have hrz : ∀ g, row = some g → ¬ γ.Z g := fun g hg => (hox.2.2 g (hrow g hg)).1
  have hZ : ∀ g, γ.Z g → w'.heap[g]? = w.heap[g]? := fun g hz => hgrow.block g (h.zone g hz) (fun e => hrz g e.symm hz)
  have hb : ∀ b bv fz cs, (Upd.app env (.cell x (.own e t ver l'))).get (.box b) = .box bv fz cs → ∃ cs', env.get (.box b) = .box bv fz cs' ∧ cs'.length = cs.length := by
    intro b ver fz cs hb
    rw [get_app_cell] at hb
    split at hb
    · exact box_setCell hb
    · exact ⟨cs, hb, rfl⟩
  have hc : ∀ y c, envCell (Upd.app env (.cell x (.own e t ver l'))) y = some c → (y = x ∧ c = .own e t ver l') ∨ (y ≠ x ∧ envCell env y = some c) := by
    intro y c hy
    rw [envCell_app_cell] at hy
    split at hy
    · rename_i hh; injection hy with hy; exact .inl ⟨hh.1, hy.symm⟩
    · rename_i hh
      exact .inr ⟨fun e => hh ⟨e, by rw [hx]; rfl⟩, hy⟩
  refine { frame := h.frame.grow hgrow fun g hg => h.mine hx (hrow g hg), glob := hG, zone := fun g hz => Nat.lt_of_lt_of_le (h.zone g hz) hgrow.size, zone0 := h.zone0, defers := h.defers, size := h.size, ntl := h.ntl, baseB := h.baseB, tmp := ?_, box := ?_, cell := ?_, own := ?_, inj := ?_, fresh := fun y e' t' ver' l1 hy => ?_, lent := h.lent, lentloc := lentloc_app h.lentloc x _ }
  · intro t'
    rw [get_app_cell]
    split
    · exact relTmp_setCell (h.tmp t')
    · exact h.tmp t'
  · intro b bver fz cs hbb
    obtain ⟨cs', h1, h2⟩ := hb b bver fz cs hbb
    obtain ⟨⟨T, b1⟩, b2⟩ := h.box b bver fz cs' h1
    rw [h2] at b1
    refine ⟨⟨T, ?_⟩, b2⟩
    rw [hgrow.block _ (hlt b1) (fun e => (hox.2.2 _ (hrow _ e.symm)).2.1 b bver fz cs' h1 rfl)]
    exact b1
  · intro y c hy
    rcases hc y c hy with ⟨rfl, rfl⟩ | ⟨hne, hy⟩
    · exact ⟨ho, hcx.2.1, by simp [refs]⟩
    · obtain ⟨h1, h2, h3⟩ := h.cell y c hy
      refine ⟨h1.move (fun _ _ _ => rfl) (fun _ _ _ => rfl) (fun _ hz => hz) hZ hgrow.size (fun hown g hg => ?_), h2, h3⟩
      cases c <;> simp [Cell.isOwn] at hown
      exact hgrow.block g (h1.lt g hg).2 (fun e => hne ((hox.2.2 g (hrow g e.symm)).2.2 y _ _ _ _ hy hg))
  · intro y e' t' ver' l1 hy
    rcases hc y _ hy with ⟨rfl, hh⟩ | ⟨hne, hy⟩
    · injection hh with e1 e2 e3 e4
      subst e1; subst e2; subst e3
      refine ⟨hox.1, hox.2.1, fun g hg => ?_⟩
      obtain ⟨a1, a2, a3⟩ := hox.2.2 g hg
      refine ⟨a1, fun b bv fz cs hbb => ?_, fun z e1 t1 v1 l1 hz hzg => ?_⟩
      · obtain ⟨cs', h1, _⟩ := hb b bv fz cs hbb
        exact a2 b bv fz cs' h1
      · rcases hc z _ hz with ⟨hh, _⟩ | ⟨_, hh⟩
        · exact hh
        · exact a3 z e1 t1 v1 l1 hh hzg
    · obtain ⟨h1, h2, h3⟩ := h.own y e' t' ver' l1 hy
      refine ⟨h1, h2, fun g hg => ?_⟩
      obtain ⟨a1, a2, a3⟩ := h3 g hg
      refine ⟨a1, fun b bv fz cs hbb => ?_, fun z e1 t1 v1 l2 hz hzg => ?_⟩
      · obtain ⟨cs', h1, _⟩ := hb b bv fz cs hbb
        exact a2 b bv fz cs' h1
      · rcases hc z _ hz with ⟨hh, _⟩ | ⟨_, hh⟩
        · subst hh
          exact a3 _ _ _ _ _ hx hzg
        · exact a3 z e1 t1 v1 l2 hh hzg
  · intro b b' bv bv' fz fz' cs cs' h1 h2
    obtain ⟨cs1, h1, _⟩ := hb b bv fz cs h1
    obtain ⟨cs2, h2, _⟩ := hb b' bv' fz' cs' h2
    exact h.inj b b' bv bv' fz fz' cs1 cs2 h1 h2
  · rcases hc y _ hy with ⟨rfl, hh⟩ | ⟨_, hh⟩
    · exact h.fresh _ _ _ _ _ hx
    · exact h.fresh y _ _ _ _ hh
end
end Go.VI
namespace Go.VI
open Go.RowKit
theorem Rd.eval_bind {α β : Type} (env : Slot → AV) : ∀ (m : Rd α) (f : α → Rd β) (lg : List Slot), (m.bind f).eval env lg = (m.eval env lg).bind fun p => (f p.1).eval env p.2
  | .pure a, f, lg => rfl
  | .opt γ o k, f, lg => by
    simp only [Rd.bind, Rd.eval]
    cases o with
    | none => rfl
    | some x => simp only [Option.bind_some]; exact Rd.eval_bind env (k x) f lg
  | .get s k, f, lg => Rd.eval_bind env (k (env s)) f (s :: lg)
  | .guard b k, f, lg => by
    simp only [Rd.bind, Rd.eval]
    cases b
    · rfl
    · exact Rd.eval_bind env k f lg
  | .br b k1 k2, f, lg => by
    simp only [Rd.bind, Rd.eval]
    cases b
    · exact Rd.eval_bind env k2 f lg
    · exact Rd.eval_bind env k1 f lg
  | .fail, f, lg => rfl
theorem Rd.eval_ofOpt {α : Type} (env : Slot → AV) (o : Option α) (lg : List Slot) : (Rd.ofOpt o).eval env lg = o.map fun a => (a, lg) := by
  cases o <;> rfl
theorem Rd.cps_some {α ρ : Type} (env : Slot → AV) : ∀ (m : Rd α) (lg : List Slot) (K : α → List Slot → Option ρ) (r : ρ), m.cps env lg K = some r →
    ∃ x lg', m.eval env lg = some (x, lg') ∧ K x lg' = some r
  | .pure a, lg, K, r, h => ⟨a, lg, rfl, h⟩
  | .opt γ o k, lg, K, r, h => by
    simp only [Rd.cps, Option.bind_eq_some_iff] at h
    obtain ⟨x, rfl, h⟩ := h
    exact Rd.cps_some env (k x) lg K r h
  | .get s k, lg, K, r, h => Rd.cps_some env (k (env s)) (s :: lg) K r h
  | .guard b k, lg, K, r, h => by
    simp only [Rd.cps] at h
    cases b
    · cases h
    · exact Rd.cps_some env k lg K r h
  | .br b k1 k2, lg, K, r, h => by
    simp only [Rd.cps] at h
    cases b
    · exact Rd.cps_some env k2 lg K r h
    · exact Rd.cps_some env k1 lg K r h
  | .fail, lg, K, r, h => by cases h
def cellV : Cell → Value
  | .int k n => .int k n
  | .bool b => .bool b
  | .str s => .string ⟨s.toArray⟩
  | .nil _ _ => .slice none 0 0
  | _ => undef
def zcell : Cell → Bool
  | .int .. | .bool .. | .str .. | .nil .. => true
  | _ => false
def zmatch : Ty → List Cell → Option (List Cell)
  | .int k, .int k' n :: r => if k = k' ∧ n = 0 then some r else none
  | .bool, .bool false :: r => some r
  | .str, .str [] :: r => some r
  | .unit, r => some r
  | .pair a b, r => (zmatch a r).bind (zmatch b)
  | .sl _, .nil _ _ :: r => some r
  | _, _ => none
theorem zmatch_rep (Z : Nat → Prop) (w : World) : ∀ (t : Ty) (cs r : List Cell), zmatch t cs = some r → ∃ c1, cs = c1 ++ r ∧ RepI Z w t t.dflt (c1.map cellV)
  | .int k, cs, r, h => by
    cases cs with
    | nil => simp [zmatch] at h
    | cons c cs =>
      cases c <;> simp [zmatch] at h
      obtain ⟨⟨rfl, rfl⟩, rfl⟩ := h
      exact ⟨[.int k 0], rfl, rfl⟩
  | .bool, cs, r, h => by
    cases cs with
    | nil => simp [zmatch] at h
    | cons c cs =>
      cases c <;> try (simp [zmatch] at h; done)
      rename_i b
      cases b <;> simp [zmatch] at h
      subst h
      exact ⟨[.bool false], rfl, rfl⟩
  | .str, cs, r, h => by
    cases cs with
    | nil => simp [zmatch] at h
    | cons c cs =>
      cases c <;> try (simp [zmatch] at h; done)
      rename_i s
      cases s <;> simp [zmatch] at h
      subst h
      exact ⟨[.str []], rfl, rfl⟩
  | .unit, cs, r, h => by
    simp [zmatch] at h
    subst h
    exact ⟨[], rfl, rfl⟩
  | .pair a b, cs, r, h => by
    simp only [zmatch, Option.bind_eq_some_iff] at h
    obtain ⟨m, h1, h2⟩ := h
    obtain ⟨c1, e1, r1⟩ := zmatch_rep Z w a cs m h1
    obtain ⟨c2, e2, r2⟩ := zmatch_rep Z w b m r h2
    exact ⟨c1 ++ c2, by rw [e1, e2, List.append_assoc], ⟨_, _, List.map_append, r1, r2⟩⟩
  | .sl t, cs, r, h => by
    cases cs with
    | nil => simp [zmatch] at h
    | cons c cs =>
      cases c <;> simp [zmatch] at h
      subst h
      rename_i e t'
      exact ⟨[.nil e t'], rfl, none, 0, rfl, Nat.le_refl _, fun i x hx => by simp [Ty.dflt] at hx⟩
structure TIOK (P : Program) (T : TypeId) (ti : TI) : Prop where
  und : P.underlying T = some ti.desc
  info : (P.info? T).map (fun i => (i.size, i.bytes, i.zero)) = some (ti.ty.size, ti.bytes, some (mkVal ti.agg (ti.zero.map cellV)))
  zm : zmatch ti.ty ti.zero = some []
  one : ti.agg = false → ti.ty.size = 1
  agg : ti.agg = (match ti.desc with | .struct _ | .array .. => true | _ => false)
  eqs : ti.eqs = true → P.stoodInHeld T = false ∧ ∀ fs, ti.desc = .struct fs → ∀ f ∈ fs.toList, f.name ≠ "_"
theorem TIOK.info' {P : Program} {T : TypeId} {ti : TI} (h : TIOK P T ti) : ∃ i, P.info? T = some i ∧ i.size = ti.ty.size ∧ i.bytes = ti.bytes ∧ i.zero = some (mkVal ti.agg (ti.zero.map cellV)) := by
  have := h.info
  cases hi : P.info? T with
  | none => rw [hi] at this; cases this
  | some i =>
    rw [hi] at this
    simp only [Option.map_some, Option.some.injEq, Prod.mk.injEq] at this
    exact ⟨i, rfl, this⟩
theorem TIOK.zlen {P : Program} {T : TypeId} {ti : TI} (h : TIOK P T ti) : ti.zero.length = ti.ty.size := by
  obtain ⟨c1, e1, r1⟩ := zmatch_rep (fun _ => False) default ti.ty ti.zero [] h.zm
  have := RepI.length _ _ _ r1
  rw [e1]; simpa using this
theorem TIOK.zrep {P : Program} {T : TypeId} {ti : TI} (h : TIOK P T ti) (Z : Nat → Prop) (w : World) : RepI Z w ti.ty ti.ty.dflt (ti.zero.map cellV) := by
  obtain ⟨c1, e1, r1⟩ := zmatch_rep Z w ti.ty ti.zero [] h.zm
  rw [e1]; simpa using r1
theorem zmatch_zcell : ∀ (t : Ty) (cs r : List Cell), zmatch t cs = some r → ∃ c1, cs = c1 ++ r ∧ ∀ c ∈ c1, zcell c = true
  | .int k, cs, r, h => by
    cases cs with
    | nil => simp [zmatch] at h
    | cons c cs =>
      cases c <;> simp [zmatch] at h
      obtain ⟨_, rfl⟩ := h
      exact ⟨[_], rfl, by simp [zcell]⟩
  | .bool, cs, r, h => by
    cases cs with
    | nil => simp [zmatch] at h
    | cons c cs =>
      cases c <;> try (simp [zmatch] at h; done)
      rename_i b
      cases b <;> simp [zmatch] at h
      subst h
      exact ⟨[.bool false], rfl, by simp [zcell]⟩
  | .str, cs, r, h => by
    cases cs with
    | nil => simp [zmatch] at h
    | cons c cs =>
      cases c <;> try (simp [zmatch] at h; done)
      rename_i s
      cases s <;> simp [zmatch] at h
      subst h
      exact ⟨[.str []], rfl, by simp [zcell]⟩
  | .unit, cs, r, h => by
    simp [zmatch] at h
    subst h
    exact ⟨[], rfl, by simp⟩
  | .pair a b, cs, r, h => by
    simp only [zmatch, Option.bind_eq_some_iff] at h
    obtain ⟨m, h1, h2⟩ := h
    obtain ⟨c1, e1, r1⟩ := zmatch_zcell a cs m h1
    obtain ⟨c2, e2, r2⟩ := zmatch_zcell b m r h2
    refine ⟨c1 ++ c2, by rw [e1, e2, List.append_assoc], fun c hc => ?_⟩
    rcases List.mem_append.1 hc with hc | hc
    · exact r1 c hc
    · exact r2 c hc
  | .sl t, cs, r, h => by
    cases cs with
    | nil => simp [zmatch] at h
    | cons c cs =>
      cases c <;> simp [zmatch] at h
      subst h
      exact ⟨[_], rfl, by simp [zcell]⟩
theorem TIOK.zcells {P : Program} {T : TypeId} {ti : TI} (h : TIOK P T ti) : ∀ c ∈ ti.zero, zcell c = true := by
  obtain ⟨c1, e1, r1⟩ := zmatch_zcell ti.ty ti.zero [] h.zm
  rw [e1]; simpa using r1
theorem zcell_rel {A : Fix} {γ : Gh} {w : World} {c : Cell} (h : zcell c = true) : RelCell A γ w c (cellV c) ∧ (cellV c).oneCell' = true ∧ refs c = none ∧ c.isOwn = false := by
  cases c <;> simp [zcell] at h <;> simp [RelCell, cellV, Value.oneCell', refs, Cell.isOwn]
def TyOK (P : Program) (X : Ctx) : Prop := ∀ T ti, look X.types T = some ti → TIOK P T ti
def GoodR (A : Fix) (γ : Gh) (w : World) (Fr : Nat → Prop) (c : Cell) (u : Value) : Prop :=
  RelCell A γ w c u ∧ u.oneCell' = true ∧ (∀ r, refs c = some r → ¬ Fr r) ∧ c.isOwn = false
def RelCs (A : Fix) (γ : Gh) (w : World) (Fr : Nat → Prop) : List Cell → List Value → Prop
  | [], us => us = []
  | c :: r, us => ∃ u us', us = u :: us' ∧ GoodR A γ w Fr c u ∧ RelCs A γ w Fr r us'
def RelComp (A : Fix) (γ : Gh) (w : World) (Fr : Nat → Prop) (g : Bool) (cs : List Cell) (v : Value) : Prop :=
  ∃ us, v = mkVal g us ∧ (g = false → cs.length = 1) ∧ RelCs A γ w Fr cs us
def RelComps (A : Fix) (γ : Gh) (w : World) (Fr : Nat → Prop) : List (Bool × List Cell) → List Value → Prop
  | [], vs => vs = []
  | p :: r, vs => ∃ v vs', vs = v :: vs' ∧ RelComp A γ w Fr p.1 p.2 v ∧ RelComps A γ w Fr r vs'
def RelR (A : Fix) (γ : Gh) (w : World) (Fr : Nat → Prop) : AV → Value → Prop
  | .val g cs, v => RelComp A γ w Fr g cs v
  | .tup l, v => ∃ vs, v = .tuple vs.toArray ∧ RelComps A γ w Fr l vs
  | .skip, v => v = undef
  | _, _ => True
section
variable {A : Fix} {X : Ctx} {γ : Gh} {Fr : Nat → Prop} {env : Env} {a : Act} {w w' : World}
theorem RelCs.length : ∀ {cs : List Cell} {us : List Value}, RelCs A γ w Fr cs us → us.length = cs.length
  | [], us, h => by rw [show us = [] from h]; rfl
  | c :: r, us, ⟨u, us', h1, h2, h3⟩ => by rw [h1, List.length_cons, RelCs.length h3, List.length_cons]
theorem RelCs.get : ∀ {cs : List Cell} {us : List Value}, RelCs A γ w Fr cs us → ∀ {j : Nat} {c : Cell}, cs[j]? = some c → ∃ u, us[j]? = some u ∧ GoodR A γ w Fr c u
  | [], us, h, j, c, hc => by simp at hc
  | c0 :: r, us, ⟨u, us', h1, h2, h3⟩, j, c, hc => by
    subst h1
    cases j with
    | zero => simp at hc; subst hc; exact ⟨u, rfl, h2⟩
    | succ j => simp at hc; obtain ⟨u', h4, h5⟩ := RelCs.get h3 hc; exact ⟨u', by simpa using h4, h5⟩
theorem RelCs.of_get {cs : List Cell} {us : List Value} (hl : us.length = cs.length) (h : ∀ (j : Nat) (c : Cell) (u : Value), cs[j]? = some c → us[j]? = some u → GoodR A γ w Fr c u) : RelCs A γ w Fr cs us := by
  induction cs generalizing us with
  | nil => exact List.eq_nil_of_length_eq_zero (by simpa using hl)
  | cons c r ih =>
    cases us with
    | nil => simp at hl
    | cons u us =>
      refine ⟨u, us, rfl, h 0 c u rfl rfl, ih (by simpa using hl) fun j c u hc hu => h (j + 1) c u (by simpa using hc) (by simpa using hu)⟩
theorem RelCs.append : ∀ {cs ds : List Cell} {us vs : List Value}, RelCs A γ w Fr cs us → RelCs A γ w Fr ds vs → RelCs A γ w Fr (cs ++ ds) (us ++ vs)
  | [], ds, us, vs, h, h' => by rw [show us = [] from h]; simpa using h'
  | c :: r, ds, us, vs, ⟨u, us', h1, h2, h3⟩, h' => ⟨u, us' ++ vs, by rw [h1]; rfl, h2, RelCs.append h3 h'⟩
theorem RelCs.drop : ∀ {cs : List Cell} {us : List Value} (n : Nat), RelCs A γ w Fr cs us → RelCs A γ w Fr (cs.drop n) (us.drop n)
  | cs, us, 0, h => by simpa using h
  | [], us, n + 1, h => by rw [show us = [] from h]; exact rfl
  | c :: r, us, n + 1, ⟨u, us', h1, h2, h3⟩ => by rw [h1]; simpa using RelCs.drop n h3
theorem RelCs.takeN : ∀ {n : Nat} {cs cs' : List Cell} {us : List Value}, RelCs A γ w Fr cs us → takeN n cs = some cs' → RelCs A γ w Fr cs' (us.take n)
  | 0, cs, cs', us, h, h' => by simp [VI.takeN] at h'; subst h'; exact rfl
  | n + 1, [], cs', us, h, h' => by simp [VI.takeN] at h'
  | n + 1, c :: r, cs', us, ⟨u, us', h1, h2, h3⟩, h' => by
    simp only [VI.takeN, Option.map_eq_some_iff] at h'
    obtain ⟨r', h4, rfl⟩ := h'
    rw [h1]
    exact ⟨u, us'.take n, rfl, h2, RelCs.takeN h3 h4⟩
theorem takeN_eq {α : Type} : ∀ {n : Nat} {l l' : List α}, takeN n l = some l' → l' = l.take n ∧ n ≤ l.length
  | 0, l, l', h => by simp [takeN] at h; subst h; simp
  | n + 1, [], l', h => by simp [takeN] at h
  | n + 1, a :: r, l', h => by
    simp only [takeN, Option.map_eq_some_iff] at h
    obtain ⟨r', h1, rfl⟩ := h
    obtain ⟨h2, h3⟩ := takeN_eq h1
    exact ⟨by rw [h2]; rfl, by simp; exact h3⟩
theorem readCells_length (s : Slot) (i : Nat) : ∀ (j : Nat) (cs : List Cell), (readCells s i j cs).length = cs.length
  | _, [] => rfl
  | j, c :: r => by simp [readCells, readCells_length s i (j + 1) r]
theorem readCells_get (s : Slot) (i : Nat) : ∀ (j : Nat) (cs : List Cell) (k : Nat), (readCells s i j cs)[k]? = (cs[k]?).map (viewOf ⟨s, i, j + k⟩)
  | _, [], k => by simp [readCells]
  | j, c :: r, 0 => by simp [readCells]
  | j, c :: r, k + 1 => by
    have := readCells_get s i (j + 1) r k
    simp only [readCells, List.getElem?_cons_succ, this]
    rw [show j + 1 + k = j + (k + 1) by omega]
theorem Core.readCell (h : Core A X γ Fr env a w) {x : Loc} {c : Cell} (hc : envCell env x = some c) :
    GoodR A γ w Fr (viewOf x c) (γ.φ x) := by
  obtain ⟨h1, h2, h3⟩ := h.cell x c hc
  cases c with
  | own e t ver l =>
    obtain ⟨k1, k2, _⟩ := h.own x e t ver l hc
    exact ⟨k1.symm, h2, fun r hr => by simp [refs, viewOf] at hr; subst hr; exact k2, rfl⟩
  | undef => exact ⟨h1, h2, h3, rfl⟩
  | int k n => exact ⟨h1, h2, h3, rfl⟩
  | bool b => exact ⟨h1, h2, h3, rfl⟩
  | str s => exact ⟨h1, h2, h3, rfl⟩
  | nil e t => exact ⟨h1, h2, h3, rfl⟩
  | imm t l p => exact ⟨h1, h2, h3, rfl⟩
  | view x v => exact ⟨h1, h2, h3, rfl⟩
  | sub x v s l h => exact ⟨h1, h2, h3, rfl⟩
  | barr b bv o n t => exact ⟨h1, h2, h3, rfl⟩
  | addr b bv o => exact ⟨h1, h2, h3, rfl⟩
  | addrI b bv o n s i => exact ⟨h1, h2, h3, rfl⟩
  | gptr g o => exact ⟨h1, h2, h3, rfl⟩
  | gptrI g o n s i => exact ⟨h1, h2, h3, rfl⟩
  | iptr t x o => exact ⟨h1, h2, h3, rfl⟩
  | iptrI t x o n s i => exact ⟨h1, h2, h3, rfl⟩
  | eview x v s i o => exact ⟨h1, h2, h3, rfl⟩
  | eimm t l i o => exact ⟨h1, h2, h3, rfl⟩
  | eviewI x v s i o m s2 j => exact ⟨h1, h2, h3, rfl⟩
  | eimmI t l i o m s2 j => exact ⟨h1, h2, h3, rfl⟩
  | func f => exact ⟨h1, h2, h3, rfl⟩
  | clo as rs F => exact ⟨h1, h2, h3, rfl⟩
theorem Core.readCells (h : Core A X γ Fr env a w) (s : Slot) (i j : Nat) (cs : List Cell) (hc : ∀ k c, cs[k]? = some c → envCell env ⟨s, i, j + k⟩ = some c) :
    RelCs A γ w Fr (readCells s i j cs) ((List.range cs.length).map fun k => γ.φ ⟨s, i, j + k⟩) := by
  refine RelCs.of_get (by simp [readCells_length]) fun k c u h1 h2 => ?_
  rw [readCells_get] at h1
  cases hk : cs[k]? with
  | none => rw [hk] at h1; cases h1
  | some c0 =>
    rw [hk] at h1
    simp only [Option.map_some, Option.some.injEq] at h1
    have hlt : k < cs.length := (List.getElem?_eq_some_iff.1 hk).1
    simp [hlt] at h2
    subst h2
    have := h.readCell (hc k c0 hk)
    subst h1
    exact this
theorem Core.readTup (h : Core A X γ Fr env a w) (t : Nat) : ∀ (l : List (Bool × List Cell)) (i : Nat),
    (∀ k p, l[k]? = some p → (p.1 = false → p.2.length = 1) ∧ ∀ j c, p.2[j]? = some c → envCell env ⟨.tmp t, i + k, j⟩ = some c) →
    RelComps A γ w Fr (VI.readTup (.tmp t) i l) ((l.zipIdx i).map fun p => mkVal p.1.1 (cellVals γ (.tmp t) p.2 p.1.2.length))
  | [], i, _ => rfl
  | p :: r, i, hl => by
    refine ⟨_, _, rfl, ⟨cellVals γ (.tmp t) i p.2.length, rfl, fun hg => ?_, ?_⟩, ?_⟩
    · simpa [readCells_length] using (hl 0 p rfl).1 hg
    · have := h.readCells (.tmp t) i 0 p.2 (fun k c hc => by simpa using (hl 0 p rfl).2 k c hc)
      simpa [cellVals] using this
    · exact Core.readTup h t r (i + 1) fun k q hq => by
        have := hl (k + 1) q (by simpa using hq)
        rwa [show i + (k + 1) = i + 1 + k by omega] at this
theorem Core.asRead (h : Core A X γ Fr env a w) (t : Nat) : RelR A γ w Fr (asRead (.tmp t) (env.get (.tmp t))) (a.tmps.getD t undef) := by
  have ht := h.tmp t
  have hc : ∀ i j, envCell env ⟨.tmp t, i, j⟩ = (env.get (.tmp t)).cell? i j := fun i j => rfl
  revert ht hc
  cases env.get (.tmp t) with
  | val g cs =>
    intro ht hc
    obtain ⟨h1, h2⟩ := ht
    refine ⟨_, h1, fun hg => by simpa [readCells_length] using h2 hg, ?_⟩
    have := h.readCells (.tmp t) 0 0 cs (fun k c hk => by rw [hc]; simpa [AV.cell?] using hk)
    simpa [cellVals] using this
  | tup l =>
    intro ht hc
    obtain ⟨h1, h2⟩ := ht
    refine ⟨_, h1, ?_⟩
    refine h.readTup t l 0 fun k p hp => ⟨h2 p (List.mem_of_getElem? hp), fun j c hj => ?_⟩
    rw [hc]
    simp [AV.cell?, hp, hj]
  | skip => intro ht _; exact ht
  | undef => intro _ _; exact trivial
  | box _ _ _ => intro _ _; exact trivial
  | num _ => intro _ _; exact trivial
theorem constCells_rel {A : Fix} {γ : Gh} {w : World} {Fr : Nat → Prop} : ∀ (vs : List Value) (cs : List Cell), constCells vs = some cs → RelCs A γ w Fr cs vs
  | [], cs, h => by simp [constCells] at h; subst h; rfl
  | v :: r, cs, h => by
    cases v <;> simp only [constCells, Option.map_eq_some_iff] at h <;> try cases h
    all_goals
      rename_i hh
      obtain ⟨h1, rfl⟩ := hh
      exact ⟨_, _, rfl, ⟨by simp [RelCell], by simp [Value.oneCell'], by simp [refs], rfl⟩, constCells_rel r _ h1⟩
theorem rdOp_sound (h : Core A X γ Fr env a w) {x : Operand} {T : TypeId} {av : AV} {lg lg' : List Slot} (he : (rdOp X x T).eval env.get lg = some (av, lg')) :
    RelR A γ w Fr av (a.eval x) := by
  have one : ∀ (c : Cell) (u : Value), RelCell A γ w c u → u.oneCell' = true → refs c = none → c.isOwn = false → RelR A γ w Fr (.val false [c]) u := fun c u h1 h2 h3 h4 =>
    ⟨[u], rfl, fun _ => rfl, u, [], rfl, ⟨h1, h2, by simp [h3], h4⟩, rfl⟩
  cases x with
  | tmp t =>
    simp only [rdOp, Rd.eval, Option.some.injEq, Prod.mk.injEq] at he
    obtain ⟨rfl, _⟩ := he
    exact h.asRead t
  | global g =>
    simp only [rdOp, Rd.eval, Option.some.injEq, Prod.mk.injEq] at he
    obtain ⟨rfl, _⟩ := he
    exact one _ _ rfl rfl rfl rfl
  | func f =>
    simp only [rdOp, Rd.eval, Option.some.injEq, Prod.mk.injEq] at he
    obtain ⟨rfl, _⟩ := he
    exact one _ _ rfl rfl rfl rfl
  | const v =>
    unfold rdOp at he
    split at he
    all_goals (try (rename_i heq; cases heq; done))
    · rename_i heq; injection heq with heq; subst heq
      simp only [Rd.eval, Option.some.injEq, Prod.mk.injEq] at he
      obtain ⟨rfl, _⟩ := he
      exact one _ _ rfl rfl rfl rfl
    · rename_i heq; injection heq with heq; subst heq
      simp only [Rd.eval, Option.some.injEq, Prod.mk.injEq] at he
      obtain ⟨rfl, _⟩ := he
      exact one _ _ rfl rfl rfl rfl
    · rename_i heq; injection heq with heq; subst heq
      simp only [Rd.eval, Option.some.injEq, Prod.mk.injEq] at he
      obtain ⟨rfl, _⟩ := he
      exact one _ _ (by simp [RelCell, Act.eval]) rfl rfl rfl
    · rename_i heq; injection heq with heq; subst heq
      simp only [Rd.eval_bind, Option.bind_eq_some_iff, Rd.eval_ofOpt, Ctx.ti, Option.map_eq_some_iff] at he
      obtain ⟨p, ⟨ti, h1, rfl⟩, q, ⟨c, h2, rfl⟩, h3⟩ := he
      simp only [Rd.eval, Option.some.injEq, Prod.mk.injEq] at h3
      obtain ⟨rfl, _⟩ := h3
      simp only [constCell] at h2
      split at h2 <;> simp at h2
      subst h2
      exact one _ _ rfl rfl rfl rfl
    · rename_i heq; injection heq with heq; subst heq
      simp only [Rd.eval_bind, Option.bind_eq_some_iff, Rd.eval_ofOpt, Option.map_eq_some_iff] at he
      obtain ⟨p, ⟨cs, h1, rfl⟩, h3⟩ := he
      simp only [Rd.eval, Option.some.injEq, Prod.mk.injEq] at h3
      obtain ⟨rfl, _⟩ := h3
      exact ⟨_, by simp [Act.eval, mkVal], by simp, constCells_rel _ _ h1⟩
    · simp [Rd.eval] at he
theorem oneCell_eval {av : AV} {c : Cell} {lg lg' : List Slot} {e : Slot → AV} (h : (oneCell av).eval e lg = some (c, lg')) : av = .val false [c] := by
  unfold oneCell at h
  split at h
  · simp only [Rd.eval, Option.some.injEq, Prod.mk.injEq] at h; rw [h.1]
  · simp [Rd.eval] at h
theorem rdCell_sound (h : Core A X γ Fr env a w) {x : Operand} {T : TypeId} {c : Cell} {lg lg' : List Slot} (he : (rdCell X x T).eval env.get lg = some (c, lg')) :
    GoodR A γ w Fr c (a.eval x) := by
  simp only [rdCell, Rd.eval_bind, Option.bind_eq_some_iff] at he
  obtain ⟨⟨av, l1⟩, h1, h2⟩ := he
  have hr := rdOp_sound h h1
  have := oneCell_eval h2
  simp only at this
  subst this
  obtain ⟨us, hv, _, u, us', rfl, hg, hus⟩ := hr
  simp only [mkVal, List.headD_cons] at hv
  rw [hv]; exact hg
theorem rdInt_sound (h : Core A X γ Fr env a w) {x : Operand} {p : IntKind × Int} {lg lg' : List Slot} (he : (rdInt X x).eval env.get lg = some (p, lg')) : a.eval x = .int p.1 p.2 := by
  simp only [rdInt, Rd.eval_bind, Option.bind_eq_some_iff] at he
  obtain ⟨⟨c, l1⟩, h1, h2⟩ := he
  have hg := rdCell_sound h h1
  cases c <;> simp [Rd.eval] at h2
  obtain ⟨rfl, _⟩ := h2
  exact hg.1
theorem rdBool_sound (h : Core A X γ Fr env a w) {x : Operand} {b : Bool} {lg lg' : List Slot} (he : (rdBool X x).eval env.get lg = some (b, lg')) : a.eval x = .bool b := by
  simp only [rdBool, Rd.eval_bind, Option.bind_eq_some_iff] at he
  obtain ⟨⟨c, l1⟩, h1, h2⟩ := he
  have hg := rdCell_sound h h1
  cases c <;> simp [Rd.eval] at h2
  obtain ⟨rfl, _⟩ := h2
  exact hg.1
theorem ownerAt_eval {x : Loc} {ver : Nat} {p : TypeId × (Σ t : Ty, List t.den)} {lg lg' : List Slot} (he : (ownerAt x ver).eval env.get lg = some (p, lg')) :
    envCell env x = some (.own p.1 p.2.1 ver p.2.2) := by
  simp only [ownerAt, Rd.eval] at he
  split at he
  · rename_i e t v l hc
    cases hv : Nat.beq v ver <;> rw [hv] at he <;> simp [Rd.eval] at he
    obtain ⟨rfl, _⟩ := he
    have : v = ver := Nat.eq_of_beq_eq_true hv
    subst this
    exact hc
  · simp [Rd.eval] at he
theorem boxAt_eval {b bv : Nat} {p : Bool × List Cell} {lg lg' : List Slot} (he : (boxAt b bv).eval env.get lg = some (p, lg')) : env.get (.box b) = .box bv p.1 p.2 := by
  simp only [boxAt, Rd.eval] at he
  split at he
  · rename_i v fz cs hc
    cases hv : Nat.beq v bv <;> rw [hv] at he <;> simp [Rd.eval] at he
    obtain ⟨rfl, _⟩ := he
    have : v = bv := Nat.eq_of_beq_eq_true hv
    subst this
    exact hc
  · simp [Rd.eval] at he
end
end Go.VI
namespace Go.VI
open Go.RowKit
def Holds (A : Fix) (X : Ctx) (Fr : Nat → Prop) (env : Env) (a : Act) (w : World) : Prop := ∃ γ, Core A X γ Fr env a w
theorem range_map_getD (us : List Value) (n : Nat) (h : us.length = n) : ((List.range n).map fun j => us.getD j undef) = us := by
  subst h
  apply List.ext_getElem?
  intro j
  by_cases hj : j < us.length
  · simp [hj, List.getD]
  · simp [hj]
def dstOk (X : Ctx) (o : Oper) : Prop := ∀ d, o.dst = some d → d < X.ntmps
section
variable {A : Fix} {X : Ctx} {γ : Gh} {Fr : Nat → Prop} {env : Env} {a : Act} {w w' : World}
theorem RelComps.lists : ∀ {l : List (Bool × List Cell)} {vs : List Value}, RelComps A γ w Fr l vs →
    ∃ uss : List (List Value), vs.length = l.length ∧ ∀ (i : Nat) (p : Bool × List Cell), l[i]? = some p → vs[i]? = some (mkVal p.1 (uss.getD i [])) ∧ (p.1 = false → p.2.length = 1) ∧ RelCs A γ w Fr p.2 (uss.getD i [])
  | [], vs, h => ⟨[], by rw [show vs = [] from h]; rfl, fun i p hp => by simp at hp⟩
  | q :: r, vs, ⟨v, vs', h1, ⟨us, h2, h3, h4⟩, h5⟩ => by
    obtain ⟨uss, k1, k2⟩ := RelComps.lists h5
    refine ⟨us :: uss, by rw [h1]; simp [k1], fun i p hp => ?_⟩
    cases i with
    | zero => simp at hp; subst hp; exact ⟨by rw [h1, h2]; rfl, h3, h4⟩
    | succ i => simp at hp; obtain ⟨e1, e2, e3⟩ := k2 i p hp; exact ⟨by rw [h1]; simpa using e1, e2, by simpa using e3⟩
theorem Core.putVal (h : Core A X γ Fr env a w) {d : Nat} (hd : d < X.ntmps) {g : Bool} {cs : List Cell} {v : Value} (hr : RelComp A γ w Fr g cs v) :
    Holds A X Fr ((.tmp d, .val g cs) :: env) (a.put (some d) v) w := by
  obtain ⟨us, hv, h1, hc⟩ := hr
  have hl := hc.length
  refine ⟨_, h.setTmpG hd (.val g cs) (fun i j => us.getD j undef) v γ.ψ (fun _ hh => hh) (fun _ _ _ => rfl) ?_ ?_ ?_⟩
  · intro γ' hφ
    refine ⟨?_, h1⟩
    rw [hv]
    congr 1
    rw [← range_map_getD us cs.length hl]
    simp [cellVals, hφ]
  · intro i j c hcj
    cases i with
    | succ i => simp [AV.cell?] at hcj
    | zero =>
      obtain ⟨u, hu, g1, g2, g3, _⟩ := hc.get (by simpa [AV.cell?] using hcj)
      have : us.getD j undef = u := by simp [List.getD, hu]
      simp only [this]
      exact ⟨g1, g2, g3⟩
  · intro i j e t ver l hcj
    cases i with
    | succ i => simp [AV.cell?] at hcj
    | zero =>
      obtain ⟨u, hu, _, _, _, g4⟩ := hc.get (by simpa [AV.cell?] using hcj)
      simp [Cell.isOwn] at g4
theorem Core.putTup (h : Core A X γ Fr env a w) {d : Nat} (hd : d < X.ntmps) {l : List (Bool × List Cell)} {vs : List Value} (hr : RelComps A γ w Fr l vs) :
    Holds A X Fr ((.tmp d, .tup l) :: env) (a.put (some d) (.tuple vs.toArray)) w := by
  obtain ⟨uss, hl, hc⟩ := hr.lists
  refine ⟨_, h.setTmpG hd (.tup l) (fun i j => (uss.getD i []).getD j undef) (.tuple vs.toArray) γ.ψ (fun _ hh => hh) (fun _ _ _ => rfl) ?_ ?_ ?_⟩
  · intro γ' hφ
    refine ⟨?_, fun p hp hg => ?_⟩
    · congr 2
      apply List.ext_getElem?
      intro i
      simp only [tupVals, List.getElem?_map, List.getElem?_zipIdx]
      cases hp : l[i]? with
      | none =>
        have : l.length ≤ i := by
          rcases Nat.lt_or_ge i l.length with hlt | hge
          · simp [List.getElem?_eq_getElem hlt] at hp
          · exact hge
        simp [List.getElem?_eq_none (show vs.length ≤ i by omega)]
      | some p =>
        obtain ⟨e1, _, e3⟩ := hc i p hp
        simp only [Option.map_some, e1]
        congr 2
        rw [← range_map_getD _ p.2.length e3.length]
        simp [cellVals, hφ]
    · obtain ⟨i, hi⟩ := List.mem_iff_getElem?.1 hp
      exact (hc i p hi).2.1 hg
  · intro i j c hcj
    simp only [AV.cell?, Option.bind_eq_some_iff] at hcj
    obtain ⟨p, hp, hpj⟩ := hcj
    obtain ⟨_, _, e3⟩ := hc i p hp
    obtain ⟨u, hu, g1, g2, g3, _⟩ := e3.get hpj
    have : (uss.getD i []).getD j undef = u := by
      rw [List.getD_eq_getElem?_getD (l := uss.getD i []), hu]; rfl
    simp only [this]
    exact ⟨g1, g2, g3⟩
  · intro i j e t ver l' hcj
    simp only [AV.cell?, Option.bind_eq_some_iff] at hcj
    obtain ⟨p, hp, hpj⟩ := hcj
    obtain ⟨_, _, e3⟩ := hc i p hp
    obtain ⟨u, hu, _, _, _, g4⟩ := e3.get hpj
    simp [Cell.isOwn] at g4
theorem Core.putSkip (h : Core A X γ Fr env a w) {d : Nat} (hd : d < X.ntmps) : Holds A X Fr ((.tmp d, .skip) :: env) (a.put (some d) undef) w := by
  refine ⟨_, h.setTmpG hd .skip (fun _ _ => undef) undef γ.ψ (fun _ hh => hh) (fun _ _ _ => rfl) (fun _ _ => rfl) ?_ ?_⟩
  · intro i j c hc; simp [AV.cell?] at hc
  · intro i j e t ver l hc; simp [AV.cell?] at hc
theorem Core.put (h : Core A X γ Fr env a w) {o : Oper} (hd : dstOk X o) {av : AV} {v : Value} (hr : RelR A γ w Fr av v) (hs : (∃ g cs, av = .val g cs) ∨ (∃ l, av = .tup l) ∨ av = .skip) :
    Holds A X Fr (appAll env (dstSet o av)) (a.put o.dst v) w := by
  unfold dstSet
  cases ho : o.dst with
  | none => exact ⟨γ, h⟩
  | some d =>
    have hd' := hd d ho
    rcases hs with ⟨g, cs, rfl⟩ | ⟨l, rfl⟩ | rfl
    · exact h.putVal hd' hr
    · obtain ⟨vs, rfl, hc⟩ := hr
      exact h.putTup hd' hc
    · rw [show v = undef from hr]
      exact h.putSkip hd'
theorem Core.putCell (h : Core A X γ Fr env a w) {o : Oper} (hd : dstOk X o) {c : Cell} {v : Value} (hr : GoodR A γ w Fr c v) :
    Holds A X Fr (appAll env (dstSet o (.val false [c]))) (a.put o.dst v) w :=
  h.put hd (av := .val false [c]) ⟨[v], rfl, fun _ => rfl, v, [], rfl, hr, rfl⟩ (.inl ⟨_, _, rfl⟩)
end
def OpOK (A : Fix) (X : Ctx) (Fr : Nat → Prop) (o : Oper) (us : List Upd) (env : Env) (a : Act) (w : World) : Prop :=
  ∀ (next : Act → World → Prop) (Q : Exit → Act → World → Prop), (∀ a' w', Holds A X Fr (appAll env us) a' w' → next a' w') → o.wp A.P a w next Q
theorem OpOK.value {A : Fix} {X : Ctx} {Fr : Nat → Prop} {o : Oper} {us : List Upd} {env : Env} {a : Act} {w w' : World} {v : Value}
    (hrun : (execOp a.eval o).run A.P w = .ok (.value v) w') (h : Holds A X Fr (appAll env us) (a.put o.dst v) w') : OpOK A X Fr o us env a w := by
  intro next Q hn
  unfold Oper.wp
  rw [hrun]
  exact hn _ _ h
theorem OpOK.skip {A : Fix} {X : Ctx} {Fr : Nat → Prop} {o : Oper} {us : List Upd} {env : Env} {a : Act} {w w' : World}
    (hrun : (execOp a.eval o).run A.P w = .ok .skip w') (h : Holds A X Fr (appAll env us) (a.put o.dst undef) w') : OpOK A X Fr o us env a w := by
  intro next Q hn
  unfold Oper.wp
  rw [hrun]
  exact hn _ _ h
section
variable {A : Fix} {X : Ctx} {γ : Gh} {Fr : Nat → Prop} {env : Env} {a : Act} {w w' : World} {o : Oper} {us : List Upd} {lg : List Slot} {vn : Nat}
theorem retOne_eval {e : Slot → AV} {c : Cell} {l0 : List Slot} (h : (retOne o c).eval e l0 = some (us, lg)) : us = dstSet o (.val false [c]) := by
  simp [retOne, Rd.eval] at h; exact h.1.symm
theorem good_int (k : IntKind) (n : Int) : GoodR A γ w Fr (.int k n) (.int k n) := ⟨rfl, rfl, by simp [refs], rfl⟩
theorem good_bool (b : Bool) : GoodR A γ w Fr (.bool b) (.bool b) := ⟨rfl, rfl, by simp [refs], rfl⟩
theorem good_str (s : List UInt8) : GoodR A γ w Fr (.str s) (.string ⟨s.toArray⟩) := ⟨rfl, rfl, by simp [refs], rfl⟩
theorem putAV_eval {e : Slot → AV} {av : AV} {l0 : List Slot} (h : (putAV o av).eval e l0 = some (us, lg)) : us = dstSet o av ∧ ((∃ g cs, av = .val g cs) ∨ (∃ l, av = .tup l) ∨ av = .skip) := by
  unfold putAV at h
  split at h
  · simp [Rd.eval] at h; exact ⟨h.1.symm, .inl ⟨_, _, rfl⟩⟩
  · simp [Rd.eval] at h; exact ⟨h.1.symm, .inr (.inl ⟨_, rfl⟩)⟩
  · simp [Rd.eval] at h; exact ⟨h.1.symm, .inr (.inr rfl)⟩
  · simp [Rd.eval] at h
theorem op_move (h : Core A X γ Fr env a w) (hd : dstOk X o) {x : Operand} (ho : o.op = .move x) (he : (opRd X vn o).eval env.get [] = some (us, lg)) : OpOK A X Fr o us env a w := by
  simp only [opRd, ho, Rd.eval_bind, Option.bind_eq_some_iff] at he
  obtain ⟨⟨av, l1⟩, h1, h2⟩ := he
  obtain ⟨rfl, hs⟩ := putAV_eval h2
  exact OpOK.value (by simp [execOp, ho]) (h.put hd (rdOp_sound h h1) hs)
theorem pickCell_good {t : Bool} {ca cb c : Cell} {va vb : Value} (h : pickCell t ca cb = some c) (ha : GoodR A γ w Fr ca va) (hb : GoodR A γ w Fr cb vb) : GoodR A γ w Fr c (if t then va else vb) := by
  unfold pickCell at h
  split at h
  · split at h
    · rename_i hk; subst hk
      injection h with h; subst h
      obtain ⟨rfl, _⟩ := ha; obtain ⟨rfl, _⟩ := hb
      cases t <;> exact good_int _ _
    · cases h
  · injection h with h; subst h
    obtain ⟨rfl, _⟩ := ha; obtain ⟨rfl, _⟩ := hb
    cases t <;> exact good_bool _
  · injection h with h; subst h
    obtain ⟨rfl, _⟩ := ha; obtain ⟨rfl, _⟩ := hb
    cases t <;> exact good_str _
  · cases h
theorem relR_one {c : Cell} {v : Value} (h : RelR A γ w Fr (.val false [c]) v) : GoodR A γ w Fr c v := by
  obtain ⟨us, hv, _, u, us', rfl, hg, hus⟩ := h
  simp only [mkVal, List.headD_cons] at hv
  rw [hv]; exact hg
theorem op_pick (h : Core A X γ Fr env a w) (hd : dstOk X o) {c x y : Operand} (ho : o.op = .pick c x y) (he : (opRd X vn o).eval env.get [] = some (us, lg)) : OpOK A X Fr o us env a w := by
  simp only [opRd, ho, Rd.eval_bind, Option.bind_eq_some_iff] at he
  obtain ⟨⟨t, l1⟩, h1, ⟨va, l2⟩, h2, ⟨vb, l3⟩, h3, h4⟩ := he
  have hb := rdBool_sound h h1
  have ra := rdOp_sound h h2
  have rb := rdOp_sound h h3
  have hrun : (execOp a.eval o).run A.P w = .ok (.value (if t then a.eval x else a.eval y)) w := by simp [execOp, ho, hb, asBool]
  refine OpOK.value hrun ?_
  have hbr : ∀ l, (Rd.br t (putAV o va) (putAV o vb)).eval env.get l = some (us, lg) → Holds A X Fr (appAll env us) (a.put o.dst (if t then a.eval x else a.eval y)) w := by
    intro l hh
    simp only [Rd.eval] at hh
    cases t
    · obtain ⟨rfl, hs⟩ := putAV_eval hh
      exact h.put hd rb hs
    · obtain ⟨rfl, hs⟩ := putAV_eval hh
      exact h.put hd ra hs
  simp only at h4
  split at h4
  · split at h4
    · rename_i hp
      rw [retOne_eval h4]
      exact h.putCell hd (pickCell_good hp (relR_one ra) (relR_one rb))
    · exact hbr _ h4
  · exact hbr _ h4
end
end Go.VI
