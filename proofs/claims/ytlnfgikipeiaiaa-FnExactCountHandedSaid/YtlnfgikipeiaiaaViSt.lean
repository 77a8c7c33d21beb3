/- VI, part 3: the relation between an abstract state and the machine's, and how it moves. -/
import Derived.Test.YtlnfgikipeiaiaaViRel
namespace Go.VI
open Go.RowKit
structure Below (B : Nat) (w w' : World) : Prop where
  os : w'.os = w.os
  tape : w'.tape = w.tape
  output : w'.output = w.output
  size : w.heap.size ≤ w'.heap.size
  block : ∀ k, k < B → w'.heap[k]? = w.heap[k]?
  drawn : w.drawn ≤ w'.drawn
theorem Below.toRow {B : Nat} {w w' : World} (h : Below B w w') : Go.RowKit.Below B w w' := ⟨h.os, h.tape, h.output, h.size, h.block⟩
theorem Below.refl (B : Nat) (w : World) : Below B w w := ⟨rfl, rfl, rfl, Nat.le_refl _, fun _ _ => rfl, Nat.le_refl _⟩
theorem Below.trans {B : Nat} {a b c : World} (h : Below B a b) (k : Below B b c) : Below B a c :=
  ⟨k.os.trans h.os, k.tape.trans h.tape, k.output.trans h.output, Nat.le_trans h.size k.size, fun i hi => (k.block i hi).trans (h.block i hi), Nat.le_trans h.drawn k.drawn⟩
theorem Below.alloc {B : Nat} {w w' : World} (h : Below B w w') (hB : B ≤ w'.heap.size) (o : Obj) : Below B w (w'.alloc o) :=
  ⟨h.os, h.tape, h.output, (h.toRow.alloc hB o).size, (h.toRow.alloc hB o).block, h.drawn⟩
theorem Below.drew {B : Nat} {w w' : World} (h : Below B w w') : Below B w w'.drew := ⟨h.os, h.tape, h.output, h.size, h.block, Nat.le_succ_of_le h.drawn⟩
structure GrownD (w w' : World) (row : Option Nat) : Prop where
  os : w'.os = w.os
  tape : w'.tape = w.tape
  output : w'.output = w.output
  size : w.heap.size ≤ w'.heap.size
  block : ∀ k, k < w.heap.size → some k ≠ row → w'.heap[k]? = w.heap[k]?
  drawn : w.drawn ≤ w'.drawn
theorem GrownD.row {w w' : World} {row : Option Nat} (h : GrownD w w' row) : w.grownBy w' row := ⟨h.os, h.tape, h.output, h.size, h.block⟩
theorem GrownD.alloc (w : World) (o : Obj) (row : Option Nat) : GrownD w (w.alloc o) row :=
  ⟨rfl, rfl, rfl, (World.grownBy_alloc w o row).size, (World.grownBy_alloc w o row).block, Nat.le_refl _⟩
structure Fix where
  P : Program
  G : World → Prop
  w0 : World
  pars : List Value
  Z0 : Nat → Prop
  B : Nat
  lv : Nat → Value
  lb : Nat → Option Nat
  n0 : Nat
def Fix.L (A : Fix) (g : Nat) : Prop := (∃ k, (A.lv k).ownBlock = some g) ∨ ∃ b, A.lb b = some g
structure Frame (A : Fix) (w : World) : Prop where
  os : w.os = A.w0.os
  tape : w.tape = A.w0.tape
  output : w.output = A.w0.output
  size : A.w0.heap.size ≤ w.heap.size
  block : ∀ k, k < A.w0.heap.size → ¬ A.L k → w.heap[k]? = A.w0.heap[k]?
  drawn : A.w0.drawn ≤ w.drawn
theorem Frame.grow {A : Fix} {w w' : World} {row : Option Nat} (h : Frame A w) (hg : GrownD w w' row) (hr : ∀ g, row = some g → A.w0.heap.size ≤ g ∨ A.L g) : Frame A w' :=
  ⟨hg.os.trans h.os, hg.tape.trans h.tape, hg.output.trans h.output, Nat.le_trans h.size hg.size, fun k hk hL => by
    rw [hg.block k (Nat.lt_of_lt_of_le hk h.size) (fun e => (hr k e.symm).elim (fun h1 => by omega) hL)]
    exact h.block k hk hL, Nat.le_trans h.drawn hg.drawn⟩
def Stable (n0 : Nat) (G : World → Prop) : Prop := (∀ w, G w → n0 ≤ w.heap.size) ∧ ∀ w w', G w → w.heap.size ≤ w'.heap.size → (∀ k, k < n0 → w'.heap[k]? = w.heap[k]?) → G w'
theorem Stable.below {n0 : Nat} {G : World → Prop} {w w' : World} (h : Stable n0 G) (hG : G w) (hb : Below w.heap.size w w') : G w' :=
  h.2 w w' hG hb.size fun k hk => hb.block k (Nat.lt_of_lt_of_le hk (h.1 w hG))
def BaseOK (A : Fix) : Prop := A.G A.w0 ∧ ∀ g, A.L g → A.n0 ≤ g
structure Gh where
  σ : Nat → Nat → Nat
  ψ : Loc → Nat → Value
  φ : Loc → Value
  Z : Nat → Prop
def mkVal : Bool → List Value → Value
  | true, us => .agg us.toArray
  | false, us => us.headD undef
def mkRes : List Value → Value
  | [v] => v
  | vs => .tuple vs.toArray
def RelArgsL (Z : Nat → Prop) (w : World) : (as : List (Bool × Ty)) → denL as → List Value → Prop
  | [], _, vs => vs = []
  | p :: r, x, vs => ∃ us vs', vs = mkVal p.1 us :: vs' ∧ (p.1 = false → us.length = 1) ∧ RepI Z w p.2 x.1 us ∧ RelArgsL Z w r x.2 vs'
def RelResL (w : World) : (rs : List (Bool × Ty)) → denL rs → List Value → Prop
  | [], _, vs => vs = []
  | p :: r, x, vs => ∃ us vs', vs = mkVal p.1 us :: vs' ∧ (p.1 = false → us.length = 1) ∧ leads p.2 = false ∧ RepI (fun _ => False) w p.2 x.1 us ∧ RelResL w r x.2 vs'
def FCalls (P : Program) (f : FuncId) (args : Array Value) (w : World) (R : Value → World → Prop) : Prop :=
  (∃ v w', (callFunc f args).run P w = .ok (.value v) w' ∧ R v w') ∨
  ((callFunc f args).run P w = .ok (.enter f args) w ∧ Calls P f args w fun e w' => ∃ v, e = .returned v ∧ R v w')
theorem FCalls.mono {P : Program} {f : FuncId} {args : Array Value} {w : World} {R R' : Value → World → Prop} (h : FCalls P f args w R) (hr : ∀ v w', R v w' → R' v w') : FCalls P f args w R' := by
  rcases h with ⟨v, w', h1, h2⟩ | ⟨h1, h2⟩
  · exact .inl ⟨v, w', h1, hr _ _ h2⟩
  · refine .inr ⟨h1, fun cs => ?_⟩
    obtain ⟨e, w', fr, ⟨v, he, hR⟩, rest⟩ := h2 cs
    exact ⟨e, w', fr, ⟨v, he, hr _ _ hR⟩, rest⟩
def CloOK (P : Program) (G : World → Prop) (Z : Nat → Prop) (w : World) (as rs : List (Bool × Ty)) (F : denL as → Option (denL rs)) (v : Value) : Prop :=
  ∃ f caps, v = .func (.func f) #[] caps ∧
    ∀ w2 Z2 xs vs r, (∀ g, Z g → w2.heap[g]? = w.heap[g]?) → w.heap.size ≤ w2.heap.size → G w2 → (∀ g, Z2 g → g < w2.heap.size) → RelArgsL Z2 w2 as xs vs → F xs = some r →
      FCalls P f (vs.toArray ++ caps) w2 fun v w' => ∃ us, v = mkRes us ∧ Below w2.heap.size w2 w' ∧ RelResL w' rs r us
def RelCell (A : Fix) (γ : Gh) (w : World) : Cell → Value → Prop
  | .undef, _ => True
  | .int k n, v => v = .int k n
  | .bool b, v => v = .bool b
  | .str s, v => v = .string ⟨s.toArray⟩
  | .own e t _ l, v => OwnV γ.Z w A.B e t v l
  | .nil _ _, v => v = .slice none 0 0
  | .imm t l par, v => RepI γ.Z w (.sl t) l [v] ∧ ∀ j, par = some j → A.pars[j]? = some v
  | .view x ver, v => v = γ.ψ x ver
  | .sub x ver sz lo hi, v => ∃ a n c, γ.ψ x ver = .slice a n c ∧ 0 ≤ lo ∧ lo ≤ hi ∧ hi ≤ (n : Int) ∧ v = .slice (if c = lo.toNat then a else a.map (·.add (lo.toNat * sz))) (hi.toNat - lo.toNat) (c - lo.toNat)
  | .barr b bv off n _, v => v = .slice (some ⟨γ.σ b bv, off, none⟩) n n
  | .addr b bv off, v => v = .pointer (some ⟨γ.σ b bv, off, none⟩)
  | .addrI b bv off n sz i, v => inB i n = true ∧ v = .pointer (some ⟨γ.σ b bv, off + i.toNat * sz, none⟩)
  | .gptr g off, v => v = .pointer (some ⟨g, off, none⟩)
  | .gptrI g off n sz i, v => inB i n = true ∧ v = .pointer (some ⟨g, off + i.toNat * sz, none⟩)
  | .iptr t x off, v => ∃ (a : Addr) (us : List Value), v = .pointer (some (a.add off)) ∧ γ.Z a.block ∧ RepI γ.Z w t x us ∧ ∀ j u, us[j]? = some u → w.cell? (a.add j) = some u
  | .iptrI t x off n sz i, v => inB i n = true ∧ ∃ (a : Addr) (us : List Value), v = .pointer (some (a.add (off + i.toNat * sz))) ∧ γ.Z a.block ∧ RepI γ.Z w t x us ∧ ∀ j u, us[j]? = some u → w.cell? (a.add j) = some u
  | .eview x ver sz i off, v => ∃ g n c, γ.ψ x ver = .slice (some ⟨g, 0, none⟩) n c ∧ inB i n = true ∧ v = .pointer (some ⟨g, i.toNat * sz + off, none⟩)
  | .eimm t l i off, v => inB i l.length = true ∧ ∃ (a : Addr) (c : Nat), RepI γ.Z w (.sl t) l [.slice (some a) l.length c] ∧ v = .pointer (some (a.add (i.toNat * t.size + off)))
  | .eviewI x ver sz i off m sz2 j, v => ∃ g n c, γ.ψ x ver = .slice (some ⟨g, 0, none⟩) n c ∧ inB i n = true ∧ inB j m = true ∧ v = .pointer (some ⟨g, i.toNat * sz + off + j.toNat * sz2, none⟩)
  | .eimmI t l i off m sz2 j, v => inB i l.length = true ∧ inB j m = true ∧ ∃ (a : Addr) (c : Nat), RepI γ.Z w (.sl t) l [.slice (some a) l.length c] ∧ v = .pointer (some (a.add (i.toNat * t.size + off + j.toNat * sz2)))
  | .func f, v => v = .func (.func f) #[] #[]
  | .clo as rs F, v => CloOK A.P A.G γ.Z w as rs F v
def refs : Cell → Option Nat
  | .view _ v | .sub _ v _ _ _ | .eview _ v _ _ _ | .eviewI _ v _ _ _ _ _ _ | .barr _ v _ _ _ | .addr _ v _ | .addrI _ v _ _ _ _ => some v
  | _ => none
def Cell.isOwn : Cell → Bool
  | .own .. => true
  | _ => false
theorem RelCell.move {A : Fix} {γ γ' : Gh} {w w' : World} {c : Cell} {v : Value} (h : RelCell A γ w c v)
    (hψ : ∀ r, refs c = some r → ∀ y, γ'.ψ y r = γ.ψ y r) (hσ : ∀ r, refs c = some r → ∀ b, γ'.σ b r = γ.σ b r)
    (hZ : ∀ g, γ.Z g → γ'.Z g) (hw : ∀ g, γ.Z g → w'.heap[g]? = w.heap[g]?) (hs : w.heap.size ≤ w'.heap.size)
    (ho : c.isOwn = true → ∀ g, v.ownBlock = some g → w'.heap[g]? = w.heap[g]?) : RelCell A γ' w' c v := by
  have hcell : ∀ (a : Addr) (n : Nat) (u : Value), γ.Z a.block → w.cell? (a.add n) = some u → w'.cell? (a.add n) = some u := by
    intro a n u hz hc
    rw [World.cell?_of_block (w := w)]
    · exact hc
    · have hb : (a.add n).block = a.block := by unfold Addr.add; split <;> rfl
      rw [hb]; exact hw _ hz
  cases c with
  | undef => trivial
  | int k n => exact h
  | bool b => exact h
  | str s => exact h
  | own e t ver l => exact h.mono hZ hw (ho rfl)
  | nil e t => exact h
  | imm t l par => exact ⟨RepI.mono hZ hw _ _ _ h.1, h.2⟩
  | view x ver => exact h.trans (hψ _ rfl x).symm
  | sub x ver sz lo hi => obtain ⟨a, n, c, h1, h2⟩ := h; exact ⟨a, n, c, (hψ _ rfl x).trans h1, h2⟩
  | barr b bv off n t => exact h.trans (by rw [hσ _ rfl b])
  | addr b bv off => exact h.trans (by rw [hσ _ rfl b])
  | addrI b bv off n sz i => exact ⟨h.1, h.2.trans (by rw [hσ _ rfl b])⟩
  | gptr g off => exact h
  | gptrI g off n sz i => exact h
  | iptr t x off => obtain ⟨a, us, h1, h2, h3, h4⟩ := h; exact ⟨a, us, h1, hZ _ h2, RepI.mono hZ hw _ _ _ h3, fun j u hu => hcell a j u h2 (h4 j u hu)⟩
  | iptrI t x off n sz i => obtain ⟨h0, a, us, h1, h2, h3, h4⟩ := h; exact ⟨h0, a, us, h1, hZ _ h2, RepI.mono hZ hw _ _ _ h3, fun j u hu => hcell a j u h2 (h4 j u hu)⟩
  | eview x ver sz i off => obtain ⟨g, n, c, h1, h2⟩ := h; exact ⟨g, n, c, (hψ _ rfl x).trans h1, h2⟩
  | eimm t l i off => obtain ⟨h0, a, c, h1, h2⟩ := h; exact ⟨h0, a, c, RepI.mono hZ hw _ _ _ h1, h2⟩
  | eviewI x ver sz i off m sz2 j => obtain ⟨g, n, c, h1, h2⟩ := h; exact ⟨g, n, c, (hψ _ rfl x).trans h1, h2⟩
  | eimmI t l i off m sz2 j => obtain ⟨h0, h00, a, c, h1, h2⟩ := h; exact ⟨h0, h00, a, c, RepI.mono hZ hw _ _ _ h1, h2⟩
  | func f => exact h
  | clo as rs F =>
    obtain ⟨f, caps, h1, h3⟩ := h
    exact ⟨f, caps, h1, fun w2 Z2 xs vs r hz hsz => h3 w2 Z2 xs vs r (fun g hg => (hz g (hZ g hg)).trans (hw g hg)) (Nat.le_trans hs hsz)⟩
def envCell (env : Env) (x : Loc) : Option Cell := (env.get x.s).cell? x.c x.j
def cellVals (γ : Gh) (s : Slot) (i n : Nat) : List Value := (List.range n).map fun j => γ.φ ⟨s, i, j⟩
theorem cellVals_length (γ : Gh) (s : Slot) (i n : Nat) : (cellVals γ s i n).length = n := by simp [cellVals]
theorem cellVals_get (γ : Gh) (s : Slot) (i n j : Nat) (h : j < n) : (cellVals γ s i n)[j]? = some (γ.φ ⟨s, i, j⟩) := by simp [cellVals, h]
def tupVals (γ : Gh) (s : Slot) (l : List (Bool × List Cell)) : List Value := l.zipIdx.map fun p => mkVal p.1.1 (cellVals γ s p.2 p.1.2.length)
def RelTmp (γ : Gh) (t : Nat) : AV → Value → Prop
  | .skip, v => v = undef
  | .val g cs, v => v = mkVal g (cellVals γ (.tmp t) 0 cs.length) ∧ (g = false → cs.length = 1)
  | .tup l, v => v = .tuple (tupVals γ (.tmp t) l).toArray ∧ ∀ p ∈ l, p.1 = false → p.2.length = 1
  | _, _ => True
structure Core (A : Fix) (X : Ctx) (γ : Gh) (Fr : Nat → Prop) (env : Env) (a : Act) (w : World) : Prop where
  frame : Frame A w
  glob : A.G w
  zone : ∀ g, γ.Z g → g < w.heap.size
  zone0 : (∀ g, A.Z0 g → γ.Z g) ∧ ∀ g, γ.Z g → A.Z0 g ∨ A.w0.heap.size ≤ g
  defers : a.defers = []
  size : a.tmps.size = X.ntmps
  ntl : X.ntmps ≤ lentBase
  baseB : A.B ≤ A.w0.heap.size
  tmp : ∀ t, RelTmp γ t (env.get (.tmp t)) (a.tmps.getD t undef)
  box : ∀ b ver fz cs, env.get (.box b) = .box ver fz cs → (∃ T, w.heap[γ.σ b ver]? = some (.cells (cellVals γ (.box b) 0 cs.length).toArray T (0, 0))) ∧
    ((b < lentBase → A.w0.heap.size ≤ γ.σ b ver) ∧ (lentBase ≤ b → A.lb (b - lentBase) = some (γ.σ b ver))) ∧ (fz = true ↔ γ.Z (γ.σ b ver)) ∧ ¬ Fr ver
  cell : ∀ x c, envCell env x = some c → RelCell A γ w c (γ.φ x) ∧ (γ.φ x).oneCell' = true ∧ ∀ r, refs c = some r → ¬ Fr r
  own : ∀ x e t ver l, envCell env x = some (.own e t ver l) → γ.ψ x ver = γ.φ x ∧ ¬ Fr ver ∧ ∀ g, (γ.φ x).ownBlock = some g →
    ¬ γ.Z g ∧ (∀ b bv fz cs, env.get (.box b) = .box bv fz cs → γ.σ b bv ≠ g) ∧
    ∀ y e' t' ver' l', envCell env y = some (.own e' t' ver' l') → (γ.φ y).ownBlock = some g → y = x
  inj : ∀ b b' bv bv' fz fz' cs cs', env.get (.box b) = .box bv fz cs → env.get (.box b') = .box bv' fz' cs' → γ.σ b bv = γ.σ b' bv' → b = b'
  fresh : ∀ x e t ver l, envCell env x = some (.own e t ver l) → x.s.isLent = false → ∀ g, (γ.φ x).ownBlock = some g → A.w0.heap.size ≤ g
  lent : ∀ k, γ.φ ⟨.lent k, 0, 0⟩ = A.lv k
  lentloc : ∀ k c j cl, envCell env ⟨.lent k, c, j⟩ = some cl → c = 0 ∧ j = 0
def Free (A : Fix) (γ : Gh) (env : Env) (g : Nat) : Prop :=
  A.w0.heap.size ≤ g ∧ ¬ γ.Z g ∧ (∀ b bv fz cs, env.get (.box b) = .box bv fz cs → γ.σ b bv ≠ g) ∧ ∀ y e t ver l, envCell env y = some (.own e t ver l) → (γ.φ y).ownBlock ≠ some g
section
variable {A : Fix} {X : Ctx} {γ : Gh} {Fr : Nat → Prop} {env : Env} {a : Act} {w w' : World}
theorem Core.world (h : Core A X γ Fr env a w) {row : Option Nat} (hg : GrownD w w' row)
    (hr : ∀ g, row = some g → A.w0.heap.size ≤ g ∧ (g < w.heap.size → Free A γ env g)) (hG : A.G w') : Core A X γ Fr env a w' := by
  have hZ : ∀ g, γ.Z g → w'.heap[g]? = w.heap[g]? := fun g hz => hg.block g (h.zone g hz) (fun e => by
    have := (hr g e.symm).2 (h.zone g hz); exact this.2.1 hz)
  have hlt : ∀ {g : Nat} {o : Obj}, w.heap[g]? = some o → g < w.heap.size := fun hh => (Array.getElem?_eq_some_iff.1 hh).1
  refine { frame := h.frame.grow hg fun g hg => .inl (hr g hg).1, glob := hG, zone := fun g hz => Nat.lt_of_lt_of_le (h.zone g hz) hg.size, zone0 := h.zone0, defers := h.defers, size := h.size, ntl := h.ntl, baseB := h.baseB, tmp := h.tmp, box := ?_, cell := ?_, own := ?_, inj := h.inj, fresh := h.fresh, lent := h.lent, lentloc := h.lentloc }
  · intro b ver fz cs hb
    obtain ⟨⟨T, h1⟩, h2⟩ := h.box b ver fz cs hb
    refine ⟨⟨T, ?_⟩, h2⟩
    rw [hg.block _ (hlt h1) (fun e => ((hr _ e.symm).2 (hlt h1)).2.2.1 b ver fz cs hb rfl)]
    exact h1
  · intro x c hc
    obtain ⟨h1, h2, h3⟩ := h.cell x c hc
    refine ⟨h1.move (fun _ _ _ => rfl) (fun _ _ _ => rfl) (fun _ hz => hz) hZ hg.size (fun hown g hgb => ?_), h2, h3⟩
    cases c <;> simp [Cell.isOwn] at hown
    rename_i e t ver l
    have hl := h1.lt g hgb
    exact hg.block g hl.2 (fun e => ((hr g e.symm).2 hl.2).2.2.2 x _ _ _ _ hc hgb)
  · exact h.own
theorem Core.fr {Fr' : Nat → Prop} (h : Core A X γ Fr env a w) (hf : ∀ v, Fr' v → Fr v) : Core A X γ Fr' env a w :=
  { h with
    box := fun b ver fz cs hb => let ⟨h1, h2, h3, h4⟩ := h.box b ver fz cs hb; ⟨h1, h2, h3, fun hh => h4 (hf _ hh)⟩
    cell := fun x c hc => let ⟨h1, h2, h3⟩ := h.cell x c hc; ⟨h1, h2, fun r hr hh => h3 r hr (hf _ hh)⟩
    own := fun x e t ver l hc => let ⟨h1, h2, h3⟩ := h.own x e t ver l hc; ⟨h1, fun hh => h2 (hf _ hh), h3⟩ }
theorem Core.ext {env' : Env} (h : Core A X γ Fr env a w) (he : ∀ s, env'.get s = env.get s) : Core A X γ Fr env' a w := by
  have hc : ∀ x, envCell env' x = envCell env x := fun x => by simp [envCell, he]
  refine { frame := h.frame, glob := h.glob, zone := h.zone, zone0 := h.zone0, defers := h.defers, size := h.size, ntl := h.ntl, baseB := h.baseB, tmp := fun t => by rw [he]; exact h.tmp t, box := ?_, cell := ?_, own := ?_, inj := ?_, fresh := fun x e t ver l hx => h.fresh x e t ver l (by rwa [hc] at hx), lent := h.lent, lentloc := fun k c j cl hx => h.lentloc k c j cl (by rwa [hc] at hx) }
  · intro b ver fz cs hb; rw [he] at hb; exact h.box b ver fz cs hb
  · intro x c hx; rw [hc] at hx; exact h.cell x c hx
  · intro x e t ver l hx
    rw [hc] at hx
    obtain ⟨h1, h2, h3⟩ := h.own x e t ver l hx
    exact ⟨h1, h2, fun g hg => let ⟨a1, a2, a3⟩ := h3 g hg; ⟨a1, fun b bv fz cs hb => a2 b bv fz cs (by rwa [he] at hb), fun y e' t' v' l' hy => a3 y e' t' v' l' (by rwa [hc] at hy)⟩⟩
  · intro b b' bv bv' fz fz' cs cs' hb hb'; rw [he] at hb hb'; exact h.inj b b' bv bv' fz fz' cs cs' hb hb'
end
theorem relTmp_setCell {γ : Gh} {t : Nat} {v : AV} {u : Value} {i j : Nat} {c : Cell} (h : RelTmp γ t v u) : RelTmp γ t (v.setCell i j c) u := by
  cases v with
  | val g cs => cases i with
    | zero => simpa [AV.setCell, RelTmp, setNth_length] using h
    | succ i => exact h
  | tup l =>
    simp only [AV.setCell]
    by_cases hi : i < l.length
    · have hl : l[i]? = some l[i] := List.getElem?_eq_getElem hi
      simp only [hl, RelTmp] at h ⊢
      refine ⟨h.1.trans ?_, ?_⟩
      · congr 2
        apply List.ext_getElem?
        intro k
        simp only [tupVals, List.getElem?_map, List.getElem?_zipIdx, setNth_getElem?, hi, and_true]
        by_cases hk : i = k
        · subst hk; simp [hl, setNth_length]
        · simp [hk]
      · intro p hp
        obtain ⟨k, hk⟩ := List.mem_iff_getElem?.1 hp
        rw [setNth_getElem?] at hk
        split at hk
        · injection hk with hk; subst hk; simp only [setNth_length]; exact h.2 _ (List.getElem_mem hi)
        · exact h.2 p (List.mem_of_getElem? hk)
    · have hl : l[i]? = none := List.getElem?_eq_none (by omega)
      simp only [hl]; exact h
  | box w fz cs => cases i <;> exact trivial
  | undef => exact trivial
  | skip => exact h
  | num n => exact trivial
theorem get_app_cell (env : Env) (x : Loc) (c : Cell) (s : Slot) : (Upd.app env (.cell x c)).get s = if x.s = s then (env.get s).setCell x.c x.j c else env.get s := by
  simp only [Upd.app, Env.get_cons]
  by_cases h : x.s = s
  · subst h; simp
  · simp [h]
theorem envCell_app_cell (env : Env) (x y : Loc) (c : Cell) : envCell (Upd.app env (.cell x c)) y = if y = x ∧ (envCell env x).isSome then some c else envCell env y := by
  obtain ⟨s, i, j⟩ := x
  obtain ⟨s', i', j'⟩ := y
  simp only [envCell, get_app_cell]
  by_cases h : s = s'
  · subst h
    simp only [if_true, AV.cell?_setCell, Loc.mk.injEq, true_and]
    by_cases h1 : i' = i <;> by_cases h2 : j' = j <;> simp [h1, h2]
  · simp [h, Ne.symm h]
theorem box_setCell {v : AV} {i j : Nat} {c : Cell} {ver : Nat} {fz : Bool} {cs : List Cell} (h : v.setCell i j c = .box ver fz cs) : ∃ cs', v = .box ver fz cs' ∧ cs'.length = cs.length := by
  cases v with
  | box w f cs' => cases i with
    | zero => simp only [AV.setCell, AV.box.injEq] at h; obtain ⟨rfl, rfl, rfl⟩ := h; exact ⟨cs', rfl, (setNth_length _ _ _).symm⟩
    | succ i => simp only [AV.setCell, AV.box.injEq] at h; obtain ⟨rfl, rfl, rfl⟩ := h; exact ⟨cs', rfl, rfl⟩
  | val g cs' => cases i <;> simp [AV.setCell] at h
  | tup l => simp [AV.setCell] at h
  | undef => simp [AV.setCell] at h
  | skip => simp [AV.setCell] at h
  | num n => simp [AV.setCell] at h
section
variable {A : Fix} {X : Ctx} {γ : Gh} {Fr : Nat → Prop} {env : Env} {a : Act} {w w' : World}
theorem lentloc_app {env : Env} (h : ∀ k c j cl, envCell env ⟨.lent k, c, j⟩ = some cl → c = 0 ∧ j = 0) (x : Loc) (c0 : Cell) :
    ∀ k c j cl, envCell (Upd.app env (.cell x c0)) ⟨.lent k, c, j⟩ = some cl → c = 0 ∧ j = 0 := by
  intro k c j cl hy
  rw [envCell_app_cell] at hy
  split at hy
  · rename_i hh
    obtain ⟨c', hc'⟩ := Option.isSome_iff_exists.1 hh.2
    exact h k c j c' (by rw [hh.1]; exact hc')
  · exact h k c j cl hy
theorem Core.kill (h : Core A X γ Fr env a w) (x : Loc) : Core A X γ Fr (Upd.app env (.cell x .undef)) a w := by
  have hb : ∀ b ver fz cs, (Upd.app env (.cell x .undef)).get (.box b) = .box ver fz cs → ∃ cs', env.get (.box b) = .box ver fz cs' ∧ cs'.length = cs.length := by
    intro b ver fz cs hb
    rw [get_app_cell] at hb
    split at hb
    · exact box_setCell hb
    · exact ⟨cs, hb, rfl⟩
  have hc : ∀ y c, envCell (Upd.app env (.cell x .undef)) y = some c → c = .undef ∨ envCell env y = some c := by
    intro y c hy
    rw [envCell_app_cell] at hy
    split at hy
    · injection hy with hy; exact .inl hy.symm
    · exact .inr hy
  refine { frame := h.frame, glob := h.glob, zone := h.zone, zone0 := h.zone0, defers := h.defers, size := h.size, ntl := h.ntl, baseB := h.baseB, tmp := ?_, box := ?_, cell := ?_, own := ?_, inj := ?_, fresh := fun y e t ver l hy => h.fresh y e t ver l ((hc y _ hy).resolve_left (by simp)), lent := h.lent, lentloc := lentloc_app h.lentloc x _ }
  · intro t
    rw [get_app_cell]
    split
    · exact relTmp_setCell (h.tmp t)
    · exact h.tmp t
  · intro b ver fz cs hbb
    obtain ⟨cs', h1, h2⟩ := hb b ver fz cs hbb
    have := h.box b ver fz cs' h1
    rwa [h2] at this
  · intro y c hy
    rw [envCell_app_cell] at hy
    split at hy
    · rename_i hh
      injection hy with hy
      subst hy
      obtain ⟨rfl, hs⟩ := hh
      obtain ⟨c', hc'⟩ := Option.isSome_iff_exists.1 hs
      exact ⟨trivial, (h.cell y c' hc').2.1, by simp [refs]⟩
    · exact h.cell y c hy
  · intro y e t ver l hy
    rcases hc y _ hy with hh | hh
    · cases hh
    · obtain ⟨h1, h2, h3⟩ := h.own y e t ver l hh
      refine ⟨h1, h2, fun g hg => ?_⟩
      obtain ⟨a1, a2, a3⟩ := h3 g hg
      refine ⟨a1, fun b bv fz cs hbb => ?_, fun z e' t' v' l' hz hzg => ?_⟩
      · obtain ⟨cs', h1, _⟩ := hb b bv fz cs hbb
        exact a2 b bv fz cs' h1
      · rcases hc z _ hz with hh | hh
        · cases hh
        · exact a3 z e' t' v' l' hh hzg
  · intro b b' bv bv' fz fz' cs cs' h1 h2
    obtain ⟨cs1, h1, _⟩ := hb b bv fz cs h1
    obtain ⟨cs2, h2, _⟩ := hb b' bv' fz' cs' h2
    exact h.inj b b' bv bv' fz fz' cs1 cs2 h1 h2
theorem Core.kill_free (h : Core A X γ Fr env a w) {x : Loc} {e : TypeId} {t : Ty} {ver : Nat} {l : List t.den} (hx : envCell env x = some (.own e t ver l)) (hnl : x.s.isLent = false) {g : Nat} (hg : (γ.φ x).ownBlock = some g) :
    Free A γ (Upd.app env (.cell x .undef)) g := by
  obtain ⟨a1, a2, a3⟩ := (h.own x e t ver l hx).2.2 g hg
  refine ⟨h.fresh x e t ver l hx hnl g hg, a1, fun b bv fz cs hb => ?_, fun y e' t' v' l' hy hyg => ?_⟩
  · rw [get_app_cell] at hb
    split at hb
    · obtain ⟨cs', hb', _⟩ := box_setCell hb
      exact a2 b bv fz cs' hb'
    · exact a2 b bv fz cs hb
  · rw [envCell_app_cell] at hy
    split at hy
    · injection hy with hy; cases hy
    · rename_i hne
      have := a3 y e' t' v' l' hy hyg
      subst this
      exact hne ⟨rfl, by rw [hx]; rfl⟩
theorem Free.kill {g : Nat} (h : Free A γ env g) (x : Loc) : Free A γ (Upd.app env (.cell x .undef)) g := by
  refine ⟨h.1, h.2.1, fun b bv fz cs hb => ?_, fun y e t v l hy => ?_⟩
  · rw [get_app_cell] at hb
    split at hb
    · obtain ⟨cs', hb', _⟩ := box_setCell hb
      exact h.2.2.1 b bv fz cs' hb'
    · exact h.2.2.1 b bv fz cs hb
  · rw [envCell_app_cell] at hy
    split at hy
    · injection hy with hy; cases hy
    · exact h.2.2.2 y e t v l hy
theorem Core.freeze (h : Core A X γ Fr env a w) {x : Loc} {e : TypeId} {t : Ty} {ver : Nat} {l : List t.den} (hx : envCell env x = some (.own e t ver l)) (hnl : x.s.isLent = false) :
    Core A X { γ with Z := fun g => γ.Z g ∨ (γ.φ x).ownBlock = some g } Fr (Upd.app env (.cell x (.imm t l none))) a w := by
  have hb : ∀ b bv fz cs, (Upd.app env (.cell x (.imm t l none))).get (.box b) = .box bv fz cs → ∃ cs', env.get (.box b) = .box bv fz cs' ∧ cs'.length = cs.length := by
    intro b ver fz cs hb
    rw [get_app_cell] at hb
    split at hb
    · exact box_setCell hb
    · exact ⟨cs, hb, rfl⟩
  have hc : ∀ y c, envCell (Upd.app env (.cell x (.imm t l none))) y = some c → (y = x ∧ c = .imm t l none) ∨ (y ≠ x ∧ envCell env y = some c) := by
    intro y c hy
    rw [envCell_app_cell] at hy
    split at hy
    · rename_i hh; injection hy with hy; exact .inl ⟨hh.1, hy.symm⟩
    · rename_i hh
      exact .inr ⟨fun e => hh ⟨e, by rw [hx]; rfl⟩, hy⟩
  have hox := h.own x e t ver l hx
  have hcx := h.cell x _ hx
  refine { frame := h.frame, glob := h.glob, zone := ?_, zone0 := ⟨fun g hg => .inl (h.zone0.1 g hg), fun g hg => hg.elim (h.zone0.2 g) fun hg => .inr (h.fresh x e t ver l hx hnl g hg)⟩, defers := h.defers, size := h.size, ntl := h.ntl, baseB := h.baseB, tmp := ?_, box := ?_, cell := ?_, own := ?_, inj := ?_, fresh := fun y e' t' ver' l' hy => ?_, lent := h.lent, lentloc := lentloc_app h.lentloc x _ }
  · intro g hg
    rcases hg with hg | hg
    · exact h.zone g hg
    · exact (OwnV.lt hcx.1 g hg).2
  · intro t'
    rw [get_app_cell]
    split
    · exact relTmp_setCell (h.tmp t')
    · exact h.tmp t'
  · intro b ver fz cs hbb
    obtain ⟨cs', h1, h2⟩ := hb b ver fz cs hbb
    obtain ⟨b1, b2, b3, b4⟩ := h.box b ver fz cs' h1
    rw [h2] at b1
    refine ⟨b1, b2, ⟨fun hf => .inl (b3.1 hf), fun hz => ?_⟩, b4⟩
    rcases hz with hz | hz
    · exact b3.2 hz
    · exact absurd rfl ((hox.2.2 _ hz).2.1 b ver fz cs' h1)
  · intro y c hy
    rcases hc y c hy with ⟨rfl, rfl⟩ | ⟨hne, hy⟩
    · exact ⟨⟨OwnV.reads hcx.1 _ (fun g hg => .inl hg) (fun g hg => .inr hg), by simp⟩, hcx.2.1, by simp [refs]⟩
    · obtain ⟨h1, h2, h3⟩ := h.cell y c hy
      exact ⟨h1.move (fun _ _ _ => rfl) (fun _ _ _ => rfl) (fun _ hz => .inl hz) (fun _ _ => rfl) (Nat.le_refl _) (fun _ _ _ => rfl), h2, h3⟩
  · intro y e' t' ver' l' hy
    rcases hc y _ hy with ⟨_, hh⟩ | ⟨hne, hy⟩
    · cases hh
    · obtain ⟨h1, h2, h3⟩ := h.own y e' t' ver' l' hy
      refine ⟨h1, h2, fun g hg => ?_⟩
      obtain ⟨a1, a2, a3⟩ := h3 g hg
      refine ⟨fun hz => ?_, fun b bv fz cs hbb => ?_, fun z e1 t1 v1 l1 hz hzg => ?_⟩
      · rcases hz with hz | hz
        · exact a1 hz
        · exact hne (a3 x e t ver l hx hz).symm
      · obtain ⟨cs', h1, _⟩ := hb b bv fz cs hbb
        exact a2 b bv fz cs' h1
      · rcases hc z _ hz with ⟨_, hh⟩ | ⟨_, hh⟩
        · cases hh
        · exact a3 z e1 t1 v1 l1 hh hzg
  · intro b b' bv bv' fz fz' cs cs' h1 h2
    obtain ⟨cs1, h1, _⟩ := hb b bv fz cs h1
    obtain ⟨cs2, h2, _⟩ := hb b' bv' fz' cs' h2
    exact h.inj b b' bv bv' fz fz' cs1 cs2 h1 h2
  · rcases hc y _ hy with ⟨_, hh⟩ | ⟨_, hh⟩
    · cases hh
    · exact h.fresh y _ _ _ _ hh
theorem Core.flat' (h : Core A X γ Fr env a w) (x : Loc) {c c' : Cell} (hx : envCell env x = some c) (hr : ∀ r, refs c' = some r → refs c = some r) (hno : ∀ e t v l, c' ≠ .own e t v l) (hc : RelCell A γ w c (γ.φ x) → RelCell A γ w c' (γ.φ x)) :
    Core A X γ Fr (Upd.app env (.cell x c')) a w := by
  have hb : ∀ b bv fz cs, (Upd.app env (.cell x c')).get (.box b) = .box bv fz cs → ∃ cs', env.get (.box b) = .box bv fz cs' ∧ cs'.length = cs.length := by
    intro b ver fz cs hb
    rw [get_app_cell] at hb
    split at hb
    · exact box_setCell hb
    · exact ⟨cs, hb, rfl⟩
  have hc2 : ∀ y c2, envCell (Upd.app env (.cell x c')) y = some c2 → (y = x ∧ c2 = c') ∨ envCell env y = some c2 := by
    intro y c2 hy
    rw [envCell_app_cell] at hy
    split at hy
    · rename_i hh; injection hy with hy; exact .inl ⟨hh.1, hy.symm⟩
    · exact .inr hy
  have ho : ∀ y e t v l, envCell (Upd.app env (.cell x c')) y = some (.own e t v l) → envCell env y = some (.own e t v l) := by
    intro y e t v l hy
    rcases hc2 y _ hy with ⟨_, hh⟩ | hh
    · exact absurd hh.symm (hno _ _ _ _)
    · exact hh
  refine { frame := h.frame, glob := h.glob, zone := h.zone, zone0 := h.zone0, defers := h.defers, size := h.size, ntl := h.ntl, baseB := h.baseB, tmp := ?_, box := ?_, cell := ?_, own := ?_, inj := ?_, fresh := fun y e t ver l hy => h.fresh y e t ver l (ho y e t ver l hy), lent := h.lent, lentloc := lentloc_app h.lentloc x _ }
  · intro t
    rw [get_app_cell]
    split
    · exact relTmp_setCell (h.tmp t)
    · exact h.tmp t
  · intro b ver fz cs hbb
    obtain ⟨cs', h1, h2⟩ := hb b ver fz cs hbb
    have := h.box b ver fz cs' h1
    rwa [h2] at this
  · intro y c2 hy
    rcases hc2 y c2 hy with ⟨rfl, rfl⟩ | hy
    · obtain ⟨k1, k2, k3⟩ := h.cell _ c hx
      exact ⟨hc k1, k2, fun r hh => k3 r (hr r hh)⟩
    · exact h.cell y c2 hy
  · intro y e t ver l hy
    obtain ⟨h1, h2, h3⟩ := h.own y e t ver l (ho y _ _ _ _ hy)
    refine ⟨h1, h2, fun g hg => ?_⟩
    obtain ⟨a1, a2, a3⟩ := h3 g hg
    refine ⟨a1, fun b bv fz cs hbb => ?_, fun z e' t' v' l' hz hzg => a3 z e' t' v' l' (ho z _ _ _ _ hz) hzg⟩
    obtain ⟨cs', h1, _⟩ := hb b bv fz cs hbb
    exact a2 b bv fz cs' h1
  · intro b b' bv bv' fz fz' cs cs' h1 h2
    obtain ⟨cs1, h1, _⟩ := hb b bv fz cs h1
    obtain ⟨cs2, h2, _⟩ := hb b' bv' fz' cs' h2
    exact h.inj b b' bv bv' fz fz' cs1 cs2 h1 h2
theorem Core.flat (h : Core A X γ Fr env a w) (x : Loc) {c c' : Cell} (hx : envCell env x = some c) (hr : refs c' = refs c) (hno : ∀ e t v l, c' ≠ .own e t v l) (hc : RelCell A γ w c (γ.φ x) → RelCell A γ w c' (γ.φ x)) :
    Core A X γ Fr (Upd.app env (.cell x c')) a w := h.flat' x hx (fun r hh => by rw [← hr]; exact hh) hno hc
theorem Core.mine (h : Core A X γ Fr env a w) {x : Loc} {e : TypeId} {t : Ty} {ver : Nat} {l : List t.den} (hx : envCell env x = some (.own e t ver l)) {g : Nat} (hg : (γ.φ x).ownBlock = some g) : A.w0.heap.size ≤ g ∨ A.L g := by
  cases hs : x.s.isLent with
  | false => exact .inl (h.fresh x e t ver l hx hs g hg)
  | true =>
    obtain ⟨s, c, j⟩ := x
    cases s <;> simp [Slot.isLent] at hs
    rename_i k
    obtain ⟨rfl, rfl⟩ := h.lentloc k c j _ hx
    rw [h.lent k] at hg
    exact .inr (.inl ⟨k, hg⟩)
theorem Core.boxMine (h : Core A X γ Fr env a w) {b bv : Nat} {fz : Bool} {cs : List Cell} (hb : env.get (.box b) = .box bv fz cs) : A.w0.heap.size ≤ γ.σ b bv ∨ A.L (γ.σ b bv) := by
  obtain ⟨_, ⟨h1, h2⟩, _⟩ := h.box b bv fz cs hb
  rcases Nat.lt_or_ge b lentBase with hlt | hge
  · exact .inl (h1 hlt)
  · exact .inr (.inr ⟨_, h2 hge⟩)
end
end Go.VI
