/- The packings: the state of the closure 'fill'. -/
import Derived.Test.YtdejhienahdoiaaGreatViFill
import Derived.Test.YtdejhienahdoiaaGreatG41p1
import Derived.OneCell
import Derived.Lib.Hide
import Derived.Deep.QuietTactic
import Derived.BigQuiet
import Derived.Deep.RegionHeld3
import Derived.Deep.RegionLaw
import Derived.Deep.CutRange
import Derived.Laws.Rows
namespace Go.VI
open Go.Proofs Go.RowKit
set_option maxRecDepth 100000
theorem resRel_flatH {Z : Nat → Prop} {w : World} {B : Nat} {avs : List Value} {R : List (Bool × Ty)} {r : denL R} {us : List Value} (hR : flatR R = true) (h : ResRel Z w B avs (resL R r []) us) : us = (resC R r).map cellV := by
  rw [resL_plain R r [] hR] at h
  obtain ⟨f, h1, h2, _⟩ := h
  apply List.ext_getElem?
  intro i
  rw [List.getElem?_map]
  cases hc : (resC R r)[i]? with
  | none =>
    rw [List.getElem?_eq_none]
    · rfl
    · have := List.getElem?_eq_none_iff.1 hc
      rw [h1, List.length_map]; exact this
  | some c =>
    obtain ⟨g1, _, g3⟩ := h2 i (false, [RCell.flat c]) (by rw [List.getElem?_map, hc]; rfl)
    have := (g3 0 _ rfl).2
    rw [g1]
    simp only [List.length_cons, List.length_nil, Nat.zero_add, List.range_one, List.map_cons, List.map_nil, mkVal, List.headD_cons, Option.map_some]
    rw [this]
section
variable {P : Program} {G : World → Prop} {f : FuncId} {fn : Func} {c : Code} {As : List ATy} {Z : Nat → Prop} {w : World} {xs : denA As} {vs : List Value}
theorem flatH_calls {R : List (Bool × Ty)} {F : denA As → Option (denL R)} (hs : Sound P G f ⟨As, R, [], F⟩) (hR : flatR R = true)
    (hf : P.funcs[f]? = some fn) (hb : fn.body = some c) (hn : (fn.name == "runtime.NumGoroutine") = false) {r : denL R} (hG : G w) (hZ : ∀ g, Z g → g < w.heap.size) (hrel : RelArgs P G Z w As xs vs) (hF : F xs = some r) :
    Calls P f vs.toArray w fun e w' => e = .returned (mkRes ((resC R r).map cellV)) ∧ Below w.heap.size w w' := by
  refine (FCalls.calls (enter_run hf hb hn) (hs w Z vs xs r hG hZ hrel hF)).mono ?_
  rintro e w' ⟨v, rfl, Z', us, rfl, hbel, _, _, hres⟩
  rw [resRel_flatH hR hres]
  exact ⟨rfl, hbel⟩
theorem rowH_calls {t : Ty} {e : TypeId} {F : denA As → Option (denL [(false, .sl t)])} (hs : Sound P G f ⟨As, [(false, .sl t)], [.own e], F⟩) (ht : leads t = false)
    (hf : P.funcs[f]? = some fn) (hb : fn.body = some c) (hn : (fn.name == "runtime.NumGoroutine") = false) {r : denL [(false, Ty.sl t)]} (hG : G w) (hZ : ∀ g, Z g → g < w.heap.size) (hrel : RelArgs P G Z w As xs vs) (hF : F xs = some r) :
    Calls P f vs.toArray w fun e' w' => ∃ v, e' = .returned v ∧ Below w.heap.size w w' ∧ OwnV (fun _ => False) w' w.heap.size e t v r.1 := by
  refine (FCalls.calls (enter_run hf hb hn) (hs w Z vs xs r hG hZ hrel hF)).mono ?_
  rintro e' w' ⟨v, rfl, Z', us, rfl, hbel, _, _, g, h1, h2, h3⟩
  have hr : (resL [(false, Ty.sl t)] r [RMode.own e])[0]? = some (false, [RCell.own e t r.1]) := rfl
  obtain ⟨k1, _, k3⟩ := h2 0 _ hr
  have hv := (k3 0 _ rfl).1
  have hus : us = [g 0 0] := by
    match us, h1, k1 with
    | [u], _, k1 =>
      have : u = mkVal false ((List.range 1).map (g 0)) := by simpa using k1
      rw [this]; rfl
    | [], h1, _ => cases h1
    | _ :: _ :: _, h1, _ => cases h1
  subst hus
  exact ⟨g 0 0, rfl, hbel, hv.flat ht⟩
theorem arrH_calls {F : denA As → Option (denL [(true, T_A3)])} (hs : Sound P G f ⟨As, [(true, T_A3)], [], F⟩)
    (hf : P.funcs[f]? = some fn) (hb : fn.body = some c) (hn : (fn.name == "runtime.NumGoroutine") = false) {r : D_A3} (hG : G w) (hZ : ∀ g, Z g → g < w.heap.size) (hrel : RelArgs P G Z w As xs vs) (hF : F xs = some (r, ())) :
    Calls P f vs.toArray w fun e' w' => e' = .returned (.agg #[.int .i64 r.1, .int .i64 r.2.1, .int .i64 r.2.2.1]) ∧ Below w.heap.size w w' := by
  refine (FCalls.calls (enter_run hf hb hn) (hs w Z vs xs (r, ()) hG hZ hrel hF)).mono ?_
  rintro e' w' ⟨v, rfl, Z', us, rfl, hbel, _, _, g, h1, h2, _⟩
  obtain ⟨k1, _, k3⟩ := h2 0 (true, [RCell.flat (.int .i64 r.1), RCell.flat (.int .i64 r.2.1), RCell.flat (.int .i64 r.2.2.1)]) rfl
  have a0 := (k3 0 _ rfl).2
  have a1 := (k3 1 _ rfl).2
  have a2 := (k3 2 _ rfl).2
  match us, h1, k1 with
  | [u], _, k1 =>
    have : u = mkVal true ((List.range 3).map (g 0)) := by simpa using k1
    refine ⟨?_, hbel⟩
    rw [this]
    show Ending.returned (.agg #[g 0 0, g 0 1, g 0 2]) = _
    rw [a0, a1, a2]
    rfl
  | [], h1, _ => cases h1
  | _ :: _ :: _, h1, _ => cases h1
end
theorem OwnV.slice1 {Z : Nat → Prop} {w : World} {B : Nat} {e : TypeId} {t : Ty} {v : Value} {l : List t.den} (h : OwnV Z w B e t v l) : ∃ a c, v = .slice a l.length c := by
  obtain ⟨_, xs, ho, _⟩ := h
  rcases ho.2 with ⟨rfl, h0⟩ | ⟨g, c, cur, fz, rfl, _⟩
  · exact ⟨none, 0, by rw [h0]⟩
  · exact ⟨_, _, rfl⟩
theorem belowThen {w0 w w' : World} (h : Below w0.heap.size w0 w) (k : Below w.heap.size w w') : Below w0.heap.size w0 w' :=
  ⟨k.os.trans h.os, k.tape.trans h.tape, k.output.trans h.output, Nat.le_trans h.size k.size, fun g hg => (k.block g (Nat.lt_of_lt_of_le hg h.size)).trans (h.block g hg), Nat.le_trans h.drawn k.drawn⟩
theorem belowAlloc (w : World) (o : Obj) : Below w.heap.size w (w.alloc o) := (Below.refl _ w).alloc (Nat.le_refl _) o
theorem belowA {w0 w : World} (h : Below w0.heap.size w0 w) (o : Obj) : Below w0.heap.size w0 (w.alloc o) := belowThen h (belowAlloc w o)
theorem alloc_at (w : World) (o : Obj) : (w.alloc o).heap[w.heap.size]? = some o := heap_alloc_new w o
theorem box3 {w : World} {b t : Nat} {a0 a1 a2 : Value} (h : w.heap[b]? = some (.cells #[a0, a1, a2] t (0, 0))) :
    (w.cell? ⟨b, 0, none⟩ = some a0 ∧ w.cell? ⟨b, 1, none⟩ = some a1 ∧ w.cell? ⟨b, 2, none⟩ = some a2) := by
  refine ⟨?_, ?_, ?_⟩ <;> simp [World.cell?, h]
theorem belowBlock {w w' : World} {g : Nat} {o : Obj} (h : w.heap[g]? = some o) (hb : Below w.heap.size w w') : w'.heap[g]? = some o := (hb.block g (lt_of_block h)).trans h
def ptrTo (b : Nat) : Value := .pointer (some ⟨b, 0, none⟩)
theorem repA3 {Z : Nat → Prop} {w : World} (a b c : Int) : RepI Z w T_A3 (a, b, c, ()) [.int .i64 a, .int .i64 b, .int .i64 c] := ⟨[_], _, rfl, rfl, [_], _, rfl, rfl, [_], _, rfl, rfl, rfl⟩
structure Vis (σ : Type) where
  fn : FuncId
  cap : Nat
  inv : Nat → σ → World → Prop
  run : List Int → σ → Bool × σ
theorem frameBelow {S : Nat → Prop} {w w' : World} (h : Below w.heap.size w w') : FrameL S w w' := ⟨h.os, h.tape, h.output, h.size, fun k hk _ => h.block k hk, h.drawn⟩
theorem FrameL.andThen {S : Nat → Prop} {w w1 w2 : World} (h : FrameL S w w1) (k : FrameL S w1 w2) : FrameL S w w2 :=
  ⟨k.os.trans h.os, k.tape.trans h.tape, k.output.trans h.output, Nat.le_trans h.size k.size, fun q hq hn => (k.block q (Nat.lt_of_lt_of_le hq h.size) hn).trans (h.block q hq hn), Nat.le_trans h.drawn k.drawn⟩
theorem FrameL.self {S : Nat → Prop} (w : World) : FrameL S w w := ⟨rfl, rfl, rfl, Nat.le_refl _, fun _ _ _ => rfl, Nat.le_refl _⟩
theorem FrameL.weak {S T : Nat → Prop} {w w' : World} (h : FrameL S w w') (hST : ∀ g, S g → T g) : FrameL T w w' := ⟨h.os, h.tape, h.output, h.size, fun k hk hn => h.block k hk fun e => hn (hST k e), h.drawn⟩
structure VisOK {σ : Type} (V : Vis σ) (base Lg : Nat) : Prop where
  lt : ∀ s w, V.inv Lg s w → V.cap < w.heap.size
  keep : ∀ s w w', V.inv Lg s w → (∀ g, g < w.heap.size → g ≠ Lg → w'.heap[g]? = w.heap[g]?) → w.heap.size ≤ w'.heap.size → V.inv Lg s w'
  call : ∀ s (l : List Int) w lv, V.inv Lg s w → w.ownsRow base 3 1 lv l.length (ints l) → lv.ownBlock = some Lg → l ≠ [] → l.length ≤ 100 →
    FCalls Tryz.prog V.fn #[lv, ptrTo V.cap] w fun v w' => v = .bool (V.run l s).1 ∧ V.inv Lg (V.run l s).2 w' ∧ FrameL (fun g => g = V.cap) w w'
structure Plc where
  base : Nat
  P : Nat
  Vb : Nat
  Lb : Nat
  Bx : Nat
  K : Nat
  Lg : Nat
  cap : Nat
def Plc.args (p : Plc) : Array Value := #[ptrTo p.P, ptrTo p.Vb, ptrTo p.Lb, ptrTo p.Bx, ptrTo p.K]
structure PkW {σ : Type} (V : Vis σ) (p : Plc) (b : D_A3) (Zz : Nat → Prop) (pv : Value) (pieces : List (List D_A3)) (l : List Int) (s : σ) (w : World) : Prop where
  pcb : w.heap[p.P]? = some (.cells #[pv] 27 (0, 0))
  vis : w.heap[p.Vb]? = some (.cells #[.func (.func V.fn) #[] #[ptrTo V.cap]] 51 (0, 0))
  lst : w.heap[p.Lb]? = some (.cells #[.slice (some ⟨p.Lg, 0, none⟩) l.length p.cap] 32 (0, 0))
  box : w.heap[p.Bx]? = some (.cells #[.int .i64 b.1, .int .i64 b.2.1, .int .i64 b.2.2.1] 58 (0, 0))
  fn : w.heap[p.K]? = some (.cells #[.func (.func 51) #[] p.args] 83 (0, 0))
  row : w.ownsRow p.base 3 1 (.slice (some ⟨p.Lg, 0, none⟩) l.length p.cap) l.length (ints l)
  pcs : RepI Zz w (.sl (.sl T_A3)) pieces [pv]
  zone : ∀ g, Zz g → g < p.base ∧ g ≠ V.cap
  inv : V.inv p.Lg s w
  out : V.cap ≠ p.P ∧ V.cap ≠ p.Vb ∧ V.cap ≠ p.Lb ∧ V.cap ≠ p.Bx ∧ V.cap ≠ p.K ∧ V.cap ≠ p.Lg
def Plc.S (p : Plc) (c : Nat) : Nat → Prop := fun g => g = c ∨ g = p.Lg
section
variable {σ : Type} {V : Vis σ} {p : Plc} {b : D_A3} {Zz : Nat → Prop} {pv : Value} {pieces : List (List D_A3)} {l : List Int} {s : σ} {w : World}
theorem PkW.lg (h : PkW V p b Zz pv pieces l s w) : ∃ cur, w.heap[p.Lg]? = some (.cells cur 3 (0, 0)) ∧ p.base ≤ p.Lg ∧ l.length ≤ p.cap ∧ cur.size = p.cap * 1 ∧ cur.toList.take (l.length * 1) = ints l := by
  rcases h.row.2 with ⟨e, _⟩ | ⟨g, cap, cur, e, hb, hg, hn, _, hs, ht⟩
  · cases e
  · simp only [Value.slice.injEq, Option.some.injEq, Addr.mk.injEq, and_true, true_and] at e
    obtain ⟨rfl, rfl⟩ := e
    exact ⟨cur, hg, hb, hn, hs, ht⟩
theorem tagNe {w : World} {a c : Nat} {x y : Array Value} {s t : TypeId} {f : Nat × Nat} (h : w.heap[a]? = some (.cells x s f)) (k : w.heap[c]? = some (.cells y t f)) (hst : s ≠ t) : a ≠ c := fun e => by
  subst e
  rw [h] at k
  simp only [Option.some.injEq, Obj.cells.injEq] at k
  exact hst k.2.1
theorem PkW.ne (h : PkW V p b Zz pv pieces l s w) : p.P ≠ p.Lg ∧ p.Vb ≠ p.Lg ∧ p.Lb ≠ p.Lg ∧ p.Bx ≠ p.Lg ∧ p.K ≠ p.Lg := by
  obtain ⟨cur, hg, _⟩ := h.lg
  exact ⟨tagNe h.pcb hg (by decide), tagNe h.vis hg (by decide), tagNe h.lst hg (by decide), tagNe h.box hg (by decide), tagNe h.fn hg (by decide)⟩
theorem repZone {Z : Nat → Prop} {w w' : World} {t : Ty} {x : t.den} {cs : List Value} (h : RepI Z w t x cs) (hw : ∀ g, Z g → w'.heap[g]? = w.heap[g]?) : RepI Z w' t x cs := RepI.mono (fun _ h => h) hw _ _ _ h
theorem PkW.step (h : PkW V p b Zz pv pieces l s w) {w' : World} {l' : List Int} {s' : σ} (hf : FrameL (p.S V.cap) w w') (hl : l'.length = l.length)
    (hrow : w'.ownsRow p.base 3 1 (.slice (some ⟨p.Lg, 0, none⟩) l.length p.cap) l.length (ints l')) (hi : V.inv p.Lg s' w') : PkW V p b Zz pv pieces l' s' w' := by
  obtain ⟨n1, n2, n3, n4, n5⟩ := h.ne
  obtain ⟨o1, o2, o3, o4, o5, o6⟩ := h.out
  obtain ⟨cur, hg, hb, _⟩ := h.lg
  have hbs : p.base ≤ w.heap.size := Nat.le_trans hb (Nat.le_of_lt (lt_of_block hg))
  have same : ∀ {g : Nat} {o : Obj}, w.heap[g]? = some o → g ≠ V.cap → g ≠ p.Lg → w'.heap[g]? = some o := fun {g o} hg h1 h2 => (hf.block g (lt_of_block hg) fun e => e.elim h1 h2).trans hg
  refine ⟨same h.pcb (Ne.symm o1) n1, same h.vis (Ne.symm o2) n2, ?_, same h.box (Ne.symm o4) n4, same h.fn (Ne.symm o5) n5, ?_, repZone h.pcs fun g hg' => hf.block g (Nat.lt_of_lt_of_le (h.zone g hg').1 hbs) fun e => ?_, h.zone, hi, h.out⟩
  · rw [hl]; exact same h.lst (Ne.symm o3) n3
  · rw [hl]; exact hrow
  · have := h.zone g hg'
    rcases e with e | e
    · exact this.2 e
    · omega
theorem PkW.below (h : PkW V p b Zz pv pieces l s w) (hok : VisOK V p.base p.Lg) {w' : World} (hb : Below w.heap.size w w') : PkW V p b Zz pv pieces l s w' := by
  refine h.step (frameBelow hb) rfl ?_ (hok.keep s w w' h.inv (fun g hg _ => hb.block g hg) hb.size)
  refine ⟨h.row.1, ?_⟩
  rcases h.row.2 with hn | ⟨g, cap, cur, e, hbs, hg, rest⟩
  · exact .inl hn
  · exact .inr ⟨g, cap, cur, e, hbs, (hb.block g (lt_of_block hg)).trans hg, rest⟩
theorem PkW.cells (h : PkW V p b Zz pv pieces l s w) : w.cell? ⟨p.P, 0, none⟩ = some pv ∧ w.cell? ⟨p.Vb, 0, none⟩ = some (.func (.func V.fn) #[] #[ptrTo V.cap]) ∧ w.cell? ⟨p.Lb, 0, none⟩ = some (.slice (some ⟨p.Lg, 0, none⟩) l.length p.cap) ∧
    w.cell? ⟨p.Bx, 0, none⟩ = some (.int .i64 b.1) ∧ w.cell? ⟨p.Bx, 1, none⟩ = some (.int .i64 b.2.1) ∧ w.cell? ⟨p.Bx, 2, none⟩ = some (.int .i64 b.2.2.1) ∧ w.cell? ⟨p.K, 0, none⟩ = some (.func (.func 51) #[] p.args) := by
  refine ⟨cell_of_one h.pcb, cell_of_one h.vis, cell_of_one h.lst, ?_, ?_, ?_, cell_of_one h.fn⟩ <;> simp [World.cell?, h.box]
theorem set1 {w : World} {b t : Nat} {cur : Array Value} {fz : Nat × Nat} (h : w.heap[b]? = some (.cells cur t fz)) (j : Nat) (v : Value) : (w.setCell ⟨b, j, none⟩ v).heap[b]? = some (.cells (cur.setIfInBounds j v) t fz) := by
  have hlt := lt_of_block h
  have h' : w.heap[b] = .cells cur t fz := by simpa [Array.getElem?_eq_getElem hlt] using h
  show (w.heap.modify b _)[b]? = _
  rw [Array.getElem?_eq_getElem (by simpa using hlt), Array.getElem_modify_self, h']
  rfl
theorem PkW.put (h : PkW V p b Zz pv pieces l s w) (hok : VisOK V p.base p.Lg) {k : Nat} (hk : k < l.length) (x : Int) : PkW V p b Zz pv pieces (l.set k x) s (w.setCell ⟨p.Lg, k, none⟩ (.int .i64 x)) ∧ FrameL (p.S V.cap) w (w.setCell ⟨p.Lg, k, none⟩ (.int .i64 x)) ∧
    (∃ u, w.cell? ⟨p.Lg, k, none⟩ = some u) ∧ w.frozen? ⟨p.Lg, k, none⟩ = false := by
  obtain ⟨cur, hg, hb, hn, hs, ht⟩ := h.lg
  have hf : FrameL (p.S V.cap) w (w.setCell ⟨p.Lg, k, none⟩ (.int .i64 x)) := ⟨rfl, rfl, rfl, by simp, fun g hg hne => Below.heap_setCell _ _ _ _ (fun e => hne (.inr e)), Nat.le_refl _⟩
  have hkc : k < cur.size := by omega
  refine ⟨h.step hf (by simp) ?_ (hok.keep s w _ h.inv (fun g _ hne => Below.heap_setCell _ _ _ _ hne) (by simp)), hf, ⟨cur[k], by simp [World.cell?, hg, hkc]⟩, by simp [World.frozen?, hg]⟩
  refine ⟨by simp [ints], .inr ⟨p.Lg, p.cap, _, rfl, hb, set1 hg k _, hn, ?_, by simpa using hs, ?_⟩⟩
  · rcases h.row.2 with ⟨e, _⟩ | ⟨g, cap, _, e, _, _, _, hm, _⟩
    · cases e
    · simp only [Value.slice.injEq, Option.some.injEq, Addr.mk.injEq, and_true, true_and] at e
      obtain ⟨rfl, rfl⟩ := e
      exact hm
  · rw [Array.toList_setIfInBounds, List.take_set, ht]
    simp [ints, List.map_set]
end
end Go.VI
namespace Go.VI
open Go.Proofs Go.RowKit
set_option maxRecDepth 100000
def boxA (b : D_A3) : Value := .agg #[.int .i64 b.1, .int .i64 b.2.1, .int .i64 b.2.2.1]
theorem c_list {W : World} {b : D_A3} {f : Int} {L : List D_A3} (hF : P_box_list (b, f, ()) = some (L, ())) :
    Calls Tryz.prog 32 #[boxA b, .int .u64 f] W fun e' w' => ∃ v, e' = .returned v ∧ Below W.heap.size W w' ∧ OwnV (fun _ => False) w' W.heap.size 57 T_A3 v L :=
  rowH_calls (fn := Tryz.f32) s_box_list rfl Tryz.func32 rfl (by kernel_rfl) (Z := fun _ => False) trivial (fun _ h => h.elim) (xs := (b, f, ())) (vs := [boxA b, .int .u64 f])
    ⟨_, _, rfl, (fun h => by cases h), repA3 b.1 b.2.1 b.2.2.1, _, _, rfl, (fun _ => rfl), rfl, rfl⟩ hF
theorem c_added {W : World} {c d r : D_A3} (hF : P_impl_added (c, d, ()) = some (r, ())) :
    Calls Tryz.prog 52 #[boxA c, boxA d] W fun e' w' => e' = .returned (.agg #[.int .i64 r.1, .int .i64 r.2.1, .int .i64 r.2.2.1]) ∧ Below W.heap.size W w' :=
  arrH_calls (fn := Tryz.f52) s_impl_added Tryz.func52 rfl (by kernel_rfl) (Z := fun _ => False) trivial (fun _ h => h.elim) (xs := (c, d, ())) (vs := [boxA c, boxA d])
    ⟨_, _, rfl, (fun h => by cases h), repA3 c.1 c.2.1 c.2.2.1, _, _, rfl, (fun h => by cases h), repA3 d.1 d.2.1 d.2.2.1, rfl⟩ hF
theorem c_placed {Z : Nat → Prop} {W : World} {b : D_A3} {f : Int} {q : List D_A3} {v : Value} {a : D_A3} {r : Int} {ok : Bool} (hz : ∀ g, Z g → g < W.heap.size) (hq : RepI Z W (.sl T_A3) q [v]) (hF : P_box_placed (b, f, q, a, ()) = some (r, ok, ())) :
    Calls Tryz.prog 49 #[boxA b, .int .u64 f, v, boxA a] W fun e' w' => e' = .returned (.tuple #[.int .u64 r, .bool ok]) ∧ Below W.heap.size W w' :=
  flatH_calls (fn := Tryz.f49) (r := (r, ok, ())) s_box_placed rfl Tryz.func49 rfl (by kernel_rfl) (Z := Z) trivial hz (xs := (b, f, q, a, ())) (vs := [boxA b, .int .u64 f, v, boxA a])
    ⟨_, _, rfl, (fun h => by cases h), repA3 b.1 b.2.1 b.2.2.1, _, _, rfl, (fun _ => rfl), rfl, _, _, rfl, (fun _ => rfl), hq, _, _, rfl, (fun h => by cases h), repA3 a.1 a.2.1 a.2.2.1, rfl⟩ hF
def hasB (c : Int) (k : Nat) : Bool := decide ((intBits .and .u64 (shrI .u64 c (k : Int)) 1) = 1)
theorem f_hasB (c : Int) (k : Nat) : P_set_has (c, (k : Int), ()) = some (hasB c k, ()) := by
  rw [p_set_has, decide_eq_true (show (0 : Int) ≤ (k : Int) by omega)]; rfl
theorem c_hasB {W : World} (c : Int) (k : Nat) : Calls Tryz.prog 53 #[.int .u64 c, .int .i64 (k : Int)] W fun e' w' => e' = .returned (.bool (hasB c k)) ∧ Below W.heap.size W w' :=
  flatH_calls (fn := Tryz.f53) (r := (hasB c k, ())) s_set_has rfl Tryz.func53 rfl (by kernel_rfl) (Z := fun _ => False) trivial (fun _ h => h.elim) (xs := (c, (k : Int), ())) (vs := [.int .u64 c, .int .i64 (k : Int)])
    ⟨_, _, rfl, (fun _ => rfl), rfl, _, _, rfl, (fun _ => rfl), rfl, rfl⟩ (f_hasB c k)
theorem piece_at {Z : Nat → Prop} {w : World} {pieces : List (List D_A3)} {A : Option Addr} {n c : Nat} (h : RepI Z w (.sl (.sl T_A3)) pieces [.slice A n c]) {i : Nat} {q : List D_A3} (hq : pieces[i]? = some q) :
    ∃ a v, A = some a ∧ w.cell? (a.add i) = some v ∧ RepI Z w (.sl T_A3) q [v] := by
  obtain ⟨A', c', e, _, h⟩ := h
  obtain ⟨rfl, _, _⟩ : A' = A ∧ pieces.length = n ∧ c' = c := by simpa [eq_comm] using e
  obtain ⟨a, rfl, _, xs, hr, hx⟩ := h i q hq
  have hr' := hr
  obtain ⟨A2, c2, rfl, _⟩ := hr'
  refine ⟨a, _, rfl, ?_, hr⟩
  have := hx 0 _ rfl
  simpa [Ty.size] using this
theorem first_at {Z : Nat → Prop} {w : World} {q : List D_A3} {v : Value} (h : RepI Z w (.sl T_A3) q [v]) (hne : q ≠ []) : ∃ a c, v = .slice (some a) q.length c ∧
    w.cell? a = some (.int .i64 (q.head hne).1) ∧ w.cell? ⟨a.block, a.off + 1, none⟩ = some (.int .i64 (q.head hne).2.1) ∧ w.cell? ⟨a.block, a.off + 2, none⟩ = some (.int .i64 (q.head hne).2.2.1) := by
  obtain ⟨A, c, e, _, h⟩ := h
  obtain ⟨a, rfl, _, xs, hr, hx⟩ := h 0 (q.head hne) (by cases q with | nil => exact absurd rfl hne | cons x r => rfl)
  obtain ⟨c1, c2, rfl, e1, c3, c4, rfl, e2, c5, c6, rfl, e3, e4⟩ := hr
  obtain rfl : c1 = [.int .i64 (q.head hne).1] := e1
  obtain rfl : c3 = [.int .i64 (q.head hne).2.1] := e2
  obtain rfl : c5 = [.int .i64 (q.head hne).2.2.1] := e3
  have h0 := hx 0 _ rfl
  have h1 := hx 1 _ rfl
  have h2 := hx 2 _ rfl
  refine ⟨a, c, by simpa using e, ?_, ?_, ?_⟩
  · have h0' : w.cell? (a.add 0) = some (.int .i64 (q.head hne).1) := by simpa [Ty.size] using h0
    rwa [Addr.add_zero'] at h0'
  · have h1' : w.cell? (a.add 1) = some (.int .i64 (q.head hne).2.1) := by simpa [Ty.size] using h1
    exact h1'
  · have h2' : w.cell? (a.add 2) = some (.int .i64 (q.head hne).2.2.1) := by simpa [Ty.size] using h2
    exact h2'
def putL (cells i : Int) : Nat → List Int → List Int
  | _, [] => []
  | k, x :: r => (bif hasB cells k then i else x) :: putL cells i (k + 1) r
theorem putL_len (cells i : Int) : ∀ (k : Nat) (l : List Int), (putL cells i k l).length = l.length
  | _, [] => rfl
  | k, x :: r => by simp [putL, putL_len cells i (k + 1) r]
theorem putL_at {cells i : Int} {k : Nat} {l : List Int} (hk : k < l.length) : putL cells i k (l.drop k) = (bif hasB cells k then i else l[k]) :: putL cells i (k + 1) (l.drop (k + 1)) := by
  rw [List.drop_eq_getElem_cons hk]; rfl
theorem putL_skip {cells i : Int} {k : Nat} {l : List Int} (hk : k < l.length) (h : hasB cells k = false) : l.take (k + 1) ++ putL cells i (k + 1) (l.drop (k + 1)) = l.take k ++ putL cells i k (l.drop k) := by
  rw [putL_at hk, h, List.take_succ_eq_append_getElem hk, List.append_assoc]; rfl
theorem putL_set {cells i : Int} {k : Nat} {l : List Int} (hk : k < l.length) (h : hasB cells k = true) : (l.set k i).take (k + 1) ++ putL cells i (k + 1) ((l.set k i).drop (k + 1)) = l.take k ++ putL cells i k (l.drop k) := by
  have hk' : k < (l.set k i).length := by simpa using hk
  rw [putL_at hk, h, List.take_succ_eq_append_getElem hk', List.getElem_set_self, List.drop_set_of_lt (by omega), List.take_set_of_le (by omega), List.append_assoc]; rfl
noncomputable def atF (first : D_A3) (q : List D_A3) : Option D_A3 :=
  match q with
  | [] => none
  | c :: _ => Option.bind (P_impl_added (first, (IntKind.i64.wrap (-c.1), IntKind.i64.wrap (-c.2.1), IntKind.i64.wrap (-c.2.2.1), ()), ())) fun r => some r.1
noncomputable def piecesF {σ : Type} (rec : Int → Int → List Int → σ → Option (Bool × List Int × σ)) (b : D_A3) (free used : Int) (first : D_A3) : Nat → List (List D_A3) → List Int → σ → Option (Bool × List Int × σ)
  | _, [], l, s => some (true, l, s)
  | i, q :: r, l, s => bif (bits .and .i64 (used / 2 ^ i) 1 == 1) then piecesF rec b free used first (i + 1) r l s else
      Option.bind (atF first q) fun a => Option.bind (P_box_placed (b, free, q, a, ())) fun c =>
      bif !c.2.1 then piecesF rec b free used first (i + 1) r l s else
      Option.bind (rec (bits .andNot .u64 free c.1) (bits .or .i64 used (IntKind.i64.wrap (2 ^ i))) (putL c.1 (i : Int) 0 l) s) fun x =>
      bif !x.1 then some (false, x.2.1, x.2.2) else piecesF rec b free used first (i + 1) r x.2.1 x.2.2
noncomputable def fillF {σ : Type} (run : List Int → σ → Bool × σ) (b : D_A3) (pieces : List (List D_A3)) : Nat → Int → Int → List Int → σ → Option (Bool × List Int × σ)
  | 0, _, _, _, _ => none
  | m + 1, free, used, l, s =>
    bif decide (free = 0) then bif used != wrap64 (wrap64 (2 ^ pieces.length) - 1) then some (true, l, s) else some ((run l s).1, l, (run l s).2)
    else Option.bind (P_box_list (b, bits .and .u64 free (IntKind.u64.wrap (-free)), ())) fun L =>
      match L.1 with
      | [] => none
      | first :: _ => piecesF (fillF run b pieces m) b free used first 0 pieces l s
end Go.VI
namespace Go.VI
open Go.Proofs Go.RowKit
set_option maxRecDepth 100000
theorem upon_call {P : Program} {o : Oper} {a : Act} {w : World} {K : Act → World → Prop} {Q : Exit → Act → World → Prop} {f : FuncId} {args : Array Value} {R : Value → World → Prop} (h : FCalls P f args w R) (hK : ∀ v w', R v w' → K (a.put o.dst v) w') :
    Oper.upon P o a K Q ((callFunc f args).run P w) := by
  rcases h with ⟨v, w', h1, h2⟩ | ⟨h1, h2⟩
  · rw [h1]; exact hK _ _ h2
  · rw [h1, Oper.upon_enter]
    refine h2.mono ?_
    rintro e w' ⟨v, rfl, hh⟩
    exact hK _ _ hh
theorem rowSame {w w' : World} {base : Nat} {e : TypeId} {size : Nat} {v : Value} {n : Nat} {xs : List Value} (h : w.ownsRow base e size v n xs) (hs : ∀ g, v.ownBlock = some g → w'.heap[g]? = w.heap[g]?) : w'.ownsRow base e size v n xs := by
  refine ⟨h.1, ?_⟩
  rcases h.2 with hn | ⟨g, cap, cur, rfl, hb, hg, rest⟩
  · exact .inl hn
  · exact .inr ⟨g, cap, cur, rfl, hb, by rw [hs g rfl]; exact hg, rest⟩
theorem list_at {w w2 : World} {v : Value} {c : D_A3} {r : List D_A3} (_ : Below w.heap.size w w2) (h : OwnV (fun _ => False) w2 w.heap.size 57 T_A3 v (c :: r)) : ∃ g k, v = .slice (some ⟨g, 0, none⟩) (r.length + 1) k ∧
    w2.cell? ⟨g, 0, none⟩ = some (.int .i64 c.1) ∧ w2.cell? ⟨g, 1, none⟩ = some (.int .i64 c.2.1) ∧ w2.cell? ⟨g, 2, none⟩ = some (.int .i64 c.2.2.1) := by
  have hr : RepI (fun _ => True) w2 (.sl T_A3) (c :: r) [v] := h.reads _ (fun _ h => h.elim) fun _ _ => trivial
  obtain ⟨x, y, rfl⟩ := h.slice1
  obtain ⟨_, xs, ho, _⟩ := h
  rcases ho.2 with ⟨e, h0⟩ | ⟨g, cap, cur, fz, e, _⟩
  · simp at h0
  · obtain ⟨rfl, _⟩ : x = some ⟨g, 0, none⟩ ∧ y = cap := by simpa using e
    obtain ⟨a, k, e2, h0, h1, h2⟩ := first_at hr (by simp)
    obtain ⟨rfl, _⟩ : (⟨g, 0, none⟩ : Addr) = a ∧ y = k := by simpa using e2
    exact ⟨g, y, rfl, h0, h1, h2⟩
theorem atF_is {first at' c0 : D_A3} {q : List D_A3} (h : atF first q = some at') (hq : q ≠ []) (hc : q.head hq = c0) : P_impl_added (first, (IntKind.i64.wrap (-c0.1), IntKind.i64.wrap (-c0.2.1), IntKind.i64.wrap (-c0.2.2.1), ()), ()) = some (at', ()) := by
  cases q with
  | nil => exact absurd rfl hq
  | cons c r =>
    obtain rfl : c = c0 := hc
    have h' : (Option.bind (P_impl_added (first, (IntKind.i64.wrap (-c.1), IntKind.i64.wrap (-c.2.1), IntKind.i64.wrap (-c.2.2.1), ()), ())) fun r => some r.1) = some at' := h
    cases hr : P_impl_added (first, (IntKind.i64.wrap (-c.1), IntKind.i64.wrap (-c.2.1), IntKind.i64.wrap (-c.2.2.1), ()), ()) with
    | none => rw [hr] at h'; cases h'
    | some r' =>
      obtain ⟨r1, ⟨⟩⟩ := r'
      rw [hr] at h'
      obtain rfl := Option.some.inj h'
      rfl
theorem free3 {w : World} {b t : Nat} {a0 a1 a2 : Value} (h : w.heap[b]? = some (.cells #[a0, a1, a2] t (0, 0))) :
    w.frozen? ⟨b, 0, none⟩ = false ∧ w.frozen? ⟨b, 1, none⟩ = false ∧ w.frozen? ⟨b, 2, none⟩ = false := by
  refine ⟨?_, ?_, ?_⟩ <;> simp [World.frozen?, h]
theorem belowD {w W : World} (h : Below w.heap.size w W) : Below w.heap.size w W.drew := h.drew
theorem cellB {w w' : World} {a : Addr} {u : Value} (h : w.cell? a = some u) (hb : Below w.heap.size w w') : w'.cell? a = some u := by
  rw [World.cell?_of_block (w := w)]
  · exact h
  · exact hb.block a.block (World.block_lt_of_cell? w _ h)
theorem belowS {w0 w : World} (h : Below w0.heap.size w0 w) {T : Nat} (hT : w0.heap.size ≤ T) {j : Nat} {v : Value} : Below w0.heap.size w0 (w.setCell ⟨T, j, none⟩ v) :=
  ⟨h.os, h.tape, h.output, by simpa using h.size, fun g hg => (Below.heap_setCell _ _ _ _ (by show g ≠ T; omega)).trans (h.block g hg), h.drawn⟩
theorem newKept {w w7 : World} {o : Obj} (hb : Below (w.alloc o).drew.heap.size (w.alloc o).drew w7) : w7.heap[w.heap.size]? = some o := belowBlock (w := (w.alloc o).drew) (alloc_at w o) hb
def FillC {σ : Type} (V : Vis σ) (p : Plc) (b : D_A3) (Zz : Nat → Prop) (pv : Value) (pieces : List (List D_A3)) (F : Int → Int → List Int → σ → Option (Bool × List Int × σ)) : Prop :=
  ∀ (free used : Int) (l : List Int) (s : σ) (w : World) (x : Bool × List Int × σ), PkW V p b Zz pv pieces l s w → l ≠ [] → l.length ≤ 100 → F free used l s = some x →
    Calls Tryz.prog 51 #[.int .u64 free, .int .i64 used, ptrTo p.P, ptrTo p.Vb, ptrTo p.Lb, ptrTo p.Bx, ptrTo p.K] w fun e w' => e = .returned (.bool x.1) ∧ PkW V p b Zz pv pieces x.2.1 x.2.2 w' ∧ x.2.1.length = l.length ∧ FrameL (p.S V.cap) w w'
set_option maxHeartbeats 4000000 in
theorem fill_step {σ : Type} {V : Vis σ} {p : Plc} (hok : VisOK V p.base p.Lg) {b : D_A3} {Zz : Nat → Prop} {pv : Value} {pieces : List (List D_A3)} (hp8 : pieces.length ≤ 8) {m : Nat}
    (ih : FillC V p b Zz pv pieces (fillF V.run b pieces m)) : FillC V p b Zz pv pieces (fillF V.run b pieces (m + 1)) := by
  intro free used l s w x h hne hl100 hF
  obtain ⟨A, c, hpv, hpvc, _⟩ : ∃ A c, pv = .slice A pieces.length c ∧ pieces.length ≤ c ∧ True := by
    obtain ⟨A, c, e, hc, _⟩ := h.pcs
    exact ⟨A, c, by simpa using e, hc, trivial⟩
  subst hpv
  obtain ⟨c1, c2, c3, c4, c5, c6, c7⟩ := h.cells
  by_cases h0 : free = 0
  · subst h0
    have hF1 : (bif used != wrap64 (wrap64 (2 ^ pieces.length) - 1) then some (true, l, s) else some ((V.run l s).1, l, (V.run l s).2)) = some x := hF
    clear hF ih
    have hcall := hok.call s l w _ h.inv h.row rfl hne hl100
    unfold Plc.args ptrTo at *
    cases hu : (used != wrap64 (wrap64 (2 ^ pieces.length) - 1)) with
    | true =>
      rw [hu] at hF1
      obtain rfl := Option.some.inj hF1
      clear hcall
      go_enter Tryz.func51, Tryz.ntmps51
      go_wp2
      go_ret
      exact ⟨rfl, h, trivial, FrameL.self _⟩
    | false =>
      rw [hu] at hF1
      obtain rfl := Option.some.inj hF1
      go_enter Tryz.func51, Tryz.ntmps51
      go_wp2
      refine upon_call hcall ?_
      rintro v w2 ⟨rfl, hi2, hf2⟩
      go_wp2
      go_ret
      exact ⟨rfl, h.step (hf2.weak fun g hg => .inl hg) rfl (rowSame h.row fun g hg => hf2.block g (h.row.lt g hg).2 fun e => by
        have : p.Lg = g := Option.some.inj hg
        exact h.out.2.2.2.2.2 (e.symm.trans this.symm)) hi2, trivial, hf2.weak fun g hg => .inl hg⟩
  · have hF1 : (Option.bind (P_box_list (b, bits .and .u64 free (IntKind.u64.wrap (-free)), ())) fun L =>
      match L.1 with
      | [] => none
      | first :: _ => piecesF (fillF V.run b pieces m) b free used first 0 pieces l s) = some x := by
      unfold fillF at hF
      rw [decide_eq_false h0] at hF
      exact hF
    clear hF
    cases hL : P_box_list (b, bits .and .u64 free (IntKind.u64.wrap (-free)), ()) with
    | none => rw [hL] at hF1; cases hF1
    | some L =>
      obtain ⟨L, ⟨⟩⟩ := L
      rw [hL] at hF1
      cases L with
      | nil => cases hF1
      | cons first rest =>
        have hF2 : piecesF (fillF V.run b pieces m) b free used first 0 pieces l s = some x := hF1
        clear hF1
        have hcl := c_list (W := w) hL
        unfold boxA at hcl
        unfold Plc.args ptrTo at *
        go_enter Tryz.func51, Tryz.ntmps51
        have hq := fun (w2 : World) (v2 : Value) (hb : Below w.heap.size w w2) (ho : OwnV (fun _ => False) w2 w.heap.size 57 T_A3 v2 (first :: rest)) => list_at hb ho
        go_upto_region 4 with (go_at_call 32; refine hcl.mono ?_; rintro e w2 ⟨v2, rfl, hb2, ho2⟩; obtain ⟨g2, k2, hv2, q0, q1, q2⟩ := hq w2 v2 hb2 ho2; subst hv2)
        have hB3 := belowA hb2 (.cells #[.int .i64 first.1, .int .i64 first.2.1, .int .i64 first.2.2.1] 57)
        have h3 := h.below hok hB3
        have hFst := alloc_at w2 (.cells #[.int .i64 first.1, .int .i64 first.2.1, .int .i64 first.2.2.1] 57)
        have hlt2 : V.cap < w2.heap.size ∧ p.Lg < w2.heap.size := ⟨Nat.lt_of_lt_of_le (hok.lt _ _ h.inv) hb2.size, Nat.lt_of_lt_of_le (h.row.lt p.Lg rfl).2 hb2.size⟩
        have hf3 : FrameL (p.S V.cap) w (w2.alloc (.cells #[.int .i64 first.1, .int .i64 first.2.1, .int .i64 first.2.2.1] 57)) := frameBelow hB3
        obtain ⟨f, hf⟩ : ∃ f, fillF V.run b pieces m = f := ⟨_, rfl⟩
        rw [hf] at hF2 ih
        clear hcl hq q0 q1 q2 ho2 hB3 c1 c2 c3 c4 c5 c6 c7 hL hf
        obtain ⟨c1, _⟩ := h3.cells
        go_wp2
        clear c1
        go_loopg [40] pieces.length (fun m v40 wr => ∃ (i : Nat) (l' : List Int) (s' : σ), i ≤ pieces.length ∧ m = pieces.length - i ∧ v40 = .int .i64 i ∧ PkW V p b Zz (.slice A pieces.length c) pieces l' s' wr ∧ l'.length = l.length ∧ FrameL (p.S V.cap) w wr ∧
          wr.heap[w2.heap.size]? = some (.cells #[.int .i64 first.1, .int .i64 first.2.1, .int .i64 first.2.2.1] 57 (0, 0)) ∧ piecesF f b free used first i (pieces.drop i) l' s' = some x)
        case atStart => exact ⟨0, l, s, Nat.zero_le _, rfl, rfl, h3, rfl, hf3, hFst, hF2⟩
        case round =>
          obtain ⟨i, l', s', hi, rfl, rfl, hP, hl', hfr, hFs, hF4⟩ := hrel
          clear hF2 h3 hf3 hFst h
          obtain ⟨wA, hwA⟩ : ∃ x, x = wr := ⟨wr, rfl⟩
          subst hwA
          by_cases hin : i < pieces.length
          · obtain ⟨q, hq⟩ : ∃ q, pieces[i]? = some q := ⟨pieces[i], List.getElem?_eq_getElem hin⟩
            obtain ⟨a, v, rfl, hcv, hqr⟩ := piece_at hP.pcs hq
            have hdrop : pieces.drop i = q :: pieces.drop (i + 1) := by
              rw [List.drop_eq_getElem_cons hin]
              rw [List.getElem?_eq_getElem hin] at hq
              rw [Option.some.inj hq]
            rw [hdrop] at hF4
            obtain ⟨c1, c2, c3, c4, c5, c6, c7⟩ := hP.cells
            obtain ⟨f0, f1, f2⟩ := box3 hFs
            have hinI : (i : Int) < (pieces.length : Int) := by omega
            unfold Plc.args ptrTo at c7
            have hF5 : (bif (bits .and .i64 (used / 2 ^ i) 1 == 1) then piecesF f b free used first (i + 1) (pieces.drop (i + 1)) l' s' else
                Option.bind (atF first q) fun a => Option.bind (P_box_placed (b, free, q, a, ())) fun c =>
                bif !c.2.1 then piecesF f b free used first (i + 1) (pieces.drop (i + 1)) l' s' else
                Option.bind (f (bits .andNot .u64 free c.1) (bits .or .i64 used (IntKind.i64.wrap (2 ^ i))) (putL c.1 (i : Int) 0 l') s') fun x =>
                bif !x.1 then some (false, x.2.1, x.2.2) else piecesF f b free used first (i + 1) (pieces.drop (i + 1)) x.2.1 x.2.2) = some x := hF4
            clear hF4 hdrop
            cases hb : (bits .and .i64 (used / 2 ^ i) 1 == 1) with
            | true =>
              rw [hb] at hF5
              go_wp2
              go_roundg (pieces.length - (i + 1))
              case measure => omega
              case rel => exact ⟨i + 1, l', s', by omega, rfl, by go_num, hP, hl', hfr, hFs, hF5⟩
            | false =>
              rw [hb] at hF5
              simp only [cond_false] at hF5
              cases hat : atF first q with
              | none => rw [hat] at hF5; cases hF5
              | some at' =>
                rw [hat] at hF5
                simp only [Option.bind_some] at hF5
                have hqne : q ≠ [] := fun e => by rw [e] at hat; cases hat
                obtain ⟨a2, k3, hv, y0, y1, y2⟩ := first_at hqr hqne
                subst hv
                have hqp : 0 < q.length := List.length_pos_iff.2 hqne
                obtain ⟨c0, hc0⟩ : ∃ c0, q.head hqne = c0 := ⟨_, rfl⟩
                rw [hc0] at y0 y1 y2
                have hadd : ∀ W, Calls Tryz.prog 52 #[boxA first, boxA (IntKind.i64.wrap (-c0.1), IntKind.i64.wrap (-c0.2.1), IntKind.i64.wrap (-c0.2.2.1), ())] W fun e' w' => e' = .returned (.agg #[.int .i64 at'.1, .int .i64 at'.2.1, .int .i64 at'.2.2.1]) ∧ Below W.heap.size W w' := fun W => c_added (W := W) (atF_is hat hqne hc0)
                clear hat
                unfold boxA at hadd
                have hB0 := Below.refl wA.heap.size wA
                have haddS : ∀ U, (U.cell? ⟨w2.heap.size, 0, none⟩ = some (.int .i64 first.1) ∧ U.cell? ⟨w2.heap.size, 1, none⟩ = some (.int .i64 first.2.1) ∧ U.cell? ⟨w2.heap.size, 2, none⟩ = some (.int .i64 first.2.2.1) ∧ U.cell? a2 = some (.int .i64 c0.1) ∧ U.cell? ⟨a2.block, a2.off + 1, none⟩ = some (.int .i64 c0.2.1) ∧ U.cell? ⟨a2.block, a2.off + 2, none⟩ = some (.int .i64 c0.2.2.1)) → Calls Tryz.prog 52 #[.agg #[.int .i64 first.1, .int .i64 first.2.1, .int .i64 first.2.2.1], .agg #[.int .i64 (IntKind.i64.wrap (-c0.1)), .int .i64 (IntKind.i64.wrap (-c0.2.1)), .int .i64 (IntKind.i64.wrap (-c0.2.2.1))]] U fun e w' => e = .returned (.agg #[.int .i64 at'.1, .int .i64 at'.2.1, .int .i64 at'.2.2.1]) ∧ w'.cell? ⟨w2.heap.size, 0, none⟩ = some (.int .i64 first.1) ∧ w'.cell? ⟨w2.heap.size, 1, none⟩ = some (.int .i64 first.2.1) ∧ w'.cell? ⟨w2.heap.size, 2, none⟩ = some (.int .i64 first.2.2.1) ∧ w'.cell? a2 = some (.int .i64 c0.1) ∧ w'.cell? ⟨a2.block, a2.off + 1, none⟩ = some (.int .i64 c0.2.1) ∧ w'.cell? ⟨a2.block, a2.off + 2, none⟩ = some (.int .i64 c0.2.2.1) ∧ Below U.heap.size U w' := fun U ⟨s0, s1, s2, s3, s4, s5⟩ => by
                  refine (hadd U).mono ?_
                  rintro e w' ⟨rfl, hb⟩
                  exact ⟨rfl, cellB s0 hb, cellB s1 hb, cellB s2 hb, cellB s3 hb, cellB s4 hb, cellB s5 hb, hb⟩
                clear hadd
                go_upto_region 8 with fail
                go_cut [13] from 50 to 68 (fun v13 wc => ∃ T, v13 = .pointer (some ⟨T, 0, none⟩) ∧ wA.heap.size ≤ T ∧ Below wA.heap.size wA wc ∧ wc.heap[T]? = some (.cells #[.int .i64 at'.1, .int .i64 at'.2.1, .int .i64 at'.2.2.1] 57 (0, 0)))
                case first =>
                  have n1 := World.new_ne wA _ f0
                  have n4 := World.new_ne wA _ y0
                  have n5 := World.new_ne wA _ y1
                  have n6 := World.new_ne wA _ y2
                  go_region_held3 (fun w' => w'.cell? ⟨w2.heap.size, 0, none⟩ = some (.int .i64 first.1) ∧ w'.cell? ⟨w2.heap.size, 1, none⟩ = some (.int .i64 first.2.1) ∧ w'.cell? ⟨w2.heap.size, 2, none⟩ = some (.int .i64 first.2.2.1) ∧ w'.cell? a2 = some (.int .i64 c0.1) ∧ w'.cell? ⟨a2.block, a2.off + 1, none⟩ = some (.int .i64 c0.2.1) ∧ w'.cell? ⟨a2.block, a2.off + 2, none⟩ = some (.int .i64 c0.2.2.1)) ((go_keep; done))
                    (first
                      | (go_at_call 52; refine (haddS _ ?_).mono ?_; (first | (refine ⟨?_, ?_, ?_, ?_, ?_, ?_⟩ <;> first | assumption | (go_keep; done))); rintro e w7 ⟨rfl, s0, s1, s2, s3, s4, s5, hb7⟩; have m1 := World.new_ne w7 _ s0; have m4 := World.new_ne w7 _ s3; have m5 := World.new_ne w7 _ s4; have m6 := World.new_ne w7 _ s5; try (have hz := newKept hb7; obtain ⟨z0, z1, z2⟩ := box3 hz; obtain ⟨e0, e1, e2⟩ := free3 hz)))
                  · go_wp2
                    go_meet
                    exact ⟨_, rfl, (belowThen (belowD hB0) hb7).size, belowA (belowThen (belowD hB0) hb7) _, alloc_at _ _⟩
                  · go_wp2
                    go_meet
                    exact ⟨_, rfl, Nat.le_refl _, belowS (belowS (belowS (belowThen (belowD (belowAlloc wA _)) hb7) (Nat.le_refl _)) (Nat.le_refl _)) (Nat.le_refl _), set1 (set1 (set1 (newKept hb7) 0 _) 1 _) 2 _⟩
                case rest =>
                  obtain ⟨T, rfl, hT, hbc, hTc⟩ := hcut
                  clear haddS y0 y1 y2 f0 f1 f2 c1 c2 c3 c4 c5 c6 c7 hb hcv
                  have hP2 := hP.below hok hbc
                  have hFs2 := belowBlock hFs hbc
                  have hzn : ∀ g, Zz g → g < wA.heap.size := fun g hg => by
                    have := (hP.zone g hg).1
                    obtain ⟨cur, hlg, hlb, _⟩ := hP.lg
                    have := lt_of_block hlg
                    omega
                  have hqr2 := repZone hqr fun g hg => hbc.block g (hzn g hg)
                  cases hpl : P_box_placed (b, free, q, at', ()) with
                  | none => rw [hpl] at hF5; cases hF5
                  | some pl =>
                    obtain ⟨cl, ok, ⟨⟩⟩ := pl
                    rw [hpl] at hF5
                    simp only [Option.bind_some] at hF5
                    have hcp := c_placed (W := wc) (fun g hg => Nat.lt_of_lt_of_le (hzn g hg) hbc.size) hqr2 hpl
                    unfold boxA at hcp
                    obtain ⟨_, _, _, c4, c5, c6, _⟩ := hP2.cells
                    obtain ⟨t0, t1, t2⟩ := box3 hTc
                    cases ok with
                    | false =>
                      go_wp2_with (go_at_call 49; refine hcp.mono ?_; rintro e w8 ⟨rfl, hb8⟩)
                      go_roundg (pieces.length - (i + 1))
                      case measure => omega
                      case rel => exact ⟨i + 1, l', s', by omega, rfl, by go_num, hP2.below hok hb8, hl', hfr.andThen (frameBelow (belowThen hbc hb8)), belowBlock hFs2 hb8, hF5⟩
                    | true =>
                      simp only [Bool.not_true, cond_false] at hF5
                      have hc3 := fun (w8 : World) (hb8 : Below wc.heap.size wc w8) => (hP2.below hok hb8).cells.2.2.1
                      go_wp2_with (go_at_call 49; refine hcp.mono ?_; rintro e w8 ⟨rfl, hb8⟩; have c3 := hc3 w8 hb8)
                      have hP8 := hP2.below hok hb8
                      have hFs8 := belowBlock hFs2 hb8
                      have hf8 : FrameL (p.S V.cap) w w8 := hfr.andThen (frameBelow (belowThen hbc hb8))
                      clear hcp hc3 c3 c4 c5 c6 t0 t1 t2 hP hP2 hFs hFs2 hqr2 hpl hqr
                      go_loopg [80] l'.length (fun m v80 wr => ∃ (k : Nat) (lk : List Int), k ≤ l'.length ∧ m = l'.length - k ∧ v80 = .int .i64 k ∧ lk.length = l'.length ∧ lk.take k ++ putL cl i k (lk.drop k) = putL cl i 0 l' ∧ PkW V p b Zz (.slice (some a) pieces.length c) pieces lk s' wr ∧ FrameL (p.S V.cap) w wr ∧ wr.heap[w2.heap.size]? = some (.cells #[.int .i64 first.1, .int .i64 first.2.1, .int .i64 first.2.2.1] 57 (0, 0)))
                      case atStart => exact ⟨0, l', Nat.zero_le _, rfl, rfl, rfl, by simp, hP8, hf8, hFs8⟩
                      case round =>
                        obtain ⟨k, lk, hk, rfl, rfl, hlk, hput, hPk, hfk, hFk⟩ := hrel
                        clear hP8 hf8 hFs8
                        obtain ⟨wB, hwB⟩ : ∃ x, x = wr := ⟨wr, rfl⟩
                        subst hwB
                        have hHput := Lib.hid hput
                        clear hput
                        by_cases hkn : k < l'.length
                        · have hltK : (k : Int) < (l'.length : Int) := by omega
                          have hch := c_hasB (W := wB) cl k
                          cases hh : hasB cl k with
                          | false =>
                            rw [hh] at hch
                            go_wp2_with (go_at_call 53; refine hch.mono ?_; rintro e w9 ⟨rfl, hb9⟩)
                            go_roundg (l'.length - (k + 1))
                            case measure => omega
                            case rel => exact ⟨k + 1, lk, by omega, rfl, by go_num, hlk, (putL_skip (by omega) hh).trans hHput.out, hPk.below hok hb9, hfk.andThen (frameBelow hb9), belowBlock hFk hb9⟩
                          | true =>
                            rw [hh] at hch
                            have hst := fun (w9 : World) (hb9 : Below wB.heap.size wB w9) => And.intro ((hPk.below hok hb9).put hok (k := k) (by omega) (i : Int)) (hPk.below hok hb9).cells.2.2.1
                            go_wp2_with (go_at_call 53; refine hch.mono ?_; rintro e w9 ⟨rfl, hb9⟩; obtain ⟨⟨hP9, hf9, ⟨u9, hu9⟩, hfz9⟩, c3⟩ := hst w9 hb9; rw [hlk] at c3)
                            go_roundg (l'.length - (k + 1))
                            case measure => omega
                            case rel => exact ⟨k + 1, lk.set k (i : Int), by omega, rfl, by go_num, by simpa using hlk, (putL_set (by omega) hh).trans hHput.out, hP9, (hfk.andThen (frameBelow hb9)).andThen hf9, (Below.heap_setCell _ _ _ _ (by show w2.heap.size ≠ p.Lg; omega)).trans (belowBlock hFk hb9)⟩
                        · obtain rfl : k = l'.length := by omega
                          have hlkp : lk = putL cl i 0 l' := by
                            have e := hHput.out
                            rw [← hlk, List.take_length, List.drop_length, putL, List.append_nil] at e
                            exact e
                          subst hlkp
                          obtain ⟨_, _, _, _, _, _, c7⟩ := hPk.cells
                          unfold Plc.args ptrTo at c7
                          go_upto_region 17 with fail
                          cases hr : f (bits .andNot .u64 free cl) (bits .or .i64 used (IntKind.i64.wrap (2 ^ i))) (putL cl i 0 l') s' with
                          | none => rw [hr] at hF5; cases hF5
                          | some y =>
                            rw [hr] at hF5
                            simp only [Option.bind_some] at hF5
                            have hpl0 := putL_len cl i 0 l'
                            have hih := ih _ _ _ _ wB.drew y (hPk.below hok (belowD (Below.refl _ _))) (fun e => by rw [e] at hpl0; exact hne (List.length_eq_zero_iff.1 (by simp at hpl0; omega))) (by omega) hr
                            obtain ⟨yb, yl, ys⟩ := y
                            simp only at hih hF5
                            have hfd : FrameL (p.S V.cap) w wB.drew := hfk.andThen (frameBelow (belowD (Below.refl _ _)))
                            cases yb with
                            | false =>
                              obtain rfl : (false, yl, ys) = x := Option.some.inj hF5
                              go_region_with (go_at_call 51; refine hih.mono ?_; rintro e w9 ⟨rfl, hP9, hl9, hf9⟩)
                              go_wp2
                              go_ret
                              first
                                | exact ⟨rfl, hP9, by omega, hfd.andThen hf9⟩
                                | exact ⟨rfl, hP9, hfd.andThen hf9⟩
                            | true =>
                              simp only [Bool.not_true, cond_false] at hF5
                              go_region_with (go_at_call 51; refine hih.mono ?_; rintro e w9 ⟨rfl, hP9, hl9, hf9⟩)
                              go_wp2
                              go_roundg (pieces.length - (i + 1))
                              case measure => omega
                              case rel => exact ⟨i + 1, yl, ys, by omega, rfl, by go_num, hP9, by omega, hfd.andThen hf9, (hf9.block w2.heap.size (lt_of_block hFk) (fun e => by rcases e with e | e <;> omega)).trans hFk, hF5⟩
          · obtain rfl : i = pieces.length := by omega
            rw [List.drop_length] at hF4
            obtain rfl := Option.some.inj hF4
            go_wp2
            go_ret
            exact ⟨rfl, hP, hfr⟩
theorem fill_all {σ : Type} {V : Vis σ} {p : Plc} (hok : VisOK V p.base p.Lg) {b : D_A3} {Zz : Nat → Prop} {pv : Value} {pieces : List (List D_A3)} (hp8 : pieces.length ≤ 8) : ∀ m : Nat, FillC V p b Zz pv pieces (fillF V.run b pieces m)
  | 0 => fun free used l s w x _ _ _ hF => by cases hF
  | m + 1 => fill_step hok hp8 (fill_all hok hp8 m)
end Go.VI
