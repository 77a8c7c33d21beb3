/- The step of the forms: what it hangs on, by evaluation. -/
import Derived.Test.YtlnfgikipeiaiaaEvA
import Derived.Test.YtlnfgikipeiaiaaVjDd
namespace Go.VI
open Go.Proofs Go.RowKit
set_option maxRecDepth 100000
def fst1 {α : Type} (d : α) (x : Option (α × Unit)) : α := match x with | some p => p.1 | none => d
def fst2 {α β : Type} (d : α) (x : Option (α × β × Unit)) : α := match x with | some p => p.1 | none => d
def snd2 {α β : Type} (d : β) (x : Option (α × β × Unit)) : β := match x with | some p => p.2.1 | none => d
theorem got1 {α : Type} {x y : Option (α × Unit)} (h : Le x y) (d : α) (hs : x.isSome = true) : y = some (fst1 d x, ()) := by
  cases x with
  | none => cases hs
  | some p => exact h p rfl
theorem got2 {α β : Type} {x y : Option (α × β × Unit)} (h : Le x y) (d : α) (d' : β) (hs : x.isSome = true) : y = some (fst2 d x, snd2 d' x, ()) := by
  cases x with
  | none => cases hs
  | some p => exact h p rfl
abbrev dHp : DHeap := (0, 0, 0, [], ())
abbrev dC : DA3 := (0, 0, 0, ())
abbrev dT : D_l8Turn := (dC, dC, ())
noncomputable def gfE (t : D_l8Turn) (h : DHeap) : DHeap := fst1 dHp (E_turning_of (t, h, ()))
noncomputable def cfE (t : D_l8Turn) (h : DHeap) : DHeap := fst2 dHp (E_impl_CropHeap (gfE t h, ()))
noncomputable def bfE (t : D_l8Turn) (h : DHeap) : Bool := snd2 false (E_impl_CropHeap (gfE t h, ()))
noncomputable def cmpE (g h : DHeap) : Int := fst1 0 (E_impl_compareHeaps (g, h, ()))
noncomputable def smE (g h : DHeap) : Bool := fst1 false (E_Heap_same (g, h, ()))
noncomputable def beyE (c : DA3) (f : Nat) : DA3 := fst1 dC (E_impl_beyond (c, (f : Int), ()))
noncomputable def hasE (l : List DA3) (d : DA3) : Bool := fst1 false (E_slices_Contains_3_int_3_int (l, d, ()))
noncomputable def hofE (l : List DA3) : DHeap := fst1 dHp (E_impl_heapOf (l, ()))
abbrev T24 : List D_l8Turn := [((0, 1, 2, ()), (0, 0, 0, ()), ()), ((0, 1, 2, ()), (0, 1, 1, ()), ()), ((0, 1, 2, ()), (1, 0, 1, ()), ()), ((0, 1, 2, ()), (1, 1, 0, ()), ()), ((0, 2, 1, ()), (0, 0, 1, ()), ()), ((0, 2, 1, ()), (0, 1, 0, ()), ()), ((0, 2, 1, ()), (1, 0, 0, ()), ()), ((0, 2, 1, ()), (1, 1, 1, ()), ()), ((1, 0, 2, ()), (0, 0, 1, ()), ()), ((1, 0, 2, ()), (0, 1, 0, ()), ()), ((1, 0, 2, ()), (1, 0, 0, ()), ()), ((1, 0, 2, ()), (1, 1, 1, ()), ()), ((1, 2, 0, ()), (0, 0, 0, ()), ()), ((1, 2, 0, ()), (0, 1, 1, ()), ()), ((1, 2, 0, ()), (1, 0, 1, ()), ()), ((1, 2, 0, ()), (1, 1, 0, ()), ()), ((2, 0, 1, ()), (0, 0, 0, ()), ()), ((2, 0, 1, ()), (0, 1, 1, ()), ()), ((2, 0, 1, ()), (1, 0, 1, ()), ()), ((2, 0, 1, ()), (1, 1, 0, ()), ()), ((2, 1, 0, ()), (0, 0, 1, ()), ()), ((2, 1, 0, ()), (0, 1, 0, ()), ()), ((2, 1, 0, ()), (1, 0, 0, ()), ()), ((2, 1, 0, ()), (1, 1, 1, ()), ())]
theorem turns24 : P_impl_turnings () = some (T24, ()) := v_impl_turnings () _ (by kernel_rfl)
noncomputable def tAt (i : Nat) : D_l8Turn := T24.getD i dT
noncomputable def formE (h : DHeap) : DHeap := formOf 24 (fun i => cfE (tAt i) h) cmpE
noncomputable def VE : FormV := ⟨beyE, hasE, hofE, formE⟩
def eqC (c d : DA3) : Bool := decide (c.1 = d.1) && (decide (c.2.1 = d.2.1) && decide (c.2.2.1 = d.2.2.1))
theorem eqC_eq {c d : DA3} (h : eqC c d = true) : c = d := by
  obtain ⟨c0, c1, c2, ⟨⟩⟩ := c
  obtain ⟨d0, d1, d2, ⟨⟩⟩ := d
  simp only [eqC, Bool.and_eq_true, decide_eq_true_eq] at h
  obtain ⟨rfl, rfl, rfl⟩ := h
  rfl
def eqL : List DA3 → List DA3 → Bool
  | [], [] => true
  | a :: l, b :: m => eqC a b && eqL l m
  | _, _ => false
theorem eqL_eq : ∀ {l m : List DA3}, eqL l m = true → l = m
  | [], [], _ => rfl
  | a :: l, b :: m, h => by
    simp only [eqL, Bool.and_eq_true] at h
    rw [eqC_eq h.1, eqL_eq h.2]
  | [], _ :: _, h => by simp [eqL] at h
  | _ :: _, [], h => by simp [eqL] at h
def eqH (g h : DHeap) : Bool := eqC (g.1, g.2.1, g.2.2.1, ()) (h.1, h.2.1, h.2.2.1, ()) && eqL g.2.2.2.1 h.2.2.2.1
theorem eqH_eq {g h : DHeap} (e : eqH g h = true) : g = h := by
  obtain ⟨x, y, z, l, ⟨⟩⟩ := g
  obtain ⟨x', y', z', l', ⟨⟩⟩ := h
  simp only [eqH, Bool.and_eq_true] at e
  have h1 := eqC_eq e.1
  have h2 := eqL_eq e.2
  simp only [Prod.mk.injEq, and_true] at h1 h2
  obtain ⟨rfl, rfl, rfl⟩ := h1
  subst h2
  rfl
def once : List DHeap → List DHeap
  | [] => []
  | x :: l => bif (once l).any (eqH x) then once l else x :: once l
theorem once_mem : ∀ {l : List DHeap} {x : DHeap}, x ∈ l → x ∈ once l
  | y :: l, x, h => by
    simp only [once]
    rcases List.mem_cons.1 h with rfl | h
    · cases hb : (once l).any (eqH x) with
      | true =>
        obtain ⟨z, hz, e⟩ := List.any_eq_true.1 hb
        rw [eqH_eq e]; exact hz
      | false => exact List.mem_cons_self ..
    · cases hb : (once l).any (eqH y) with
      | true => exact once_mem h
      | false => exact List.mem_cons_of_mem _ (once_mem h)
abbrev FL1 : List DHeap := [(1,1,1,[(0,0,0,())],())]
abbrev FL2 : List DHeap := [(1,1,2,[(0,0,0,()),(0,0,1,())],())]
abbrev FL3 : List DHeap := [(1,1,3,[(0,0,0,()),(0,0,1,()),(0,0,2,())],()),(1,2,2,[(0,0,0,()),(0,0,1,()),(0,1,0,())],())]
abbrev FL4 : List DHeap := [(1,1,4,[(0,0,0,()),(0,0,1,()),(0,0,2,()),(0,0,3,())],()),
  (1,2,2,[(0,0,0,()),(0,0,1,()),(0,1,0,()),(0,1,1,())],()),
  (1,2,3,[(0,0,0,()),(0,0,1,()),(0,0,2,()),(0,1,0,())],()),
  (1,2,3,[(0,0,0,()),(0,0,1,()),(0,0,2,()),(0,1,1,())],()),
  (1,2,3,[(0,0,0,()),(0,0,1,()),(0,1,1,()),(0,1,2,())],()),
  (2,2,2,[(0,0,0,()),(0,0,1,()),(0,1,0,()),(1,0,0,())],()),
  (2,2,2,[(0,0,0,()),(0,0,1,()),(0,1,0,()),(1,0,1,())],()),
  (2,2,2,[(0,0,0,()),(0,0,1,()),(0,1,0,()),(1,1,0,())],())]
noncomputable def pairB (l : List DHeap) : Bool := l.all fun a => l.all fun b => (E_impl_compareHeaps (a, b, ())).isSome
noncomputable def formB (h : DHeap) : Bool :=
  T24.all (fun t => (E_turning_of (t, h, ())).isSome && (E_impl_CropHeap (gfE t h, ())).isSome) && pairB (once (T24.map fun t => cfE t h))
theorem formOK_of {h : DHeap} (hb : formB h = true) : FormOK h T24 (fun i => gfE (tAt i) h) (fun i => cfE (tAt i) h) (fun i => bfE (tAt i) h) cmpE := by
  unfold formB at hb
  rw [Bool.and_eq_true, List.all_eq_true] at hb
  obtain ⟨h1, h2⟩ := hb
  unfold pairB at h2
  rw [List.all_eq_true] at h2
  have hat : ∀ i, i < 24 → tAt i ∈ T24 := fun i hi => by
    unfold tAt
    rw [List.getD_eq_getElem?_getD, List.getElem?_eq_getElem (by exact hi)]
    exact List.getElem_mem _
  refine ⟨turns24, by decide, by decide, fun i t ht => ?_, fun i j hi hj => ?_⟩
  · have hm := List.mem_of_getElem? ht
    have := h1 t hm
    rw [Bool.and_eq_true] at this
    have e : tAt i = t := by unfold tAt; rw [List.getD_eq_getElem?_getD, ht]; rfl
    simp only [e]
    exact ⟨got1 (v_turning_of _) _ this.1, got2 (v_impl_CropHeap _) _ _ this.2⟩
  · have hin : ∀ i, i < 24 → cfE (tAt i) h ∈ once (T24.map fun t => cfE t h) := fun i hi => once_mem (List.mem_map_of_mem (f := fun t => cfE t h) (hat i hi))
    have := h2 _ (hin i hi)
    rw [List.all_eq_true] at this
    exact got1 (v_impl_compareHeaps _) _ (this _ (hin j hj))
noncomputable def candB (l : List DA3) (c : DA3) (f : Nat) : Bool :=
  (E_impl_beyond (c, (f : Int), ())).isSome && ((E_slices_Contains_3_int_3_int (l, beyE c f, ())).isSome && (hasE l (beyE c f) || ((E_impl_heapOf (l ++ [beyE c f], ())).isSome && formB (hofE (l ++ [beyE c f])))))
noncomputable def cellB (l : List DA3) (c : DA3) : Bool := (List.range 6).all fun f => candB l c f
noncomputable def stepB (L : List DHeap) : Bool :=
  decide (L.length ≤ 10) && L.all fun h => decide (h.2.2.2.1.length ≤ 10) && h.2.2.2.1.all fun c => cellB h.2.2.2.1 c
theorem stepOK_of {L : List DHeap} (hb : stepB L = true) : StepOK VE L := by
  unfold stepB at hb
  rw [Bool.and_eq_true, List.all_eq_true] at hb
  obtain ⟨h1, h2⟩ := hb
  have key : ∀ h ∈ L, h.2.2.2.1.length ≤ 10 ∧ ∀ c ∈ h.2.2.2.1, ∀ f : Nat, f < 6 → candB h.2.2.2.1 c f = true := fun h hm => by
    have := h2 h hm
    rw [Bool.and_eq_true, List.all_eq_true] at this
    refine ⟨of_decide_eq_true this.1, fun c hc f hf => ?_⟩
    have := this.2 c hc
    unfold cellB at this
    rw [List.all_eq_true] at this
    exact this f (List.mem_range.2 hf)
  have cnd : ∀ h ∈ L, ∀ c ∈ h.2.2.2.1, ∀ f : Nat, f < 6 → (E_impl_beyond (c, (f : Int), ())).isSome = true ∧ (E_slices_Contains_3_int_3_int (h.2.2.2.1, beyE c f, ())).isSome = true ∧ (hasE h.2.2.2.1 (beyE c f) = false → (E_impl_heapOf (h.2.2.2.1 ++ [beyE c f], ())).isSome = true ∧ formB (hofE (h.2.2.2.1 ++ [beyE c f])) = true) := fun h hm c hc f hf => by
    have := (key h hm).2 c hc f hf
    unfold candB at this
    simp only [Bool.and_eq_true, Bool.or_eq_true] at this
    refine ⟨this.1, this.2.1, fun hn => ?_⟩
    rcases this.2.2 with h' | h'
    · rw [hn] at h'; cases h'
    · exact h'
  refine ⟨⟨of_decide_eq_true h1, fun h hm => (key h hm).1⟩, fun h hm c hc f hf => ?_, fun h hm c hc f hf => ?_, fun h hm c hc f hf hn => ?_, fun h hm c hc f hf hn => ?_⟩
  · exact got1 (v_impl_beyond _) _ (cnd h hm c hc f hf).1
  · exact got1 (v_slices_Contains_3_int_3_int _) _ (cnd h hm c hc f hf).2.1
  · exact got1 (v_impl_heapOf _) _ ((cnd h hm c hc f hf).2.2 hn).1
  · exact ⟨_, _, _, _, _, formOK_of ((cnd h hm c hc f hf).2.2 hn).2, rfl⟩
noncomputable def ordB (C : List DHeap) : Bool :=
  (List.range C.length).all fun i => (List.range C.length).all fun j => (E_impl_compareHeaps (C.getD i dHp, C.getD j dHp, ())).isSome && ((E_Heap_same (C.getD i dHp, C.getD j dHp, ())).isSome && ((decide (cmpE (C.getD i dHp) (C.getD j dHp) < 0) == decide (i < j)) && (smE (C.getD i dHp) (C.getD j dHp) == decide (i = j))))
structure OrdC (C : List DHeap) : Prop where
  ceq : ∀ i j, i < C.length → j < C.length → P_impl_compareHeaps (C.getD i dHp, C.getD j dHp, ()) = some (cmpE (C.getD i dHp) (C.getD j dHp), ())
  seq : ∀ i j, i < C.length → j < C.length → P_Heap_same (C.getD i dHp, C.getD j dHp, ()) = some (smE (C.getD i dHp) (C.getD j dHp), ())
  lt : ∀ i j, i < C.length → j < C.length → (cmpE (C.getD i dHp) (C.getD j dHp) < 0 ↔ i < j)
  eq : ∀ i j, i < C.length → j < C.length → (smE (C.getD i dHp) (C.getD j dHp) = true ↔ i = j)
theorem ordC_of {C : List DHeap} (hb : ordB C = true) : OrdC C := by
  unfold ordB at hb
  rw [List.all_eq_true] at hb
  have key : ∀ i j, i < C.length → j < C.length → _ := fun i j hi hj => by
    have := hb i (List.mem_range.2 hi)
    rw [List.all_eq_true] at this
    exact this j (List.mem_range.2 hj)
  simp only [Bool.and_eq_true, beq_iff_eq] at key
  refine ⟨fun i j hi hj => got1 (v_impl_compareHeaps _) _ (key i j hi hj).1, fun i j hi hj => got1 (v_Heap_same _) _ (key i j hi hj).2.1, fun i j hi hj => ?_, fun i j hi hj => ?_⟩
  · have := (key i j hi hj).2.2.1
    constructor
    · intro h; rw [decide_eq_true h] at this; exact of_decide_eq_true this.symm
    · intro h; rw [decide_eq_true h] at this; exact of_decide_eq_true this
  · have := (key i j hi hj).2.2.2
    rw [this]; exact decide_eq_true_iff
theorem OrdC.at {C : List DHeap} {x : DHeap} (h : x ∈ C) : ∃ i, i < C.length ∧ C.getD i dHp = x := by
  obtain ⟨i, hi, rfl⟩ := List.getElem_of_mem h
  exact ⟨i, hi, by rw [List.getD_eq_getElem?_getD, List.getElem?_eq_getElem hi]; rfl⟩
theorem OrdC.ok {C : List DHeap} (o : OrdC C) : OrdOK (fun h => h ∈ C) cmpE smE := by
  refine ⟨fun g h hg hh => ?_, fun g hg => ?_, fun f g h hf hg hh => ?_, fun f g h hf hg hh => ?_, fun g h hg hh => ?_⟩
  · obtain ⟨i, hi, rfl⟩ := OrdC.at hg; obtain ⟨j, hj, rfl⟩ := OrdC.at hh
    exact o.ceq i j hi hj
  · obtain ⟨i, hi, rfl⟩ := OrdC.at hg
    rw [o.lt i i hi hi]; omega
  · obtain ⟨i, hi, rfl⟩ := OrdC.at hf; obtain ⟨j, hj, rfl⟩ := OrdC.at hg; obtain ⟨k, hk, rfl⟩ := OrdC.at hh
    rw [o.lt i j hi hj, o.lt j k hj hk, o.lt i k hi hk]; omega
  · obtain ⟨i, hi, rfl⟩ := OrdC.at hf; obtain ⟨j, hj, rfl⟩ := OrdC.at hg; obtain ⟨k, hk, rfl⟩ := OrdC.at hh
    rw [o.lt i j hi hj, o.lt j k hj hk, o.lt i k hi hk]; omega
  · obtain ⟨i, hi, rfl⟩ := OrdC.at hg; obtain ⟨j, hj, rfl⟩ := OrdC.at hh
    exact o.seq i j hi hj
theorem OrdC.up {C : List DHeap} (o : OrdC C) {g h : DHeap} (hg : g ∈ C) (hh : h ∈ C) (h1 : ¬ cmpE h g < 0) (h2 : smE h g = false) : cmpE g h < 0 := by
  obtain ⟨i, hi, rfl⟩ := OrdC.at hg; obtain ⟨j, hj, rfl⟩ := OrdC.at hh
  rw [o.lt j i hj hi] at h1
  rw [o.lt i j hi hj]
  have : ¬ (j = i) := fun e => by
    have := (o.eq j i hj hi).2 e
    rw [h2] at this; cases this
  omega
theorem OrdC.one {C : List DHeap} (o : OrdC C) {g h : DHeap} (hg : g ∈ C) (hh : h ∈ C) (h2 : smE h g = true) : h = g := by
  obtain ⟨i, hi, rfl⟩ := OrdC.at hg; obtain ⟨j, hj, rfl⟩ := OrdC.at hh
  rw [(o.eq j i hj hi).1 h2]
noncomputable def memB (C L : List DHeap) : Bool := (VE.cands L).all (fun x => C.any (eqH x)) && C.all fun y => (VE.cands L).any (eqH y)
theorem mem_of {C L : List DHeap} (h : memB C L = true) : ∀ x, x ∈ VE.cands L ↔ x ∈ C := by
  unfold memB at h
  rw [Bool.and_eq_true, List.all_eq_true, List.all_eq_true] at h
  intro x
  constructor
  · intro hx
    obtain ⟨y, hy, e⟩ := List.any_eq_true.1 (h.1 x hx)
    rw [eqH_eq e]; exact hy
  · intro hx
    obtain ⟨y, hy, e⟩ := List.any_eq_true.1 (h.2 x hx)
    rw [eqH_eq e]; exact hy
theorem ddF_sorted {C : List DHeap} (o : OrdC C) : ∀ (l : List HE) (p : HE), (∀ a ∈ p :: l, a.heap ∈ C) → (p :: l).Pairwise (fun a b => ¬ cmpE b.heap a.heap < 0) →
    (p.heap :: (ddF smE p l).map HE.heap).Pairwise (fun a b => cmpE a b < 0) ∧ ∀ x, x ∈ p.heap :: (ddF smE p l).map HE.heap ↔ x ∈ (p :: l).map HE.heap
  | [], p, _, _ => ⟨by simp [ddF], fun x => by simp [ddF]⟩
  | y :: l, p, hC, hs => by
    have hp := hC p (List.mem_cons_self ..)
    have hy := hC y (by simp)
    have hs' := (List.pairwise_cons.1 hs).2
    obtain ⟨i1, i2⟩ := ddF_sorted o l y (fun a ha => hC a (List.mem_cons_of_mem _ ha)) hs'
    simp only [ddF]
    cases hb : smE y.heap p.heap with
    | true =>
      have e := o.one hp hy hb
      rw [if_pos rfl, ← e]
      exact ⟨i1, fun x => by rw [i2 x]; simp [e]⟩
    | false =>
      rw [if_neg (by simp)]
      have hlt := o.up hp hy ((List.pairwise_cons.1 hs).1 y (by simp)) hb
      refine ⟨?_, fun x => ?_⟩
      · refine List.pairwise_cons.2 ⟨fun x hx => ?_, i1⟩
        rw [List.map_cons] at hx
        rcases List.mem_cons.1 hx with rfl | hx'
        · exact hlt
        · have h3 := (List.pairwise_cons.1 i1).1 x hx'
          have hxC : x ∈ C := by
            have := (i2 x).1 (List.mem_cons_of_mem _ hx')
            obtain ⟨a, ha, rfl⟩ := List.mem_map.1 this
            exact hC a (List.mem_cons_of_mem _ ha)
          exact o.ok.tr _ _ _ hp hy hxC hlt h3
      · rw [List.map_cons, List.mem_cons, i2 x, List.map_cons (f := HE.heap) (a := p), List.mem_cons]
theorem strict_eq {C : List DHeap} (o : OrdC C) : ∀ (a b : List DHeap), (∀ x ∈ a, x ∈ C) → (∀ x ∈ b, x ∈ C) → a.Pairwise (fun x y => cmpE x y < 0) → b.Pairwise (fun x y => cmpE x y < 0) → (∀ x, x ∈ a ↔ x ∈ b) → a = b
  | [], [], _, _, _, _, _ => rfl
  | [], y :: b, _, _, _, _, h => by have := (h y).2 (by simp); simp at this
  | x :: a, [], _, _, _, _, h => by have := (h x).1 (by simp); simp at this
  | x :: a, y :: b, ha, hb, sa, sb, h => by
    have hx := ha x (by simp)
    have hy := hb y (by simp)
    have hxy : x = y := by
      rcases List.mem_cons.1 ((h x).1 (by simp)) with e | e
      · exact e
      rcases List.mem_cons.1 ((h y).2 (by simp)) with e' | e'
      · exact e'.symm
      have h1 := (List.pairwise_cons.1 sb).1 x e
      have h2 := (List.pairwise_cons.1 sa).1 y e'
      exact absurd (o.ok.tr _ _ _ hx hy hx h2 h1) (o.ok.irr _ hx)
    subst hxy
    have hna : x ∉ a := fun e => o.ok.irr _ hx ((List.pairwise_cons.1 sa).1 x e)
    have hnb : x ∉ b := fun e => o.ok.irr _ hx ((List.pairwise_cons.1 sb).1 x e)
    congr 1
    refine strict_eq o a b (fun z hz => ha z (by simp [hz])) (fun z hz => hb z (by simp [hz])) (List.pairwise_cons.1 sa).2 (List.pairwise_cons.1 sb).2 fun z => ?_
    constructor
    · intro hz
      rcases List.mem_cons.1 ((h z).1 (by simp [hz])) with rfl | e
      · exact absurd hz hna
      · exact e
    · intro hz
      rcases List.mem_cons.1 ((h z).2 (by simp [hz])) with rfl | e
      · exact absurd hz hnb
      · exact e
theorem OrdC.sorted {C : List DHeap} (o : OrdC C) : C.Pairwise (fun x y => cmpE x y < 0) := by
  rw [List.pairwise_iff_getElem]
  intro i j hi hj hij
  have := (o.lt i j hi hj).2 hij
  rw [List.getD_eq_getElem?_getD, List.getD_eq_getElem?_getD, List.getElem?_eq_getElem hi, List.getElem?_eq_getElem hj] at this
  exact this
theorem sortedOf_eq {C : List DHeap} (o : OrdC C) {hs hs2 : List HE} (h : SortedOf cmpE smE hs hs2) (hm : ∀ x, x ∈ hs.map HE.heap ↔ x ∈ C) : hs2.map HE.heap = C := by
  obtain ⟨hs', hp, hso, rfl⟩ := h
  have hmem : ∀ x, x ∈ hs'.map HE.heap ↔ x ∈ C := fun x => by rw [(hp.map HE.heap).mem_iff]; exact hm x
  have hsp : hs'.Pairwise (fun a b => ¬ cmpE b.heap a.heap < 0) := by
    rw [List.pairwise_iff_getElem]
    intro i j hi hj hij
    exact hso i j _ _ hij (List.getElem?_eq_getElem hi) (List.getElem?_eq_getElem hj)
  cases hs' with
  | nil =>
    cases C with
    | nil => rfl
    | cons c C => have := (hmem c).2 (by simp); simp at this
  | cons p l =>
    have hC : ∀ a ∈ p :: l, a.heap ∈ C := fun a ha => (hmem _).1 (List.mem_map_of_mem ha)
    obtain ⟨s1, s2⟩ := ddF_sorted o l p hC hsp
    refine strict_eq o _ _ (fun x hx => ?_) (fun x hx => hx) s1 o.sorted fun x => ?_
    · exact (hmem x).1 ((s2 x).1 hx)
    · exact (s2 x).trans (hmem x)
end Go.VI
