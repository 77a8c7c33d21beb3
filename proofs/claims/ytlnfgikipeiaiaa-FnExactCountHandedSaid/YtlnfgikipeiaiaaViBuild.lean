/- VI, part 16: what is built and made. -/
import Derived.Test.YtlnfgikipeiaiaaViOps2
import Derived.Lib.ConvBytes
namespace Go.VI
open Go.RowKit
section
variable {A : Fix} {X : Ctx} {γ : Gh} {Fr : Nat → Prop} {env : Env} {a : Act} {w w' : World} {vn : Nat} {o : Oper} {us : List Upd} {lg : List Slot}
theorem RelCs.splice {cs new : List Cell} {us vs : List Value} {off : Nat} (h1 : RelCs A γ w Fr cs us) (h2 : RelCs A γ w Fr new vs) (hf : off + new.length ≤ cs.length) :
    RelCs A γ w Fr (spliceAt cs off new) (spliceAt us off vs) := by
  have l1 := h1.length
  have l2 := h2.length
  refine RelCs.of_get (by rw [spliceAt_length _ _ _ hf, spliceAt_length _ _ _ (by omega), l1]) fun j c u hc hu => ?_
  rw [spliceAt_get _ _ _ _ hf] at hc
  rw [spliceAt_get _ _ _ _ (by omega), l2] at hu
  split at hc
  · rename_i hh
    rw [if_pos hh] at hu
    obtain ⟨u', hu', hg⟩ := h2.get hc
    rw [hu] at hu'; injection hu' with hu'; subst hu'; exact hg
  · rename_i hh
    rw [if_neg hh] at hu
    obtain ⟨u', hu', hg⟩ := h1.get hc
    rw [hu] at hu'; injection hu' with hu'; subst hu'; exact hg
theorem foldl_set_get (off : Nat) : ∀ (vs : List Value) (k : Nat) (us : Array Value) (i : Nat), off + k + vs.length ≤ us.size →
    ((vs.zipIdx k).foldl (fun cs p => cs.setIfInBounds (off + p.2) p.1) us)[i]? = if off + k ≤ i ∧ i < off + k + vs.length then vs[i - (off + k)]? else us[i]?
  | [], k, us, i, _ => by
    rw [if_neg (by simp only [List.length_nil]; omega)]; rfl
  | v :: r, k, us, i, hf => by
    simp only [List.length_cons] at hf
    rw [List.zipIdx_cons, List.foldl_cons, foldl_set_get off r (k + 1) _ i (by simp only [Array.size_setIfInBounds]; omega)]
    simp only [List.length_cons]
    by_cases h1 : i = off + k
    · subst h1
      rw [if_neg (by omega), if_pos (by omega)]
      simp [Array.getElem?_setIfInBounds]
      omega
    · by_cases h2 : off + k ≤ i ∧ i < off + k + (r.length + 1)
      · rw [if_pos (by omega), if_pos h2]
        rw [show i - (off + k) = (i - (off + (k + 1))) + 1 by omega, List.getElem?_cons_succ]
      · rw [if_neg (by omega), if_neg h2]
        simp [Ne.symm h1]
theorem foldl_splice (off : Nat) (us vs : List Value) (hf : off + vs.length ≤ us.length) :
    vs.toArray.zipIdx.foldl (fun cs (p : Value × Nat) => cs.setIfInBounds (off + p.2) p.1) us.toArray = (spliceAt us off vs).toArray := by
  have hl : vs.toArray.zipIdx = (vs.zipIdx).toArray := by simp
  rw [hl, List.foldl_toArray]
  apply Array.ext_getElem?
  intro i
  have := foldl_set_get off vs 0 us.toArray i (by simpa using hf)
  rw [this, List.getElem?_toArray, List.getElem?_toArray, spliceAt_get _ _ _ _ hf]
  simp
def PartsRel (A : Fix) (γ : Gh) (w : World) (Fr : Nat → Prop) : List (Nat × List Cell) → List (Nat × Value) → Prop
  | [], vs => vs = []
  | p :: r, vs => ∃ v vs', vs = (p.1, v) :: vs' ∧ (∃ us, v.cells = us.toArray ∧ RelCs A γ w Fr p.2 us) ∧ PartsRel A γ w Fr r vs'
theorem rdParts_sound (h : Core A X γ Fr env a w) {T : Nat → TypeId} : ∀ (ps : List (Nat × Operand)) {qs : List (Nat × List Cell)} {l0 l1 : List Slot}, (rdParts X T ps).eval env.get l0 = some (qs, l1) →
    PartsRel A γ w Fr qs (ps.map fun p => (p.1, a.eval p.2))
  | [], qs, l0, l1, he => by
    simp only [rdParts, Rd.eval, Option.some.injEq, Prod.mk.injEq] at he
    obtain ⟨rfl, _⟩ := he
    rfl
  | (i, x) :: r, qs, l0, l1, he => by
    simp only [rdParts, Rd.eval_bind, Option.bind_eq_some_iff] at he
    obtain ⟨⟨av, l2⟩, h1, h2⟩ := he
    have hr := rdOp_sound h h1
    cases av with
    | val g cs =>
      simp only [Rd.eval_bind, Option.bind_eq_some_iff] at h2
      obtain ⟨⟨q, l3⟩, h3, h4⟩ := h2
      simp only [Rd.eval, Option.some.injEq, Prod.mk.injEq] at h4
      obtain ⟨rfl, _⟩ := h4
      obtain ⟨vs, hv, hg, hcs⟩ := hr
      exact ⟨_, _, rfl, ⟨vs, by rw [hv]; exact mkVal_cells hcs.one (fun hgf => by rw [hcs.length]; exact hg hgf), hcs⟩, rdParts_sound h r h3⟩
    | skip => simp [Rd.eval] at h2
    | undef => simp [Rd.eval] at h2
    | tup l => simp [Rd.eval] at h2
    | box _ _ _ => simp [Rd.eval] at h2
    | num _ => simp [Rd.eval] at h2
theorem fillParts_sound {place place' : Nat → Option (Nat × Nat)} (hp : ∀ i p, place i = some p → place' i = some p) : ∀ (qs : List (Nat × List Cell)) (vs : List (Nat × Value)) (cs cs' : List Cell) (us : List Value),
    PartsRel A γ w Fr qs vs → RelCs A γ w Fr cs us → fillParts place cs qs = some cs' → ∃ us', Instr.fill place' us.toArray vs = some us'.toArray ∧ RelCs A γ w Fr cs' us' ∧ cs'.length = cs.length
  | [], vs, cs, cs', us, h1, h2, h3 => by
    rw [show vs = [] from h1]
    simp only [fillParts, Option.some.injEq] at h3
    subst h3
    exact ⟨us, rfl, h2, rfl⟩
  | (i, new) :: r, vs, cs, cs', us, h1, h2, h3 => by
    obtain ⟨v, vs', rfl, ⟨ws, hw, hn⟩, hr⟩ := h1
    simp only at hn
    simp only [fillParts] at h3
    cases hpl : place i with
    | none => rw [hpl] at h3; cases h3
    | some p =>
      obtain ⟨off, size⟩ := p
      rw [hpl] at h3
      simp only at h3
      cases hc : (Nat.beq new.length size && Nat.ble (off + size) cs.length) with
      | false => rw [hc] at h3; simp at h3
      | true =>
        rw [hc] at h3
        simp only [cond_true] at h3
        simp only [Bool.and_eq_true] at hc
        have c1 := Nat.eq_of_beq_eq_true hc.1
        have c2 := Nat.le_of_ble_eq_true hc.2
        have l1 := h2.length
        have l2 := hn.length
        obtain ⟨us', k1, k2, k3⟩ := fillParts_sound hp r vs' _ cs' (spliceAt us off ws) hr (h2.splice hn (by omega)) h3
        refine ⟨us', ?_, k2, by rw [k3, spliceAt_length _ _ _ (by omega)]⟩
        simp only [Instr.fill, hp i _ hpl, hw, List.size_toArray]
        rw [if_neg (by simp; omega), foldl_splice off us ws (by omega)]
        exact k1
theorem zeros_rel : ∀ (cs : List Cell), (∀ c ∈ cs, zcell c = true) → RelCs A γ w Fr cs (cs.map cellV)
  | [], _ => rfl
  | c :: r, h => by
    obtain ⟨k1, k2, k3, k4⟩ := zcell_rel (A := A) (γ := γ) (w := w) (h c (by simp))
    exact ⟨_, _, rfl, ⟨k1, k2, by simp [k3], k4⟩, zeros_rel r fun c hc => h c (by simp [hc])⟩
theorem places_get {fs : List Field} {l : List (Nat × Nat)} (h : places X fs = some l) (hty : TyOK A.P X) :
    (fs.mapM fun f => (do pure (f.offset, ← sizeOf f.type) : Sem (Nat × Nat))).run A.P w = .ok l w := by
  induction fs generalizing l with
  | nil => simp only [places, Option.some.injEq] at h; subst h; rfl
  | cons f r ih =>
    simp only [places] at h
    split at h
    · rename_i tf l' h1 h2
      injection h with h
      subst h
      simp only [List.mapM_cons, Sem.run_bind, run_sizeOf_ti (w := w) (hty _ _ h1), Result.andThen_ok, Sem.run_pure, ih h2]
    · cases h
theorem op_build (h : Core A X γ Fr env a w) (hty : TyOK A.P X) (hd : dstOk X o) {T : TypeId} {ps : Array (Nat × Operand)} (ho : o.op = .build T ps) (he : (opRd X vn o).eval env.get [] = some (us, lg)) : OpOK A X Fr o us env a w := by
  simp only [opRd, ho, Rd.eval_bind, Option.bind_eq_some_iff, Ctx.ti, Rd.eval_ofOpt, Option.map_eq_some_iff] at he
  obtain ⟨_, ⟨ti, k1, rfl⟩, he⟩ := he
  have ht := hty T ti k1
  have hu := run_underlying (P := A.P) ht.und w
  have hz := run_zeroValue (w := w) ht
  have hzc := zero_cells ht
  have hzr : RelCs A γ w Fr ti.zero (ti.zero.map cellV) := zeros_rel _ ht.zcells
  have hmap : (ps.map fun (p : Nat × Operand) => (p.1, a.eval p.2)).toList = ps.toList.map fun p => (p.1, a.eval p.2) := by simp
  simp only at he
  split at he
  · rename_i fs hdesc
    simp only [Rd.eval_bind, Option.bind_eq_some_iff, Rd.eval_ofOpt, Option.map_eq_some_iff] at he
    obtain ⟨_, ⟨pl, h1, rfl⟩, ⟨qs, l2⟩, h2, _, ⟨cs, h3, rfl⟩, h4⟩ := he
    simp only [Rd.eval, Option.some.injEq, Prod.mk.injEq] at h4
    obtain ⟨rfl, _⟩ := h4
    rw [hdesc] at hu
    have hpl := places_get (w := w) h1 hty
    obtain ⟨us', f1, f2, f3⟩ := fillParts_sound (place' := fun i => pl.toArray[i]?) (fun i p hp => by simpa using hp) qs _ _ cs _ (rdParts_sound h _ h2) hzr h3
    refine OpOK.value (v := .agg us'.toArray) ?_ (h.put hd (av := .val true cs) ⟨us', rfl, by simp, f2⟩ (.inl ⟨_, _, rfl⟩))
    have hpa : (fs.mapM fun f => (do pure (f.offset, ← sizeOf f.type) : Sem (Nat × Nat))).run A.P w = .ok pl.toArray w := by
      rw [Array.mapM_eq_mapM_toList, Sem.run_map, hpl]
      rfl
    simp only [execOp, ho, Instr.build, Sem.run_bind, hz, Result.andThen_ok, hu, hpa, hzc, hmap, f1, Sem.run_pure]
  · rename_i n e hdesc
    simp only [Rd.eval_bind, Option.bind_eq_some_iff, Rd.eval_ofOpt, Option.map_eq_some_iff] at he
    obtain ⟨_, ⟨te, h1, rfl⟩, ⟨qs, l2⟩, h2, _, ⟨cs, h3, rfl⟩, h4⟩ := he
    simp only [Rd.eval, Option.some.injEq, Prod.mk.injEq] at h4
    obtain ⟨rfl, _⟩ := h4
    rw [hdesc] at hu
    obtain ⟨us', f1, f2, f3⟩ := fillParts_sound (place' := fun i => some (i * te.ty.size, te.ty.size)) (fun i p hp => hp) qs _ _ cs _ (rdParts_sound h _ h2) hzr h3
    refine OpOK.value (v := .agg us'.toArray) ?_ (h.put hd (av := .val true cs) ⟨us', rfl, by simp, f2⟩ (.inl ⟨_, _, rfl⟩))
    simp only [execOp, ho, Instr.build, Sem.run_bind, hz, Result.andThen_ok, hu, run_sizeOf_ti (w := w) (hty _ _ h1), hzc, hmap, f1, Sem.run_pure]
  · simp [Rd.eval] at he
end
end Go.VI
/- VI, part 17: rows that are made. -/
namespace Go.VI
open Go.RowKit
section
variable {A : Fix} {X : Ctx} {γ : Gh} {Fr : Nat → Prop} {env : Env} {a : Act} {w w' : World} {vn : Nat} {o : Oper} {us : List Upd} {lg : List Slot}
def ZExt (γ γ' : Gh) : Prop := γ'.ψ = γ.ψ ∧ γ'.σ = γ.σ ∧ γ'.φ = γ.φ ∧ ∀ g, γ.Z g → γ'.Z g
theorem ZExt.refl (γ : Gh) : ZExt γ γ := ⟨rfl, rfl, rfl, fun _ h => h⟩
theorem ZExt.trans {γ1 γ2 γ3 : Gh} (h : ZExt γ1 γ2) (k : ZExt γ2 γ3) : ZExt γ1 γ3 := ⟨k.1.trans h.1, k.2.1.trans h.2.1, k.2.2.1.trans h.2.2.1, fun g hg => k.2.2.2 g (h.2.2.2 g hg)⟩
theorem GoodR.zext {γ' : Gh} {c : Cell} {u : Value} (h : GoodR A γ w Fr c u) (hz : ZExt γ γ') : GoodR A γ' w Fr c u :=
  ⟨h.1.move (fun _ _ _ => by rw [hz.1]) (fun _ _ _ => by rw [hz.2.1]) hz.2.2.2 (fun _ _ => rfl) (Nat.le_refl _) (fun _ _ _ => rfl), h.2⟩
theorem RelCs.zext {γ' : Gh} (hz : ZExt γ γ') : ∀ {cs : List Cell} {us : List Value}, RelCs A γ w Fr cs us → RelCs A γ' w Fr cs us
  | [], _, h => h
  | _ :: _, _, ⟨u, us', h1, h2, h3⟩ => ⟨u, us', h1, h2.zext hz, RelCs.zext hz h3⟩
theorem frost_sound {env0 : Env} : ∀ (cs : List Cell) (xs : List Loc) (γ : Gh) (env1 : Env) (vs : List Value) (cs' : List Cell) (us : List Upd) (lg lg' : List Slot),
    Core A X γ Fr env1 a w → (∀ y, memLoc y xs = false → envCell env1 y = envCell env0 y) → RelCs A γ w Fr cs vs →
    (frost xs cs).eval env0.get lg = some ((cs', us), lg') → ∃ γ', Core A X γ' Fr (appAll env1 us) a w ∧ RelCs A γ' w Fr cs' vs ∧ ZExt γ γ'
  | [], xs, γ, env1, vs, cs', us, lg, lg', hc, hag, hr, he => by
    simp only [frost, Rd.eval, Option.some.injEq, Prod.mk.injEq] at he
    obtain ⟨⟨rfl, rfl⟩, _⟩ := he
    exact ⟨γ, hc, hr, ZExt.refl γ⟩
  | c :: r, xs, γ, env1, vs, cs', us, lg, lg', hc, hag, hr, he => by
    obtain ⟨u, vs', rfl, hg, hr'⟩ := hr
    have plain : ((frost xs r).bind fun q => Rd.pure (c :: q.1, q.2)).eval env0.get lg = some ((cs', us), lg') → ∃ γ', Core A X γ' Fr (appAll env1 us) a w ∧ RelCs A γ' w Fr cs' (u :: vs') ∧ ZExt γ γ' := by
      intro he
      simp only [Rd.eval_bind, Option.bind_eq_some_iff] at he
      obtain ⟨⟨⟨cs1, us1⟩, l1⟩, h1, h2⟩ := he
      simp only [Rd.eval, Option.some.injEq, Prod.mk.injEq] at h2
      obtain ⟨⟨rfl, rfl⟩, _⟩ := h2
      obtain ⟨γ', k1, k2, k3⟩ := frost_sound r xs γ env1 vs' cs1 us1 lg l1 hc hag hr' h1
      exact ⟨γ', k1, ⟨u, vs', rfl, hg.zext k3, k2⟩, k3⟩
    cases c with
    | own e t v l => simp [frost, Rd.eval] at he
    | sub x v s lo hi => simp [frost, Rd.eval] at he
    | barr b bv o n t => simp [frost, Rd.eval] at he
    | view x ver =>
      simp only [frost] at he
      cases hmm : (memLoc x xs || x.s.isLent) with
      | true => rw [hmm] at he; simp [Rd.eval] at he
      | false =>
        rw [hmm] at he
        simp only [Bool.or_eq_false_iff] at hmm
        obtain ⟨hm, hnl⟩ := hmm
        simp only [cond_false, Rd.eval_bind, Option.bind_eq_some_iff] at he
        obtain ⟨⟨⟨e, t, l⟩, l1⟩, h1, ⟨⟨cs1, us1⟩, l2⟩, h2, h3⟩ := he
        simp only [Rd.eval, Option.some.injEq, Prod.mk.injEq] at h3
        obtain ⟨⟨rfl, rfl⟩, _⟩ := h3
        have hx0 := ownerAt_eval h1
        have hx : envCell env1 x = some (.own e t ver l) := by rw [hag x hm]; exact hx0
        have hu : u = γ.φ x := hg.1.trans (hc.own x e t ver l hx).1
        have hk := hc.freeze hx hnl
        have hz : ZExt γ { γ with Z := fun g => γ.Z g ∨ (γ.φ x).ownBlock = some g } := ⟨rfl, rfl, rfl, fun g hg => .inl hg⟩
        have hag' : ∀ y, memLoc y (x :: xs) = false → envCell (Upd.app env1 (.cell x (.imm t l none))) y = envCell env0 y := by
          intro y hy
          simp only [memLoc, Bool.or_eq_false_iff] at hy
          have hne : y ≠ x := fun e => by rw [e] at hy; have := Loc.beq_iff.2 (rfl : x = x); rw [this] at hy; exact absurd hy.1 (by simp)
          rw [envCell_app_cell, if_neg (fun hh => hne hh.1)]
          exact hag y hy.2
        obtain ⟨γ', k1, k2, k3⟩ := frost_sound r (x :: xs) _ _ vs' cs1 us1 l1 l2 hk hag' (hr'.zext hz) h2
        refine ⟨γ', k1, ⟨u, vs', rfl, ?_, k2⟩, hz.trans k3⟩
        have hown : OwnV γ.Z w A.B e t u l := by rw [hu]; exact (hc.cell x _ hx).1
        have h0 : GoodR A { γ with Z := fun g => γ.Z g ∨ (γ.φ x).ownBlock = some g } w Fr (.imm t l none) u :=
          ⟨⟨OwnV.reads hown _ (fun g hg => .inl hg) (fun g hg => .inr (by rw [← hu]; exact hg)), by simp⟩, hg.2.1, by simp [refs], rfl⟩
        exact h0.zext k3
    | undef => exact plain he
    | int k n => exact plain he
    | bool b => exact plain he
    | str s => exact plain he
    | nil e t => exact plain he
    | imm t l p => exact plain he
    | addr b bv o => exact plain he
    | addrI b bv o n s i => exact plain he
    | gptr g o => exact plain he
    | gptrI g o n s i => exact plain he
    | iptr t x o => exact plain he
    | iptrI t x o n s i => exact plain he
    | eview x v s i o => exact plain he
    | eimm t l i o => exact plain he
    | eviewI x v s i o m s2 j => exact plain he
    | eimmI t l i o m s2 j => exact plain he
    | func f => exact plain he
    | clo as rs F => exact plain he
theorem Core.free_new (h : Core A X γ Fr env a w) {g : Nat} (hg : w.heap.size ≤ g) : Free A γ env g := by
  refine ⟨Nat.le_trans h.frame.size hg, fun hz => ?_, fun b bv fz cs hb e => ?_, fun y e t ver l hy hyg => ?_⟩
  · have := h.zone g hz; omega
  · obtain ⟨⟨T, h1⟩, _⟩ := h.box b bv fz cs hb
    have := (Array.getElem?_eq_some_iff.1 h1).1
    omega
  · have := (OwnV.lt (h.cell y _ hy).1 g hyg).2
    omega
theorem Core.putOwn (h : Core A X γ Fr env a w) (hv : Fr vn) (hd : dstOk X o) {e : TypeId} {t : Ty} {v : Value} {l : List t.den} (hown : OwnV γ.Z w A.B e t v l)
    (hf : ∀ g, v.ownBlock = some g → Free A γ env g) : Holds A X (FrD Fr vn) (appAll env (dstSet o (.val false [.own e t vn l]))) (a.put o.dst v) w := by
  unfold dstSet
  cases ho : o.dst with
  | none => exact ⟨γ, h.fr fun _ hh => hh.1⟩
  | some d =>
    have hone : v.oneCell' = true := by obtain ⟨B, c, hh, _⟩ := OwnV.slice hown; rw [hh]; rfl
    have := h.setInst hv (hd d ho) (g := false) (cs := [.own e t vn l]) (vs := [v]) (fun _ => rfl) ⟨rfl, ?_, ?_, ?_, ?_⟩
    · simpa [mkVal, appAll, Upd.app] using this
    · intro j u hu
      cases j <;> simp at hu
      subst hu; exact hone
    · intro j c u hc hu hn
      cases j <;> simp at hc
      subst hc; simp [Cell.isOwn] at hn
    · intro j e' t' v' l' u hc hu
      cases j with
      | succ j => simp at hc
      | zero =>
        simp only [List.getElem?_cons_zero, Option.some.injEq] at hc hu
        subst hu
        injection hc with h1 h2 h3 h4
        subst h1; subst h2; subst h3
        have h4 := eq_of_heq h4
        subst h4
        exact ⟨rfl, hown, hf⟩
    · intro j j' e1 e2 t1 t2 v1 v2 l1 l2 u1 u2 g h1 h2 h3 h4 h5 h6
      cases j <;> simp at h1
      cases j' <;> simp at h3
      rfl
theorem zeros_flat (Z : Nat → Prop) {T : TypeId} {ti : TI} (ht : TIOK A.P T ti) : ∀ (n : Nat), RepsL Z w ti.ty (List.replicate n ti.ty.dflt) (List.replicate n (ti.zero.map cellV)).flatten
  | 0 => rfl
  | n + 1 => ⟨_, _, by simp [List.replicate_succ], ht.zrep Z w, zeros_flat Z ht n⟩
theorem flat_get (zs : List Value) : ∀ (n i : Nat), i < n * zs.length → (List.replicate n zs).flatten[i]? = zs[i % zs.length]?
  | 0, i, h => by omega
  | n + 1, i, h => by
    rw [List.replicate_succ, List.flatten_cons]
    by_cases hi : i < zs.length
    · rw [List.getElem?_append_left hi, Nat.mod_eq_of_lt hi]
    · rw [Nat.succ_mul] at h
      rw [List.getElem?_append_right (by omega), flat_get zs n _ (by omega)]
      rw [← Nat.mod_eq_sub_mod (by omega)]
theorem madeCells_flat (zs : List Value) (h0 : 0 < zs.length) (n : Nat) : ((Array.range (n * zs.length)).map fun i => zs.toArray[i % zs.toArray.size]!) = (List.replicate n zs).flatten.toArray := by
  apply Array.ext_getElem?
  intro i
  by_cases hi : i < n * zs.length
  · have h2 : i % zs.length < zs.length := Nat.mod_lt _ h0
    have := flat_get zs n i hi
    have e : (List.replicate n zs).flatten.toArray[i]? = zs[i % zs.length]? := by rw [← this]; simp
    rw [e]
    simp [hi, h2]
  · have : (List.replicate n zs).flatten.length ≤ i := by simp [List.length_flatten]; omega
    have e : (List.replicate n zs).flatten.toArray[i]? = none := by rw [← List.getElem?_eq_none this]; simp
    rw [e]
    simp [hi]
theorem OwnV.made {Z : Nat → Prop} {B : Nat} {e : TypeId} {t : Ty} (h0 : 0 < t.size) (hB : B ≤ w.heap.size) {xs : List Value} {l : List t.den} {cap : Nat} (hc : l.length ≤ cap) (hcm : cap ≤ maxLen) {rest : List Value}
    (hr : RepsL Z w t l xs) (hrl : rest.length = (cap - l.length) * t.size) (hZ : ∀ g, Z g → g < w.heap.size) :
    OwnV Z (w.alloc (.cells (xs ++ rest).toArray e)) B e t (.slice (some ⟨w.heap.size, 0, none⟩) l.length cap) l := by
  have hl := RepsL.length _ _ hr
  refine ⟨h0, xs, ⟨hl, .inr ⟨w.heap.size, cap, _, (0, 0), rfl, hB, heap_alloc_new w _, .inl rfl, hc, hcm, ?_, ?_⟩⟩, RepsL.mono (fun _ h => h) (fun g hg => heap_alloc_old w _ g (hZ g hg)) _ _ hr⟩
  · simp only [List.size_toArray, List.length_append, hl, hrl, ← Nat.add_mul]
    congr 1; omega
  · simp only [← hl]
    exact List.take_left
theorem Core.putMade (h : Core A X γ Fr env a w) (hst : Stable A.n0 A.G) (hv : Fr vn) (hd : dstOk X o) {e : TypeId} {t : Ty} (h0 : 0 < t.size) {xs rest : List Value} {l : List t.den} {cap : Nat} (hc : l.length ≤ cap) (hcm : cap ≤ maxLen)
    (hr : RepsL γ.Z w t l xs) (hrl : rest.length = (cap - l.length) * t.size) :
    Holds A X (FrD Fr vn) (appAll env (dstSet o (.val false [.own e t vn l]))) (a.put o.dst (.slice (some ⟨w.heap.size, 0, none⟩) l.length cap)) (w.alloc (.cells (xs ++ rest).toArray e)) := by
  have hG : A.G (w.alloc (.cells (xs ++ rest).toArray e)) := hst.below h.glob ((Below.refl _ _).alloc (Nat.le_refl _) _)
  have hw := h.world (GrownD.alloc w (.cells (xs ++ rest).toArray e) none) (fun g hg => by cases hg) hG
  refine hw.putOwn hv hd (OwnV.made h0 (Nat.le_trans h.baseB h.frame.size) hc hcm hr hrl h.zone) fun g hg => ?_
  simp only [Value.ownBlock, Option.some.injEq] at hg
  subst hg
  exact h.free_new (Nat.le_refl _)
theorem op_makeSlice (h : Core A X γ Fr env a w) (hst : Stable A.n0 A.G) (hty : TyOK A.P X) (hv : Fr vn) (hd : dstOk X o) {T : TypeId} {n m : Operand} (ho : o.op = .makeSlice T n m) (he : (opRd X vn o).eval env.get [] = some (us, lg)) : OpOK A X (FrD Fr vn) o us env a w := by
  simp only [opRd, ho, Rd.eval_bind, Option.bind_eq_some_iff, Ctx.ti, Rd.eval_ofOpt, Option.map_eq_some_iff] at he
  obtain ⟨_, ⟨ti, k1, rfl⟩, he⟩ := he
  have ht := hty T ti k1
  simp only at he
  split at he
  · rename_i e hdesc
    simp only [Rd.eval_bind, Option.bind_eq_some_iff, Rd.eval_ofOpt, Option.map_eq_some_iff] at he
    obtain ⟨_, ⟨te, k2, rfl⟩, ⟨⟨kl, l⟩, l1⟩, h1, ⟨⟨kc, c⟩, l2⟩, h2, h3⟩ := he
    have hte := hty e te k2
    simp only at h3
    cases hs : Nat.blt 0 te.ty.size with
    | false => rw [hs] at h3; simp [Rd.eval] at h3
    | true =>
      rw [hs] at h3
      have hs : 0 < te.ty.size := Nat.le_of_ble_eq_true hs
      simp only [cond_true, Rd.eval] at h3
      cases hb : (decide (0 ≤ l) && decide (l ≤ c) && decide (c * (te.bytes : Int) ≤ 140737488355328) && decide (c ≤ 140737488355328)) with
      | false => rw [hb] at h3; simp at h3
      | true =>
        rw [hb] at h3
        simp only [cond_true, Option.some.injEq, Prod.mk.injEq] at h3
        obtain ⟨rfl, _⟩ := h3
        simp only [Bool.and_eq_true, decide_eq_true_eq] at hb
        obtain ⟨⟨⟨b1, b2⟩, b3⟩, b4⟩ := hb
        obtain ⟨i, hi, hsz, hby, hz⟩ := hte.info'
        have hl : a.eval n = .int kl l := rdInt_sound h h1
        have hc : a.eval m = .int kc c := rdInt_sound h h2
        have hzl : (te.zero.map cellV).length = te.ty.size := by rw [List.length_map, hte.zlen]
        have hrun := run_make (P := A.P) w T e i _ (by rw [ht.und, hdesc]) hi hz kl kc l c b1 b2 (by rw [hby, Int.mul_comm]; omega) (by omega)
        have hcells : madeCells (mkVal te.agg (te.zero.map cellV)).cells (c.toNat * i.size) = ((List.replicate l.toNat (te.zero.map cellV)).flatten ++ (List.replicate (c.toNat - l.toNat) (te.zero.map cellV)).flatten).toArray := by
          rw [zero_cells hte, hsz, ← hzl]
          unfold madeCells
          rw [madeCells_flat _ (by omega), ← List.flatten_append, List.replicate_append_replicate]
          congr 4; omega
        rw [hcells] at hrun
        have hh := h.putMade (o := o) (e := e) (t := te.ty) (l := List.replicate l.toNat te.ty.dflt) (cap := c.toNat) hst hv hd hs (by simp; omega) (by simp [maxLen]; omega) (zeros_flat γ.Z hte l.toNat) (rest := (List.replicate (c.toNat - l.toNat) (te.zero.map cellV)).flatten) (by simp [hte.zlen])
        rw [List.length_replicate] at hh
        refine OpOK.value (v := .slice (some ⟨w.heap.size, 0, none⟩) l.toNat c.toNat) ?_ hh
        simp only [execOp, ho, hl, hc, Sem.run_bind, hrun, Result.andThen_ok, Sem.run_pure]
  · simp [Rd.eval] at he
theorem zcell_flat (n : Nat) (zs : List Cell) (hz : ∀ c ∈ zs, zcell c = true) : RelCs A γ w Fr (replN n zs).flatten (List.replicate n (zs.map cellV)).flatten := by
  induction n with
  | zero => exact rfl
  | succ n ih => rw [replN, List.flatten_cons, List.replicate_succ, List.flatten_cons]; exact (zeros_rel zs hz).append ih
theorem op_buildSlice (h : Core A X γ Fr env a w) (hst : Stable A.n0 A.G) (hty : TyOK A.P X) (hv : Fr vn) (hd : dstOk X o) {T : TypeId} {n : Nat} {ps : Array (Nat × Operand)} (ho : o.op = .buildSlice T n ps) (he : (opRd X vn o).eval env.get [] = some (us, lg)) :
    OpOK A X (FrD Fr vn) o us env a w := by
  simp only [opRd, ho, Rd.eval_bind, Option.bind_eq_some_iff, Ctx.ti, Rd.eval_ofOpt, Option.map_eq_some_iff] at he
  obtain ⟨_, ⟨ti, k1, rfl⟩, he⟩ := he
  have ht := hty T ti k1
  have hu := run_underlying (P := A.P) ht.und w
  have hmap : (ps.map fun (p : Nat × Operand) => (p.1, a.eval p.2)).toList = ps.toList.map fun p => (p.1, a.eval p.2) := by simp
  simp only at he
  split at he
  · rename_i e hdesc
    simp only [Rd.eval_bind, Option.bind_eq_some_iff, Rd.eval_ofOpt, Option.map_eq_some_iff] at he
    obtain ⟨_, ⟨te, k2, rfl⟩, ⟨qs, l2⟩, h2, _, ⟨cs, h3, rfl⟩, ⟨⟨cs1, us1⟩, l3⟩, h4, _, ⟨l, h5, rfl⟩, h6⟩ := he
    have hte := hty e te k2
    simp only at h5 h6
    cases hb : (Nat.blt 0 te.ty.size && Nat.ble (n * te.ty.size) 16777216) with
    | false => rw [hb] at h6; simp [Rd.eval] at h6
    | true =>
      rw [hb] at h6
      simp only [cond_true, Rd.eval, Option.some.injEq, Prod.mk.injEq] at h6
      obtain ⟨rfl, _⟩ := h6
      simp only [Bool.and_eq_true] at hb
      have hs : 0 < te.ty.size := Nat.le_of_ble_eq_true hb.1
      have hn := Nat.le_of_ble_eq_true hb.2
      rw [hdesc] at hu
      have hzl : (te.zero.map cellV).length = te.ty.size := by rw [List.length_map, hte.zlen]
      obtain ⟨us', f1, f2, f3⟩ := fillParts_sound (place' := fun i => some (i * te.ty.size, te.ty.size)) (fun i p hp => hp) qs _ _ cs _ (rdParts_sound h _ h2) (zcell_flat n te.zero hte.zcells) h3
      obtain ⟨γ', g1, g2, g3⟩ := frost_sound cs [] γ env us' cs1 us1 _ _ h (fun _ _ => rfl) f2 h4
      obtain ⟨u1, u2, hu12, r1, r2⟩ := implodeN_rel te.ty n cs1 us' l h5 g2
      have hulen : us'.length = n * te.ty.size := by
        rw [f2.length, f3]
        have : ∀ (k : Nat), ((replN k te.zero).flatten).length = k * te.ty.size := by
          intro k
          induction k with
          | zero => simp [replN]
          | succ k ih => rw [replN, List.flatten_cons, List.length_append, ih, hte.zlen, Nat.succ_mul]; omega
        exact this n
      have hu2 : u2 = [] := by
        have h1 := RepsL.length _ _ r1
        rw [r2] at h1
        rw [hu12, List.length_append, h1] at hulen
        exact List.eq_nil_of_length_eq_zero (by omega)
      subst hu2
      rw [List.append_nil] at hu12
      subst hu12
      have hnm : l.length ≤ maxLen := by
        rw [r2]
        have : n ≤ n * te.ty.size := Nat.le_mul_of_pos_right _ hs
        simp [maxLen]; omega
      have hh := g1.putMade (o := o) (e := e) (t := te.ty) (l := l) (cap := n) (rest := []) hst hv hd hs (by omega) (by rw [← r2]; exact hnm) r1 (by simp [r2])
      rw [List.append_nil, r2] at hh
      rw [← appAll_append] at hh
      refine OpOK.value (v := .slice (some ⟨w.heap.size, 0, none⟩) n n) ?_ hh
      have hbig : ¬ (n * te.ty.size > 2 ^ 24) := by have : (2:Nat)^24 = 16777216 := by decide
                                                    omega
      have hrow : ((Array.range (n * te.ty.size)).map fun i => (if n = 0 then (#[] : Array Value) else (te.zero.map cellV).toArray)[i % (if n = 0 then (#[] : Array Value) else (te.zero.map cellV).toArray).size]!) = (List.replicate n (te.zero.map cellV)).flatten.toArray := by
        by_cases h0 : n = 0
        · subst h0; simp
        · simp only [h0, if_false]
          rw [← hzl]
          exact madeCells_flat _ (by omega) n
      by_cases h0 : n = 0
      · subst h0
        simp only [if_true] at hrow
        simp only [execOp, ho, Instr.buildSlice, Sem.run_bind, hu, Result.andThen_ok, run_sizeOf_ti (w := w) hte, (by decide : ¬ (0 > 2 ^ 24)), if_false, Sem.run_pure, Nat.zero_mul, if_true] at hrow ⊢
        simp only [hrow, hmap, f1, newRow, Sem.run_bind, Sem.run_pure]
        rfl
      · have hne : ¬ (n * te.ty.size = 0) := by
          intro hh; rcases Nat.mul_eq_zero.1 hh with hh | hh <;> omega
        simp only [h0, if_false] at hrow
        simp only [execOp, ho, Instr.buildSlice, Sem.run_bind, hu, Result.andThen_ok, run_sizeOf_ti (w := w) hte, hbig, if_false, Sem.run_pure, hne, run_zeroValue (w := w) hte, zero_cells hte, hrow, hmap, f1, newRow]
        rfl
  · simp [Rd.eval] at he
theorem bytesText (h : Core A X γ Fr env a w) (hd : dstOk X o) {S D e : TypeId} {x : Operand} (ho : o.op = .convert S D x) (hue : A.P.underlying e = some (.int .u8)) (hus : A.P.underlying S = some (.slice e)) (hud : A.P.underlying D = some .string)
    {t : Ty} {l : List t.den} (hl : ∃ Z' : Nat → Prop, (∀ g, γ.Z g → Z' g) ∧ RepI Z' w (.sl t) l [a.eval x]) (f : t.den → Int) (hf : ∀ {Z' : Nat → Prop} (n : t.den) (xs : List Value), RepI Z' w t n xs → xs = [.int .u8 (f n)]) (h1 : t.size = 1) :
    OpOK A X Fr o (dstSet o (.val false [.str (l.map fun n => (f n).toNat.toUInt8)])) env a w := by
  obtain ⟨Z', _, B, c', hB, hlc, hel⟩ := hl
  simp only [List.cons.injEq, and_true] at hB
  have hb : (Conv.bytesToString (.slice B l.length c')).run A.P w = .ok (.string ⟨((l.map f).map fun (n : Int) => n.toNat.toUInt8).toArray⟩) w := by
    cases B with
    | none =>
      have : l = [] := by
        cases l with
        | nil => rfl
        | cons x r => obtain ⟨_, hh, _⟩ := hel 0 x rfl; cases hh
      subst this
      rfl
    | some ad =>
      have hlc : (loadCells ad l.length).run A.P w = .ok ((l.map f).map (Value.int .u8)).toArray w := by
        have := run_loadCells_list (P := A.P) w ad ((l.map f).map (Value.int .u8)) (fun j v hv => by
          rw [List.getElem?_map, List.getElem?_map, Option.map_eq_some_iff] at hv
          obtain ⟨n, hn, rfl⟩ := hv
          rw [Option.map_eq_some_iff] at hn
          obtain ⟨n', hn', rfl⟩ := hn
          obtain ⟨ad', hh, _, xs, hxs, hcc⟩ := hel j n' hn'
          injection hh with hh
          subst hh
          rw [hf n' xs hxs] at hcc
          have := hcc 0 _ rfl
          simpa [h1] using this)
        simpa using this
      rw [run_bytesToString w ad l.length c' (l.map f) hlc, foldl_push]
  have hm : l.map (fun n => (f n).toNat.toUInt8) = (l.map f).map fun (n : Int) => n.toNat.toUInt8 := by rw [List.map_map]; rfl
  rw [hm]
  refine OpOK.value (v := .string ⟨((l.map f).map fun (n : Int) => n.toNat.toUInt8).toArray⟩) ?_ (h.putCell hd (good_str _))
  simp only [execOp, ho, Sem.run_bind, hB, run_convert_bytes_string w S D e B l.length c' hus hue hud, hb, Result.andThen_ok, Sem.run_pure]
theorem op_convert (h : Core A X γ Fr env a w) (hst : Stable A.n0 A.G) (hty : TyOK A.P X) (hv : Fr vn) (hd : dstOk X o) {S D : TypeId} {x : Operand} (ho : o.op = .convert S D x) (he : (opRd X vn o).eval env.get [] = some (us, lg)) : OpOK A X (FrD Fr vn) o us env a w := by
  simp only [opRd, ho, Rd.eval_bind, Option.bind_eq_some_iff, Ctx.ti, Rd.eval_ofOpt, Option.map_eq_some_iff] at he
  obtain ⟨_, ⟨ts, k1, rfl⟩, _, ⟨td, k2, rfl⟩, ⟨c, l1⟩, h1, h2⟩ := he
  have hts := hty S ts k1
  have htd := hty D td k2
  have hg := rdCell_sound h h1
  have us0 := run_underlying (P := A.P) hts.und w
  have ud0 := run_underlying (P := A.P) htd.und w
  simp only at h2
  split at h2
  · rename_i k k' n hdesc
    rw [retOne_eval h2]
    have ex : a.eval x = .int k' n := hg.1
    rw [hdesc] at ud0
    refine (OpOK.value (v := .int k (k.wrap n)) ?_ (h.putCell hd (good_int _ _))).weaken vn
    simp only [execOp, ho, convert, Sem.run_bind, us0, ud0, Result.andThen_ok, ex, Conv.intToInt, Sem.run_pure]
  · rename_i s hd1 hd2
    rw [retOne_eval h2]
    have ex : a.eval x = .string ⟨s.toArray⟩ := hg.1
    rw [hd1] at us0
    rw [hd2] at ud0
    refine (OpOK.value (v := .string ⟨s.toArray⟩) ?_ (h.putCell hd (good_str _))).weaken vn
    simp only [execOp, ho, convert, Sem.run_bind, us0, ud0, Result.andThen_ok, ex, Sem.run_pure]
  · rename_i e hd1 hd2
    rw [hd1] at us0
    rw [hd2] at ud0
    simp only [Rd.eval_bind, Option.bind_eq_some_iff, Rd.eval_ofOpt, Option.map_eq_some_iff] at h2
    obtain ⟨_, ⟨te, k3, rfl⟩, h2⟩ := h2
    have hte := hty _ te k3
    simp only at h2
    split at h2
    · rename_i hu8
      simp only [Rd.eval_bind, Option.bind_eq_some_iff] at h2
      obtain ⟨⟨p, l2⟩, h3, h4⟩ := h2
      simp only at h4
      split at h4
      · rename_i l
        rw [retOne_eval h4]
        exact (bytesText h hd ho (by rw [hte.und, hu8]) (by rw [hts.und, hd1]) (by rw [htd.und, hd2]) (listOf_sound h hg h3) (fun n => n) (fun n xs hx => hx) rfl).weaken vn
      · rename_i l
        rw [retOne_eval h4]
        exact (bytesText h hd ho (by rw [hte.und, hu8]) (by rw [hts.und, hd1]) (by rw [htd.und, hd2]) (listOf_sound h hg h3) (fun n => n.1) (fun n xs hx => by
          obtain ⟨c1, c2, hh, h1, h2⟩ := hx
          rw [hh, show c1 = _ from h1, show c2 = _ from h2]; rfl) rfl).weaken vn
      · simp [Rd.eval] at h4
    · simp [Rd.eval] at h2
  · rename_i e s hd1 hd2
    simp only [Rd.eval_bind, Option.bind_eq_some_iff, Rd.eval_ofOpt, Option.map_eq_some_iff] at h2
    obtain ⟨_, ⟨te, k3, rfl⟩, h2⟩ := h2
    have hte := hty _ te k3
    simp only at h2
    split at h2
    · rename_i hu8
      cases hm : decide (s.length ≤ 140737488355328) with
      | false => rw [hm] at h2; simp [Rd.eval] at h2
      | true =>
        rw [hm] at h2
        simp only [Rd.eval, cond_true, Option.some.injEq, Prod.mk.injEq] at h2
        obtain ⟨rfl, _⟩ := h2
        have hm : s.length ≤ maxLen := by have := of_decide_eq_true hm; simp only [maxLen]; omega
        have ex : a.eval x = .string ⟨s.toArray⟩ := hg.1
        have hsz : (⟨s.toArray⟩ : ByteArray).size = s.length := by simp [ByteArray.size]
        have hrun := Lib.run_convert_string_bytes (P := A.P) w S D e ⟨s.toArray⟩ (by rw [hts.und, hd1]) (by rw [htd.und, hd2]) (by rw [hte.und, hu8])
        have hge := grownCap_ge w (⟨s.toArray⟩ : ByteArray).size 0 e
        have hle := grownCap_le_maxLen w (⟨s.toArray⟩ : ByteArray).size 0 e (by rw [hsz]; exact hm)
        rw [hsz] at hrun hge hle
        generalize hcap : grownCap w s.length 0 e = cap at hrun hge hle
        generalize hW : Lib.bytesWorld w e ⟨s.toArray⟩ = W at hrun
        have hcs : (Lib.bytesCells w e ⟨s.toArray⟩).size = cap := by
          simp only [Lib.bytesCells, hsz, hcap, Array.size_append, Array.size_map, Array.size_replicate, List.size_toArray]
          omega
        have hnew : W.heap[w.heap.size]? = some (.cells (Lib.bytesCells w e ⟨s.toArray⟩) e (cap, cap + 1)) := by
          rw [← hW, Lib.bytesWorld_at_new, hcs]
        have hold : ∀ k, k < w.heap.size → W.heap[k]? = w.heap[k]? := fun k hk => by rw [← hW]; exact Lib.bytesWorld_at_old w e _ k hk
        have hsize : W.heap.size = w.heap.size + 1 := by rw [← hW]; exact Lib.bytesWorld_size w e _
        have hb : Below w.heap.size w W := ⟨by rw [← hW]; rfl, by rw [← hW]; rfl, by rw [← hW]; rfl, by omega, hold, by rw [← hW]; exact Nat.le_succ _⟩
        have hgr : GrownD w W none := ⟨hb.os, hb.tape, hb.output, hb.size, fun k hk _ => hold k hk, hb.drawn⟩
        have hG : A.G W := hst.below h.glob hb
        have hw := h.world hgr (fun g hg => by cases hg) hG
        have hrep : ∀ l : List UInt8, RepsL γ.Z W markT (l.map fun (c : UInt8) => ((c.toNat : Int), ())) (l.map fun (c : UInt8) => Value.int .u8 c.toNat) := fun l => by
          induction l with
          | nil => rfl
          | cons c l ih => exact ⟨[.int .u8 c.toNat], _, rfl, ⟨[.int .u8 c.toNat], [], rfl, rfl, rfl⟩, ih⟩
        have hml : (s.map fun (c : UInt8) => (((c.toNat : Int), ()) : Int × Unit)).length = s.length := List.length_map ..
        have hown : OwnV γ.Z W A.B e markT (.slice (some ⟨w.heap.size, 0, none⟩) s.length cap) (s.map fun (c : UInt8) => ((c.toNat : Int), ())) := by
          refine ⟨by decide, s.map fun (c : UInt8) => Value.int .u8 c.toNat, ⟨?_, .inr ⟨w.heap.size, cap, _, (cap, cap + 1), ?_, Nat.le_trans h.baseB h.frame.size, hnew, .inr ⟨rfl, rfl⟩, ?_, hle, ?_, ?_⟩⟩, hrep s⟩
          · exact (List.length_map ..).trans (hml.symm.trans (Nat.mul_one _).symm)
          · exact congrArg (fun n => Value.slice (some ⟨w.heap.size, 0, none⟩) n cap) hml.symm
          · exact Nat.le_trans (Nat.le_of_eq hml) hge
          · rw [hcs]; exact (Nat.mul_one _).symm
          · have e1 : List.length (α := markT.den) (s.map fun (c : UInt8) => ((c.toNat : Int), ())) * markT.size = s.length := (Nat.mul_one _).trans hml
            rw [e1]
            simp [Lib.bytesCells]
        refine OpOK.value (v := .slice (some ⟨w.heap.size, 0, none⟩) s.length cap) ?_ (hw.putOwn hv hd hown fun g hg => ?_)
        · simp only [execOp, ho, Sem.run_bind, ex, hrun, Result.andThen_ok, Sem.run_pure]
        · simp only [Value.ownBlock, Option.some.injEq] at hg
          subst hg
          exact h.free_new (Nat.le_refl _)
    · simp [Rd.eval] at h2
  · simp [Rd.eval] at h2
end
end Go.VI
