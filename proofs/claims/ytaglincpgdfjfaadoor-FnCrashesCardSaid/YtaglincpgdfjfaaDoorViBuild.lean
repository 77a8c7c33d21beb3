/- VI, part 16: what is built and made. -/
import Derived.Test.YtaglincpgdfjfaaDoorViOps4
namespace Go.VI
open Go.RowKit

section
variable {A : Fix} {X : Ctx} {γ : Gh} {Fr : Nat → Prop} {env : Env} {a : Act} {w w' : World} {vn : Nat} {o : Oper} {us : List Upd} {lg : List Slot}

theorem RelCs.splice {cs new : List Cell} {us vs : List Value} {off : Nat} (h1 : RelCs A γ w Fr cs us) (h2 : RelCs A γ w Fr new vs) (hf : off + new.length ≤ cs.length) :
    RelCs A γ w Fr (spliceAt cs off new) (spliceAt us off vs) := by
  have l1 := h1.length
  have l2 := h2.length
  refine RelCs.of_get (by rw [spliceAt_length _ _ _ hf, spliceAt_length _ _ _ (by omega), l1]) fun j c u hc hu => ?_
  rw [spliceAt_get _ _ _ _ hf] at hc
  rw [spliceAt_get _ _ _ _ (by omega), l2] at hu
  split at hc
  · rename_i hh
    rw [if_pos hh] at hu
    obtain ⟨u', hu', hg⟩ := h2.get hc
    rw [hu] at hu'; injection hu' with hu'; subst hu'; exact hg
  · rename_i hh
    rw [if_neg hh] at hu
    obtain ⟨u', hu', hg⟩ := h1.get hc
    rw [hu] at hu'; injection hu' with hu'; subst hu'; exact hg

theorem foldl_set_get (off : Nat) : ∀ (vs : List Value) (k : Nat) (us : Array Value) (i : Nat), off + k + vs.length ≤ us.size →
    ((vs.zipIdx k).foldl (fun cs p => cs.setIfInBounds (off + p.2) p.1) us)[i]? = if off + k ≤ i ∧ i < off + k + vs.length then vs[i - (off + k)]? else us[i]?
  | [], k, us, i, _ => by
    rw [if_neg (by simp only [List.length_nil]; omega)]; rfl
  | v :: r, k, us, i, hf => by
    simp only [List.length_cons] at hf
    rw [List.zipIdx_cons, List.foldl_cons, foldl_set_get off r (k + 1) _ i (by simp only [Array.size_setIfInBounds]; omega)]
    simp only [List.length_cons]
    by_cases h1 : i = off + k
    · subst h1
      rw [if_neg (by omega), if_pos (by omega)]
      simp [Array.getElem?_setIfInBounds]
      omega
    · by_cases h2 : off + k ≤ i ∧ i < off + k + (r.length + 1)
      · rw [if_pos (by omega), if_pos h2]
        rw [show i - (off + k) = (i - (off + (k + 1))) + 1 by omega, List.getElem?_cons_succ]
      · rw [if_neg (by omega), if_neg h2]
        simp [Ne.symm h1]

theorem foldl_splice (off : Nat) (us vs : List Value) (hf : off + vs.length ≤ us.length) :
    vs.toArray.zipIdx.foldl (fun cs (p : Value × Nat) => cs.setIfInBounds (off + p.2) p.1) us.toArray = (spliceAt us off vs).toArray := by
  have hl : vs.toArray.zipIdx = (vs.zipIdx).toArray := by simp
  rw [hl, List.foldl_toArray]
  apply Array.ext_getElem?
  intro i
  have := foldl_set_get off vs 0 us.toArray i (by simpa using hf)
  rw [this, List.getElem?_toArray, List.getElem?_toArray, spliceAt_get _ _ _ _ hf]
  simp

def PartsRel (A : Fix) (γ : Gh) (w : World) (Fr : Nat → Prop) : List (Nat × List Cell) → List (Nat × Value) → Prop
  | [], vs => vs = []
  | p :: r, vs => ∃ v vs', vs = (p.1, v) :: vs' ∧ (∃ us, v.cells = us.toArray ∧ RelCs A γ w Fr p.2 us) ∧ PartsRel A γ w Fr r vs'

theorem rdParts_sound (h : Core A X γ Fr env a w) {T : Nat → TypeId} : ∀ (ps : List (Nat × Operand)) {qs : List (Nat × List Cell)} {l0 l1 : List Slot}, (rdParts X T ps).eval env.get l0 = some (qs, l1) →
    PartsRel A γ w Fr qs (ps.map fun p => (p.1, a.eval p.2))
  | [], qs, l0, l1, he => by
    simp only [rdParts, Rd.eval, Option.some.injEq, Prod.mk.injEq] at he
    obtain ⟨rfl, _⟩ := he
    rfl
  | (i, x) :: r, qs, l0, l1, he => by
    simp only [rdParts, Rd.eval_bind, Option.bind_eq_some_iff] at he
    obtain ⟨⟨av, l2⟩, h1, h2⟩ := he
    have hr := rdOp_sound h h1
    cases av with
    | val g cs =>
      simp only [Rd.eval_bind, Option.bind_eq_some_iff] at h2
      obtain ⟨⟨q, l3⟩, h3, h4⟩ := h2
      simp only [Rd.eval, Option.some.injEq, Prod.mk.injEq] at h4
      obtain ⟨rfl, _⟩ := h4
      obtain ⟨vs, hv, hg, hcs⟩ := hr
      exact ⟨_, _, rfl, ⟨vs, by rw [hv]; exact mkVal_cells hcs.one (fun hgf => by rw [hcs.length]; exact hg hgf), hcs⟩, rdParts_sound h r h3⟩
    | skip => simp [Rd.eval] at h2
    | undef => simp [Rd.eval] at h2
    | tup l => simp [Rd.eval] at h2
    | box _ _ _ => simp [Rd.eval] at h2
    | num _ => simp [Rd.eval] at h2

theorem fillParts_sound {place place' : Nat → Option (Nat × Nat)} (hp : ∀ i p, place i = some p → place' i = some p) : ∀ (qs : List (Nat × List Cell)) (vs : List (Nat × Value)) (cs cs' : List Cell) (us : List Value),
    PartsRel A γ w Fr qs vs → RelCs A γ w Fr cs us → fillParts place cs qs = some cs' → ∃ us', Instr.fill place' us.toArray vs = some us'.toArray ∧ RelCs A γ w Fr cs' us' ∧ cs'.length = cs.length
  | [], vs, cs, cs', us, h1, h2, h3 => by
    rw [show vs = [] from h1]
    simp only [fillParts, Option.some.injEq] at h3
    subst h3
    exact ⟨us, rfl, h2, rfl⟩
  | (i, new) :: r, vs, cs, cs', us, h1, h2, h3 => by
    obtain ⟨v, vs', rfl, ⟨ws, hw, hn⟩, hr⟩ := h1
    simp only at hn
    simp only [fillParts] at h3
    cases hpl : place i with
    | none => rw [hpl] at h3; cases h3
    | some p =>
      obtain ⟨off, size⟩ := p
      rw [hpl] at h3
      simp only at h3
      cases hc : (Nat.beq new.length size && Nat.ble (off + size) cs.length) with
      | false => rw [hc] at h3; simp at h3
      | true =>
        rw [hc] at h3
        simp only [cond_true] at h3
        simp only [Bool.and_eq_true] at hc
        have c1 := Nat.eq_of_beq_eq_true hc.1
        have c2 := Nat.le_of_ble_eq_true hc.2
        have l1 := h2.length
        have l2 := hn.length
        obtain ⟨us', k1, k2, k3⟩ := fillParts_sound hp r vs' _ cs' (spliceAt us off ws) hr (h2.splice hn (by omega)) h3
        refine ⟨us', ?_, k2, by rw [k3, spliceAt_length _ _ _ (by omega)]⟩
        simp only [Instr.fill, hp i _ hpl, hw, List.size_toArray]
        rw [if_neg (by simp; omega), foldl_splice off us ws (by omega)]
        exact k1

theorem zeros_rel : ∀ (cs : List Cell), (∀ c ∈ cs, zcell c = true) → RelCs A γ w Fr cs (cs.map cellV)
  | [], _ => rfl
  | c :: r, h => by
    obtain ⟨k1, k2, k3, k4⟩ := zcell_rel (A := A) (γ := γ) (w := w) (h c (by simp))
    exact ⟨_, _, rfl, ⟨k1, k2, by simp [k3], k4⟩, zeros_rel r fun c hc => h c (by simp [hc])⟩

theorem places_get {fs : List Field} {l : List (Nat × Nat)} (h : places X fs = some l) (hty : TyOK A.P X) :
    (fs.mapM fun f => (do pure (f.offset, ← sizeOf f.type) : Sem (Nat × Nat))).run A.P w = .ok l w := by
  induction fs generalizing l with
  | nil => simp only [places, Option.some.injEq] at h; subst h; rfl
  | cons f r ih =>
    simp only [places] at h
    split at h
    · rename_i tf l' h1 h2
      injection h with h
      subst h
      simp only [List.mapM_cons, Sem.run_bind, run_sizeOf_ti (w := w) (hty _ _ h1), Result.andThen_ok, Sem.run_pure, ih h2]
    · cases h

theorem op_build (h : Core A X γ Fr env a w) (hty : TyOK A.P X) (hd : dstOk X o) {T : TypeId} {ps : Array (Nat × Operand)} (ho : o.op = .build T ps) (he : (opRd X vn o).eval env.get [] = some (us, lg)) : OpOK A X Fr o us env a w := by
  simp only [opRd, ho, Rd.eval_bind, Option.bind_eq_some_iff, Ctx.ti, Rd.eval_ofOpt, Option.map_eq_some_iff] at he
  obtain ⟨_, ⟨ti, k1, rfl⟩, he⟩ := he
  have ht := hty T ti k1
  have hu := run_underlying (P := A.P) ht.und w
  have hz := run_zeroValue (w := w) ht
  have hzc := zero_cells ht
  have hzr : RelCs A γ w Fr ti.zero (ti.zero.map cellV) := zeros_rel _ ht.zcells
  have hmap : (ps.map fun (p : Nat × Operand) => (p.1, a.eval p.2)).toList = ps.toList.map fun p => (p.1, a.eval p.2) := by simp
  simp only at he
  split at he
  · rename_i fs hdesc
    simp only [Rd.eval_bind, Option.bind_eq_some_iff, Rd.eval_ofOpt, Option.map_eq_some_iff] at he
    obtain ⟨_, ⟨pl, h1, rfl⟩, ⟨qs, l2⟩, h2, _, ⟨cs, h3, rfl⟩, h4⟩ := he
    simp only [Rd.eval, Option.some.injEq, Prod.mk.injEq] at h4
    obtain ⟨rfl, _⟩ := h4
    rw [hdesc] at hu
    have hpl := places_get (w := w) h1 hty
    obtain ⟨us', f1, f2, f3⟩ := fillParts_sound (place' := fun i => pl.toArray[i]?) (fun i p hp => by simpa using hp) qs _ _ cs _ (rdParts_sound h _ h2) hzr h3
    refine OpOK.value (v := .agg us'.toArray) ?_ (h.put hd (av := .val true cs) ⟨us', rfl, by simp, f2⟩ (.inl ⟨_, _, rfl⟩))
    have hpa : (fs.mapM fun f => (do pure (f.offset, ← sizeOf f.type) : Sem (Nat × Nat))).run A.P w = .ok pl.toArray w := by
      rw [Array.mapM_eq_mapM_toList, Sem.run_map, hpl]
      rfl
    simp only [execOp, ho, Instr.build, Sem.run_bind, hz, Result.andThen_ok, hu, hpa, hzc, hmap, f1, Sem.run_pure]
  · rename_i n e hdesc
    simp only [Rd.eval_bind, Option.bind_eq_some_iff, Rd.eval_ofOpt, Option.map_eq_some_iff] at he
    obtain ⟨_, ⟨te, h1, rfl⟩, ⟨qs, l2⟩, h2, _, ⟨cs, h3, rfl⟩, h4⟩ := he
    simp only [Rd.eval, Option.some.injEq, Prod.mk.injEq] at h4
    obtain ⟨rfl, _⟩ := h4
    rw [hdesc] at hu
    obtain ⟨us', f1, f2, f3⟩ := fillParts_sound (place' := fun i => some (i * te.ty.size, te.ty.size)) (fun i p hp => hp) qs _ _ cs _ (rdParts_sound h _ h2) hzr h3
    refine OpOK.value (v := .agg us'.toArray) ?_ (h.put hd (av := .val true cs) ⟨us', rfl, by simp, f2⟩ (.inl ⟨_, _, rfl⟩))
    simp only [execOp, ho, Instr.build, Sem.run_bind, hz, Result.andThen_ok, hu, run_sizeOf_ti (w := w) (hty _ _ h1), hzc, hmap, f1, Sem.run_pure]
  · simp [Rd.eval] at he
end
end Go.VI
