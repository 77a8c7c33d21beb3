/- The forms of up to four cubes, by a walk and by evaluation. -/
import Derived.Test.YtlnfgikipeiaiaaEvG1
import Derived.Test.YtlnfgikipeiaiaaEvG2
import Derived.Test.YtlnfgikipeiaiaaEvG3
import Derived.Test.YtlnfgikipeiaiaaEvG4
import Derived.Test.YtlnfgikipeiaiaaVjFs2
import Derived.Test.YtlnfgikipeiaiaaVjFs3
import Derived.Test.YtlnfgikipeiaiaaEvG5
namespace Go.VI
open Go.Proofs Go.RowKit
set_option maxRecDepth 100000
theorem stepB3 : stepB FL3 = true := by
  simp only [stepB, List.all_cons, List.all_nil, cellA0, cellA1, cellA2, cellC0, cellC1, cellC2, Bool.and_true]
  decide
def FormsIs (n : Int) (L : List DHeap) : Prop := ∀ U : World, Calls Try.prog 17 #[.int .i64 n] U fun e w' => ∃ v gs, e = .returned v ∧ Below U.heap.size U w' ∧ DeepH w' U.heap.size 35 42 v gs ∧ gs.map HE.heap = L
theorem formsIs_succ {n : Nat} (hn : 1 ≤ n ∧ n ≤ 100) {L C : List DHeap} (h : FormsIs n L) (hs : stepB L = true) (hm : memB C L = true) (ho : ordB C = true) (hC : C ≠ []) : FormsIs ((n + 1 : Nat) : Int) C := fun W => by
  have M := mem_of hm
  have O := ordC_of ho
  have hne : VE.cands L ≠ [] := by
    cases C with
    | nil => exact absurd rfl hC
    | cons c C => exact fun e => by have := (M c).2 (by simp); rw [e] at this; cases this
  refine (forms_step hn h (stepOK_of hs) hne O.ok (fun x hx => (M x).1 hx) W).mono ?_
  rintro e w' ⟨v, hs1, hs2, rfl, hb, hd, hq, hso⟩
  exact ⟨v, hs2, rfl, hb, hd, sortedOf_eq O hso fun x => by rw [hq]; exact M x⟩
theorem forms1 : FormsIs 1 FL1 := forms_one (v_impl_heapOf _ _ (by kernel_rfl))
theorem forms2 : FormsIs 2 FL2 := formsIs_succ (n := 1) (by decide) forms1 stepB1 memB1 ordB2 (by decide)
theorem forms3 : FormsIs 3 FL3 := formsIs_succ (n := 2) (by decide) forms2 stepB2 memB2 ordB3 (by decide)
theorem forms4 : FormsIs 4 FL4 := formsIs_succ (n := 3) (by decide) forms3 stepB3 memB3 ordB4 (by decide)
end Go.VI
/- The law of FormsOf, for all numbers. -/
namespace Go.VI
open Go.Proofs Go.RowKit
set_option maxRecDepth 100000
noncomputable def mkE (L : List DHeap) (i : Nat) (k : Int) : Option ((Int × Unit) × (List DA3 × Unit)) := E_laws_markIntA3S ((L.getD i dHp).2.2.2.1, up1 (up1 (up1 k)), ())
noncomputable def kfE (L : List DHeap) : Nat → Int
  | 0 => 1
  | i + 1 => match mkE L i (kfE L i) with
    | some r => r.1.1
    | none => 0
noncomputable def lfE (L : List DHeap) (i : Nat) : List DA3 := match mkE L i (kfE L i) with
  | some r => r.2.1
  | none => []
noncomputable def markB (L : List DHeap) : Bool := (List.range L.length).all fun i => (mkE L i (kfE L i)).isSome
theorem markB_at {L : List DHeap} (h : markB L = true) (i : Nat) (x : DHeap) (hx : L[i]? = some x) : P_laws_markIntA3S (x.2.2.2.1, up1 (up1 (up1 (kfE L i))), ()) = some ((kfE L (i + 1), ()), (lfE L i, ())) := by
  have hlt : i < L.length := by
    rcases Nat.lt_or_ge i L.length with h' | h'
    · exact h'
    · rw [List.getElem?_eq_none h'] at hx; cases hx
  unfold markB at h
  rw [List.all_eq_true] at h
  have hs := h i (List.mem_range.2 hlt)
  have e : L.getD i dHp = x := by rw [List.getD_eq_getElem?_getD, hx]; rfl
  cases hm : mkE L i (kfE L i) with
  | none => rw [hm] at hs; cases hs
  | some r =>
    have := v_laws_markIntA3S _ r hm
    rw [e] at this
    rw [this]
    unfold lfE
    rw [kfE, hm]
theorem lawFm_of {n : Int} {L : List DHeap} (hs : E_spec_FormsOf (n, ()) = some (L, true, ())) (hw : P_impl_within (n, 1, 4, ()) = some (true, ())) (hf : FormsIs n L) (he : E_laws_eqHeapS (L, L, ()) = some (true, ())) (hm : markB L = true)
    (hh : E_laws_heldHeapS (markedH (kfE L) (lfE L) L L.length, 1, ()) = some (kfE L L.length, ())) (hp : decide (kfE L L.length < 0) = false) (hl : L.length ≤ 1000) : LawFm n L true (kfE L) (lfE L) :=
  ⟨v_spec_FormsOf _ _ hs, fun _ => (formsOf_yes (Post := fun l => l = L) hw hf).mono fun _ _ h => h, v_laws_eqHeapS _ _ he, rfl, markB_at hm, v_laws_heldHeapS _ _ hh, of_decide_eq_false hp, hl⟩
theorem lawFm1 : LawFm 1 FL1 true (kfE FL1) (lfE FL1) := lawFm_of specF1 (v_impl_within _ _ (by kernel_rfl)) forms1 (by kernel_rfl) (by kernel_rfl) (by kernel_rfl) (by kernel_rfl) (by decide)
theorem lawFm2 : LawFm 2 FL2 true (kfE FL2) (lfE FL2) := lawFm_of specF2 (v_impl_within _ _ (by kernel_rfl)) forms2 (by kernel_rfl) (by kernel_rfl) (by kernel_rfl) (by kernel_rfl) (by decide)
theorem lawFm3 : LawFm 3 FL3 true (kfE FL3) (lfE FL3) := lawFm_of specF3 (v_impl_within _ _ (by kernel_rfl)) forms3 (by kernel_rfl) (by kernel_rfl) (by kernel_rfl) (by kernel_rfl) (by decide)
theorem lawFm4 : LawFm 4 FL4 true (kfE FL4) (lfE FL4) := lawFm_of specF4 (v_impl_within _ _ (by kernel_rfl)) forms4 (by kernel_rfl) (by kernel_rfl) (by kernel_rfl) (by kernel_rfl) (by decide)
theorem in_spec (n a b : Int) : P_spec_l1In (n, a, b, ()) = some (decide (n ≥ a) && decide (n ≤ b), ()) := by
  rw [p_spec_l1In]
  by_cases h : n ≥ a
  · rw [decide_eq_true h]; rfl
  · rw [decide_eq_false h]; rfl
theorem in_impl (n a b : Int) : P_impl_within (n, a, b, ()) = some (decide (a ≤ n) && decide (n ≤ b), ()) := by
  rw [p_impl_within]
  by_cases h : a ≤ n
  · rw [decide_eq_true h]; rfl
  · rw [decide_eq_false h]; rfl
theorem lawFm0 {n : Int} (hn : ¬ (1 ≤ n ∧ n ≤ 4)) : LawFm n [] false (fun _ => 1) (fun _ => []) := by
  have hw : P_impl_within (n, 1, 4, ()) = some (false, ()) := by
    rw [in_impl]
    by_cases h : 1 ≤ n
    · rw [decide_eq_true h, decide_eq_false (show ¬ n ≤ 4 by omega)]; rfl
    · rw [decide_eq_false h]; rfl
  refine ⟨?_, fun _ => (formsOf_no hw).mono ?_, v_laws_eqHeapS _ _ (by kernel_rfl), rfl, fun i h hi => by simp at hi, v_laws_heldHeapS _ _ (by kernel_rfl), by simp, by simp⟩
  · rw [p_spec_FormsOf, in_spec]
    by_cases h : n ≥ 1
    · rw [decide_eq_true h, decide_eq_false (show ¬ n ≤ 4 by omega)]; rfl
    · rw [decide_eq_false h]; rfl
  · rintro e w' ⟨rfl, hb⟩
    exact ⟨_, [], rfl, hb, DeepH.nil ⟨rfl, .inl ⟨rfl, rfl⟩⟩, rfl⟩
end Go.VI
/- The contracts of form and FormsOf, for walks by VI. -/
namespace Go.VI
open Go.Proofs Go.RowKit
set_option maxRecDepth 100000
theorem repsH {Z : Nat → Prop} {w : World} : ∀ hs : List HE, (∀ a ∈ hs, RepI Z w (.sl A3ty) a.cells [a.v]) → RepsL Z w HeapTy (hs.map HE.heap) (encs hs)
  | [], _ => rfl
  | a :: r, h => ⟨a.enc, encs r, by simp [encs], repHeap (h a (by simp)), repsH r fun b hb => h b (by simp [hb])⟩
theorem DeepH.ownV {w : World} {B : Nat} {eo ei : TypeId} {v : Value} {hs : List HE} (h : DeepH w B eo ei v hs) : OwnV (fun g => ∃ a ∈ hs, a.v.ownBlock = some g) w B eo HeapTy v (hs.map HE.heap) := by
  refine ⟨by decide, encs hs, ?_, repsH hs fun a ha => ?_⟩
  · rw [List.length_map]; exact OwnRow.of (t := HeapTy) h.outer
  · obtain ⟨i, hi⟩ := List.mem_iff_getElem?.1 ha
    exact (h.inner i a hi).reads _ (fun _ hz => hz.elim) fun g hg => ⟨a, ha, hg⟩
theorem resHeap {Z : Nat → Prop} {w w' : World} {avs : List Value} {r : DHeap} {u : Value} {e : TypeId} (hz : ∀ g, Z g → g < w.heap.size) (hu : OwnV (fun _ => False) w' w.heap.size e A3ty u r.2.2.2.1) :
    ResRel Z w' w.heap.size avs (resL [(true, HeapTy)] (r, ()) [.own e]) [hpV r u] := by
  refine ⟨fun _ j => match j with | 0 => .int .i64 r.1 | 1 => .int .i64 r.2.1 | 2 => .int .i64 r.2.2.1 | _ => u, rfl, ?_, ?_⟩
  · intro i p hp
    match i, hp with
    | 0, hp =>
      obtain rfl := Option.some.inj hp
      refine ⟨rfl, (fun h => by cases h), fun j rc hj => ?_⟩
      match j, hj with
      | 0, hj => obtain rfl := Option.some.inj hj; exact ⟨rfl, rfl⟩
      | 1, hj => obtain rfl := Option.some.inj hj; exact ⟨rfl, rfl⟩
      | 2, hj => obtain rfl := Option.some.inj hj; exact ⟨rfl, rfl⟩
      | 3, hj =>
        obtain rfl := Option.some.inj hj
        refine ⟨hu.mono (fun _ h => h.elim) (fun _ h => h.elim) fun _ _ => rfl, fun g hg hzg => ?_⟩
        have := (hu.lt g hg).1
        have := hz g hzg
        omega
  · intro i j i' j' p p' rc rc' g hp hj ho hp' hj' ho' hg hg'
    have key : ∀ i j p rc, (resL [(true, HeapTy)] (r, ()) [.own e])[i]? = some p → p.2[j]? = some rc → rc.isOwn = true → i = 0 ∧ j = 3 := by
      intro i j p rc hp hj ho
      match i, hp with
      | 0, hp =>
        obtain rfl := Option.some.inj hp
        match j, hj with
        | 0, hj => obtain rfl := Option.some.inj hj; cases ho
        | 1, hj => obtain rfl := Option.some.inj hj; cases ho
        | 2, hj => obtain rfl := Option.some.inj hj; cases ho
        | 3, hj => exact ⟨rfl, rfl⟩
    obtain ⟨a1, a2⟩ := key i j p rc hp hj ho
    obtain ⟨b1, b2⟩ := key i' j' p' rc' hp' hj' ho'
    omega
noncomputable def formF (x : DHeap × Unit) : Option (DHeap × Unit) := bif formB x.1 then some (formE x.1, ()) else none
theorem form_sound : Sound Try.prog GG 30 ⟨[.data true T_Heap], [(true, T_Heap)], [.own 42], formF⟩ := by
  intro w Z vs xs r _ hZ hrel hF
  obtain ⟨⟨X, Y, Zz, l, ⟨⟩⟩, ⟨⟩⟩ := xs
  obtain ⟨us, vs', rfl, _, hrep, hn⟩ := hrel
  obtain rfl : vs' = [] := hn
  obtain ⟨c1, c2, rfl, e1, c3, c4, rfl, e2, c5, c6, rfl, e3, c7, c8, rfl, e4, e5⟩ := hrep
  obtain rfl : c1 = [.int .i64 X] := e1
  obtain rfl : c3 = [.int .i64 Y] := e2
  obtain rfl : c5 = [.int .i64 Zz] := e3
  obtain rfl : c8 = [] := e5
  have hc7 := e4
  obtain ⟨A7, n7, rfl, _⟩ := e4
  have hF' : (bif formB (X, Y, Zz, l, ()) then some (formE (X, Y, Zz, l, ()), ()) else none) = some r := hF
  cases hb : formB (X, Y, Zz, l, ()) with
  | false => rw [hb] at hF'; cases hF'
  | true =>
    rw [hb] at hF'
    obtain rfl := Option.some.inj hF'
    have ha : ArgH Z w (X, Y, Zz, l, ()) (.slice A7 l.length n7) := ⟨hZ, hc7⟩
    refine Calls.fcalls (fn := Try.f30) Try.func30 rfl (by kernel_rfl) (Calls.mono (form_calls ha (formOK_of hb)) ?_)
    rintro e w' ⟨u, rfl, hbel, hu⟩
    exact ⟨_, rfl, Z, [_], rfl, hbel, fun g hg => hg, fun g hg => .inl hg, resHeap hZ hu⟩
noncomputable def formsF (x : Int × Unit) : Option (List DHeap × Bool × Unit) :=
  bif decide (x.1 = 1) then some (FL1, true, ()) else bif decide (x.1 = 2) then some (FL2, true, ()) else bif decide (x.1 = 3) then some (FL3, true, ()) else bif decide (x.1 = 4) then some (FL4, true, ()) else some ([], false, ())
theorem formsF_gives {n : Int} {L : List DHeap} {b : Bool} (h : formsF (n, ()) = some (L, b, ())) : GivesF n L b := by
  unfold formsF at h
  by_cases h1 : n = 1
  · subst h1; cases h; exact lawFm1.im
  by_cases h2 : n = 2
  · subst h2; cases h; exact lawFm2.im
  by_cases h3 : n = 3
  · subst h3; cases h; exact lawFm3.im
  by_cases h4 : n = 4
  · subst h4; cases h; exact lawFm4.im
  · simp only [decide_eq_false h1, decide_eq_false h2, decide_eq_false h3, decide_eq_false h4, cond_false] at h
    cases h
    exact (lawFm0 (by omega)).im
theorem forms_sound : Sound Try.prog GG 8 ⟨[.data false (.int .i64)], [(false, .sl T_Heap), (false, .bool)], [.own 35], formsF⟩ := by
  intro w Z vs xs r _ hZ hrel hF
  obtain ⟨n, ⟨⟩⟩ := xs
  obtain ⟨us, vs', rfl, _, hrep, hn⟩ := hrel
  obtain rfl : vs' = [] := hn
  obtain rfl : us = [.int .i64 n] := hrep
  obtain ⟨L, b, ⟨⟩⟩ := r
  refine Calls.fcalls (fn := Try.f8) Try.func8 rfl (by kernel_rfl) (Calls.mono (formsF_gives hF w) ?_)
  rintro e w' ⟨v, gs, rfl, hbel, hd, rfl⟩
  have ho := hd.ownV
  refine ⟨_, rfl, fun g => Z g ∨ ∃ a ∈ gs, a.v.ownBlock = some g, [v, .bool b], rfl, hbel, fun g hg => .inl hg, fun g hg => ?_, fun i _ => match i with | 0 => v | _ => .bool b, rfl, ?_, ?_⟩
  · rcases hg with hg | ⟨a, ha, hg⟩
    · exact .inl hg
    · obtain ⟨i, hi⟩ := List.mem_iff_getElem?.1 ha
      exact .inr ((hd.inner i a hi).lt g hg)
  · intro i p hp
    match i, hp with
    | 0, hp =>
      obtain rfl := Option.some.inj hp
      refine ⟨rfl, fun _ => rfl, fun j rc hj => ?_⟩
      match j, hj with
      | 0, hj =>
        obtain rfl := Option.some.inj hj
        refine ⟨ho.mono (fun _ h => .inr h) (fun _ _ => rfl) (fun _ _ => rfl), fun g hg hzg => ?_⟩
        have hg' : v.ownBlock = some g := hg
        have hlt := hd.outer.lt g hg'
        rcases hzg with hzg | ⟨a, ha, hga⟩
        · have := hZ g hzg; omega
        · obtain ⟨i, hi⟩ := List.mem_iff_getElem?.1 ha
          exact hd.outer_ne (by decide) hi hga hg'
    | 1, hp =>
      obtain rfl := Option.some.inj hp
      refine ⟨rfl, fun _ => rfl, fun j rc hj => ?_⟩
      match j, hj with
      | 0, hj => obtain rfl := Option.some.inj hj; exact ⟨rfl, rfl⟩
  · intro i j i' j' p p' rc rc' g hp hj ho hp' hj' ho' hg hg'
    have key : ∀ i j p rc, (resL [(false, Ty.sl T_Heap), (false, .bool)] (gs.map HE.heap, b, ()) [.own 35])[i]? = some p → p.2[j]? = some rc → rc.isOwn = true → i = 0 ∧ j = 0 := by
      intro i j p rc hp hj ho
      match i, hp with
      | 0, hp =>
        obtain rfl := Option.some.inj hp
        match j, hj with
        | 0, hj => exact ⟨rfl, rfl⟩
      | 1, hp =>
        obtain rfl := Option.some.inj hp
        match j, hj with
        | 0, hj => obtain rfl := Option.some.inj hj; cases ho
    obtain ⟨a1, a2⟩ := key i j p rc hp hj ho
    obtain ⟨b1, b2⟩ := key i' j' p' rc' hp' hj' ho'
    omega
end Go.VI
/- The forms of the reference, known. -/
namespace Go.VI
open Go.Proofs
set_option maxRecDepth 100000
theorem l8F {n : Int} {L : List DHeap} (h : P_spec_FormsOf (n, ()) = some (L, true, ())) : P_spec_l8Forms (n, ()) = some (L, ()) := by
  rw [p_spec_FormsOf, in_spec] at h
  cases hb : (decide (n ≥ 1) && decide (n ≤ 4)) with
  | false =>
    rw [hb] at h
    simp at h
  | true =>
    rw [hb] at h
    cases hf : P_spec_l8Forms (n, ()) with
    | none => rw [hf] at h; simp at h
    | some r =>
      rw [hf] at h
      obtain ⟨r1, ⟨⟩⟩ := r
      simp at h
      rw [h]
noncomputable def E_spec_l8FormsB : Ft_spec_l8Forms := fun x => bif decide (x.1 = 1) then some (FL1, ()) else bif decide (x.1 = 2) then some (FL2, ()) else bif decide (x.1 = 3) then some (FL3, ()) else bif decide (x.1 = 4) then some (FL4, ()) else none
theorem v_spec_l8FormsB : ∀ x, Le (E_spec_l8FormsB x) (P_spec_l8Forms x) := by
  rintro ⟨n, ⟨⟩⟩ r h
  unfold E_spec_l8FormsB at h
  by_cases h1 : n = 1
  · subst h1; cases h; exact l8F lawFm1.sp
  by_cases h2 : n = 2
  · subst h2; cases h; exact l8F lawFm2.sp
  by_cases h3 : n = 3
  · subst h3; cases h; exact l8F lawFm3.sp
  by_cases h4 : n = 4
  · subst h4; cases h; exact l8F lawFm4.sp
  · simp only [decide_eq_false h1, decide_eq_false h2, decide_eq_false h3, decide_eq_false h4, cond_false] at h
    cases h
end Go.VI
