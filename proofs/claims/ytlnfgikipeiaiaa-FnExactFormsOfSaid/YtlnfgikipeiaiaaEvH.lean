/- The forms of up to four cubes, by a walk and by evaluation. -/
import Derived.Test.YtlnfgikipeiaiaaEvG1
import Derived.Test.YtlnfgikipeiaiaaEvG2
import Derived.Test.YtlnfgikipeiaiaaEvG3
import Derived.Test.YtlnfgikipeiaiaaEvG4
import Derived.Test.YtlnfgikipeiaiaaVjFs2
import Derived.Test.YtlnfgikipeiaiaaVjFs3
import Derived.Test.YtlnfgikipeiaiaaEvG5
namespace Go.VI
open Go.Proofs Go.RowKit
set_option maxRecDepth 100000

theorem stepB3 : stepB FL3 = true := by
  simp only [stepB, List.all_cons, List.all_nil, cellA0, cellA1, cellA2, cellC0, cellC1, cellC2, Bool.and_true]
  decide

/-- What the forms of n cubes are, told by the world before and behind. -/
def FormsIs (n : Int) (L : List DHeap) : Prop := ∀ U : World, Calls Try.prog 17 #[.int .i64 n] U fun e w' => ∃ v gs, e = .returned v ∧ Below U.heap.size U w' ∧ DeepH w' U.heap.size 35 42 v gs ∧ gs.map HE.heap = L

theorem formsIs_succ {n : Nat} (hn : 1 ≤ n ∧ n ≤ 100) {L C : List DHeap} (h : FormsIs n L) (hs : stepB L = true) (hm : memB C L = true) (ho : ordB C = true) (hC : C ≠ []) : FormsIs ((n + 1 : Nat) : Int) C := fun W => by
  have M := mem_of hm
  have O := ordC_of ho
  have hne : VE.cands L ≠ [] := by
    cases C with
    | nil => exact absurd rfl hC
    | cons c C => exact fun e => by have := (M c).2 (by simp); rw [e] at this; cases this
  refine (forms_step hn h (stepOK_of hs) hne O.ok (fun x hx => (M x).1 hx) W).mono ?_
  rintro e w' ⟨v, hs1, hs2, rfl, hb, hd, hq, hso⟩
  exact ⟨v, hs2, rfl, hb, hd, sortedOf_eq O hso fun x => by rw [hq]; exact M x⟩

theorem forms1 : FormsIs 1 FL1 := forms_one (v_impl_heapOf _ _ (by kernel_rfl))
theorem forms2 : FormsIs 2 FL2 := formsIs_succ (n := 1) (by decide) forms1 stepB1 memB1 ordB2 (by decide)
theorem forms3 : FormsIs 3 FL3 := formsIs_succ (n := 2) (by decide) forms2 stepB2 memB2 ordB3 (by decide)
theorem forms4 : FormsIs 4 FL4 := formsIs_succ (n := 3) (by decide) forms3 stepB3 memB3 ordB4 (by decide)
end Go.VI
/- The law of FormsOf, for all numbers. -/
namespace Go.VI
open Go.Proofs Go.RowKit
set_option maxRecDepth 100000

noncomputable def mkE (L : List DHeap) (i : Nat) (k : Int) : Option ((Int × Unit) × (List DA3 × Unit)) := E_laws_markIntA3S ((L.getD i dHp).2.2.2.1, up1 (up1 (up1 k)), ())
noncomputable def kfE (L : List DHeap) : Nat → Int
  | 0 => 1
  | i + 1 => match mkE L i (kfE L i) with
    | some r => r.1.1
    | none => 0
noncomputable def lfE (L : List DHeap) (i : Nat) : List DA3 := match mkE L i (kfE L i) with
  | some r => r.2.1
  | none => []
noncomputable def markB (L : List DHeap) : Bool := (List.range L.length).all fun i => (mkE L i (kfE L i)).isSome
theorem markB_at {L : List DHeap} (h : markB L = true) (i : Nat) (x : DHeap) (hx : L[i]? = some x) : P_laws_markIntA3S (x.2.2.2.1, up1 (up1 (up1 (kfE L i))), ()) = some ((kfE L (i + 1), ()), (lfE L i, ())) := by
  have hlt : i < L.length := by
    rcases Nat.lt_or_ge i L.length with h' | h'
    · exact h'
    · rw [List.getElem?_eq_none h'] at hx; cases hx
  unfold markB at h
  rw [List.all_eq_true] at h
  have hs := h i (List.mem_range.2 hlt)
  have e : L.getD i dHp = x := by rw [List.getD_eq_getElem?_getD, hx]; rfl
  cases hm : mkE L i (kfE L i) with
  | none => rw [hm] at hs; cases hs
  | some r =>
    have := v_laws_markIntA3S _ r hm
    rw [e] at this
    rw [this]
    unfold lfE
    rw [kfE, hm]

theorem lawFm_of {n : Int} {L : List DHeap} (hs : E_spec_FormsOf (n, ()) = some (L, true, ())) (hw : P_impl_within (n, 1, 4, ()) = some (true, ())) (hf : FormsIs n L) (he : E_laws_eqHeapS (L, L, ()) = some (true, ())) (hm : markB L = true)
    (hh : E_laws_heldHeapS (markedH (kfE L) (lfE L) L L.length, 1, ()) = some (kfE L L.length, ())) (hp : decide (kfE L L.length < 0) = false) (hl : L.length ≤ 1000) : LawFm n L true (kfE L) (lfE L) :=
  ⟨v_spec_FormsOf _ _ hs, fun U => (formsOf_yes (Post := fun l => l = L) hw hf).mono fun _ _ h => h, v_laws_eqHeapS _ _ he, rfl, markB_at hm, v_laws_heldHeapS _ _ hh, of_decide_eq_false hp, hl⟩

theorem lawFm1 : LawFm 1 FL1 true (kfE FL1) (lfE FL1) := lawFm_of specF1 (v_impl_within _ _ (by kernel_rfl)) forms1 (by kernel_rfl) (by kernel_rfl) (by kernel_rfl) (by kernel_rfl) (by decide)
theorem lawFm2 : LawFm 2 FL2 true (kfE FL2) (lfE FL2) := lawFm_of specF2 (v_impl_within _ _ (by kernel_rfl)) forms2 (by kernel_rfl) (by kernel_rfl) (by kernel_rfl) (by kernel_rfl) (by decide)
theorem lawFm3 : LawFm 3 FL3 true (kfE FL3) (lfE FL3) := lawFm_of specF3 (v_impl_within _ _ (by kernel_rfl)) forms3 (by kernel_rfl) (by kernel_rfl) (by kernel_rfl) (by kernel_rfl) (by decide)
theorem lawFm4 : LawFm 4 FL4 true (kfE FL4) (lfE FL4) := lawFm_of specF4 (v_impl_within _ _ (by kernel_rfl)) forms4 (by kernel_rfl) (by kernel_rfl) (by kernel_rfl) (by kernel_rfl) (by decide)

theorem in_spec (n a b : Int) : P_spec_l1In (n, a, b, ()) = some (decide (n ≥ a) && decide (n ≤ b), ()) := by
  rw [p_spec_l1In]
  by_cases h : n ≥ a
  · rw [decide_eq_true h]; rfl
  · rw [decide_eq_false h]; rfl
theorem in_impl (n a b : Int) : P_impl_within (n, a, b, ()) = some (decide (a ≤ n) && decide (n ≤ b), ()) := by
  rw [p_impl_within]
  by_cases h : a ≤ n
  · rw [decide_eq_true h]; rfl
  · rw [decide_eq_false h]; rfl

theorem lawFm0 {n : Int} (hn : ¬ (1 ≤ n ∧ n ≤ 4)) : LawFm n [] false (fun _ => 1) (fun _ => []) := by
  have hw : P_impl_within (n, 1, 4, ()) = some (false, ()) := by
    rw [in_impl]
    by_cases h : 1 ≤ n
    · rw [decide_eq_true h, decide_eq_false (show ¬ n ≤ 4 by omega)]; rfl
    · rw [decide_eq_false h]; rfl
  refine ⟨?_, fun U => (formsOf_no hw).mono ?_, v_laws_eqHeapS _ _ (by kernel_rfl), rfl, fun i h hi => by simp at hi, v_laws_heldHeapS _ _ (by kernel_rfl), by simp, by simp⟩
  · rw [p_spec_FormsOf, in_spec]
    by_cases h : n ≥ 1
    · rw [decide_eq_true h, decide_eq_false (show ¬ n ≤ 4 by omega)]; rfl
    · rw [decide_eq_false h]; rfl
  · rintro e w' ⟨rfl, hb⟩
    exact ⟨_, [], rfl, hb, DeepH.nil ⟨rfl, .inl ⟨rfl, rfl⟩⟩, rfl⟩

theorem forms_law (n : Int) (w0 : World) : Calls Try.prog 4 #[.int .i64 n] w0 fun e w' => e = .returned (.bool true) ∧ Below w0.heap.size w0 w' := by
  by_cases hn : 1 ≤ n ∧ n ≤ 4
  · obtain h | h | h | h : n = 1 ∨ n = 2 ∨ n = 3 ∨ n = 4 := by omega
    · subst h; exact law_forms lawFm1 w0
    · subst h; exact law_forms lawFm2 w0
    · subst h; exact law_forms lawFm3 w0
    · subst h; exact law_forms lawFm4 w0
  · exact law_forms (lawFm0 hn) w0

/-- The law's contract. -/
noncomputable def P_laws_FnExactFormsOf (_ : Int × Unit) : Option (Bool × Unit) := some (true, ())
noncomputable def B_laws_FnExactFormsOf : Code := (Try.f4.body).getD .skip
theorem law_FormsOf (n : Int) : P_laws_FnExactFormsOf (n, ()) = some (true, ()) := rfl
theorem s_laws_FnExactFormsOf : Sound Try.prog GG 4 ⟨[.data false (.int .i64)], [(false, .bool)], [], P_laws_FnExactFormsOf⟩ := by
  intro w Z vs xs r _ _ hrel hF
  obtain ⟨n, ⟨⟩⟩ := xs
  obtain ⟨us, vs', rfl, _, hrep, hn⟩ := hrel
  obtain rfl : vs' = [] := hn
  obtain rfl : us = [.int .i64 n] := hrep
  obtain rfl := Option.some.inj hF
  refine Calls.fcalls (fn := Try.f4) Try.func4 rfl (by kernel_rfl) (Calls.mono (forms_law n w) ?_)
  rintro e w' ⟨rfl, hb⟩
  refine ⟨_, rfl, Z, [.bool true], rfl, hb, fun g hg => hg, fun g hg => .inl hg, fun _ _ => .bool true, rfl, ?_, ?_⟩
  · intro i p hp
    match i, hp with
    | 0, hp =>
      obtain rfl := Option.some.inj hp
      refine ⟨rfl, fun _ => rfl, fun j rc hj => ?_⟩
      match j, hj with
      | 0, hj =>
        obtain rfl := Option.some.inj hj
        exact ⟨rfl, rfl⟩
  · intro i j i' j' p p' rc rc' g hp hj ho hp' hj' ho' hg hg'
    simp [Value.ownBlock] at hg
end Go.VI
