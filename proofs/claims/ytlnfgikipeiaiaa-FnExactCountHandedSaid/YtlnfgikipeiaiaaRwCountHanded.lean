/- The law FnExactCountHanded holds of the given program for every input: it returns true and leaves its arguments as they were. Conditions: none. -/
import Derived.Test.YtlnfgikipeiaiaaRows
import Derived.Test.YtlnfgikipeiaiaaEvL
import Derived.Test.YtlnfgikipeiaiaaViLaw
import Derived.JoinedCond
namespace Go.Proofs.Ytlnfgikipeiaiaa.rowCountHanded
open Go.ChangeShapes Go.WideShapes Go.ChangeAt Go.RowKit Go.VI
theorem own : ownKnob Try.prog.godebug = none := by kernel_rfl
set_option maxRecDepth 100000 in
theorem contract (H : Type) (enc : TypeId × Value → H) (W : World) (base : Nat) (args : Array Value) (ds gs : List (DataW H)) (before : List MemPlace)
    (hval : ∀ (j : Nat) t v, Try.f3.params[j]? = some t → args[j]? = some v → Value.okWide Try.prog W .any base t v)
    (hW : DataW.Whole enc Try.prog Try.f3.params.toList Rows.fnExactCountHandedSpec.vars false W args.toList ds gs before) :
    Calls Try.prog 3 args W fun e W' => ∃ v, e = .returned v ∧ Rows.fnExactCountHandedSpec.post enc Try.prog Try.f3 false true false false W args v W' := by
  have hW' := hW
  obtain ⟨p, q, hA0, hV, rfl, hfz, hnd⟩ := hW
  have hA : DataW.TrodAll enc Try.prog W 0 (fun _ => true) true Try.f3.params.toList args.toList ds p := hA0
  obtain ⟨rfl, rfl⟩ := trodVars_none hV
  simp only [List.append_nil] at hW'
  have hlt : ∀ x ∈ p, x.block < W.heap.size := fun x hx => by simpa using hW'.lt x hx
  have hcalls := law_calls (n := 20) (c := B_laws_FnExactCountHanded) s_laws_FnExactCountHanded Try.func3 (by kernel_rfl) (by kernel_rfl) (by kernel_rfl) trivial hA hval
    (fun xs hw => law_CountHanded xs.1 )
  refine hcalls.mono fun e W' ⟨he, hg⟩ => ?_
  subst he
  have hargs := trodAll_below (enc := enc) (P := Try.prog) (by kernel_rfl) hg Try.f3.params.toList args.toList ds p (by kernel_rfl) hA hlt
  have hd : ∃ d1, ds = [d1] := by
    rw [show Try.f3.params.toList = [3] by kernel_rfl] at hA
    obtain ⟨v0, vs0, d1, ds0, p0, q0, _, rfl, _, _, r0⟩ := trodAll_cons hA
    obtain ⟨_, rfl, _⟩ := trodAll_nil r0
    exact ⟨d1, rfl⟩
  obtain ⟨d1, rfl⟩ := hd
  exact ⟨_, rfl, _, _, _, [] ++ [], p, [], hW', trodAll_cons_mk (shut_bool (by kernel_rfl : Try.prog.underlying 4 = some .bool) true) trodAll_mk0, hargs, rfl, hg.frame _, fun h => by cases h⟩
set_option maxRecDepth 100000 in
theorem lifted (os : Os) (started : os.Started) (H : Type) (enc : TypeId × Value → H) :
    ReturnsInHanded {} Try.checked os 3 .any (Rows.fnExactCountHandedSpec.pre6 enc Try.prog Try.f3 Rows.fnExactCountHandedRow.domain false) (Rows.fnExactCountHandedSpec.post enc Try.prog Try.f3 false true false false) := by
  refine returnsInHanded_of_change (C := Try.checked) own started (by kernel_rfl) Try.func3
    (ChangeSpec.witness6 (enc := enc) (C := Try.checked) false ⟨#[], #[.int .i64 0], []⟩ 8 (by kernel_rfl) (by kernel_rfl) (by kernel_rfl) (by kernel_rfl)) ?_
  intro W base args ds gs before hval hW _ _
  exact contract H enc W base args ds gs before hval hW
theorem proved : Rows.FnExactCountHandedSaid :=
  OpenClaim.holds_of_wide 3 Try.f3 rfl rfl rfl rfl rfl rfl rfl ⟨rfl, rfl, rfl, rfl, rfl⟩ rfl rfl rfl rfl rfl (by kernel_rfl) Try.func3 (by kernel_rfl)
    (of_decide_eq_true (by kernel_rfl)) (by unfold Func.isWrapper; rw [if_neg (of_decide_eq_false (by kernel_rfl))]; exact ⟨rfl, rfl⟩)
    (fun os started H enc _ => lifted os started H enc)
#print axioms proved
end Go.Proofs.Ytlnfgikipeiaiaa.rowCountHanded
