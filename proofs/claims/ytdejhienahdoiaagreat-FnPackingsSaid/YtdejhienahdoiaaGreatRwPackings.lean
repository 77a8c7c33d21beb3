/- The law FnPackings holds of the given program for every input: it returns true and leaves its arguments as they were. Conditions: none. -/
import Derived.Test.YtdejhienahdoiaaGreatRows
import Derived.Test.YtdejhienahdoiaaGreatPlRn
import Derived.Test.YtdejhienahdoiaaGreatViOpen
import Derived.JoinedCond
namespace Go.Proofs.YtdejhienahdoiaaGreat.rowPackings
open Go.ChangeShapes Go.WideShapes Go.ChangeAt Go.RowKit Go.VI
theorem own : ownKnob Tryz.prog.godebug = none := by kernel_rfl
set_option maxRecDepth 100000 in
theorem contract (H : Type) (enc : TypeId × Value → H) (W : World) (base : Nat) (args : Array Value) (ds gs : List (DataW H)) (before : List MemPlace)
    (hval : ∀ (j : Nat) t v, Tryz.f3.params[j]? = some t → args[j]? = some v → Value.okWide Tryz.prog W .any base t v)
    (hW : DataW.Whole enc Tryz.prog Tryz.f3.params.toList Rows.fnPackingsSpec.vars false W args.toList ds gs before) :
    Calls Tryz.prog 3 args W fun e W' => ∃ v, e = .returned v ∧ Rows.fnPackingsSpec.post enc Tryz.prog Tryz.f3 false true false false W args v W' := by
  have hW' := hW
  obtain ⟨p, q, hA0, hV, rfl, hfz, hnd⟩ := hW
  have hA : DataW.TrodAll enc Tryz.prog W 0 (fun _ => true) true Tryz.f3.params.toList args.toList ds p := hA0
  obtain ⟨rfl, rfl⟩ := trodVars_none hV
  simp only [List.append_nil] at hW'
  have hlt : ∀ x ∈ p, x.block < W.heap.size := fun x hx => by simpa using hW'.lt x hx
  have hcalls := law_calls (n := 20) (c := B_laws_FnPackings) s_laws_FnPackings Tryz.func3 (by kernel_rfl) (by kernel_rfl) (by kernel_rfl) trivial hA hval
    (fun xs hw => law_Packings xs.1 (fun b hb => by have h := hw.1; simp only [Wf] at h; have h2 := h.2 b hb; have e1 : IntKind.min .u8 = 0 := (by decide); have e2 : IntKind.max .u8 = 255 := (by decide); exact ⟨Int.le_trans (Int.le_of_eq e1.symm) h2.1, Int.le_trans h2.2 (Int.le_of_eq e2)⟩))
  refine hcalls.mono fun e W' ⟨he, hg⟩ => ?_
  subst he
  have hargs := trodAll_below (enc := enc) (P := Tryz.prog) (by kernel_rfl) hg Tryz.f3.params.toList args.toList ds p (by kernel_rfl) hA hlt
  have hd : ∃ d1, ds = [d1] := by
    rw [show Tryz.f3.params.toList = [22] by kernel_rfl] at hA
    obtain ⟨v0, vs0, d1, ds0, p0, q0, _, rfl, _, _, r0⟩ := trodAll_cons hA
    obtain ⟨_, rfl, _⟩ := trodAll_nil r0
    exact ⟨d1, rfl⟩
  obtain ⟨d1, rfl⟩ := hd
  exact ⟨_, rfl, _, _, _, [] ++ [], p, [], hW', trodAll_cons_mk (shut_bool (by kernel_rfl : Tryz.prog.underlying 4 = some .bool) true) trodAll_mk0, hargs, rfl, hg.frame _, fun h => by cases h⟩
set_option maxRecDepth 100000 in
theorem lifted (os : Os) (started : os.Started) (H : Type) (enc : TypeId × Value → H) :
    ReturnsInHanded {} Tryz.checked os 3 .any (Rows.fnPackingsSpec.pre6 enc Tryz.prog Tryz.f3 Rows.fnPackingsRow.domain false) (Rows.fnPackingsSpec.post enc Tryz.prog Tryz.f3 false true false false) := by
  refine returnsInHanded_of_change (C := Tryz.checked) own started (by kernel_rfl) Tryz.func3
    (ChangeSpec.witness6 (enc := enc) (C := Tryz.checked) false ⟨#[], #[.slice none 0 0], []⟩ 8 (by kernel_rfl) (by kernel_rfl) (by kernel_rfl) (by kernel_rfl)) ?_
  intro W base args ds gs before hval hW _ _
  exact contract H enc W base args ds gs before hval hW
theorem proved : Rows.FnPackingsSaid :=
  OpenClaim.holds_of_wide 3 Tryz.f3 rfl rfl rfl rfl rfl rfl rfl ⟨rfl, rfl, rfl, rfl, rfl⟩ rfl rfl rfl rfl rfl (by kernel_rfl) Tryz.func3 (by kernel_rfl)
    (of_decide_eq_true (by kernel_rfl)) (by unfold Func.isWrapper; rw [if_neg (of_decide_eq_false (by kernel_rfl))]; exact ⟨rfl, rfl⟩)
    (fun os started H enc _ => lifted os started H enc)
#print axioms proved
end Go.Proofs.YtdejhienahdoiaaGreat.rowPackings
