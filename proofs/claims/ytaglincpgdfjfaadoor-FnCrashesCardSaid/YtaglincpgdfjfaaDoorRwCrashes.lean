/- The law FnCrashes holds of the given program for every input: it returns true and leaves its arguments as they were; the listed tables are tied to the program's text. Conditions: none. -/
import Derived.Test.YtaglincpgdfjfaaDoorRows
import Derived.Test.YtaglincpgdfjfaaDoorCards
import Derived.Test.YtaglincpgdfjfaaDoorTie
import Derived.Test.YtaglincpgdfjfaaDoorQZ
import Derived.Test.YtaglincpgdfjfaaDoorViTied
import Derived.JoinedCond
import Derived.SevenTiedAt
namespace Go.Proofs.YtaglincpgdfjfaaDoor.rowCrashes
open Go.ChangeShapes Go.WideShapes Go.ChangeAt Go.RowKit Go.VI

abbrev laid : List (String × DataW Unit) := [("math/bits.deBruijn32tab", Rows.laid_math_bits_deBruijn32tab), ("math/bits.deBruijn64tab", Rows.laid_math_bits_deBruijn64tab), ("internal/strconv.uint64pow10", Rows.laid_internal_strconv_uint64pow10)]
theorem own : ownKnob Tryd.prog.godebug = none := by kernel_rfl
theorem gPow : Tryd.prog.globalNamed "internal/strconv.uint64pow10" = some 1 := by kernel_rfl
theorem tPow : (Tryd.prog.globals[1]?).map (·.type) = some 108 := by kernel_rfl
theorem met {W : World} (hL : laidMetH Tryd.prog laid W) (hsh : W.ShapedOpen Tryd.prog) : GG W := by
  rw [MakeChecks.laidMetH_plain _ _ _ (by kernel_rfl)] at hL
  exact ⟨size_of_shaped hsh 3 (by kernel_rfl) (by kernel_rfl), Lib.tabIs_of_head (e := 58) (n := 20) gPow tPow (by kernel_rfl) (by kernel_rfl) (by kernel_rfl) (by kernel_rfl) hL.tail.tail, Tryd.laysM144.s1_3 W hsh⟩
theorem door_met (os : Os) (args : Array Value) : laidMetH Tryd.prog laid ((World.doorLaid Tryd.prog 400 os).forCall (fun _ _ => 0) ⟨#[], args, []⟩).memory :=
  laidMetH_of_parts3 (fuel := 8) (laidMet_of_run' 8 (by kernel_rfl) (by kernel_rfl)) (by kernel_rfl) (by kernel_rfl)

set_option maxRecDepth 100000 in
theorem contract (H : Type) (enc : TypeId × Value → H) (W : World) (base : Nat) (args : Array Value) (ds gs : List (DataW H)) (before : List MemPlace)
    (hval : ∀ (j : Nat) t v, Tryd.f5.params[j]? = some t → args[j]? = some v → Value.okWide Tryd.prog W .any base t v)
    (hW : DataW.Whole enc Tryd.prog Tryd.f5.params.toList Rows.fnCrashesSpec.vars false W args.toList ds gs before) (hG : GG W) :
    Calls Tryd.prog 5 args W fun e W' => ∃ v, e = .returned v ∧ Rows.fnCrashesSpec.post enc Tryd.prog Tryd.f5 false true false false W args v W' := by
  have hW' := hW
  obtain ⟨p, q, hA0, hV, rfl, hfz, hnd⟩ := hW
  have hA : DataW.TrodAll enc Tryd.prog W 0 (fun _ => true) true Tryd.f5.params.toList args.toList ds p := hA0
  obtain ⟨rfl, rfl⟩ := trodVars_none hV
  simp only [List.append_nil] at hW'
  have hlt : ∀ x ∈ p, x.block < W.heap.size := fun x hx => by simpa using hW'.lt x hx
  have hcalls := law_calls (n := 20) (c := B_laws_FnCrashes) s_laws_FnCrashes Tryd.func5 (by kernel_rfl) (by kernel_rfl) (by kernel_rfl) hG hA hval
    (fun xs hw => law_Crashes xs.1 (fun b hb => by have h := hw.1; simp only [Wf] at h; have h2 := h.2 b hb; have e1 : IntKind.min .u8 = 0 := (by decide); have e2 : IntKind.max .u8 = 255 := (by decide); exact ⟨Int.le_trans (Int.le_of_eq e1.symm) h2.1, Int.le_trans h2.2 (Int.le_of_eq e2)⟩))
  refine hcalls.mono fun e W' ⟨he, hg⟩ => ?_
  subst he
  have hargs := trodAll_below (enc := enc) (P := Tryd.prog) (by kernel_rfl) hg Tryd.f5.params.toList args.toList ds p (by kernel_rfl) hA hlt
  have hd : ∃ d1, ds = [d1] := by
    rw [show Tryd.f5.params.toList = [30] by kernel_rfl] at hA
    obtain ⟨v0, vs0, d1, ds0, p0, q0, _, rfl, _, _, r0⟩ := trodAll_cons hA
    obtain ⟨_, rfl, _⟩ := trodAll_nil r0
    exact ⟨d1, rfl⟩
  obtain ⟨d1, rfl⟩ := hd
  exact ⟨_, rfl, _, _, _, [] ++ [], p, [], hW', trodAll_cons_mk (shut_bool (by kernel_rfl : Tryd.prog.underlying 4 = some .bool) true) trodAll_mk0, hargs, rfl, hg.frame _, fun h => by cases h⟩

set_option maxRecDepth 100000 in
theorem lifted (os : Os) (started : os.Started) (H : Type) (enc : TypeId × Value → H) :
    ReturnsInHanded {} Tryd.checked os 5 .any (fun w args => (Rows.fnCrashesSpec.pre enc Tryd.prog Tryd.f5 [] false w args ∧ laidMetH Tryd.prog laid w) ∧ sizedMet enc Tryd.prog Tryd.f5 (OpenSpec.ofChange Rows.fnCrashesSpec) false w args)
      (Rows.fnCrashesSpec.post enc Tryd.prog Tryd.f5 false true false false) := by
  refine handed_both (C := Tryd.checked) (X := fun w _ => laidMetH Tryd.prog laid w) (fun _ _ _ hh h => h.of_heap hh) own started (by kernel_rfl) Tryd.func5
    (ChangeSpec.witness_shaped (enc := enc) (C := Tryd.checked) (os := os) (X := fun w _ => laidMetH Tryd.prog laid w) false (World.doorLaid Tryd.prog 400 os) #[.slice none 0 0] 8 rfl (World.shaped_of_RefB (by kernel_rfl) (by kernel_rfl)) (by kernel_rfl) (by kernel_rfl) (by kernel_rfl) (door_met os _)) ?_
  intro W base args ds gs before hval hW hL hsh
  exact contract H enc W base args ds gs before hval hW (met hL hsh)

theorem proved : Rows.FnCrashesSaid :=
  OpenClaim.holds_of_wide 5 Tryd.f5 rfl rfl rfl rfl rfl rfl rfl ⟨rfl, rfl, rfl, rfl, rfl⟩ rfl rfl rfl rfl rfl (by kernel_rfl) Tryd.func5 (by kernel_rfl)
    (of_decide_eq_true (by kernel_rfl)) (by unfold Func.isWrapper; rw [if_neg (of_decide_eq_false (by kernel_rfl))]; exact ⟨rfl, rfl⟩)
    (fun os started H enc _ => lifted os started H enc)

theorem card : Rows.FnCrashesCardSaid :=
  Claim7.holds_tied_plain_at .later [] [.data, .data, .data] true (true, "88e333169a6dde12fe47058cac99e1f7a4a5ed63736fc1b28aae4badd65954b4") false
    proved (fun _ h => by cases h) (by kernel_rfl) (fun _ h => by cases h) fnCrashes_row_tie rfl ⟨rfl, rfl⟩ (by kernel_rfl) rfl
    (fun f fn hf hfn => by
      obtain rfl : f = 5 := Option.some.inj ((show Tryd.prog.funcNamed "loop.example/g01166/laws.FnCrashes" = some 5 by kernel_rfl).symm.trans hf) |>.symm
      obtain rfl : fn = Tryd.f5 := (Option.some.inj (Tryd.func5.symm.trans hfn)).symm
      exact ⟨by kernel_rfl, fun j t ht => by
        have hm : t ∈ Tryd.f5.params.toList := by simpa using Array.mem_of_getElem? ht
        have hall : (Tryd.f5.params.toList.all fun u => !Tryd.prog.wantsStandIn u) = true := by kernel_rfl
        exact (show Tryd.prog.wantsStandIn t = false by simpa using List.all_eq_true.1 hall t hm)⟩)
    (by kernel_rfl)
#print axioms card
end Go.Proofs.YtaglincpgdfjfaaDoor.rowCrashes
