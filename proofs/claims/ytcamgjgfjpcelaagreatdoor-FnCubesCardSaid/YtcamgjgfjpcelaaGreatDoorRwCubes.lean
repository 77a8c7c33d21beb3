/- The law FnCubes holds of the given program for every input: it returns true and leaves its arguments as they were; the listed tables are tied to the program's text. Conditions: none. -/
import Derived.Test.YtcamgjgfjpcelaaGreatDoorRows
import Derived.Test.YtcamgjgfjpcelaaGreatDoorCards
import Derived.Test.YtcamgjgfjpcelaaGreatDoorTie
import Derived.Test.YtcamgjgfjpcelaaGreatDoorPlQb
import Derived.Test.YtcamgjgfjpcelaaGreatDoorViTied
import Derived.JoinedCond
import Derived.SevenTiedAt
import Derived.Lay
import Derived.LaidOnce
namespace Go.Proofs.YtcamgjgfjpcelaaGreatDoor.rowCubes
open Go.ChangeShapes Go.WideShapes Go.ChangeAt Go.RowKit Go.VI

abbrev laid : List (String × DataW Unit) := [("math/bits.deBruijn32tab", Rows.laid_math_bits_deBruijn32tab), ("math/bits.deBruijn64tab", Rows.laid_math_bits_deBruijn64tab), ("internal/strconv.uint64pow10", Rows.laid_internal_strconv_uint64pow10), ("unicode/utf8.acceptRanges", Rows.laid_unicode_utf8_acceptRanges), ("unicode/utf8.first", Rows.laid_unicode_utf8_first)]
theorem own : ownKnob Tryz.prog.godebug = none := by kernel_rfl
theorem met {W : World} (hsh : W.ShapedOpen Tryz.prog) : GG W :=
  ⟨size_of_shaped hsh 3 (by kernel_rfl) (by kernel_rfl), Tryz.laysM146.s1_3 W hsh⟩

set_option maxRecDepth 100000 in
theorem contract (H : Type) (enc : TypeId × Value → H) (W : World) (base : Nat) (args : Array Value) (ds gs : List (DataW H)) (before : List MemPlace)
    (hval : ∀ (j : Nat) t v, Tryz.f3.params[j]? = some t → args[j]? = some v → Value.okWide Tryz.prog W .any base t v)
    (hW : DataW.Whole enc Tryz.prog Tryz.f3.params.toList Rows.fnCubesSpec.vars false W args.toList ds gs before) (hG : GG W) :
    Calls Tryz.prog 3 args W fun e W' => ∃ v, e = .returned v ∧ Rows.fnCubesSpec.post enc Tryz.prog Tryz.f3 false true false false W args v W' := by
  have hW' := hW
  obtain ⟨p, q, hA0, hV, rfl, hfz, hnd⟩ := hW
  have hA : DataW.TrodAll enc Tryz.prog W 0 (fun _ => true) true Tryz.f3.params.toList args.toList ds p := hA0
  obtain ⟨rfl, rfl⟩ := trodVars_none hV
  simp only [List.append_nil] at hW'
  have hlt : ∀ x ∈ p, x.block < W.heap.size := fun x hx => by simpa using hW'.lt x hx
  have hcalls := law_calls (n := 20) (c := B_laws_FnCubes) s_laws_FnCubes Tryz.func3 (by kernel_rfl) (by kernel_rfl) (by kernel_rfl) hG hA hval
    (fun xs hw => law_Cubes xs.1 (fun b hb => by have h := hw.1; simp only [Wf] at h; have h2 := h.2 b hb; have e1 : IntKind.min .u8 = 0 := (by decide); have e2 : IntKind.max .u8 = 255 := (by decide); exact ⟨Int.le_trans (Int.le_of_eq e1.symm) h2.1, Int.le_trans h2.2 (Int.le_of_eq e2)⟩))
  refine hcalls.mono fun e W' ⟨he, hg⟩ => ?_
  subst he
  have hargs := trodAll_below (enc := enc) (P := Tryz.prog) (by kernel_rfl) hg Tryz.f3.params.toList args.toList ds p (by kernel_rfl) hA hlt
  have hd : ∃ d1, ds = [d1] := by
    rw [show Tryz.f3.params.toList = [22] by kernel_rfl] at hA
    obtain ⟨v0, vs0, d1, ds0, p0, q0, _, rfl, _, _, r0⟩ := trodAll_cons hA
    obtain ⟨_, rfl, _⟩ := trodAll_nil r0
    exact ⟨d1, rfl⟩
  obtain ⟨d1, rfl⟩ := hd
  exact ⟨_, rfl, _, _, _, [] ++ [], p, [], hW', trodAll_cons_mk (shut_bool (by kernel_rfl : Tryz.prog.underlying 4 = some .bool) true) trodAll_mk0, hargs, rfl, hg.frame _, fun h => by cases h⟩

set_option maxRecDepth 100000 in
theorem lifted (os : Os) (started : os.Started) (H : Type) (enc : TypeId × Value → H) :
    ReturnsInHanded {} Tryz.checked os 3 .any (fun w args => (Rows.fnCubesSpec.pre enc Tryz.prog Tryz.f3 [] false w args ∧ laidMetH Tryz.prog laid w) ∧ sizedMet enc Tryz.prog Tryz.f3 (OpenSpec.ofChange Rows.fnCubesSpec) false w args)
      (Rows.fnCubesSpec.post enc Tryz.prog Tryz.f3 false true false false) := by
  refine handed_both (C := Tryz.checked) (X := fun w _ => laidMetH Tryz.prog laid w) (fun _ _ _ hh h => h.of_heap hh) own started (by kernel_rfl) Tryz.func3
    (ChangeSpec.witness_shaped (enc := enc) (C := Tryz.checked) (os := os) (X := fun w _ => laidMetH Tryz.prog laid w) false (World.laidAll Tryz.prog os laid) #[.slice none 0 0] 8 (World.laidAll_os _ _ _)
      (World.shaped_of_ZipB (by kernel_rfl) (by kernel_rfl)) (by kernel_rfl) (by kernel_rfl) (by kernel_rfl)
      (by rw [MakeChecks.laidMetH_plain _ _ _ (by kernel_rfl)]; exact laidMet_laidAll _ (by kernel_rfl) (by kernel_rfl))) ?_
  intro W base args ds gs before hval hW _ hsh
  exact contract H enc W base args ds gs before hval hW (met hsh)

theorem proved : Rows.FnCubesSaid :=
  OpenClaim.holds_of_wide 3 Tryz.f3 rfl rfl rfl rfl rfl rfl rfl ⟨rfl, rfl, rfl, rfl, rfl⟩ rfl rfl rfl rfl rfl (by kernel_rfl) Tryz.func3 (by kernel_rfl)
    (of_decide_eq_true (by kernel_rfl)) (by unfold Func.isWrapper; rw [if_neg (of_decide_eq_false (by kernel_rfl))]; exact ⟨rfl, rfl⟩)
    (fun os started H enc _ => lifted os started H enc)

theorem card : Rows.FnCubesCardSaid :=
  Claim7.holds_tied_plain_at .later [] [.data, .data, .data, .data, .pinned] true (true, "1fa6f62b5f4f4409f0c1b14ccc81025df1bb6c2b2138ac14db84d3dc2b14fde9") false
    proved (fun _ h => by cases h) (by kernel_rfl) (fun _ h => by cases h) fnCubes_row_tie rfl ⟨rfl, rfl⟩ (by kernel_rfl) rfl
    (fun f fn hf hfn => by
      obtain rfl : f = 3 := Option.some.inj ((show Tryz.prog.funcNamed "loop.example/g01166/laws.FnCubes" = some 3 by kernel_rfl).symm.trans hf) |>.symm
      obtain rfl : fn = Tryz.f3 := (Option.some.inj (Tryz.func3.symm.trans hfn)).symm
      exact ⟨by kernel_rfl, fun j t ht => by
        have hm : t ∈ Tryz.f3.params.toList := by simpa using Array.mem_of_getElem? ht
        have hall : (Tryz.f3.params.toList.all fun u => !Tryz.prog.wantsStandIn u) = true := by kernel_rfl
        exact (show Tryz.prog.wantsStandIn t = false by simpa using List.all_eq_true.1 hall t hm)⟩)
    (by kernel_rfl)
#print axioms card
end Go.Proofs.YtcamgjgfjpcelaaGreatDoor.rowCubes
