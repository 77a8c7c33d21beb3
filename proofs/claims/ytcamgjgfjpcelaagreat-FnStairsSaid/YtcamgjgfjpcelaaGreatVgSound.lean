/- The staircases of a box, as a contract. -/
import Derived.Test.YtcamgjgfjpcelaaGreatViLib
import Derived.Test.YtcamgjgfjpcelaaGreatVgStairs
namespace Go.VI
noncomputable section
open Go.Proofs Go.RowKit
set_option maxRecDepth 100000
theorem resRel_flat {Z : Nat → Prop} {w : World} {B : Nat} {avs : List Value} {R : List (Bool × Ty)} {r : denL R} {us : List Value} (hR : flatR R = true) (h : ResRel Z w B avs (resL R r []) us) : us = (resC R r).map cellV := by
  rw [resL_plain R r [] hR] at h
  obtain ⟨f, h1, h2, _⟩ := h
  apply List.ext_getElem?
  intro i
  rw [List.getElem?_map]
  cases hc : (resC R r)[i]? with
  | none =>
    rw [List.getElem?_eq_none]
    · rfl
    · have := List.getElem?_eq_none_iff.1 hc
      rw [h1, List.length_map]; exact this
  | some c =>
    obtain ⟨g1, _, g3⟩ := h2 i (false, [RCell.flat c]) (by rw [List.getElem?_map, hc]; rfl)
    have := (g3 0 _ rfl).2
    rw [g1]
    simp only [List.length_cons, List.length_nil, Nat.zero_add, List.range_one, List.map_cons, List.map_nil, mkVal, List.headD_cons, Option.map_some]
    rw [this]
theorem flat_calls {P : Program} {G : World → Prop} {f : FuncId} {fn : Func} {c : Code} {As : List ATy} {R : List (Bool × Ty)} {F : denA As → Option (denL R)} (hs : Sound P G f ⟨As, R, [], F⟩) (hR : flatR R = true)
    (hf : P.funcs[f]? = some fn) (hb : fn.body = some c) (hn : (fn.name == "runtime.NumGoroutine") = false) {w : World} {xs : denA As} {r : denL R} {vs : List Value} (hG : G w) (hrel : RelArgs P G (fun _ => False) w As xs vs) (hF : F xs = some r) :
    Calls P f vs.toArray w fun e w' => e = .returned (mkRes ((resC R r).map cellV)) ∧ Below w.heap.size w w' := by
  refine (FCalls.calls (enter_run hf hb hn) (hs w (fun _ => False) vs xs r hG (fun _ h => h.elim) hrel hF)).mono ?_
  rintro e w' ⟨v, rfl, Z', us, rfl, hbel, _, _, hres⟩
  rw [resRel_flat hR hres]
  exact ⟨rfl, hbel⟩
abbrev A3T : Ty := .pair (.int .i64) (.pair (.int .i64) (.pair (.int .i64) .unit))
def stairsF (Fv : A3T.den × Unit → Option (Bool × Unit)) (Fc : A3T.den × Unit → Option (Int × Unit)) (x : A3T.den × Unit) : Option (List (List Int) × Bool × Unit) :=
  Option.bind (Fv (x.1, ())) fun v =>
  bif v.1 then
    Option.bind (Fc (x.1, ())) fun c =>
    bif decide (c.1 > 1000) then some ([], false, ())
    else bif decide ((1 ≤ x.1.1 ∧ x.1.1 ≤ 4) ∧ (1 ≤ x.1.2.1 ∧ x.1.2.1 ≤ 4) ∧ (1 ≤ x.1.2.2.1 ∧ x.1.2.2.1 ≤ 4)) then some (rowsN x.1.2.1.toNat x.1.2.2.1 (x.1.1 * x.1.2.1).toNat [], true, ())
    else none
  else some ([], false, ())
theorem nat_of {Y : Int} (h : 1 ≤ Y ∧ Y ≤ 4) : ∃ y : Nat, Y = (y : Int) ∧ 1 ≤ y ∧ y ≤ 4 := ⟨Y.toNat, by omega, by omega, by omega⟩
theorem not_gt {c : Int} (h : ¬ c > 1000) : c ≤ 1000 := by omega
theorem stairs_sound {G : World → Prop} {Fv : A3T.den × Unit → Option (Bool × Unit)} {Fc : A3T.den × Unit → Option (Int × Unit)} (hG : ∀ w, G w)
    (hv : Sound Tryz.prog G 101 ⟨[.data true A3T], [(false, .bool)], [], Fv⟩) (hc : Sound Tryz.prog G 174 ⟨[.data true A3T], [(false, .int .i64)], [], Fc⟩) :
    Sound Tryz.prog G 92 ⟨[.data true A3T], [(false, .sl (.sl (.int .i64))), (false, .bool)], [.own 30], stairsF Fv Fc⟩ := by
  intro w Z vs xs r _ hZ hrel hF
  obtain ⟨⟨X, Y, Zz, ⟨⟩⟩, ⟨⟩⟩ := xs
  obtain ⟨us, vs', rfl, _, ⟨c1, c2, rfl, e1, c3, c4, rfl, e2, c5, c6, rfl, e3, e4⟩, hn⟩ := hrel
  obtain rfl : c1 = [.int .i64 X] := e1
  obtain rfl : c3 = [.int .i64 Y] := e2
  obtain rfl : c5 = [.int .i64 Zz] := e3
  obtain rfl : c6 = [] := e4
  obtain rfl : vs' = [] := hn
  have hrel' : ∀ w, RelArgs Tryz.prog G (fun _ => False) w [.data true A3T] ((X, Y, Zz, ()), ()) [boxV X Y Zz] := fun w =>
    ⟨[.int .i64 X, .int .i64 Y, .int .i64 Zz], [], rfl, (fun h => by cases h), ⟨[.int .i64 X], [.int .i64 Y, .int .i64 Zz], rfl, rfl, [.int .i64 Y], [.int .i64 Zz], rfl, rfl, [.int .i64 Zz], [], rfl, rfl, rfl⟩, rfl⟩
  have hF' : stairsF Fv Fc ((X, Y, Zz, ()), ()) = some r := hF
  unfold stairsF at hF'
  have h1 : ∀ v, Fv ((X, Y, Zz, ()), ()) = some v → ∀ w, Calls Tryz.prog 101 #[boxV X Y Zz] w fun e w' => e = .returned (.bool v.1) ∧ Below w.heap.size w w' := fun v hv' w =>
    flat_calls (fn := Tryz.f101) hv rfl Tryz.func101 rfl (by kernel_rfl) (hG w) (hrel' w) hv'
  have h2 : ∀ c, Fc ((X, Y, Zz, ()), ()) = some c → ∀ w, Calls Tryz.prog 174 #[boxV X Y Zz] w fun e w' => e = .returned (.int .i64 c.1) ∧ Below w.heap.size w w' := fun c hc' w =>
    flat_calls (fn := Tryz.f174) hc rfl Tryz.func174 rfl (by kernel_rfl) (hG w) (hrel' w) hc'
  have none' : Calls Tryz.prog 92 #[boxV X Y Zz] w (fun e w' => e = .returned (.tuple #[.slice none 0 0, .bool false]) ∧ Below w.heap.size w w') → r = ([], false, ()) →
      FCalls Tryz.prog 92 #[boxV X Y Zz] w fun v w' => ∃ Z' us, v = mkRes us ∧ Below w.heap.size w w' ∧ (∀ g, Z g → Z' g) ∧ (∀ g, Z' g → Z g ∨ (w.heap.size ≤ g ∧ g < w'.heap.size)) ∧
        ResRel Z' w' w.heap.size (avsOf [boxV X Y Zz]) (resL [(false, .sl (.sl (.int .i64))), (false, .bool)] r [.own 30]) us := by
    rintro hcall rfl
    refine Calls.fcalls (fn := Tryz.f92) Tryz.func92 rfl (by kernel_rfl) (hcall.mono ?_)
    rintro e w' ⟨rfl, hb⟩
    refine ⟨_, rfl, Z, [.slice none 0 0, .bool false], rfl, hb, fun g hg => hg, fun g hg => .inl hg, fun i _ => if i = 0 then .slice none 0 0 else .bool false, rfl, ?_, ?_⟩
    · intro i p hp
      match i, hp with
      | 0, hp =>
        obtain rfl := Option.some.inj hp
        refine ⟨rfl, fun _ => rfl, fun j rc hj => ?_⟩
        match j, hj with
        | 0, hj =>
          obtain rfl := Option.some.inj hj
          exact ⟨OwnV.nil Nat.one_pos, fun g hg => by simp [Value.ownBlock] at hg⟩
      | 1, hp =>
        obtain rfl := Option.some.inj hp
        refine ⟨rfl, fun _ => rfl, fun j rc hj => ?_⟩
        match j, hj with
        | 0, hj =>
          obtain rfl := Option.some.inj hj
          exact ⟨rfl, rfl⟩
    · intro i j i' j' p p' rc rc' g hp hj ho hp' hj' ho' hg _
      match i, hp with
      | 0, hp => simp [Value.ownBlock] at hg
      | 1, hp => simp [Value.ownBlock] at hg
  show FCalls Tryz.prog 92 #[boxV X Y Zz] w _
  cases ev : Fv ((X, Y, Zz, ()), ()) with
  | none => rw [ev] at hF'; cases hF'
  | some v =>
    obtain ⟨vb, ⟨⟩⟩ := v
    rw [ev] at hF'
    have h1v := h1 _ ev
    cases vb with
    | false => exact none' (stairs_bad w h1v) (Option.some.inj hF').symm
    | true =>
      cases ec : Fc ((X, Y, Zz, ()), ()) with
      | none => simp only [Option.bind_some, cond_true, ec, Option.bind_none] at hF'; cases hF'
      | some c =>
        obtain ⟨cn, ⟨⟩⟩ := c
        have h2c := h2 _ ec
        simp only [Option.bind_some, cond_true, ec] at hF'
        by_cases hm : cn > 1000
        · rw [decide_eq_true hm] at hF'
          exact none' (stairs_many hm w h1v h2c) (Option.some.inj hF').symm
        · rw [decide_eq_false hm] at hF'
          simp only [cond_false] at hF'
          by_cases hs : (1 ≤ X ∧ X ≤ 4) ∧ (1 ≤ Y ∧ Y ≤ 4) ∧ (1 ≤ Zz ∧ Zz ≤ 4)
          · rw [decide_eq_true hs] at hF'
            obtain rfl := Option.some.inj hF'
            obtain ⟨y, rfl, hy⟩ := nat_of hs.2.1
            refine Calls.fcalls (fn := Tryz.f92) Tryz.func92 rfl (by kernel_rfl) ((stairs_good hs.1 hy hs.2.2 (not_gt hm) w h1v h2c).mono ?_)
            rintro e w' ⟨ov, Zi, rfl, hb, hown, hzi⟩
            have hbs := hb.size
            refine ⟨_, rfl, fun g => Z g ∨ Zi g, [ov, .bool true], rfl, hb, fun g hg => .inl hg, fun g hg => ?_, fun i _ => if i = 0 then ov else .bool true, rfl, ?_, ?_⟩
            · rcases hg with hg | hg
              · exact .inl hg
              · exact .inr ⟨(hzi g hg).1, (hzi g hg).2.1⟩
            · intro i p hp
              match i, hp with
              | 0, hp =>
                obtain rfl := Option.some.inj hp
                refine ⟨rfl, fun _ => rfl, fun j rc hj => ?_⟩
                match j, hj with
                | 0, hj =>
                  obtain rfl := Option.some.inj hj
                  refine ⟨hown.mono (fun g hg => .inr hg) (fun _ _ => rfl) (fun _ _ => rfl), fun g hg => ?_⟩
                  have hg' : ov.ownBlock = some g := hg
                  rintro (h | h)
                  · have := hZ g h
                    have := (hown.lt g hg').1
                    omega
                  · exact (hzi g h).2.2 hg'
              | 1, hp =>
                obtain rfl := Option.some.inj hp
                refine ⟨rfl, fun _ => rfl, fun j rc hj => ?_⟩
                match j, hj with
                | 0, hj =>
                  obtain rfl := Option.some.inj hj
                  exact ⟨rfl, rfl⟩
            · intro i j i' j' p p' rc rc' g hp hj ho hp' hj' ho' hg hg'
              match i, hp, i', hp' with
              | 0, hp, 0, hp' =>
                obtain rfl := Option.some.inj hp
                obtain rfl := Option.some.inj hp'
                match j, hj, j', hj' with
                | 0, _, 0, _ => exact ⟨rfl, rfl⟩
              | 1, hp, _, _ => simp [Value.ownBlock] at hg
              | 0, _, 1, _ => simp [Value.ownBlock] at hg'
          · rw [decide_eq_false hs] at hF'; cases hF'
end
end Go.VI
