/- VI, part 32: library functions by their contracts. -/
import Derived.Test.YtlnfgikipeiaiaaViGen
namespace Go.VI
noncomputable section
open Go.RowKit

def flatTy : Ty → Bool
  | .int _ | .bool | .str => true
  | _ => false

def flatC : (t : Ty) → t.den → Cell
  | .int k, n => .int k n
  | .bool, b => .bool b
  | .str, s => .str s
  | _, _ => .bool false

def resC : (R : List (Bool × Ty)) → denL R → List Cell
  | [], _ => []
  | p :: r, x => flatC p.2 x.1 :: resC r x.2

def flatR (R : List (Bool × Ty)) : Bool := R.all fun p => !p.1 && flatTy p.2

theorem resL_plain : ∀ (R : List (Bool × Ty)) (r : denL R) (ms : List RMode), flatR R = true → resL R r ms = (resC R r).map fun c => (false, [RCell.flat c])
  | [], _, _, _ => rfl
  | (true, t) :: R, r, ms, h => by simp [flatR] at h
  | (false, t) :: R, r, ms, h => by
    have h' : flatTy t = true ∧ flatR R = true := by simpa [flatR] using h
    have ih := resL_plain R r.2
    cases t <;> simp [flatTy] at h' <;> simp [resL, resM, resC, flatC, ih _ h']

theorem resC_z : ∀ (R : List (Bool × Ty)) (r : denL R), flatR R = true → ∀ c ∈ resC R r, zcell c = true
  | [], _, _, c, hc => by cases hc
  | (true, t) :: R, r, h, c, hc => by simp [flatR] at h
  | (false, t) :: R, r, h, c, hc => by
    have h' : flatTy t = true ∧ flatR R = true := by simpa [flatR] using h
    rcases List.mem_cons.1 hc with rfl | hc'
    · cases t <;> simp [flatTy] at h' <;> rfl
    · exact resC_z R r.2 h'.2 c hc'

theorem resRel_plain (Z : Nat → Prop) (w : World) (B : Nat) (avs : List Value) (R : List (Bool × Ty)) (r : denL R) (ms : List RMode) (h : flatR R = true) : ResRel Z w B avs (resL R r ms) ((resC R r).map cellV) := by
  rw [resL_plain R r ms h]
  refine ⟨fun i _ => ((resC R r).map cellV).getD i undef, by simp, ?_, ?_⟩
  · intro i p hp
    rw [List.getElem?_map] at hp
    cases hc : (resC R r)[i]? with
    | none => rw [hc] at hp; cases hp
    | some c =>
      rw [hc] at hp
      obtain rfl : (false, [RCell.flat c]) = p := by simpa using hp
      refine ⟨by simp [mkVal, List.range_succ, hc], fun _ => rfl, ?_⟩
      intro j rc hj
      match j, hj with
      | 0, hj =>
        obtain rfl : RCell.flat c = rc := by simpa using hj
        exact ⟨resC_z R r h c (List.mem_of_getElem? hc), by simp [hc]⟩
  · intro i j i' j' p p' rc rc' g hp hj ho
    rw [List.getElem?_map] at hp
    cases hc : (resC R r)[i]? with
    | none => rw [hc] at hp; cases hp
    | some c =>
      rw [hc] at hp
      obtain rfl : (false, [RCell.flat c]) = p := by simpa using hp
      match j, hj with
      | 0, hj =>
        obtain rfl : RCell.flat c = rc := by simpa using hj
        simp [RCell.isOwn] at ho

def argC : (As : List ATy) → denA As → List Cell
  | [], _ => []
  | .data _ t :: r, x => flatC t x.1 :: argC r x.2
  | .ptr _ :: r, x => argC r x.2
  | .clo _ _ :: r, x => argC r x.2
  | .lrow _ _ _ :: r, x => argC r x.2
  | .lptr _ :: r, x => argC r x.2

def flatA (As : List ATy) : Bool := As.all fun | .data g t => !g && flatTy t | _ => false

theorem relArgs_flat {P : Program} {G : World → Prop} {Z : Nat → Prop} {w : World} : ∀ (As : List ATy) (xs : denA As) (vs : List Value), flatA As = true → RelArgs P G Z w As xs vs → vs = (argC As xs).map cellV
  | [], _, vs, _, h => h
  | .data true t :: r, x, vs, hA, h => by simp [flatA] at hA
  | .data false t :: r, x, vs, hA, h => by
    have hA' : flatTy t = true ∧ flatA r = true := by simpa [flatA] using hA
    obtain ⟨us, vs', rfl, _, h2, h3⟩ := h
    have ih := relArgs_flat r x.2 vs' hA'.2 h3
    rw [ih]
    cases t <;> simp [flatTy] at hA' <;> (have h2 : us = _ := h2; subst h2; rfl)
  | .ptr _ :: r, x, vs, hA, h => by simp [flatA] at hA
  | .clo _ _ :: r, x, vs, hA, h => by simp [flatA] at hA
  | .lrow _ _ _ :: r, x, vs, hA, h => by simp [flatA] at hA
  | .lptr _ :: r, x, vs, hA, h => by simp [flatA] at hA

/-- A function of plain arguments and results, by its contract. -/
theorem sound_flat {P : Program} {G : World → Prop} {f : FuncId} {fn : Func} {c : Code} {As : List ATy} {R : List (Bool × Ty)} {F : denA As → Option (denL R)} (hA : flatA As = true) (hR : flatR R = true)
    (hf : P.funcs[f]? = some fn) (hb : fn.body = some c) (hn : (fn.name == "runtime.NumGoroutine") = false)
    (h : ∀ w xs r, G w → F xs = some r → Calls P f ((argC As xs).map cellV).toArray w fun e w' => e = .returned (mkRes ((resC R r).map cellV)) ∧ Below w.heap.size w w') : Sound P G f ⟨As, R, [], F⟩ := by
  intro w Z vs xs r hG hZ hrel hF
  have hvs := relArgs_flat As xs vs hA hrel
  subst hvs
  have hn' : ¬ fn.name = "runtime.NumGoroutine" := by simpa using hn
  refine .inr ⟨by simp [callFunc, program, Sem.run, hf, hb, hn'], (h w xs r hG hF).mono ?_⟩
  rintro e w' ⟨rfl, hbel⟩
  exact ⟨_, rfl, Z, _, rfl, hbel, fun g hg => hg, fun g hg => .inl hg, resRel_plain _ _ _ _ R r [] hR⟩
end
end Go.VI
