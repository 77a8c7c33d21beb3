/- VI, part 34: library functions that return a row of texts. -/
import Derived.Test.YtcamgjgfjpcelaaGreatDoorViLib
namespace Go.VI
noncomputable section
open Go.RowKit

theorem below_new (w : World) (o : Obj) : RowKit.Below w.heap.size w (w.alloc o) :=
  ⟨rfl, rfl, rfl, by show _ ≤ (w.heap.push o).size; rw [Array.size_push]; exact Nat.le_succ _, fun i hi => by show (w.heap.push o)[i]? = _; rw [Array.getElem?_push, if_neg (Nat.ne_of_lt hi)]⟩

theorem repsL_strs (Z : Nat → Prop) (w : World) : ∀ ls : List ByteArray, RepsL Z w .str (ls.map fun b => b.data.toList) (ls.map Value.string)
  | [] => rfl
  | b :: r => ⟨[Value.string b], r.map Value.string, rfl, rfl, repsL_strs Z w r⟩

theorem ownV_strs (w : World) (ls : List ByteArray) (e : TypeId) (Z : Nat → Prop) (h : ls.length ≤ maxLen) :
    OwnV Z (w.alloc (.cells (ls.map Value.string).toArray e)) w.heap.size e .str (.slice (some ⟨w.heap.size, 0, none⟩) ls.length ls.length) (ls.map fun b => b.data.toList) := by
  have hsz : (Ty.str).size = 1 := rfl
  refine ⟨by rw [hsz]; exact Nat.one_pos, ls.map Value.string, ⟨by rw [hsz, List.length_map, List.length_map, Nat.mul_one], .inr ⟨w.heap.size, ls.length, (ls.map Value.string).toArray, (0, 0), by rw [List.length_map], Nat.le_refl _, ?_, .inl rfl, by rw [List.length_map]; exact Nat.le_refl _, h, by rw [hsz, List.size_toArray, List.length_map, Nat.mul_one], ?_⟩⟩, repsL_strs _ _ _⟩
  · show (w.heap.push _)[w.heap.size]? = _
    rw [Array.getElem?_push_size]
  · rw [hsz, List.length_map, Nat.mul_one]
    have hl : (List.map Value.string ls).length = ls.length := List.length_map _
    exact List.take_of_length_le (by rw [hl]; exact Nat.le_refl _)

/-- A function of plain arguments that returns a new row of texts, by its contract. -/
theorem sound_strs {P : Program} {G : World → Prop} {f : FuncId} {fn : Func} {c : Code} {As : List ATy} {e0 : TypeId} {F : denA As → Option (denL [(false, .sl .str)])} (hA : flatA As = true)
    (hf : P.funcs[f]? = some fn) (hb : fn.body = some c) (hn : (fn.name == "runtime.NumGoroutine") = false)
    (h : ∀ w xs l, G w → F xs = some (l, ()) → ∃ ls : List ByteArray, (ls.map fun b => b.data.toList) = l ∧ ls.length ≤ maxLen ∧
      Calls P f ((argC As xs).map cellV).toArray w fun e w' => e = .returned (.slice (some ⟨w.heap.size, 0, none⟩) ls.length ls.length) ∧ w' = w.alloc (.cells (ls.map Value.string).toArray e0)) :
    Sound P G f ⟨As, [(false, .sl .str)], [.own e0], F⟩ := by
  intro w Z vs xs r hG hZ hrel hF
  have hvs := relArgs_flat As xs vs hA hrel
  subst hvs
  have hn' : ¬ fn.name = "runtime.NumGoroutine" := by simpa using hn
  obtain ⟨l, ⟨⟩⟩ := r
  obtain ⟨ls, rfl, hle, hc⟩ := h w xs l hG hF
  refine .inr ⟨by simp [callFunc, program, Sem.run, hf, hb, hn'], hc.mono ?_⟩
  rintro e w' ⟨rfl, rfl⟩
  have hv := ownV_strs w ls e0 Z hle
  refine ⟨_, rfl, Z, [.slice (some ⟨w.heap.size, 0, none⟩) ls.length ls.length], rfl, below_new w _, fun g hg => hg, fun g hg => .inl hg, ?_⟩
  have hres : ∀ i p, (resL [(false, Ty.sl Ty.str)] ((ls.map fun b => b.data.toList), ()) [RMode.own e0])[i]? = some p → i = 0 ∧ p = (false, [RCell.own e0 .str (ls.map fun b => b.data.toList)]) := by
    intro i p hp
    have e1 : resL [(false, Ty.sl Ty.str)] ((ls.map fun b => b.data.toList), ()) [RMode.own e0] = [(false, [RCell.own e0 .str (ls.map fun b => b.data.toList)])] := rfl
    rw [e1] at hp
    match i, hp with
    | 0, hp => exact ⟨rfl, (Option.some.inj hp).symm⟩
  refine ⟨fun _ _ => .slice (some ⟨w.heap.size, 0, none⟩) ls.length ls.length, rfl, ?_, ?_⟩
  · intro i p hp
    obtain ⟨rfl, rfl⟩ := hres i p hp
    refine ⟨rfl, fun _ => rfl, ?_⟩
    intro j rc hj
    match j, hj with
    | 0, hj =>
      obtain rfl := Option.some.inj hj
      exact ⟨hv, fun g hg hz => by
        have hg' : w.heap.size = g := by simpa [Value.ownBlock] using hg
        subst hg'
        exact absurd (hZ _ hz) (Nat.lt_irrefl _)⟩
  · intro i j i' j' p p' rc rc' g hp hj ho hp' hj' ho' _ _
    obtain ⟨rfl, rfl⟩ := hres i p hp
    obtain ⟨rfl, rfl⟩ := hres i' p' hp'
    match j, hj, j', hj' with
    | 0, _, 0, _ => exact ⟨rfl, rfl⟩
end
end Go.VI
