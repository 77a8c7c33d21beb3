/- One option tells no more than another one. -/
import Derived.Test.YtlnfgikipeiaiaaViGen
namespace Go.VI
def Le {α : Type} (x y : Option α) : Prop := ∀ r, x = some r → y = some r
theorem Le.rfl {α : Type} {x : Option α} : Le x x := fun _ h => h
theorem Le.none {α : Type} {x : Option α} : Le none x := fun _ h => by cases h
theorem Le.bind {α β : Type} {x y : Option α} {f g : α → Option β} (h : Le x y) (hf : ∀ a, Le (f a) (g a)) : Le (Option.bind x f) (Option.bind y g) := fun r hr => by
  cases x with
  | none => cases hr
  | some a => rw [h a _root_.rfl]; exact hf a r hr
theorem Le.cond {α : Type} {c : Bool} {x y x' y' : Option α} (h : Le x x') (h' : Le y y') : Le (bif c then x else y) (bif c then x' else y') := by
  cases c
  · exact h'
  · exact h
theorem K_le (k : Nat) (h : k ≤ 4194304) : k ≤ N := Nat.le_trans h N_ge
end Go.VI
