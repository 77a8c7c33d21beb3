/- One value in a new block, to be appended. -/
import Derived.Test.YtkiiaoekkppghaaVhPw
import Derived.Lib.SliceRun
namespace Go.VI
open Go.Proofs Go.RowKit
set_option maxRecDepth 100000

theorem info22 : (Try.prog.info? 22).map (fun i => (i.zero, i.size, i.bytes)) = some (some (.slice none 0 0), 1, 24) := by kernel_rfl

theorem cell_of_one {w : World} {b t : Nat} {v : Value} (h : w.heap[b]? = some (.cells #[v] t (0, 0))) : w.cell? ⟨b, 0, none⟩ = some v := by simp [World.cell?, h]

theorem one_srcT (w : World) (t e : TypeId) (v : Value) (ht : Try.prog.underlying t = some (.slice e)) (h1 : v.oneCell' = true) : Go.Src Try.prog 1 t (.slice (some ⟨w.heap.size, 0, none⟩) 1 1) 1 [v] (w.alloc (.cells #[v] e)) := by
  refine Go.Src.ofSlice _ ht _ 1 1 [v] rfl (fun j u hu => ?_) (fun u hu => ?_)
  · match j, hu with
    | 0, hu =>
      obtain rfl : v = u := by simpa using hu
      exact cell_of_one (alloc_at w _)
  · obtain rfl : u = v := by simpa using hu
    exact h1

theorem OwnV.one {Z : Nat → Prop} {w : World} {B : Nat} {e : TypeId} {t : Ty} {v : Value} {l : List t.den} (h : OwnV Z w B e t v l) : v.oneCell' = true := by
  obtain ⟨_, xs, ho, _⟩ := h
  rcases ho.2 with ⟨rfl, _⟩ | ⟨g, c, cur, fz, rfl, _⟩ <;> rfl

theorem OwnV.slice1 {Z : Nat → Prop} {w : World} {B : Nat} {e : TypeId} {t : Ty} {v : Value} {l : List t.den} (h : OwnV Z w B e t v l) : ∃ a c, v = .slice a l.length c := by
  obtain ⟨_, xs, ho, _⟩ := h
  rcases ho.2 with ⟨rfl, h0⟩ | ⟨g, c, cur, fz, rfl, _⟩
  · exact ⟨none, 0, by rw [h0]⟩
  · exact ⟨_, _, rfl⟩
end Go.VI
