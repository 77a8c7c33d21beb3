/- The library's Clone of a row of numbers, by a walk. -/
import Derived.Test.YtcamgjgfjpcelaaGreatViFill
import Derived.Lib.SliceRun
import Derived.Test.YtcamgjgfjpcelaaGreatProg
namespace Go.VI
open Go.Proofs Go.RowKit
set_option maxRecDepth 100000
theorem info3 : (Tryz.prog.info? 3).map (fun i => (i.zero, i.size, i.bytes)) = some (some (.int .i64 0), 1, 8) := by kernel_rfl
theorem info30 : (Tryz.prog.info? 30).map (fun i => (i.zero, i.size, i.bytes)) = some (some (.slice none 0 0), 1, 24) := by kernel_rfl
def ints (L : List Int) : List Value := L.map (Value.int .i64)
theorem eqNil (w : World) (a : Option Addr) (n c : Nat) : (binOp .eql 30 (.slice a n c) (.slice none 0 0)).run Tryz.prog w = .ok (.bool a.isNone) w :=
  Go.Lib.run_eql_slice_nil w 30 3 a n c 0 0 Tryz.underlying30
theorem clone_calls (L : List Int) (base : Nat) (lv : Value) (w : World) (h : w.ownsRow base 3 1 lv L.length (ints L)) (hne : L ≠ []) (hlen : L.length ≤ 1000) :
    Calls Tryz.prog 114 #[lv] w fun e w' => ∃ cv, e = .returned cv ∧ Below w.heap.size w w' ∧ w'.ownsRow w.heap.size 3 1 cv L.length (ints L) := by
  rcases h.2 with ⟨_, h0⟩ | ⟨g, cap, cur, rfl, hb, hg, hnc, hcm, hcs, htake⟩
  · exact absurd (List.length_eq_zero_iff.1 h0) hne
  · have hcells := h.cells (g := g) rfl
    obtain ⟨i0, hi, hz0, hz1, hz2⟩ := info_parts info3
    have hE := eqNil
    go_enter Tryz.func114, Tryz.ntmps114
    go_wp2_with (at_builtin; refine wpList_append_own2 _ rfl _ _ 30 30 rfl w.heap.size 3 i0 (.int .i64 0) 1 8 Tryz.underlying30 hi hz0 hz1 hz2 rfl _ 0 [] rfl (World.ownsRow_made w _ 0 (Nat.le_refl _) (by decide) rfl) _ L.length (ints L) rfl (Go.Src.ofSlice _ Tryz.underlying30 ⟨g, 0, none⟩ L.length cap (ints L) h.1 ?c1 ?c2) ?c3 ?c4 ?c5 ?_; rotate_right; intro v' w2 hown' hgrow' hprov)
    case c1 => exact (h.alloc _).cells (g := g) rfl
    case c2 =>
      intro u hu
      obtain ⟨x, _, rfl⟩ := List.mem_map.1 hu
      rfl
    case c3 => unfold maxLen; omega
    case c4 => omega
    case c5 => simp
    go_ret
    refine ⟨v', rfl, ((Below.refl w.heap.size w).alloc (Nat.le_refl _) _).grown hgrow' (by simp) (fun j hj => ?_), ?_⟩
    · obtain rfl : w.heap.size = j := by simpa [Act.eval, Value.ownBlock] using hj
      exact Nat.le_refl _
    · simpa using hown'
end Go.VI
