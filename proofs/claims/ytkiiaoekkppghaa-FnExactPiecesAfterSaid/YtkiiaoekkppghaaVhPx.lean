/- PiecesAfter of the program: what its loops say. -/
import Derived.Test.YtkiiaoekkppghaaVhPw
namespace Go.VI
open Go.Proofs Go.RowKit
set_option maxRecDepth 100000

abbrev RP : Type := List (List D_A3) × Bool × Unit

theorem inB_nat {k n : Nat} (h : k < n) : inB (k : Int) n = true := by simp [inB]; omega

theorem wrap_add1 {k n : Nat} (h : k < n) (hn : n ≤ 1000) : IntKind.wrap .i64 ((k : Int) + 1) = ((k + 1 : Nat) : Int) := by
  simp [IntKind.wrap, IntKind.bits, IntKind.signed]; omega

theorem inv4 {m : Nat} {X Y Zz : Int} {l : List D_A3} {cuts : List D_A2} {k : Nat} {r : RP} (hn : cuts.length ≤ 12) (h : l_impl_PiecesAfter_4 m X Y Zz l cuts cuts (cuts.length : Int) (k : Int) = some r) :
    ∃ m', m = m' + 1 ∧ (k < cuts.length → ∃ q, P_Heap_isCut ((X, (Y, (Zz, (l, ())))), (nth T_A2 cuts (k : Int)).1, (nth T_A2 cuts (k : Int)).2.1, ()) = some (q, ()) ∧ (q = false → r = ([], false, ())) ∧ (q = true → l_impl_PiecesAfter_4 m' X Y Zz l cuts cuts (cuts.length : Int) ((k + 1 : Nat) : Int) = some r)) ∧
      (¬ k < cuts.length → ∃ x y z q, P_Heap_box ((X, (Y, (Zz, (l, ())))), ()) = some ((x, y, z, ()), ()) ∧ P_Heap_cubes ((X, (Y, (Zz, (l, ())))), ()) = some (q, ()) ∧ l_impl_PiecesAfter_10 N x y z cuts [] q = some r) := by
  cases m with
  | zero => rw [z_PiecesAfter_4] at h; cases h
  | succ m =>
  refine ⟨m, rfl, fun hk => ?_, fun hk => ?_⟩
  · rw [q_impl_PiecesAfter_4, decide_eq_true (p := (k : Int) < (cuts.length : Int)) (by omega), inB_nat hk] at h
    simp only [cond_true, Option.bind_eq_some_iff] at h
    obtain ⟨⟨q, ⟨⟩⟩, h1, h2⟩ := h
    refine ⟨q, h1, fun hq => ?_, fun hq => ?_⟩
    · subst hq; simpa using h2.symm
    · subst hq
      rw [wrap_add1 hk (by omega)] at h2
      exact h2
  · rw [q_impl_PiecesAfter_4, decide_eq_false (p := (k : Int) < (cuts.length : Int)) (by omega)] at h
    simp only [cond_false, Option.bind_eq_some_iff] at h
    obtain ⟨⟨⟨x, y, z, ⟨⟩⟩, ⟨⟩⟩, h1, ⟨q, ⟨⟩⟩, h2, h3⟩ := h
    exact ⟨x, y, z, q, h1, h2, h3⟩

abbrev lowB (q : Int) : Int := intBits .and .u64 q (IntKind.wrap .u64 (0 - q))

theorem inv10 {m : Nat} {x y z : Int} {cuts : List D_A2} {ps : List (List D_A3)} {q : Int} {r : RP} (h : l_impl_PiecesAfter_10 m x y z cuts ps q = some r) :
    ∃ m', m = m' + 1 ∧ (q = 0 → r = (ps, true, ())) ∧ (q ≠ 0 → ∃ fs, P_box_list ((x, (y, (z, ()))), lowB q, ()) = some (fs, ()) ∧ 0 < fs.length ∧
      l_impl_PiecesAfter_14 m' N x y z ((nth T_A3 fs 0).1) ((nth T_A3 fs 0).2.1) ((nth T_A3 fs 0).2.2.1) cuts ps q (lowB q) q cuts (cuts.length : Int) ((0 : Nat) : Int) = some r) := by
  cases m with
  | zero => rw [z_PiecesAfter_10] at h; cases h
  | succ m =>
  refine ⟨m, rfl, fun hq => ?_, fun hq => ?_⟩
  · rw [q_impl_PiecesAfter_10, decide_eq_true (p := q = 0) hq] at h
    simpa using h.symm
  · rw [q_impl_PiecesAfter_10, decide_eq_false (p := q = 0) hq] at h
    simp only [Bool.not_false, cond_true, Option.bind_eq_some_iff] at h
    obtain ⟨⟨fs, ⟨⟩⟩, h1, h2⟩ := h
    cases hb : inB 0 fs.length with
    | false => simp only [hb, cond_false] at h2; cases h2
    | true =>
      simp only [hb, cond_true] at h2
      refine ⟨fs, h1, ?_, h2⟩
      simp [inB] at hb
      exact hb

theorem inv14 {m0 m : Nat} {x y z a b c : Int} {cuts : List D_A2} {ps : List (List D_A3)} {q p s : Int} {k : Nat} {r : RP} (hn : cuts.length ≤ 12) (h : l_impl_PiecesAfter_14 m0 m x y z a b c cuts ps q p s cuts (cuts.length : Int) (k : Int) = some r) :
    ∃ m', m = m' + 1 ∧ (k < cuts.length → ∃ t, P_box_those ((x, (y, (z, ()))), (fun (y : D_A3 × Unit) => P_impl_PiecesAfter_1 (y.1, (nth T_A2 cuts (k : Int)), (a, (b, (c, ()))), ())), ()) = some (t, ()) ∧
        l_impl_PiecesAfter_14 m0 m' x y z a b c cuts ps q p (intBits .and .u64 s t) cuts (cuts.length : Int) ((k + 1 : Nat) : Int) = some r) ∧
      (¬ k < cuts.length → ∃ g li, P_box_grown ((x, (y, (z, ()))), p, s, ()) = some (g, ()) ∧ P_box_list ((x, (y, (z, ()))), g, ()) = some (li, ()) ∧ (ps.length + 1) * 24 ≤ 140737488355328 ∧
        l_impl_PiecesAfter_10 m0 x y z cuts (ps ++ [li]) (intBits .andNot .u64 q g) = some r) := by
  cases m with
  | zero => rw [z_PiecesAfter_14] at h; cases h
  | succ m =>
  refine ⟨m, rfl, fun hk => ?_, fun hk => ?_⟩
  · rw [q_impl_PiecesAfter_14, decide_eq_true (p := (k : Int) < (cuts.length : Int)) (by omega), inB_nat hk] at h
    simp only [cond_true, Option.bind_eq_some_iff] at h
    obtain ⟨⟨t, ⟨⟩⟩, h1, h2⟩ := h
    rw [wrap_add1 hk (by omega)] at h2
    exact ⟨t, h1, h2⟩
  · rw [q_impl_PiecesAfter_14, decide_eq_false (p := (k : Int) < (cuts.length : Int)) (by omega)] at h
    simp only [cond_false, Option.bind_eq_some_iff] at h
    obtain ⟨⟨g, ⟨⟩⟩, h1, ⟨li, ⟨⟩⟩, h2, h3⟩ := h
    cases hb : (decide ((ps.length + List.length [li]) * 24 ≤ 140737488355328) && decide (ps.length + List.length [li] ≤ 140737488355328)) with
    | false => simp only [hb, cond_false] at h3; cases h3
    | true =>
      simp only [hb, cond_true] at h3
      refine ⟨g, li, h1, h2, ?_, h3⟩
      simp at hb
      omega

theorem inv0 {X Y Zz : Int} {l : List D_A3} {cuts : List D_A2} {r : RP} (h : P_impl_PiecesAfter ((X, (Y, (Zz, (l, ())))), cuts, ()) = some r) :
    ∃ q, P_impl_IsHeap ((X, (Y, (Zz, (l, ())))), ()) = some (q, ()) ∧ ((q = false ∨ 12 < cuts.length) → r = ([], false, ())) ∧ (q = true → cuts.length ≤ 12 → l_impl_PiecesAfter_4 N X Y Zz l cuts cuts (cuts.length : Int) ((0 : Nat) : Int) = some r) := by
  rw [p_impl_PiecesAfter] at h
  simp only [Option.bind_eq_some_iff] at h
  obtain ⟨⟨q, ⟨⟩⟩, h1, h2⟩ := h
  refine ⟨q, h1, fun hq => ?_, fun hq hn => ?_⟩
  · cases q with
    | false => simpa using h2.symm
    | true =>
      have : 12 < cuts.length := by rcases hq with hq | hq; cases hq; exact hq
      rw [decide_eq_true (p := (cuts.length : Int) > 12) (by omega)] at h2
      simpa using h2.symm
  · subst hq
    rw [decide_eq_false (p := (cuts.length : Int) > 12) (by omega)] at h2
    exact h2
end Go.VI
