/- Plain: the law of valid consoles. -/
import Derived.Test.YtpojikcnjlbgdaaDoorQO
namespace Go.VI
open Go.Proofs

theorem f_spec_l12Good (b : D_Bench) (hl : Small b.1.2.2.2.1) : P_spec_l12Good (b, ()) = some (okBench b, ()) := by
  rw [p_spec_l12Good, f_spec_l2Heap _ hl]
  simp only [Option.bind_some, f_in0, okBench, okBench.within3one]
  cases okHeap b.1 <;> simp
  cases decide (0 ≤ b.2.2.1) <;> cases decide (b.2.2.1 ≤ 1000) <;> simp

theorem sz_logN (l : D_Log) (n : Int) (n0 : 0 ≤ n) (n1 : n ≤ 1048576) (h1 : l.1.length ≤ 9223372036854775807) (h2 : l.2.1.length ≤ 9223372036854775807) : ∃ r, P_laws_szLog (l, n, ()) = some (r, ()) ∧ (r < 0 ∨ (l.1.length + l.2.1.length ≤ 1048576 ∧ 0 ≤ r)) := by
  rw [p_laws_szLog, w64 (x := n - (l.1.length : Int)) (by omega) (by omega)]
  by_cases a : n - l.1.length < 0
  · exact ⟨-1, by simp [a], .inl (by omega)⟩
  · rw [w64 (x := n - (l.1.length : Int) - (l.2.1.length : Int)) (by omega) (by omega)]
    by_cases b : n - l.1.length - l.2.1.length < 0
    · exact ⟨-1, by simp [a, b], .inl (by omega)⟩
    · exact ⟨n - (l.1.length : Int) - (l.2.1.length : Int), by simp [a, b], .inr ⟨by omega, by omega⟩⟩

theorem f_szBenchZ (b : D_Bench) (left : Int) (h0 : 0 ≤ left) (h1 : left ≤ 1048576) (hl : b.1.2.2.2.1.length ≤ 9223372036854775807) : ∃ z, P_laws_szBench (b, left, ()) = some (z, ()) ∧ z ≤ left ∧ (z < 0 ∨ Small b.1.2.2.2.1) := f_szBench b left h0 h1 hl

theorem law_IsValidConsole (c : D_Console) (hb : c.1.1.2.2.2.1.length ≤ 9223372036854775807) (h1 : c.2.1.1.length ≤ 9223372036854775807) (h2 : c.2.1.2.1.length ≤ 9223372036854775807) : P_laws_FnExactIsValidConsole (c, ()) = some (true, ()) := by
  obtain ⟨z, hz, hz1, hor⟩ := f_szBenchZ c.1 1048576 (by omega) (by omega) hb
  rw [p_laws_FnExactIsValidConsole, p_laws_szConsole, hz]
  simp only [Option.bind_some]
  by_cases hn : z < 0
  · rw [decide_eq_true hn]; rfl
  · have hs := hor.resolve_left hn
    obtain ⟨r, hr, hc⟩ := sz_logN c.2.1 z (by omega) (by omega) h1 h2
    rw [decide_eq_false hn, hr]
    simp only [cond_false, Option.bind_some]
    rcases hc with hc | ⟨s1, hc⟩
    · rw [decide_eq_true hc]; rfl
    · have ht : P_laws_toConsole (c, ()) = some (c, ()) := by
        rw [p_laws_toConsole, f_toBench c.1 hs, p_laws_toLog]; rfl
      have he : P_laws_eqConsole (c, c, ()) = some (true, ()) := by
        rw [p_laws_eqConsole, f_eqBench c.1 hs, eqLog_refl]; rfl
      rw [decide_eq_false (p := r < 0) (by omega), ht]
      simp only [cond_false, Option.bind_some]
      rw [decide_eq_false (p := r < 0) (by omega)]
      simp only [cond_false]
      rw [p_spec_IsValidConsole, p_impl_IsValidConsole, f_spec_l12Good c.1 hs, f_impl_IsBench c.1 hs]
      simp only [Option.bind_some]
      rw [f_validS c.2.1 s1, f_validI c.2.1 s1, he]
      cases okBench c.1 with
      | false => simp
      | true => simp
end Go.VI
