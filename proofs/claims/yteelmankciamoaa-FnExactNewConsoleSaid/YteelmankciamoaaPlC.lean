/- Plain: benches. -/
import Derived.Test.YteelmankciamoaaPlB
namespace Go.VI
open Go.Proofs

def okBench (b : D_Bench) : Bool := okHeap b.1 && within3one b.2.1 b.1.2.2.2.1.length && within3one b.2.2.1 1000
where within3one (x hi : Int) : Bool := decide (0 ≤ x) && decide (x ≤ hi)

theorem f_in0 (x hi : Int) : P_spec_l1In (x, 0, hi, ()) = some (decide (0 ≤ x) && decide (x ≤ hi), ()) := f_spec_l1In x 0 hi

theorem f_spec_IsBench (b : D_Bench) (hl : Small b.1.2.2.2.1) : P_spec_IsBench (b, ()) = some (okBench b, ()) := by
  rw [p_spec_IsBench, p_spec_l12Good, f_spec_l2Heap _ hl]
  simp only [Option.bind_some, f_in0, okBench, okBench.within3one]
  cases okHeap b.1 <;> simp
  cases decide (0 ≤ b.2.2.1) <;> cases decide (b.2.2.1 ≤ 1000) <;> simp

theorem f_spec_l12Good (b : D_Bench) (hl : Small b.1.2.2.2.1) : P_spec_l12Good (b, ()) = some (okBench b, ()) := by
  have := f_spec_IsBench b hl
  rw [p_spec_IsBench] at this
  cases h : P_spec_l12Good (b, ()) with
  | none => rw [h] at this; cases this
  | some r => rw [h] at this; obtain ⟨r1, ⟨⟩⟩ := r; simpa using this

theorem f_impl_IsBench (b : D_Bench) (hl : Small b.1.2.2.2.1) : P_impl_IsBench (b, ()) = some (okBench b, ()) := by
  rw [p_impl_IsBench, f_impl_IsHeap _ hl]
  simp only [Option.bind_some, f_impl_within, okBench, okBench.within3one]
  cases okHeap b.1 <;> simp
  cases decide (0 ≤ b.2.1) <;> cases decide (b.2.1 ≤ (b.1.2.2.2.1.length : Int)) <;> simp

theorem law_IsBench (b : D_Bench) (hl : b.1.2.2.2.1.length ≤ 9223372036854775807) : P_laws_FnExactIsBench (b, ()) = some (true, ()) := by
  obtain ⟨z, hz, _, hor⟩ := f_szBench b 1048576 (by omega) (by omega) hl
  rw [p_laws_FnExactIsBench, hz]
  simp only [Option.bind_some]
  by_cases hn : z < 0
  · simp [hn]
  · have hs := hor.resolve_left hn
    simp [hn, f_toBench b hs, f_spec_IsBench b hs, f_impl_IsBench b hs, f_eqBench b hs]

/-! ### Own benches -/
theorem own1 (l : List D_A3) (hl : Small l) : (decide (((List.length ([] : List D_A3)) + (List.length l)) * 24 ≤ 140737488355328) && decide (((List.length ([] : List D_A3)) + (List.length l)) ≤ 140737488355328)) = true := by
  unfold Small at hl
  simp only [List.length_nil, Nat.zero_add, Bool.and_eq_true, decide_eq_true_eq]
  omega

theorem f_spec_l12Own (b : D_Bench) (hl : Small b.1.2.2.2.1) : P_spec_l12Own (b, ()) = some (b, ()) := by
  rw [p_spec_l12Own, p_spec_l2Own, own1 _ hl]
  simp only [p_spec_l2Made, cond_true, Option.bind_some, List.nil_append]

theorem f_Bench_own (b : D_Bench) (hl : Small b.1.2.2.2.1) : P_Bench_own (b, ()) = some (b, ()) := by
  rw [p_Bench_own, own1 _ hl]
  simp only [cond_true, List.nil_append]

def noBench : D_Bench := ((0, (0, (0, (([] : List D_A3), ())))), (0, (0, ())))
theorem small_nil : Small ([] : List D_A3) := by unfold Small; simp

def newBench (h : D_Heap) : D_Bench × Bool × Unit := if okHeap h then ((h, ((h.2.2.2.1.length : Int), (0, ()))), true, ()) else (noBench, false, ())

theorem newBench_small (h : D_Heap) (hl : Small h.2.2.2.1) : Small (newBench h).1.1.2.2.2.1 := by
  unfold newBench
  split
  · exact hl
  · exact small_nil

theorem f_spec_NewBench (h : D_Heap) (hl : Small h.2.2.2.1) : P_spec_NewBench (h, ()) = some (newBench h) := by
  rw [p_spec_NewBench, f_spec_l2Heap _ hl]
  unfold newBench
  cases ho : okHeap h
  · simp [noBench]
  · simp [f_spec_l12Own (h, ((List.length h.2.2.2.1 : Int), (0, ()))) hl]

theorem f_impl_NewBench (h : D_Heap) (hl : Small h.2.2.2.1) : P_impl_NewBench (h, ()) = some (newBench h) := by
  rw [p_impl_NewBench, f_impl_IsHeap _ hl]
  unfold newBench
  cases ho : okHeap h
  · simp [noBench]
  · simp [f_Bench_own (h, ((List.length h.2.2.2.1 : Int), (0, ()))) hl]

theorem law_NewBench (h : D_Heap) (hl : h.2.2.2.1.length ≤ 9223372036854775807) : P_laws_FnExactNewBench (h, ()) = some (true, ()) := by
  obtain ⟨z, hz, _, hor⟩ := f_szHeap h 1048576 (by omega) (by omega) hl
  rw [p_laws_FnExactNewBench, hz]
  simp only [Option.bind_some]
  by_cases hn : z < 0
  · simp [hn]
  · have hs := hor.resolve_left hn
    have hb := newBench_small h hs
    have h1 : ¬ (1 + 3 * (h.2.2.2.1.length : Int)) < 0 := by omega
    have h2 : ¬ (1 + 3 * ((newBench h).1.1.2.2.2.1.length : Int)) < 0 := by omega
    simp only [hn, f_toHeap h hs, f_spec_NewBench h hs, f_impl_NewBench h hs, f_eqBench _ hb, f_eqHeap h hs, f_markHeap h hs, f_markBench _ hb, Option.bind_some, decide_false, cond_false, Bool.not_true, beq_self_eq_true, h1]
    rw [f_heldBench _ (newBench h).1.1.2.2.2.1 hb rfl]
    simp only [h2, Option.bind_some, decide_false, decide_true, cond_false, Bool.not_true]

def noConsole : D_Console := (noBench, ((([] : List UInt8), (([] : List UInt8), (0, ()))), ()))
def newConsole (b : D_Bench) : D_Console × Bool × Unit := if okBench b then ((b, ((([] : List UInt8), (([] : List UInt8), (0, ()))), ())), true, ()) else (noConsole, false, ())

theorem newConsole_small (b : D_Bench) (hl : Small b.1.2.2.2.1) : Small (newConsole b).1.1.1.2.2.2.1 := by
  unfold newConsole
  split
  · exact hl
  · exact small_nil

theorem f_spec_NewConsole (b : D_Bench) (hl : Small b.1.2.2.2.1) : P_spec_NewConsole (b, ()) = some (newConsole b) := by
  rw [p_spec_NewConsole, f_spec_l12Good _ hl]
  unfold newConsole
  cases ho : okBench b
  · simp [noConsole, noBench]
  · simp [f_spec_l12Own b hl]

theorem f_impl_NewConsole (b : D_Bench) (hl : Small b.1.2.2.2.1) : P_impl_NewConsole (b, ()) = some (newConsole b) := by
  rw [p_impl_NewConsole, f_impl_IsBench _ hl]
  unfold newConsole
  cases ho : okBench b
  · simp [noConsole, noBench]
  · simp [f_Bench_own b hl]

theorem f_eqConsole (c : D_Console) (hl : Small c.1.1.2.2.2.1) : P_laws_eqConsole (c, c, ()) = some (true, ()) := by
  rw [p_laws_eqConsole, f_eqBench _ hl, p_laws_eqLog]; simp

theorem f_markConsole (c : D_Console) (hl : Small c.1.1.2.2.2.1) : P_laws_markConsole (c, 1, ()) = some ((1 + 3 * (c.1.1.2.2.2.1.length : Int), ()), ((((0, 0, 0, marked c.1.1.2.2.2.1 1, ()), 0, 0, ()), (([], [], 0, ()), ())), ())) := by
  rw [p_laws_markConsole, f_markBench _ hl]; rfl

theorem f_heldConsole (c : D_Console) (l : List D_A3) (hl : Small l) (hh : c.1.1.2.2.2.1 = marked l 1) : P_laws_heldConsole (c, 1, ()) = some (1 + 3 * (l.length : Int), ()) := by
  rw [p_laws_heldConsole, f_heldBench _ l hl hh]
  have : ¬ (1 + 3 * (l.length : Int)) < 0 := by omega
  simp [this]

theorem law_NewConsole (b : D_Bench) (hl : b.1.2.2.2.1.length ≤ 9223372036854775807) : P_laws_FnExactNewConsole (b, ()) = some (true, ()) := by
  obtain ⟨z, hz, _, hor⟩ := f_szBench b 1048576 (by omega) (by omega) hl
  rw [p_laws_FnExactNewConsole, hz]
  simp only [Option.bind_some]
  by_cases hn : z < 0
  · simp [hn]
  · have hs := hor.resolve_left hn
    have hb := newConsole_small b hs
    have h1 : ¬ (1 + 3 * (b.1.2.2.2.1.length : Int)) < 0 := by omega
    have h2 : ¬ (1 + 3 * ((newConsole b).1.1.1.2.2.2.1.length : Int)) < 0 := by omega
    simp only [hn, f_toBench b hs, f_spec_NewConsole b hs, f_impl_NewConsole b hs, f_eqConsole _ hb, f_eqBench b hs, f_markBench b hs, f_markConsole _ hb, Option.bind_some, decide_false, cond_false, Bool.not_true, beq_self_eq_true, h1]
    rw [f_heldConsole _ (newConsole b).1.1.1.2.2.2.1 hb rfl]
    simp only [h2, Option.bind_some, decide_false, decide_true, cond_false, Bool.not_true]
end Go.VI
