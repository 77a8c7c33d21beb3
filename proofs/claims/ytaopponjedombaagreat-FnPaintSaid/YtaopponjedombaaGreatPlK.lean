/- Plain: counts of painted cubes. -/
import Derived.Test.YtaopponjedombaaGreatPlJ
namespace Go.VI
open Go.Proofs

def sel7 (n : Int) (a : D_A7) : Int := (bif decide (n = (0 : Int)) then a.1 else (bif decide (n = (1 : Int)) then a.2.1 else (bif decide (n = (2 : Int)) then a.2.2.1 else (bif decide (n = (3 : Int)) then a.2.2.2.1 else (bif decide (n = (4 : Int)) then a.2.2.2.2.1 else (bif decide (n = (5 : Int)) then a.2.2.2.2.2.1 else a.2.2.2.2.2.2.1))))))

def bump (n : Int) (a : D_A7) : D_A7 :=
  ((bif decide (n = (0 : Int)) then IntKind.wrap .i64 (sel7 n a + 1) else a.1),
   (bif decide (n = (1 : Int)) then IntKind.wrap .i64 (sel7 n a + 1) else a.2.1),
   (bif decide (n = (2 : Int)) then IntKind.wrap .i64 (sel7 n a + 1) else a.2.2.1),
   (bif decide (n = (3 : Int)) then IntKind.wrap .i64 (sel7 n a + 1) else a.2.2.2.1),
   (bif decide (n = (4 : Int)) then IntKind.wrap .i64 (sel7 n a + 1) else a.2.2.2.2.1),
   (bif decide (n = (5 : Int)) then IntKind.wrap .i64 (sel7 n a + 1) else a.2.2.2.2.2.1),
   (bif decide (n = (6 : Int)) then IntKind.wrap .i64 (sel7 n a + 1) else a.2.2.2.2.2.2.1), ())

theorem inB7 (l q : List D_A3) (c : D_A3) : inB (painted l q c : Int) 7 = true := by
  have := painted_le l q c
  simp [inB]; omega

theorem l_counts {X Y Z X' Y' Z' : Int} {l q : List D_A3} (hs : sides X Y Z = true) (hl : Small l) (hi : Ins X Y Z l) (hq : Small q) : ∀ (d i m : Nat) (a : D_A7), l.length = i + d → d < m →
    l_spec_l11Counts_3 m X Y Z l 0 0 0 0 0 0 0 a.1 a.2.1 a.2.2.1 a.2.2.2.1 a.2.2.2.2.1 a.2.2.2.2.2.1 a.2.2.2.2.2.2.1 X' Y' Z' q (i : Int) = some ((l.drop i).foldl (fun a c => bump (painted l q c : Int) a) a, ())
  | d, i, 0, a, hk, hm => by omega
  | d, i, m + 1, a, hk, hm => by
    have hl' := hl
    unfold Small at hl'
    rw [q_spec_l11Counts_3]
    by_cases hlt : i < l.length
    · rw [ltT hlt, inB_at hlt, nthA (t := T_A3) hlt, drop_at l i hlt, succI i (by omega)]
      simp only [cond_true]
      rw [f_specPainted hl hq _ (near_of hs (hi _ (List.getElem_mem hlt)))]
      simp only [Option.bind_some]
      rw [inB7]
      simp only [cond_true, List.foldl_cons]
      exact l_counts hs hl hi hq (d - 1) (i + 1) m (bump (painted l q l[i] : Int) a) (by omega) (by omega)
    · rw [ltF hlt, List.drop_eq_nil_of_le (by omega)]
      rfl

theorem l_paintCounts (ns : List Int) (hn : ∀ n ∈ ns, 0 ≤ n ∧ n ≤ 6) (hl : Small ns) : ∀ (d i m : Nat) (a : D_A7), ns.length = i + d → d < m →
    l_impl_PaintCounts_5 m 0 0 0 0 0 0 0 a.1 a.2.1 a.2.2.1 a.2.2.2.1 a.2.2.2.2.1 a.2.2.2.2.2.1 a.2.2.2.2.2.2.1 ns (ns.length : Int) (i : Int) = some ((ns.drop i).foldl (fun a n => bump n a) a, true, ())
  | d, i, 0, a, hk, hm => by omega
  | d, i, m + 1, a, hk, hm => by
    have hl' := hl
    unfold Small at hl'
    rw [q_impl_PaintCounts_5]
    by_cases hlt : i < ns.length
    · have hb := hn _ (List.getElem_mem hlt)
      rw [ltT hlt, inB_at hlt, nthA (t := .int .i64) hlt, drop_at ns i hlt, succI i (by omega), show inB ns[i] 7 = true by simp [inB]; omega]
      simp only [cond_true, List.foldl_cons]
      exact l_paintCounts ns hn hl (d - 1) (i + 1) m (bump ns[i] a) (by omega) (by omega)
    · rw [ltF hlt, List.drop_eq_nil_of_le (by omega)]
      rfl

def counts (l q : List D_A3) : D_A7 := l.foldl (fun a c => bump (painted l q c : Int) a) (0, 0, 0, 0, 0, 0, 0, ())

theorem f_counts {X Y Z : Int} {l : List D_A3} (hs : sides X Y Z = true) (hl : Small l) (hi : Ins X Y Z l) : P_spec_l11Counts ((X, Y, Z, l, ()), false, ()) = some (counts l [], ()) := by
  have := l_counts (X' := X) (Y' := Y) (Z' := Z) (q := []) hs hl hi (by unfold Small; simp) l.length 0 N (0, 0, 0, 0, 0, 0, 0, ()) (by simp) (by unfold Small at hl; have := N_ge; omega)
  rw [p_spec_l11Counts, p_spec_l11Hidden, p_spec_l2Empty]
  exact this

theorem f_PaintCounts {X Y Z : Int} {l : List D_A3} (hs : sides X Y Z = true) (hl : Small l) (hi : Ins X Y Z l) (hr : Srt l) : P_impl_PaintCounts ((X, Y, Z, l, ()), false, ()) = some (counts l [], true, ()) := by
  have hok : okHeap ((X, Y, Z, l, ()) : D_Heap) = true := okHeap_iff.2 ⟨hs, hi, hr⟩
  rw [p_impl_PaintCounts, f_impl_IsHeap _ hl, hok, f_painted hs hl hi]
  simp only [Option.bind_some, Bool.not_true, cond_false]
  have := l_paintCounts (l.map fun c => (painted l [] c : Int)) (by
    intro n hn
    obtain ⟨c, _, rfl⟩ := List.mem_map.1 hn
    have := painted_le l [] c
    omega) (by unfold Small at *; simpa using hl) l.length 0 N (0, 0, 0, 0, 0, 0, 0, ()) (by simp) (by unfold Small at hl; have := N_ge; omega)
  rw [show counts l [] = (l.map fun c => (painted l [] c : Int)).foldl (fun a n => bump n a) (0, 0, 0, 0, 0, 0, 0, ()) by rw [List.foldl_map]; rfl]
  exact this

def fullCountsV (X Y Z : Int) : D_A7 × Bool × Unit := if sides X Y Z then (counts (allCells X Y Z) [], true, ()) else ((0, 0, 0, 0, 0, 0, 0, ()), false, ())

theorem f_spec_FullCounts (X Y Z : Int) : P_spec_FullCounts (X, Y, Z, ()) = some (fullCountsV X Y Z) := by
  rw [p_spec_FullCounts, f_spec_l2Sides]
  unfold fullCountsV
  cases hs : sides X Y Z with
  | false => rfl
  | true =>
    obtain ⟨h1, h2, h3⟩ := allCells_ok hs
    simp only [Option.bind_some, Bool.not_true, cond_false]
    rw [f_l2Box hs]
    simp only [Option.bind_some]
    rw [f_counts hs h1 h2]
    rfl

theorem f_impl_FullCounts (X Y Z : Int) : P_impl_FullCounts (X, Y, Z, ()) = some (fullCountsV X Y Z) := by
  rw [p_impl_FullCounts, f_FullHeap]
  unfold fullCountsV
  cases hs : sides X Y Z with
  | false => rfl
  | true =>
    obtain ⟨h1, h2, h3⟩ := allCells_ok hs
    simp only [Option.bind_some, Bool.not_true, cond_false, if_true]
    rw [f_PaintCounts hs h1 h2 h3]
    rfl

end Go.VI
