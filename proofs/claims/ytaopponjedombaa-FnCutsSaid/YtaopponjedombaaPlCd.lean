/- Plain: cuts that are drawn. -/
import Derived.Test.YtaopponjedombaaPlCb
import Derived.Test.YtaopponjedombaaPlO
import Derived.Test.YtaopponjedombaaPlM
import Derived.Test.YtaopponjedombaaPlA
namespace Go.VI
open Go.Proofs

theorem f_directionC {C : List Int} (hC : Bts C) {n : Nat} {s : Sd} (h : At (n + 4) s) : ∃ (x : Int) (s' : Sd), P_l1Cur_direction ((C, s), ()) = some ((x, ()), ((C, s'), ())) ∧ At n s' := f_direction hC h

theorem f_cut {C : List Int} (hC : Bts C) {n : Nat} {s : Sd} (h : At (n + 8) s) (g : D_Heap) : ∃ (d k : Int) (s' : Sd), P_l1Cur_cut ((C, s), g, ()) = some ((d, k, ()), ((C, s'), ())) ∧ At n s' := by
  obtain ⟨d, s1, e1, a1⟩ := f_directionC hC (n := n + 4) h
  rw [p_l1Cur_cut, e1]
  simp only [Option.bind_some]
  rw [f_spec_l1In]
  simp only [Option.bind_some]
  cases hd : decide (0 ≤ d) && decide (d ≤ 2) with
  | false =>
    obtain ⟨k, s2, e2, a2, _⟩ := f_among hC (n := n) (a1.le (by omega)) [0, 1, 4, (-1)] (by decide)
    simp only [Bool.not_false, cond_true]
    rw [e2]
    exact ⟨_, _, _, rfl, a2⟩
  | true =>
    simp only [Bool.and_eq_true, decide_eq_true_eq] at hd
    obtain ⟨b, s2, e2, a2⟩ := f_one hC (n := n + 2) a1 16
    simp only [Bool.not_true, cond_false]
    rw [e2]
    simp only [Option.bind_some]
    cases b with
    | true =>
      obtain ⟨k, s3, e3, a3, _⟩ := f_among hC (n := n) a2 [0, 1, 4, (-1)] (by decide)
      simp only [cond_true]
      rw [e3]
      exact ⟨_, _, _, rfl, a3⟩
    | false =>
      simp only [cond_false]
      rw [p_spec_l2Long, inB_dir hd.1 hd.2]
      simp only [cond_true, Option.bind_some]
      obtain ⟨u, eu⟩ := f_least (bif decide (d = (0 : Int)) then g.1 else (bif decide (d = (1 : Int)) then g.2.1 else g.2.2.1)) 4
      obtain ⟨v, ev⟩ := f_most 1 u
      obtain ⟨w, ew⟩ := f_most (IntKind.wrap .i64 (v - 1)) 1
      obtain ⟨p, s3, e3, a3, _⟩ := f_pick hC (n := n) a2 w
      rw [p_spec_l2Fit, eu]
      simp only [Option.bind_some]
      rw [ev]
      simp only [Option.bind_some]
      rw [ew]
      simp only [Option.bind_some]
      rw [e3]
      exact ⟨_, _, _, rfl, a3⟩

theorem d_CutHeap {C : List Int} (hC : Bts C) : ∃ (g : D_Heap) (d k : Int), P_spec_DrawCutHeap (C, ()) = some (g, d, k, ()) ∧ g.2.2.2.1.length ≤ 65 := by
  obtain ⟨g, s1, e1, a1, hg⟩ := f_hollow hC (n := 1000) (at0 _ (by omega))
  obtain ⟨d, k, s2, e2, a2⟩ := f_cut hC (n := 992) a1 g
  rw [p_spec_DrawCutHeap, e1]
  simp only [Option.bind_some]
  rw [e2]
  exact ⟨_, _, _, rfl, hg⟩

theorem l_dpa {C : List Int} (hC : Bts C) (g : D_Heap) (q0 q1 q2 : Int) (q3 : List D_A3) : ∀ (k m : Nat) (s : Sd) (l : List D_A2), k < m → l.length + k ≤ 1000 → At (8 * k) s →
    ∃ l' : List D_A2, l_spec_DrawPiecesAfter_4 m q0 q1 q2 q3 g.1 g.2.1 g.2.2.1 g.2.2.2.1 C s.1 s.2.1 l (k : Int) = some (g, l', ())
  | k, 0, s, l, h, _, _ => by omega
  | 0, m + 1, s, l, hm, hl, ha => by
    rw [q_spec_DrawPiecesAfter_4, decide_eq_false (by omega)]
    exact ⟨l, rfl⟩
  | k + 1, m + 1, s, l, hm, hl, ha => by
    obtain ⟨d, c, s1, e1, a1⟩ := f_cut hC (n := 8 * k) (s := s) (ha.le (by omega)) g
    have e1' : P_l1Cur_cut ((C, (s.1, (s.2.1, ()))), (g.1, (g.2.1, (g.2.2.1, (g.2.2.2.1, ())))), ()) = _ := e1
    have hk1 : IntKind.wrap .i64 (((k + 1 : Nat) : Int) - 1) = (k : Int) := by rw [w64 (by omega) (by omega)]; omega
    rw [q_spec_DrawPiecesAfter_4, decide_eq_true (by omega), e1', hk1]
    simp only [cond_true, Option.bind_some]
    rw [decide_eq_true (p := (l.length + ([(d, (c, ()))] : List D_A2).length) * 16 ≤ 140737488355328) (by simp only [List.length_singleton]; omega), decide_eq_true (p := l.length + ([(d, (c, ()))] : List D_A2).length ≤ 140737488355328) (by simp only [List.length_singleton]; omega)]
    simp only [Bool.and_self, cond_true]
    exact l_dpa hC g q0 q1 q2 q3 k m s1 _ (by omega) (by simp; omega) a1

theorem d_Pieces {C : List Int} (hC : Bts C) : ∃ (g : D_Heap) (l : List D_A2), P_spec_DrawPiecesAfter (C, ()) = some (g, l, ()) ∧ Small g.2.2.2.1 := by
  obtain ⟨g, s1, e1, a1, hg⟩ := f_hollow hC (n := 1000) (at0 _ (by omega))
  obtain ⟨x, s2, e2, a2, mx⟩ := f_among hC (n := 998) a1 [2, 1, 3, 0, 5, 13] (by decide)
  rw [p_spec_DrawPiecesAfter, e1]
  simp only [Option.bind_some]
  rw [e2]
  simp only [Option.bind_some]
  have hx : 0 ≤ x ∧ x ≤ 13 := by
    simp only [List.mem_cons, List.not_mem_nil, or_false] at mx
    omega
  obtain ⟨k, rfl⟩ : ∃ k : Nat, x = (k : Int) := ⟨x.toNat, by omega⟩
  obtain ⟨l', e3⟩ := l_dpa hC g 0 0 0 [] k N s2 [] (by have := N_ge; omega) (by simp; omega) (a2.le (by omega))
  rw [e3]
  exact ⟨_, _, rfl, by unfold Small; omega⟩

theorem cutV_len (h : D_Heap) (d k : Int) (hl : h.2.2.2.1.length ≤ 65) : (cutV h d k).1.2.2.2.1.length ≤ 65 ∧ (cutV h d k).2.1.2.2.2.1.length ≤ 65 := by
  unfold cutV
  split
  · refine ⟨Nat.le_trans (List.length_filter_le _ _) hl, ?_⟩
    show ((h.2.2.2.1.filter fun c => !decide (get3 c d < k)).map (sh d (-k))).length ≤ 65
    rw [List.length_map]
    exact Nat.le_trans (List.length_filter_le _ _) hl
  · simp [noHeap]

theorem d_Glue {C : List Int} (hC : Bts C) : ∃ (a b : D_Heap) (d : Int), P_spec_DrawGlueHeaps (C, ()) = some (a, b, d, ()) ∧ a.2.2.2.1.length ≤ 65 ∧ b.2.2.2.1.length ≤ 65 := by
  obtain ⟨g, d, k, e1, hg⟩ := d_CutHeap hC
  have hsg : Small g.2.2.2.1 := by unfold Small; omega
  have hcl := cutV_len g d k hg
  rw [p_spec_DrawGlueHeaps, e1]
  simp only [Option.bind_some]
  rw [f_spec_CutHeap g hsg]
  simp only [Option.bind_some]
  cases (cutV g d k).2.2.1 with
  | false =>
    obtain ⟨h, s2, e2, a2, hh⟩ := f_heap hC (n := 1000) (at0 _ (by omega))
    simp only [cond_false]
    rw [e2]
    exact ⟨_, _, _, rfl, hg, hh⟩
  | true =>
    obtain ⟨b, s2, e2, a2⟩ := f_one hC (n := 1000) (at0 _ (by omega)) 4
    simp only [cond_true]
    rw [e2]
    simp only [Option.bind_some]
    cases b with
    | true =>
      obtain ⟨h, s3, e3, a3, hh⟩ := f_heap hC (n := 800) (a2.le (by omega))
      simp only [Bool.not_true, cond_false]
      rw [e3]
      exact ⟨_, _, _, rfl, hg, hh⟩
    | false =>
      obtain ⟨c, s3, e3, a3⟩ := f_one hC (n := 998) a2 3
      simp only [Bool.not_false, cond_true]
      rw [e3]
      simp only [Option.bind_some]
      cases c with
      | true => exact ⟨_, _, _, rfl, hcl.2, hcl.1⟩
      | false => exact ⟨_, _, _, rfl, hcl.1, hcl.2⟩
end Go.VI
/- Plain: what is glued. -/
namespace Go.VI
open Go.Proofs

/-- Two heaps can be glued. -/
def CanGlue (a b : D_Heap) (d : Int) : Prop := okHeap a = true ∧ okHeap b = true ∧ (0 ≤ d ∧ d ≤ 2) ∧ ∀ j, 0 ≤ j → j ≤ 2 → j = d ∨ side3 a.1 a.2.1 a.2.2.1 j = side3 b.1 b.2.1 b.2.2.1 j

def Glued (a b : D_Heap) (d : Int) (r : D_Heap × Bool × Unit) : Prop :=
  (CanGlue a b d ∧ ∃ out, r = glueOut (boxWith a.1 a.2.1 a.2.2.1 d (side3 a.1 a.2.1 a.2.2.1 d + side3 b.1 b.2.1 b.2.2.1 d) []).1 (boxWith a.1 a.2.1 a.2.2.1 d (side3 a.1 a.2.1 a.2.2.1 d + side3 b.1 b.2.1 b.2.2.1 d) []).2.1 (boxWith a.1 a.2.1 a.2.2.1 d (side3 a.1 a.2.1 a.2.2.1 d + side3 b.1 b.2.1 b.2.2.1 d) []).2.2.1 out ∧ Srt out ∧ ∀ c, c ∈ out ↔ c ∈ a.2.2.2.1 ++ b.2.2.2.1.map (sh d (side3 a.1 a.2.1 a.2.2.1 d))) ∨ (¬ CanGlue a b d ∧ r = (noHeap, false, ()))

theorem glue_full (a b : D_Heap) (d : Int) (hla : Small a.2.2.2.1) (hlb : Small b.2.2.2.1) (hsum : a.2.2.2.1.length + b.2.2.2.1.length ≤ 1048576) : ∃ r : D_Heap × Bool × Unit, P_spec_GlueHeaps (a, b, d, ()) = some r ∧ P_impl_GlueHeaps (a, b, d, ()) = some r ∧ Small r.1.2.2.2.1 ∧ Glued a b d r := by
  have hno : Small noHeap.2.2.2.1 := by unfold Small noHeap; simp
  rw [p_spec_GlueHeaps, p_impl_GlueHeaps, f_spec_l2Heap _ hla, f_spec_l2Heap _ hlb, f_impl_IsHeap _ hla, f_impl_IsHeap _ hlb, p_impl_isDirection, f_impl_within, f_spec_l1In]
  cases oa : okHeap a with
  | false => exact ⟨_, rfl, rfl, hno, .inr ⟨fun g => (by have := g.1; rw [oa] at this; cases this), rfl⟩⟩
  | true =>
    cases ob : okHeap b with
    | false => exact ⟨_, rfl, rfl, hno, .inr ⟨fun g => (by have := g.2.1; rw [ob] at this; cases this), rfl⟩⟩
    | true =>
      obtain ⟨sa, ia, ra⟩ := okHeap_iff.1 oa
      obtain ⟨sb, ib, rb⟩ := okHeap_iff.1 ob
      cases od : (decide (0 ≤ d) && decide (d ≤ 2)) with
      | false => simp only [Option.bind_some, Bool.not_true, cond_false, od]; exact ⟨_, rfl, rfl, hno, .inr ⟨fun g => (by simp [g.2.2.1.1, g.2.2.1.2] at od), rfl⟩⟩
      | true =>
        have hd : 0 ≤ d ∧ d ≤ 2 := by simpa using od
        obtain ⟨d0, d1⟩ := hd
        have hN := N_ge
        have h4 := side3_ok sa d
        have h4' := side3_ok sb d
        obtain ⟨a1, a2, a3⟩ := sides_iff.1 sa
        obtain ⟨b1, b2, b3⟩ := sides_iff.1 sb
        have ba : P_Heap_box (a, ()) = some ((a.1, a.2.1, a.2.2.1, ()), ()) := f_Heap_box _
        have bb : P_Heap_box (b, ()) = some ((b.1, b.2.1, b.2.2.1, ()), ()) := f_Heap_box _
        simp only [Option.bind_some, Bool.not_true, cond_false, od, ba, bb, inB_dir d0 d1, cond_true]
        have hspec : l_spec_GlueHeaps_4 N a.1 a.2.1 a.2.2.1 a.2.2.2.1 b.1 b.2.1 b.2.2.1 b.2.2.2.1 0 0 0 [] d 0 = if 0 = d ∨ side3 a.1 a.2.1 a.2.2.1 0 = side3 b.1 b.2.1 b.2.2.1 0 then (if 1 = d ∨ side3 a.1 a.2.1 a.2.2.1 1 = side3 b.1 b.2.1 b.2.2.1 1 then (if 2 = d ∨ side3 a.1 a.2.1 a.2.2.1 2 = side3 b.1 b.2.1 b.2.2.1 2 then l_spec_GlueHeaps_4 (N - 4 + 1) a.1 a.2.1 a.2.2.1 a.2.2.2.1 b.1 b.2.1 b.2.2.1 b.2.2.2.1 0 0 0 [] d 3 else some (noHeap, false, ())) else some (noHeap, false, ())) else some (noHeap, false, ()) := by
          have t0 := l_step4 (A := a.1) (B := a.2.1) (C := a.2.2.1) (A' := b.1) (B' := b.2.1) (C' := b.2.2.1) (d := d) (la := a.2.2.2.1) (lb := b.2.2.2.1) (N - 4 + 3) (j := 0) (by omega) (by omega)
          have t1 := l_step4 (A := a.1) (B := a.2.1) (C := a.2.2.1) (A' := b.1) (B' := b.2.1) (C' := b.2.2.1) (d := d) (la := a.2.2.2.1) (lb := b.2.2.2.1) (N - 4 + 2) (j := 1) (by omega) (by omega)
          have t2 := l_step4 (A := a.1) (B := a.2.1) (C := a.2.2.1) (A' := b.1) (B' := b.2.1) (C' := b.2.2.1) (d := d) (la := a.2.2.2.1) (lb := b.2.2.2.1) (N - 4 + 1) (j := 2) (by omega) (by omega)
          rw [N_eq, t0, show (0 : Int) + 1 = 1 from rfl, t1, show (1 : Int) + 1 = 2 from rfl, t2, show (2 : Int) + 1 = 3 from rfl, show N - 4 + 4 - 4 + 1 = N - 4 + 1 by omega]
        rw [hspec]
        by_cases hall : ∀ j, 0 ≤ j → j ≤ 2 → j = d ∨ side3 a.1 a.2.1 a.2.2.1 j = side3 b.1 b.2.1 b.2.2.1 j
        · have hin := glue_box sa sb d0 d1 ia ib hall
          obtain ⟨out, r1, m1, n1, q1⟩ := specTail (la := a.2.2.2.1) (lb := b.2.2.2.1) sa sb d0 d1 hla hlb hsum ib (N - 4) rfl rfl rfl (fun _ => hin)
          rw [if_pos (hall 0 (by omega) (by omega)), if_pos (hall 1 (by omega) (by omega)), if_pos (hall 2 (by omega) (by omega)), q1]
          refine ⟨_, rfl, ?_, glueOut_noHeap_small _ _ _ n1, .inl ⟨⟨oa, ob, ⟨d0, d1⟩, hall⟩, out, rfl, r1, m1⟩⟩
          have himpl : ∀ S1 S2 S3 : Int, S1 = (boxWith a.1 a.2.1 a.2.2.1 d (side3 a.1 a.2.1 a.2.2.1 d + side3 b.1 b.2.1 b.2.2.1 d) []).1 → S2 = (boxWith a.1 a.2.1 a.2.2.1 d (side3 a.1 a.2.1 a.2.2.1 d + side3 b.1 b.2.1 b.2.2.1 d) []).2.1 → S3 = (boxWith a.1 a.2.1 a.2.2.1 d (side3 a.1 a.2.1 a.2.2.1 d + side3 b.1 b.2.1 b.2.2.1 d) []).2.2.1 →
              (Option.bind (P_box_valid ((S1, (S2, (S3, ()))), ())) fun r18 => bif !r18.1 then some (noHeap, false, ()) else l_impl_GlueHeaps_10 N a.1 a.2.1 a.2.2.1 a.2.2.2.1 b.1 b.2.1 b.2.2.1 b.2.2.2.1 0 0 0 [] S1 S2 S3 d 0 a.2.2.2.1 (a.2.2.2.1.length : Int) 0) = some (glueOut S1 S2 S3 out) := by
            rintro S1 S2 S3 rfl rfl rfl
            rw [f_box_valid]
            unfold glueOut
            simp only [Option.bind_some]
            cases hS : sides (boxWith a.1 a.2.1 a.2.2.1 d (side3 a.1 a.2.1 a.2.2.1 d + side3 b.1 b.2.1 b.2.2.1 d) []).1 (boxWith a.1 a.2.1 a.2.2.1 d (side3 a.1 a.2.1 a.2.2.1 d + side3 b.1 b.2.1 b.2.2.1 d) []).2.1 (boxWith a.1 a.2.1 a.2.2.1 d (side3 a.1 a.2.1 a.2.2.1 d + side3 b.1 b.2.1 b.2.2.1 d) []).2.2.1 with
            | false => rfl
            | true =>
              have ht := implTail (A' := b.1) (B' := b.2.1) (C' := b.2.2.1) hS sa sb d0 d1 hla hlb ib hin
              rw [show bitCells _ _ _ _ = out from srt_ext _ _ (srt_listOf hS _) r1 fun c => ?_] at ht
              · exact ht
              · rw [mem_listOf hS, m1]
                constructor
                · rintro ⟨w1, w2⟩
                  rw [mask_mem hS hin w1] at w2
                  simpa using w2
                · intro hc
                  have w1 := hin c hc
                  refine ⟨w1, ?_⟩
                  rw [mask_mem hS hin w1]
                  exact decide_eq_true hc
          have e0 := hall 0 (by omega) (by omega)
          have e1 := hall 1 (by omega) (by omega)
          have e2 := hall 2 (by omega) (by omega)
          rw [p_impl_others]
          rcases dir d0 d1 with rfl | rfl | rfl
          · have x1 : a.2.1 = b.2.1 := by simpa [side3] using e1
            have x2 : a.2.2.1 = b.2.2.1 := by simpa [side3] using e2
            have := himpl (a.1 + b.1) a.2.1 a.2.2.1 rfl rfl rfl
            simp only [decide_true, cond_true, Option.bind_some, inB_dir (d := 1) (by omega) (by omega), inB_dir (d := 2) (by omega) (by omega), show decide ((1 : Int) = 0) = false by decide, show decide ((0 : Int) = 1) = false by decide, show decide ((0 : Int) = 2) = false by decide, show decide ((2 : Int) = 0) = false by decide, show decide ((2 : Int) = 1) = false by decide, cond_false]
            rw [decide_eq_true x1, decide_eq_true x2, w64 (x := a.1 + b.1) (by omega) (by omega)]
            exact this
          · have x1 : a.1 = b.1 := by simpa [side3] using e0
            have x2 : a.2.2.1 = b.2.2.1 := by simpa [side3] using e2
            have := himpl a.1 (a.2.1 + b.2.1) a.2.2.1 rfl rfl rfl
            simp only [decide_true, cond_true, Option.bind_some, inB_dir (d := 0) (by omega) (by omega), inB_dir (d := 2) (by omega) (by omega), show decide ((1 : Int) = 0) = false by decide, show decide ((1 : Int) = 2) = false by decide, show decide ((0 : Int) = 1) = false by decide, show decide ((0 : Int) = 2) = false by decide, show decide ((2 : Int) = 0) = false by decide, show decide ((2 : Int) = 1) = false by decide, cond_false]
            rw [decide_eq_true x1, decide_eq_true x2, w64 (x := a.2.1 + b.2.1) (by omega) (by omega)]
            exact this
          · have x1 : a.1 = b.1 := by simpa [side3] using e0
            have x2 : a.2.1 = b.2.1 := by simpa [side3] using e1
            have := himpl a.1 a.2.1 (a.2.2.1 + b.2.2.1) rfl rfl rfl
            simp only [decide_true, cond_true, Option.bind_some, inB_dir (d := 0) (by omega) (by omega), inB_dir (d := 1) (by omega) (by omega), show decide ((1 : Int) = 0) = false by decide, show decide ((1 : Int) = 2) = false by decide, show decide ((0 : Int) = 1) = false by decide, show decide ((0 : Int) = 2) = false by decide, show decide ((2 : Int) = 0) = false by decide, show decide ((2 : Int) = 1) = false by decide, cond_false]
            rw [decide_eq_true x1, decide_eq_true x2, w64 (x := a.2.2.1 + b.2.2.1) (by omega) (by omega)]
            exact this
        · refine ⟨(noHeap, false, ()), ?_, ?_, hno, .inr ⟨fun g => hall g.2.2.2, rfl⟩⟩
          · by_cases c0 : 0 = d ∨ side3 a.1 a.2.1 a.2.2.1 0 = side3 b.1 b.2.1 b.2.2.1 0
            · by_cases c1 : 1 = d ∨ side3 a.1 a.2.1 a.2.2.1 1 = side3 b.1 b.2.1 b.2.2.1 1
              · by_cases c2 : 2 = d ∨ side3 a.1 a.2.1 a.2.2.1 2 = side3 b.1 b.2.1 b.2.2.1 2
                · exfalso
                  apply hall
                  intro j j0 j1
                  rcases dir j0 j1 with rfl | rfl | rfl
                  · exact c0
                  · exact c1
                  · exact c2
                · rw [if_pos c0, if_pos c1, if_neg c2]
              · rw [if_pos c0, if_neg c1]
            · rw [if_neg c0]
          · rw [p_impl_others]
            have hnot : ¬ ((0 = d ∨ a.1 = b.1) ∧ (1 = d ∨ a.2.1 = b.2.1) ∧ (2 = d ∨ a.2.2.1 = b.2.2.1)) := by
              rintro ⟨c0, c1, c2⟩
              apply hall
              intro j j0 j1
              rcases dir j0 j1 with rfl | rfl | rfl
              · exact c0
              · exact c1
              · exact c2
            rcases dir d0 d1 with rfl | rfl | rfl
            · simp only [decide_true, cond_true, Option.bind_some, inB_dir (d := 1) (by omega) (by omega), inB_dir (d := 2) (by omega) (by omega), show decide ((1 : Int) = 0) = false by decide, show decide ((0 : Int) = 1) = false by decide, show decide ((0 : Int) = 2) = false by decide, show decide ((2 : Int) = 0) = false by decide, show decide ((2 : Int) = 1) = false by decide, cond_false]
              by_cases x1 : a.2.1 = b.2.1
              · have x2 : ¬ a.2.2.1 = b.2.2.1 := fun x2 => hnot ⟨.inl rfl, .inr x1, .inr x2⟩
                rw [decide_eq_true x1, decide_eq_false x2]; rfl
              · rw [decide_eq_false x1]; rfl
            · simp only [decide_true, cond_true, Option.bind_some, inB_dir (d := 0) (by omega) (by omega), inB_dir (d := 2) (by omega) (by omega), show decide ((1 : Int) = 0) = false by decide, show decide ((1 : Int) = 2) = false by decide, show decide ((0 : Int) = 1) = false by decide, show decide ((0 : Int) = 2) = false by decide, show decide ((2 : Int) = 0) = false by decide, show decide ((2 : Int) = 1) = false by decide, cond_false]
              by_cases x1 : a.1 = b.1
              · have x2 : ¬ a.2.2.1 = b.2.2.1 := fun x2 => hnot ⟨.inr x1, .inl rfl, .inr x2⟩
                rw [decide_eq_true x1, decide_eq_false x2]; rfl
              · rw [decide_eq_false x1]; rfl
            · simp only [decide_true, cond_true, Option.bind_some, inB_dir (d := 0) (by omega) (by omega), inB_dir (d := 1) (by omega) (by omega), show decide ((1 : Int) = 0) = false by decide, show decide ((1 : Int) = 2) = false by decide, show decide ((0 : Int) = 1) = false by decide, show decide ((0 : Int) = 2) = false by decide, show decide ((2 : Int) = 0) = false by decide, show decide ((2 : Int) = 1) = false by decide, cond_false]
              by_cases x1 : a.1 = b.1
              · have x2 : ¬ a.2.1 = b.2.1 := fun x2 => hnot ⟨.inr x1, .inr x2, .inl rfl⟩
                rw [decide_eq_true x1, decide_eq_false x2]; rfl
              · rw [decide_eq_false x1]; rfl

theorem glued_len {a b : D_Heap} {d : Int} {r : D_Heap × Bool × Unit} (h : Glued a b d r) (hr : r.2.1 = true) : r.1.2.2.2.1.length = a.2.2.2.1.length + b.2.2.2.1.length := by
  rcases h with ⟨⟨oa, ob, ⟨d0, d1⟩, _⟩, out, e, hs, hm⟩ | ⟨_, e⟩
  · have er : r.1.2.2.2.1 = out := by
      rw [e] at hr ⊢
      unfold glueOut at hr ⊢
      split
      · rfl
      · rename_i hn
        rw [if_neg hn] at hr
        cases hr
    rw [er]
    obtain ⟨sa, ia, ra⟩ := okHeap_iff.1 oa
    obtain ⟨sb, ib, rb⟩ := okHeap_iff.1 ob
    have hp : out.Perm (a.2.2.2.1 ++ b.2.2.2.1.map (sh d (side3 a.1 a.2.1 a.2.2.1 d))) := by
      refine (List.perm_ext_iff_of_nodup hs.nodup ?_).2 hm
      rw [List.nodup_append]
      refine ⟨ra.nodup, (srt_sh rb _ _).nodup, fun x hx y hy hxy => ?_⟩
      subst hxy
      obtain ⟨z, hz, rfl⟩ := List.mem_map.1 hy
      have h1 := within3_iff.1 (ia _ hx)
      have h2 := within3_iff.1 (ib z hz)
      rcases dir d0 d1 with rfl | rfl | rfl <;> simp [sh, side3] at h1 <;> omega
    rw [hp.length_eq, List.length_append, List.length_map]
  · rw [e] at hr
    cases hr

/-- What was cut is glued. -/
theorem cut_ok (h : D_Heap) (ho : okHeap h = true) {d k : Int} (hc : isCut h.1 h.2.1 h.2.2.1 d k = true) : okHeap (boxWith h.1 h.2.1 h.2.2.1 d k (lowOf h.2.2.2.1 d k)) = true ∧ okHeap (boxWith h.1 h.2.1 h.2.2.1 d (side3 h.1 h.2.1 h.2.2.1 d - k) (highOf h.2.2.2.1 d k)) = true := by
  obtain ⟨hs, hi, hr⟩ := okHeap_iff.1 ho
  obtain ⟨d0, d1, k0, k1⟩ := isCut_iff.1 hc
  have h4 := side3_ok hs d
  obtain ⟨s1, s2, s3⟩ := sides_iff.1 hs
  refine ⟨okHeap_iff.2 ⟨?_, fun c hc => ?_, hr.filter _⟩, okHeap_iff.2 ⟨?_, fun c hc => ?_, srt_sh (hr.filter _) _ _⟩⟩
  · rw [sides_iff]
    rcases dir d0 d1 with rfl | rfl | rfl <;> simp [boxWith] <;> omega
  · obtain ⟨hcl, hg⟩ := List.mem_filter.1 hc
    have hg := of_decide_eq_true hg
    have := within3_iff.1 (hi c hcl)
    rw [within3_iff]
    rcases dir d0 d1 with rfl | rfl | rfl <;> simp [boxWith, get3] at hg ⊢ <;> omega
  · rw [sides_iff]
    rcases dir d0 d1 with rfl | rfl | rfl <;> simp [boxWith] <;> omega
  · obtain ⟨a, ha, rfl⟩ := List.mem_map.1 hc
    obtain ⟨hal, hg⟩ := List.mem_filter.1 ha
    have hg : ¬ get3 a d < k := by simpa using hg
    have := within3_iff.1 (hi a hal)
    rw [within3_iff]
    rcases dir d0 d1 with rfl | rfl | rfl <;> simp [boxWith, get3, sh, side3] at hg ⊢ <;> omega

theorem high_back (l : List D_A3) (d k : Int) : (highOf l d k).map (sh d k) = l.filter fun c => !decide (get3 c d < k) := by
  unfold highOf
  rw [List.map_map]
  have : (sh d k ∘ sh d (-k)) = fun c => c := by
    funext c
    simp only [Function.comp]
    rw [sh_sh, Int.add_left_neg, sh_zero]
  rw [this, List.map_id']

theorem glue_cut (h : D_Heap) (hl : Small h.2.2.2.1) (ho : okHeap h = true) {d k : Int} (hc : isCut h.1 h.2.1 h.2.2.1 d k = true) : P_impl_GlueHeaps (boxWith h.1 h.2.1 h.2.2.1 d k (lowOf h.2.2.2.1 d k), boxWith h.1 h.2.1 h.2.2.1 d (side3 h.1 h.2.1 h.2.2.1 d - k) (highOf h.2.2.2.1 d k), d, ()) = some (h, true, ()) := by
  obtain ⟨hs, hi, hr⟩ := okHeap_iff.1 ho
  obtain ⟨d0, d1, k0, k1⟩ := isCut_iff.1 hc
  obtain ⟨hA, hB⟩ := cut_ok h ho hc
  have h64 := srt_small64 hs hi hr
  have e1 : (lowOf h.2.2.2.1 d k).length ≤ 64 := Nat.le_trans (List.length_filter_le _ _) h64
  have e2 : (highOf h.2.2.2.1 d k).length ≤ 64 := by
    unfold highOf
    rw [List.length_map]
    exact Nat.le_trans (List.length_filter_le _ _) h64
  generalize hAe : boxWith h.1 h.2.1 h.2.2.1 d k (lowOf h.2.2.2.1 d k) = A at hA ⊢
  generalize hBe : boxWith h.1 h.2.1 h.2.2.1 d (side3 h.1 h.2.1 h.2.2.1 d - k) (highOf h.2.2.2.1 d k) = B at hB ⊢
  have cA : A.2.2.2.1 = lowOf h.2.2.2.1 d k := by rw [← hAe]; rfl
  have cB : B.2.2.2.1 = highOf h.2.2.2.1 d k := by rw [← hBe]; rfl
  have sA : ∀ j, 0 ≤ j → j ≤ 2 → side3 A.1 A.2.1 A.2.2.1 j = if j = d then k else side3 h.1 h.2.1 h.2.2.1 j := by
    intro j j0 j1
    rw [← hAe]
    rcases dir d0 d1 with rfl | rfl | rfl <;> rcases dir j0 j1 with rfl | rfl | rfl <;> simp [boxWith, side3]
  have sB : ∀ j, 0 ≤ j → j ≤ 2 → side3 B.1 B.2.1 B.2.2.1 j = if j = d then side3 h.1 h.2.1 h.2.2.1 d - k else side3 h.1 h.2.1 h.2.2.1 j := by
    intro j j0 j1
    rw [← hBe]
    rcases dir d0 d1 with rfl | rfl | rfl <;> rcases dir j0 j1 with rfl | rfl | rfl <;> simp [boxWith, side3]
  obtain ⟨r, _, e3, _, e4⟩ := glue_full A B d (by rw [cA]; unfold Small; omega) (by rw [cB]; unfold Small; omega) (by rw [cA, cB]; omega)
  have hcan : CanGlue A B d := by
    refine ⟨hA, hB, ⟨d0, d1⟩, fun j j0 j1 => ?_⟩
    by_cases e : j = d
    · exact .inl e
    · rw [sA j j0 j1, sB j j0 j1, if_neg e, if_neg e]
      exact .inr rfl
  rcases e4 with ⟨_, out, e, hso, hm⟩ | ⟨hn, _⟩
  · rw [e3, e]
    rw [sA d d0 d1, if_pos rfl, cA, cB, high_back] at hm
    have hout : out = h.2.2.2.1 := by
      refine srt_ext _ _ hso hr fun c => ?_
      rw [hm, List.mem_append]
      show c ∈ lowOf h.2.2.2.1 d k ∨ _ ↔ _
      unfold lowOf
      rw [List.mem_filter, List.mem_filter]
      cases decide (get3 c d < k) <;> simp
    have hS : boxWith A.1 A.2.1 A.2.2.1 d (side3 A.1 A.2.1 A.2.2.1 d + side3 B.1 B.2.1 B.2.2.1 d) [] = ((h.1, h.2.1, h.2.2.1, [], ()) : D_Heap) := by
      rw [sA d d0 d1, sB d d0 d1, if_pos rfl, if_pos rfl, ← hAe]
      rcases dir d0 d1 with rfl | rfl | rfl <;> simp [boxWith, side3] <;> omega
    rw [hout, hS]
    unfold glueOut
    rw [if_pos hs]
  · exact absurd hcan hn
end Go.VI
/- Plain: what is enclosed, as the reference has it. -/
namespace Go.VI
open Go.Proofs

/-! ### The margin -/
def rowM (X Y Z x y : Int) : Nat → Int → List D_A3
  | 0, _ => []
  | d + 1, z => (if within3 X Y Z (x, y, z, ()) = true then [] else [(x, y, z, ())]) ++ rowM X Y Z x y d (z + 1)
def planeM (X Y Z x : Int) : Nat → Int → List D_A3
  | 0, _ => []
  | d + 1, y => rowM X Y Z x y (Z + 2).toNat (-1) ++ planeM X Y Z x d (y + 1)
def spaceM (X Y Z : Int) : Nat → Int → List D_A3
  | 0, _ => []
  | d + 1, x => planeM X Y Z x (Y + 2).toNat (-1) ++ spaceM X Y Z d (x + 1)
def margin (X Y Z : Int) : List D_A3 := spaceM X Y Z (X + 2).toNat (-1)

/-! ### The walk -/
end Go.VI
/- Plain: counts of painted cubes. -/
namespace Go.VI
open Go.Proofs

end Go.VI
/- Plain: the laws of painted faces. -/
namespace Go.VI
open Go.Proofs

/-! ### Counts -/
/-! ### Faces that are not painted -/
def sumP (l q : List D_A3) : List D_A3 → Int
  | [] => 0
  | c :: r => (painted l q c : Int) + sumP l q r

end Go.VI
/- Plain: bare faces, and those with the outside beyond them. -/
namespace Go.VI
open Go.Proofs

theorem sumP_bound (l q : List D_A3) : ∀ r : List D_A3, 0 ≤ sumP l q r ∧ sumP l q r ≤ 6 * r.length
  | [] => by simp [sumP]
  | c :: r => by
    have := sumP_bound l q r
    have := painted_le l q c
    simp only [sumP, List.length_cons]
    omega

/-! ### All bare faces -/
def sel6 (n : Int) (a : D_A6) : Int := (bif decide (n = (0 : Int)) then a.1 else (bif decide (n = (1 : Int)) then a.2.1 else (bif decide (n = (2 : Int)) then a.2.2.1 else (bif decide (n = (3 : Int)) then a.2.2.2.1 else (bif decide (n = (4 : Int)) then a.2.2.2.2.1 else a.2.2.2.2.2.1)))))
def up6 (n : Int) (a : D_A6) : D_A6 := ((bif decide (n = (0 : Int)) then IntKind.wrap .i64 (sel6 n a + 1) else a.1), (bif decide (n = (1 : Int)) then IntKind.wrap .i64 (sel6 n a + 1) else a.2.1), (bif decide (n = (2 : Int)) then IntKind.wrap .i64 (sel6 n a + 1) else a.2.2.1), (bif decide (n = (3 : Int)) then IntKind.wrap .i64 (sel6 n a + 1) else a.2.2.2.1), (bif decide (n = (4 : Int)) then IntKind.wrap .i64 (sel6 n a + 1) else a.2.2.2.2.1), (bif decide (n = (5 : Int)) then IntKind.wrap .i64 (sel6 n a + 1) else a.2.2.2.2.2.1), ())
def tot6 (a : D_A6) : Int := a.1 + a.2.1 + a.2.2.1 + a.2.2.2.1 + a.2.2.2.2.1 + a.2.2.2.2.2.1
def Pos6 (a : D_A6) : Prop := 0 ≤ a.1 ∧ 0 ≤ a.2.1 ∧ 0 ≤ a.2.2.1 ∧ 0 ≤ a.2.2.2.1 ∧ 0 ≤ a.2.2.2.2.1 ∧ 0 ≤ a.2.2.2.2.2.1

theorem up6_at (k : Nat) (hk : k < 6) (a : D_A6) (hp : Pos6 a) (ht : tot6 a ≤ 100000000) : Pos6 (up6 (k : Int) a) ∧ tot6 (up6 (k : Int) a) = tot6 a + 1 := by
  obtain ⟨a0, a1, a2, a3, a4, a5, ⟨⟩⟩ := a
  simp only [Pos6, tot6] at *
  rcases six hk with rfl | rfl | rfl | rfl | rfl | rfl <;> simp [up6, sel6] <;> (rw [w64 (by omega) (by omega)]; omega)

theorem l_bare6 {X Y Z : Int} {l : List D_A3} (hs : sides X Y Z = true) (hl : Small l) (hi : Ins X Y Z l) (c : D_A3) (hc : Near c) (m0 : Nat) (i : Nat) (hli : i < 1048576) : ∀ (d k m : Nat) (a : D_A6), k + d = 6 → d < m → Pos6 a → tot6 a + d ≤ 100000000 →
    ∃ a' : D_A6, l_Heap_bareFaces_6 m0 m X Y Z l 0 0 0 0 0 0 a.1 a.2.1 a.2.2.1 a.2.2.2.1 a.2.2.2.2.1 a.2.2.2.2.2.1 c.1 c.2.1 c.2.2.1 l (l.length : Int) (i : Int) (k : Int) = l_Heap_bareFaces_3 m0 X Y Z l 0 0 0 0 0 0 a'.1 a'.2.1 a'.2.2.1 a'.2.2.2.1 a'.2.2.2.2.1 a'.2.2.2.2.2.1 l (l.length : Int) ((i + 1 : Nat) : Int) ∧ Pos6 a' ∧ tot6 a' = tot6 a + pcount l [] c d k
  | d, k, 0, a, hk, hm, hp, ht => by omega
  | 0, k, m + 1, a, hk, hm, hp, ht => by
    rw [q_Heap_bareFaces_6, decide_eq_false (by omega), succI i (by omega)]
    exact ⟨a, rfl, hp, by simp [pcount]⟩
  | d + 1, k, m + 1, a, hk, hm, hp, ht => by
    rw [q_Heap_bareFaces_6, decide_eq_true (by omega)]
    have hb : P_impl_beyond ((c.1, (c.2.1, (c.2.2.1, ()))), (k : Int), ()) = some (stp k c, ()) := f_beyond c hc k (by omega)
    have ih := l_bare6 hs hl hi c hc m0 i hli d (k + 1) m
    rw [hb, succI k (by omega)]
    simp only [cond_true, Option.bind_some, pcount]
    rw [f_isBare hs hl hi]
    simp only [Option.bind_some, bareAt]
    by_cases h1 : stp k c ∈ l
    · simp only [h1, decide_true, Bool.not_true, cond_false, Bool.false_and, Bool.false_eq_true, if_false, Nat.zero_add]
      exact ih a (by omega) (by omega) hp (by omega)
    · simp only [h1, decide_false, Bool.not_false, cond_true, Bool.true_and, List.not_mem_nil, if_true]
      rw [inB_at (k := k) (n := 6) (by omega)]
      simp only [cond_true]
      obtain ⟨u1, u2⟩ := up6_at k (by omega) a hp (by omega)
      obtain ⟨a', e1, e2, e3⟩ := ih (up6 (k : Int) a) (by omega) (by omega) u1 (by omega)
      refine ⟨a', e1, e2, ?_⟩
      rw [e3, u2]
      omega
termination_by d => d

theorem l_bare3 {X Y Z : Int} {l : List D_A3} (hs : sides X Y Z = true) (hl : Small l) (hi : Ins X Y Z l) : ∀ (d i m : Nat) (a : D_A6), l.length = i + d → d < m → Pos6 a → tot6 a ≤ 6 * i →
    ∃ a' : D_A6, l_Heap_bareFaces_3 m X Y Z l 0 0 0 0 0 0 a.1 a.2.1 a.2.2.1 a.2.2.2.1 a.2.2.2.2.1 a.2.2.2.2.2.1 l (l.length : Int) (i : Int) = some (a', ()) ∧ Pos6 a' ∧ tot6 a' = tot6 a + sumP l [] (l.drop i)
  | d, i, 0, a, hk, hm, hp, ht => by omega
  | d, i, m + 1, a, hk, hm, hp, ht => by
    have hl' := hl
    unfold Small at hl'
    rw [q_Heap_bareFaces_3]
    by_cases hlt : i < l.length
    · rw [ltT hlt, inB_at hlt, nthA (t := T_A3) hlt]
      simp only [cond_true]
      obtain ⟨a1, e1, e2, e3⟩ := l_bare6 hs hl hi l[i] (near_of hs (hi _ (List.getElem_mem hlt))) m i (by omega) 6 0 N a rfl (by have := N_ge; omega) hp (by omega)
      have e1' : l_Heap_bareFaces_6 m N X Y Z l 0 0 0 0 0 0 a.1 a.2.1 a.2.2.1 a.2.2.2.1 a.2.2.2.2.1 a.2.2.2.2.2.1 l[i].1 l[i].2.1 l[i].2.2.1 l (l.length : Int) (i : Int) 0 = _ := e1
      rw [e1']
      have hpl := painted_le l [] l[i]
      have e3' : tot6 a1 = tot6 a + (painted l [] l[i] : Int) := e3
      obtain ⟨a', k1, k2, k3⟩ := l_bare3 hs hl hi (d - 1) (i + 1) m a1 (by omega) (by omega) e2 (by omega)
      refine ⟨a', k1, k2, ?_⟩
      rw [k3, e3', drop_at l i hlt]
      simp only [sumP]
      omega
    · rw [ltF hlt, List.drop_eq_nil_of_le (by omega)]
      exact ⟨a, rfl, hp, by simp [sumP]⟩

theorem l_surf (a : D_A6) (hp : Pos6 a) (ht : tot6 a ≤ 100000000) : l_impl_SurfaceOf_5 N 0 a.1 a.2.1 a.2.2.1 a.2.2.2.1 a.2.2.2.2.1 a.2.2.2.2.2.1 0 = some (tot6 a, true, ()) := by
  obtain ⟨n, hn⟩ : ∃ n, N = n + 7 := ⟨N - 7, by have := N_ge; omega⟩
  obtain ⟨a0, a1, a2, a3, a4, a5, ⟨⟩⟩ := a
  simp only [Pos6, tot6] at *
  have s : ∀ (m : Nat) (v : Int) (k : Nat), k < 6 → l_impl_SurfaceOf_5 (m + 1) v a0 a1 a2 a3 a4 a5 (k : Int) = l_impl_SurfaceOf_5 m (IntKind.wrap .i64 (v + sel6 (k : Int) (a0, a1, a2, a3, a4, a5, ()))) a0 a1 a2 a3 a4 a5 ((k + 1 : Nat) : Int) := by
    intro m v k hk
    rw [q_impl_SurfaceOf_5, decide_eq_true (p := (k : Int) < 6) (by omega), inB_at (k := k) (n := 6) hk, succI k (by omega)]
    rfl
  have fin : ∀ (m : Nat) (v : Int), l_impl_SurfaceOf_5 (m + 1) v a0 a1 a2 a3 a4 a5 ((6 : Nat) : Int) = some (v, true, ()) := by
    intro m v; rw [q_impl_SurfaceOf_5]; rfl
  show l_impl_SurfaceOf_5 N 0 a0 a1 a2 a3 a4 a5 ((0 : Nat) : Int) = _
  have z0 : sel6 ((0 : Nat) : Int) (a0, a1, a2, a3, a4, a5, ()) = a0 := rfl
  have z1 : sel6 ((1 : Nat) : Int) (a0, a1, a2, a3, a4, a5, ()) = a1 := rfl
  have z2 : sel6 ((2 : Nat) : Int) (a0, a1, a2, a3, a4, a5, ()) = a2 := rfl
  have z3 : sel6 ((3 : Nat) : Int) (a0, a1, a2, a3, a4, a5, ()) = a3 := rfl
  have z4 : sel6 ((4 : Nat) : Int) (a0, a1, a2, a3, a4, a5, ()) = a4 := rfl
  have z5 : sel6 ((5 : Nat) : Int) (a0, a1, a2, a3, a4, a5, ()) = a5 := rfl
  rw [hn, s (n + 6) _ 0 (by omega), z0, w64 (x := 0 + a0) (by omega) (by omega), s (n + 5) _ 1 (by omega), z1, w64 (x := 0 + a0 + a1) (by omega) (by omega), s (n + 4) _ 2 (by omega), z2, w64 (x := 0 + a0 + a1 + a2) (by omega) (by omega), s (n + 3) _ 3 (by omega), z3, w64 (x := 0 + a0 + a1 + a2 + a3) (by omega) (by omega), s (n + 2) _ 4 (by omega), z4, w64 (x := 0 + a0 + a1 + a2 + a3 + a4) (by omega) (by omega), s (n + 1) _ 5 (by omega), z5, w64 (x := 0 + a0 + a1 + a2 + a3 + a4 + a5) (by omega) (by omega), fin n]
  rw [Int.zero_add]

theorem f_surface {X Y Z : Int} {l : List D_A3} (hs : sides X Y Z = true) (hl : Small l) (hi : Ins X Y Z l) (hr : Srt l) : P_impl_SurfaceOf ((X, Y, Z, l, ()), ()) = some (sumP l [] l, true, ()) := by
  have hok : okHeap ((X, Y, Z, l, ()) : D_Heap) = true := okHeap_iff.2 ⟨hs, hi, hr⟩
  obtain ⟨a', e1, e2, e3⟩ := l_bare3 hs hl hi l.length 0 N (0, 0, 0, 0, 0, 0, ()) (by simp) (by unfold Small at hl; have := N_ge; omega) (by simp [Pos6]) (by simp [tot6])
  have e1' : P_Heap_bareFaces ((X, Y, Z, l, ()), ()) = some (a', ()) := by rw [p_Heap_bareFaces]; exact e1
  rw [p_impl_SurfaceOf, f_impl_IsHeap _ hl, hok, e1']
  simp only [Option.bind_some, Bool.not_true, cond_false]
  have h0 : tot6 a' = sumP l [] l := by rw [e3]; simp [tot6]
  have hb := sumP_bound l [] l
  rw [l_surf a' e2 (by unfold Small at hl; omega), h0]
end Go.VI
/- Plain: the surfaces of what is cut. -/
namespace Go.VI
open Go.Proofs

def bn (l : List D_A3) (c : D_A3) (k : Nat) : Nat := if stp k c ∈ l then 0 else 1

theorem painted_sum (l : List D_A3) (c : D_A3) : painted l [] c = bn l c 0 + bn l c 1 + bn l c 2 + bn l c 3 + bn l c 4 + bn l c 5 := by
  have h : ∀ k, (if bareAt l [] c k then 1 else 0) = bn l c k := by
    intro k
    unfold bareAt bn
    by_cases hm : stp k c ∈ l <;> simp [hm]
  unfold painted
  simp only [pcount, h, Nat.reduceAdd, Nat.add_zero]
  omega

theorem mem_low {l : List D_A3} {d k : Int} {c : D_A3} : c ∈ lowOf l d k ↔ c ∈ l ∧ get3 c d < k := by
  unfold lowOf
  rw [List.mem_filter, decide_eq_true_eq]

theorem sh_inj {d s : Int} {a b : D_A3} (h : sh d s a = sh d s b) : a = b := by
  have := congrArg (sh d (-s)) h
  rw [sh_sh, sh_sh, Int.add_right_neg, sh_zero, sh_zero] at this
  exact this

theorem mem_high {l : List D_A3} {d k : Int} {c : D_A3} : sh d (-k) c ∈ highOf l d k ↔ c ∈ l ∧ ¬ get3 c d < k := by
  unfold highOf
  rw [List.mem_map]
  constructor
  · rintro ⟨a, ha, e⟩
    rw [sh_inj e] at ha
    simpa using ha
  · intro h
    exact ⟨c, by simpa using h, rfl⟩

theorem stp_sh {d s : Int} (d0 : 0 ≤ d) (d1 : d ≤ 2) (j : Nat) (hj : j < 6) (c : D_A3) : stp j (sh d s c) = sh d s (stp j c) := by
  rcases dir d0 d1 with rfl | rfl | rfl <;> rcases six hj with rfl | rfl | rfl | rfl | rfl | rfl <;> apply cell_ext <;> simp [stp, sh] <;> omega

/-- The face of a cube towards greater places in a direction. -/
def upF (d : Int) : Nat := 2 * d.toNat + 1
def dnF (d : Int) : Nat := 2 * d.toNat

theorem stp_up {d : Int} (d0 : 0 ≤ d) (d1 : d ≤ 2) (c : D_A3) : stp (upF d) c = sh d 1 c := by
  rcases dir d0 d1 with rfl | rfl | rfl <;> rfl
theorem stp_dn {d : Int} (d0 : 0 ≤ d) (d1 : d ≤ 2) (c : D_A3) : stp (dnF d) c = sh d (-1) c := by
  rcases dir d0 d1 with rfl | rfl | rfl <;> rfl

theorem get_stp {d : Int} (d0 : 0 ≤ d) (d1 : d ≤ 2) (j : Nat) (hj : j < 6) (c : D_A3) : get3 (stp j c) d = get3 c d + (if j = upF d then 1 else 0) + (if j = dnF d then -1 else 0) := by
  rcases dir d0 d1 with rfl | rfl | rfl <;> rcases six hj with rfl | rfl | rfl | rfl | rfl | rfl <;> simp [stp, get3, upF, dnF]

theorem bn_low {l : List D_A3} {d k : Int} (d0 : 0 ≤ d) (d1 : d ≤ 2) {c : D_A3} (hg : get3 c d < k) (j : Nat) (hj : j < 6) : bn (lowOf l d k) c j = bn l c j + (if j = upF d ∧ get3 c d = k - 1 ∧ sh d 1 c ∈ l then 1 else 0) := by
  have hgs := get_stp d0 d1 j hj c
  unfold bn
  by_cases hu : j = upF d
  · have hud : j ≠ dnF d := by unfold upF dnF at *; omega
    rw [if_pos hu, if_neg hud] at hgs
    have he : stp j c = sh d 1 c := by rw [hu]; exact stp_up d0 d1 c
    by_cases hk : get3 c d = k - 1
    · have hn : stp j c ∉ lowOf l d k := fun h => by have := (mem_low.1 h).2; omega
      rw [if_neg hn]
      by_cases hm : sh d 1 c ∈ l
      · rw [he, if_pos hm, if_pos ⟨hu, hk, hm⟩]
      · rw [he, if_neg hm, if_neg (fun h => hm h.2.2)]
    · have hiff : stp j c ∈ lowOf l d k ↔ stp j c ∈ l := ⟨fun h => (mem_low.1 h).1, fun h => mem_low.2 ⟨h, by omega⟩⟩
      rw [if_neg (c := j = upF d ∧ get3 c d = k - 1 ∧ sh d 1 c ∈ l) (fun h => hk h.2.1)]
      by_cases hm : stp j c ∈ l
      · rw [if_pos hm, if_pos (hiff.2 hm)]
      · rw [if_neg hm, if_neg (fun h => hm (hiff.1 h))]
  · rw [if_neg hu] at hgs
    have hle : get3 (stp j c) d < k := by
      by_cases hd : j = dnF d
      · rw [if_pos hd] at hgs; omega
      · rw [if_neg hd] at hgs; omega
    have hiff : stp j c ∈ lowOf l d k ↔ stp j c ∈ l := ⟨fun h => (mem_low.1 h).1, fun h => mem_low.2 ⟨h, hle⟩⟩
    rw [if_neg (c := j = upF d ∧ get3 c d = k - 1 ∧ sh d 1 c ∈ l) (fun h => hu h.1)]
    by_cases hm : stp j c ∈ l
    · rw [if_pos hm, if_pos (hiff.2 hm)]
    · rw [if_neg hm, if_neg (fun h => hm (hiff.1 h))]

theorem bn_high {l : List D_A3} {d k : Int} (d0 : 0 ≤ d) (d1 : d ≤ 2) {c : D_A3} (hg : ¬ get3 c d < k) (j : Nat) (hj : j < 6) : bn (highOf l d k) (sh d (-k) c) j = bn l c j + (if j = dnF d ∧ get3 c d = k ∧ sh d (-1) c ∈ l then 1 else 0) := by
  have hgs := get_stp d0 d1 j hj c
  unfold bn
  rw [stp_sh d0 d1 j hj]
  by_cases hu : j = dnF d
  · have hud : j ≠ upF d := by unfold upF dnF at *; omega
    rw [if_neg hud, if_pos hu] at hgs
    have he : stp j c = sh d (-1) c := by rw [hu]; exact stp_dn d0 d1 c
    by_cases hk : get3 c d = k
    · have hn : sh d (-k) (stp j c) ∉ highOf l d k := fun h => by have := (mem_high.1 h).2; omega
      rw [if_neg hn]
      by_cases hm : sh d (-1) c ∈ l
      · rw [he, if_pos hm, if_pos ⟨hu, hk, hm⟩]
      · rw [he, if_neg hm, if_neg (fun h => hm h.2.2)]
    · have hiff : sh d (-k) (stp j c) ∈ highOf l d k ↔ stp j c ∈ l := ⟨fun h => (mem_high.1 h).1, fun h => mem_high.2 ⟨h, by omega⟩⟩
      rw [if_neg (c := j = dnF d ∧ get3 c d = k ∧ sh d (-1) c ∈ l) (fun h => hk h.2.1)]
      by_cases hm : stp j c ∈ l
      · rw [if_pos hm, if_pos (hiff.2 hm)]
      · rw [if_neg hm, if_neg (fun h => hm (hiff.1 h))]
  · rw [if_neg hu] at hgs
    have hle : ¬ get3 (stp j c) d < k := by
      by_cases hd : j = upF d
      · rw [if_pos hd] at hgs; omega
      · rw [if_neg hd] at hgs; omega
    have hiff : sh d (-k) (stp j c) ∈ highOf l d k ↔ stp j c ∈ l := ⟨fun h => (mem_high.1 h).1, fun h => mem_high.2 ⟨h, hle⟩⟩
    rw [if_neg (c := j = dnF d ∧ get3 c d = k ∧ sh d (-1) c ∈ l) (fun h => hu h.1)]
    by_cases hm : stp j c ∈ l
    · rw [if_pos hm, if_pos (hiff.2 hm)]
    · rw [if_neg hm, if_neg (fun h => hm (hiff.1 h))]

theorem painted_low {l : List D_A3} {d k : Int} (d0 : 0 ≤ d) (d1 : d ≤ 2) {c : D_A3} (hg : get3 c d < k) : painted (lowOf l d k) [] c = painted l [] c + (if get3 c d = k - 1 ∧ sh d 1 c ∈ l then 1 else 0) := by
  rw [painted_sum, painted_sum, bn_low d0 d1 hg 0 (by omega), bn_low d0 d1 hg 1 (by omega), bn_low d0 d1 hg 2 (by omega), bn_low d0 d1 hg 3 (by omega), bn_low d0 d1 hg 4 (by omega), bn_low d0 d1 hg 5 (by omega)]
  by_cases hp : get3 c d = k - 1 ∧ sh d 1 c ∈ l
  · rcases dir d0 d1 with rfl | rfl | rfl <;> simp [upF, hp] <;> omega
  · rcases dir d0 d1 with rfl | rfl | rfl <;> simp [upF, hp]

theorem painted_high {l : List D_A3} {d k : Int} (d0 : 0 ≤ d) (d1 : d ≤ 2) {c : D_A3} (hg : ¬ get3 c d < k) : painted (highOf l d k) [] (sh d (-k) c) = painted l [] c + (if get3 c d = k ∧ sh d (-1) c ∈ l then 1 else 0) := by
  rw [painted_sum, painted_sum, bn_high d0 d1 hg 0 (by omega), bn_high d0 d1 hg 1 (by omega), bn_high d0 d1 hg 2 (by omega), bn_high d0 d1 hg 3 (by omega), bn_high d0 d1 hg 4 (by omega), bn_high d0 d1 hg 5 (by omega)]
  by_cases hp : get3 c d = k ∧ sh d (-1) c ∈ l
  · rcases dir d0 d1 with rfl | rfl | rfl <;> simp [dnF, hp] <;> omega
  · rcases dir d0 d1 with rfl | rfl | rfl <;> simp [dnF, hp]

/-! ### Sums -/
theorem sumP_low {l : List D_A3} {d k : Int} (d0 : 0 ≤ d) (d1 : d ≤ 2) : ∀ r : List D_A3, (∀ c ∈ r, get3 c d < k) → sumP (lowOf l d k) [] r = sumP l [] r + ((r.filter fun c => decide (get3 c d = k - 1) && decide (sh d 1 c ∈ l)).length : Int)
  | [], _ => rfl
  | c :: r, h => by
    have ih := sumP_low (l := l) d0 d1 r (fun x hx => h x (List.mem_cons_of_mem _ hx))
    simp only [sumP, ih, painted_low d0 d1 (h c (List.mem_cons_self ..)), List.filter_cons]
    by_cases hp : get3 c d = k - 1 ∧ sh d 1 c ∈ l
    · rw [if_pos hp, if_pos (by simp [hp]), List.length_cons]
      omega
    · rw [if_neg hp, if_neg (by simpa using hp)]
      omega

theorem sumP_high {l : List D_A3} {d k : Int} (d0 : 0 ≤ d) (d1 : d ≤ 2) : ∀ r : List D_A3, (∀ c ∈ r, ¬ get3 c d < k) → sumP (highOf l d k) [] (r.map (sh d (-k))) = sumP l [] r + ((r.filter fun c => decide (get3 c d = k) && decide (sh d (-1) c ∈ l)).length : Int)
  | [], _ => rfl
  | c :: r, h => by
    have ih := sumP_high (l := l) d0 d1 r (fun x hx => h x (List.mem_cons_of_mem _ hx))
    simp only [List.map_cons, sumP, ih, painted_high d0 d1 (h c (List.mem_cons_self ..)), List.filter_cons]
    by_cases hp : get3 c d = k ∧ sh d (-1) c ∈ l
    · rw [if_pos hp, if_pos (by simp [hp]), List.length_cons]
      omega
    · rw [if_neg hp, if_neg (by simpa using hp)]
      omega

theorem sumP_split (l q : List D_A3) (p : D_A3 → Bool) : ∀ r : List D_A3, sumP l q r = sumP l q (r.filter p) + sumP l q (r.filter fun c => !p c)
  | [] => rfl
  | c :: r => by
    have ih := sumP_split l q p r
    simp only [sumP, List.filter_cons]
    cases p c <;> simp [sumP] <;> omega

theorem surf_cut {l : List D_A3} (hr : Srt l) {d k : Int} (d0 : 0 ≤ d) (d1 : d ≤ 2) : sumP (lowOf l d k) [] (lowOf l d k) + sumP (highOf l d k) [] (highOf l d k) = sumP l [] l + 2 * (cutN l d k : Int) := by
  have h1 := sumP_low (l := l) (k := k) d0 d1 (lowOf l d k) (fun c hc => (mem_low.1 hc).2)
  have h2 := sumP_high (l := l) (k := k) d0 d1 (l.filter fun c => !decide (get3 c d < k)) (fun c hc => by simpa using (List.mem_filter.1 hc).2)
  have h3 := sumP_split l [] (fun c => decide (get3 c d < k)) l
  have e1 : (lowOf l d k).filter (fun c => decide (get3 c d = k - 1) && decide (sh d 1 c ∈ l)) = l.filter fun c => decide (get3 c d = k - 1) && decide (sh d 1 c ∈ l) := by
    unfold lowOf
    rw [List.filter_filter]
    congr 1
    funext c
    by_cases hk : get3 c d = k - 1
    · rw [decide_eq_true hk, decide_eq_true (p := get3 c d < k) (by omega)]; simp
    · rw [decide_eq_false hk]; simp
  have e2 : (l.filter fun c => !decide (get3 c d < k)).filter (fun c => decide (get3 c d = k) && decide (sh d (-1) c ∈ l)) = l.filter fun c => decide (get3 c d = k) && decide (sh d (-1) c ∈ l) := by
    rw [List.filter_filter]
    congr 1
    funext c
    by_cases hk : get3 c d = k
    · rw [decide_eq_true hk, decide_eq_false (p := get3 c d < k) (by omega)]; simp
    · rw [decide_eq_false hk]; simp
  have e3 : (l.filter fun c => decide (get3 c d = k - 1) && decide (sh d 1 c ∈ l)).length = cutN l d k := by
    have := congrArg List.length (faces_eq l hr d k d0 d1)
    rw [List.length_map] at this
    exact this
  rw [e1, e3] at h1
  rw [e2] at h2
  have e4 : highOf l d k = (l.filter fun c => !decide (get3 c d < k)).map (sh d (-k)) := rfl
  have e5 : lowOf l d k = l.filter fun c => decide (get3 c d < k) := rfl
  have e6 : (l.filter fun c => decide (get3 c d = k) && decide (sh d (-1) c ∈ l)).length = cutN l d k := rfl
  rw [e6] at h2
  rw [← e4] at h2
  rw [← e5] at h3
  omega
end Go.VI
/- Plain: the fewest cuts. -/
namespace Go.VI
open Go.Proofs

/-- How many cuts with numbers k .. k + d - 1 in a direction part something. -/
def parted (l : List D_A3) (dr : Int) : (d : Nat) → (k : Int) → Nat
  | 0, _ => 0
  | d + 1, k => (if cutN l dr k > 0 then 1 else 0) + parted l dr d (k + 1)

theorem parted_le (l : List D_A3) (dr : Int) : ∀ (d : Nat) (k : Int), parted l dr d k ≤ d
  | 0, _ => by simp [parted]
  | d + 1, k => by
    have := parted_le l dr d (k + 1)
    simp only [parted]
    split <;> omega

theorem l_spec8 {X Y Z : Int} {l : List D_A3} {dr : Int} (hs : sides X Y Z = true) (hl : Small l) (hi : Ins X Y Z l) (hr : Srt l) (d0 : 0 ≤ dr) (d1 : dr ≤ 2) (m0 : Nat) : ∀ (d m : Nat) (cnt : Nat) (k : Int), k + d = side3 X Y Z dr → d < m → 1 ≤ k → cnt + d < 1000 →
    l_spec_FewestCuts_8 m0 m X Y Z l (cnt : Int) dr k = l_spec_FewestCuts_5 m0 X Y Z l ((cnt + parted l dr d k : Nat) : Int) (dr + 1)
  | d, 0, cnt, k, hk, hm, h1, hc => by omega
  | 0, m + 1, cnt, k, hk, hm, h1, hc => by
    rw [q_spec_FewestCuts_8, f_l2Long l d0 d1]
    simp only [Option.bind_some]
    rw [decide_eq_false (by omega), w64 (x := dr + 1) (by omega) (by omega)]
    simp [parted]
  | d + 1, m + 1, cnt, k, hk, hm, h1, hc => by
    have h4 := side3_ok hs dr
    rw [q_spec_FewestCuts_8, f_l2Long l d0 d1]
    simp only [Option.bind_some]
    rw [decide_eq_true (by omega), f_faces dr k hs hl hi hr d0 d1 h1 (by omega), w64 (x := k + 1) (by omega) (by omega)]
    simp only [Option.bind_some, cond_true, parted]
    by_cases hp : cutN l dr k > 0
    · rw [decide_eq_true (by omega), if_pos hp, w64 (x := (cnt : Int) + 1) (by omega) (by omega)]
      simp only [cond_true]
      have := l_spec8 hs hl hi hr d0 d1 m0 d m (cnt + 1) (k + 1) (by omega) (by omega) (by omega) (by omega)
      rw [show ((cnt : Int) + 1) = ((cnt + 1 : Nat) : Int) by omega, this]
      congr 2
      omega
    · rw [decide_eq_false (by omega), if_neg hp]
      simp only [cond_false]
      rw [l_spec8 hs hl hi hr d0 d1 m0 d m cnt (k + 1) (by omega) (by omega) (by omega) (by omega)]
      congr 2
      omega
termination_by d => d

theorem l_impl8 {X Y Z : Int} {l : List D_A3} {dr S : Int} (a b c : Int) (hs : sides X Y Z = true) (hl : Small l) (hi : Ins X Y Z l) (d0 : 0 ≤ dr) (d1 : dr ≤ 2) (m0 : Nat) (hS : 1 ≤ S) (hS4 : S ≤ 4) : ∀ (d m : Nat) (cnt : Nat) (k : Int), k + d = S → d < m → 1 ≤ k → cnt + d < 1000 →
    l_impl_FewestCuts_8 m0 m X Y Z l (cnt : Int) dr S k a b c dr = l_impl_FewestCuts_5 m0 X Y Z l ((cnt + parted l dr d k : Nat) : Int) a b c (dr + 1)
  | d, 0, cnt, k, hk, hm, h1, hc => by omega
  | 0, m + 1, cnt, k, hk, hm, h1, hc => by
    rw [q_impl_FewestCuts_8]
    rw [decide_eq_false (by omega), w64 (x := dr + 1) (by omega) (by omega)]
    simp [parted]
  | d + 1, m + 1, cnt, k, hk, hm, h1, hc => by
    rw [q_impl_FewestCuts_8]
    rw [decide_eq_true (by omega), f_cutFaces dr k hs hl hi d0 d1 h1, w64 (x := k + 1) (by omega) (by omega)]
    simp only [Option.bind_some, cond_true, parted]
    by_cases hp : cutN l dr k > 0
    · rw [decide_eq_true (by omega), if_pos hp, w64 (x := (cnt : Int) + 1) (by omega) (by omega)]
      simp only [cond_true]
      have := l_impl8 a b c hs hl hi d0 d1 m0 hS hS4 d m (cnt + 1) (k + 1) (by omega) (by omega) (by omega) (by omega)
      rw [show ((cnt : Int) + 1) = ((cnt + 1 : Nat) : Int) by omega, this]
      congr 2
      omega
    · rw [decide_eq_false (by omega), if_neg hp]
      simp only [cond_false]
      rw [l_impl8 a b c hs hl hi d0 d1 m0 hS hS4 d m cnt (k + 1) (by omega) (by omega) (by omega) (by omega)]
      congr 2
      omega
termination_by d => d

def fewest (h : D_Heap) : Nat := parted h.2.2.2.1 0 (h.1 - 1).toNat 1 + parted h.2.2.2.1 1 (h.2.1 - 1).toNat 1 + parted h.2.2.2.1 2 (h.2.2.1 - 1).toNat 1
def fewestV (h : D_Heap) : Int × Bool × Unit := if okHeap h then ((fewest h : Int), true, ()) else (0, false, ())

theorem N_eq2 : ∃ n, N = n + 10 := ⟨N - 10, by have := N_ge; omega⟩

theorem f_spec_FewestCuts (h : D_Heap) (hl : Small h.2.2.2.1) : P_spec_FewestCuts (h, ()) = some (fewestV h) := by
  rw [p_spec_FewestCuts, f_spec_l2Heap _ hl]
  unfold fewestV
  cases ho : okHeap h with
  | false => simp
  | true =>
    obtain ⟨hs, hi, hr⟩ := okHeap_iff.1 ho
    obtain ⟨s1, s2, s3⟩ := sides_iff.1 hs
    have hN := N_ge
    have e0 := l_spec8 hs hl hi hr (dr := 0) (by omega) (by omega)
    have e1 := l_spec8 hs hl hi hr (dr := 1) (by omega) (by omega)
    have e2 := l_spec8 hs hl hi hr (dr := 2) (by omega) (by omega)
    have p0 := parted_le h.2.2.2.1 0 (h.1 - 1).toNat 1
    have p1 := parted_le h.2.2.2.1 1 (h.2.1 - 1).toNat 1
    have p2 := parted_le h.2.2.2.1 2 (h.2.2.1 - 1).toNat 1
    simp only [Option.bind_some, Bool.not_true, cond_false, if_true]
    rw [N_eq, q_spec_FewestCuts_5]
    have a0 := e0 (N - 4 + 3) (h.1 - 1).toNat N 0 1 (by simp only [side3, decide_true, cond_true]; omega) (by omega) (by omega) (by omega)
    have a1 := e1 (N - 4 + 2) (h.2.1 - 1).toNat N (0 + parted h.2.2.2.1 0 (h.1 - 1).toNat 1) 1 (by show 1 + (((h.2.1 - 1).toNat : Nat) : Int) = h.2.1; omega) (by omega) (by omega) (by omega)
    have a2 := e2 (N - 4 + 1) (h.2.2.1 - 1).toNat N (0 + parted h.2.2.2.1 0 (h.1 - 1).toNat 1 + parted h.2.2.2.1 1 (h.2.1 - 1).toNat 1) 1 (by show 1 + (((h.2.2.1 - 1).toNat : Nat) : Int) = h.2.2.1; omega) (by omega) (by omega) (by omega)
    rw [show decide ((0 : Int) < 3) = true by decide]
    simp only [cond_true]
    rw [show ((0 : Nat) : Int) = 0 from rfl] at a0
    rw [a0, show (0 : Int) + 1 = 1 from rfl, q_spec_FewestCuts_5, show decide ((1 : Int) < 3) = true by decide]
    simp only [cond_true]
    rw [a1, show (1 : Int) + 1 = 2 from rfl, q_spec_FewestCuts_5, show decide ((2 : Int) < 3) = true by decide]
    simp only [cond_true]
    rw [a2, show (2 : Int) + 1 = 3 from rfl, q_spec_FewestCuts_5, show decide ((3 : Int) < 3) = false by decide]
    simp only [cond_false, fewest, Nat.zero_add]

theorem f_impl_FewestCuts (h : D_Heap) (hl : Small h.2.2.2.1) : P_impl_FewestCuts (h, ()) = some (fewestV h) := by
  rw [p_impl_FewestCuts, f_impl_IsHeap _ hl]
  unfold fewestV
  cases ho : okHeap h with
  | false => simp
  | true =>
    obtain ⟨hs, hi, hr⟩ := okHeap_iff.1 ho
    obtain ⟨s1, s2, s3⟩ := sides_iff.1 hs
    have hN := N_ge
    have p0 := parted_le h.2.2.2.1 0 (h.1 - 1).toNat 1
    have p1 := parted_le h.2.2.2.1 1 (h.2.1 - 1).toNat 1
    have p2 := parted_le h.2.2.2.1 2 (h.2.2.1 - 1).toNat 1
    simp only [Option.bind_some, Bool.not_true, cond_false, if_true]
    rw [f_Heap_box]
    simp only [Option.bind_some]
    rw [N_eq, q_impl_FewestCuts_5]
    have a0 := l_impl8 (dr := 0) h.1 h.2.1 h.2.2.1 hs hl hi (by omega) (by omega) (N - 4 + 3) s1.1 s1.2 (h.1 - 1).toNat N 0 1 (by omega) (by omega) (by omega) (by omega)
    have a1 := l_impl8 (dr := 1) h.1 h.2.1 h.2.2.1 hs hl hi (by omega) (by omega) (N - 4 + 2) s2.1 s2.2 (h.2.1 - 1).toNat N (0 + parted h.2.2.2.1 0 (h.1 - 1).toNat 1) 1 (by omega) (by omega) (by omega) (by omega)
    have a2 := l_impl8 (dr := 2) h.1 h.2.1 h.2.2.1 hs hl hi (by omega) (by omega) (N - 4 + 1) s3.1 s3.2 (h.2.2.1 - 1).toNat N (0 + parted h.2.2.2.1 0 (h.1 - 1).toNat 1 + parted h.2.2.2.1 1 (h.2.1 - 1).toNat 1) 1 (by omega) (by omega) (by omega) (by omega)
    rw [show decide ((0 : Int) < 3) = true by decide, inB_dir (d := 0) (by omega) (by omega), show decide ((0 : Int) = 0) = true by decide]
    simp only [cond_true]
    rw [show ((0 : Nat) : Int) = 0 from rfl] at a0
    rw [a0, show (0 : Int) + 1 = 1 from rfl, q_impl_FewestCuts_5, show decide ((1 : Int) < 3) = true by decide, inB_dir (d := 1) (by omega) (by omega), show decide ((1 : Int) = 0) = false by decide, show decide ((1 : Int) = 1) = true by decide]
    simp only [cond_true, cond_false]
    rw [a1, show (1 : Int) + 1 = 2 from rfl, q_impl_FewestCuts_5, show decide ((2 : Int) < 3) = true by decide, inB_dir (d := 2) (by omega) (by omega), show decide ((2 : Int) = 0) = false by decide, show decide ((2 : Int) = 1) = false by decide]
    simp only [cond_true, cond_false]
    rw [a2, show (2 : Int) + 1 = 3 from rfl, q_impl_FewestCuts_5, show decide ((3 : Int) < 3) = false by decide]
    simp only [cond_false, fewest, Nat.zero_add]

end Go.VI
