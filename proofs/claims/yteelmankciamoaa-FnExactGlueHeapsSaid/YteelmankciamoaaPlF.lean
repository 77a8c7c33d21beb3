/- Plain: cuts. -/
import Derived.Test.YteelmankciamoaaPlE
namespace Go.VI
open Go.Proofs

def sh (d s : Int) (c : D_A3) : D_A3 := ((bif decide (d = 0) then c.1 + s else c.1), (bif decide (d = 1) then c.2.1 + s else c.2.1), (bif decide (d = 2) then c.2.2.1 + s else c.2.2.1), ())

theorem ltC_sh (d s : Int) (a b : D_A3) : ltC (sh d s a) (sh d s b) = ltC a b := by
  unfold ltC sh
  cases decide (d = 0) <;> cases decide (d = 1) <;> cases decide (d = 2) <;> simp

theorem srt_sh {l : List D_A3} (h : Srt l) (d s : Int) : Srt (l.map (sh d s)) := by
  unfold Srt
  rw [List.pairwise_map]
  exact List.Pairwise.imp (fun {a b} hab => by rw [ltC_sh]; exact hab) h

theorem dir {d : Int} (h0 : 0 ≤ d) (h1 : d ≤ 2) : d = 0 ∨ d = 1 ∨ d = 2 := by omega

theorem get3_sh {d : Int} (h0 : 0 ≤ d) (h1 : d ≤ 2) (s : Int) (c : D_A3) : get3 (sh d s c) d = get3 c d + s := by
  rcases dir h0 h1 with rfl | rfl | rfl <;> rfl

theorem sh_sh (d s t : Int) (c : D_A3) : sh d t (sh d s c) = sh d (s + t) c := by
  refine cell_ext ?_ ?_ ?_ <;> simp only [sh]
  · cases decide (d = 0) <;> simp; omega
  · cases decide (d = 1) <;> simp; omega
  · cases decide (d = 2) <;> simp; omega

theorem sh_zero (d : Int) (c : D_A3) : sh d 0 c = c := by
  refine cell_ext ?_ ?_ ?_ <;> simp [sh]

def cutN (l : List D_A3) (d k : Int) : Nat := (l.filter fun c => decide (get3 c d = k) && decide (sh d (-1) c ∈ l)).length

theorem inB_dir {d : Int} (h0 : 0 ≤ d) (h1 : d ≤ 2) : inB d 3 = true := by
  rcases dir h0 h1 with rfl | rfl | rfl <;> decide

def side3 (X Y Z d : Int) : Int := bif decide (d = 0) then X else (bif decide (d = 1) then Y else Z)

theorem l_cutFaces (X Y Z : Int) (l : List D_A3) (dr k : Int) (hs : sides X Y Z = true) (hl : Small l) (hi : Ins X Y Z l) (d0 : 0 ≤ dr) (d1 : dr ≤ 2) (k0 : 1 ≤ k) : ∀ (d i m : Nat) (cnt : Nat), l.length = i + d → d < m → cnt ≤ i →
    l_Heap_cutFaces_3 m X Y Z l dr k (cnt : Int) l (l.length : Int) (i : Int) = some (((cnt + ((l.drop i).filter fun c => decide (get3 c dr = k) && decide (sh dr (-1) c ∈ l)).length : Nat) : Int), ())
  | d, i, 0, cnt, hk, hm, hc => by omega
  | d, i, m + 1, cnt, hk, hm, hc => by
    unfold Small at hl
    rw [q_Heap_cutFaces_3]
    by_cases hlt : i < l.length
    · have hin := hi _ (List.getElem_mem hlt)
      rw [ltT hlt, inB_at hlt, nthA (t := T_A3) hlt, inB_dir d0 d1, drop_at l i hlt, List.filter_cons]
      have ih := l_cutFaces X Y Z l dr k hs hl hi d0 d1 k0 (d - 1) (i + 1) m
      obtain ⟨w1, w2, w3⟩ := within3_iff.1 hin
      obtain ⟨s1, s2, s3⟩ := sides_iff.1 hs
      simp only [cond_true]
      by_cases hg : get3 l[i] dr = k
      · have hw : within3 X Y Z (sh dr (-1) l[i]) = true := by
          rw [within3_iff]
          rcases dir d0 d1 with rfl | rfl | rfl <;> simp only [get3, sh] at hg ⊢ <;> simp at hg ⊢ <;> omega
        have hcell : ((bif decide (dr = (0 : Int)) then (IntKind.wrap .i64 ((bif decide (dr = (0 : Int)) then (l[i]).1 else (bif decide (dr = (1 : Int)) then (l[i]).2.1 else (l[i]).2.2.1)) - 1)) else (l[i]).1), ((bif decide (dr = (1 : Int)) then (IntKind.wrap .i64 ((bif decide (dr = (0 : Int)) then (l[i]).1 else (bif decide (dr = (1 : Int)) then (l[i]).2.1 else (l[i]).2.2.1)) - 1)) else (l[i]).2.1), ((bif decide (dr = (2 : Int)) then (IntKind.wrap .i64 ((bif decide (dr = (0 : Int)) then (l[i]).1 else (bif decide (dr = (1 : Int)) then (l[i]).2.1 else (l[i]).2.2.1)) - 1)) else (l[i]).2.2.1), ()))) = sh dr (-1) l[i] := by
          rw [w64]
          · rcases dir d0 d1 with rfl | rfl | rfl <;> rfl
          all_goals rcases dir d0 d1 with rfl | rfl | rfl <;> simp <;> omega
        have hgd : decide ((bif decide (dr = (0 : Int)) then (l[i]).1 else (bif decide (dr = (1 : Int)) then (l[i]).2.1 else (l[i]).2.2.1)) = k) = true := decide_eq_true hg
        rw [hgd, hcell, f_hasCube hs hl hi hw]
        simp only [cond_true, Option.bind_some, hg, decide_true, Bool.true_and]
        by_cases hmem : sh dr (-1) l[i] ∈ l
        · rw [decide_eq_true hmem]
          simp only [cond_true, if_true]
          rw [succI cnt (by omega), succI i (by omega), ih (cnt + 1) (by omega) (by omega) (by omega)]
          simp only [List.length_cons]
          congr 3
          omega
        · rw [decide_eq_false hmem]
          simp only [cond_false, Bool.false_eq_true, if_false]
          rw [succI i (by omega), ih cnt (by omega) (by omega) (by omega)]
      · have hgd : decide ((bif decide (dr = (0 : Int)) then (l[i]).1 else (bif decide (dr = (1 : Int)) then (l[i]).2.1 else (l[i]).2.2.1)) = k) = false := decide_eq_false hg
        rw [hgd]
        simp only [cond_false, hg, decide_false, Bool.false_and, Bool.false_eq_true, if_false]
        rw [succI i (by omega), ih cnt (by omega) (by omega) (by omega)]
    · rw [ltF hlt, List.drop_eq_nil_of_le (by omega)]
      rfl

theorem f_cutFaces {X Y Z : Int} {l : List D_A3} (dr k : Int) (hs : sides X Y Z = true) (hl : Small l) (hi : Ins X Y Z l) (d0 : 0 ≤ dr) (d1 : dr ≤ 2) (k0 : 1 ≤ k) : P_Heap_cutFaces ((X, Y, Z, l, ()), dr, k, ()) = some ((cutN l dr k : Int), ()) := by
  have := l_cutFaces X Y Z l dr k hs hl hi d0 d1 k0 l.length 0 N 0 (by simp) (by unfold Small at hl; have := N_ge; omega) (by omega)
  rw [p_Heap_cutFaces]
  simpa [cutN] using this

theorem l_faces (X Y Z : Int) (l : List D_A3) (dr k : Int) (hs : sides X Y Z = true) (hl : Small l) (hi : Ins X Y Z l) (d0 : 0 ≤ dr) (d1 : dr ≤ 2) (k0 : 1 ≤ k) (k1 : k ≤ 4) : ∀ (d i m : Nat) (cnt : Nat), l.length = i + d → d < m → cnt ≤ i →
    l_spec_l11Faces_4 m X Y Z l (bif decide (dr = (0 : Int)) then 1 else 0) (bif decide (dr = (1 : Int)) then 1 else 0) (bif decide (dr = (2 : Int)) then 1 else 0) dr k (cnt : Int) (i : Int) = some (((cnt + ((l.drop i).filter fun c => decide (get3 c dr = k - 1) && decide (sh dr 1 c ∈ l)).length : Nat) : Int), ())
  | d, i, 0, cnt, hk, hm, hc => by omega
  | d, i, m + 1, cnt, hk, hm, hc => by
    unfold Small at hl
    rw [q_spec_l11Faces_4]
    by_cases hlt : i < l.length
    · have hin := hi _ (List.getElem_mem hlt)
      rw [ltT hlt, inB_at hlt, nthA (t := T_A3) hlt, inB_dir d0 d1, drop_at l i hlt, List.filter_cons, w64 (x := k - 1) (by omega) (by omega)]
      have ih := l_faces X Y Z l dr k hs hl hi d0 d1 k0 k1 (d - 1) (i + 1) m
      obtain ⟨w1, w2, w3⟩ := within3_iff.1 hin
      obtain ⟨s1, s2, s3⟩ := sides_iff.1 hs
      simp only [cond_true]
      by_cases hg : get3 l[i] dr = k - 1
      · have hcell : P_spec_l6Beside (l[i], ((bif decide (dr = (0 : Int)) then 1 else 0), ((bif decide (dr = (1 : Int)) then 1 else 0), ((bif decide (dr = (2 : Int)) then 1 else 0), ()))), ()) = some (sh dr 1 l[i], ()) := by
          rw [p_spec_l6Beside, w64, w64, w64]
          · rcases dir d0 d1 with rfl | rfl | rfl <;> simp [sh]
          all_goals rcases dir d0 d1 with rfl | rfl | rfl <;> simp <;> omega
        have hgd : decide ((bif decide (dr = (0 : Int)) then (l[i]).1 else (bif decide (dr = (1 : Int)) then (l[i]).2.1 else (l[i]).2.2.1)) = k - 1) = true := decide_eq_true hg
        rw [hgd, hcell]
        simp only [cond_true, Option.bind_some, hg, decide_true, Bool.true_and]
        rw [f_l2Has _ _ _ _ _ hl]
        simp only [Option.bind_some]
        by_cases hmem : sh dr 1 l[i] ∈ l
        · rw [decide_eq_true hmem]
          simp only [cond_true, if_true]
          rw [succI cnt (by omega), succI i (by omega), ih (cnt + 1) (by omega) (by omega) (by omega)]
          simp only [List.length_cons]
          congr 3
          omega
        · rw [decide_eq_false hmem]
          simp only [cond_false, Bool.false_eq_true, if_false]
          rw [succI i (by omega), ih cnt (by omega) (by omega) (by omega)]
      · have hgd : decide ((bif decide (dr = (0 : Int)) then (l[i]).1 else (bif decide (dr = (1 : Int)) then (l[i]).2.1 else (l[i]).2.2.1)) = k - 1) = false := decide_eq_false hg
        rw [hgd]
        simp only [cond_false, hg, decide_false, Bool.false_and, Bool.false_eq_true, if_false]
        rw [succI i (by omega), ih cnt (by omega) (by omega) (by omega)]
    · rw [ltF hlt, List.drop_eq_nil_of_le (by omega)]
      rfl

theorem faces_eq (l : List D_A3) (hr : Srt l) (dr k : Int) (d0 : 0 ≤ dr) (d1 : dr ≤ 2) : (l.filter fun c => decide (get3 c dr = k - 1) && decide (sh dr 1 c ∈ l)).map (sh dr 1) = l.filter fun c => decide (get3 c dr = k) && decide (sh dr (-1) c ∈ l) := by
  refine srt_ext _ _ (srt_sh (hr.filter _) _ _) (hr.filter _) fun c => ?_
  simp only [List.mem_map, List.mem_filter, Bool.and_eq_true, decide_eq_true_eq]
  constructor
  · rintro ⟨a, ⟨h1, h2, h3⟩, rfl⟩
    refine ⟨h3, ?_, ?_⟩
    · rw [get3_sh d0 d1]; omega
    · rw [sh_sh, show (1 : Int) + -1 = 0 from rfl, sh_zero]; exact h1
  · rintro ⟨h1, h2, h3⟩
    refine ⟨sh dr (-1) c, ⟨h3, ?_, ?_⟩, ?_⟩
    · rw [get3_sh d0 d1]; omega
    · rw [sh_sh, show (-1 : Int) + 1 = 0 from rfl, sh_zero]; exact h1
    · rw [sh_sh, show (-1 : Int) + 1 = 0 from rfl, sh_zero]

theorem f_faces {X Y Z : Int} {l : List D_A3} (dr k : Int) (hs : sides X Y Z = true) (hl : Small l) (hi : Ins X Y Z l) (hr : Srt l) (d0 : 0 ≤ dr) (d1 : dr ≤ 2) (k0 : 1 ≤ k) (k1 : k ≤ 4) : P_spec_l11Faces ((X, Y, Z, l, ()), dr, k, ()) = some ((cutN l dr k : Int), ()) := by
  have := l_faces X Y Z l dr k hs hl hi d0 d1 k0 k1 l.length 0 N 0 (by simp) (by unfold Small at hl; have := N_ge; omega) (by omega)
  rw [p_spec_l11Faces, inB_dir d0 d1]
  simp only [cond_true, cutN, ← faces_eq l hr dr k d0 d1, List.length_map]
  simpa using this

def isCut (X Y Z d k : Int) : Bool := decide (0 ≤ d) && decide (d ≤ 2) && (decide (1 ≤ k) && decide (k ≤ side3 X Y Z d - 1))

theorem side3_ok {X Y Z : Int} (hs : sides X Y Z = true) (d : Int) : 1 ≤ side3 X Y Z d ∧ side3 X Y Z d ≤ 4 := by
  obtain ⟨s1, s2, s3⟩ := sides_iff.1 hs
  unfold side3
  cases decide (d = 0) <;> cases decide (d = 1) <;> simp <;> omega

theorem f_isCut {X Y Z : Int} (l : List D_A3) (hs : sides X Y Z = true) (d k : Int) : P_Heap_isCut ((X, Y, Z, l, ()), d, k, ()) = some (isCut X Y Z d k, ()) := by
  have h4 := side3_ok hs d
  rw [p_Heap_isCut, p_impl_isDirection, f_impl_within, f_Heap_box]
  simp only [Option.bind_some, f_impl_within]
  unfold isCut
  by_cases hd : 0 ≤ d ∧ d ≤ 2
  · rw [decide_eq_true hd.1, decide_eq_true hd.2, inB_dir hd.1 hd.2]
    simp only [Bool.and_self, cond_true, Bool.true_and]
    have : (bif decide (d = (0 : Int)) then X else (bif decide (d = (1 : Int)) then Y else Z)) = side3 X Y Z d := rfl
    rw [this, w64 (by omega) (by omega)]
  · have : (decide (0 ≤ d) && decide (d ≤ 2)) = false := by simp; omega
    rw [this]
    simp

theorem f_l2Long {X Y Z : Int} (l : List D_A3) {d : Int} (d0 : 0 ≤ d) (d1 : d ≤ 2) : P_spec_l2Long ((X, Y, Z, l, ()), d, ()) = some (side3 X Y Z d, ()) := by
  rw [p_spec_l2Long, inB_dir d0 d1]; rfl

theorem f_l11Cut (h : D_Heap) (hl : Small h.2.2.2.1) (d k : Int) : P_spec_l11Cut (h, d, k, ()) = some (okHeap h && isCut h.1 h.2.1 h.2.2.1 d k, ()) := by
  rw [p_spec_l11Cut, f_spec_l2Heap _ hl]
  simp only [Option.bind_some, f_spec_l1In]
  cases ho : okHeap h with
  | false => simp
  | true =>
    have hs := (okHeap_iff.1 ho).1
    have h4 := side3_ok hs d
    simp only [cond_true, Bool.true_and]
    unfold isCut
    by_cases hd : 0 ≤ d ∧ d ≤ 2
    · have e := f_l2Long (X := h.1) (Y := h.2.1) (Z := h.2.2.1) h.2.2.2.1 hd.1 hd.2
      have e' : P_spec_l2Long (h, d, ()) = some (side3 h.1 h.2.1 h.2.2.1 d, ()) := e
      rw [e', decide_eq_true hd.1, decide_eq_true hd.2]
      simp only [Bool.and_self, cond_true, Bool.true_and, Option.bind_some]
      rw [w64 (by omega) (by omega)]
    · have : (decide (0 ≤ d) && decide (d ≤ 2)) = false := by simp; omega
      rw [this]
      simp

def cutFacesV (h : D_Heap) (d k : Int) : Int × Bool × Unit := if okHeap h && isCut h.1 h.2.1 h.2.2.1 d k then ((cutN h.2.2.2.1 d k : Int), true, ()) else (0, false, ())

theorem isCut_iff {X Y Z d k : Int} : isCut X Y Z d k = true ↔ 0 ≤ d ∧ d ≤ 2 ∧ 1 ≤ k ∧ k ≤ side3 X Y Z d - 1 := by
  simp [isCut, and_assoc]

theorem f_spec_CutFaces (h : D_Heap) (hl : Small h.2.2.2.1) (d k : Int) : P_spec_CutFaces (h, d, k, ()) = some (cutFacesV h d k) := by
  rw [p_spec_CutFaces, f_l11Cut _ hl]
  unfold cutFacesV
  cases ho : okHeap h && isCut h.1 h.2.1 h.2.2.1 d k with
  | false => simp
  | true =>
    rw [Bool.and_eq_true] at ho
    obtain ⟨hs, hi, hr⟩ := okHeap_iff.1 ho.1
    obtain ⟨d0, d1, k0, k1⟩ := isCut_iff.1 ho.2
    have h4 := side3_ok hs d
    have e : P_spec_l11Faces (h, d, k, ()) = some ((cutN h.2.2.2.1 d k : Int), ()) := f_faces d k hs hl hi hr d0 d1 k0 (by omega)
    simp [e]

theorem f_impl_CutFaces (h : D_Heap) (hl : Small h.2.2.2.1) (d k : Int) : P_impl_CutFaces (h, d, k, ()) = some (cutFacesV h d k) := by
  rw [p_impl_CutFaces, f_impl_IsHeap _ hl]
  unfold cutFacesV
  cases ho : okHeap h with
  | false => simp
  | true =>
    obtain ⟨hs, hi, hr⟩ := okHeap_iff.1 ho
    have e1 : P_Heap_isCut (h, d, k, ()) = some (isCut h.1 h.2.1 h.2.2.1 d k, ()) := f_isCut h.2.2.2.1 hs d k
    simp only [Option.bind_some, Bool.not_true, cond_false, e1, Bool.true_and]
    cases hc : isCut h.1 h.2.1 h.2.2.1 d k with
    | false => simp
    | true =>
      obtain ⟨d0, d1, k0, k1⟩ := isCut_iff.1 hc
      have e : P_Heap_cutFaces (h, d, k, ()) = some ((cutN h.2.2.2.1 d k : Int), ()) := f_cutFaces d k hs hl hi d0 d1 k0
      simp [e]

theorem law_CutFaces (h : D_Heap) (d k : Int) (hl : h.2.2.2.1.length ≤ 9223372036854775807) : P_laws_FnExactCutFaces (h, d, k, ()) = some (true, ()) := by
  obtain ⟨z, hz, _, hor⟩ := f_szHeap h 1048576 (by omega) (by omega) hl
  rw [p_laws_FnExactCutFaces, hz]
  simp only [Option.bind_some]
  by_cases hn : z < 0
  · simp [hn]
  · have hs := hor.resolve_left hn
    simp [hn, f_toHeap h hs, f_spec_CutFaces h hs, f_impl_CutFaces h hs, f_eqHeap h hs]
end Go.VI
