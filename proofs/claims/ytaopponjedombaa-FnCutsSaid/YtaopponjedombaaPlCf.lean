/- Plain: the law of cuts. -/
import Derived.Test.YtaopponjedombaaPlCb
import Derived.Test.YtaopponjedombaaPlCd
namespace Go.VI
open Go.Proofs

/-! ### All cuts that part something -/
def cutL (l : List D_A3) (x : Int) : (d : Nat) → (k : Int) → List D_A2
  | 0, _ => []
  | d + 1, k => (if cutN l x k > 0 then [(x, k, ())] else []) ++ cutL l x d (k + 1)

theorem cutL_len (l : List D_A3) (x : Int) : ∀ (d : Nat) (k : Int), (cutL l x d k).length = parted l x d k
  | 0, _ => rfl
  | d + 1, k => by
    simp only [cutL, parted, List.length_append, cutL_len l x d (k + 1)]
    split <;> simp

theorem mem_cutL (l : List D_A3) (x : Int) (t : D_A2) : ∀ (d : Nat) (k : Int), t ∈ cutL l x d k ↔ t.1 = x ∧ k ≤ t.2.1 ∧ t.2.1 < k + d ∧ cutN l x t.2.1 > 0
  | 0, k => by
    simp only [cutL, List.not_mem_nil, false_iff]
    rintro ⟨_, h1, h2, _⟩
    omega
  | d + 1, k => by
    rw [cutL, List.mem_append, mem_cutL l x t d (k + 1)]
    constructor
    · rintro (h | ⟨h1, h2, h3, h4⟩)
      · by_cases hp : cutN l x k > 0
        · rw [if_pos hp, List.mem_singleton] at h
          rw [h]
          exact ⟨rfl, Int.le_refl _, by simp only; omega, hp⟩
        · rw [if_neg hp] at h
          cases h
      · exact ⟨h1, by omega, by omega, h4⟩
    · rintro ⟨h1, h2, h3, h4⟩
      by_cases hk : t.2.1 = k
      · rw [hk] at h4
        rw [if_pos h4, List.mem_singleton]
        obtain ⟨t1, t2, ⟨⟩⟩ := t
        simp only at h1 hk
        rw [h1, hk]
        exact .inl rfl
      · exact .inr ⟨h1, by omega, by omega, h4⟩

def allCuts (h : D_Heap) : List D_A2 := cutL h.2.2.2.1 0 (h.1 - 1).toNat 1 ++ (cutL h.2.2.2.1 1 (h.2.1 - 1).toNat 1 ++ cutL h.2.2.2.1 2 (h.2.2.1 - 1).toNat 1)

theorem allCuts_len (h : D_Heap) : (allCuts h).length = fewest h := by
  unfold allCuts fewest
  rw [List.length_append, List.length_append, cutL_len, cutL_len, cutL_len]
  omega

theorem mem_allCuts {h : D_Heap} (hs : sides h.1 h.2.1 h.2.2.1 = true) {t : D_A2} : t ∈ allCuts h ↔ isCut h.1 h.2.1 h.2.2.1 t.1 t.2.1 = true ∧ cutN h.2.2.2.1 t.1 t.2.1 > 0 := by
  obtain ⟨s1, s2, s3⟩ := sides_iff.1 hs
  unfold allCuts
  rw [List.mem_append, List.mem_append, mem_cutL, mem_cutL, mem_cutL, isCut_iff]
  constructor
  · rintro (⟨e, h1, h2, h3⟩ | ⟨e, h1, h2, h3⟩ | ⟨e, h1, h2, h3⟩) <;> rw [e] <;> refine ⟨⟨by omega, by omega, h1, ?_⟩, h3⟩ <;> simp [side3] <;> omega
  · rintro ⟨⟨d0, d1, h1, h2⟩, h3⟩
    rcases dir d0 d1 with e | e | e <;> rw [e] at h2 h3 <;> simp [side3] at h2
    · exact .inl ⟨e, h1, by omega, h3⟩
    · exact .inr (.inl ⟨e, h1, by omega, h3⟩)
    · exact .inr (.inr ⟨e, h1, by omega, h3⟩)

theorem pos_cut {l : List D_A3} {x k : Int} {c : D_A3} (hc : c ∈ l) (h1 : get3 c x = k) (h2 : sh x (-1) c ∈ l) : cutN l x k > 0 := by
  unfold cutN
  exact List.length_pos_of_mem (List.mem_filter.2 ⟨hc, by simp [h1, h2]⟩)

/-- Neighbors lie on different sides of some cut that parts something. -/
theorem not_same {h : D_Heap} (ho : okHeap h = true) {c d : D_A3} (hc : c ∈ h.2.2.2.1) (hd : d ∈ h.2.2.2.1) (hn : nb c d) : same (allCuts h) c d = false := by
  obtain ⟨hs, hi, hr⟩ := okHeap_iff.1 ho
  have wc := within3_iff.1 (hi c hc)
  have wd := within3_iff.1 (hi d hd)
  rw [Bool.eq_false_iff]
  intro hsm
  have key : ∀ (x : Int) (u v : D_A3), 0 ≤ x → x ≤ 2 → u ∈ h.2.2.2.1 → v ∈ h.2.2.2.1 → v = sh x (-1) u → 1 ≤ get3 u x → get3 u x ≤ side3 h.1 h.2.1 h.2.2.1 x - 1 → same (allCuts h) u v = false := by
    intro x u v x0 x1 hu hv he g1 g2
    have ht : ((x, get3 u x, ()) : D_A2) ∈ allCuts h := (mem_allCuts hs).2 ⟨isCut_iff.2 ⟨x0, x1, g1, g2⟩, pos_cut hu rfl (he ▸ hv)⟩
    rw [Bool.eq_false_iff]
    intro hh
    have := same_iff.1 hh _ ht
    simp only at this
    have hv' : get3 v x = get3 u x + -1 := by rw [he]; exact get3_sh x0 x1 (-1) u
    omega
  have e : ∀ u v : D_A3, same (allCuts h) u v = true → same (allCuts h) v u = true := fun u v => same_symm
  rcases nb_iff.1 hn with ⟨a, b, m | m⟩ | ⟨a, b, m | m⟩ | ⟨a, b, m | m⟩
  · have := key 0 c d (by omega) (by omega) hc hd (cell_ext (by simp [sh]; omega) (by simp [sh]; omega) (by simp [sh]; omega)) (by simp [get3]; omega) (by simp [get3, side3]; omega)
    rw [hsm] at this; cases this
  · have := key 0 d c (by omega) (by omega) hd hc (cell_ext (by simp [sh]; omega) (by simp [sh]; omega) (by simp [sh]; omega)) (by simp [get3]; omega) (by simp [get3, side3]; omega)
    rw [e c d hsm] at this; cases this
  · have := key 1 c d (by omega) (by omega) hc hd (cell_ext (by simp [sh]; omega) (by simp [sh]; omega) (by simp [sh]; omega)) (by simp [get3]; omega) (by simp [get3, side3]; omega)
    rw [hsm] at this; cases this
  · have := key 1 d c (by omega) (by omega) hd hc (cell_ext (by simp [sh]; omega) (by simp [sh]; omega) (by simp [sh]; omega)) (by simp [get3]; omega) (by simp [get3, side3]; omega)
    rw [e c d hsm] at this; cases this
  · have := key 2 c d (by omega) (by omega) hc hd (cell_ext (by simp [sh]; omega) (by simp [sh]; omega) (by simp [sh]; omega)) (by simp [get3]; omega) (by simp [get3, side3]; omega)
    rw [hsm] at this; cases this
  · have := key 2 d c (by omega) (by omega) hd hc (cell_ext (by simp [sh]; omega) (by simp [sh]; omega) (by simp [sh]; omega)) (by simp [get3]; omega) (by simp [get3, side3]; omega)
    rw [e c d hsm] at this; cases this

theorem sum_ones : ∀ ps : List (List D_A3), (∀ p ∈ ps, p.length = 1) → (ps.map List.length).sum = ps.length
  | [], _ => rfl
  | p :: r, h => by
    rw [List.map_cons, List.sum_cons, h p (List.mem_cons_self ..), sum_ones r fun q hq => h q (List.mem_cons_of_mem _ hq), List.length_cons]
    omega

theorem singles {h : D_Heap} (ho : okHeap h = true) {ps : List (List D_A3)} (hP : PiecesI (allCuts h) h.2.2.2.1 [] ps) : ps.length = h.2.2.2.1.length := by
  have h1 : ∀ p ∈ ps, p.length = 1 := by
    intro p hp
    obtain ⟨hr, c0, hc0, hm⟩ := hP.good p hp
    have hall : ∀ c ∈ p, c = c0 := by
      intro c hc
      refine Rch.of (r := fun c => c = c0) (fun x hx => hx) (fun x d hx hn hd => ?_) ((hm c).1 hc)
      have hx' : x = c0 := hx
      subst hx'
      have := not_same ho hc0 hd.1 hn
      rw [hd.2] at this
      cases this
    have hle := one_of hr.nodup fun a ha b hb => (hall a ha).trans (hall b hb).symm
    have := List.length_pos_of_mem ((hm c0).2 (.base rfl))
    omega
  have := hP.tot
  rw [sum_ones ps h1] at this
  simpa using this

/-! ### The walk of the law -/
theorem app_len16 {α : Type} {l : List α} {x : α} (h : l.length ≤ 100000000) : (decide ((l.length + ([x] : List α).length) * 16 ≤ 140737488355328) && decide (l.length + ([x] : List α).length ≤ 140737488355328)) = true := by
  rw [Bool.and_eq_true, decide_eq_true_eq, decide_eq_true_eq]
  simp only [List.length_singleton]
  omega

theorem l_38 {h : D_Heap} (hl : Small h.2.2.2.1) (ho : okHeap h = true) (a b : D_Heap) (dr : Int) (ok : Bool) (faces few x : Int) (x0 : 0 ≤ x) (x1 : x ≤ 2) (m0 : Nat) : ∀ (d m : Nat) (y : Int) (al : List D_A2), y + d = side3 h.1 h.2.1 h.2.2.1 x → 1 ≤ y → d < m → al.length + d ≤ 1000 →
    l_laws_FnCuts_38 m0 m h.1 h.2.1 h.2.2.1 h.2.2.2.1 a.1 a.2.1 a.2.2.1 a.2.2.2.1 b.1 b.2.1 b.2.2.1 b.2.2.2.1 h.1 h.2.1 h.2.2.1 dr ok faces few al x y = l_laws_FnCuts_35 m0 h.1 h.2.1 h.2.2.1 h.2.2.2.1 a.1 a.2.1 a.2.2.1 a.2.2.2.1 b.1 b.2.1 b.2.2.1 b.2.2.2.1 h.1 h.2.1 h.2.2.1 dr ok faces few (al ++ cutL h.2.2.2.1 x d y) (x + 1)
  | d, 0, y, al, _, _, h, _ => by omega
  | 0, m + 1, y, al, hy, h1, hm, hal => by
    rw [q_laws_FnCuts_38, inB_dir x0 x1]
    simp only [cond_true]
    rw [decide_eq_false (p := y < (bif decide (x = (0 : Int)) then h.1 else (bif decide (x = (1 : Int)) then h.2.1 else h.2.2.1))) (by
      show ¬ y < side3 h.1 h.2.1 h.2.2.1 x
      omega), w64 (x := x + 1) (by omega) (by omega)]
    simp [cutL]
  | d + 1, m + 1, y, al, hy, h1, hm, hal => by
    have h4 := side3_ok (okHeap_iff.1 ho).1 x
    have e1 : P_impl_CutFaces ((h.1, (h.2.1, (h.2.2.1, (h.2.2.2.1, ())))), x, y, ()) = some (cutFacesV h x y) := f_impl_CutFaces h hl x y
    have hcut : isCut h.1 h.2.1 h.2.2.1 x y = true := isCut_iff.2 ⟨x0, x1, h1, by omega⟩
    have e2 : cutFacesV h x y = ((cutN h.2.2.2.1 x y : Int), true, ()) := by
      unfold cutFacesV
      rw [ho, hcut]
      rfl
    rw [q_laws_FnCuts_38, inB_dir x0 x1]
    simp only [cond_true]
    rw [decide_eq_true (p := y < (bif decide (x = (0 : Int)) then h.1 else (bif decide (x = (1 : Int)) then h.2.1 else h.2.2.1))) (by
      show y < side3 h.1 h.2.1 h.2.2.1 x
      omega), e1, e2, w64 (x := y + 1) (by omega) (by omega)]
    simp only [cond_true, Option.bind_some, Bool.not_true, cond_false, cutL]
    by_cases hp : cutN h.2.2.2.1 x y > 0
    · rw [decide_eq_true (p := (cutN h.2.2.2.1 x y : Int) > 0) (by omega), if_pos hp, app_len16 (by omega)]
      simp only [cond_true]
      rw [l_38 hl ho a b dr ok faces few x x0 x1 m0 d m (y + 1) _ (by omega) (by omega) (by omega) (by simp; omega), List.append_assoc]
    · rw [decide_eq_false (p := (cutN h.2.2.2.1 x y : Int) > 0) (by omega), if_neg hp]
      simp only [cond_false, List.nil_append]
      exact l_38 hl ho a b dr ok faces few x x0 x1 m0 d m (y + 1) al (by omega) (by omega) (by omega) (by omega)

theorem l_35 {h : D_Heap} (hl : Small h.2.2.2.1) (ho : okHeap h = true) (a b : D_Heap) (dr : Int) (ok : Bool) (faces few : Int) : ∃ m, l_laws_FnCuts_35 N h.1 h.2.1 h.2.2.1 h.2.2.2.1 a.1 a.2.1 a.2.2.1 a.2.2.2.1 b.1 b.2.1 b.2.2.1 b.2.2.2.1 h.1 h.2.1 h.2.2.1 dr ok faces few [] 0 = l_laws_FnCuts_35 (m + 1) h.1 h.2.1 h.2.2.1 h.2.2.2.1 a.1 a.2.1 a.2.2.1 a.2.2.2.1 b.1 b.2.1 b.2.2.1 b.2.2.2.1 h.1 h.2.1 h.2.2.1 dr ok faces few (allCuts h) 3 := by
  obtain ⟨s1, s2, s3⟩ := sides_iff.1 (okHeap_iff.1 ho).1
  obtain ⟨n, hn⟩ : ∃ n, N = n + 4 := ⟨N - 4, by have := N_ge; omega⟩
  have hN := N_ge
  refine ⟨n, ?_⟩
  have a0 := l_38 hl ho a b dr ok faces few 0 (by omega) (by omega) (n + 3) (h.1 - 1).toNat N 1 [] (by simp [side3]; omega) (by omega) (by omega) (by simp; omega)
  have c0 : (cutL h.2.2.2.1 0 (h.1 - 1).toNat 1).length ≤ 4 := by rw [cutL_len]; have := parted_le h.2.2.2.1 0 (h.1 - 1).toNat 1; omega
  have c1 : (cutL h.2.2.2.1 1 (h.2.1 - 1).toNat 1).length ≤ 4 := by rw [cutL_len]; have := parted_le h.2.2.2.1 1 (h.2.1 - 1).toNat 1; omega
  have a1 := l_38 hl ho a b dr ok faces few 1 (by omega) (by omega) (n + 2) (h.2.1 - 1).toNat N 1 (cutL h.2.2.2.1 0 (h.1 - 1).toNat 1) (by simp [side3]; omega) (by omega) (by omega) (by omega)
  have a2 := l_38 hl ho a b dr ok faces few 2 (by omega) (by omega) (n + 1) (h.2.2.1 - 1).toNat N 1 (cutL h.2.2.2.1 0 (h.1 - 1).toNat 1 ++ cutL h.2.2.2.1 1 (h.2.1 - 1).toNat 1) (by simp [side3]; omega) (by omega) (by omega) (by rw [List.length_append]; omega)
  have b0 : ∀ (m : Nat) (al : List D_A2) (x : Int), x < 3 → l_laws_FnCuts_35 (m + 1) h.1 h.2.1 h.2.2.1 h.2.2.2.1 a.1 a.2.1 a.2.2.1 a.2.2.2.1 b.1 b.2.1 b.2.2.1 b.2.2.2.1 h.1 h.2.1 h.2.2.1 dr ok faces few al x = l_laws_FnCuts_38 m N h.1 h.2.1 h.2.2.1 h.2.2.2.1 a.1 a.2.1 a.2.2.1 a.2.2.2.1 b.1 b.2.1 b.2.2.1 b.2.2.2.1 h.1 h.2.1 h.2.2.1 dr ok faces few al x 1 := by
    intro m al x hx
    rw [q_laws_FnCuts_35, decide_eq_true hx]
    rfl
  rw [show l_laws_FnCuts_35 N h.1 h.2.1 h.2.2.1 h.2.2.2.1 a.1 a.2.1 a.2.2.1 a.2.2.2.1 b.1 b.2.1 b.2.2.1 b.2.2.2.1 h.1 h.2.1 h.2.2.1 dr ok faces few [] 0 = l_laws_FnCuts_35 (n + 3 + 1) h.1 h.2.1 h.2.2.1 h.2.2.2.1 a.1 a.2.1 a.2.2.1 a.2.2.2.1 b.1 b.2.1 b.2.2.1 b.2.2.2.1 h.1 h.2.1 h.2.2.1 dr ok faces few [] 0 by rw [hn], b0 (n + 3) _ 0 (by omega), a0, List.nil_append]
  rw [show (0 : Int) + 1 = 1 from rfl, b0 (n + 2) _ 1 (by omega), a1, show (1 : Int) + 1 = 2 from rfl, b0 (n + 1) _ 2 (by omega), a2, show (2 : Int) + 1 = 3 from rfl, List.append_assoc]
  rfl

theorem cut_tail (h : D_Heap) (hl : Small h.2.2.2.1) (d k : Int) (hok : (cutV h d k).2.2.1 = true) : ∃ s t u : Int, P_impl_GlueHeaps ((cutV h d k).1, (cutV h d k).2.1, d, ()) = some (h, true, ()) ∧ P_impl_SurfaceOf ((cutV h d k).1, ()) = some (s, true, ()) ∧ P_impl_SurfaceOf ((cutV h d k).2.1, ()) = some (t, true, ()) ∧ P_impl_SurfaceOf (h, ()) = some (u, true, ()) ∧
    IntKind.wrap .i64 (s + t) = IntKind.wrap .i64 (u + IntKind.wrap .i64 (2 * (cutFacesV h d k).1)) := by
  cases hc : okHeap h && isCut h.1 h.2.1 h.2.2.1 d k with
  | false =>
    unfold cutV at hok
    rw [hc] at hok
    cases hok
  | true =>
    have hc' := hc
    rw [Bool.and_eq_true] at hc'
    obtain ⟨ho, hk⟩ := hc'
    obtain ⟨hs, hi, hr⟩ := okHeap_iff.1 ho
    obtain ⟨d0, d1, _, _⟩ := isCut_iff.1 hk
    have hcv : cutV h d k = (boxWith h.1 h.2.1 h.2.2.1 d k (lowOf h.2.2.2.1 d k), boxWith h.1 h.2.1 h.2.2.1 d (side3 h.1 h.2.1 h.2.2.1 d - k) (highOf h.2.2.2.1 d k), true, ()) := by
      unfold cutV
      rw [hc]
      rfl
    have hfv : (cutFacesV h d k).1 = (cutN h.2.2.2.1 d k : Int) := by
      unfold cutFacesV
      rw [hc]
      rfl
    obtain ⟨oA, oB⟩ := cut_ok h ho hk
    have hsm := cutV_small h hl d k
    rw [hcv] at hsm ⊢
    obtain ⟨sA, iA, rA⟩ := okHeap_iff.1 oA
    obtain ⟨sB, iB, rB⟩ := okHeap_iff.1 oB
    refine ⟨_, _, _, glue_cut h hl ho hk, f_surface sA hsm.1 iA rA, f_surface sB hsm.2 iB rB, f_surface hs hl hi hr, ?_⟩
    have hsu := surf_cut (k := k) hr d0 d1
    have h64 := srt_small64 hs hi hr
    have u1 := sumP_bound h.2.2.2.1 [] h.2.2.2.1
    have hcn : cutN h.2.2.2.1 d k ≤ h.2.2.2.1.length := List.length_filter_le _ _
    have e1 : IntKind.wrap .i64 (2 * (cutN h.2.2.2.1 d k : Int)) = 2 * (cutN h.2.2.2.1 d k : Int) := w64 (by omega) (by omega)
    rw [hfv, e1]
    show IntKind.wrap .i64 (sumP (lowOf h.2.2.2.1 d k) [] (lowOf h.2.2.2.1 d k) + sumP (highOf h.2.2.2.1 d k) [] (highOf h.2.2.2.1 d k)) = IntKind.wrap .i64 (sumP h.2.2.2.1 [] h.2.2.2.1 + 2 * (cutN h.2.2.2.1 d k : Int))
    rw [hsu]
end Go.VI
/- Plain: the law of cuts, joined. -/
namespace Go.VI
open Go.Proofs

theorem allCuts_pieces (h : D_Heap) (hl : Small h.2.2.2.1) (ho : okHeap h = true) : (allCuts h).length = fewest h ∧ ∃ ps : List (List D_A3), P_impl_PiecesAfter (h, allCuts h, ()) = some (ps, true, ()) ∧ ps.length = h.2.2.2.1.length := by
  obtain ⟨hs, hi, hr⟩ := okHeap_iff.1 ho
  obtain ⟨s1, s2, s3⟩ := sides_iff.1 hs
  have hlen := allCuts_len h
  refine ⟨hlen, ?_⟩
  obtain ⟨ps, b, _, e2, e3, e4, _, _⟩ := pieces_full h (allCuts h) hl
  have h12 : (allCuts h).length ≤ 12 := by
    have p0 := parted_le h.2.2.2.1 0 (h.1 - 1).toNat 1
    have p1 := parted_le h.2.2.2.1 1 (h.2.1 - 1).toNat 1
    have p2 := parted_le h.2.2.2.1 2 (h.2.2.1 - 1).toNat 1
    rw [hlen]
    unfold fewest
    omega
  have hk : okCuts h.1 h.2.1 h.2.2.1 (allCuts h) = true := List.all_eq_true.2 fun t ht => ((mem_allCuts hs).1 ht).1
  have hb : b = true := by rw [e3, ho, hk, decide_eq_true h12]; rfl
  rw [hb] at e2
  exact ⟨ps, e2, singles ho (e4 hb)⟩

theorem cuts_finish (h : D_Heap) (hl : Small h.2.2.2.1) (d k : Int) (R : Option (Bool × Unit)) :
    (bif okHeap h then l_laws_FnCuts_35 N h.1 h.2.1 h.2.2.1 h.2.2.2.1 (cutV h d k).1.1 (cutV h d k).1.2.1 (cutV h d k).1.2.2.1 (cutV h d k).1.2.2.2.1 (cutV h d k).2.1.1 (cutV h d k).2.1.2.1 (cutV h d k).2.1.2.2.1 (cutV h d k).2.1.2.2.2.1 h.1 h.2.1 h.2.2.1 d (cutV h d k).2.2.1 (cutFacesV h d k).1 (fewestV h).1 [] 0
      else bif !(cutV h d k).2.2.1 then some (true, ()) else R) = some (true, ()) := by
  cases ho : okHeap h with
  | false =>
    have : (cutV h d k).2.2.1 = false := by unfold cutV; rw [ho]; rfl
    rw [this]
    rfl
  | true =>
    obtain ⟨m, e⟩ := l_35 hl ho (cutV h d k).1 (cutV h d k).2.1 d (cutV h d k).2.2.1 (cutFacesV h d k).1 (fewestV h).1
    obtain ⟨q1, ps, q2, q3⟩ := allCuts_pieces h hl ho
    have hf : (fewestV h).1 = (fewest h : Int) := by unfold fewestV; rw [if_pos ho]
    have q2' : P_impl_PiecesAfter ((h.1, (h.2.1, (h.2.2.1, (h.2.2.2.1, ())))), allCuts h, ()) = some (ps, true, ()) := q2
    simp only [cond_true]
    rw [e, q_laws_FnCuts_35, decide_eq_false (p := (3 : Int) < 3) (by decide), q2']
    simp only [cond_false, Option.bind_some, Bool.not_true]
    rw [decide_eq_true (p := ((allCuts h).length : Int) = (fewestV h).1) (by rw [hf, q1]), decide_eq_true (p := (ps.length : Int) = (h.2.2.2.1.length : Int)) (by rw [q3])]
    simp only [Bool.not_true, cond_false]
    cases hok : (cutV h d k).2.2.1 with
    | false => rfl
    | true =>
      obtain ⟨s, t, u, g1, g2, g3, g4, g5⟩ := cut_tail h hl d k hok
      have g1' : P_impl_GlueHeaps (((cutV h d k).1.1, ((cutV h d k).1.2.1, ((cutV h d k).1.2.2.1, ((cutV h d k).1.2.2.2.1, ())))), ((cutV h d k).2.1.1, ((cutV h d k).2.1.2.1, ((cutV h d k).2.1.2.2.1, ((cutV h d k).2.1.2.2.2.1, ())))), d, ()) = some (h, true, ()) := g1
      have g2' : P_impl_SurfaceOf (((cutV h d k).1.1, ((cutV h d k).1.2.1, ((cutV h d k).1.2.2.1, ((cutV h d k).1.2.2.2.1, ())))), ()) = some (s, true, ()) := g2
      have g3' : P_impl_SurfaceOf (((cutV h d k).2.1.1, ((cutV h d k).2.1.2.1, ((cutV h d k).2.1.2.2.1, ((cutV h d k).2.1.2.2.2.1, ())))), ()) = some (t, true, ()) := g3
      have g4' : P_impl_SurfaceOf ((h.1, (h.2.1, (h.2.2.1, (h.2.2.2.1, ())))), ()) = some (u, true, ()) := g4
      have g6 : P_laws_rHeap (h, (h.1, (h.2.1, (h.2.2.1, (h.2.2.2.1, ())))), ()) = some (true, ()) := f_rHeapC h hl
      simp only [Bool.not_true, cond_false]
      rw [g1', g2', g3', g4']
      simp only [Option.bind_some, cond_true]
      rw [g6, decide_eq_true g5]
      rfl

theorem law_Cuts (C : List Int) (hb : ∀ b ∈ C, 0 ≤ b ∧ b ≤ 255) : P_laws_FnCuts (C, ()) = some (true, ()) := by
  rw [p_laws_FnCuts, p_laws_rBig]
  simp only [Option.bind_some]
  by_cases hbig : (C.length : Int) > 65536
  · rw [decide_eq_true hbig]; rfl
  have hC : Bts C := ⟨by omega, hb⟩
  rw [decide_eq_false hbig]
  simp only [cond_false]
  obtain ⟨h, d, k, d1, hl0⟩ := d_CutHeap hC
  have hl : Small h.2.2.2.1 := by unfold Small; omega
  obtain ⟨g, cuts, d2, gl⟩ := d_Pieces hC
  obtain ⟨c, e, dr, d3, cl, el⟩ := d_Glue hC
  have csm : Small c.2.2.2.1 := by unfold Small; omega
  have esm : Small e.2.2.2.1 := by unfold Small; omega
  have hcs := cutV_small h hl d k
  have c1 := f_impl_CutHeap h hl d k
  have c2 := f_spec_CutHeap h hl d k
  have c3 := f_rHeapC (cutV h d k).1 hcs.1
  have c4 := f_rHeapC (cutV h d k).2.1 hcs.2
  have f1 := f_impl_CutFaces h hl d k
  have f2 := f_spec_CutFaces h hl d k
  have ff : (cutFacesV h d k).2.1 = (cutV h d k).2.2.1 := by unfold cutFacesV cutV; cases okHeap h && isCut h.1 h.2.1 h.2.2.1 d k <;> rfl
  obtain ⟨ps, two, p1, p2, p3, p4, p5, p6⟩ := pieces_full g cuts gl
  have hps : ∀ p ∈ ps, Small p := by
    intro p hp
    cases hb2 : two with
    | false => rw [p6 hb2] at hp; cases hp
    | true =>
      have hP := p4 hb2
      have hle : p.length ≤ (ps.map List.length).sum := by
        have : ∀ l : List (List D_A3), p ∈ l → p.length ≤ (l.map List.length).sum := by
          intro l
          induction l with
          | nil => intro hh; cases hh
          | cons a r ih =>
            intro hh
            rw [List.map_cons, List.sum_cons]
            rcases List.mem_cons.1 hh with rfl | hh
            · omega
            · have := ih hh; omega
        exact this ps hp
      have := hP.tot
      have hgl := gl
      unfold Small at hgl ⊢
      omega
  have p7 := f_rLists ps (by omega) hps
  obtain ⟨r, g1, g2, g3, g4⟩ := glue_full c e dr csm esm (by omega)
  have g5 := f_rHeapC r.1 g3
  have w1 := f_impl_FewestCuts h hl
  have w2 := f_spec_FewestCuts h hl
  have wf : (fewestV h).2.1 = okHeap h := by unfold fewestV; cases okHeap h <;> rfl
  simp only [d1, c1, c2, c3, c4, f1, f2, d2, p1, p2, p7, d3, g1, g2, g5, w1, w2, f_impl_IsHeap h hl, Option.bind_some, beq_self_eq_true, decide_true, Bool.not_true, cond_false]
  rw [ff, wf]
  simp only [beq_self_eq_true, Bool.not_true, cond_false]
  have three : ∀ R : Option (Bool × Unit), R = some (true, ()) → (bif r.2.1 then bif !decide ((r.1.2.2.2.1.length : Int) = IntKind.wrap .i64 ((c.2.2.2.1.length : Int) + (e.2.2.2.1.length : Int))) then some (false, ()) else R else R) = some (true, ()) := by
    intro R hR
    cases hr : r.2.1 with
    | false => exact hR
    | true =>
      have hlen := glued_len g4 hr
      rw [decide_eq_true (p := (r.1.2.2.2.1.length : Int) = IntKind.wrap .i64 ((c.2.2.2.1.length : Int) + (e.2.2.2.1.length : Int))) (by rw [hlen, w64 (by omega) (by omega)]; omega)]
      exact hR
  cases hb2 : two with
  | false =>
    simp only [cond_false]
    exact three _ (cuts_finish h hl d k _)
  | true =>
    have hP := p4 hb2
    have hog : okHeap g = true := by
      rw [hb2] at p3
      have := p3.symm
      rw [Bool.and_eq_true] at this
      exact this.1
    obtain ⟨R, H, q1, q2, q3⟩ := parts_full g gl hog
    have hle := parts_le hP q3
    have htot := hP.tot
    simp only [List.length_nil, Nat.add_zero] at htot
    obtain ⟨gs, gi, gr⟩ := okHeap_iff.1 hog
    have h64 := srt_small64 gs gi gr
    have hra := f_rAll ps (by omega) (by rw [htot]; omega)
    rw [htot] at hra
    simp only [cond_true, q1, hra, Option.bind_some, Bool.not_true, cond_false]
    rw [decide_eq_false (p := (ps.length : Int) < (R.length : Int)) (by omega)]
    simp only [decide_true, Bool.not_true, cond_false]
    exact three _ (cuts_finish h hl d k _)
end Go.VI
