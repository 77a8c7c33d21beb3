/- Plain: acts that lead back. -/
import Derived.Test.YtaopponjedombaaGreatPlX
namespace Go.VI
open Go.Proofs

theorem sorted_ex {X Y Z : Int} (hs : sides X Y Z = true) (k : List D_A3) (hk : Ins X Y Z k) : ∃ l', Srt l' ∧ Ins X Y Z l' ∧ ∀ x, x ∈ l' ↔ x ∈ k := by
  refine ⟨bitCells X Y Z (mask Y Z k 0), srt_listOf hs _, ?_, ?_⟩
  · intro c hc
    exact ((mem_listOf hs _ c).1 hc).1
  · intro c
    rw [mem_listOf hs]
    constructor
    · rintro ⟨w1, w2⟩
      rw [mask_mem hs hk w1] at w2
      simpa using w2
    · intro hc
      have w1 := hk c hc
      refine ⟨w1, ?_⟩
      rw [mask_mem hs hk w1]
      exact decide_eq_true hc

theorem some_bool {α : Type} {r : α × Bool × Unit} {x : α} (e : some (x, false, ()) = some r) (hr : r.2.1 = true) : False := by
  rw [← Option.some.inj e] at hr
  cases hr

/-! ### Put and take -/
theorem put_ok {h : D_Heap} {c : D_A3} (hl : Small h.2.2.2.1) {r : D_Heap × Bool × Unit} (e : P_impl_PutCube (h, c, ()) = some r) (hr : r.2.1 = true) : okHeap h = true ∧ within3 h.1 h.2.1 h.2.2.1 c = true ∧ c ∉ h.2.2.2.1 := by
  rw [p_impl_PutCube, p_impl_isCell, f_impl_IsHeap _ hl] at e
  cases ho : okHeap h with
  | false => rw [ho] at e; exact (some_bool e hr).elim
  | true =>
    obtain ⟨hs, hi, hr'⟩ := okHeap_iff.1 ho
    rw [ho, f_Heap_box] at e
    simp only [Option.bind_some, cond_true] at e
    rw [f_box_has _ _ hs] at e
    simp only [Option.bind_some] at e
    cases hw : within3 h.1 h.2.1 h.2.2.1 c with
    | false => rw [hw] at e; exact (some_bool e hr).elim
    | true =>
      have f2 : P_Heap_hasCube (h, c, ()) = some (decide (c ∈ h.2.2.2.1), ()) := f_hasCube hs hl hi hw
      rw [hw, f2] at e
      simp only [Bool.not_true, cond_false, Option.bind_some] at e
      by_cases hm : c ∈ h.2.2.2.1
      · rw [decide_eq_true hm] at e
        exact (some_bool e hr).elim
      · exact ⟨rfl, rfl, hm⟩

theorem put_is {h : D_Heap} {c : D_A3} (hl : Small h.2.2.2.1) (ho : okHeap h = true) (hw : within3 h.1 h.2.1 h.2.2.1 c = true) (hm : c ∉ h.2.2.2.1) {l' : List D_A3} (g2 : Srt l') (g3 : ∀ x, x ∈ l' ↔ x = c ∨ x ∈ h.2.2.2.1) : P_impl_PutCube (h, c, ()) = some ((h.1, h.2.1, h.2.2.1, l', ()), true, ()) := by
  obtain ⟨hs, hi, hr⟩ := okHeap_iff.1 ho
  rw [p_impl_PutCube, p_impl_isCell, f_impl_IsHeap _ hl, ho, f_Heap_box]
  simp only [Option.bind_some, cond_true]
  rw [f_box_has _ _ hs, hw]
  simp only [Option.bind_some]
  have f2 : P_Heap_hasCube (h, c, ()) = some (decide (c ∈ h.2.2.2.1), ()) := f_hasCube hs hl hi hw
  rw [f2, decide_eq_false hm]
  simp only [Bool.not_true, cond_false, Option.bind_some]
  have f3 : P_Heap_cubes (h, ()) = _ := f_Heap_cubes hs hl hi
  rw [f3, f_box_index hs hw]
  simp only [Option.bind_some]
  have hins : Ins h.1 h.2.1 h.2.2.1 (h.2.2.2.1 ++ [c]) := fun x hx => by
    rcases List.mem_append.1 hx with hx | hx
    · exact hi x hx
    · rw [List.mem_singleton.1 hx]; exact hw
  rw [decide_eq_true (p := (0 : Int) ≤ (idx h.2.1 h.2.2.1 c : Int)) (by omega), shl64, or64]
  have e : mask h.2.1 h.2.2.1 h.2.2.2.1 0 ||| BitVec.twoPow 64 (idx h.2.1 h.2.2.1 c) = mask h.2.1 h.2.2.1 (h.2.2.2.1 ++ [c]) 0 := by rw [mask_append]; rfl
  rw [e, heap_is hs (setIs_mask hs hins) g2 (fun x => by
    rw [g3, decide_eq_true_eq, List.mem_append, List.mem_singleton]
    constructor
    · rintro (rfl | hx)
      · exact ⟨hw, .inr rfl⟩
      · exact ⟨hi x hx, .inl hx⟩
    · rintro ⟨_, hx | hx⟩
      · exact .inr hx
      · exact .inl hx)]
  rfl

theorem take_ok {h : D_Heap} {c : D_A3} (hl : Small h.2.2.2.1) {r : D_Heap × Bool × Unit} (e : P_impl_TakeCube (h, c, ()) = some r) (hr : r.2.1 = true) : okHeap h = true ∧ within3 h.1 h.2.1 h.2.2.1 c = true ∧ c ∈ h.2.2.2.1 := by
  rw [p_impl_TakeCube, p_impl_isCell, f_impl_IsHeap _ hl] at e
  cases ho : okHeap h with
  | false => rw [ho] at e; exact (some_bool e hr).elim
  | true =>
    obtain ⟨hs, hi, hr'⟩ := okHeap_iff.1 ho
    rw [ho, f_Heap_box] at e
    simp only [Option.bind_some, cond_true] at e
    rw [f_box_has _ _ hs] at e
    simp only [Option.bind_some] at e
    cases hw : within3 h.1 h.2.1 h.2.2.1 c with
    | false => rw [hw] at e; exact (some_bool e hr).elim
    | true =>
      have f2 : P_Heap_hasCube (h, c, ()) = some (decide (c ∈ h.2.2.2.1), ()) := f_hasCube hs hl hi hw
      rw [hw, f2] at e
      simp only [Bool.not_true, cond_false, Option.bind_some] at e
      by_cases hm : c ∈ h.2.2.2.1
      · exact ⟨rfl, rfl, hm⟩
      · rw [decide_eq_false hm] at e
        exact (some_bool e hr).elim

theorem take_is {h : D_Heap} {c : D_A3} (hl : Small h.2.2.2.1) (ho : okHeap h = true) (hw : within3 h.1 h.2.1 h.2.2.1 c = true) (hm : c ∈ h.2.2.2.1) {l' : List D_A3} (g2 : Srt l') (g3 : ∀ x, x ∈ l' ↔ x ∈ h.2.2.2.1 ∧ x ≠ c) : P_impl_TakeCube (h, c, ()) = some ((h.1, h.2.1, h.2.2.1, l', ()), true, ()) := by
  obtain ⟨hs, hi, hr⟩ := okHeap_iff.1 ho
  rw [p_impl_TakeCube, p_impl_isCell, f_impl_IsHeap _ hl, ho, f_Heap_box]
  simp only [Option.bind_some, cond_true]
  rw [f_box_has _ _ hs, hw]
  simp only [Option.bind_some]
  have f2 : P_Heap_hasCube (h, c, ()) = some (decide (c ∈ h.2.2.2.1), ()) := f_hasCube hs hl hi hw
  rw [f2, decide_eq_true hm]
  simp only [Bool.not_true, cond_false, Option.bind_some]
  have f3 : P_Heap_cubes (h, ()) = _ := f_Heap_cubes hs hl hi
  rw [f3, f_box_index hs hw]
  simp only [Option.bind_some]
  rw [decide_eq_true (p := (0 : Int) ≤ (idx h.2.1 h.2.2.1 c : Int)) (by omega), shl64, andNot64]
  rw [heap_is hs (setIs_less hs hi hw) g2 (fun x => by
    rw [g3, Bool.and_eq_true, decide_eq_true_eq, Bool.not_eq_true', decide_eq_false_iff_not]
    constructor
    · rintro ⟨a, b⟩; exact ⟨hi x a, a, b⟩
    · rintro ⟨_, a, b⟩; exact ⟨a, b⟩)]
  rfl

theorem put_back {h : D_Heap} {c : D_A3} (hl : Small h.2.2.2.1) {r : D_Heap × Bool × Unit} (e : P_impl_PutCube (h, c, ()) = some r) (hr : r.2.1 = true) : P_impl_TakeCube (r.1, c, ()) = some (h, true, ()) := by
  obtain ⟨ho, hw, hm⟩ := put_ok hl e hr
  obtain ⟨hs, hi, hso⟩ := okHeap_iff.1 ho
  obtain ⟨l', s1, s2, s3⟩ := sorted_ex hs (c :: h.2.2.2.1) (fun x hx => by
    rcases List.mem_cons.1 hx with rfl | hx
    · exact hw
    · exact hi x hx)
  have s3' : ∀ x, x ∈ l' ↔ x = c ∨ x ∈ h.2.2.2.1 := fun x => by rw [s3, List.mem_cons]
  rw [put_is hl ho hw hm s1 s3'] at e
  rw [← Option.some.inj e]
  have ho' : okHeap ((h.1, h.2.1, h.2.2.1, l', ()) : D_Heap) = true := okHeap_iff.2 ⟨hs, s2, s1⟩
  exact take_is (h := (h.1, h.2.1, h.2.2.1, l', ())) (small64 (srt_small64 hs s2 s1)) ho' hw ((s3' c).2 (.inl rfl)) hso (fun x => by
    show x ∈ h.2.2.2.1 ↔ x ∈ l' ∧ x ≠ c
    rw [s3']
    constructor
    · intro hx
      exact ⟨.inr hx, fun hc => hm (hc ▸ hx)⟩
    · rintro ⟨hx | hx, hn⟩
      · exact absurd hx hn
      · exact hx)

theorem take_back {h : D_Heap} {c : D_A3} (hl : Small h.2.2.2.1) {r : D_Heap × Bool × Unit} (e : P_impl_TakeCube (h, c, ()) = some r) (hr : r.2.1 = true) : P_impl_PutCube (r.1, c, ()) = some (h, true, ()) := by
  obtain ⟨ho, hw, hm⟩ := take_ok hl e hr
  obtain ⟨hs, hi, hso⟩ := okHeap_iff.1 ho
  have s1 : Srt (h.2.2.2.1.filter fun x => !decide (x = c)) := hso.filter _
  have s2 : Ins h.1 h.2.1 h.2.2.1 (h.2.2.2.1.filter fun x => !decide (x = c)) := hi.filter _
  have s3 : ∀ x, x ∈ (h.2.2.2.1.filter fun x => !decide (x = c)) ↔ x ∈ h.2.2.2.1 ∧ x ≠ c := fun x => by
    rw [List.mem_filter, Bool.not_eq_true', decide_eq_false_iff_not]
  rw [take_is hl ho hw hm s1 s3] at e
  rw [← Option.some.inj e]
  have ho' : okHeap ((h.1, h.2.1, h.2.2.1, (h.2.2.2.1.filter fun x => !decide (x = c)), ()) : D_Heap) = true := okHeap_iff.2 ⟨hs, s2, s1⟩
  exact put_is (h := (h.1, h.2.1, h.2.2.1, (h.2.2.2.1.filter fun x => !decide (x = c)), ())) (small64 (srt_small64 hs s2 s1)) ho' hw (fun hc => ((s3 c).1 hc).2 rfl) hso (fun x => by
    show x ∈ h.2.2.2.1 ↔ x = c ∨ x ∈ (h.2.2.2.1.filter fun x => !decide (x = c))
    rw [s3]
    constructor
    · intro hx
      by_cases hc : x = c
      · exact .inl hc
      · exact .inr ⟨hx, hc⟩
    · rintro (rfl | ⟨hx, _⟩)
      · exact hm
      · exact hx)

/-! ### Other cells -/
theorem other_ok {h : D_Heap} (hl : Small h.2.2.2.1) {r : D_Heap × Bool × Unit} (e : P_impl_OtherCells (h, ()) = some r) (hr : r.2.1 = true) : okHeap h = true := by
  rw [p_impl_OtherCells, f_impl_IsHeap _ hl] at e
  cases ho : okHeap h with
  | false => rw [ho] at e; exact (some_bool e hr).elim
  | true => rfl

theorem other_is {h : D_Heap} (hl : Small h.2.2.2.1) (ho : okHeap h = true) {l' : List D_A3} (g2 : Srt l') (g3 : ∀ x, x ∈ l' ↔ within3 h.1 h.2.1 h.2.2.1 x = true ∧ x ∉ h.2.2.2.1) : P_impl_OtherCells (h, ()) = some ((h.1, h.2.1, h.2.2.1, l', ()), true, ()) := by
  obtain ⟨hs, hi, hr⟩ := okHeap_iff.1 ho
  have f3 : P_Heap_cubes (h, ()) = _ := f_Heap_cubes hs hl hi
  rw [p_impl_OtherCells, f_impl_IsHeap _ hl, ho, f_Heap_box]
  simp only [Option.bind_some, Bool.not_true, cond_false]
  rw [f_box_full hs, f3]
  simp only [Option.bind_some]
  rw [andNot64, heap_is hs (setIs_other hs hi) g2 (fun x => by rw [g3, Bool.not_eq_true', decide_eq_false_iff_not])]
  rfl

theorem other_back {h : D_Heap} (hl : Small h.2.2.2.1) {r : D_Heap × Bool × Unit} (e : P_impl_OtherCells (h, ()) = some r) (hr : r.2.1 = true) : P_impl_OtherCells (r.1, ()) = some (h, true, ()) := by
  have ho := other_ok hl e hr
  obtain ⟨hs, hi, hso⟩ := okHeap_iff.1 ho
  obtain ⟨a1, a2, a3⟩ := allCells_ok hs
  have s1 : Srt ((allCells h.1 h.2.1 h.2.2.1).filter fun x => !decide (x ∈ h.2.2.2.1)) := a3.filter _
  have s2 : Ins h.1 h.2.1 h.2.2.1 ((allCells h.1 h.2.1 h.2.2.1).filter fun x => !decide (x ∈ h.2.2.2.1)) := a2.filter _
  have s3 : ∀ x, x ∈ ((allCells h.1 h.2.1 h.2.2.1).filter fun x => !decide (x ∈ h.2.2.2.1)) ↔ within3 h.1 h.2.1 h.2.2.1 x = true ∧ x ∉ h.2.2.2.1 := fun x => by
    rw [List.mem_filter, mem_allCells hs, Bool.not_eq_true', decide_eq_false_iff_not]
  rw [other_is hl ho s1 s3] at e
  rw [← Option.some.inj e]
  have ho' : okHeap ((h.1, h.2.1, h.2.2.1, ((allCells h.1 h.2.1 h.2.2.1).filter fun x => !decide (x ∈ h.2.2.2.1)), ()) : D_Heap) = true := okHeap_iff.2 ⟨hs, s2, s1⟩
  exact other_is (h := (h.1, h.2.1, h.2.2.1, ((allCells h.1 h.2.1 h.2.2.1).filter fun x => !decide (x ∈ h.2.2.2.1)), ())) (small64 (srt_small64 hs s2 s1)) ho' hso (fun x => by
    show x ∈ h.2.2.2.1 ↔ within3 h.1 h.2.1 h.2.2.1 x = true ∧ x ∉ ((allCells h.1 h.2.1 h.2.2.1).filter fun x => !decide (x ∈ h.2.2.2.1))
    rw [s3]
    constructor
    · intro hx
      exact ⟨hi x hx, fun hn => hn.2 hx⟩
    · rintro ⟨hw, hn⟩
      exact Classical.byContradiction fun hx => hn ⟨hw, hx⟩)

/-! ### Mirrored ones -/
theorem mirror_ok {h : D_Heap} {d : Int} (hl : Small h.2.2.2.1) {r : D_Heap × Bool × Unit} (e : P_impl_MirrorHeap (h, d, ()) = some r) (hr : r.2.1 = true) : okHeap h = true ∧ 0 ≤ d ∧ d ≤ 2 := by
  rw [p_impl_MirrorHeap, f_impl_IsHeap _ hl, isDir] at e
  cases ho : okHeap h with
  | false => rw [ho] at e; exact (some_bool e hr).elim
  | true =>
    rw [ho] at e
    simp only [Option.bind_some, Bool.not_true, cond_false] at e
    cases hd : decide (0 ≤ d) && decide (d ≤ 2) with
    | false => rw [hd] at e; exact (some_bool e hr).elim
    | true =>
      simp only [Bool.and_eq_true, decide_eq_true_eq] at hd
      exact ⟨rfl, hd⟩

theorem mirror_is {h : D_Heap} {d : Int} (hl : Small h.2.2.2.1) (ho : okHeap h = true) (d0 : 0 ≤ d) (d1 : d ≤ 2) {l' : List D_A3} (e2 : Srt l') (e3 : ∀ x, x ∈ l' ↔ x ∈ h.2.2.2.1.map (mirC h.1 h.2.1 h.2.2.1 d)) : P_impl_MirrorHeap (h, d, ()) = some ((h.1, h.2.1, h.2.2.1, l', ()), true, ()) := by
  obtain ⟨hs, hi, hr⟩ := okHeap_iff.1 ho
  rw [p_impl_MirrorHeap, f_impl_IsHeap _ hl, isDir, ho, decide_eq_true d0, decide_eq_true d1, f_Heap_box]
  simp only [Option.bind_some, Bool.and_self, Bool.not_true, cond_false]
  have hF : ∀ c ∈ h.2.2.2.1, (fun (y : D_A3 × Unit) => P_impl_MirrorHeap_1 (y.1, h, d, ())) (c, ()) = some (mirC h.1 h.2.1 h.2.2.1 d c, ()) ∧ within3 h.1 h.2.1 h.2.2.1 (mirC h.1 h.2.1 h.2.2.1 d c) = true := by
    intro c hc
    refine ⟨?_, mirC_in (hi c hc)⟩
    show P_impl_MirrorHeap_1 (c, h, d, ()) = _
    rw [p_impl_MirrorHeap_1, f_Heap_box]
    simp only [Option.bind_some]
    rw [p_box_mirror, inB_dir d0 d1]
    simp only [cond_true, Option.bind_some]
    rw [mir_text hs d0 d1 (hi c hc) (h.1, h.2.1, h.2.2.1, ()) rfl]
  have fm : P_Heap_moved (h, (h.1, h.2.1, h.2.2.1, ()), (fun (y : D_A3 × Unit) => P_impl_MirrorHeap_1 (y.1, h, d, ())), ()) = _ := f_moved (X := h.1) (Y := h.2.1) (Z := h.2.2.1) hs hl hF
  rw [fm, moved_is hs (fun c hc => (hF c hc).2) e2 e3]
  rfl

theorem mirC_mirC (X Y Z d : Int) (c : D_A3) : mirC X Y Z d (mirC X Y Z d c) = c := by
  apply cell_ext <;> simp only [mirC]
  · by_cases h : d = 0
    · rw [decide_eq_true h]; simp only [cond_true]; omega
    · rw [decide_eq_false h]; rfl
  · by_cases h : d = 1
    · rw [decide_eq_true h]; simp only [cond_true]; omega
    · rw [decide_eq_false h]; rfl
  · by_cases h : d = 2
    · rw [decide_eq_true h]; simp only [cond_true]; omega
    · rw [decide_eq_false h]; rfl

theorem mem_mapped {g g' : D_A3 → D_A3} (hg : ∀ c, g' (g c) = c) {l l' : List D_A3} (h : ∀ x, x ∈ l' ↔ x ∈ l.map g) (x : D_A3) : x ∈ l ↔ x ∈ l'.map g' := by
  constructor
  · intro hx
    exact List.mem_map.2 ⟨g x, (h _).2 (List.mem_map.2 ⟨x, hx, rfl⟩), hg x⟩
  · intro hx
    obtain ⟨y, hy, rfl⟩ := List.mem_map.1 hx
    obtain ⟨z, hz, rfl⟩ := List.mem_map.1 ((h y).1 hy)
    rw [hg]
    exact hz

theorem mirror_back {h : D_Heap} {d : Int} (hl : Small h.2.2.2.1) {r : D_Heap × Bool × Unit} (e : P_impl_MirrorHeap (h, d, ()) = some r) (hr : r.2.1 = true) : P_impl_MirrorHeap (r.1, d, ()) = some (h, true, ()) := by
  obtain ⟨ho, d0, d1⟩ := mirror_ok hl e hr
  obtain ⟨hs, hi, hso⟩ := okHeap_iff.1 ho
  obtain ⟨l', s1, s2, s3⟩ := sorted_ex hs (h.2.2.2.1.map (mirC h.1 h.2.1 h.2.2.1 d)) (fun x hx => by
    obtain ⟨c, hc, rfl⟩ := List.mem_map.1 hx
    exact mirC_in (hi c hc))
  rw [mirror_is hl ho d0 d1 s1 s3] at e
  rw [← Option.some.inj e]
  have ho' : okHeap ((h.1, h.2.1, h.2.2.1, l', ()) : D_Heap) = true := okHeap_iff.2 ⟨hs, s2, s1⟩
  exact mirror_is (h := (h.1, h.2.1, h.2.2.1, l', ())) (small64 (srt_small64 hs s2 s1)) ho' d0 d1 hso (fun x => mem_mapped (mirC_mirC h.1 h.2.1 h.2.2.1 d) s3 x)

/-! ### Exchanged sides -/
theorem swap_ok {h : D_Heap} {a b : Int} (hl : Small h.2.2.2.1) {r : D_Heap × Bool × Unit} (e : P_impl_SwapSides (h, a, b, ()) = some r) (hr : r.2.1 = true) : okHeap h = true ∧ (0 ≤ a ∧ a ≤ 2) ∧ (0 ≤ b ∧ b ≤ 2) := by
  rw [p_impl_SwapSides, f_impl_IsHeap _ hl, isDir, isDir] at e
  cases ho : okHeap h with
  | false => rw [ho] at e; exact (some_bool e hr).elim
  | true =>
    rw [ho] at e
    simp only [Option.bind_some, Bool.not_true, cond_false] at e
    cases ha : decide (0 ≤ a) && decide (a ≤ 2) with
    | false => rw [ha] at e; exact (some_bool e hr).elim
    | true =>
      rw [ha] at e
      cases hb : decide (0 ≤ b) && decide (b ≤ 2) with
      | false => rw [hb] at e; exact (some_bool e hr).elim
      | true =>
        simp only [Bool.and_eq_true, decide_eq_true_eq] at ha hb
        exact ⟨rfl, ha, hb⟩

theorem swap_is {h : D_Heap} {a b : Int} (hl : Small h.2.2.2.1) (ho : okHeap h = true) (ha : 0 ≤ a ∧ a ≤ 2) (hb : 0 ≤ b ∧ b ≤ 2) {l' : List D_A3} (e2 : Srt l') (e3 : ∀ x, x ∈ l' ↔ x ∈ h.2.2.2.1.map (swC a b)) : P_impl_SwapSides (h, a, b, ()) = some (((swC a b (h.1, h.2.1, h.2.2.1, ())).1, (swC a b (h.1, h.2.1, h.2.2.1, ())).2.1, (swC a b (h.1, h.2.1, h.2.2.1, ())).2.2.1, l', ()), true, ()) := by
  obtain ⟨hs, hi, hr⟩ := okHeap_iff.1 ho
  have hS := sw_sides hs ha.1 ha.2 hb.1 hb.2
  have hF : ∀ c ∈ h.2.2.2.1, (fun (y : D_A3 × Unit) => P_impl_SwapSides_1 (y.1, b, a, ())) (c, ()) = some (swC a b c, ()) ∧ within3 (swC a b (h.1, h.2.1, h.2.2.1, ())).1 (swC a b (h.1, h.2.1, h.2.2.1, ())).2.1 (swC a b (h.1, h.2.1, h.2.2.1, ())).2.2.1 (swC a b c) = true := by
    intro c hc
    refine ⟨?_, sw_in ha.1 ha.2 hb.1 hb.2 (hi c hc)⟩
    show P_impl_SwapSides_1 (c, b, a, ()) = _
    rw [p_impl_SwapSides_1, inB_dir ha.1 ha.2, inB_dir hb.1 hb.2]
    rfl
  have fm := f_moved (X := h.1) (Y := h.2.1) (Z := h.2.2.1) hS hl (g := swC a b) (F := fun (y : D_A3 × Unit) => P_impl_SwapSides_1 (y.1, b, a, ())) hF
  rw [moved_is hS (fun c hc => (hF c hc).2) e2 e3] at fm
  rw [p_impl_SwapSides, f_impl_IsHeap _ hl, isDir, isDir, ho, decide_eq_true ha.1, decide_eq_true ha.2, decide_eq_true hb.1, decide_eq_true hb.2, f_Heap_box]
  simp only [Option.bind_some, Bool.and_self, Bool.not_true, cond_false]
  rw [inB_dir ha.1 ha.2, inB_dir hb.1 hb.2]
  exact congrArg (fun o => Option.bind o fun r11 => some (r11.1, true, ())) fm

theorem swC_swC {a b : Int} (ha : 0 ≤ a ∧ a ≤ 2) (hb : 0 ≤ b ∧ b ≤ 2) (c : D_A3) : swC a b (swC a b c) = c := by
  rcases dir ha.1 ha.2 with rfl | rfl | rfl <;> rcases dir hb.1 hb.2 with rfl | rfl | rfl <;> simp [swC, get3]

theorem swap_back {h : D_Heap} {a b : Int} (hl : Small h.2.2.2.1) {r : D_Heap × Bool × Unit} (e : P_impl_SwapSides (h, a, b, ()) = some r) (hr : r.2.1 = true) : P_impl_SwapSides (r.1, a, b, ()) = some (h, true, ()) := by
  obtain ⟨ho, ha, hb⟩ := swap_ok hl e hr
  obtain ⟨hs, hi, hso⟩ := okHeap_iff.1 ho
  have hS := sw_sides hs ha.1 ha.2 hb.1 hb.2
  obtain ⟨l', s1, s2, s3⟩ := sorted_ex hS (h.2.2.2.1.map (swC a b)) (fun x hx => by
    obtain ⟨c, hc, rfl⟩ := List.mem_map.1 hx
    exact sw_in ha.1 ha.2 hb.1 hb.2 (hi c hc))
  rw [swap_is hl ho ha hb s1 s3] at e
  rw [← Option.some.inj e]
  have ho' : okHeap (((swC a b (h.1, h.2.1, h.2.2.1, ())).1, (swC a b (h.1, h.2.1, h.2.2.1, ())).2.1, (swC a b (h.1, h.2.1, h.2.2.1, ())).2.2.1, l', ()) : D_Heap) = true := okHeap_iff.2 ⟨hS, s2, s1⟩
  have := swap_is (h := ((swC a b (h.1, h.2.1, h.2.2.1, ())).1, (swC a b (h.1, h.2.1, h.2.2.1, ())).2.1, (swC a b (h.1, h.2.1, h.2.2.1, ())).2.2.1, l', ())) (small64 (srt_small64 hS s2 s1)) ho' ha hb hso (fun x => mem_mapped (swC_swC ha hb) s3 x)
  have e4 : swC a b ((swC a b (h.1, h.2.1, h.2.2.1, ())).1, (swC a b (h.1, h.2.1, h.2.2.1, ())).2.1, (swC a b (h.1, h.2.1, h.2.2.1, ())).2.2.1, ()) = (h.1, h.2.1, h.2.2.1, ()) := swC_swC ha hb (h.1, h.2.1, h.2.2.1, ())
  simp only [e4] at this
  exact this
end Go.VI
