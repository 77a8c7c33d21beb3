/- Plain: sorted lists of cells and their sets. -/
import Derived.Test.YtaopponjedombaaGreatPlB
namespace Go.VI
open Go.Proofs

/-! ### Sorted lists -/
def Srt (l : List D_A3) : Prop := l.Pairwise fun a b => ltC a b = true
def Ins (X Y Z : Int) (l : List D_A3) : Prop := ∀ c ∈ l, within3 X Y Z c = true

theorem okTail_iff (X Y Z : Int) : ∀ (l : List D_A3) (p : Option D_A3), okTail X Y Z p l = true ↔ Ins X Y Z l ∧ Srt l ∧ ∀ q, p = some q → ∀ c ∈ l, ltC q c = true
  | [], p => by simp [okTail, Ins, Srt]
  | c :: r, p => by
    simp only [okTail, Bool.and_eq_true, okTail_iff X Y Z r (some c), Ins, Srt, List.pairwise_cons, List.mem_cons, forall_eq_or_imp]
    constructor
    · rintro ⟨⟨h1, h2⟩, h3, h4, h5⟩
      refine ⟨⟨h1, h3⟩, ⟨h5 c rfl, h4⟩, ?_⟩
      rintro q rfl
      simp only at h2
      exact ⟨h2, fun d hd => ltC_trans h2 (h5 c rfl d hd)⟩
    · rintro ⟨⟨h1, h3⟩, ⟨h5, h4⟩, h6⟩
      refine ⟨⟨h1, ?_⟩, h3, h4, ?_⟩
      · cases p with
        | none => rfl
        | some q => exact (h6 q rfl).1
      · rintro q ⟨⟩
        exact h5

theorem okHeap_iff {h : D_Heap} : okHeap h = true ↔ sides h.1 h.2.1 h.2.2.1 = true ∧ Ins h.1 h.2.1 h.2.2.1 h.2.2.2.1 ∧ Srt h.2.2.2.1 := by
  unfold okHeap
  rw [Bool.and_eq_true, okTail_iff]
  simp

theorem srt_ext : ∀ (l l' : List D_A3), Srt l → Srt l' → (∀ c, c ∈ l ↔ c ∈ l') → l = l'
  | [], [], _, _, _ => rfl
  | [], b :: r', _, _, h => by have := (h b).2 (by simp); simp at this
  | a :: r, [], _, _, h => by have := (h a).1 (by simp); simp at this
  | a :: r, b :: r', h1, h2, h => by
    unfold Srt at h1 h2
    rw [List.pairwise_cons] at h1 h2
    have hab : a = b := by
      have ha := (h a).1 (by simp)
      have hb := (h b).2 (by simp)
      rcases List.mem_cons.1 ha with e | ha'
      · exact e
      · rcases List.mem_cons.1 hb with e | hb'
        · exact e.symm
        · have x1 := h2.1 a ha'
          have x2 := h1.1 b hb'
          have := ltC_trans x1 x2
          rw [ltC_irrefl] at this
          cases this
    subst hab
    have nr : ∀ c ∈ r, c ≠ a := fun c hc e => by have := h1.1 c hc; rw [e, ltC_irrefl] at this; cases this
    have nr' : ∀ c ∈ r', c ≠ a := fun c hc e => by have := h2.1 c hc; rw [e, ltC_irrefl] at this; cases this
    refine congrArg _ (srt_ext r r' h1.2 h2.2 fun c => ⟨fun hc => ?_, fun hc => ?_⟩)
    · rcases List.mem_cons.1 ((h c).1 (by simp [hc])) with e | k
      · exact absurd e (nr c hc)
      · exact k
    · rcases List.mem_cons.1 ((h c).2 (by simp [hc])) with e | k
      · exact absurd e (nr' c hc)
      · exact k

theorem Srt.filter {l : List D_A3} (h : Srt l) (p : D_A3 → Bool) : Srt (l.filter p) := List.Pairwise.filter p h
theorem Ins.filter {X Y Z : Int} {l : List D_A3} (h : Ins X Y Z l) (p : D_A3 → Bool) : Ins X Y Z (l.filter p) := fun c hc => h c (List.mem_filter.1 hc).1
theorem Srt.nodup {l : List D_A3} (h : Srt l) : l.Nodup := List.Pairwise.imp (fun {a b} hab e => by rw [e, ltC_irrefl] at hab; cases hab) h

/-! ### Masks -/
def mask (Y Z : Int) (l : List D_A3) (v : BitVec 64) : BitVec 64 := l.foldl (fun v c => v ||| BitVec.twoPow 64 (idx Y Z c)) v

theorem mask_bit (Y Z : Int) (i : Nat) : ∀ (l : List D_A3) (v : BitVec 64), (mask Y Z l v).getLsbD i = (v.getLsbD i || (decide (i < 64) && l.any fun c => decide (idx Y Z c = i)))
  | [], v => by simp [mask]
  | c :: r, v => by
    have := mask_bit Y Z i r (v ||| BitVec.twoPow 64 (idx Y Z c))
    simp only [mask, List.foldl_cons, List.any_cons] at this ⊢
    rw [this, BitVec.getLsbD_or, BitVec.getLsbD_twoPow]
    by_cases h : idx Y Z c = i
    · simp only [h, decide_true, Bool.and_true, Bool.true_or]
      cases v.getLsbD i <;> cases decide (i < 64) <;> simp
    · simp [h]

theorem mask_mem {X Y Z : Int} (hs : sides X Y Z = true) {l : List D_A3} (hl : Ins X Y Z l) {c : D_A3} (hc : within3 X Y Z c = true) : (mask Y Z l 0).getLsbD (idx Y Z c) = decide (c ∈ l) := by
  have h64 : idx Y Z c < 64 := by
    obtain ⟨_, h2, h3, _⟩ := idx_eq hs hc
    omega
  rw [mask_bit, decide_eq_true h64]
  simp only [BitVec.ofNat_eq_ofNat, BitVec.getLsbD_zero, Bool.false_or, Bool.true_and]
  by_cases h : c ∈ l
  · rw [decide_eq_true h]
    exact List.any_eq_true.2 ⟨c, h, by simp⟩
  · rw [decide_eq_false h, Bool.eq_false_iff]
    intro ha
    obtain ⟨d, hd, e⟩ := List.any_eq_true.1 ha
    exact h (idx_inj hs (hl d hd) hc (by simpa using e) ▸ hd)

theorem l_cubes (X Y Z : Int) (l : List D_A3) (hs : sides X Y Z = true) (hl : Small l) (hi : Ins X Y Z l) : ∀ (d k m : Nat) (v : BitVec 64), l.length = k + d → d < m →
    l_Heap_cubes_3 m X Y Z l (v.toNat : Int) l (l.length : Int) (k : Int) = some (((mask Y Z (l.drop k) v).toNat : Int), ())
  | d, k, 0, v, hk, hm => by omega
  | d, k, m + 1, v, hk, hm => by
    unfold Small at hl
    rw [q_Heap_cubes_3]
    by_cases hlt : k < l.length
    · rw [ltT hlt, inB_at hlt, nthA (t := T_A3) hlt, f_Heap_box]
      simp only [cond_true, Option.bind_some]
      rw [f_box_index hs (hi _ (List.getElem_mem hlt))]
      simp only [Option.bind_some, decide_eq_true (Int.natCast_nonneg (idx Y Z l[k])), cond_true]
      rw [shl64, or64, succI k (by omega), l_cubes X Y Z l hs hl hi (d - 1) (k + 1) m _ (by omega) (by omega), drop_at l k hlt]
      rfl
    · rw [ltF hlt, List.drop_eq_nil_of_le (by omega)]
      rfl

theorem f_Heap_cubes {X Y Z : Int} {l : List D_A3} (hs : sides X Y Z = true) (hl : Small l) (hi : Ins X Y Z l) : P_Heap_cubes ((X, Y, Z, l, ()), ()) = some (((mask Y Z l 0).toNat : Int), ()) := by
  have := l_cubes X Y Z l hs hl hi l.length 0 N 0 (by simp) (by unfold Small at hl; have := N_ge; omega)
  rw [p_Heap_cubes]
  simpa using this

theorem f_hasCube {X Y Z : Int} {l : List D_A3} (hs : sides X Y Z = true) (hl : Small l) (hi : Ins X Y Z l) {c : D_A3} (hc : within3 X Y Z c = true) : P_Heap_hasCube ((X, Y, Z, l, ()), c, ()) = some (decide (c ∈ l), ()) := by
  rw [p_Heap_hasCube, f_Heap_cubes hs hl hi, f_Heap_box]
  simp only [Option.bind_some]
  rw [f_box_index hs hc]
  simp only [Option.bind_some]
  rw [f_set_has]
  simp only [Option.bind_some]
  rw [mask_mem hs hi hc]

theorem l_l2Has (X Y Z : Int) (l : List D_A3) (c : D_A3) (hl : Small l) : ∀ (d k m : Nat), l.length = k + d → d < m →
    l_spec_l2Has_2 m X Y Z l c.1 c.2.1 c.2.2.1 (k : Int) = some (decide (c ∈ l.drop k), ())
  | d, k, 0, hk, hm => by omega
  | d, k, m + 1, hk, hm => by
    unfold Small at hl
    rw [q_spec_l2Has_2]
    by_cases hlt : k < l.length
    · rw [ltT hlt, inB_at hlt, nthA (t := T_A3) hlt, succI k (by omega), l_l2Has X Y Z l c hl (d - 1) (k + 1) m (by omega) (by omega), drop_at l k hlt]
      simp only [cond_true, Bool.and_true]
      by_cases he : l[k] = c
      · simp [he]
      · have hne : (decide ((l[k]).1 = c.1) && (decide ((l[k]).2.1 = c.2.1) && decide ((l[k]).2.2.1 = c.2.2.1))) = false := by
          rw [Bool.eq_false_iff]
          intro h
          simp only [Bool.and_eq_true, decide_eq_true_eq] at h
          exact he (cell_ext h.1 h.2.1 h.2.2)
        rw [hne]
        simp only [List.mem_cons, Ne.symm he, false_or, cond_false]
    · rw [ltF hlt, List.drop_eq_nil_of_le (by omega)]
      simp

theorem f_l2Has (X Y Z : Int) (l : List D_A3) (c : D_A3) (hl : Small l) : P_spec_l2Has ((X, Y, Z, l, ()), c, ()) = some (decide (c ∈ l), ()) := by
  have := l_l2Has X Y Z l c hl l.length 0 N (by simp) (by unfold Small at hl; have := N_ge; omega)
  rw [p_spec_l2Has]
  simpa using this

/-! ### The list of a set -/
def cellOf (Y Z : Int) (i : Nat) : D_A3 := ((i : Int) / Z / Y, (i : Int) / Z % Y, (i : Int) % Z, ())

theorem cellOf_ok {X Y Z : Int} (hs : sides X Y Z = true) {i : Nat} (hi : i < (X * Y * Z).toNat) : within3 X Y Z (cellOf Y Z i) = true ∧ idx Y Z (cellOf Y Z i) = i := by
  obtain ⟨h1, h2, h3⟩ := sides_iff.1 hs
  rw [within3_iff]
  unfold idx cellOf
  rcases four h2.1 h2.2 with rfl | rfl | rfl | rfl <;> rcases four h3.1 h3.2 with rfl | rfl | rfl | rfl <;> simp only at * <;> omega

theorem f_box_cell {X Y Z : Int} (hs : sides X Y Z = true) {i : Nat} (hi : i < 64) : P_box_cell ((X, Y, Z, ()), (i : Int), ()) = some (cellOf Y Z i, ()) := by
  obtain ⟨h1, h2, h3⟩ := sides_iff.1 hs
  have hy : (!decide (Y = 0)) = true := by simp; omega
  have hz : (!decide (Z = 0)) = true := by simp; omega
  rw [p_box_cell]
  simp only [hy, hz, cond_true]
  rw [Int.tdiv_eq_ediv_of_nonneg (Int.natCast_nonneg i), Int.tmod_eq_emod_of_nonneg (Int.natCast_nonneg i)]
  have hq : 0 ≤ (i : Int) / Z ∧ (i : Int) / Z ≤ 64 := by
    rcases four h3.1 h3.2 with rfl | rfl | rfl | rfl <;> omega
  rw [w64 (x := (i : Int) / Z) (by omega) (by omega), Int.tdiv_eq_ediv_of_nonneg hq.1, Int.tmod_eq_emod_of_nonneg hq.1]
  have hq2 : 0 ≤ (i : Int) / Z / Y ∧ (i : Int) / Z / Y ≤ 64 := by
    rcases four h2.1 h2.2 with rfl | rfl | rfl | rfl <;> omega
  rw [w64 (by omega) (by omega)]
  rfl

def listFrom (Y Z : Int) (v : BitVec 64) : (d k : Nat) → List D_A3
  | 0, _ => []
  | d + 1, k => if v.getLsbD k then cellOf Y Z k :: listFrom Y Z v d (k + 1) else listFrom Y Z v d (k + 1)

def bitCells (X Y Z : Int) (v : BitVec 64) : List D_A3 := listFrom Y Z v (X * Y * Z).toNat 0

theorem mem_listFrom (Y Z : Int) (v : BitVec 64) (c : D_A3) : ∀ (d k : Nat), c ∈ listFrom Y Z v d k ↔ ∃ i, k ≤ i ∧ i < k + d ∧ v.getLsbD i = true ∧ cellOf Y Z i = c
  | 0, k => by simp only [listFrom, List.not_mem_nil, false_iff]; rintro ⟨i, h1, h2, _⟩; omega
  | d + 1, k => by
    have ih := mem_listFrom Y Z v c d (k + 1)
    have key : c ∈ listFrom Y Z v (d + 1) k ↔ (v.getLsbD k = true ∧ cellOf Y Z k = c) ∨ c ∈ listFrom Y Z v d (k + 1) := by
      simp only [listFrom]
      by_cases h : v.getLsbD k = true
      · simp [h, eq_comm]
      · simp [h]
    rw [key, ih]
    constructor
    · rintro (⟨h1, h2⟩ | ⟨i, h1, h2, h3⟩)
      · exact ⟨k, by omega, by omega, h1, h2⟩
      · exact ⟨i, by omega, by omega, h3⟩
    · rintro ⟨i, h1, h2, h3, h4⟩
      by_cases e : i = k
      · subst e; exact .inl ⟨h3, h4⟩
      · exact .inr ⟨i, by omega, by omega, h3, h4⟩

theorem mem_listOf {X Y Z : Int} (hs : sides X Y Z = true) (v : BitVec 64) (c : D_A3) : c ∈ bitCells X Y Z v ↔ within3 X Y Z c = true ∧ v.getLsbD (idx Y Z c) = true := by
  unfold bitCells
  rw [mem_listFrom]
  constructor
  · rintro ⟨i, _, h2, h3, rfl⟩
    obtain ⟨w1, w2⟩ := cellOf_ok hs (i := i) (by omega)
    exact ⟨w1, by rw [w2]; exact h3⟩
  · rintro ⟨h1, h2⟩
    obtain ⟨_, hlt, _⟩ := idx_eq hs h1
    obtain ⟨w1, w2⟩ := cellOf_ok hs hlt
    exact ⟨idx Y Z c, by omega, by omega, h2, idx_inj hs w1 h1 w2⟩

theorem srt_listFrom {X Y Z : Int} (hs : sides X Y Z = true) (v : BitVec 64) : ∀ (d k : Nat), k + d ≤ (X * Y * Z).toNat → Srt (listFrom Y Z v d k)
  | 0, k, _ => by simp [listFrom, Srt]
  | d + 1, k, h => by
    have ih := srt_listFrom hs v d (k + 1) (by omega)
    simp only [listFrom]
    by_cases hb : v.getLsbD k = true
    · rw [if_pos hb]
      refine List.pairwise_cons.2 ⟨fun c hc => ?_, ih⟩
      obtain ⟨i, h1, h2, _, rfl⟩ := (mem_listFrom Y Z v c d (k + 1)).1 hc
      obtain ⟨w1, w2⟩ := cellOf_ok hs (i := i) (by omega)
      obtain ⟨x1, x2⟩ := cellOf_ok hs (i := k) (by omega)
      exact (idx_lt hs x1 w1).1 (by omega)
    · rw [if_neg hb]; exact ih

theorem srt_listOf {X Y Z : Int} (hs : sides X Y Z = true) (v : BitVec 64) : Srt (bitCells X Y Z v) := srt_listFrom hs v _ 0 (by omega)

theorem listFrom_length (Y Z : Int) (v : BitVec 64) : ∀ (d k : Nat), (listFrom Y Z v d k).length ≤ d
  | 0, k => by simp [listFrom]
  | d + 1, k => by
    have := listFrom_length Y Z v d (k + 1)
    simp only [listFrom]
    split <;> simp <;> omega

theorem size64 {X Y Z : Int} (hs : sides X Y Z = true) : 1 ≤ X * Y * Z ∧ X * Y * Z ≤ 64 ∧ 1 ≤ X * Y ∧ X * Y ≤ 16 := by
  obtain ⟨h1, h2, h3⟩ := sides_iff.1 hs
  rcases four h1.1 h1.2 with rfl | rfl | rfl | rfl <;> rcases four h2.1 h2.2 with rfl | rfl | rfl | rfl <;> omega

theorem small_listOf {X Y Z : Int} (hs : sides X Y Z = true) (v : BitVec 64) : Small (bitCells X Y Z v) := by
  have := listFrom_length Y Z v (X * Y * Z).toNat 0
  have := size64 hs
  unfold Small bitCells
  omega

theorem l_box_list {X Y Z : Int} (hs : sides X Y Z = true) (v : BitVec 64) : ∀ (d k m : Nat) (acc : List D_A3), (X * Y * Z).toNat = k + d → d < m → acc.length ≤ k →
    l_box_list_3 m X Y Z (v.toNat : Int) acc (X * Y * Z) (k : Int) = some (acc ++ listFrom Y Z v d k, ())
  | d, k, 0, acc, hk, hm, ha => by omega
  | 0, k, m + 1, acc, hk, hm, ha => by
    rw [q_box_list_3, decide_eq_false (by have := size64 hs; omega)]
    simp [listFrom]
  | d + 1, k, m + 1, acc, hk, hm, ha => by
    have hsz := size64 hs
    rw [q_box_list_3, decide_eq_true (by omega), f_set_has, f_box_cell hs (by omega), succI k (by omega)]
    simp only [cond_true, Option.bind_some, listFrom]
    cases hb : v.getLsbD k with
    | false =>
      simp only [cond_false, Bool.false_eq_true, if_false]
      exact l_box_list hs v d (k + 1) m acc (by omega) (by omega) (by omega)
    | true =>
      simp only [List.length_cons, List.length_nil, cond_true, if_true]
      rw [decide_eq_true (by omega), decide_eq_true (by omega), l_box_list hs v d (k + 1) m _ (by omega) (by omega) (by simp; omega)]
      simp

theorem f_box_list {X Y Z : Int} (hs : sides X Y Z = true) (v : BitVec 64) : P_box_list ((X, Y, Z, ()), (v.toNat : Int), ()) = some (bitCells X Y Z v, ()) := by
  have hsz := size64 hs
  have := l_box_list hs v (X * Y * Z).toNat 0 N [] (by omega) (by have := N_ge; omega) (by simp)
  rw [p_box_list, p_box_size]
  simp only [Option.bind_some]
  rw [w64 (x := X * Y) (by omega) (by omega), w64 (by omega) (by omega)]
  exact this

theorem f_box_heap {X Y Z : Int} (hs : sides X Y Z = true) (v : BitVec 64) : P_box_heap ((X, Y, Z, ()), (v.toNat : Int), ()) = some ((X, Y, Z, bitCells X Y Z v, ()), ()) := by
  rw [p_box_heap, f_box_list hs]; rfl

/-- The list of the set of a sorted list is that list. -/
theorem listOf_mask {X Y Z : Int} (hs : sides X Y Z = true) {l : List D_A3} (hi : Ins X Y Z l) (h : Srt l) : bitCells X Y Z (mask Y Z l 0) = l := by
  refine srt_ext _ _ (srt_listOf hs _) h fun c => ?_
  rw [mem_listOf hs]
  constructor
  · rintro ⟨h1, h2⟩
    rw [mask_mem hs hi h1] at h2
    simpa using h2
  · intro hc
    exact ⟨hi c hc, by rw [mask_mem hs hi (hi c hc)]; simpa using hc⟩
end Go.VI
