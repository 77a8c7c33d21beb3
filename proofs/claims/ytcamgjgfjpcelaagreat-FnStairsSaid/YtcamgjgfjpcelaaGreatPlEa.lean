/- Plain: staircases as lists of cells. -/
import Derived.Test.YtcamgjgfjpcelaaGreatPlO
namespace Go.VI
open Go.Proofs
theorem nodup_len {α : Type} [DecidableEq α] : ∀ (l m : List α), l.Nodup → (∀ x ∈ l, x ∈ m) → l.length ≤ m.length
  | [], m, _, _ => Nat.zero_le _
  | a :: l, m, hn, hs => by
    have ha := hs a (List.mem_cons_self ..)
    have hn' := List.nodup_cons.1 hn
    have := nodup_len l (m.erase a) hn'.2 (fun x hx => (List.mem_erase_of_ne (fun e => hn'.1 (by rw [← e]; exact hx))).2 (hs x (List.mem_cons_of_mem _ hx)))
    rw [List.length_erase_of_mem ha] at this
    have hpos := List.length_pos_of_mem ha
    rw [List.length_cons]
    omega
def leC (d c : D_A3) : Prop := d.1 ≤ c.1 ∧ d.2.1 ≤ c.2.1 ∧ d.2.2.1 ≤ c.2.2.1
def leB (d c : D_A3) : Bool := decide (d.1 ≤ c.1) && (decide (d.2.1 ≤ c.2.1) && decide (d.2.2.1 ≤ c.2.2.1))
theorem leB_iff {d c : D_A3} : leB d c = true ↔ leC d c := by simp [leB, leC]
def Stair (X Y Z : Int) (l : List D_A3) : Prop := ∀ c ∈ l, ∀ d, within3 X Y Z d = true → leC d c → d ∈ l
theorem leC_lt {d c : D_A3} (h : leC d c) (hne : d ≠ c) : ltC d c = true := by
  rw [ltC_iff]
  obtain ⟨h1, h2, h3⟩ := h
  by_cases e1 : d.1 = c.1
  · by_cases e2 : d.2.1 = c.2.1
    · have e3 : d.2.2.1 ≠ c.2.2.1 := fun e => hne (cell_ext e1 e2 e)
      omega
    · omega
  · omega
theorem step_stair {X Y Z : Int} {l : List D_A3} (h : ∀ c ∈ l, ∀ k : Int, 0 ≤ k → k ≤ 2 → 0 ≤ get3 c k - 1 → sh k (-1) c ∈ l) : Stair X Y Z l := by
  have key : ∀ (n : Nat) (c : D_A3), c ∈ l → ∀ d, within3 X Y Z d = true → leC d c → (c.1 - d.1) + (c.2.1 - d.2.1) + (c.2.2.1 - d.2.2.1) = n → d ∈ l := by
    intro n
    induction n with
    | zero =>
      intro c hc d _ hle hn
      obtain ⟨h1, h2, h3⟩ := hle
      have : d = c := cell_ext (by omega) (by omega) (by omega)
      rw [this]; exact hc
    | succ n ih =>
      intro c hc d hd hle hn
      obtain ⟨h1, h2, h3⟩ := hle
      obtain ⟨w1, w2, w3⟩ := within3_iff.1 hd
      by_cases e1 : d.1 < c.1
      · refine ih (sh 0 (-1) c) (h c hc 0 (by omega) (by omega) (by simp [get3]; omega)) d hd ⟨?_, ?_, ?_⟩ ?_ <;> simp [sh] <;> omega
      · by_cases e2 : d.2.1 < c.2.1
        · refine ih (sh 1 (-1) c) (h c hc 1 (by omega) (by omega) (by simp [get3]; omega)) d hd ⟨?_, ?_, ?_⟩ ?_ <;> simp [sh] <;> omega
        · refine ih (sh 2 (-1) c) (h c hc 2 (by omega) (by omega) (by simp [get3]; omega)) d hd ⟨?_, ?_, ?_⟩ ?_ <;> simp [sh] <;> omega
  intro c hc d hd hle
  exact key ((c.1 - d.1) + (c.2.1 - d.2.1) + (c.2.2.1 - d.2.2.1)).toNat c hc d hd hle (by obtain ⟨h1, h2, h3⟩ := hle; omega)
theorem stair_step {X Y Z : Int} {l : List D_A3} (hi : Ins X Y Z l) (h : Stair X Y Z l) {c : D_A3} (hc : c ∈ l) {k : Int} (k0 : 0 ≤ k) (k1 : k ≤ 2) (hk : 0 ≤ get3 c k - 1) : sh k (-1) c ∈ l := by
  have hw := within3_iff.1 (hi c hc)
  refine h c hc _ ?_ ?_
  · rw [within3_iff]
    rcases dir k0 k1 with rfl | rfl | rfl <;> simp [sh, get3] at hk ⊢ <;> omega
  · unfold leC
    rcases dir k0 k1 with rfl | rfl | rfl <;> simp [sh] <;> omega
theorem Stair.union {X Y Z : Int} {l m u : List D_A3} (hl : Stair X Y Z l) (hm : Stair X Y Z m) (hu : ∀ c, c ∈ u ↔ c ∈ l ∨ c ∈ m) : Stair X Y Z u := fun c hc d hd hle =>
  (hu d).2 (((hu c).1 hc).imp (fun h => hl c h d hd hle) fun h => hm c h d hd hle)
theorem Stair.inter {X Y Z : Int} {l m u : List D_A3} (hl : Stair X Y Z l) (hm : Stair X Y Z m) (hu : ∀ c, c ∈ u ↔ c ∈ l ∧ c ∈ m) : Stair X Y Z u := fun c hc d hd hle =>
  (hu d).2 (((hu c).1 hc).imp (fun h => hl c h d hd hle) fun h => hm c h d hd hle)
def revC (X Y Z : Int) (c : D_A3) : D_A3 := (X - 1 - c.1, Y - 1 - c.2.1, Z - 1 - c.2.2.1, ())
theorem revC_in {X Y Z : Int} {c : D_A3} : within3 X Y Z (revC X Y Z c) = within3 X Y Z c := by
  rw [Bool.eq_iff_iff, within3_iff, within3_iff]
  unfold revC
  constructor <;> (intro h; simp only at *; omega)
theorem revC_revC (X Y Z : Int) (c : D_A3) : revC X Y Z (revC X Y Z c) = c := by
  refine cell_ext ?_ ?_ ?_ <;> simp only [revC] <;> omega
open Classical in
noncomputable def othC (X Y Z : Int) (l : List D_A3) : List D_A3 := (allCells X Y Z).filter fun c => !decide (revC X Y Z c ∈ l)
theorem mem_othC {X Y Z : Int} (hs : sides X Y Z = true) {l : List D_A3} {c : D_A3} : c ∈ othC X Y Z l ↔ within3 X Y Z c = true ∧ revC X Y Z c ∉ l := by
  unfold othC
  rw [List.mem_filter, mem_allCells hs]
  simp
theorem othC_ok {X Y Z : Int} (hs : sides X Y Z = true) (l : List D_A3) : Small (othC X Y Z l) ∧ Ins X Y Z (othC X Y Z l) ∧ Srt (othC X Y Z l) := by
  obtain ⟨h1, h2, h3⟩ := allCells_ok hs
  refine ⟨?_, h2.filter _, h3.filter _⟩
  unfold Small at *
  exact Nat.le_trans (List.length_filter_le _ _) h1
theorem othC_stair {X Y Z : Int} (hs : sides X Y Z = true) {l : List D_A3} (h : Stair X Y Z l) : Stair X Y Z (othC X Y Z l) := by
  intro c hc d hd hle
  rw [mem_othC hs] at hc ⊢
  refine ⟨hd, fun hm => hc.2 (h _ hm _ (by rw [revC_in]; exact hc.1) ?_)⟩
  unfold leC revC at *
  simp only
  omega
theorem othC_othC {X Y Z : Int} (hs : sides X Y Z = true) {l : List D_A3} (hi : Ins X Y Z l) (hr : Srt l) : othC X Y Z (othC X Y Z l) = l := by
  refine srt_ext _ _ (othC_ok hs _).2.2 hr fun c => ?_
  rw [mem_othC hs, mem_othC hs, revC_in, revC_revC]
  constructor
  · rintro ⟨h1, h2⟩
    exact Classical.byContradiction fun hn => h2 ⟨h1, hn⟩
  · intro h
    exact ⟨hi c h, fun hn => hn.2 h⟩
theorem filter_two {α : Type} (p : α → Bool) : ∀ l : List α, (l.filter p).length + (l.filter fun x => !p x).length = l.length
  | [] => rfl
  | a :: r => by
    have := filter_two p r
    cases h : p a <;> simp [List.filter_cons, h] <;> omega
theorem srt_len_eq {l m : List D_A3} (hl : Srt l) (hm : Srt m) (f g : D_A3 → D_A3) (hf : ∀ c ∈ l, f c ∈ m) (hg : ∀ c ∈ m, g c ∈ l) (fi : ∀ a ∈ l, ∀ b ∈ l, f a = f b → a = b) (gi : ∀ a ∈ m, ∀ b ∈ m, g a = g b → a = b) : l.length = m.length := by
  have inj : ∀ (l m : List D_A3) (f : D_A3 → D_A3), Srt l → (∀ c ∈ l, f c ∈ m) → (∀ a ∈ l, ∀ b ∈ l, f a = f b → a = b) → l.length ≤ m.length := by
    intro l m f hl hf fi
    have hn : (l.map f).Nodup := by
      unfold List.Nodup
      rw [List.pairwise_map]
      have := hl.nodup
      unfold List.Nodup at this
      exact List.Pairwise.imp_of_mem (fun {a b} ha hb hne e => hne (fi a ha b hb e)) this
    have := nodup_len (l.map f) m hn (fun x hx => by obtain ⟨c, hc, rfl⟩ := List.mem_map.1 hx; exact hf c hc)
    rwa [List.length_map] at this
  exact Nat.le_antisymm (inj l m f hl hf fi) (inj m l g hm hg gi)
theorem othC_len {X Y Z : Int} (hs : sides X Y Z = true) {l : List D_A3} (hi : Ins X Y Z l) (hr : Srt l) : (othC X Y Z l).length + l.length = (allCells X Y Z).length := by
  have h1 := filter_two (fun c => decide (c ∈ othC X Y Z l)) (allCells X Y Z)
  obtain ⟨_, _, ar⟩ := allCells_ok hs
  have e1 : (allCells X Y Z).filter (fun c => decide (c ∈ othC X Y Z l)) = othC X Y Z l := srt_ext _ _ (ar.filter _) (othC_ok hs l).2.2 fun c => by
    rw [List.mem_filter, decide_eq_true_eq]
    exact ⟨fun h => h.2, fun h => ⟨(mem_allCells hs c).2 ((mem_othC hs).1 h).1, h⟩⟩
  have e2 : ((allCells X Y Z).filter fun c => !decide (c ∈ othC X Y Z l)).length = l.length := by
    refine srt_len_eq (ar.filter _) hr (revC X Y Z) (revC X Y Z) ?_ ?_ ?_ ?_
    · intro c hc
      rw [List.mem_filter, mem_allCells hs] at hc
      obtain ⟨hw, hn⟩ := hc
      simp only [Bool.not_eq_true', decide_eq_false_iff_not, mem_othC hs] at hn
      exact Classical.byContradiction fun h => hn ⟨hw, h⟩
    · intro c hc
      rw [List.mem_filter, mem_allCells hs, revC_in]
      refine ⟨hi c hc, ?_⟩
      simp only [Bool.not_eq_true', decide_eq_false_iff_not, mem_othC hs, revC_revC]
      exact fun h => h.2 hc
    · intro a _ b _ e
      rw [← revC_revC X Y Z a, e, revC_revC]
    · intro a _ b _ e
      rw [← revC_revC X Y Z a, e, revC_revC]
  rw [e1, e2] at h1
  exact h1
theorem corner_ex {X Y Z : Int} {l : List D_A3} (h : Stair X Y Z l) (hr : Srt l) (hne : l ≠ []) : ∃ c ∈ l, Stair X Y Z (l.filter fun x => !decide (x = c)) := by
  refine ⟨l.getLast hne, List.getLast_mem hne, ?_⟩
  have hlast : ∀ x ∈ l, x = l.getLast hne ∨ ltC x (l.getLast hne) = true := by
    have hr' : Srt (l.dropLast ++ [l.getLast hne]) := by rw [List.dropLast_concat_getLast]; exact hr
    intro x hx
    rw [← List.dropLast_concat_getLast hne] at hx
    rcases List.mem_append.1 hx with hx | hx
    · exact .inr ((List.pairwise_append.1 hr').2.2 x hx _ (by simp))
    · exact .inl (by simpa using hx)
  intro c hc d hd hle
  rw [List.mem_filter] at hc ⊢
  have hm := h c hc.1 d hd hle
  refine ⟨hm, ?_⟩
  simp only [Bool.not_eq_true', decide_eq_false_iff_not]
  intro e
  have hcn : c ≠ l.getLast hne := by simpa using hc.2
  subst e
  by_cases e : l.getLast hne = c
  · exact hcn e.symm
  · have h1 := leC_lt hle e
    rcases hlast c hc.1 with h2 | h2
    · exact hcn h2
    · have := ltC_trans h1 h2
      rw [ltC_irrefl] at this
      cases this
theorem hollow_ex {X Y Z : Int} (hs : sides X Y Z = true) {l : List D_A3} (h : Stair X Y Z l) {c0 : D_A3} (h0 : within3 X Y Z c0 = true) (hn0 : c0 ∉ l) :
    ∃ c, within3 X Y Z c = true ∧ c ∉ l ∧ ∀ m : List D_A3, (∀ x, x ∈ m ↔ x = c ∨ x ∈ l) → Stair X Y Z m := by
  have hex : ∃ n : Nat, ∃ c, within3 X Y Z c = true ∧ c ∉ l ∧ idx Y Z c = n := ⟨_, c0, h0, hn0, rfl⟩
  have hmin : ∃ n : Nat, (∃ c, within3 X Y Z c = true ∧ c ∉ l ∧ idx Y Z c = n) ∧ ∀ k < n, ¬ ∃ c, within3 X Y Z c = true ∧ c ∉ l ∧ idx Y Z c = k := by
    obtain ⟨n, hn⟩ := hex
    induction n using Nat.strongRecOn with
    | _ n ih =>
      by_cases hk : ∃ k < n, ∃ c, within3 X Y Z c = true ∧ c ∉ l ∧ idx Y Z c = k
      · obtain ⟨k, hk, hc⟩ := hk
        exact ih k hk hc
      · exact ⟨n, hn, fun k hk' hc => hk ⟨k, hk', hc⟩⟩
  obtain ⟨n, ⟨c, hw, hn, rfl⟩, hlow⟩ := hmin
  refine ⟨c, hw, hn, fun m hm x hx d hd hle => ?_⟩
  rw [hm] at hx ⊢
  rcases hx with rfl | hx
  · by_cases e : d = x
    · exact .inl e
    · right
      have hlt := (idx_lt hs hd hw).2 (leC_lt hle e)
      exact Classical.byContradiction fun hdn => hlow _ hlt ⟨d, hd, hdn, rfl⟩
  · exact .inr (h x hx d hd hle)
end Go.VI
/- Plain: the heights of a staircase. -/
namespace Go.VI
open Go.Proofs
theorem least_not (p : Nat → Prop) : ∀ n, ¬ p n → ∃ v, v ≤ n ∧ (∀ z, z < v → p z) ∧ ¬ p v := by
  intro n
  induction n using Nat.strongRecOn with
  | _ n ih =>
    intro hn
    by_cases h : ∃ k, k < n ∧ ¬ p k
    · obtain ⟨k, hk, hp⟩ := h
      obtain ⟨v, h1, h2, h3⟩ := ih k hk hp
      exact ⟨v, by omega, h2, h3⟩
    · exact ⟨n, Nat.le_refl _, fun z hz => Classical.byContradiction fun hp => h ⟨z, hz, hp⟩, hn⟩
def atC (x y z : Int) : D_A3 := (x, y, z, ())
theorem line2 (X Y Z : Int) (c : D_A3) : lineD X Y Z 2 c = c.1 * Y + c.2.1 := rfl
theorem lines2 (X Y Z : Int) : linesD X Y Z 2 = X * Y := rfl
theorem line_inj {Y x y x' y' : Int} (hy : 0 ≤ y ∧ y ≤ Y - 1) (hy' : 0 ≤ y' ∧ y' ≤ Y - 1) (hY : 1 ≤ Y ∧ Y ≤ 4) (h : x * Y + y = x' * Y + y') : x = x' ∧ y = y' := by
  rcases four hY.1 hY.2 with rfl | rfl | rfl | rfl <;> omega
theorem srt_col (x y : Int) : ∀ (v k : Nat), Srt ((List.range' k v).map fun z : Nat => atC x y (z : Int))
  | 0, k => by simp [Srt]
  | v + 1, k => by
    unfold Srt
    rw [List.range'_succ, List.map_cons, List.pairwise_cons]
    refine ⟨fun c hc => ?_, srt_col x y v (k + 1)⟩
    obtain ⟨z, hz, rfl⟩ := List.mem_map.1 hc
    rw [List.mem_range'_1] at hz
    rw [ltC_iff]
    right
    refine ⟨rfl, Or.inr ⟨rfl, ?_⟩⟩
    show (k : Int) < (z : Int)
    omega
def Tall (Z : Int) (l : List D_A3) (x y : Int) (v : Nat) : Prop := (v : Int) ≤ Z ∧ ∀ z : Int, 0 ≤ z → (atC x y z ∈ l ↔ z < v)
theorem tall_uniq {Z : Int} {l : List D_A3} {x y : Int} {v w : Nat} (h : Tall Z l x y v) (h' : Tall Z l x y w) : v = w := by
  have key : ∀ v w : Nat, Tall Z l x y v → Tall Z l x y w → v ≤ w := fun v w h h' => by
    rcases Nat.lt_or_ge w v with hlt | hge
    · have := (h'.2 (w : Int) (by omega)).1 ((h.2 (w : Int) (by omega)).2 (by omega))
      omega
    · exact hge
  exact Nat.le_antisymm (key v w h h') (key w v h' h)
theorem tall_ex {X Y Z : Int} (hs : sides X Y Z = true) {l : List D_A3} (hi : Ins X Y Z l) (hst : Stair X Y Z l) (x y : Int) : ∃ v, Tall Z l x y v := by
  have s := sides_iff.1 hs
  obtain ⟨v, h1, h2, h3⟩ := least_not (fun z => atC x y (z : Int) ∈ l) Z.toNat (fun h => by
    have := within3_iff.1 (hi _ h)
    simp only [atC] at this
    omega)
  refine ⟨v, by omega, fun z hz => ?_⟩
  obtain ⟨n, rfl⟩ : ∃ n : Nat, z = (n : Int) := ⟨z.toNat, by omega⟩
  constructor
  · intro hm
    rcases Nat.lt_or_ge n v with hlt | hge
    · omega
    · have hw := within3_iff.1 (hi _ hm)
      simp only [atC] at hw
      refine absurd (hst _ hm (atC x y (v : Int)) ?_ ⟨Int.le_refl _, Int.le_refl _, ?_⟩) h3
      · rw [within3_iff]; simp only [atC]; omega
      · show (v : Int) ≤ (n : Int); omega
  · intro hlt
    exact h2 n (by omega)
theorem tall_count {X Y Z : Int} (hs : sides X Y Z = true) {l : List D_A3} (hi : Ins X Y Z l) (hr : Srt l) {x y : Int} (hy : 0 ≤ y ∧ y ≤ Y - 1) {v : Nat} (h : Tall Z l x y v) : (l.filter fun c => decide (lineD X Y Z 2 c = x * Y + y)).length = v := by
  have s := sides_iff.1 hs
  have e : l.filter (fun c => decide (lineD X Y Z 2 c = x * Y + y)) = (List.range' 0 v).map fun z : Nat => atC x y (z : Int) := by
    refine srt_ext _ _ (hr.filter _) (srt_col x y v 0) fun c => ?_
    rw [List.mem_filter, decide_eq_true_eq, line2, List.mem_map]
    constructor
    · rintro ⟨hm, hl⟩
      have hw := within3_iff.1 (hi c hm)
      obtain ⟨e1, e2⟩ := line_inj hw.2.1 hy s.2.1 hl
      have hc : atC x y c.2.2.1 = c := cell_ext e1.symm e2.symm rfl
      have hlt := (h.2 c.2.2.1 hw.2.2.1).1 (by rw [hc]; exact hm)
      refine ⟨c.2.2.1.toNat, ?_, ?_⟩
      · rw [List.mem_range'_1]; omega
      · rw [← hc]; unfold atC; simp only [Prod.mk.injEq, true_and, and_true]; omega
    · rintro ⟨z, hz, rfl⟩
      rw [List.mem_range'_1] at hz
      exact ⟨(h.2 (z : Int) (by omega)).2 (by omega), rfl⟩
  rw [e, List.length_map, List.length_range']
def HV (X Y Z : Int) (l : List D_A3) : List Int := viewD X Y Z 2 l
theorem HV_len {X Y Z : Int} (hs : sides X Y Z = true) {l : List D_A3} (hl : Small l) (hi : Ins X Y Z l) : (HV X Y Z l).length = (X * Y).toNat := (view_at hs (d := 2) (by omega) (by omega) hl hi).1
theorem line_nat {X Y : Int} (hX : 1 ≤ X ∧ X ≤ 4) (hY : 1 ≤ Y ∧ Y ≤ 4) {x y : Int} (hx : 0 ≤ x ∧ x ≤ X - 1) (hy : 0 ≤ y ∧ y ≤ Y - 1) : 0 ≤ x * Y + y ∧ x * Y + y < X * Y := by
  rcases four hX.1 hX.2 with rfl | rfl | rfl | rfl <;> rcases four hY.1 hY.2 with rfl | rfl | rfl | rfl <;> omega
theorem line_back {X Y : Int} (hX : 1 ≤ X ∧ X ≤ 4) (hY : 1 ≤ Y ∧ Y ≤ 4) {i : Int} (h0 : 0 ≤ i) (h1 : i < X * Y) : ∃ x y, (0 ≤ x ∧ x ≤ X - 1) ∧ (0 ≤ y ∧ y ≤ Y - 1) ∧ i = x * Y + y := by
  refine ⟨i / Y, i % Y, ?_, ?_, ?_⟩
  · rcases four hX.1 hX.2 with rfl | rfl | rfl | rfl <;> rcases four hY.1 hY.2 with rfl | rfl | rfl | rfl <;> omega
  · rcases four hY.1 hY.2 with rfl | rfl | rfl | rfl <;> omega
  · rcases four hY.1 hY.2 with rfl | rfl | rfl | rfl <;> omega
theorem HV_at {X Y Z : Int} (hs : sides X Y Z = true) {l : List D_A3} (hl : Small l) (hi : Ins X Y Z l) (hr : Srt l) (hst : Stair X Y Z l) {x y : Int} (hx : 0 ≤ x ∧ x ≤ X - 1) (hy : 0 ≤ y ∧ y ≤ Y - 1) :
    ∃ v : Nat, (HV X Y Z l)[(x * Y + y).toNat]? = some (v : Int) ∧ Tall Z l x y v := by
  have s := sides_iff.1 hs
  obtain ⟨v, hv⟩ := tall_ex hs hi hst x y
  have hn := line_nat s.1 s.2.1 hx hy
  refine ⟨v, ?_, hv⟩
  have h := (view_at hs (d := 2) (by omega) (by omega) hl hi).2 (x * Y + y).toNat (by rw [lines2]; omega)
  have e : (((x * Y + y).toNat : Nat) : Int) = x * Y + y := by omega
  rw [e, tall_count hs hi hr hy hv] at h
  exact h
theorem HV_uniq {X Y Z : Int} (hs : sides X Y Z = true) {l : List D_A3} (hl : Small l) (hi : Ins X Y Z l) (hr : Srt l) (hst : Stair X Y Z l) {V : List Int} (hV : V.length = (X * Y).toNat)
    (h : ∀ x y : Int, 0 ≤ x ∧ x ≤ X - 1 → 0 ≤ y ∧ y ≤ Y - 1 → ∃ v : Nat, V[(x * Y + y).toNat]? = some (v : Int) ∧ Tall Z l x y v) : V = HV X Y Z l := by
  have s := sides_iff.1 hs
  apply List.ext_getElem?
  intro i
  by_cases hlt : i < (X * Y).toNat
  · obtain ⟨x, y, hx, hy, e⟩ := line_back s.1 s.2.1 (i := (i : Int)) (by omega) (by omega)
    have e' : (x * Y + y).toNat = i := by omega
    obtain ⟨v, h1, h2⟩ := h x y hx hy
    obtain ⟨w, g1, g2⟩ := HV_at hs hl hi hr hst hx hy
    rw [e'] at h1 g1
    rw [h1, g1, tall_uniq h2 g2]
  · rw [List.getElem?_eq_none (by omega), List.getElem?_eq_none (by rw [HV_len hs hl hi]; omega)]
theorem HV_lit {X Y Z : Int} (hs : sides X Y Z = true) {l : List D_A3} (hl : Small l) (hi : Ins X Y Z l) (hr : Srt l) (hst : Stair X Y Z l) : ∀ n ∈ HV X Y Z l, 0 ≤ n ∧ n ≤ Z := by
  have s := sides_iff.1 hs
  intro n hn
  obtain ⟨i, hlt, rfl⟩ := List.getElem_of_mem hn
  have hlt' := hlt
  rw [HV_len hs hl hi] at hlt'
  obtain ⟨x, y, hx, hy, e⟩ := line_back s.1 s.2.1 (i := (i : Int)) (by omega) (by omega)
  obtain ⟨v, h1, h2⟩ := HV_at hs hl hi hr hst hx hy
  have e' : (x * Y + y).toNat = i := by omega
  rw [e', List.getElem?_eq_getElem hlt] at h1
  rw [Option.some.inj h1]
  exact ⟨by omega, h2.1⟩
theorem HV_low {X Y Z : Int} (hs : sides X Y Z = true) {l : List D_A3} (hl : Small l) (hi : Ins X Y Z l) (hr : Srt l) (hst : Stair X Y Z l) {c : D_A3} (hc : within3 X Y Z c = true) : lowC Y (HV X Y Z l) c = decide (c ∈ l) := by
  have w := within3_iff.1 hc
  obtain ⟨v, h1, h2⟩ := HV_at hs hl hi hr hst w.1 w.2.1
  have hn := line_nat (sides_iff.1 hs).1 (sides_iff.1 hs).2.1 w.1 w.2.1
  unfold lowC lineI nth
  rw [List.getD, h1]
  have := h2.2 c.2.2.1 w.2.2.1
  have hc' : atC c.1 c.2.1 c.2.2.1 = c := rfl
  rw [hc'] at this
  rw [Bool.eq_iff_iff, decide_eq_true_eq, decide_eq_true_eq, this]
  rfl
theorem rows_mem {Y : Nat} {Z : Int} {V : List Int} (h : ∀ j (hj : j < V.length), 0 ≤ V[j] ∧ V[j] ≤ mostL Y Z (V.take j)) : ∀ d k, k + d = V.length → V ∈ rowsN Y Z d (V.take k)
  | 0, k, hk => by rw [rowsN, List.take_of_length_le (by omega)]; simp
  | d + 1, k, hk => by
    have hj : k < V.length := by omega
    obtain ⟨h0, h1⟩ := h k hj
    rw [rowsN, List.mem_flatMap]
    refine ⟨V[k].toNat, by rw [List.mem_range]; omega, ?_⟩
    have e : ((V[k].toNat : Nat) : Int) = V[k] := by omega
    rw [e, ← List.take_succ_eq_append_getElem hj]
    exact rows_mem h d (k + 1) (by omega)
theorem mostL_take {Y : Nat} {Z : Int} {V : List Int} {j : Nat} (hj : j < V.length) {n : Int} (h0 : n ≤ Z) (h1 : Y ≤ j → n ≤ V.getD (j - Y) 0) (h2 : 0 < j % Y → n ≤ V.getD (j - 1) 0) (hY : 1 ≤ Y) : n ≤ mostL Y Z (V.take j) := by
  have hl : (V.take j).length = j := by rw [List.length_take]; omega
  have g : ∀ i, i < j → (V.take j).getD i 0 = V.getD i 0 := fun i hi => by
    rw [List.getD_eq_getElem?_getD, List.getD_eq_getElem?_getD, List.getElem?_take_of_lt hi]
  unfold mostL
  rw [hl]
  by_cases a : Y ≤ j
  · have := h1 a
    by_cases b : 0 < j % Y
    · have hm := h2 b
      simp only [a, b, if_true]
      rw [g _ (by omega), g _ (by omega)]
      omega
    · simp only [a, b, if_true, if_false]
      rw [g _ (by omega)]
      omega
  · by_cases b : 0 < j % Y
    · have hm := h2 b
      have hj0 : 0 < j := by
        rcases Nat.eq_zero_or_pos j with h | h
        · subst h; simp at b
        · exact h
      simp only [a, b, if_true, if_false]
      rw [g _ (by omega)]
      omega
    · simp only [a, b, if_false]
      exact h0
theorem HV_rows {X Y Z : Int} (hs : sides X Y Z = true) {l : List D_A3} (hl : Small l) (hi : Ins X Y Z l) (hr : Srt l) (hst : Stair X Y Z l) : HV X Y Z l ∈ rowsN Y.toNat Z (X * Y).toNat [] := by
  have s := sides_iff.1 hs
  have hlen := HV_len hs hl hi
  have := rows_mem (Y := Y.toNat) (Z := Z) (V := HV X Y Z l) (fun j hj => ?_) (X * Y).toNat 0 (by omega)
  · rwa [List.take_zero] at this
  · obtain ⟨x, y, hx, hy, e⟩ := line_back s.1 s.2.1 (i := (j : Int)) (by omega) (by omega)
    obtain ⟨v, h1, h2⟩ := HV_at hs hl hi hr hst hx hy
    have e' : (x * Y + y).toNat = j := by omega
    rw [e', List.getElem?_eq_getElem hj] at h1
    have hv : (HV X Y Z l)[j] = (v : Int) := Option.some.inj h1
    rw [hv]
    have lower : ∀ x' y' : Int, (0 ≤ x' ∧ x' ≤ X - 1) → (0 ≤ y' ∧ y' ≤ Y - 1) → x' ≤ x → y' ≤ y → (v : Int) ≤ (HV X Y Z l).getD (x' * Y + y').toNat 0 := by
      intro x' y' hx' hy' hxx hyy
      obtain ⟨w, g1, g2⟩ := HV_at hs hl hi hr hst hx' hy'
      rw [List.getD_eq_getElem?_getD, g1]
      show (v : Int) ≤ (w : Int)
      rcases Nat.eq_zero_or_pos v with h0 | h0
      · omega
      · have hm := (h2.2 ((v : Int) - 1) (by omega)).2 (by omega)
        have hm' := hst _ hm (atC x' y' ((v : Int) - 1)) (by rw [within3_iff]; have := h2.1; simp only [atC]; omega) ⟨hxx, hyy, Int.le_refl _⟩
        have := (g2.2 _ (by omega)).1 hm'
        omega
    refine ⟨by omega, mostL_take hj h2.1 (fun hYj => ?_) (fun hm => ?_) (by omega)⟩
    · have hx1 : 1 ≤ x := by
        rcases Int.lt_or_le x 1 with h | h
        · have : x = 0 := by omega
          subst this
          omega
        · exact h
      have := lower (x - 1) y (by omega) hy (by omega) (by omega)
      have e2 : ((x - 1) * Y + y).toNat = j - Y.toNat := by rw [Int.sub_mul, Int.one_mul]; omega
      rwa [e2] at this
    · have hy1 : 1 ≤ y := by
        rcases Int.lt_or_le y 1 with h | h
        · have : y = 0 := by omega
          subst this
          exfalso
          rw [Int.add_zero] at e
          have hj2 : ((x.toNat * Y.toNat : Nat) : Int) = (j : Int) := by
            rw [Int.natCast_mul, Int.toNat_of_nonneg hx.1, Int.toNat_of_nonneg (by omega)]; exact e.symm
          have : j % Y.toNat = 0 := by
            rw [← Int.ofNat_inj.1 hj2]; exact Nat.mul_mod_left _ _
          omega
        · exact h
      have := lower x (y - 1) hx (by omega) (by omega) (by omega)
      have e2 : (x * Y + (y - 1)).toNat = j - 1 := by omega
      rwa [e2] at this
end Go.VI
/- Plain: what tells staircases. -/
namespace Go.VI
open Go.Proofs
def stepOK (l : List D_A3) (c : D_A3) (k : Int) : Bool := !decide (0 ≤ get3 c k - 1) || decide (sh k (-1) c ∈ l)
def stOK (l : List D_A3) (c : D_A3) : Bool := stepOK l c 0 && stepOK l c 1 && stepOK l c 2
open Classical in
noncomputable def stB (X Y Z : Int) (l : List D_A3) : Bool := decide (Stair X Y Z l)
open Classical in
theorem stB_iff {X Y Z : Int} {l : List D_A3} : stB X Y Z l = true ↔ Stair X Y Z l := by unfold stB; rw [decide_eq_true_eq]
theorem stB_all {X Y Z : Int} {l : List D_A3} (hi : Ins X Y Z l) : (l.all fun c => stOK l c) = stB X Y Z l := by
  rw [Bool.eq_iff_iff, stB_iff, List.all_eq_true]
  constructor
  · intro h
    refine step_stair fun c hc k k0 k1 hk => ?_
    have := h c hc
    simp only [stOK, stepOK, Bool.and_eq_true, Bool.or_eq_true, Bool.not_eq_true', decide_eq_false_iff_not, decide_eq_true_eq] at this
    rcases dir k0 k1 with rfl | rfl | rfl
    · exact this.1.1.resolve_left (fun hn => hn hk)
    · exact this.1.2.resolve_left (fun hn => hn hk)
    · exact this.2.resolve_left (fun hn => hn hk)
  · intro h c hc
    simp only [stOK, stepOK, Bool.and_eq_true, Bool.or_eq_true, Bool.not_eq_true', decide_eq_false_iff_not, decide_eq_true_eq]
    refine ⟨⟨?_, ?_⟩, ?_⟩
    · by_cases hk : 0 ≤ get3 c 0 - 1
      · exact .inr (stair_step hi h hc (by omega) (by omega) hk)
      · exact .inl hk
    · by_cases hk : 0 ≤ get3 c 1 - 1
      · exact .inr (stair_step hi h hc (by omega) (by omega) hk)
      · exact .inl hk
    · by_cases hk : 0 ≤ get3 c 2 - 1
      · exact .inr (stair_step hi h hc (by omega) (by omega) hk)
      · exact .inl hk
theorem st_round {X Y Z : Int} {l : List D_A3} (hs : sides X Y Z = true) (hl : Small l) (hi : Ins X Y Z l) {i : Nat} (h : i < l.length) (m0 m1 : Nat) {k : Int} (k0 : 0 ≤ k) (k1 : k ≤ 2) :
    l_spec_l5Stair_5 m0 (m1 + 1) X Y Z l (i : Int) k = bif stepOK l l[i] k then l_spec_l5Stair_5 m0 m1 X Y Z l (i : Int) (k + 1) else some (false, ()) := by
  have w := within3_iff.1 (hi _ (List.getElem_mem h))
  have s := sides_iff.1 hs
  have e1 : IntKind.wrap .i64 (l[i].1 - 1) = l[i].1 - 1 := w64 (by omega) (by omega)
  have e2 : IntKind.wrap .i64 (l[i].2.1 - 1) = l[i].2.1 - 1 := w64 (by omega) (by omega)
  have e3 : IntKind.wrap .i64 (l[i].2.2.1 - 1) = l[i].2.2.1 - 1 := w64 (by omega) (by omega)
  have z1 : IntKind.wrap .i64 (1 : Int) = 1 := w64 (by omega) (by omega)
  have z2 : IntKind.wrap .i64 (2 : Int) = 2 := w64 (by omega) (by omega)
  have z3 : IntKind.wrap .i64 (3 : Int) = 3 := w64 (by omega) (by omega)
  rw [q_spec_l5Stair_5, inB_at h, nthA (t := T_A3) h, inB_dir k0 k1]
  rcases dir k0 k1 with rfl | rfl | rfl
  · have hsh : sh 0 (-1) l[i] = (l[i].1 - 1, l[i].2.1, l[i].2.2.1, ()) := cell_ext (by simp [sh]; omega) rfl rfl
    have hh := f_l2Has X Y Z l (l[i].1 - 1, l[i].2.1, l[i].2.2.1, ()) hl
    by_cases hg : 0 ≤ l[i].1 - 1
    · have hg' : 1 ≤ l[i].1 := by omega
      by_cases hm : (l[i].1 - 1, l[i].2.1, l[i].2.2.1, ()) ∈ l
      · rw [decide_eq_true hm] at hh
        simp [e1, stepOK, get3, hsh, hg', hm, hh, z1, z2, z3]
      · rw [decide_eq_false hm] at hh
        simp [e1, stepOK, get3, hsh, hg', hm, hh, z1, z2, z3]
    · have hg' : ¬ 1 ≤ l[i].1 := by omega
      simp [e1, stepOK, get3, hg', z1, z2, z3]
  · have hsh : sh 1 (-1) l[i] = (l[i].1, l[i].2.1 - 1, l[i].2.2.1, ()) := cell_ext rfl (by simp [sh]; omega) rfl
    have hh := f_l2Has X Y Z l (l[i].1, l[i].2.1 - 1, l[i].2.2.1, ()) hl
    by_cases hg : 0 ≤ l[i].2.1 - 1
    · have hg' : 1 ≤ l[i].2.1 := by omega
      by_cases hm : (l[i].1, l[i].2.1 - 1, l[i].2.2.1, ()) ∈ l
      · rw [decide_eq_true hm] at hh
        simp [e2, stepOK, get3, hsh, hg', hm, hh, z1, z2, z3]
      · rw [decide_eq_false hm] at hh
        simp [e2, stepOK, get3, hsh, hg', hm, hh, z1, z2, z3]
    · have hg' : ¬ 1 ≤ l[i].2.1 := by omega
      simp [e2, stepOK, get3, hg', z1, z2, z3]
  · have hsh : sh 2 (-1) l[i] = (l[i].1, l[i].2.1, l[i].2.2.1 - 1, ()) := cell_ext rfl rfl (by simp [sh]; omega)
    have hh := f_l2Has X Y Z l (l[i].1, l[i].2.1, l[i].2.2.1 - 1, ()) hl
    by_cases hg : 0 ≤ l[i].2.2.1 - 1
    · have hg' : 1 ≤ l[i].2.2.1 := by omega
      by_cases hm : (l[i].1, l[i].2.1, l[i].2.2.1 - 1, ()) ∈ l
      · rw [decide_eq_true hm] at hh
        simp [e3, stepOK, get3, hsh, hg', hm, hh, z1, z2, z3]
      · rw [decide_eq_false hm] at hh
        simp [e3, stepOK, get3, hsh, hg', hm, hh, z1, z2, z3]
    · have hg' : ¬ 1 ≤ l[i].2.2.1 := by omega
      simp [e3, stepOK, get3, hg', z1, z2, z3]
theorem l_l5Stair {X Y Z : Int} {l : List D_A3} (hs : sides X Y Z = true) (hl : Small l) (hi : Ins X Y Z l) : ∀ (d i m : Nat), l.length = i + d → d < m → l_spec_l5Stair_2 m X Y Z l (i : Int) = some ((l.drop i).all fun c => stOK l c, ())
  | d, i, 0, _, h => by omega
  | d, i, m + 1, hk, hm => by
    have hl' : l.length ≤ 1048576 := hl
    rw [q_spec_l5Stair_2]
    by_cases h : i < l.length
    · rw [ltT h, N_eq]
      show l_spec_l5Stair_5 m (N - 4 + 4) X Y Z l (i : Int) 0 = _
      rw [st_round hs hl hi h _ _ (by omega) (by omega)]
      rw [drop_at l i h, List.all_cons]
      unfold stOK
      cases s0 : stepOK l l[i] 0 with
      | false => rfl
      | true =>
        show l_spec_l5Stair_5 m (N - 4 + 3) X Y Z l (i : Int) (0 + 1) = _
        rw [st_round hs hl hi h _ _ (by omega) (by omega)]
        cases s1 : stepOK l l[i] (0 + 1) with
        | false =>
          have s1' : stepOK l l[i] 1 = false := s1
          rw [s1']; rfl
        | true =>
          have s1' : stepOK l l[i] 1 = true := s1
          rw [s1']
          show l_spec_l5Stair_5 m (N - 4 + 2) X Y Z l (i : Int) (0 + 1 + 1) = _
          rw [st_round hs hl hi h _ _ (by omega) (by omega)]
          cases s2 : stepOK l l[i] (0 + 1 + 1) with
          | false =>
            have s2' : stepOK l l[i] 2 = false := s2
            rw [s2']; rfl
          | true =>
            have s2' : stepOK l l[i] 2 = true := s2
            rw [s2']
            show l_spec_l5Stair_5 m (N - 4 + 1) X Y Z l (i : Int) (0 + 1 + 1 + 1) = _
            rw [q_spec_l5Stair_5]
            show l_spec_l5Stair_2 m X Y Z l (IntKind.wrap .i64 ((i : Int) + 1)) = _
            rw [succI i (by omega)]
            exact l_l5Stair hs hl hi (d - 1) (i + 1) m (by omega) (by omega)
    · rw [ltF h, List.drop_eq_nil_of_le (by omega)]
      rfl
theorem f_l5Stair {X Y Z : Int} {l : List D_A3} (hs : sides X Y Z = true) (hl : Small l) (hi : Ins X Y Z l) : P_spec_l5Stair ((X, Y, Z, l, ()), ()) = some (stB X Y Z l, ()) := by
  rw [p_spec_l5Stair, ← stB_all hi]
  exact l_l5Stair hs hl hi l.length 0 N (by simp) (by unfold Small at hl; have := N_ge; omega)
theorem f_below {X Y Z : Int} (hs : sides X Y Z = true) (c : D_A3) : ∃ v : BitVec 64, P_box_below ((X, Y, Z, ()), c, ()) = some ((v.toNat : Int), ()) ∧ SetIs X Y Z v (fun d => leB d c) := by
  obtain ⟨v, h1, h2⟩ := f_those hs (F := fun y => P_box_below_1 (y.1, c, ())) (g := fun d => leB d c) (fun d _ => by
    show P_box_below_1 (d, c, ()) = _
    rw [p_box_below_1]
    unfold leB
    cases decide (d.1 ≤ c.1) <;> cases decide (d.2.1 ≤ c.2.1) <;> rfl)
  exact ⟨v, by rw [p_box_below, h1]; rfl, h2⟩
theorem zero_iff {X Y Z : Int} (hs : sides X Y Z = true) {v : BitVec 64} (hv : Low (X * Y * Z).toNat v) : (v.toNat : Int) = 0 ↔ ∀ c, within3 X Y Z c = true → v.getLsbD (idx Y Z c) = false := by
  constructor
  · intro h c _
    have : v = 0 := BitVec.eq_of_toNat_eq (by simp; omega)
    subst this
    simp
  · intro h
    have : v = 0 := box_ext hs hv (fun i _ => by simp) fun c hc => by rw [h c hc]; simp
    subst this
    simp
theorem l_isStairB {X Y Z : Int} (hs : sides X Y Z = true) (v : BitVec 64) {l : List D_A3} (hl : Small l) : ∀ (d i m : Nat), l.length = i + d → d < m →
    ∃ b, l_box_isStair_2 m X Y Z (v.toNat : Int) l (l.length : Int) (i : Int) = some (b, ()) ∧ (b = true ↔ ∀ c ∈ l.drop i, ∀ d, within3 X Y Z d = true → leC d c → v.getLsbD (idx Y Z d) = true)
  | d, i, 0, _, h => by omega
  | d, i, m + 1, hk, hm => by
    have hl' : l.length ≤ 1048576 := hl
    rw [q_box_isStair_2]
    by_cases h : i < l.length
    · rw [ltT h, inB_at h, nthA (t := T_A3) h]
      obtain ⟨u, h1, h2⟩ := f_below hs l[i]
      rw [h1]
      simp only [cond_true, Option.bind_some]
      rw [andNot64]
      have hz := zero_iff hs (v := u &&& ~~~v) (low_and h2.1)
      have hbit : ∀ c, within3 X Y Z c = true → (u &&& ~~~v).getLsbD (idx Y Z c) = (leB c l[i] && !v.getLsbD (idx Y Z c)) := fun c hc => by
        have h64 := (idx_eq hs hc).2.1
        have := size64 hs
        rw [BitVec.getLsbD_and, h2.2 c hc, BitVec.getLsbD_not, decide_eq_true (by omega)]
        simp
      rw [drop_at l i h]
      by_cases e : (((u &&& ~~~v).toNat : Nat) : Int) = 0
      · rw [decide_eq_true e]
        simp only [Bool.not_true, cond_false]
        rw [succI i (by omega)]
        obtain ⟨b, g1, g2⟩ := l_isStairB hs v hl (d - 1) (i + 1) m (by omega) (by omega)
        refine ⟨b, g1, g2.trans ?_⟩
        have hz' := hz.1 e
        constructor
        · intro hh c hc
          rcases List.mem_cons.1 hc with rfl | hc
          · intro d hd hle
            have := hz' d hd
            rw [hbit d hd, leB_iff.2 hle] at this
            simpa using this
          · exact hh c hc
        · intro hh c hc
          exact hh c (List.mem_cons_of_mem _ hc)
      · rw [decide_eq_false e]
        refine ⟨false, rfl, ?_⟩
        simp only [Bool.false_eq_true, false_iff]
        intro hh
        refine e (hz.2 fun c hc => ?_)
        rw [hbit c hc]
        cases hb : leB c l[i] with
        | false => rfl
        | true =>
          rw [hh _ (List.mem_cons_self ..) c hc (leB_iff.1 hb)]
          rfl
    · rw [ltF h, List.drop_eq_nil_of_le (by omega)]
      exact ⟨true, rfl, by simp⟩
theorem f_isStairB {X Y Z : Int} (hs : sides X Y Z = true) (v : BitVec 64) : P_box_isStair ((X, Y, Z, ()), (v.toNat : Int), ()) = some (stB X Y Z (bitCells X Y Z v), ()) := by
  rw [p_box_isStair, f_box_list hs]
  simp only [Option.bind_some]
  have hsm := small_listOf hs v
  obtain ⟨b, h1, h2⟩ := l_isStairB hs v hsm (bitCells X Y Z v).length 0 N (by simp) (by unfold Small at hsm; have := N_ge; omega)
  have e : b = stB X Y Z (bitCells X Y Z v) := by
    rw [Bool.eq_iff_iff, h2, stB_iff, List.drop_zero]
    unfold Stair
    constructor
    · intro hh c hc d hd hle
      rw [mem_listOf hs]
      exact ⟨hd, hh c hc d hd hle⟩
    · intro hh c hc d hd hle
      exact ((mem_listOf hs v d).1 (hh c hc d hd hle)).2
  rw [← e]
  exact h1
def okStair (h : D_Heap) : Prop := okHeap h = true ∧ Stair h.1 h.2.1 h.2.2.1 h.2.2.2.1
open Classical in
noncomputable def okSt (h : D_Heap) : Bool := decide (okStair h)
open Classical in
theorem okSt_iff {h : D_Heap} : okSt h = true ↔ okStair h := by unfold okSt; rw [decide_eq_true_eq]
theorem okSt_of {h : D_Heap} (ho : okHeap h = true) : okSt h = stB h.1 h.2.1 h.2.2.1 h.2.2.2.1 := by
  rw [Bool.eq_iff_iff, okSt_iff, stB_iff]
  exact ⟨fun x => x.2, fun x => ⟨ho, x⟩⟩
theorem okSt_no {h : D_Heap} (ho : okHeap h = false) : okSt h = false := by
  rw [Bool.eq_false_iff]
  intro hh
  rw [(okSt_iff.1 hh).1] at ho
  cases ho
theorem f_isStair (h : D_Heap) (hl : Small h.2.2.2.1) : P_impl_isStair (h, ()) = some (okSt h, ()) := by
  rw [p_impl_isStair, f_impl_IsHeap _ hl]
  cases ho : okHeap h with
  | false => rw [okSt_no ho]; rfl
  | true =>
    obtain ⟨hs, hi, hr⟩ := okHeap_iff.1 ho
    obtain ⟨X, Y, Z, l, ⟨⟩⟩ := h
    rw [okSt_of ho, f_Heap_box]
    simp only [Option.bind_some, cond_true]
    rw [f_Heap_cubes hs hl hi]
    simp only [Option.bind_some]
    rw [f_isStairB hs, listOf_mask hs hi hr]
    rfl
theorem f_l5Good (h : D_Heap) (hl : Small h.2.2.2.1) : P_spec_l5Good (h, ()) = some (okSt h, ()) := by
  rw [p_spec_l5Good, f_spec_l2Heap _ hl]
  cases ho : okHeap h with
  | false => rw [okSt_no ho]; rfl
  | true =>
    obtain ⟨hs, hi, hr⟩ := okHeap_iff.1 ho
    obtain ⟨X, Y, Z, l, ⟨⟩⟩ := h
    rw [okSt_of ho]
    simp only [Option.bind_some, cond_true]
    rw [f_l5Stair hs hl hi]
    rfl
theorem is_both (h : D_Heap) (hl : Small h.2.2.2.1) : P_impl_IsStair (h, ()) = some (okSt h, okHeap h, ()) ∧ P_spec_IsStair (h, ()) = some (okSt h, okHeap h, ()) := by
  rw [p_impl_IsStair, p_spec_IsStair, f_impl_IsHeap _ hl, f_spec_l2Heap _ hl]
  cases ho : okHeap h with
  | false => rw [okSt_no ho]; exact ⟨rfl, rfl⟩
  | true =>
    simp only [Option.bind_some, Bool.not_true, cond_false]
    rw [f_isStair _ hl]
    obtain ⟨hs, hi, hr⟩ := okHeap_iff.1 ho
    refine ⟨rfl, ?_⟩
    rw [okSt_of ho]
    obtain ⟨X, Y, Z, l, ⟨⟩⟩ := h
    rw [f_l5Stair hs hl hi]
    rfl
end Go.VI
/- Plain: heights and stacks of staircases. -/
namespace Go.VI
open Go.Proofs
def mx1 (n a : Int) : Int := bif decide (n > a) then n else a
def upM (Y : Int) (acc : List Int) (c : D_A3) : List Int := List.set acc (Int.toNat (lineI Y c)) (mx1 (c.2.2.1 + 1) (nth ((.int .i64) : Ty) acc (lineI Y c)))
theorem upM_len {Y : Int} {acc : List Int} {c : D_A3} : (upM Y acc c).length = acc.length := by simp [upM]
theorem mx1_ge (n a : Int) : n ≤ mx1 n a ∧ a ≤ mx1 n a ∧ (mx1 n a = n ∨ mx1 n a = a) := by
  unfold mx1
  by_cases h : n > a
  · rw [decide_eq_true h]; exact ⟨Int.le_refl _, (by show a ≤ n; omega), .inl rfl⟩
  · rw [decide_eq_false h]; exact ⟨(by show n ≤ a; omega), Int.le_refl _, .inr rfl⟩
theorem l_heights {X Y Z : Int} (hs : sides X Y Z = true) {l : List D_A3} (hl : Small l) (hi : Ins X Y Z l) : ∀ (d i m : Nat) (acc : List Int), l.length = i + d → d < m → acc.length = (X * Y).toNat →
    l_Heap_heights_3 m X Y Z l acc l (l.length : Int) (i : Int) = some ((l.drop i).foldl (upM Y) acc, ())
  | d, i, 0, acc, _, h, _ => by omega
  | d, i, m + 1, acc, hk, hm, ha => by
    have hl' : l.length ≤ 1048576 := hl
    rw [q_Heap_heights_3]
    by_cases h : i < l.length
    · have hc := hi _ (List.getElem_mem h)
      have w := within3_iff.1 hc
      have s := sides_iff.1 hs
      rw [ltT h, inB_at h, nthA (t := T_A3) h, f_Heap_box]
      simp only [cond_true, Option.bind_some]
      rw [f_line2 hs hc]
      simp only [Option.bind_some]
      rw [inB_line hs hc ha, w64 (x := l[i].2.2.1 + 1) (by omega) (by omega), succI i (by omega)]
      simp only [cond_true]
      rw [drop_at l i h, List.foldl_cons]
      exact l_heights hs hl hi (d - 1) (i + 1) m (upM Y acc l[i]) (by omega) (by omega) (by rw [upM_len, ha])
    · rw [ltF h, List.drop_eq_nil_of_le (by omega)]
      rfl
def tops (X Y : Int) (l : List D_A3) : List Int := l.foldl (upM Y) (List.replicate (X * Y).toNat 0)
theorem f_heights {X Y Z : Int} (hs : sides X Y Z = true) {l : List D_A3} (hl : Small l) (hi : Ins X Y Z l) : P_Heap_heights ((X, Y, Z, l, ()), ()) = some (tops X Y l, ()) := by
  have h5 := size64 hs
  rw [p_Heap_heights, w64 (x := X * Y) (by omega) (by omega), guardN (by omega) (by omega)]
  exact l_heights hs hl hi l.length 0 N (List.replicate (X * Y).toNat 0) (by simp) (by unfold Small at hl; have := N_ge; omega) (by simp)
theorem tops_at {X Y Z : Int} (hs : sides X Y Z = true) : ∀ (l : List D_A3) (acc : List Int), Ins X Y Z l → acc.length = (X * Y).toNat →
    (l.foldl (upM Y) acc).length = acc.length ∧ ∀ (i : Nat) (h : i < acc.length), ∃ v, (l.foldl (upM Y) acc)[i]? = some v ∧ acc[i] ≤ v ∧ (∀ c ∈ l, lineI Y c = i → c.2.2.1 + 1 ≤ v) ∧ (v = acc[i] ∨ ∃ c ∈ l, lineI Y c = i ∧ v = c.2.2.1 + 1)
  | [], acc, _, _ => ⟨rfl, fun i h => ⟨acc[i], by simp, Int.le_refl _, (fun c hc => by cases hc), .inl rfl⟩⟩
  | c :: l, acc, hi, ha => by
    have hc := hi c (List.mem_cons_self ..)
    obtain ⟨h1, h2, _⟩ := line_ok hs hc
    obtain ⟨k, hk⟩ : ∃ k : Nat, lineI Y c = (k : Int) := ⟨(lineI Y c).toNat, by omega⟩
    have hkl : k < acc.length := by omega
    obtain ⟨g1, g2⟩ := tops_at hs l (upM Y acc c) (fun x hx => hi x (List.mem_cons_of_mem _ hx)) (by rw [upM_len, ha])
    rw [List.foldl_cons]
    refine ⟨by rw [g1, upM_len], fun i h => ?_⟩
    obtain ⟨v, v1, v2, v3, v4⟩ := g2 i (by rw [upM_len]; exact h)
    have hu : upM Y acc c = acc.set k (mx1 (c.2.2.1 + 1) acc[k]) := by
      unfold upM
      rw [hk, nthA (t := .int .i64) hkl]
      rfl
    have m := mx1_ge (c.2.2.1 + 1) acc[k]
    refine ⟨v, v1, ?_, ?_, ?_⟩
    · simp only [hu] at v2
      by_cases e : k = i
      · subst e
        rw [List.getElem_set_self] at v2
        omega
      · rwa [List.getElem_set_ne (by omega)] at v2
    · intro x hx hxi
      rcases List.mem_cons.1 hx with rfl | hx
      · have e : k = i := by omega
        subst e
        simp only [hu, List.getElem_set_self] at v2
        omega
      · exact v3 x hx hxi
    · rcases v4 with v4 | ⟨x, hx, hxi, hv⟩
      · simp only [hu] at v4
        by_cases e : k = i
        · subst e
          rw [List.getElem_set_self] at v4
          rcases m.2.2 with m' | m'
          · exact .inr ⟨c, List.mem_cons_self .., hk, by rw [v4, m']⟩
          · exact .inl (by rw [v4, m'])
        · rw [List.getElem_set_ne (by omega)] at v4
          exact .inl v4
      · exact .inr ⟨x, List.mem_cons_of_mem _ hx, hxi, hv⟩
theorem tops_HV {X Y Z : Int} (hs : sides X Y Z = true) {l : List D_A3} (hl : Small l) (hi : Ins X Y Z l) (hr : Srt l) (hst : Stair X Y Z l) : tops X Y l = HV X Y Z l := by
  have s := sides_iff.1 hs
  obtain ⟨t1, t2⟩ := tops_at hs l (List.replicate (X * Y).toNat 0) hi (by simp)
  refine HV_uniq hs hl hi hr hst (by rw [tops, t1]; simp) fun x y hx hy => ?_
  have hn := line_nat s.1 s.2.1 hx hy
  obtain ⟨v, v1, v2, v3, v4⟩ := t2 (x * Y + y).toNat (by rw [List.length_replicate]; omega)
  rw [List.getElem_replicate] at v2 v4
  have e : (((x * Y + y).toNat : Nat) : Int) = x * Y + y := by omega
  rw [e] at v3 v4
  have hcell : ∀ c ∈ l, lineI Y c = x * Y + y → c = atC x y c.2.2.1 := fun c hc hli => by
    have w := within3_iff.1 (hi c hc)
    obtain ⟨e1, e2⟩ := line_inj w.2.1 hy s.2.1 hli
    exact cell_ext e1 e2 rfl
  refine ⟨v.toNat, by rw [tops, v1]; congr 1; omega, ?_, fun z hz => ?_⟩
  · rcases v4 with v4 | ⟨c, hc, _, hv⟩
    · omega
    · have w := within3_iff.1 (hi c hc)
      omega
  · constructor
    · intro hm
      have := v3 _ hm rfl
      have e' : (atC x y z).2.2.1 = z := rfl
      rw [e'] at this
      omega
    · intro hlt
      rcases v4 with v4 | ⟨c, hc, hli, hv⟩
      · omega
      · have hce := hcell c hc hli
        have w := within3_iff.1 (hi c hc)
        refine hst c hc _ ?_ ?_
        · rw [within3_iff]; simp only [atC]; omega
        · rw [hce]
          refine ⟨Int.le_refl _, Int.le_refl _, ?_⟩
          show z ≤ c.2.2.1
          omega
theorem f_stack {X Y Z : Int} (hs : sides X Y Z = true) {V : List Int} (hV : V.length = (X * Y).toNat) : ∃ v : BitVec 64, P_box_stack ((X, Y, Z, ()), V, ()) = some ((v.toNat : Int), ()) ∧ SetIs X Y Z v (fun c => lowC Y V c) := by
  obtain ⟨v, h1, h2⟩ := f_those hs (F := fun y => P_box_stack_1 (y.1, V, (X, Y, Z, ()), ())) (g := fun c => lowC Y V c) (fun c hc => by
    show P_box_stack_1 (c, V, (X, Y, Z, ()), ()) = _
    rw [p_box_stack_1, f_line2 hs hc]
    simp only [Option.bind_some]
    rw [inB_line hs hc hV]
    rfl)
  exact ⟨v, by rw [p_box_stack, h1]; rfl, h2⟩
theorem stack_HV {X Y Z : Int} (hs : sides X Y Z = true) {l : List D_A3} (hl : Small l) (hi : Ins X Y Z l) (hr : Srt l) (hst : Stair X Y Z l) : P_box_stack ((X, Y, Z, ()), HV X Y Z l, ()) = some (((mask Y Z l 0).toNat : Int), ()) := by
  obtain ⟨v, h1, h2⟩ := f_stack hs (HV_len hs hl hi)
  have h3 : SetIs X Y Z v (fun c => decide (c ∈ l)) := ⟨h2.1, fun c hc => by rw [h2.2 c hc]; exact HV_low hs hl hi hr hst hc⟩
  rw [h1, h3.ext hs (setIs_mask hs hi)]
theorem heap_mask {X Y Z : Int} (hs : sides X Y Z = true) {l : List D_A3} (hi : Ins X Y Z l) (hr : Srt l) : P_box_heap ((X, Y, Z, ()), ((mask Y Z l 0).toNat : Int), ()) = some ((X, Y, Z, l, ()), ()) := by
  rw [f_box_heap hs, listOf_mask hs hi hr]
theorem small_HV {X Y Z : Int} (hs : sides X Y Z = true) {l : List D_A3} (hl : Small l) (hi : Ins X Y Z l) : Small (HV X Y Z l) := by
  have h5 := size64 hs
  unfold Small
  rw [HV_len hs hl hi]
  omega
theorem heights_both (h : D_Heap) (hl : Small h.2.2.2.1) : P_impl_StairHeights (h, ()) = some (if okSt h then HV h.1 h.2.1 h.2.2.1 h.2.2.2.1 else [], okSt h, ()) ∧ P_spec_StairHeights (h, ()) = some (if okSt h then HV h.1 h.2.1 h.2.2.1 h.2.2.2.1 else [], okSt h, ()) := by
  rw [p_impl_StairHeights, p_spec_StairHeights, f_isStair _ hl, f_l5Good _ hl]
  cases ho : okSt h with
  | false => exact ⟨rfl, rfl⟩
  | true =>
    obtain ⟨hk, hst⟩ := okSt_iff.1 ho
    obtain ⟨hs, hi, hr⟩ := okHeap_iff.1 hk
    obtain ⟨X, Y, Z, l, ⟨⟩⟩ := h
    simp only [Option.bind_some, Bool.not_true, cond_false]
    rw [f_heights hs hl hi, tops_HV hs hl hi hr hst, p_spec_l2Heights, f_viewSD hs (by omega) (by omega) hl hi]
    exact ⟨rfl, rfl⟩
theorem all_lit {V : List Int} {Z : Int} (h : ∀ n ∈ V, 0 ≤ n ∧ n ≤ Z) : (V.all fun x => decide (0 ≤ x) && decide (x ≤ Z)) = true := by
  rw [List.all_eq_true]
  intro x hx
  have := h x hx
  simp [this.1, this.2]
theorem stackHeap_is {h : D_Heap} (hl : Small h.2.2.2.1) (ho : okStair h) : P_impl_StackHeap (h.1, h.2.1, h.2.2.1, HV h.1 h.2.1 h.2.2.1 h.2.2.2.1, ()) = some (h, true, ()) := by
  obtain ⟨hk, hst⟩ := ho
  obtain ⟨hs, hi, hr⟩ := okHeap_iff.1 hk
  obtain ⟨X, Y, Z, l, ⟨⟩⟩ := h
  have hs : sides X Y Z = true := hs
  have hl : Small l := hl
  have hi : Ins X Y Z l := hi
  have h5 := size64 hs
  have hlen := HV_len hs hl hi
  rw [p_impl_StackHeap, f_box_valid]
  simp only [Option.bind_some]
  have hs' : sides X Y Z = true := hs
  rw [hs', w64 (x := X * Y) (by omega) (by omega), decide_eq_true (p := ((HV X Y Z l).length : Int) = X * Y) (by omega)]
  simp only [Bool.not_true, cond_false]
  rw [f_allWithin (small_HV hs hl hi), all_lit (HV_lit hs hl hi hr hst)]
  simp only [Option.bind_some, Bool.not_true, cond_false]
  rw [stack_HV hs hl hi hr hst]
  simp only [Option.bind_some]
  rw [heap_mask hs hi hr]
  rfl
theorem settled_is {h : D_Heap} (hl : Small h.2.2.2.1) (ho : okStair h) : P_impl_IsSettled (h, ()) = some (true, true, ()) := by
  obtain ⟨hk, hst⟩ := ho
  obtain ⟨hs, hi, hr⟩ := okHeap_iff.1 hk
  rw [p_impl_IsSettled, f_impl_IsHeap _ hl, hk]
  obtain ⟨X, Y, Z, l, ⟨⟩⟩ := h
  simp only [Option.bind_some, Bool.not_true, cond_false]
  rw [p_Heap_dropped, f_Heap_box, f_Heap_cubes hs hl hi]
  simp only [Option.bind_some]
  rw [f_viewIB hs (by omega) (by omega), listOf_mask hs hi hr]
  simp only [Option.bind_some]
  have e : viewD X Y Z 2 l = HV X Y Z l := rfl
  rw [e, stack_HV hs hl hi hr hst]
  simp
end Go.VI
/- Plain: corners, hollows, the other staircase and the turned one. -/
namespace Go.VI
open Go.Proofs
theorem stB_congr {X Y Z : Int} {l m : List D_A3} (h : ∀ c, within3 X Y Z c = true → (c ∈ l ↔ c ∈ m)) (hl : Ins X Y Z l) (hm : Ins X Y Z m) : stB X Y Z l = stB X Y Z m := by
  rw [Bool.eq_iff_iff, stB_iff, stB_iff]
  constructor
  · intro hs c hc d hd hle
    exact (h d hd).1 (hs c ((h c (hm c hc)).2 hc) d hd hle)
  · intro hs c hc d hd hle
    exact (h d hd).2 (hs c ((h c (hl c hc)).1 hc) d hd hle)
theorem ins_bits {X Y Z : Int} (hs : sides X Y Z = true) (v : BitVec 64) : Ins X Y Z (bitCells X Y Z v) := fun c hc => ((mem_listOf hs v c).1 hc).1
theorem and_zero (v : BitVec 64) {i : Nat} (hi : i < 64) : (((v &&& BitVec.twoPow 64 i).toNat : Nat) : Int) = 0 ↔ v.getLsbD i = false := by
  constructor
  · intro h
    have h0 : (v &&& BitVec.twoPow 64 i).toNat = 0 := by omega
    have e : v &&& BitVec.twoPow 64 i = 0 := BitVec.eq_of_toNat_eq (h0.trans rfl)
    have := congrArg (fun u => BitVec.getLsbD u i) e
    simpa [hi] using this
  · intro h
    have e : v &&& BitVec.twoPow 64 i = 0 := by
      apply BitVec.eq_of_getLsbD_eq
      intro j hj
      rw [BitVec.getLsbD_and, BitVec.getLsbD_twoPow]
      by_cases hij : i = j
      · subst hij; simp [h]
      · simp [hij]
    rw [e]; rfl
theorem two_at {X Y Z : Int} (hs : sides X Y Z = true) {c x : D_A3} (hc : within3 X Y Z c = true) (hx : within3 X Y Z x = true) : (BitVec.twoPow 64 (idx Y Z c)).getLsbD (idx Y Z x) = decide (x = c) := by
  have h64 : idx Y Z c < 64 := by have := (idx_eq hs hc).2.1; have := size64 hs; omega
  rw [BitVec.getLsbD_twoPow, decide_eq_true h64, Bool.true_and]
  exact decide_eq_decide.2 ⟨fun e => idx_inj hs hx hc e.symm, fun e => by rw [e]⟩
def lessC (l : List D_A3) (c : D_A3) : List D_A3 := l.filter fun x => !decide (x = c)
theorem ins_less {X Y Z : Int} {l : List D_A3} (hi : Ins X Y Z l) (c : D_A3) : Ins X Y Z (lessC l c) := hi.filter _
theorem mem_less {l : List D_A3} {c x : D_A3} : x ∈ lessC l c ↔ x ∈ l ∧ x ≠ c := by simp [lessC]
theorem small_less {l : List D_A3} (hl : Small l) (c : D_A3) : Small (lessC l c) := by
  unfold Small lessC at *
  exact Nat.le_trans (List.length_filter_le _ _) hl
noncomputable def cornL (X Y Z : Int) (l : List D_A3) : List D_A3 := l.filter fun c => stB X Y Z (lessC l c)
theorem f_corn1 {X Y Z : Int} (hs : sides X Y Z = true) {l : List D_A3} (hi : Ins X Y Z l) {c : D_A3} (hc : within3 X Y Z c = true) : P_box_stairCorners_1 (c, (X, Y, Z, ()), ((mask Y Z l 0).toNat : Int), ()) = some (decide (c ∈ l) && stB X Y Z (lessC l c), ()) := by
  have h64 : idx Y Z c < 64 := by have := (idx_eq hs hc).2.1; have := size64 hs; omega
  have h0 : decide ((0 : Int) ≤ (idx Y Z c : Int)) = true := decide_eq_true (by omega)
  rw [p_box_stairCorners_1, f_box_index hs hc]
  simp only [Option.bind_some]
  rw [h0, shl64, and64, andNot64]
  simp only [cond_true]
  have hz := and_zero (mask Y Z l 0) h64
  rw [mask_mem hs hi hc, decide_eq_false_iff_not] at hz
  by_cases hm : c ∈ l
  · rw [decide_eq_false (fun e => hz.1 e hm), decide_eq_true hm, f_isStairB hs]
    simp only [Bool.not_false, cond_true, Option.bind_some, Bool.true_and]
    congr 2
    refine stB_congr (fun x hx => ?_) (ins_bits hs _) (ins_less hi c)
    have x64 : idx Y Z x < 64 := by have := (idx_eq hs hx).2.1; have := size64 hs; omega
    rw [mem_listOf hs, mem_less, BitVec.getLsbD_and, mask_mem hs hi hx, BitVec.getLsbD_not, two_at hs hc hx]
    simp only [hx, true_and, Bool.and_eq_true, decide_eq_true_eq, x64, decide_true, Bool.true_and, Bool.not_eq_true', decide_eq_false_iff_not, ne_eq]
  · rw [decide_eq_true (hz.2 hm), decide_eq_false hm]
    rfl
theorem l_corners {X Y Z : Int} (hs : sides X Y Z = true) {l : List D_A3} (hl : Small l) (hi : Ins X Y Z l) : ∀ (d i m : Nat) (out : List D_A3), l.length = i + d → d < m → out.length ≤ i →
    l_spec_l5Corners_3 m X Y Z l out (i : Int) = some (out ++ (l.drop i).filter (fun c => stB X Y Z (lessC l c)), ())
  | d, i, 0, out, _, h, _ => by omega
  | d, i, m + 1, out, hk, hm, ho => by
    have hl' : l.length ≤ 1048576 := hl
    rw [q_spec_l5Corners_3]
    by_cases h : i < l.length
    · rw [ltT h, inB_at h, nthA (t := T_A3) h, f_without l l[i] (by omega)]
      simp only [cond_true, Option.bind_some]
      have := f_l5Stair hs (small_less hl l[i]) (ins_less hi l[i])
      unfold lessC at this
      rw [this]
      simp only [Option.bind_some]
      rw [drop_at l i h, List.filter_cons, succI i (by omega), app_len' (by omega)]
      have e : stB X Y Z (lessC l l[i]) = stB X Y Z (l.filter fun x => !decide (x = l[i])) := rfl
      rw [e]
      cases stB X Y Z (l.filter fun x => !decide (x = l[i])) with
      | true =>
        simp only [cond_true, if_true]
        rw [l_corners hs hl hi (d - 1) (i + 1) m (out ++ [l[i]]) (by omega) (by omega) (by simp; omega), List.append_assoc]
        rfl
      | false =>
        simp only [cond_false, Bool.false_eq_true, if_false]
        exact l_corners hs hl hi (d - 1) (i + 1) m out (by omega) (by omega) (by omega)
    · rw [ltF h, List.drop_eq_nil_of_le (by omega)]
      simp
theorem srt_corn {X Y Z : Int} {l : List D_A3} (hr : Srt l) : Srt (cornL X Y Z l) := hr.filter _
theorem corners_both (h : D_Heap) (hl : Small h.2.2.2.1) : P_impl_StairCorners (h, ()) = some (if okSt h then cornL h.1 h.2.1 h.2.2.1 h.2.2.2.1 else [], okSt h, ()) ∧ P_spec_StairCorners (h, ()) = some (if okSt h then cornL h.1 h.2.1 h.2.2.1 h.2.2.2.1 else [], okSt h, ()) := by
  rw [p_impl_StairCorners, p_spec_StairCorners, f_isStair _ hl, f_l5Good _ hl]
  cases ho : okSt h with
  | false => exact ⟨rfl, rfl⟩
  | true =>
    obtain ⟨hk, hst⟩ := okSt_iff.1 ho
    obtain ⟨hs, hi, hr⟩ := okHeap_iff.1 hk
    obtain ⟨X, Y, Z, l, ⟨⟩⟩ := h
    have hl : Small l := hl
    have hs : sides X Y Z = true := hs
    simp only [Option.bind_some, Bool.not_true, cond_false, if_true]
    constructor
    · rw [f_Heap_box, f_Heap_cubes hs hl hi]
      simp only [Option.bind_some]
      rw [p_box_stairCorners]
      obtain ⟨v, h1, h2⟩ := f_those hs (F := fun y => P_box_stairCorners_1 (y.1, (X, Y, Z, ()), ((mask Y Z l 0).toNat : Int), ())) (g := fun c => decide (c ∈ l) && stB X Y Z (lessC l c)) (fun c hc => f_corn1 hs hi hc)
      rw [h1]
      simp only [Option.bind_some]
      rw [f_box_list hs, h2.cells hs (l := cornL X Y Z l) (srt_corn hr) (fun c => ?_)]
      · rfl
      · unfold cornL
        rw [List.mem_filter, Bool.and_eq_true, decide_eq_true_eq]
        exact ⟨fun x => ⟨hi c x.1, x⟩, fun x => x.2⟩
    · rw [p_spec_l5Corners]
      have hl' : l.length ≤ 1048576 := hl
      have := l_corners hs hl hi l.length 0 N [] (by simp) (by have := N_ge; omega) (by simp)
      have e : ((0 : Nat) : Int) = 0 := rfl
      rw [e] at this
      rw [this]
      rfl
noncomputable def hollL (X Y Z : Int) (l : List D_A3) : List D_A3 := (allCells X Y Z).filter fun c => !decide (c ∈ l) && stB X Y Z (c :: l)
theorem ins_cons {X Y Z : Int} {l : List D_A3} (hi : Ins X Y Z l) {c : D_A3} (hc : within3 X Y Z c = true) : Ins X Y Z (c :: l) := fun x hx => by
  rcases List.mem_cons.1 hx with rfl | hx
  · exact hc
  · exact hi x hx
theorem f_holl1 {X Y Z : Int} (hs : sides X Y Z = true) {l : List D_A3} (hi : Ins X Y Z l) {c : D_A3} (hc : within3 X Y Z c = true) : P_impl_StairHollows_1 (c, (X, Y, Z, ()), ((mask Y Z l 0).toNat : Int), ()) = some (!decide (c ∈ l) && stB X Y Z (c :: l), ()) := by
  have h64 : idx Y Z c < 64 := by have := (idx_eq hs hc).2.1; have := size64 hs; omega
  have h0 : decide ((0 : Int) ≤ (idx Y Z c : Int)) = true := decide_eq_true (by omega)
  rw [p_impl_StairHollows_1, f_box_index hs hc]
  simp only [Option.bind_some]
  rw [h0, shl64, and64, or64]
  simp only [cond_true]
  have hz := and_zero (mask Y Z l 0) h64
  rw [mask_mem hs hi hc, decide_eq_false_iff_not] at hz
  by_cases hm : c ∈ l
  · rw [decide_eq_false (fun e => hz.1 e hm), decide_eq_true hm]
    rfl
  · rw [decide_eq_true (hz.2 hm), decide_eq_false hm, f_isStairB hs]
    simp only [Bool.not_false, cond_true, Option.bind_some, Bool.true_and]
    congr 2
    refine stB_congr (fun x hx => ?_) (ins_bits hs _) (ins_cons hi hc)
    rw [mem_listOf hs, List.mem_cons, BitVec.getLsbD_or, mask_mem hs hi hx, two_at hs hc hx]
    simp only [hx, true_and, Bool.or_eq_true, decide_eq_true_eq]
    exact Or.comm
theorem l_hollows {X Y Z : Int} (hs : sides X Y Z = true) {l al : List D_A3} (hl : l.length ≤ 1000000) (hi : Ins X Y Z l) (hr : Srt l) (hal : Small al) (hai : Ins X Y Z al) : ∀ (d i m : Nat) (out : List D_A3), al.length = i + d → d < m → out.length ≤ i →
    l_spec_StairHollows_6 m X Y Z l out al (i : Int) = some (out ++ (al.drop i).filter (fun c => !decide (c ∈ l) && stB X Y Z (c :: l)), true, ())
  | d, i, 0, out, _, h, _ => by omega
  | d, i, m + 1, out, hk, hm, ho => by
    have hal' : al.length ≤ 1048576 := hal
    rw [q_spec_StairHollows_6]
    by_cases h : i < al.length
    · have hc := hai _ (List.getElem_mem h)
      rw [ltT h, inB_at h, nthA (t := T_A3) h, f_l2Has X Y Z l al[i] (by unfold Small; omega)]
      simp only [cond_true, Option.bind_some]
      rw [drop_at al i h, List.filter_cons, succI i (by omega), app_len' (by omega)]
      by_cases hm' : al[i] ∈ l
      · rw [decide_eq_true hm']
        simp only [Bool.not_true, cond_false, Bool.false_and, Bool.false_eq_true, if_false]
        exact l_hollows hs hl hi hr hal hai (d - 1) (i + 1) m out (by omega) (by omega) (by omega)
      · rw [decide_eq_false hm']
        obtain ⟨l', g1, g2, g3, g4⟩ := f_l2With (X := X) (Y := Y) (Z := Z) hr al[i] (by omega)
        have hi' : Ins X Y Z l' := fun x hx => by
          rcases (g3 x).1 hx with rfl | hx
          · exact hc
          · exact hi x hx
        have e : stB X Y Z l' = stB X Y Z (al[i] :: l) := stB_congr (fun x _ => by rw [g3, List.mem_cons]) hi' (ins_cons hi hc)
        rw [g1]
        simp only [Option.bind_some, Bool.not_false, cond_true, Bool.true_and]
        rw [f_l5Stair hs (by unfold Small; omega) hi', e]
        simp only [Option.bind_some]
        cases stB X Y Z (al[i] :: l) with
        | true =>
          simp only [cond_true, if_true]
          rw [l_hollows hs hl hi hr hal hai (d - 1) (i + 1) m (out ++ [al[i]]) (by omega) (by omega) (by simp; omega), List.append_assoc]
          rfl
        | false =>
          simp only [cond_false, Bool.false_eq_true, if_false]
          exact l_hollows hs hl hi hr hal hai (d - 1) (i + 1) m out (by omega) (by omega) (by omega)
    · rw [ltF h, List.drop_eq_nil_of_le (by omega)]
      simp
theorem spec_hollows (h : D_Heap) (hl : h.2.2.2.1.length ≤ 1000000) : P_spec_StairHollows (h, ()) = some (if okSt h then hollL h.1 h.2.1 h.2.2.1 h.2.2.2.1 else [], okSt h, ()) := by
  rw [p_spec_StairHollows, f_l5Good _ (by unfold Small; omega)]
  cases ho : okSt h with
  | false => rfl
  | true =>
    obtain ⟨hk, hst⟩ := okSt_iff.1 ho
    obtain ⟨hs, hi, hr⟩ := okHeap_iff.1 hk
    obtain ⟨X, Y, Z, l, ⟨⟩⟩ := h
    have hl : l.length ≤ 1000000 := hl
    have hs : sides X Y Z = true := hs
    obtain ⟨a1, a2, a3⟩ := allCells_ok hs
    simp only [Option.bind_some, Bool.not_true, cond_false, if_true]
    rw [f_l2All l hs]
    simp only [Option.bind_some]
    have a1' : (allCells X Y Z).length ≤ 1048576 := a1
    have := l_hollows hs hl hi hr a1 a2 (allCells X Y Z).length 0 N [] (by simp) (by have := N_ge; omega) (by simp)
    have e : ((0 : Nat) : Int) = 0 := rfl
    rw [e] at this
    rw [this]
    rfl
theorem hollows_both (h : D_Heap) (hl : h.2.2.2.1.length ≤ 1000000) : P_impl_StairHollows (h, ()) = some (if okSt h then hollL h.1 h.2.1 h.2.2.1 h.2.2.2.1 else [], okSt h, ()) ∧ P_spec_StairHollows (h, ()) = some (if okSt h then hollL h.1 h.2.1 h.2.2.1 h.2.2.2.1 else [], okSt h, ()) := by
  refine ⟨?_, spec_hollows h hl⟩
  rw [p_impl_StairHollows, f_isStair _ (by unfold Small; omega)]
  cases ho : okSt h with
  | false => rfl
  | true =>
    obtain ⟨hk, hst⟩ := okSt_iff.1 ho
    obtain ⟨hs, hi, hr⟩ := okHeap_iff.1 hk
    obtain ⟨X, Y, Z, l, ⟨⟩⟩ := h
    have hl : l.length ≤ 1000000 := hl
    have hs : sides X Y Z = true := hs
    obtain ⟨a1, a2, a3⟩ := allCells_ok hs
    simp only [Option.bind_some, Bool.not_true, cond_false, if_true]
    rw [f_Heap_box, f_Heap_cubes hs (by unfold Small; omega) hi]
    simp only [Option.bind_some]
    obtain ⟨v, h1, h2⟩ := f_those hs (F := fun y => P_impl_StairHollows_1 (y.1, (X, Y, Z, ()), ((mask Y Z l 0).toNat : Int), ())) (g := fun c => !decide (c ∈ l) && stB X Y Z (c :: l)) (fun c hc => f_holl1 hs hi hc)
    rw [h1]
    simp only [Option.bind_some]
    rw [f_box_list hs, h2.cells hs (l := hollL X Y Z l) (a3.filter _) (fun c => ?_)]
    · rfl
    · unfold hollL
      rw [List.mem_filter, mem_allCells hs]
end Go.VI
