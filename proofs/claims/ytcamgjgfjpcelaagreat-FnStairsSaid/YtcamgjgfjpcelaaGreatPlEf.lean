/- Plain: the other staircase and the turned one. -/
import Derived.Test.YtcamgjgfjpcelaaGreatPlEa
import Derived.Test.YtcamgjgfjpcelaaGreatPlO
namespace Go.VI
open Go.Proofs
theorem f_oth1 {X Y Z : Int} (hs : sides X Y Z = true) {l : List D_A3} (hi : Ins X Y Z l) {c : D_A3} (hc : within3 X Y Z c = true) : P_impl_OtherStair_1 (c, ((mask Y Z l 0).toNat : Int), (X, Y, Z, ()), ()) = some (!decide (revC X Y Z c ∈ l), ()) := by
  have s := sides_iff.1 hs
  have w := within3_iff.1 hc
  have hr : within3 X Y Z (revC X Y Z c) = true := by rw [revC_in]; exact hc
  rw [p_impl_OtherStair_1, w64 (x := X - 1) (by omega) (by omega), w64 (x := Y - 1) (by omega) (by omega), w64 (x := Z - 1) (by omega) (by omega), w64 (x := X - 1 - c.1) (by omega) (by omega), w64 (x := Y - 1 - c.2.1) (by omega) (by omega), w64 (x := Z - 1 - c.2.2.1) (by omega) (by omega)]
  have e := f_box_index hs hr
  unfold revC at e
  rw [e]
  simp only [Option.bind_some]
  rw [f_set_has]
  have e2 := mask_mem hs hi hr
  unfold revC at e2
  simp only [Option.bind_some]
  rw [e2]
  rfl
theorem l_oth {X Y Z X' Y' Z' : Int} (hs : sides X Y Z = true) {l al : List D_A3} (hl : Small l) (hal : Small al) (hai : Ins X Y Z al) : ∀ (d i m : Nat) (out : List D_A3), al.length = i + d → d < m → out.length ≤ i →
    l_spec_OtherStair_6 m X Y Z l 0 0 0 [] X' Y' Z' out al (i : Int) = some ((X', Y', Z', out ++ (al.drop i).filter (fun c => !decide (revC X Y Z c ∈ l)), ()), true, ())
  | d, i, 0, out, _, h, _ => by omega
  | d, i, m + 1, out, hk, hm, ho => by
    have hal' : al.length ≤ 1048576 := hal
    rw [q_spec_OtherStair_6]
    by_cases h : i < al.length
    · have hc := hai _ (List.getElem_mem h)
      have s := sides_iff.1 hs
      have w := within3_iff.1 hc
      rw [ltT h, inB_at h, nthA (t := T_A3) h, w64 (x := X - 1) (by omega) (by omega), w64 (x := Y - 1) (by omega) (by omega), w64 (x := Z - 1) (by omega) (by omega), w64 (x := X - 1 - al[i].1) (by omega) (by omega), w64 (x := Y - 1 - al[i].2.1) (by omega) (by omega), w64 (x := Z - 1 - al[i].2.2.1) (by omega) (by omega), f_l2Has X Y Z l _ hl]
      simp only [cond_true, Option.bind_some]
      rw [drop_at al i h, List.filter_cons, succI i (by omega), app_len' (by omega)]
      have e : ((X - 1 - al[i].1, X - 1 - al[i].1) : Int × Int) = (X - 1 - al[i].1, X - 1 - al[i].1) := rfl
      by_cases hm' : revC X Y Z al[i] ∈ l
      · have e : decide ((X - 1 - al[i].1, Y - 1 - al[i].2.1, Z - 1 - al[i].2.2.1, ()) ∈ l) = true := decide_eq_true hm'
        rw [e, decide_eq_true hm']
        simp only [Bool.not_true, cond_false, Bool.false_eq_true, if_false]
        exact l_oth hs hl hal hai (d - 1) (i + 1) m out (by omega) (by omega) (by omega)
      · have e : decide ((X - 1 - al[i].1, Y - 1 - al[i].2.1, Z - 1 - al[i].2.2.1, ()) ∈ l) = false := decide_eq_false hm'
        rw [e, decide_eq_false hm']
        simp only [Bool.not_false, cond_true, if_true]
        rw [l_oth hs hl hal hai (d - 1) (i + 1) m (out ++ [al[i]]) (by omega) (by omega) (by simp; omega), List.append_assoc]
        rfl
    · rw [ltF h, List.drop_eq_nil_of_le (by omega)]
      simp
noncomputable def othH (h : D_Heap) : D_Heap := (h.1, h.2.1, h.2.2.1, othC h.1 h.2.1 h.2.2.1 h.2.2.2.1, ())
theorem oth_impl {h : D_Heap} (hl : Small h.2.2.2.1) (ho : okStair h) : P_impl_OtherStair (h, ()) = some (othH h, true, ()) := by
  rw [p_impl_OtherStair, f_isStair _ hl, okSt_iff.2 ho]
  obtain ⟨hk, hst⟩ := ho
  obtain ⟨hs, hi, hr⟩ := okHeap_iff.1 hk
  obtain ⟨X, Y, Z, l, ⟨⟩⟩ := h
  have hl : Small l := hl
  have hs : sides X Y Z = true := hs
  simp only [Option.bind_some, Bool.not_true, cond_false]
  rw [f_Heap_box, f_Heap_cubes hs hl hi]
  simp only [Option.bind_some]
  obtain ⟨v, h1, h2⟩ := f_those hs (F := fun y => P_impl_OtherStair_1 (y.1, ((mask Y Z l 0).toNat : Int), (X, Y, Z, ()), ())) (g := fun c => !decide (revC X Y Z c ∈ l)) (fun c hc => f_oth1 hs hi hc)
  rw [h1]
  simp only [Option.bind_some]
  rw [heap_is hs h2 (l := othC X Y Z l) (othC_ok hs l).2.2 (fun c => by rw [mem_othC hs]; simp)]
  rfl
theorem oth_both (h : D_Heap) (hl : Small h.2.2.2.1) : P_impl_OtherStair (h, ()) = some (if okSt h then othH h else noHeap, okSt h, ()) ∧ P_spec_OtherStair (h, ()) = some (if okSt h then othH h else noHeap, okSt h, ()) := by
  cases ho : okSt h with
  | false =>
    rw [p_impl_OtherStair, p_spec_OtherStair, f_isStair _ hl, f_l5Good _ hl, ho]
    exact ⟨rfl, rfl⟩
  | true =>
    refine ⟨oth_impl hl (okSt_iff.1 ho), ?_⟩
    rw [p_spec_OtherStair, f_l5Good _ hl, ho]
    obtain ⟨hk, hst⟩ := okSt_iff.1 ho
    obtain ⟨hs, hi, hr⟩ := okHeap_iff.1 hk
    obtain ⟨X, Y, Z, l, ⟨⟩⟩ := h
    have hl : Small l := hl
    have hs : sides X Y Z = true := hs
    obtain ⟨a1, a2, a3⟩ := allCells_ok hs
    have a1' : (allCells X Y Z).length ≤ 1048576 := a1
    simp only [Option.bind_some, Bool.not_true, cond_false, if_true]
    rw [p_spec_l2Empty, f_l2All l hs]
    simp only [Option.bind_some]
    have := l_oth (X' := X) (Y' := Y) (Z' := Z) hs hl a1 a2 (allCells X Y Z).length 0 N [] (by simp) (by have := N_ge; omega) (by simp)
    have e : ((0 : Nat) : Int) = 0 := rfl
    rw [e] at this
    rw [this]
    rfl
theorem oth_ok {h : D_Heap} (ho : okStair h) : okStair (othH h) ∧ Small (othH h).2.2.2.1 ∧ othH (othH h) = h := by
  obtain ⟨hk, hst⟩ := ho
  obtain ⟨hs, hi, hr⟩ := okHeap_iff.1 hk
  obtain ⟨X, Y, Z, l, ⟨⟩⟩ := h
  have hs : sides X Y Z = true := hs
  obtain ⟨o1, o2, o3⟩ := othC_ok hs l
  refine ⟨⟨okHeap_iff.2 ⟨hs, o2, o3⟩, othC_stair hs hst⟩, o1, ?_⟩
  unfold othH
  simp only
  rw [othC_othC hs hi hr]
def turnC (c : D_A3) : D_A3 := (c.2.2.1, c.1, c.2.1, ())
noncomputable def turnL (X Y Z : Int) (l : List D_A3) : List D_A3 := bitCells Z X Y (mask X Y (l.map turnC) 0)
theorem turn_sides {X Y Z : Int} (hs : sides X Y Z = true) : sides Z X Y = true := by rw [sides_iff] at *; omega
theorem turn_in {X Y Z : Int} {c : D_A3} : within3 Z X Y (turnC c) = within3 X Y Z c := by
  rw [Bool.eq_iff_iff, within3_iff, within3_iff]
  unfold turnC
  constructor <;> (intro h; simp only at *; omega)
theorem turnC3 (c : D_A3) : turnC (turnC (turnC c)) = c := rfl
theorem turn_ins {X Y Z : Int} {l : List D_A3} (hi : Ins X Y Z l) : Ins Z X Y (l.map turnC) := fun x hx => by
  obtain ⟨c, hc, rfl⟩ := List.mem_map.1 hx
  rw [turn_in]; exact hi c hc
theorem turnL_ok {X Y Z : Int} (hs : sides X Y Z = true) {l : List D_A3} (hi : Ins X Y Z l) : Small (turnL X Y Z l) ∧ Ins Z X Y (turnL X Y Z l) ∧ Srt (turnL X Y Z l) ∧ ∀ x, x ∈ turnL X Y Z l ↔ ∃ c ∈ l, turnC c = x := by
  have hs' := turn_sides hs
  refine ⟨small_listOf hs' _, ins_bits hs' _, srt_listOf hs' _, fun x => ?_⟩
  unfold turnL
  rw [mem_listOf hs']
  constructor
  · rintro ⟨h1, h2⟩
    rw [mask_mem hs' (turn_ins hi) h1, decide_eq_true_eq] at h2
    obtain ⟨c, hc, e⟩ := List.mem_map.1 h2
    exact ⟨c, hc, e⟩
  · rintro ⟨c, hc, rfl⟩
    have hw : within3 Z X Y (turnC c) = true := by rw [turn_in]; exact hi c hc
    exact ⟨hw, by rw [mask_mem hs' (turn_ins hi) hw]; exact decide_eq_true (List.mem_map_of_mem hc)⟩
noncomputable def turnH (h : D_Heap) : D_Heap := (h.2.2.1, h.1, h.2.1, turnL h.1 h.2.1 h.2.2.1 h.2.2.2.1, ())
theorem turn_impl {h : D_Heap} (hl : Small h.2.2.2.1) (ho : okStair h) : P_impl_TurnStair (h, ()) = some (turnH h, true, ()) := by
  rw [p_impl_TurnStair, f_isStair _ hl, okSt_iff.2 ho]
  obtain ⟨hk, hst⟩ := ho
  obtain ⟨hs, hi, hr⟩ := okHeap_iff.1 hk
  obtain ⟨X, Y, Z, l, ⟨⟩⟩ := h
  have hl : Small l := hl
  have hs : sides X Y Z = true := hs
  have hi : Ins X Y Z l := hi
  simp only [Option.bind_some, Bool.not_true, cond_false]
  rw [p_Heap_turned, f_Heap_box]
  simp only [Option.bind_some]
  have h1 := f_moved (X := X) (Y := Y) (Z := Z) (turn_sides hs) hl (g := turnC) (F := fun y => P_Heap_turned_1 (y.1, (2, 0, 1, ()), ())) (fun c hc => ⟨by
    show P_Heap_turned_1 (c, (2, 0, 1, ()), ()) = _
    rw [p_Heap_turned_1]; rfl, by rw [turn_in]; exact hi c hc⟩)
  show (Option.bind (P_Heap_moved ((X, Y, Z, l, ()), (Z, X, Y, ()), (fun y => P_Heap_turned_1 (y.1, (2, 0, 1, ()), ())), ())) fun r4 => some (r4.1, ())).bind _ = _
  rw [h1]
  rfl
theorem l_exch {X Y Z : Int} {l : List D_A3} (hl : Small l) : ∀ (d i m : Nat) (out : List D_A3), l.length = i + d → d < m → Srt out → out.length ≤ i → (∀ x, x ∈ out ↔ ∃ c ∈ l.take i, turnC c = x) →
    ∃ out', l_spec_l5Exchanged_3 m X Y Z l 2 0 1 0 0 0 [] Z X Y out (i : Int) = some ((Z, X, Y, out', ()), ()) ∧ Srt out' ∧ ∀ x, x ∈ out' ↔ ∃ c ∈ l, turnC c = x
  | d, i, 0, out, _, h, _, _, _ => by omega
  | d, i, m + 1, out, hk, hm, hr, ho, hx => by
    have hl' : l.length ≤ 1048576 := hl
    rw [q_spec_l5Exchanged_3]
    by_cases h : i < l.length
    · obtain ⟨l', g1, g2, g3, g4⟩ := f_l2With (X := Z) (Y := X) (Z := Y) hr (turnC l[i]) (by omega)
      rw [ltT h, inB_at h, nthA (t := T_A3) h]
      show ∃ out', (Option.bind (P_spec_l2With ((Z, X, Y, out, ()), turnC l[i], ())) fun r5 => l_spec_l5Exchanged_3 m X Y Z l 2 0 1 0 0 0 [] r5.1.1 r5.1.2.1 r5.1.2.2.1 r5.1.2.2.2.1 (IntKind.wrap .i64 ((i : Int) + 1))) = _ ∧ _
      rw [g1]
      simp only [Option.bind_some]
      rw [succI i (by omega)]
      refine l_exch hl (d - 1) (i + 1) m l' (by omega) (by omega) g2 (by omega) fun x => ?_
      rw [g3, hx, List.take_succ_eq_append_getElem h]
      simp only [List.mem_append, List.mem_singleton]
      constructor
      · rintro (rfl | ⟨c, hc, e⟩)
        · exact ⟨l[i], .inr rfl, rfl⟩
        · exact ⟨c, .inl hc, e⟩
      · rintro ⟨c, hc | rfl, e⟩
        · exact .inr ⟨c, hc, e⟩
        · exact .inl e.symm
    · rw [ltF h]
      refine ⟨out, rfl, hr, fun x => ?_⟩
      rw [hx, List.take_of_length_le (by omega)]
theorem turn_both (h : D_Heap) (hl : Small h.2.2.2.1) : P_impl_TurnStair (h, ()) = some (if okSt h then turnH h else noHeap, okSt h, ()) ∧ P_spec_TurnStair (h, ()) = some (if okSt h then turnH h else noHeap, okSt h, ()) := by
  cases ho : okSt h with
  | false =>
    rw [p_impl_TurnStair, p_spec_TurnStair, f_isStair _ hl, f_l5Good _ hl, ho]
    exact ⟨rfl, rfl⟩
  | true =>
    refine ⟨turn_impl hl (okSt_iff.1 ho), ?_⟩
    rw [p_spec_TurnStair, f_l5Good _ hl, ho]
    obtain ⟨hk, hst⟩ := okSt_iff.1 ho
    obtain ⟨hs, hi, hr⟩ := okHeap_iff.1 hk
    obtain ⟨X, Y, Z, l, ⟨⟩⟩ := h
    have hl : Small l := hl
    have hl' : l.length ≤ 1048576 := hl
    have hs : sides X Y Z = true := hs
    have hi : Ins X Y Z l := hi
    simp only [Option.bind_some, Bool.not_true, cond_false, if_true]
    rw [p_spec_l5Exchanged]
    simp only
    rw [f_l2Long l (by omega) (by omega), f_l2Long l (by omega) (by omega), f_l2Long l (by omega) (by omega)]
    simp only [Option.bind_some]
    rw [p_spec_l2Empty]
    simp only [Option.bind_some]
    obtain ⟨out', g1, g2, g3⟩ := l_exch (X := X) (Y := Y) (Z := Z) hl l.length 0 N [] (by simp) (by have := N_ge; omega) List.Pairwise.nil (by simp) (by simp)
    have e : ((0 : Nat) : Int) = 0 := rfl
    rw [e] at g1
    have e1 : side3 X Y Z 2 = Z := rfl
    have e2 : side3 X Y Z 0 = X := rfl
    have e3 : side3 X Y Z 1 = Y := rfl
    rw [e1, e2, e3, g1]
    simp only [Option.bind_some]
    obtain ⟨t1, t2, t3, t4⟩ := turnL_ok hs hi
    have : out' = turnL X Y Z l := srt_ext _ _ g2 t3 fun x => by rw [g3, t4]
    rw [this]
    rfl
theorem turn_ok {h : D_Heap} (ho : okStair h) : okStair (turnH h) ∧ Small (turnH h).2.2.2.1 := by
  obtain ⟨hk, hst⟩ := ho
  obtain ⟨hs, hi, hr⟩ := okHeap_iff.1 hk
  obtain ⟨X, Y, Z, l, ⟨⟩⟩ := h
  have hs : sides X Y Z = true := hs
  obtain ⟨t1, t2, t3, t4⟩ := turnL_ok hs hi
  refine ⟨⟨okHeap_iff.2 ⟨turn_sides hs, t2, t3⟩, ?_⟩, t1⟩
  intro c hc d hd hle
  have hc : c ∈ turnL X Y Z l := hc
  have hd : within3 Z X Y d = true := hd
  show d ∈ turnL X Y Z l
  rw [t4] at hc ⊢
  obtain ⟨a, ha, rfl⟩ := hc
  refine ⟨turnC (turnC d), hst a ha _ ?_ ?_, turnC3 d⟩
  · have := within3_iff.1 hd
    rw [within3_iff]
    simp only [turnC] at *
    omega
  · unfold leC turnC at *
    simp only at *
    omega
theorem turn3 {h : D_Heap} (ho : okStair h) : turnH (turnH (turnH h)) = h := by
  have o1 := (turn_ok ho).1
  have o2 := (turn_ok o1).1
  obtain ⟨hk, hst⟩ := ho
  obtain ⟨hs, hi, hr⟩ := okHeap_iff.1 hk
  obtain ⟨X, Y, Z, l, ⟨⟩⟩ := h
  have hs : sides X Y Z = true := hs
  obtain ⟨_, t2, _, t4⟩ := turnL_ok hs hi
  have hs1 := turn_sides hs
  obtain ⟨_, u2, _, u4⟩ := turnL_ok hs1 t2
  have hs2 := turn_sides hs1
  obtain ⟨_, _, v3, v4⟩ := turnL_ok hs2 u2
  have e : turnL Y Z X (turnL Z X Y (turnL X Y Z l)) = l := srt_ext _ _ v3 hr fun x => by
    rw [v4]
    constructor
    · rintro ⟨a, ha, rfl⟩
      obtain ⟨b, hb, rfl⟩ := (u4 a).1 ha
      obtain ⟨c, hc, rfl⟩ := (t4 b).1 hb
      exact hc
    · intro hx
      exact ⟨turnC (turnC x), (u4 _).2 ⟨turnC x, (t4 _).2 ⟨x, hx, rfl⟩, rfl⟩, turnC3 x⟩
  unfold turnH
  simp only
  rw [e]
end Go.VI
/- Plain: how many staircases a box has. -/
namespace Go.VI
open Go.Proofs
theorem tmod_nat (a b : Nat) : Int.tmod (a : Int) (b : Int) = ((a % b : Nat) : Int) := rfl
theorem tdiv_nat (a b : Nat) : Int.tdiv (a : Int) (b : Int) = ((a / b : Nat) : Int) := rfl
theorem gcd_step (a b : Nat) : Nat.gcd b (a % b) = Nat.gcd a b := by rw [Nat.gcd_comm a b, Nat.gcd_rec b a, Nat.gcd_comm]
theorem l_gcdI (m0 m1 : Nat) (p0 p1 p2 p3 p4 p5 p8 p9 p10 p11 : Int) : ∀ (n b a fuel : Nat), b ≤ n → b < fuel → 0 < Nat.gcd a b →
    l_box_countStairs_10 m0 m1 fuel p0 p1 p2 p3 p4 p5 (a : Int) (b : Int) p8 p9 p10 p11 =
      l_box_countStairs_6 m0 m1 p0 p1 p2 (IntKind.wrap .i64 (Int.tdiv p3 (Nat.gcd a b : Nat))) (IntKind.wrap .i64 (Int.tdiv p4 (Nat.gcd a b : Nat))) p5 p8 p9 p10 (IntKind.wrap .i64 (p11 + 1))
  | n, b, a, 0, _, h, _ => by omega
  | n, b, a, fuel + 1, hn, h, hg => by
    rw [q_box_countStairs_10]
    by_cases hb : b = 0
    · subst hb
      rw [Nat.gcd_zero_right] at hg ⊢
      rw [decide_eq_true (p := ((0 : Nat) : Int) = 0) rfl, decide_eq_false (p := ((a : Nat) : Int) = 0) (by omega)]
      rfl
    · rw [decide_eq_false (p := ((b : Nat) : Int) = 0) (by omega), tmod_nat]
      simp only [Bool.not_false, cond_true]
      match n, hn with
      | 0, hn => omega
      | n + 1, hn =>
        have hlt : a % b < b := Nat.mod_lt _ (by omega)
        rw [l_gcdI m0 m1 p0 p1 p2 p3 p4 p5 p8 p9 p10 p11 n (a % b) b fuel (by omega) (by omega) (by rw [gcd_step]; exact hg), gcd_step]
theorem l_gcdS : ∀ (n b a fuel : Nat), b ≤ n → b < fuel → l_spec_l5Gcd_1 fuel (a : Int) (b : Int) = some (((Nat.gcd a b : Nat) : Int), ())
  | n, b, a, 0, _, h => by omega
  | n, b, a, fuel + 1, hn, h => by
    rw [q_spec_l5Gcd_1]
    by_cases hb : b = 0
    · subst hb
      rw [Nat.gcd_zero_right]
      rfl
    · rw [decide_eq_true (p := ((b : Nat) : Int) > 0) (by omega), decide_eq_false (p := ((b : Nat) : Int) = 0) (by omega), tmod_nat]
      simp only [Bool.not_false, cond_true]
      match n, hn with
      | 0, hn => omega
      | n + 1, hn =>
        have hlt : a % b < b := Nat.mod_lt _ (by omega)
        rw [l_gcdS n (a % b) b fuel (by omega) (by omega), gcd_step]
def okN (o u : Nat) : Bool := decide (o < 1000000000) && decide (u < 1000000) && decide (0 < Nat.gcd o u)
def cRow (z i : Nat) : (d k o u : Nat) → Option (Nat × Nat)
  | 0, _, o, u => some (o, u)
  | d + 1, k, o, u => if okN (o * (i + k + 1 + z)) (u * (i + k + 1)) then cRow z i d (k + 1) (o * (i + k + 1 + z) / Nat.gcd (o * (i + k + 1 + z)) (u * (i + k + 1))) (u * (i + k + 1) / Nat.gcd (o * (i + k + 1 + z)) (u * (i + k + 1))) else none
def cAll (y z : Nat) : (d i o u : Nat) → Option (Nat × Nat)
  | 0, _, o, u => some (o, u)
  | d + 1, i, o, u => (cRow z i y 0 o u).bind fun p => cAll y z d (i + 1) p.1 p.2
def sRow (z i : Nat) : (d j o u : Nat) → Option (Nat × Nat)
  | 0, _, o, u => some (o, u)
  | d + 1, j, o, u => if okN (o * (i + j + 1 + z)) (u * (i + j + 1)) then sRow z i d (j + 1) (o * (i + j + 1 + z)) (u * (i + j + 1)) else none
def sAll (y z : Nat) : (d i o u : Nat) → Option (Nat × Nat)
  | 0, _, o, u => some (o, u)
  | d + 1, i, o, u => (sRow z i y 0 o u).bind fun p => if okN p.1 p.2 then sAll y z d (i + 1) (p.1 / Nat.gcd p.1 p.2) (p.2 / Nat.gcd p.1 p.2) else none
theorem okN_iff {o u : Nat} : okN o u = true ↔ (o < 1000000000 ∧ u < 1000000) ∧ 0 < Nat.gcd o u := by simp [okN]
theorem natw {n : Nat} (h : n < 1000000000) : IntKind.wrap .i64 (n : Int) = (n : Int) := w64 (by omega) (by omega)
theorem l_cRow {X Y Z : Int} {z i : Nat} (hz : Z = z) (hz4 : z ≤ 4) (hi : i ≤ 4) (m0 : Nat) (p6 p7 : Int) {y : Nat} (hy : y ≤ 4) : ∀ (d k m o u : Nat) (r : Nat × Nat), k + d = y → d < m → cRow z i d k o u = some r →
    l_box_countStairs_6 m0 m X Y Z (o : Int) (u : Int) (i : Int) p6 p7 (y : Int) (k : Int) = l_box_countStairs_3 m0 X Y Z (r.1 : Int) (r.2 : Int) p6 (IntKind.wrap .i64 (p7 + 1))
  | d, k, 0, o, u, r, _, h, _ => by omega
  | 0, k, m + 1, o, u, r, hk, _, hr => by
    obtain rfl := Option.some.inj hr
    rw [q_box_countStairs_6, decide_eq_false (p := ((k : Nat) : Int) < (y : Int)) (by omega)]
    rfl
  | d + 1, k, m + 1, o, u, r, hk, hm, hr => by
    rw [cRow] at hr
    cases hok : okN (o * (i + k + 1 + z)) (u * (i + k + 1)) with
    | false => rw [hok] at hr; cases hr
    | true =>
      rw [hok] at hr
      obtain ⟨⟨h1, h2⟩, h3⟩ := okN_iff.1 hok
      have e1 : IntKind.wrap .i64 ((i : Int) + (k : Int)) = ((i + k : Nat) : Int) := by rw [w64 (by omega) (by omega)]; omega
      have e2 : IntKind.wrap .i64 (((i + k : Nat) : Int) + 1) = ((i + k + 1 : Nat) : Int) := by rw [w64 (by omega) (by omega)]; omega
      have e3 : IntKind.wrap .i64 (((i + k + 1 : Nat) : Int) + Z) = ((i + k + 1 + z : Nat) : Int) := by rw [w64 (by omega) (by omega)]; omega
      have e4 : (o : Int) * ((i + k + 1 + z : Nat) : Int) = ((o * (i + k + 1 + z) : Nat) : Int) := (Int.natCast_mul _ _).symm
      have e5 : (u : Int) * ((i + k + 1 : Nat) : Int) = ((u * (i + k + 1) : Nat) : Int) := (Int.natCast_mul _ _).symm
      rw [q_box_countStairs_6, decide_eq_true (p := ((k : Nat) : Int) < (y : Int)) (by omega), e1, e2, e3, e4, e5, natw h1, natw (by omega)]
      simp only [cond_true]
      rw [l_gcdI m0 m _ _ _ _ _ _ _ _ _ _ (u * (i + k + 1)) (u * (i + k + 1)) (o * (i + k + 1 + z)) N (Nat.le_refl _) (by have := N_ge; omega) h3, tdiv_nat, tdiv_nat,
        natw (Nat.lt_of_le_of_lt (Nat.div_le_self _ _) h1), natw (Nat.lt_of_le_of_lt (Nat.div_le_self _ _) (by omega)), succI k (by omega)]
      exact l_cRow hz hz4 hi m0 p6 p7 hy d (k + 1) m _ _ r (by omega) (by omega) hr
theorem l_cAll {X Y Z : Int} {y z x : Nat} (hX : X = x) (hY : Y = y) (hz : Z = z) (hx4 : x ≤ 4) (hy4 : y ≤ 4) (hz4 : z ≤ 4) : ∀ (d i m o u : Nat) (r : Nat × Nat), i + d = x → d < m → cAll y z d i o u = some r → r.2 ≠ 0 → r.1 < 1000000000 →
    l_box_countStairs_3 m X Y Z (o : Int) (u : Int) X (i : Int) = some (((r.1 / r.2 : Nat) : Int), ())
  | d, i, 0, o, u, r, _, h, _, _, _ => by omega
  | 0, i, m + 1, o, u, r, hk, _, hr, h0, h1 => by
    obtain rfl := Option.some.inj hr
    simp only at h0 h1
    rw [q_box_countStairs_3, decide_eq_false (p := ((i : Nat) : Int) < X) (by omega), decide_eq_false (p := ((u : Nat) : Int) = 0) (by omega), tdiv_nat, natw (Nat.lt_of_le_of_lt (Nat.div_le_self _ _) h1)]
    rfl
  | d + 1, i, m + 1, o, u, r, hk, hm, hr, h0, h1 => by
    rw [cAll] at hr
    cases hc : cRow z i y 0 o u with
    | none => rw [hc] at hr; cases hr
    | some p =>
      rw [hc] at hr
      rw [q_box_countStairs_3, decide_eq_true (p := ((i : Nat) : Int) < X) (by omega)]
      simp only [cond_true]
      have := l_cRow (X := X) (Y := Y) hz hz4 (i := i) (by omega) m X (i : Int) hy4 y 0 N o u p (by omega) (by have := N_ge; omega) hc
      rw [← hY] at this
      have e : ((0 : Nat) : Int) = 0 := rfl
      rw [e] at this
      rw [this, succI i (by omega)]
      exact l_cAll hX hY hz hx4 hy4 hz4 d (i + 1) m _ _ r (by omega) (by omega) hr h0 h1
theorem l_sRow {X Y Z : Int} {z i : Nat} (hz : Z = z) (hz4 : z ≤ 4) (hi : i ≤ 4) (m0 : Nat) {y : Nat} (hY : Y = y) (hy : y ≤ 4) : ∀ (d j m o u : Nat) (r : Nat × Nat), j + d = y → d < m → sRow z i d j o u = some r → okN r.1 r.2 = true →
    l_spec_l5Count_6 m0 m X Y Z (o : Int) (u : Int) ((i + 1 : Nat) : Int) ((j + 1 : Nat) : Int) = l_spec_l5Count_3 m0 X Y Z ((r.1 / Nat.gcd r.1 r.2 : Nat) : Int) ((r.2 / Nat.gcd r.1 r.2 : Nat) : Int) ((i + 1 + 1 : Nat) : Int)
  | d, j, 0, o, u, r, _, h, _, _ => by omega
  | 0, j, m + 1, o, u, r, hk, _, hr, hok => by
    obtain rfl := Option.some.inj hr
    obtain ⟨⟨h1, h2⟩, h3⟩ := okN_iff.1 hok
    simp only at h1 h2 h3
    rw [q_spec_l5Count_6, decide_eq_false (p := ((j + 1 : Nat) : Int) ≤ Y) (by omega), p_spec_l5Gcd, l_gcdS u u o N (Nat.le_refl _) (by have := N_ge; omega)]
    simp only [cond_false, Option.bind_some]
    rw [decide_eq_false (p := ((Nat.gcd o u : Nat) : Int) = 0) (by omega), tdiv_nat, tdiv_nat, natw (Nat.lt_of_le_of_lt (Nat.div_le_self _ _) h1), natw (Nat.lt_of_le_of_lt (Nat.div_le_self _ _) (by omega)), succI (i + 1) (by omega)]
    rfl
  | d + 1, j, m + 1, o, u, r, hk, hm, hr, hok => by
    rw [sRow] at hr
    cases hk2 : okN (o * (i + j + 1 + z)) (u * (i + j + 1)) with
    | false => rw [hk2] at hr; cases hr
    | true =>
      rw [hk2] at hr
      obtain ⟨⟨h1, h2⟩, h3⟩ := okN_iff.1 hk2
      have e1 : IntKind.wrap .i64 (((i + 1 : Nat) : Int) + ((j + 1 : Nat) : Int)) = ((i + j + 2 : Nat) : Int) := by rw [w64 (by omega) (by omega)]; omega
      have e2 : IntKind.wrap .i64 (((i + j + 2 : Nat) : Int) - 1) = ((i + j + 1 : Nat) : Int) := by rw [w64 (by omega) (by omega)]; omega
      have e3 : IntKind.wrap .i64 (((i + j + 2 : Nat) : Int) + Z) = ((i + j + 2 + z : Nat) : Int) := by rw [w64 (by omega) (by omega)]; omega
      have e6 : IntKind.wrap .i64 (((i + j + 2 + z : Nat) : Int) - 1) = ((i + j + 1 + z : Nat) : Int) := by rw [w64 (by omega) (by omega)]; omega
      have e4 : (o : Int) * ((i + j + 1 + z : Nat) : Int) = ((o * (i + j + 1 + z) : Nat) : Int) := (Int.natCast_mul _ _).symm
      have e5 : (u : Int) * ((i + j + 1 : Nat) : Int) = ((u * (i + j + 1) : Nat) : Int) := (Int.natCast_mul _ _).symm
      rw [q_spec_l5Count_6, decide_eq_true (p := ((j + 1 : Nat) : Int) ≤ Y) (by omega), e1, e2, e3, e6, e4, e5, natw h1, natw (by omega)]
      simp only [cond_true]
      rw [succI (j + 1) (by omega)]
      exact l_sRow hz hz4 hi m0 hY hy d (j + 1) m _ _ r (by omega) (by omega) hr hok
theorem l_sAll {X Y Z : Int} {y z x : Nat} (hX : X = x) (hY : Y = y) (hz : Z = z) (hx4 : x ≤ 4) (hy4 : y ≤ 4) (hz4 : z ≤ 4) : ∀ (d i m o u : Nat) (r : Nat × Nat), i + d = x → d < m → sAll y z d i o u = some r → r.2 ≠ 0 → r.1 < 1000000000 →
    l_spec_l5Count_3 m X Y Z (o : Int) (u : Int) ((i + 1 : Nat) : Int) = some (((r.1 / r.2 : Nat) : Int), ())
  | d, i, 0, o, u, r, _, h, _, _, _ => by omega
  | 0, i, m + 1, o, u, r, hk, _, hr, h0, h1 => by
    obtain rfl := Option.some.inj hr
    simp only at h0 h1
    rw [q_spec_l5Count_3, decide_eq_false (p := ((i + 1 : Nat) : Int) ≤ X) (by omega), decide_eq_false (p := ((u : Nat) : Int) = 0) (by omega), tdiv_nat, natw (Nat.lt_of_le_of_lt (Nat.div_le_self _ _) h1)]
    rfl
  | d + 1, i, m + 1, o, u, r, hk, hm, hr, h0, h1 => by
    rw [sAll] at hr
    cases hc : sRow z i y 0 o u with
    | none => rw [hc] at hr; cases hr
    | some p =>
      rw [hc] at hr
      simp only [Option.bind_some] at hr
      cases hok : okN p.1 p.2 with
      | false => rw [hok] at hr; cases hr
      | true =>
        rw [hok] at hr
        rw [q_spec_l5Count_3, decide_eq_true (p := ((i + 1 : Nat) : Int) ≤ X) (by omega)]
        simp only [cond_true]
        have := l_sRow (X := X) hz hz4 (i := i) (by omega) m hY hy4 y 0 N o u p (by omega) (by have := N_ge; omega) hc hok
        have e : ((0 + 1 : Nat) : Int) = 1 := rfl
        rw [e] at this
        rw [this]
        exact l_sAll hX hY hz hx4 hy4 hz4 d (i + 1) m _ _ r (by omega) (by omega) hr h0 h1
def chkC (x y z : Nat) : Bool :=
  match cAll y z x 0 1 1, sAll y z x 0 1 1 with
  | some p, some q => decide (p.2 ≠ 0) && decide (q.2 ≠ 0) && decide (p.1 < 1000000000) && decide (q.1 < 1000000000) && decide (p.1 / p.2 = q.1 / q.2) && (decide (1000 < p.1 / p.2) || decide ((z + 1) ^ (x * y) ≤ 3000000))
  | _, _ => false
def chkAll : Bool := ([1, 2, 3, 4] : List Nat).all fun x => ([1, 2, 3, 4] : List Nat).all fun y => ([1, 2, 3, 4] : List Nat).all fun z => chkC x y z
theorem chkAll_ok : chkAll = true := by kernel_rfl
theorem count_both {X Y Z : Int} (hs : sides X Y Z = true) : ∃ n : Nat, P_box_countStairs ((X, Y, Z, ()), ()) = some ((n : Int), ()) ∧ P_spec_l5Count (X, Y, Z, ()) = some ((n : Int), ()) ∧ (n ≤ 1000 → (Z.toNat + 1) ^ (X * Y).toNat ≤ 3000000) := by
  have s := sides_iff.1 hs
  obtain ⟨x, hx⟩ : ∃ x : Nat, X = x := ⟨X.toNat, by omega⟩
  obtain ⟨y, hy⟩ : ∃ y : Nat, Y = y := ⟨Y.toNat, by omega⟩
  obtain ⟨z, hz⟩ : ∃ z : Nat, Z = z := ⟨Z.toNat, by omega⟩
  have mem : ∀ n : Nat, 1 ≤ n → n ≤ 4 → n ∈ ([1, 2, 3, 4] : List Nat) := fun n h0 h1 => by
    have : n = 1 ∨ n = 2 ∨ n = 3 ∨ n = 4 := by omega
    rcases this with rfl | rfl | rfl | rfl <;> decide
  have h := chkAll_ok
  unfold chkAll at h
  have h := List.all_eq_true.1 (List.all_eq_true.1 (List.all_eq_true.1 h x (mem x (by omega) (by omega))) y (mem y (by omega) (by omega))) z (mem z (by omega) (by omega))
  unfold chkC at h
  cases hp : cAll y z x 0 1 1 with
  | none => rw [hp] at h; cases h
  | some p =>
    cases hq : sAll y z x 0 1 1 with
    | none => rw [hp, hq] at h; cases h
    | some q =>
      rw [hp, hq] at h
      simp only [Bool.and_eq_true, Bool.or_eq_true, decide_eq_true_eq] at h
      obtain ⟨⟨⟨⟨⟨h1, h2⟩, h3⟩, h4⟩, h5⟩, h6⟩ := h
      refine ⟨p.1 / p.2, ?_, ?_, fun h7 => ?_⟩
      · rw [p_box_countStairs]
        exact l_cAll hx hy hz (by omega) (by omega) (by omega) x 0 N 1 1 p (by omega) (by have := N_ge; omega) hp h1 h3
      · rw [p_spec_l5Count, h5]
        exact l_sAll hx hy hz (by omega) (by omega) (by omega) x 0 N 1 1 q (by omega) (by have := N_ge; omega) hq h2 h4
      · have e : (X * Y).toNat = x * y := by rw [hx, hy]; exact Int.toNat_natCast _
        have e2 : Z.toNat = z := by rw [hz]; exact Int.toNat_natCast _
        rw [e, e2]
        exact h6.resolve_left (by omega)
theorem rowsN_lenZ {y : Nat} {Z : Int} (hZ : 1 ≤ Z) : ∀ (d : Nat) (L : List Int), (rowsN y Z d L).length ≤ (Z.toNat + 1) ^ d
  | 0, L => by simp [rowsN]
  | d + 1, L => by
    rw [rowsN, List.length_flatMap]
    have hm : mostL y Z L ≤ Z := by
      unfold mostL
      simp only
      split <;> split <;> omega
    have key : ∀ n : Nat, ((List.range n).map fun k : Nat => (rowsN y Z d (L ++ [(k : Int)])).length).sum ≤ n * (Z.toNat + 1) ^ d := by
      intro n
      induction n with
      | zero => simp
      | succ n ih =>
        rw [List.range_succ, List.map_append, List.sum_append, Nat.succ_mul]
        have := rowsN_lenZ (y := y) hZ d (L ++ [(n : Int)])
        simp only [List.map_cons, List.map_nil, List.sum_cons, List.sum_nil]
        omega
    refine Nat.le_trans (key _) ?_
    rw [Nat.pow_succ, Nat.mul_comm]
    exact Nat.mul_le_mul_left _ (by omega)
end Go.VI
/- Plain: ranks. -/
namespace Go.VI
open Go.Proofs
theorem f_leastM (a b : Int) : P_spec_l1Least (a, b, ()) = some (min a b, ()) := by
  rw [p_spec_l1Least]
  by_cases h : a < b
  · rw [decide_eq_true h, Int.min_eq_left (by omega)]; rfl
  · rw [decide_eq_false h, Int.min_eq_right (by omega)]; rfl
theorem f_ownI {l : List Int} (hl : l.length ≤ 1000000) : P_spec_l1Own (l, ()) = some (l, ()) := by
  rw [p_spec_l1Own, decide_eq_true (p := (([] : List Int).length + l.length) * 8 ≤ 140737488355328) (by simp only [List.length_nil]; omega), decide_eq_true (p := ([] : List Int).length + l.length ≤ 140737488355328) (by simp only [List.length_nil]; omega)]
  rfl
theorem app8 {l : List Int} {x : Int} (h : l.length ≤ 100000000) : (decide ((l.length + ([x] : List Int).length) * 8 ≤ 140737488355328) && decide (l.length + ([x] : List Int).length ≤ 140737488355328)) = true := by
  rw [Bool.and_eq_true, decide_eq_true_eq, decide_eq_true_eq]
  simp only [List.length_singleton]
  omega
theorem app24L {l r : List (List Int)} (h : l.length + r.length ≤ 200000000000) : (decide ((l.length + r.length) * 24 ≤ 140737488355328) && decide (l.length + r.length ≤ 140737488355328)) = true := by
  rw [Bool.and_eq_true, decide_eq_true_eq, decide_eq_true_eq]
  omega
theorem l_all11 {X Z : Int} {y d k : Nat} {L : List Int} (hL : L.length ≤ 100) (hZ : Z ≤ 4) (ih : ∀ n : Nat, n ≤ 4 → Pk_spec_l5All k (X, (y : Int), Z, L ++ [(n : Int)], ()) = some (rowsN y Z d (L ++ [(n : Int)]), ())) {most : Int} (h0 : 0 ≤ most) (h4 : most ≤ 4)
    (hb : (flatN y Z d L (most + 1).toNat).length ≤ 200000000000) : ∀ (e n m : Nat), (n : Int) + e = most + 1 → e < m → l_spec_l5All_11 k m X (y : Int) Z L most (flatN y Z d L n) (n : Int) = some (flatN y Z d L (most + 1).toNat, ())
  | e, n, 0, _, h => by omega
  | 0, n, m + 1, hk, _ => by
    rw [q_spec_l5All_11, decide_eq_false (p := (n : Int) ≤ most) (by omega)]
    have : (most + 1).toNat = n := by omega
    rw [this]
    rfl
  | e + 1, n, m + 1, hk, hm => by
    rw [q_spec_l5All_11, decide_eq_true (p := (n : Int) ≤ most) (by omega), f_ownI (by omega)]
    simp only [cond_true, Option.bind_some]
    rw [app8 (by omega), ih n (by omega)]
    simp only [cond_true, Option.bind_some]
    have hle := flatN_le y Z d L ((most + 1).toNat - (n + 1)) (n + 1)
    rw [Nat.add_sub_of_le (by omega), flatN_succ, List.length_append] at hle
    rw [app24L (by omega), ← flatN_succ, succI n (by omega)]
    simp only [cond_true]
    exact l_all11 hL hZ ih h0 h4 hb e (n + 1) m (by omega) (by omega)
theorem k_all {X Z : Int} {y : Nat} (hX : 1 ≤ X ∧ X ≤ 4) (hy : 1 ≤ y ∧ y ≤ 4) (hZ : 1 ≤ Z ∧ Z ≤ 4) : ∀ (d k : Nat) (L : List Int), (L.length : Int) + d = X * y → d < k → (∀ x ∈ L, 0 ≤ x ∧ x ≤ 4) → Pk_spec_l5All k (X, (y : Int), Z, L, ()) = some (rowsN y Z d L, ())
  | d, 0, L, _, h, _ => by omega
  | 0, k + 1, L, hd, _, _ => by
    have hxy : X * (y : Int) ≤ 16 := by
      obtain ⟨yi, hyi⟩ : ∃ yi : Int, yi = (y : Int) := ⟨_, rfl⟩
      rw [← hyi]
      rcases four hX.1 hX.2 with rfl | rfl | rfl | rfl <;> omega
    rw [p_spec_l5All, w64 (x := X * (y : Int)) (by omega) (by omega), decide_eq_true (p := (L.length : Int) = X * y) (by omega)]
    rfl
  | d + 1, k + 1, L, hd, hk, hL => by
    have hxy : X * (y : Int) ≤ 16 := by
      obtain ⟨yi, hyi⟩ : ∃ yi : Int, yi = (y : Int) := ⟨_, rfl⟩
      rw [← hyi]
      rcases four hX.1 hX.2 with rfl | rfl | rfl | rfl <;> omega
    have ih : ∀ n : Nat, n ≤ 4 → Pk_spec_l5All k (X, (y : Int), Z, L ++ [(n : Int)], ()) = some (rowsN y Z d (L ++ [(n : Int)]), ()) := fun n hn =>
      k_all hX hy hZ d k (L ++ [(n : Int)]) (by rw [List.length_append]; simp only [List.length_singleton]; omega) (by omega) (fun x hx => by
        rcases List.mem_append.1 hx with hx | hx
        · exact hL x hx
        · obtain rfl : x = (n : Int) := by simpa using hx
          omega)
    have hlit : ∀ i : Nat, 0 ≤ L.getD i 0 ∧ L.getD i 0 ≤ 4 := fun i => by
      rw [List.getD_eq_getElem?_getD]
      cases hg : L[i]? with
      | none => simp
      | some x => exact hL x (List.mem_of_getElem? hg)
    have hb : (flatN y Z d L (mostL y Z L + 1).toNat).length ≤ 200000000000 := by
      have h5 := rowsN_len (y := y) hZ.2 (d + 1) L
      have : 5 ^ (d + 1) ≤ 5 ^ 16 := Nat.pow_le_pow_right (by decide) (by omega)
      rw [flatN_rows] at h5
      omega
    have h4 := mostL_le (Y := y) hZ.2 L
    have h0 : 0 ≤ mostL y Z L := by
      have a := hlit (L.length - y)
      have b := hlit (L.length - 1)
      unfold mostL
      simp only
      split <;> split <;> omega
    have fin := l_all11 (by omega) hZ.2 ih h0 h4 hb (mostL y Z L + 1).toNat 0 N (by omega) (by have := N_ge; omega)
    have e0 : ((0 : Nat) : Int) = 0 := rfl
    have ef : flatN y Z d L 0 = [] := rfl
    rw [e0, ef] at fin
    rw [flatN_rows]
    rw [p_spec_l5All, w64 (x := X * (y : Int)) (by omega) (by omega), decide_eq_false (p := (L.length : Int) = X * y) (by omega), decide_eq_false (p := (y : Int) = 0) (by omega), tmod_nat]
    simp only [cond_false, Bool.not_false, cond_true]
    by_cases ha : y ≤ L.length
    · have hin : IntKind.wrap .i64 ((L.length : Int) - (y : Int)) = ((L.length - y : Nat) : Int) := by rw [w64 (by omega) (by omega)]; omega
      have hn : nth ((.int .i64) : Ty) L ((L.length - y : Nat) : Int) = L.getD (L.length - y) 0 := rfl
      rw [decide_eq_true (p := (L.length : Int) ≥ (y : Int)) (by omega), hin, inB_at (by omega), f_leastM, hn]
      simp only [cond_true, Option.bind_some]
      by_cases hb' : 0 < L.length % y
      · have hpos : 0 < L.length := by
          rcases Nat.eq_zero_or_pos L.length with h | h
          · rw [h] at hb'; simp at hb'
          · exact h
        have hin1 : IntKind.wrap .i64 ((L.length : Int) - 1) = ((L.length - 1 : Nat) : Int) := by rw [w64 (by omega) (by omega)]; omega
        have hn1 : nth ((.int .i64) : Ty) L ((L.length - 1 : Nat) : Int) = L.getD (L.length - 1) 0 := rfl
        have hm : mostL y Z L = min (min Z (L.getD (L.length - y) 0)) (L.getD (L.length - 1) 0) := by simp only [mostL, ha, hb', if_true]
        rw [decide_eq_true (p := ((L.length % y : Nat) : Int) > 0) (by omega), hin1, inB_at (by omega), f_leastM, hn1]
        simp only [cond_true, Option.bind_some]
        rw [← hm]
        exact fin
      · have hm : mostL y Z L = min Z (L.getD (L.length - y) 0) := by simp only [mostL, ha, hb', if_true, if_false]
        rw [decide_eq_false (p := ((L.length % y : Nat) : Int) > 0) (by omega)]
        simp only [cond_false]
        rw [← hm]
        exact fin
    · rw [decide_eq_false (p := (L.length : Int) ≥ (y : Int)) (by omega)]
      simp only [cond_false]
      by_cases hb' : 0 < L.length % y
      · have hpos : 0 < L.length := by
          rcases Nat.eq_zero_or_pos L.length with h | h
          · rw [h] at hb'; simp at hb'
          · exact h
        have hin1 : IntKind.wrap .i64 ((L.length : Int) - 1) = ((L.length - 1 : Nat) : Int) := by rw [w64 (by omega) (by omega)]; omega
        have hn1 : nth ((.int .i64) : Ty) L ((L.length - 1 : Nat) : Int) = L.getD (L.length - 1) 0 := rfl
        have hm : mostL y Z L = min Z (L.getD (L.length - 1) 0) := by simp only [mostL, ha, hb', if_true, if_false]
        rw [decide_eq_true (p := ((L.length % y : Nat) : Int) > 0) (by omega), hin1, inB_at (by omega), f_leastM, hn1]
        simp only [cond_true, Option.bind_some]
        rw [← hm]
        exact fin
      · have hm : mostL y Z L = Z := by simp only [mostL, ha, hb', if_false]
        rw [decide_eq_false (p := ((L.length % y : Nat) : Int) > 0) (by omega)]
        simp only [cond_false]
        rw [hm] at fin ⊢
        exact fin
theorem l_equal {a b : List Int} (ha : a.length ≤ 1000000) (hab : a.length = b.length) : ∀ (d i m : Nat), a.length = i + d → d < m → a.take i = b.take i → l_slices_Equal_int_int_4 m a b (a.length : Int) (i : Int) = some (decide (a = b), ())
  | d, i, 0, _, h, _ => by omega
  | d, i, m + 1, hk, hm, ht => by
    rw [q_slices_Equal_int_int_4]
    by_cases h : i < a.length
    · rw [ltT h, inB_at h, inB_at (show i < b.length by omega), nthA (t := .int .i64) h, nthA (t := .int .i64) (show i < b.length by omega)]
      simp only [cond_true]
      by_cases e : a[i] = b[i]'(by omega)
      · rw [decide_eq_true e, succI i (by omega)]
        exact l_equal ha hab (d - 1) (i + 1) m (by omega) (by omega) (by rw [List.take_succ_eq_append_getElem h, List.take_succ_eq_append_getElem (show i < b.length by omega), ht, e])
      · rw [decide_eq_false e, decide_eq_false (fun h' => e (by subst h'; rfl))]
        rfl
    · rw [ltF h]
      rw [List.take_of_length_le (by omega), List.take_of_length_le (by omega)] at ht
      rw [decide_eq_true ht]
      rfl
theorem f_equal {a b : List Int} (ha : a.length ≤ 1000000) : P_slices_Equal_int_int (a, b, ()) = some (decide (a = b), ()) := by
  rw [p_slices_Equal_int_int]
  by_cases h : a.length = b.length
  · rw [decide_eq_true (p := (a.length : Int) = (b.length : Int)) (by omega)]
    exact l_equal ha h a.length 0 N (by simp) (by have := N_ge; omega) rfl
  · rw [decide_eq_false (p := (a.length : Int) = (b.length : Int)) (by omega), decide_eq_false (fun e => h (by rw [e]))]
    rfl
theorem l_same {a b : List Int} (ha : a.length ≤ 1000000) (hab : a.length = b.length) : ∀ (d i m : Nat), a.length = i + d → d < m → a.take i = b.take i → l_spec_l1Same_4 m a b (i : Int) = some (decide (a = b), ())
  | d, i, 0, _, h, _ => by omega
  | d, i, m + 1, hk, hm, ht => by
    rw [q_spec_l1Same_4]
    by_cases h : i < a.length
    · rw [ltT h, inB_at h, inB_at (show i < b.length by omega), nthA (t := .int .i64) h, nthA (t := .int .i64) (show i < b.length by omega)]
      simp only [cond_true]
      by_cases e : a[i] = b[i]'(by omega)
      · rw [decide_eq_true e, succI i (by omega)]
        exact l_same ha hab (d - 1) (i + 1) m (by omega) (by omega) (by rw [List.take_succ_eq_append_getElem h, List.take_succ_eq_append_getElem (show i < b.length by omega), ht, e])
      · rw [decide_eq_false e, decide_eq_false (fun h' => e (by subst h'; rfl))]
        rfl
    · rw [ltF h]
      rw [List.take_of_length_le (by omega), List.take_of_length_le (by omega)] at ht
      rw [decide_eq_true ht]
      rfl
theorem f_same {a b : List Int} (ha : a.length ≤ 1000000) : P_spec_l1Same (a, b, ()) = some (decide (a = b), ()) := by
  rw [p_spec_l1Same]
  by_cases h : a.length = b.length
  · rw [decide_eq_true (p := (a.length : Int) = (b.length : Int)) (by omega)]
    exact l_same ha h a.length 0 N (by simp) (by have := N_ge; omega) rfl
  · rw [decide_eq_false (p := (a.length : Int) = (b.length : Int)) (by omega), decide_eq_false (fun e => h (by rw [e]))]
    rfl
theorem rowsN_each {y : Nat} {Z : Int} : ∀ (d : Nat) (L : List Int), ∀ r ∈ rowsN y Z d L, r.length = L.length + d
  | 0, L, r, hr => by simp [rowsN] at hr; rw [hr]; rfl
  | d + 1, L, r, hr => by
    rw [rowsN, List.mem_flatMap] at hr
    obtain ⟨n, _, hr⟩ := hr
    have := rowsN_each d _ r hr
    rw [List.length_append, List.length_singleton] at this
    omega
theorem first_at {V : List Int} : ∀ rows : List (List Int), V ∈ rows → ∃ r, ∃ h : r < rows.length, rows[r] = V ∧ ∀ j (hj : j < r), rows[j]'(by omega) ≠ V
  | [], h => by cases h
  | a :: l, h => by
    by_cases e : a = V
    · exact ⟨0, by simp, e, fun j hj => by omega⟩
    · obtain ⟨r, h1, h2, h3⟩ := first_at l ((List.mem_cons.1 h).resolve_left (fun h' => e h'.symm))
      refine ⟨r + 1, by simp; omega, by simpa using h2, fun j hj => ?_⟩
      match j with
      | 0 => simpa using e
      | j + 1 => simpa using h3 j (by omega)
theorem l_index {rows : List (List Int)} {V : List Int} (hlen : ∀ r ∈ rows, r.length ≤ 1000000) (hn : rows.length ≤ 3000000) {F : List Int × Unit → Option (Bool × Unit)} (hF : ∀ r, r.length ≤ 1000000 → F (r, ()) = some (decide (r = V), ())) {r : Nat} (hr : r < rows.length) (h1 : rows[r] = V) (h2 : ∀ j (hj : j < r), rows[j]'(by omega) ≠ V) :
    ∀ (d i m : Nat), i + d = r → d < m → l_slices_IndexFunc_int_int_2 m rows F (rows.length : Int) (i : Int) = some ((r : Int), ())
  | d, i, 0, _, h => by omega
  | 0, i, m + 1, hk, _ => by
    obtain rfl : i = r := by omega
    rw [q_slices_IndexFunc_int_int_2, ltT hr, inB_at hr, nthA (t := .sl (.int .i64)) hr]
    simp only [cond_true]
    rw [hF _ (hlen _ (List.getElem_mem hr)), decide_eq_true h1]
    rfl
  | d + 1, i, m + 1, hk, hm => by
    have hi : i < rows.length := by omega
    rw [q_slices_IndexFunc_int_int_2, ltT hi, inB_at hi, nthA (t := .sl (.int .i64)) hi]
    simp only [cond_true]
    rw [hF _ (hlen _ (List.getElem_mem hi)), decide_eq_false (h2 i (by omega)), succI i (by omega)]
    exact l_index hlen hn hF hr h1 h2 d (i + 1) m (by omega) (by omega)
theorem l_rankS {rows : List (List Int)} {V : List Int} (hlen : ∀ r ∈ rows, r.length ≤ 1000000) (hn : rows.length ≤ 3000000) {r : Nat} (hr : r < rows.length) (h1 : rows[r] = V) (h2 : ∀ j (hj : j < r), rows[j]'(by omega) ≠ V) :
    ∀ (d i m : Nat), i + d = r → d < m → l_spec_RankStair_5 m rows V (i : Int) = some ((r : Int), true, ())
  | d, i, 0, _, h => by omega
  | 0, i, m + 1, hk, _ => by
    obtain rfl : i = r := by omega
    rw [q_spec_RankStair_5, inB_at hr, nthA (t := .sl (.int .i64)) hr]
    simp only [cond_true]
    rw [f_same (hlen _ (List.getElem_mem hr)), decide_eq_true h1]
    rfl
  | d + 1, i, m + 1, hk, hm => by
    have hi : i < rows.length := by omega
    rw [q_spec_RankStair_5, inB_at hi, nthA (t := .sl (.int .i64)) hi]
    simp only [cond_true]
    rw [f_same (hlen _ (List.getElem_mem hi)), decide_eq_false (h2 i (by omega)), succI i (by omega)]
    exact l_rankS hlen hn hr h1 h2 d (i + 1) m (by omega) (by omega)
end Go.VI
/- Plain: a staircase's rank, and the staircase of a rank. -/
namespace Go.VI
open Go.Proofs
def allR (X Y Z : Int) : List (List Int) := rowsN Y.toNat Z (X * Y).toNat []
theorem allR_ok {X Y Z : Int} (hs : sides X Y Z = true) : ∀ r ∈ allR X Y Z, r.length = (X * Y).toNat := fun r hr => by
  have := rowsN_each _ _ r hr
  simpa using this
theorem few_both {X Y Z : Int} (hs : sides X Y Z = true) : ∃ b : Bool, P_box_stairs ((X, Y, Z, ()), ()) = some (if b then allR X Y Z else [], b, ()) ∧ P_spec_l5Few (X, Y, Z, ()) = some (b, ()) ∧ (b = true → (allR X Y Z).length ≤ 3000000) := by
  obtain ⟨n, h1, h2, h3⟩ := count_both hs
  have s := sides_iff.1 hs
  rw [p_box_stairs]
  unfold stairsF
  rw [f_box_valid, p_spec_l5Few, f_spec_l2Sides, h1, h2, hs]
  simp only [Option.bind_some, cond_true]
  by_cases hn : n ≤ 1000
  · refine ⟨true, ?_, by rw [decide_eq_true (p := ((n : Nat) : Int) ≤ 1000) (by omega)], fun _ => ?_⟩
    · rw [decide_eq_false (p := ((n : Nat) : Int) > 1000) (by omega)]
      simp only [cond_false]
      have hs' : (1 ≤ X ∧ X ≤ 4) ∧ (1 ≤ Y ∧ Y ≤ 4) ∧ 1 ≤ Z ∧ Z ≤ 4 := s
      rw [decide_eq_true hs']
      rfl
    · exact Nat.le_trans (rowsN_lenZ s.2.2.1 _ _) (h3 hn)
  · refine ⟨false, ?_, by rw [decide_eq_false (p := ((n : Nat) : Int) ≤ 1000) (by omega)], fun h => by cases h⟩
    rw [decide_eq_true (p := ((n : Nat) : Int) > 1000) (by omega)]
    rfl
theorem stairs_no {X Y Z : Int} (hs : sides X Y Z = false) : P_box_stairs ((X, Y, Z, ()), ()) = some ([], false, ()) := by
  rw [p_box_stairs]
  unfold stairsF
  rw [f_box_valid, hs]
  rfl
theorem okHeap_sides {h : D_Heap} (hs : sides h.1 h.2.1 h.2.2.1 = false) : okHeap h = false := by
  rw [Bool.eq_false_iff]
  intro ho
  rw [(okHeap_iff.1 ho).1] at hs
  cases hs
theorem rank_both (h : D_Heap) (hl : Small h.2.2.2.1) : ∃ (r : Int) (b : Bool), P_impl_RankStair (h, ()) = some (r, b, ()) ∧ P_spec_RankStair (h, ()) = some (r, b, ()) ∧
    (b = true → okSt h = true ∧ P_impl_StairAt (h.1, h.2.1, h.2.2.1, r, ()) = some (h, true, ())) := by
  rw [p_impl_RankStair, p_spec_RankStair, f_Heap_box, f_l5Good _ hl]
  simp only [Option.bind_some]
  cases hs : sides h.1 h.2.1 h.2.2.1 with
  | false =>
    rw [stairs_no hs, okSt_no (okHeap_sides hs)]
    exact ⟨0, false, rfl, rfl, fun h => by cases h⟩
  | true =>
    obtain ⟨b, h1, h2, h3⟩ := few_both hs
    rw [h1, h2]
    simp only [Option.bind_some]
    cases b with
    | false =>
      refine ⟨0, false, rfl, ?_, fun h => by cases h⟩
      cases okSt h <;> rfl
    | true =>
      rw [f_isStair _ hl]
      cases ho : okSt h with
      | false => exact ⟨0, false, rfl, rfl, fun h => by cases h⟩
      | true =>
        obtain ⟨hk, hst⟩ := okSt_iff.1 ho
        obtain ⟨_, hi, hr⟩ := okHeap_iff.1 hk
        obtain ⟨X, Y, Z, l, ⟨⟩⟩ := h
        have hl : Small l := hl
        have hs : sides X Y Z = true := hs
        have hi : Ins X Y Z l := hi
        have hr : Srt l := hr
        have hst : Stair X Y Z l := hst
        have h3 := h3 rfl
        have h3 : (allR X Y Z).length ≤ 3000000 := h3
        have s := sides_iff.1 hs
        have h5 := size64 hs
        have hmem : HV X Y Z l ∈ allR X Y Z := HV_rows hs hl hi hr hst
        have hlen := HV_len hs hl hi
        obtain ⟨r, hr1, hr2, hr3⟩ := first_at (allR X Y Z) hmem
        have hrl : ∀ r ∈ allR X Y Z, r.length ≤ 1000000 := fun r hr => by rw [allR_ok hs r hr]; omega
        simp only [Option.bind_some, Bool.not_true, cond_false, if_true]
        refine ⟨(r : Int), true, ?_, ?_, fun _ => ⟨trivial, ?_⟩⟩
        · have hF : ∀ q : List Int, q.length ≤ 1000000 → (fun y : List Int × Unit => P_impl_RankStair_1 (y.1, (X, Y, Z, l, ()), ())) (q, ()) = some (decide (q = HV X Y Z l), ()) := fun q hq => by
            show P_impl_RankStair_1 (q, (X, Y, Z, l, ()), ()) = _
            rw [p_impl_RankStair_1, f_heights hs hl hi, tops_HV hs hl hi hr hst]
            simp only [Option.bind_some]
            rw [f_equal hq]
            rfl
          rw [p_slices_IndexFunc_int_int]
          have := l_index (F := fun y : List Int × Unit => P_impl_RankStair_1 (y.1, (X, Y, Z, l, ()), ())) hrl h3 hF hr1 hr2 hr3 r 0 N (by omega) (by have := N_ge; omega)
          have e : ((0 : Nat) : Int) = 0 := rfl
          rw [e] at this
          rw [this]
          rfl
        · have hy : ((Y.toNat : Nat) : Int) = Y := by omega
          have hall := k_all (X := X) (Z := Z) (y := Y.toNat) s.1 (by omega) s.2.2 (X * Y).toNat N [] (by rw [hy]; simp; omega) (by have := N_ge; omega) (fun x hx => by cases hx)
          rw [hy] at hall
          have hall : P_spec_l5All (X, Y, Z, ([] : List Int), ()) = some (allR X Y Z, ()) := hall
          rw [hall, p_spec_l2Heights, f_viewSD hs (by omega) (by omega) hl hi]
          simp only [Option.bind_some]
          have := l_rankS hrl h3 hr1 hr2 hr3 r 0 N (by omega) (by have := N_ge; omega)
          have e : ((0 : Nat) : Int) = 0 := rfl
          rw [e] at this
          exact this
        · rw [p_impl_StairAt, h1]
          simp only [Option.bind_some, Bool.not_true, cond_false, if_true]
          have hlr : r < (allR X Y Z).length := hr1
          have el : IntKind.wrap .i64 (((allR X Y Z).length : Int) - 1) = ((allR X Y Z).length : Int) - 1 := w64 (by omega) (by omega)
          have ew : (decide ((0 : Int) ≤ (r : Int)) && decide ((r : Int) ≤ ((allR X Y Z).length : Int) - 1)) = true := by
            rw [Bool.and_eq_true, decide_eq_true_eq, decide_eq_true_eq]; omega
          rw [el, f_impl_within, ew, inB_at hlr, nthA (t := .sl (.int .i64)) hlr]
          simp only [Option.bind_some, Bool.not_true, cond_false, cond_true]
          have hr2' : (allR X Y Z)[r] = HV X Y Z l := hr2
          rw [hr2', stack_HV hs hl hi hr hst]
          simp only [Option.bind_some]
          rw [heap_mask hs hi hr]
          rfl
end Go.VI
/- Plain: the draws of numbers, cells and heaps give something. -/
namespace Go.VI
open Go.Proofs
def Bts (C : List Int) : Prop := C.length ≤ 1000000 ∧ ∀ b ∈ C, 0 ≤ b ∧ b ≤ 255
abbrev Sd : Type := Int × Int × Unit
def At (n : Nat) (s : Sd) : Prop := 0 ≤ s.1 ∧ s.1 + n ≤ 1000000000
theorem At.le {n m : Nat} {s : Sd} (h : At n s) (hm : m ≤ n) : At m s := ⟨h.1, by have := h.2; omega⟩
theorem and255 (a : Int) : 0 ≤ intBits .and .u64 a 255 ∧ intBits .and .u64 a 255 ≤ 255 := by
  have h : ((BitVec.ofInt 64 a) &&& (BitVec.ofInt 64 255)).toNat ≤ 255 := by
    rw [BitVec.toNat_and]
    exact Nat.le_trans Nat.and_le_right (by decide)
  have e : intBits .and .u64 a 255 = (((BitVec.ofInt 64 a) &&& (BitVec.ofInt 64 255)).toNat : Int) := by
    simp only [intBits]
    rw [show IntKind.bits .u64 = 64 from rfl, wu64]
    omega
  rw [e]
  omega
theorem nth_byte {C : List Int} (hC : Bts C) {i : Int} (h0 : 0 ≤ i) (h1 : i < C.length) : 0 ≤ nth ((.int .u8) : Ty) C i ∧ nth ((.int .u8) : Ty) C i ≤ 255 := by
  have hlt : i.toNat < C.length := by omega
  have e : nth ((.int .u8) : Ty) C i = C[i.toNat] := by simp [nth, List.getD, List.getElem?_eq_getElem hlt]
  rw [e]
  exact hC.2 _ (List.getElem_mem hlt)
theorem f_next {C : List Int} (hC : Bts C) {n : Nat} {s : Sd} (h : At (n + 1) s) : ∃ (x : Int) (s' : Sd), P_l1Cur_next ((C, s), ()) = some ((x, ()), ((C, s'), ())) ∧ At n s' ∧ 0 ≤ x ∧ x ≤ 255 := by
  obtain ⟨a, sd, ⟨⟩⟩ := s
  obtain ⟨h0, h1⟩ := h
  simp only at h0 h1
  rw [p_l1Cur_next]
  simp only
  rw [w64 (x := a + 1) (by omega) (by omega)]
  have hat : ∀ z : Int, At n (a + 1, z, ()) := fun z => ⟨by simp only; omega, by simp only; omega⟩
  by_cases c : a < (C.length : Int)
  · obtain ⟨b0, b1⟩ := nth_byte hC h0 c
    rw [decide_eq_true c, show inB a C.length = true by simp [inB]; omega, decide_eq_true (p := a + 1 ≤ (C.length : Int)) (by omega), w64 (x := nth ((.int .u8) : Ty) C a) (Int.le_trans (by decide) b0) (Int.le_trans b1 (by decide))]
    exact ⟨_, _, rfl, hat _, b0, b1⟩
  · rw [decide_eq_false c, decide_eq_false (p := a + 1 ≤ (C.length : Int)) (by omega)]
    simp only [cond_false]
    generalize hz : intBits .and .u64 _ 255 = z
    have hb : 0 ≤ z ∧ z ≤ 255 := by rw [← hz]; exact and255 _
    rw [w64 (x := z) (by omega) (by omega)]
    exact ⟨_, _, rfl, hat _, hb.1, hb.2⟩
theorem f_pick {C : List Int} (hC : Bts C) {n : Nat} {s : Sd} (h : At (n + 2) s) (k : Int) : ∃ (x : Int) (s' : Sd), P_l1Cur_pick ((C, s), k, ()) = some ((x, ()), ((C, s'), ())) ∧ At n s' ∧ 0 ≤ x ∧ (x < k ∨ (k ≤ 1 ∧ x = 0)) := by
  rw [p_l1Cur_pick]
  by_cases c : k ≤ 1
  · rw [decide_eq_true c]
    exact ⟨_, _, rfl, h.le (by omega), Int.le_refl _, .inr ⟨c, rfl⟩⟩
  · obtain ⟨x, s1, e1, a1, b1, b2⟩ := f_next hC h
    rw [decide_eq_false c, e1]
    simp only [cond_false, Option.bind_some]
    by_cases d : k > 200
    · obtain ⟨y, s2, e2, a2, c1, c2⟩ := f_next hC a1
      rw [decide_eq_true d, e2]
      simp only [cond_true, Option.bind_some]
      rw [decide_eq_false (p := k = 0) (by omega), w64 (x := x * 256) (by omega) (by omega), w64 (x := x * 256 + y) (by omega) (by omega)]
      exact ⟨_, _, rfl, a2, Int.tmod_nonneg _ (by omega), .inl (Int.tmod_lt_of_pos _ (by omega))⟩
    · rw [decide_eq_false d, decide_eq_false (p := k = 0) (by omega)]
      exact ⟨_, _, rfl, a1.le (by omega), Int.tmod_nonneg _ (by omega), .inl (Int.tmod_lt_of_pos _ (by omega))⟩
theorem f_one {C : List Int} (hC : Bts C) {n : Nat} {s : Sd} (h : At (n + 2) s) (k : Int) : ∃ (b : Bool) (s' : Sd), P_l1Cur_one ((C, s), k, ()) = some ((b, ()), ((C, s'), ())) ∧ At n s' := by
  obtain ⟨x, s1, e1, a1, _, _⟩ := f_pick hC h k
  rw [p_l1Cur_one, e1]
  exact ⟨_, _, rfl, a1⟩
theorem f_among {C : List Int} (hC : Bts C) {n : Nat} {s : Sd} (h : At (n + 2) s) (l : List Int) (hl : 0 < l.length) : ∃ (x : Int) (s' : Sd), P_l1Cur_among ((C, s), l, ()) = some ((x, ()), ((C, s'), ())) ∧ At n s' ∧ x ∈ l := by
  obtain ⟨x, s1, e1, a1, b1, b2⟩ := f_pick hC h (l.length : Int)
  rw [p_l1Cur_among, e1]
  simp only [Option.bind_some]
  have hx : x < (l.length : Int) := by omega
  rw [show inB x l.length = true by simp [inB]; omega]
  have hlt : x.toNat < l.length := by omega
  have e : nth ((.int .i64) : Ty) l x = l[x.toNat] := by simp [nth, List.getD, List.getElem?_eq_getElem hlt]
  rw [e]
  exact ⟨_, _, rfl, a1, List.getElem_mem hlt⟩
theorem f_sides {C : List Int} (hC : Bts C) {n : Nat} {s : Sd} (h : At (n + 10) s) : ∃ (x y z : Int) (s' : Sd), P_l1Cur_sides ((C, s), ()) = some ((x, y, z, ()), ((C, s'), ())) ∧ At n s' := by
  obtain ⟨x, s1, e1, a1, _⟩ := f_among hC (n := n + 8) h [2, 3, 3, 1, 4] (by decide)
  obtain ⟨y, s2, e2, a2, _⟩ := f_among hC (n := n + 6) a1 [2, 3, 2, 1, 4] (by decide)
  obtain ⟨z, s3, e3, a3, _⟩ := f_among hC (n := n + 4) a2 [2, 3, 3, 1, 4] (by decide)
  obtain ⟨p, s4, e4, a4, _⟩ := f_pick hC (n := n + 2) a3 60
  obtain ⟨x', s5, e5, a5, _⟩ := f_among hC (n := n) a4 [0, 5, (-1), 4611686018427387904] (by decide)
  obtain ⟨y', s6, e6, a6, _⟩ := f_among hC (n := n) a4 [0, 5, (-1)] (by decide)
  rw [p_l1Cur_sides, e1]
  simp only [Option.bind_some]
  rw [e2]
  simp only [Option.bind_some]
  rw [e3]
  simp only [Option.bind_some]
  rw [e4]
  simp only [Option.bind_some]
  rw [e5, e6]
  simp only [Option.bind_some]
  by_cases c0 : p = 0
  · rw [decide_eq_true c0]; exact ⟨_, _, _, _, rfl, a5⟩
  · rw [decide_eq_false c0]
    by_cases c1 : p = 1
    · rw [decide_eq_true c1]; exact ⟨_, _, _, _, rfl, a6⟩
    · rw [decide_eq_false c1]
      by_cases c2 : p = 2
      · rw [decide_eq_true c2]; exact ⟨_, _, _, _, rfl, a6⟩
      · rw [decide_eq_false c2]; exact ⟨_, _, _, _, rfl, a4.le (by omega)⟩
theorem other_len (h : D_Heap) (hl : Small h.2.2.2.1) : ∃ r, P_spec_OtherCells (h, ()) = some r ∧ r.1.2.2.2.1.length ≤ 64 := by
  rw [p_spec_OtherCells, f_spec_l2Heap _ hl]
  cases ho : okHeap h with
  | false => exact ⟨_, rfl, by simp⟩
  | true =>
    obtain ⟨hs, hi, hr⟩ := okHeap_iff.1 ho
    obtain ⟨a1, a2, a3⟩ := allCells_ok hs
    have f0 : P_spec_l2All (h, ()) = _ := f_l2All h.2.2.2.1 hs
    simp only [Option.bind_some, Bool.not_true, cond_false]
    rw [p_spec_l2Empty, f0]
    simp only [Option.bind_some]
    have e := l_other (X := h.1) (Y := h.2.1) (Z := h.2.2.1) (X' := h.1) (Y' := h.2.1) (Z' := h.2.2.1) hl a1 (allCells h.1 h.2.1 h.2.2.1).length 0 N [] (by simp) (by unfold Small at a1; have := N_ge; omega) (by simp)
    have e' : l_spec_OtherCells_5 N h.1 h.2.1 h.2.2.1 h.2.2.2.1 0 0 0 [] h.1 h.2.1 h.2.2.1 [] (allCells h.1 h.2.1 h.2.2.1) 0 = _ := e
    rw [e']
    exact ⟨_, rfl, show ((allCells h.1 h.2.1 h.2.2.1).filter fun x => !decide (x ∈ h.2.2.2.1)).length ≤ 64 from Nat.le_trans (List.length_filter_le _ _) (srt_small64 hs a2 a3)⟩
theorem stack_len {X Y Z : Int} (hs : sides X Y Z = true) {V : List Int} (hV : V.length = (X * Y).toNat) : ∃ r, P_spec_l2Stack (X, Y, Z, V, ()) = some r ∧ r.1.2.2.2.1.length ≤ 64 := by
  obtain ⟨a1, a2, a3⟩ := allCells_ok hs
  rw [p_spec_l2Stack, p_spec_l2Empty]
  simp only [Option.bind_some]
  rw [f_l2All [] hs]
  simp only [Option.bind_some]
  have e := l_stackS (X' := X) (Y' := Y) (Z' := Z) hs hV a1 a2 (allCells X Y Z).length 0 N [] (by simp) (by unfold Small at a1; have := N_ge; omega) (by simp)
  have e' : l_spec_l2Stack_4 N 0 0 0 [] X Y Z [] Y V (allCells X Y Z) 0 = _ := e
  rw [e']
  exact ⟨_, rfl, show ((allCells X Y Z).filter (lowC Y V)).length ≤ 64 from Nat.le_trans (List.length_filter_le _ _) (srt_small64 hs a2 a3)⟩
theorem l_some {C : List Int} (hC : Bts C) {X Y Z : Int} (hs : sides X Y Z = true) {al : List D_A3} (hal : al.length ≤ 64) (hin : Ins X Y Z al) (q0 q1 q2 : Int) (q3 : List D_A3) (odds : Int) : ∀ (d i m n : Nat) (s : Sd) (out : List D_A3), al.length = i + d → d < m → out.length ≤ i → Ins X Y Z out → At (n + 2 * d + 2) s →
    ∃ (g : D_Heap) (s' : Sd), l_l1Cur_someHeap_6 m q0 q1 q2 q3 X Y Z out C s.1 s.2.1 X Y Z odds al (i : Int) = some ((g, ()), ((C, s'), ())) ∧ At n s' ∧ g.2.2.2.1.length ≤ 64
  | d, i, 0, n, s, out, _, h, _, _, _ => by omega
  | d, i, m + 1, n, s, out, hk, hm, ho, hio, ha => by
    rw [q_l1Cur_someHeap_6]
    by_cases hlt : i < al.length
    · obtain ⟨b, s1, e1, a1⟩ := f_one hC (n := n + 2 * (d - 1) + 2) (s := s) (ha.le (by omega)) odds
      have e1' : P_l1Cur_one ((C, (s.1, (s.2.1, ()))), odds, ()) = _ := e1
      rw [ltT hlt, e1', succI i (by omega)]
      simp only [cond_true, Option.bind_some]
      cases b with
      | false => exact l_some hC hs hal hin q0 q1 q2 q3 odds (d - 1) (i + 1) m n s1 out (by omega) (by omega) (by omega) hio a1
      | true =>
        rw [inB_at hlt, nthA (t := T_A3) hlt, app_len' (l := out) (by omega)]
        simp only [cond_true]
        refine l_some hC hs hal hin q0 q1 q2 q3 odds (d - 1) (i + 1) m n s1 _ (by omega) (by omega) (by simp; omega) (fun c hc => ?_) a1
        rcases List.mem_append.1 hc with hc | hc
        · exact hio c hc
        · rw [List.mem_singleton.1 hc]; exact hin _ (List.getElem_mem hlt)
    · obtain ⟨p, s1, e1, a1, _⟩ := f_pick hC (n := n + 2 * d) (s := s) ha 12
      have e1' : P_l1Cur_pick ((C, (s.1, (s.2.1, ()))), 12, ()) = _ := e1
      have hso : Small out := by unfold Small; omega
      rw [ltF hlt, e1']
      simp only [cond_false, Option.bind_some]
      by_cases c0 : p = 0
      · obtain ⟨r, er, hr⟩ := other_len (X, Y, Z, out, ()) hso
        rw [decide_eq_true c0, er]
        exact ⟨_, _, rfl, a1.le (by omega), hr⟩
      · rw [decide_eq_false c0]
        by_cases c1 : p = 1
        · obtain ⟨r, er, hr⟩ := stack_len hs (cols_len X Y out)
          rw [decide_eq_true c1, p_spec_l2Heights, f_viewS hs hso hio]
          simp only [cond_true, cond_false, Option.bind_some]
          rw [er]
          exact ⟨_, _, rfl, a1.le (by omega), hr⟩
        · rw [decide_eq_false c1]
          exact ⟨_, _, rfl, a1.le (by omega), (by omega : out.length ≤ 64)⟩
theorem f_someHeap {C : List Int} (hC : Bts C) {n : Nat} {s : Sd} (h : At (n + 132) s) (X Y Z : Int) : ∃ (g : D_Heap) (s' : Sd), P_l1Cur_someHeap ((C, s), X, Y, Z, ()) = some ((g, ()), ((C, s'), ())) ∧ At n s' ∧ g.2.2.2.1.length ≤ 64 := by
  obtain ⟨o, s1, e1, a1, _⟩ := f_among hC (n := n + 130) h [2, 3, 2, 4] (by decide)
  rw [p_l1Cur_someHeap, p_spec_l2Empty, e1]
  simp only [Option.bind_some]
  rw [f_spec_l2Sides]
  simp only [Option.bind_some]
  cases hs : sides X Y Z with
  | false => exact ⟨_, _, rfl, a1.le (by omega), by simp⟩
  | true =>
    obtain ⟨k1, k2, k3⟩ := allCells_ok hs
    have h64 := srt_small64 hs k2 k3
    simp only [Bool.not_true, cond_false]
    rw [f_l2All [] hs]
    simp only [Option.bind_some]
    exact l_some hC hs h64 k2 0 0 0 [] o (allCells X Y Z).length 0 N n s1 [] (by simp) (by have := N_ge; omega) (by simp) (fun c hc => by cases hc) (a1.le (by omega))
theorem f_heap {C : List Int} (hC : Bts C) {n : Nat} {s : Sd} (h : At (n + 144) s) : ∃ (g : D_Heap) (s' : Sd), P_l1Cur_heap ((C, s), ()) = some ((g, ()), ((C, s'), ())) ∧ At n s' ∧ g.2.2.2.1.length ≤ 65 := by
  obtain ⟨x, y, z, s1, e1, a1⟩ := f_sides hC (n := n + 134) h
  obtain ⟨g, s2, e2, a2, hg⟩ := f_someHeap hC (n := n + 2) a1 x y z
  obtain ⟨p, s3, e3, a3, _⟩ := f_pick hC (n := n) a2 60
  rw [p_l1Cur_heap, e1]
  simp only [Option.bind_some]
  rw [e2]
  simp only [Option.bind_some]
  rw [e3]
  simp only [Option.bind_some]
  rw [app_len' (l := g.2.2.2.1) (by omega), app_len' (l := g.2.2.2.1) (by omega), app_len' (l := g.2.2.2.1) (by omega)]
  by_cases c0 : p = 0
  · rw [decide_eq_true c0]
    exact ⟨_, _, rfl, a3, by simp; omega⟩
  · rw [decide_eq_false c0]
    by_cases c1 : p = 1
    · rw [decide_eq_true c1]
      exact ⟨_, _, rfl, a3, by simp; omega⟩
    · rw [decide_eq_false c1]
      by_cases c2 : p = 2
      · rw [decide_eq_true c2]
        by_cases c : (g.2.2.2.1.length : Int) > 0
        · rw [decide_eq_true c, show inB 0 g.2.2.2.1.length = true by simp [inB]; omega]
          exact ⟨_, _, rfl, a3, by simp; omega⟩
        · rw [decide_eq_false c]
          exact ⟨_, _, rfl, a3, by omega⟩
      · rw [decide_eq_false c2]
        by_cases c3 : p = 3
        · rw [decide_eq_true c3]
          exact ⟨_, _, rfl, a3, by simp⟩
        · rw [decide_eq_false c3]
          exact ⟨_, _, rfl, a3, by omega⟩
end Go.VI
