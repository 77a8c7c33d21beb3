/- Plain: cubes that sink. -/
import Derived.Test.YtaopponjedombaaGreatPlV
namespace Go.VI
open Go.Proofs

theorem f_floor {X Y Z : Int} (hs : sides X Y Z = true) : ∃ v : BitVec 64, P_box_floor ((X, Y, Z, ()), ()) = some ((v.toNat : Int), ()) ∧ SetIs X Y Z v (fun c => decide (c.2.2.1 = 0)) := by
  obtain ⟨v, h1, h2⟩ := f_those hs (g := fun c => decide (c.2.2.1 = 0)) (F := fun (y : D_A3 × Unit) => P_box_floor_1 (y.1, ())) (fun c _ => by
    show P_box_floor_1 (c, ()) = _
    rw [p_box_floor_1])
  refine ⟨v, ?_, h2⟩
  rw [p_box_floor, h1]
  rfl

theorem f_standing {X Y Z : Int} {l : List D_A3} (hs : sides X Y Z = true) (hi : Ins X Y Z l) : ∃ w : BitVec 64, P_box_standing ((X, Y, Z, ()), ((mask Y Z l 0).toNat : Int), ()) = some ((w.toNat : Int), ()) ∧ Low (X * Y * Z).toNat w ∧ ∀ c, bitP X Y Z w c ↔ Stand l c := by
  obtain ⟨v, h1, h2⟩ := f_floor hs
  have hm := setIs_mask hs hi
  obtain ⟨w, k1, k2, k3⟩ := f_grown hs (v := mask Y Z l 0 &&& v) (u := mask Y Z l 0) (low_and hm.1) hm.1
  refine ⟨w, ?_, k2, fun c => ?_⟩
  · rw [p_box_standing, h1]
    simp only [Option.bind_some]
    rw [and64, k1]
    rfl
  · rw [k3]
    have hp : ∀ c, bitP X Y Z (mask Y Z l 0) c ↔ c ∈ l := fun c => by
      unfold bitP
      constructor
      · rintro ⟨a, b⟩; rw [hm.2 c a] at b; simpa using b
      · intro h; exact ⟨hi c h, by rw [hm.2 c (hi c h)]; simpa using h⟩
    have hq : ∀ c, bitP X Y Z (mask Y Z l 0 &&& v) c ↔ c ∈ l ∧ c.2.2.1 = 0 := fun c => by
      unfold bitP
      constructor
      · rintro ⟨a, b⟩
        rw [BitVec.getLsbD_and, hm.2 c a, h2.2 c a] at b
        simpa using b
      · rintro ⟨h, hz⟩
        exact ⟨hi c h, by rw [BitVec.getLsbD_and, hm.2 c (hi c h), h2.2 c (hi c h)]; simp [h, hz]⟩
    exact ⟨Rch.mono (fun c hc => .base ((hq c).1 hc)) (fun c hc => (hp c).1 hc), Rch.mono (fun c hc => .base ((hq c).2 hc)) (fun c hc => (hp c).2 hc)⟩

/-! ### The sum of the heights -/
def zs : List D_A3 → Nat
  | [] => 0
  | c :: r => c.2.2.1.toNat + zs r

theorem zs_perm {l l' : List D_A3} (h : l.Perm l') : zs l = zs l' := by
  induction h with
  | nil => rfl
  | cons x _ ih => simp [zs, ih]
  | swap x y l => simp only [zs]; omega
  | trans _ _ ih1 ih2 => rw [ih1, ih2]

theorem zs_append (l l' : List D_A3) : zs (l ++ l') = zs l + zs l' := by
  induction l with
  | nil => simp [zs]
  | cons c l ih => simp only [List.cons_append, zs, ih]; omega

def down (c : D_A3) : D_A3 := (c.1, c.2.1, c.2.2.1 - 1, ())

theorem zs_with {l l' : List D_A3} (hr : Srt l) (hr' : Srt l') {c : D_A3} (hm : ∀ x, x ∈ l' ↔ x = c ∨ x ∈ l) : zs l' ≤ zs l + c.2.2.1.toNat := by
  by_cases h : c ∈ l
  · have : l' = l := srt_ext _ _ hr' hr fun x => by
      rw [hm]
      exact ⟨fun hh => hh.elim (fun e => e ▸ h) id, .inr⟩
    rw [this]; omega
  · have hp : l'.Perm (c :: l) := (List.perm_ext_iff_of_nodup hr'.nodup (List.nodup_cons.2 ⟨h, hr.nodup⟩)).2 fun x => by rw [hm, List.mem_cons]
    rw [zs_perm hp]
    simp only [zs]; omega

theorem w1 {z : Int} (h0 : 0 ≤ z) (h1 : z ≤ 10) : IntKind.wrap .i64 (z - 1) = z - 1 := w64 (by omega) (by omega)

theorem l_s9 {X Y Z : Int} {H : List D_A3} (hH : ∀ c ∈ H, 0 ≤ c.2.2.1 ∧ c.2.2.1 ≤ 10) (hlen : H.length ≤ 64) (t : Nat) (ht : t < 1000000) (m0 : Nat) : ∀ (d i m : Nat) (out : List D_A3), H.length = i + d → d < m → Srt out → out.length ≤ 1000 + i →
    ∃ out', l_spec_SinkHeap_9 m0 m 0 0 0 [] X Y Z out (t : Int) H (i : Int) = l_spec_SinkHeap_4 m0 0 0 0 [] X Y Z out' ((t + 1 : Nat) : Int) ∧ Srt out' ∧ (∀ c, c ∈ out' ↔ c ∈ out ∨ c ∈ (H.drop i).map down) ∧ zs out' ≤ zs out + zs ((H.drop i).map down)
  | d, i, 0, out, _, h, _, _ => by omega
  | d, i, m + 1, out, hk, hm, hr, ho => by
    rw [q_spec_SinkHeap_9]
    by_cases hlt : i < H.length
    · have hz := hH _ (List.getElem_mem hlt)
      rw [ltT hlt, inB_at hlt, nthA (t := T_A3) hlt, succI i (by omega), w1 hz.1 hz.2]
      simp only [cond_true]
      obtain ⟨o1, g1, g2, g3, g4⟩ := f_l2With (X := X) (Y := Y) (Z := Z) hr (down H[i]) (by omega)
      have g1' : P_spec_l2With ((X, (Y, (Z, (out, ())))), (H[i].1, (H[i].2.1, (H[i].2.2.1 - 1, ()))), ()) = _ := g1
      rw [g1']
      simp only [Option.bind_some]
      obtain ⟨o2, k1, k2, k3, k4⟩ := l_s9 (X := X) (Y := Y) (Z := Z) hH hlen t ht m0 (d - 1) (i + 1) m o1 (by omega) (by omega) g2 (by omega)
      have hzs := zs_with hr g2 g3
      refine ⟨o2, k1, k2, fun c => ?_, ?_⟩
      · rw [k3, g3, drop_at H i hlt, List.map_cons, List.mem_cons]
        constructor
        · rintro ((h | h) | h)
          · exact .inr (.inl h)
          · exact .inl h
          · exact .inr (.inr h)
        · rintro (h | h | h)
          · exact .inl (.inr h)
          · exact .inl (.inl h)
          · exact .inr h
      · rw [drop_at H i hlt, List.map_cons]
        simp only [zs]
        omega
    · rw [ltF hlt, List.drop_eq_nil_of_le (by omega), succI t (by omega)]
      exact ⟨out, rfl, hr, fun c => by simp, by simp⟩

theorem l_i11 {X Y Z : Int} (hs : sides X Y Z = true) {H : List D_A3} (hH : ∀ c ∈ H, within3 X Y Z c = true ∧ within3 X Y Z (down c) = true) (hlen : H.length ≤ 64) (t : Nat) (ht : t < 1000000) (m0 : Nat) : ∀ (d i m : Nat) (v : BitVec 64), H.length = i + d → d < m →
    l_impl_SinkHeap_11 m0 m 0 0 0 [] X Y Z (t : Int) (v.toNat : Int) H (H.length : Int) (i : Int) = l_impl_SinkHeap_6 m0 0 0 0 [] X Y Z ((mask Y Z ((H.drop i).map down) v).toNat : Int) ((t + 1 : Nat) : Int)
  | d, i, 0, v, _, h => by omega
  | d, i, m + 1, v, hk, hm => by
    rw [q_impl_SinkHeap_11]
    by_cases hlt : i < H.length
    · obtain ⟨h1, h2⟩ := hH _ (List.getElem_mem hlt)
      have hz := within3_iff.1 h1
      have s := sides_iff.1 hs
      rw [ltT hlt, inB_at hlt, nthA (t := T_A3) hlt, succI i (by omega), w1 (by omega) (by omega)]
      have e : P_box_index ((X, (Y, (Z, ()))), (H[i].1, (H[i].2.1, (H[i].2.2.1 - 1, ()))), ()) = some ((idx Y Z (down H[i]) : Int), ()) := f_box_index hs h2
      rw [e]
      simp only [cond_true, Option.bind_some]
      rw [decide_eq_true (p := (0 : Int) ≤ (idx Y Z (down H[i]) : Int)) (by omega), shl64, or64]
      simp only [cond_true]
      rw [l_i11 hs hH hlen t ht m0 (d - 1) (i + 1) m _ (by omega) (by omega), drop_at H i hlt]
      rfl
    · rw [ltF hlt, List.drop_eq_nil_of_le (by omega), succI t (by omega)]
      rfl

theorem zs_down : ∀ (H : List D_A3), (∀ c ∈ H, 1 ≤ c.2.2.1) → zs (H.map down) + H.length = zs H
  | [], _ => rfl
  | c :: H, h => by
    have h1 := h c (List.mem_cons_self ..)
    have ih := zs_down H fun x hx => h x (List.mem_cons_of_mem _ hx)
    simp only [List.map_cons, zs, List.length_cons, down]
    omega

theorem sink_ex {X Y Z : Int} (hs : sides X Y Z = true) : ∀ (n : Nat) (l : List D_A3) (t : Nat), zs l ≤ n → Srt l → Ins X Y Z l → t + n < 100000 →
    ∃ r : D_Heap × Int × Bool × Unit, (∀ m, n < m → l_spec_SinkHeap_4 m 0 0 0 [] X Y Z l (t : Int) = some r) ∧ (∀ m, n < m → l_impl_SinkHeap_6 m 0 0 0 [] X Y Z ((mask Y Z l 0).toNat : Int) (t : Int) = some r) ∧ Small r.1.2.2.2.1 := by
  intro n
  induction n using Nat.strongRecOn with
  | _ n ih =>
    intro l t hz hr hi ht
    have s := sides_iff.1 hs
    obtain ⟨H, h1, h2, h3⟩ := f_l7Parted hs hi hr true
    obtain ⟨S, k1, k2, k3⟩ := f_l7Parted hs hi hr false
    obtain ⟨w, w1', w2, w3⟩ := f_standing hs hi
    have hH : ∀ c, c ∈ H ↔ c ∈ l ∧ ¬ Stand l c := fun c => by rw [h3]; simp
    have hS : ∀ c, c ∈ S ↔ Stand l c := fun c => by
      rw [k3]
      simp only [iff_true]
      exact ⟨fun h => h.2, fun h => ⟨Stand.mem h, h⟩⟩
    have hHi : Ins X Y Z H := fun c hc => hi c ((hH c).1 hc).1
    have hSi : Ins X Y Z S := fun c hc => hi c (Stand.mem ((hS c).1 hc))
    have hHl := srt_small64 hs hHi h2
    have hSl := srt_small64 hs hSi k2
    have hll := srt_small64 hs hi hr
    have hwS : SetIs X Y Z w (fun c => decide (c ∈ S)) := ⟨w2, fun c hc => by
      rw [Bool.eq_iff_iff, decide_eq_true_eq, hS, ← w3]
      unfold bitP
      simp [hc]⟩
    by_cases hHe : H.length = 0
    · have hHn : H = [] := List.length_eq_zero_iff.1 hHe
      have hall : ∀ c ∈ l, Stand l c := fun c hc => Classical.byContradiction fun hn => by
        have := (hH c).2 ⟨hc, hn⟩
        rw [hHn] at this
        cases this
      have hw : w = mask Y Z l 0 := hwS.ext hs (by
        have := setIs_mask hs hi
        refine ⟨this.1, fun c hc => ?_⟩
        rw [this.2 c hc, Bool.eq_iff_iff, decide_eq_true_eq, decide_eq_true_eq, hS]
        exact ⟨hall c, Stand.mem⟩)
      refine ⟨((X, Y, Z, l, ()), (t : Int), true, ()), fun m hm => ?_, fun m hm => ?_, small64 hll⟩
      · obtain ⟨m, rfl⟩ : ∃ m', m = m' + 1 := ⟨m - 1, by omega⟩
        rw [q_spec_SinkHeap_4, h1]
        simp only [Option.bind_some]
        rw [decide_eq_true (by omega)]
        rfl
      · obtain ⟨m, rfl⟩ : ∃ m', m = m' + 1 := ⟨m - 1, by omega⟩
        rw [q_impl_SinkHeap_6, w1']
        simp only [Option.bind_some]
        rw [decide_eq_true (by rw [hw]), f_box_heap hs, listOf_mask hs hi hr]
        rfl
    · have hHz : ∀ c ∈ H, 1 ≤ c.2.2.1 ∧ c.2.2.1 ≤ 10 := fun c hc => by
        have hw := within3_iff.1 (hHi c hc)
        refine ⟨?_, by omega⟩
        by_cases hc0 : c.2.2.1 = 0
        · exact absurd (Rch.base ⟨((hH c).1 hc).1, hc0⟩) ((hH c).1 hc).2
        · omega
      have hHd : ∀ c ∈ H, within3 X Y Z c = true ∧ within3 X Y Z (down c) = true := fun c hc => by
        refine ⟨hHi c hc, ?_⟩
        have hw := within3_iff.1 (hHi c hc)
        have := hHz c hc
        rw [within3_iff]
        unfold down
        simp only
        omega
      have hperm : l.Perm (S ++ H) := by
        refine (List.perm_ext_iff_of_nodup hr.nodup ?_).2 fun c => ?_
        · rw [List.nodup_append]
          exact ⟨k2.nodup, h2.nodup, fun a ha b hb e => ((hH b).1 hb).2 (e ▸ (hS a).1 ha)⟩
        · rw [List.mem_append, hS, hH]
          constructor
          · intro hc
            by_cases h : Stand l c
            · exact .inl h
            · exact .inr ⟨hc, h⟩
          · rintro (h | h)
            · exact Stand.mem h
            · exact h.1
      have hzl : zs l = zs S + zs H := by rw [zs_perm hperm, zs_append]
      have hzd := zs_down H fun c hc => (hHz c hc).1
      obtain ⟨l', e1, e2, e3, e4⟩ : ∃ l', (∀ m0, l_spec_SinkHeap_9 m0 N 0 0 0 [] X Y Z S (t : Int) H 0 = l_spec_SinkHeap_4 m0 0 0 0 [] X Y Z l' ((t + 1 : Nat) : Int)) ∧ Srt l' ∧ (∀ c, c ∈ l' ↔ c ∈ S ∨ c ∈ H.map down) ∧ zs l' ≤ zs S + zs (H.map down) := by
        have a := fun m0 => l_s9 (X := X) (Y := Y) (Z := Z) (fun c hc => ⟨by have := hHz c hc; omega, (hHz c hc).2⟩) hHl t (by omega) m0 H.length 0 N S (by omega) (by have := N_ge; omega) k2 (by omega)
        obtain ⟨o, _, o2, o3, o4⟩ := a 0
        refine ⟨o, fun m0 => ?_, o2, by simpa using o3, by simpa using o4⟩
        obtain ⟨o', q1, q2, q3, q4⟩ := a m0
        have : o' = o := srt_ext _ _ q2 o2 fun c => by rw [q3, o3]
        rw [this] at q1
        exact q1
      have hl'i : Ins X Y Z l' := fun c hc => by
        rcases (e3 c).1 hc with h | h
        · exact hSi c h
        · obtain ⟨x, hx, rfl⟩ := List.mem_map.1 h
          exact (hHd x hx).2
      obtain ⟨r, r1, r2, r3⟩ := ih (zs l') (by omega) l' (t + 1) (Nat.le_refl _) e2 hl'i (by omega)
      refine ⟨r, fun m hm => ?_, fun m hm => ?_, r3⟩
      · obtain ⟨m, rfl⟩ : ∃ m', m = m' + 1 := ⟨m - 1, by omega⟩
        rw [q_spec_SinkHeap_4, h1]
        simp only [Option.bind_some]
        rw [decide_eq_false (by omega), k1]
        simp only [cond_false, Option.bind_some]
        rw [p_spec_l2Made]
        simp only [Option.bind_some]
        rw [e1 m]
        exact r1 m (by omega)
      · obtain ⟨m, rfl⟩ : ∃ m', m = m' + 1 := ⟨m - 1, by omega⟩
        have hne : ¬ (w.toNat : Int) = ((mask Y Z l 0).toNat : Int) := fun hh => by
          have hwm : w = mask Y Z l 0 := BitVec.eq_of_toNat_eq (by omega)
          obtain ⟨c, hc⟩ := List.exists_mem_of_length_pos (show 0 < H.length by omega)
          have hcl := ((hH c).1 hc).1
          have hb := hwS.2 c (hi c hcl)
          rw [hwm, mask_mem hs hi (hi c hcl), decide_eq_true hcl] at hb
          exact ((hH c).1 hc).2 ((hS c).1 (by simpa using hb.symm))
        rw [q_impl_SinkHeap_6, w1']
        simp only [Option.bind_some]
        rw [decide_eq_false hne, andNot64, f_box_list hs]
        have hHS : SetIs X Y Z (mask Y Z l 0 &&& ~~~w) (fun c => decide (c ∈ l) && !decide (c ∈ S)) := by
          refine ⟨low_and (low_mask hs hi), fun c hc => ?_⟩
          have h64 := (idx_eq hs hc).2.1
          have h65 := (idx_eq hs hc).2.2.1
          rw [BitVec.getLsbD_and, BitVec.getLsbD_not, mask_mem hs hi hc, hwS.2 c hc, decide_eq_true (p := idx Y Z c < 64) (by omega), Bool.true_and]
        have hlist : bitCells X Y Z (mask Y Z l 0 &&& ~~~w) = H := hHS.cells hs h2 fun c => by
          rw [hH, Bool.and_eq_true, decide_eq_true_eq, ← hS]
          simp only [Bool.not_eq_true', decide_eq_false_iff_not]
          exact ⟨fun h => ⟨hi c h.1, h⟩, fun h => h.2⟩
        rw [hlist]
        simp only [cond_false, Option.bind_some]
        have hx := l_i11 hs hHd hHl t (by omega) m H.length 0 N w (by omega) (by have := N_ge; omega)
        have hx' : l_impl_SinkHeap_11 m N 0 0 0 [] X Y Z (t : Int) (w.toNat : Int) H (H.length : Int) 0 = _ := hx
        rw [hx', List.drop_zero]
        have hmask : mask Y Z (H.map down) w = mask Y Z l' 0 := by
          have hwm : w = mask Y Z S 0 := hwS.ext hs (setIs_mask hs hSi)
          rw [hwm, ← mask_append]
          have hins : Ins X Y Z (S ++ H.map down) := fun c hc => by
            rcases List.mem_append.1 hc with h | h
            · exact hSi c h
            · obtain ⟨x, hx, rfl⟩ := List.mem_map.1 h
              exact (hHd x hx).2
          refine (setIs_mask hs hins).ext hs ?_
          have := setIs_mask hs hl'i
          refine ⟨this.1, fun c hc => ?_⟩
          rw [this.2 c hc, Bool.eq_iff_iff, decide_eq_true_eq, decide_eq_true_eq, e3, List.mem_append]
        rw [hmask]
        exact r2 m (by omega)

theorem zs_le {X Y Z : Int} (hs : sides X Y Z = true) : ∀ (l : List D_A3), Ins X Y Z l → zs l ≤ 3 * l.length
  | [], _ => by simp [zs]
  | c :: l, h => by
    have ih := zs_le hs l fun x hx => h x (List.mem_cons_of_mem _ hx)
    have hw := within3_iff.1 (h c (List.mem_cons_self ..))
    have s := sides_iff.1 hs
    simp only [zs, List.length_cons]
    omega

theorem sink_both (h : D_Heap) (hl : Small h.2.2.2.1) : ∃ r : D_Heap × Int × Bool × Unit, P_spec_SinkHeap (h, ()) = some r ∧ P_impl_SinkHeap (h, ()) = some r ∧ Small r.1.2.2.2.1 := by
  rw [p_spec_SinkHeap, p_impl_SinkHeap, f_spec_l2Heap _ hl, f_impl_IsHeap _ hl]
  cases ho : okHeap h with
  | false => exact ⟨_, rfl, rfl, small_no⟩
  | true =>
    obtain ⟨hs, hi, hr⟩ := okHeap_iff.1 ho
    have hll := srt_small64 hs hi hr
    have f0 : P_spec_l2Own (h, ()) = _ := f_l2Own (X := h.1) (Y := h.2.1) (Z := h.2.2.1) (l := h.2.2.2.1) (by omega)
    have f3 : P_Heap_cubes (h, ()) = _ := f_Heap_cubes hs hl hi
    have hz := zs_le hs _ hi
    obtain ⟨r, r1, r2, r3⟩ := sink_ex hs (zs h.2.2.2.1) h.2.2.2.1 0 (Nat.le_refl _) hr hi (by omega)
    simp only [Option.bind_some, Bool.not_true, cond_false]
    rw [f0, f_Heap_box, f3]
    exact ⟨r, r1 N (by have := N_ge; omega), r2 N (by have := N_ge; omega), r3⟩
end Go.VI
