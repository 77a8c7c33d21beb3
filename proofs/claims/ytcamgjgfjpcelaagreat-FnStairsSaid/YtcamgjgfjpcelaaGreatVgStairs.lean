/- The staircases of a box, by a walk. -/
import Derived.Test.YtcamgjgfjpcelaaGreatVgFill5
import Derived.Laws.EntriesVeiled
namespace Go.VI
open Go.Proofs Go.RowKit
set_option maxRecDepth 100000
def boxV (X Y Z : Int) : Value := .agg #[.int .i64 X, .int .i64 Y, .int .i64 Z]
theorem alloc_at (w : World) (o : Obj) : (w.alloc o).heap[w.heap.size]? = some o := heap_alloc_new w o
theorem alloc_size (w : World) (o : Obj) : (w.alloc o).heap.size = w.heap.size + 1 := Array.size_push _
theorem box_cells {w : World} {b t : Nat} {X Y Z : Int} (h : w.heap[b]? = some (.cells #[.int .i64 X, .int .i64 Y, .int .i64 Z] t (0, 0))) :
    w.cell? ⟨b, 0, none⟩ = some (.int .i64 X) ∧ w.cell? ⟨b, 1, none⟩ = some (.int .i64 Y) ∧ w.cell? ⟨b, 2, none⟩ = some (.int .i64 Z) := by
  refine ⟨?_, ?_, ?_⟩ <;> simp [World.cell?, h]
theorem below_at {w w1 : World} {o : Obj} (hb : Below (w.alloc o).heap.size (w.alloc o) w1) : w1.heap[w.heap.size]? = some o :=
  (hb.block _ (by rw [alloc_size]; omega)).trans (alloc_at w o)
def fillF (b n : Nat) : Value := .func (.func 175) #[] #[.pointer (some ⟨b, 0, none⟩), .pointer (some ⟨n + 1, 0, none⟩), .pointer (some ⟨n + 1 + 1, 0, none⟩)]
def w3of (b : Nat) (w2 : World) : World := ((w2.alloc (.cells #[] 30)).alloc (.cells #[.slice (some ⟨w2.heap.size, 0, none⟩) 0 0] 104)).alloc (.cells #[fillF b w2.heap.size] 164)
theorem stairs_pre {w2 : World} {b base : Nat} {X Y Z : Int} (hB : w2.heap[b]? = some (.cells #[.int .i64 X, .int .i64 Y, .int .i64 Z] 87 (0, 0))) (hbase : base ≤ w2.heap.size) :
    FillW 87 b (w2.heap.size + 1) (w2.heap.size + 1 + 1) base X Y Z (fun _ => False) (.slice (some ⟨w2.heap.size, 0, none⟩) 0 0) [] (.slice none 0 0) [] (w3of b w2) := by
  have hb := lt_of_block hB
  have s1 := alloc_size w2 (.cells #[] 30)
  have s2 := alloc_size (w2.alloc (.cells #[] 30)) (.cells #[.slice (some ⟨w2.heap.size, 0, none⟩) 0 0] 104)
  have s3 := alloc_size ((w2.alloc (.cells #[] 30)).alloc (.cells #[.slice (some ⟨w2.heap.size, 0, none⟩) 0 0] 104)) (.cells #[fillF b w2.heap.size] 164)
  have a1 := alloc_at w2 (.cells #[] 30)
  have a2 := alloc_at (w2.alloc (.cells #[] 30)) (.cells #[.slice (some ⟨w2.heap.size, 0, none⟩) 0 0] 104)
  have a3 := alloc_at ((w2.alloc (.cells #[] 30)).alloc (.cells #[.slice (some ⟨w2.heap.size, 0, none⟩) 0 0] 104)) (.cells #[fillF b w2.heap.size] 164)
  rw [s1] at a2 s2
  rw [s2] at a3 s3
  have old : ∀ g, g < w2.heap.size → (w3of b w2).heap[g]? = w2.heap[g]? := fun g hg => by
    unfold w3of
    rw [Below.heap_alloc _ _ _ (by omega), Below.heap_alloc _ _ _ (by omega), Below.heap_alloc _ _ _ hg]
  have oA : (w3of b w2).heap[w2.heap.size]? = some (.cells #[] 30 (0, 0)) := by
    unfold w3of
    rw [Below.heap_alloc _ _ _ (by omega), Below.heap_alloc _ _ _ (by omega)]
    exact a1
  have oO : (w3of b w2).heap[w2.heap.size + 1]? = some (.cells #[.slice (some ⟨w2.heap.size, 0, none⟩) 0 0] 104 (0, 0)) := by
    unfold w3of
    rw [Below.heap_alloc _ _ _ (by omega)]
    exact a2
  have oK : (w3of b w2).heap[w2.heap.size + 1 + 1]? = some (.cells #[fillF b w2.heap.size] 164 (0, 0)) := a3
  have sW : (w3of b w2).heap.size = w2.heap.size + 1 + 1 + 1 := s3
  refine ⟨?_, oO, oK, ?_, World.ownsRow_nil _ _ _ _, fun _ h => h.elim, by omega⟩
  · rw [old b hb]; exact hB
  · exact ⟨Nat.one_pos, [], OwnRow.of ⟨rfl, .inr ⟨w2.heap.size, 0, #[], rfl, hbase, oA, Nat.le_refl _, by decide, rfl, rfl⟩⟩, rfl⟩
theorem stairs_post {w w1 w2 w5 : World} {b : Nat} {o : Obj} {ov : Value} {Zi : Nat → Prop} (h1 : Below (w.alloc o).heap.size (w.alloc o) w1) (h2 : Below w1.heap.size w1 w2)
    (r : FillR (w2.heap.size + 1) (w3of b w2) w5 (.slice (some ⟨w2.heap.size, 0, none⟩) 0 0) ov (.slice none 0 0) (fun _ => False) Zi) :
    Below w.heap.size w w5 ∧ ∀ g, Zi g → w.heap.size ≤ g := by
  have s0 := alloc_size w o
  have s1 := h1.size
  have s2 := h2.size
  have sW : (w3of b w2).heap.size = w2.heap.size + 1 + 1 + 1 := by unfold w3of; rw [alloc_size, alloc_size, alloc_size]
  have s5 := r.size
  rw [sW] at s5
  refine ⟨⟨?_, ?_, ?_, by omega, ?_⟩, ?_⟩
  · exact r.os.trans (h2.os.trans h1.os)
  · exact r.tape.trans (h2.tape.trans h1.tape)
  · exact r.output.trans (h2.output.trans h1.output)
  · intro g hg
    rw [r.block g (by omega) (by omega) (by simp [Value.ownBlock]; omega) (by simp [Value.ownBlock])]
    unfold w3of
    rw [Below.heap_alloc _ _ _ (by rw [alloc_size, alloc_size]; omega), Below.heap_alloc _ _ _ (by rw [alloc_size]; omega), Below.heap_alloc _ _ _ (by omega), h2.block g (by omega), h1.block g (by omega), Below.heap_alloc _ _ _ hg]
  · intro g hg
    rcases r.new g hg with h | h
    · exact h.elim
    · rw [sW] at h; omega
theorem rowsN_len {y : Nat} {Z : Int} (hZ : Z ≤ 4) : ∀ (d : Nat) (L : List Int), (rowsN y Z d L).length ≤ 5 ^ d
  | 0, L => by simp [rowsN]
  | d + 1, L => by
    rw [rowsN, List.length_flatMap]
    have hm : mostL y Z L ≤ 4 := mostL_le hZ L
    have key : ∀ n : Nat, ((List.range n).map fun k : Nat => (rowsN y Z d (L ++ [(k : Int)])).length).sum ≤ n * 5 ^ d := by
      intro n
      induction n with
      | zero => simp
      | succ n ih =>
        rw [List.range_succ, List.map_append, List.sum_append, Nat.succ_mul]
        have := rowsN_len (y := y) hZ d (L ++ [(n : Int)])
        simp only [List.map_cons, List.map_nil, List.sum_cons, List.sum_nil]
        omega
    refine Nat.le_trans (key _) ?_
    rw [Nat.pow_succ, Nat.mul_comm]
    exact Nat.mul_le_mul_left _ (by omega)
theorem stairs_good {X : Int} {y : Nat} {Z c : Int} (hX : 1 ≤ X ∧ X ≤ 4) (hY : 1 ≤ y ∧ y ≤ 4) (hZ : 1 ≤ Z ∧ Z ≤ 4) (hc : c ≤ 1000) (w : World)
    (h1 : ∀ w, Calls Tryz.prog 101 #[boxV X y Z] w fun e w' => e = .returned (.bool true) ∧ Below w.heap.size w w') (h2 : ∀ w, Calls Tryz.prog 174 #[boxV X y Z] w fun e w' => e = .returned (.int .i64 c) ∧ Below w.heap.size w w') :
    Calls Tryz.prog 92 #[boxV X y Z] w fun e w' => ∃ ov Zi, e = .returned (.tuple #[ov, .bool true]) ∧ Below w.heap.size w w' ∧ OwnV Zi w' w.heap.size 30 (.sl (.int .i64)) ov (rowsN y Z (X * y).toNat []) ∧
      (∀ g, Zi g → w.heap.size ≤ g ∧ g < w'.heap.size ∧ ov.ownBlock ≠ some g) := by
  have hxy : 1 ≤ X * (y : Int) ∧ X * (y : Int) ≤ 16 := by
    obtain ⟨yi, hyi⟩ : ∃ yi : Int, yi = (y : Int) := ⟨_, rfl⟩
    rw [← hyi]
    rcases fourV hX.1 hX.2 with rfl | rfl | rfl | rfl <;> omega
  have hlen : ([] : List (List Int)).length + (rowsN y Z (X * y).toNat []).length ≤ 200000000000 := by
    have h5 := rowsN_len (y := y) hZ.2 (X * y).toNat []
    have : 5 ^ (X * (y : Int)).toNat ≤ 5 ^ 16 := Nat.pow_le_pow_right (by decide) (by omega)
    simp only [List.length_nil]
    omega
  have hfill := fun (B O K base : Nat) (hBO : B ≠ O) (hKO : K ≠ O) (ov : Value) (Zi : Nat → Prop) (w : World) (h : FillW 87 B O K base X y Z Zi ov [] (.slice none 0 0) [] w) =>
    fill_calls (tb := 87) (base := base) (by decide) hBO hKO hX hY hZ (X * y).toNat [] (.slice none 0 0) ov [] Zi w h (by simp; omega) (fun _ h => by cases h) (fun _ => rfl) hlen
  have hpre := fun (w2 : World) (hB : w2.heap[w.heap.size]? = some (.cells #[.int .i64 X, .int .i64 y, .int .i64 Z] 87 (0, 0))) (hbase : w.heap.size ≤ w2.heap.size) => stairs_pre hB hbase
  unfold boxV at *
  unfold ptrTo at hfill
  unfold w3of fillF at hpre
  clear hlen hxy hX hY hZ
  go_enter Tryz.func92, Tryz.ntmps92
  go_wp2_with (first
    | (go_at_call 101; refine (h1 _).mono ?_; rintro e w1 ⟨rfl, hb1⟩; have hB1 := below_at hb1; obtain ⟨k0, k1, k2⟩ := box_cells hB1)
    | (go_at_call 174; refine (h2 _).mono ?_; rintro e w2 ⟨rfl, hb2⟩; have p4 := hpre w2 ((hb2.block _ (lt_of_block hB1)).trans hB1) (by have := hb2.size; have := lt_of_block hB1; omega))
    | (go_at_call 175; refine (hfill _ _ _ _ (by have := lt_of_block hB1; have := hb2.size; omega) (by omega) _ _ _ p4).mono ?_; rintro e w5 ⟨ov, Zi, rfl, h5, r5⟩; have c5 := cell_of_one h5.out))
  go_ret2
  obtain ⟨q1, q2⟩ := stairs_post hb1 hb2 r5
  exact ⟨ov, Zi, rfl, q1, h5.own, fun g hg => ⟨q2 g hg, (h5.zone g hg).1, (h5.zone g hg).2.2.1⟩⟩
theorem stairs_bad {X Y Z : Int} (w : World) (h1 : ∀ w, Calls Tryz.prog 101 #[boxV X Y Z] w fun e w' => e = .returned (.bool false) ∧ Below w.heap.size w w') :
    Calls Tryz.prog 92 #[boxV X Y Z] w fun e w' => e = .returned (.tuple #[.slice none 0 0, .bool false]) ∧ Below w.heap.size w w' := by
  unfold boxV at *
  go_enter Tryz.func92, Tryz.ntmps92
  go_wp2_with (go_at_call 101; refine (h1 _).mono ?_; rintro e w1 ⟨rfl, hb1⟩; have hB1 := below_at hb1; obtain ⟨k0, k1, k2⟩ := box_cells hB1)
  go_ret2
  exact ⟨rfl, ((Below.refl w.heap.size w).alloc (Nat.le_refl _) _).trans ⟨hb1.os, hb1.tape, hb1.output, hb1.size, fun g hg => hb1.block g (by rw [alloc_size]; omega)⟩⟩
theorem stairs_many {X Y Z c : Int} (hc : 1000 < c) (w : World)
    (h1 : ∀ w, Calls Tryz.prog 101 #[boxV X Y Z] w fun e w' => e = .returned (.bool true) ∧ Below w.heap.size w w') (h2 : ∀ w, Calls Tryz.prog 174 #[boxV X Y Z] w fun e w' => e = .returned (.int .i64 c) ∧ Below w.heap.size w w') :
    Calls Tryz.prog 92 #[boxV X Y Z] w fun e w' => e = .returned (.tuple #[.slice none 0 0, .bool false]) ∧ Below w.heap.size w w' := by
  unfold boxV at *
  go_enter Tryz.func92, Tryz.ntmps92
  go_wp2_with (first
    | (go_at_call 101; refine (h1 _).mono ?_; rintro e w1 ⟨rfl, hb1⟩; have hB1 := below_at hb1; obtain ⟨k0, k1, k2⟩ := box_cells hB1)
    | (go_at_call 174; refine (h2 _).mono ?_; rintro e w2 ⟨rfl, hb2⟩))
  go_ret2
  have s1 := hb1.size
  rw [alloc_size] at s1
  refine ⟨rfl, ((Below.refl w.heap.size w).alloc (Nat.le_refl _) _).trans ⟨hb2.os.trans hb1.os, hb2.tape.trans hb1.tape, hb2.output.trans hb1.output, Nat.le_trans hb1.size hb2.size, fun g hg => ?_⟩⟩
  rw [hb2.block g (by omega), hb1.block g (by rw [alloc_size]; omega)]
end Go.VI
