/- impl.CountPackings, impl.FirstPacking, by walks. -/
import Derived.Test.YtdejhienahdoiaaGreatVkD
import Derived.Laws.Cover3
namespace Go.VI
open Go.Proofs Go.RowKit
set_option maxRecDepth 100000
def visC (C : Nat) : Vis Int := ⟨25, C, fun _ n w => w.heap[C]? = some (.cells #[.int .i64 n] 3 (0, 0)), fun _ n => (true, wrap64 (n + 1))⟩
theorem visC_ok (C base Lg : Nat) (h : C < Lg) : VisOK (visC C) base Lg := by
  refine ⟨fun s w hi => lt_of_block hi, fun s w w' hi hb _ => (hb C (lt_of_block hi) (by omega)).trans hi, fun s l w lv hi _ _ _ _ => ?_⟩
  have hi' : w.heap[C]? = some (.cells #[.int .i64 s] 3 (0, 0)) := hi
  have c0 := cell_of_one hi'
  have f0 := free_of_one hi'
  have hcalls : Calls Tryz.prog 25 #[lv, .pointer (some ⟨C, 0, none⟩)] w fun e w' => e = .returned (.bool true) ∧ w' = w.setCell ⟨C, 0, none⟩ (.int .i64 (wrap64 (s + 1))) := by
    go_enter Tryz.func25, Tryz.ntmps25
    go_wp2
    go_ret
    exact ⟨rfl, rfl⟩
  refine Calls.fcalls (fn := Tryz.f25) Tryz.func25 rfl (by kernel_rfl) (hcalls.mono ?_)
  rintro e w' ⟨rfl, rfl⟩
  exact ⟨_, rfl, rfl, one_setCell hi', rfl, rfl, rfl, by simp, fun g hg hn => Below.heap_setCell _ _ _ _ hn, Nat.le_refl _⟩
def invF (C B Lg : Nat) : Option (List Int) → World → Prop
  | none, w => w.heap[C]? = some (.cells #[.slice none 0 0] 32 (0, 0))
  | some l, w => ∃ g c, w.heap[C]? = some (.cells #[.slice (some ⟨g, 0, none⟩) l.length c] 32 (0, 0)) ∧ w.ownsRow B 3 1 (.slice (some ⟨g, 0, none⟩) l.length c) l.length (ints l) ∧ g ≠ Lg
def visF (C B : Nat) : Vis (Option (List Int)) := ⟨28, C, invF C B, fun l _ => (false, some l)⟩
theorem visF_ok (C B base Lg : Nat) (h : C < Lg) (hB : B ≤ Lg) : VisOK (visF C B) base Lg := by
  have hcell : ∀ s w, invF C B Lg s w → ∃ v, w.heap[C]? = some (.cells #[v] 32 (0, 0)) := fun s w hi => by
    cases s with
    | none => exact ⟨_, hi⟩
    | some l => obtain ⟨g, c, hc, _⟩ := hi; exact ⟨_, hc⟩
  refine ⟨fun s w hi => ?_, fun s w w' hi hb _ => ?_, fun s l w lv hi hrow hLg hne hlen => ?_⟩
  · obtain ⟨v, hv⟩ := hcell s w hi
    exact lt_of_block hv
  · cases s with
    | none =>
      have hi' : w.heap[C]? = some (.cells #[.slice none 0 0] 32 (0, 0)) := hi
      exact (hb C (lt_of_block hi') (by omega)).trans hi'
    | some l =>
      obtain ⟨g, c, hc, hr, hg⟩ := hi
      exact ⟨g, c, (hb C (lt_of_block hc) (by omega)).trans hc, rowSame hr fun q hq => by
        obtain rfl : g = q := Option.some.inj hq
        exact hb g (hr.lt g rfl).2 hg, hg⟩
  · obtain ⟨v0, hv0⟩ := hcell s w hi
    have hcl := clone_calls l base lv w hrow hne (by omega)
    have hlt := lt_of_block hv0
    have hcell' : ∀ w1, Below w.heap.size w w1 → w1.cell? ⟨C, 0, none⟩ = some v0 ∧ w1.frozen? ⟨C, 0, none⟩ = false := fun w1 hb => by
      have := belowBlock hv0 hb
      exact ⟨cell_of_one this, free_of_one this⟩
    obtain ⟨A, c, rfl⟩ := sliceOf hrow
    have hcalls : Calls Tryz.prog 28 #[.slice A l.length c, .pointer (some ⟨C, 0, none⟩)] w fun e w' => ∃ w1 g c1, e = .returned (.bool false) ∧ Below w.heap.size w w1 ∧ w1.ownsRow w.heap.size 3 1 (.slice (some ⟨g, 0, none⟩) l.length c1) l.length (ints l) ∧ w' = w1.setCell ⟨C, 0, none⟩ (.slice (some ⟨g, 0, none⟩) l.length c1) := by
      go_enter Tryz.func28, Tryz.ntmps28
      go_wp2_with (go_at_call 29; refine hcl.mono ?_; rintro e w1 ⟨cv, rfl, hb1, hr1⟩; obtain ⟨d0, d1⟩ := hcell' w1 hb1; obtain ⟨g, c1, hv1⟩ := sliceSome hr1 hne; subst hv1)
      go_ret
      exact ⟨w1, g, c1, rfl, hb1, hr1, rfl⟩
    refine Calls.fcalls (fn := Tryz.f28) Tryz.func28 rfl (by kernel_rfl) (hcalls.mono ?_)
    rintro e w' ⟨w1, g, c1, rfl, hb1, hr1, rfl⟩
    have hLgw : Lg < w.heap.size := (hrow.lt Lg hLg).2
    have hg := (hr1.lt g rfl).1
    refine ⟨_, rfl, rfl, ⟨g, c1, one_setCell (belowBlock hv0 hb1), ?_, by omega⟩, hb1.os, hb1.tape, hb1.output, by simpa using hb1.size, fun q hq hn => (Below.heap_setCell _ _ _ _ hn).trans (hb1.block q hq), hb1.drawn⟩
    refine ⟨hr1.1, ?_⟩
    rcases hr1.2 with ⟨e, _⟩ | ⟨g', cap, cur, e, hbg, hh, rest⟩
    · cases e
    · refine .inr ⟨g', cap, cur, e, by omega, (Below.heap_setCell _ _ _ _ ?_).trans hh, rest⟩
      show g' ≠ C
      omega
end Go.VI
namespace Go.VI
open Go.Proofs Go.RowKit
set_option maxRecDepth 100000
section
variable {w : World} {Z : Nat → Prop} {h : D_Heap} {hv : Value} {A : Option Addr} {c : Nat} {pieces : List (List D_A3)} (ah : ArgH Z w h hv) (hps : RepI Z w (.sl (.sl T_A3)) pieces [.slice A pieces.length c])
include ah hps
set_option maxHeartbeats 1000000 in
theorem count_no (hp : P_impl_arePacked (h, pieces, ()) = some (false, ())) : Calls Tryz.prog 6 #[hpV h hv, .slice A pieces.length c] w fun e w' => e = .returned (.tuple #[.int .i64 0, .bool false]) ∧ Below w.heap.size w w' := by
  have hB := belowAlloc w (.cells #[.int .i64 h.1, .int .i64 h.2.1, .int .i64 h.2.2.1, hv] 26)
  obtain ⟨d0, d1, d2, d3⟩ := box4 (alloc_at w (.cells #[.int .i64 h.1, .int .i64 h.2.1, .int .i64 h.2.2.1, hv] 26))
  have hpk := c_packed (ah.at hB) (repZone hps fun g hg => hB.block g (ah.zone g hg)) hp
  unfold hpV at *
  go_enter Tryz.func6, Tryz.ntmps6
  go_wp2_with (go_at_call 23; refine hpk.mono ?_; rintro e w2 ⟨rfl, hb2⟩)
  go_ret2
  exact ⟨rfl, belowThen hB hb2⟩
set_option maxHeartbeats 1000000 in
theorem first_no (hp : P_impl_arePacked (h, pieces, ()) = some (false, ())) : Calls Tryz.prog 8 #[hpV h hv, .slice A pieces.length c] w fun e w' => e = .returned (.tuple #[.slice none 0 0, .bool false]) ∧ Below w.heap.size w w' := by
  have hB := belowAlloc w (.cells #[.int .i64 h.1, .int .i64 h.2.1, .int .i64 h.2.2.1, hv] 26)
  obtain ⟨d0, d1, d2, d3⟩ := box4 (alloc_at w (.cells #[.int .i64 h.1, .int .i64 h.2.1, .int .i64 h.2.2.1, hv] 26))
  have hpk := c_packed (ah.at hB) (repZone hps fun g hg => hB.block g (ah.zone g hg)) hp
  unfold hpV at *
  go_enter Tryz.func8, Tryz.ntmps8
  go_wp2_with (go_at_call 23; refine hpk.mono ?_; rintro e w2 ⟨rfl, hb2⟩)
  go_ret2
  exact ⟨rfl, belowThen hB hb2⟩
variable (hp8 : pieces.length ≤ 8) {b : D_A3} {n : Nat} {fr : Int} {m : Nat} (hp : P_impl_arePacked (h, pieces, ()) = some (true, ()))
    (hb : P_Heap_box (h, ()) = some (b, ())) (hn : P_box_size (b, ()) = some ((n : Int), ())) (h1 : 1 ≤ n ∧ n ≤ 64) (hf : P_Heap_free (h, ()) = some (fr, ()))
include hp8 hp hb hn h1 hf
set_option maxHeartbeats 1000000 in
theorem count_yes {x : Bool × List Int × Int} (hF : fillF (fun _ n => (true, wrap64 (n + 1))) b pieces m fr 0 (List.replicate n (-1)) 0 = some x) :
    Calls Tryz.prog 6 #[hpV h hv, .slice A pieces.length c] w fun e w' => e = .returned (.tuple #[.int .i64 x.2.2, .bool true]) ∧ Below w.heap.size w w' := by
  have hB := belowAlloc w (.cells #[.int .i64 h.1, .int .i64 h.2.1, .int .i64 h.2.2.1, hv] 26)
  have hH := alloc_at w (.cells #[.int .i64 h.1, .int .i64 h.2.1, .int .i64 h.2.2.1, hv] 26)
  obtain ⟨d0, d1, d2, d3⟩ := box4 hH
  have hpk := c_packed (ah.at hB) (repZone hps fun g hg => hB.block g (ah.zone g hg)) hp
  have hpa := fun (w2 : World) (hb2 : Below (w.alloc (.cells #[.int .i64 h.1, .int .i64 h.2.1, .int .i64 h.2.2.1, hv] 26)).heap.size (w.alloc (.cells #[.int .i64 h.1, .int .i64 h.2.1, .int .i64 h.2.2.1, hv] 26)) w2) =>
    have hB2 := belowA (belowThen hB hb2) (.cells #[.int .i64 0] 3)
    packings_walk (V := visC w2.heap.size) (w := w2.alloc (.cells #[.int .i64 0] 3)) (Z := Z) (s := 0) (x := x) (m := m) (hv := hv) (pv := .slice A pieces.length c)
      (fun base Lg hLg _ => visC_ok _ base Lg (Nat.lt_of_lt_of_le (lt_of_block (alloc_at w2 (.cells #[.int .i64 0] 3))) hLg)) (fun _ _ => alloc_at w2 _) (fun hz => by have h1 : w2.heap.size < w.heap.size := ah.zone _ hz; have := (belowThen hB hb2).size; omega)
      (ah.at hB2) (repZone hps fun g hg => hB2.block g (ah.zone g hg)) hp8 hb hn h1 hf hF
  unfold hpV ptrTo at *
  go_enter Tryz.func6, Tryz.ntmps6
  go_wp2_with (first
    | (go_at_call 23; refine hpk.mono ?_; rintro e w2 ⟨rfl, hb2⟩; obtain ⟨e0, e1, e2, e3⟩ := box4 (blockA (belowBlock hH hb2) (.cells #[.int .i64 0] 3)); have hpa2 := hpa w2 hb2)
    | (go_at_call 24; refine hpa2.mono ?_; rintro e w3 ⟨rfl, ⟨Lg, hLg, hi3⟩, hf3⟩; have hc3 : w3.cell? ⟨w2.heap.size, 0, none⟩ = some (.int .i64 x.2.2) := cell_of_one (show w3.heap[w2.heap.size]? = some (.cells #[.int .i64 x.2.2] 3 (0, 0)) from hi3)))
  go_ret2
  have hB2 := belowA (belowThen hB hb2) (.cells #[.int .i64 0] 3)
  have hs2 := (belowThen hB hb2).size
  exact ⟨rfl, hf3.os.trans hB2.os, hf3.tape.trans hB2.tape, hf3.output.trans hB2.output, Nat.le_trans hB2.size hf3.size, fun q hq => (hf3.block q (Nat.lt_of_lt_of_le hq hB2.size) fun e => by
    have e' : q = w2.heap.size := e
    omega).trans (hB2.block q hq), Nat.le_trans hB2.drawn hf3.drawn⟩
set_option maxHeartbeats 2000000 in
theorem first_yes {x : Bool × List Int × Option (List Int)} (hF : fillF (fun l _ => (false, some l)) b pieces m fr 0 (List.replicate n (-1)) none = some x) :
    Calls Tryz.prog 8 #[hpV h hv, .slice A pieces.length c] w fun e w' => match x.2.2 with
      | none => e = .returned (.tuple #[.slice none 0 0, .bool false]) ∧ Below w.heap.size w w'
      | some l => ∃ g k, e = .returned (.tuple #[.slice (some ⟨g, 0, none⟩) l.length k, .bool true]) ∧ Below w.heap.size w w' ∧ w'.ownsRow w.heap.size 3 1 (.slice (some ⟨g, 0, none⟩) l.length k) l.length (ints l) := by
  have hB := belowAlloc w (.cells #[.int .i64 h.1, .int .i64 h.2.1, .int .i64 h.2.2.1, hv] 26)
  have hH := alloc_at w (.cells #[.int .i64 h.1, .int .i64 h.2.1, .int .i64 h.2.2.1, hv] 26)
  obtain ⟨d0, d1, d2, d3⟩ := box4 hH
  have hpk := c_packed (ah.at hB) (repZone hps fun g hg => hB.block g (ah.zone g hg)) hp
  have hpa := fun (w2 : World) (hb2 : Below (w.alloc (.cells #[.int .i64 h.1, .int .i64 h.2.1, .int .i64 h.2.2.1, hv] 26)).heap.size (w.alloc (.cells #[.int .i64 h.1, .int .i64 h.2.1, .int .i64 h.2.2.1, hv] 26)) w2) =>
    have hB2 := belowA (belowThen hB hb2) (.cells #[.slice none 0 0] 32)
    packings_walk (V := visF w2.heap.size w.heap.size) (w := w2.alloc (.cells #[.slice none 0 0] 32)) (Z := Z) (s := none) (x := x) (m := m) (hv := hv) (pv := .slice A pieces.length c)
      (fun base Lg hLg _ => visF_ok _ _ base Lg (Nat.lt_of_lt_of_le (lt_of_block (alloc_at w2 (.cells #[.slice none 0 0] 32))) hLg) (Nat.le_trans hB2.size hLg)) (fun _ _ => alloc_at w2 _) (fun hz => by have h1 : w2.heap.size < w.heap.size := ah.zone _ hz; have := (belowThen hB hb2).size; omega)
      (ah.at hB2) (repZone hps fun g hg => hB2.block g (ah.zone g hg)) hp8 hb hn h1 hf hF
  have hE := fun (W : World) (a : Option Addr) (l c : Nat) => run_neq_slice_nil (P := Tryz.prog) W 32 3 a l c Tryz.underlying32
  obtain ⟨xb, xl, xs⟩ := x
  have fin : ∀ w2 w3 : World, Below (w.alloc (.cells #[.int .i64 h.1, .int .i64 h.2.1, .int .i64 h.2.2.1, hv] 26)).heap.size (w.alloc (.cells #[.int .i64 h.1, .int .i64 h.2.1, .int .i64 h.2.2.1, hv] 26)) w2 → FrameL (fun g => g = w2.heap.size) (w2.alloc (.cells #[.slice none 0 0] 32)) w3 → Below w.heap.size w w3 := fun w2 w3 hb2 hf3 => by
    have hB2 := belowA (belowThen hB hb2) (.cells #[.slice none 0 0] 32)
    have hs2 := (belowThen hB hb2).size
    exact ⟨hf3.os.trans hB2.os, hf3.tape.trans hB2.tape, hf3.output.trans hB2.output, Nat.le_trans hB2.size hf3.size, fun q hq => (hf3.block q (Nat.lt_of_lt_of_le hq hB2.size) fun e => by
      have e' : q = w2.heap.size := e
      omega).trans (hB2.block q hq), Nat.le_trans hB2.drawn hf3.drawn⟩
  cases xs with
  | none =>
    unfold hpV ptrTo at *
    go_enter Tryz.func8, Tryz.ntmps8
    go_wp2_with (first
      | (go_at_call 23; refine hpk.mono ?_; rintro e w2 ⟨rfl, hb2⟩; obtain ⟨e0, e1, e2, e3⟩ := box4 (blockA (belowBlock hH hb2) (.cells #[.slice none 0 0] 32)); have hpa2 := hpa w2 hb2)
      | (go_at_call 24; refine hpa2.mono ?_; rintro e w3 ⟨rfl, ⟨Lg, hLg, hi3⟩, hf3⟩; have hc3 : w3.cell? ⟨w2.heap.size, 0, none⟩ = some (.slice none 0 0) := cell_of_one (show w3.heap[w2.heap.size]? = some (.cells #[.slice none 0 0] 32 (0, 0)) from hi3)))
    have hBel := fin w2 w3 hb2 hf3
    clear hpa hpa2 hpk fin
    go_region_with (fail)
    all_goals (go_wp2; go_ret2; exact ⟨rfl, belowD hBel⟩)
  | some l =>
    unfold hpV ptrTo at *
    go_enter Tryz.func8, Tryz.ntmps8
    go_wp2_with (first
      | (go_at_call 23; refine hpk.mono ?_; rintro e w2 ⟨rfl, hb2⟩; obtain ⟨e0, e1, e2, e3⟩ := box4 (blockA (belowBlock hH hb2) (.cells #[.slice none 0 0] 32)); have hpa2 := hpa w2 hb2)
      | (go_at_call 24; refine hpa2.mono ?_; rintro e w3 ⟨rfl, ⟨Lg, hLg, hi3⟩, hf3⟩; obtain ⟨g, k, hcl, hrw, _⟩ : invF w2.heap.size w.heap.size Lg (some l) w3 := hi3; have hc3 := cell_of_one hcl))
    have hBel := fin w2 w3 hb2 hf3
    clear hpa hpa2 hpk fin
    go_region_with (fail)
    all_goals (go_wp2; go_ret2; exact ⟨g, k, rfl, belowD hBel, hrw⟩)
end
theorem repsInts {Z : Nat → Prop} {w : World} : ∀ l : List Int, RepsL Z w (.int .i64) l (ints l)
  | [] => rfl
  | x :: r => ⟨[.int .i64 x], ints r, rfl, rfl, repsInts r⟩
theorem ownInts {Z : Nat → Prop} {w : World} {B : Nat} {v : Value} {l : List Int} (h : w.ownsRow B 3 1 v l.length (ints l)) : OwnV Z w B 3 (.int .i64) v l :=
  ⟨Nat.one_pos, ints l, OwnRow.of h, repsInts l⟩
noncomputable def packF {σ : Type} (run : List Int → σ → Bool × σ) (s0 : σ) (x : D_Heap × List (List D_A3) × Unit) : Option (Option σ) :=
  Option.bind (P_impl_arePacked (x.1, x.2.1, ())) fun r => bif !r.1 then some none else
  Option.bind (P_Heap_box (x.1, ())) fun b => Option.bind (P_box_size (b.1, ())) fun n => Option.bind (P_Heap_free (x.1, ())) fun f =>
  bif decide (1 ≤ n.1) && (decide (n.1 ≤ 64) && decide (x.2.1.length ≤ 8)) then Option.bind (fillF run b.1 x.2.1 12 f.1 0 (List.replicate n.1.toNat (-1)) s0) fun y => some (some y.2.2) else none
theorem packF_some {σ : Type} {run : List Int → σ → Bool × σ} {s0 : σ} {h : D_Heap} {ps : List (List D_A3)} {o : Option σ} (hF : packF run s0 (h, ps, ()) = some o) :
    (P_impl_arePacked (h, ps, ()) = some (false, ()) ∧ o = none) ∨ ∃ b n fr x, P_impl_arePacked (h, ps, ()) = some (true, ()) ∧ P_Heap_box (h, ()) = some (b, ()) ∧ P_box_size (b, ()) = some (((n : Nat) : Int), ()) ∧ P_Heap_free (h, ()) = some (fr, ()) ∧ (1 ≤ n ∧ n ≤ 64) ∧ ps.length ≤ 8 ∧
      fillF run b ps 12 fr 0 (List.replicate n (-1)) s0 = some x ∧ o = some x.2.2 := by
  unfold packF at hF
  simp only at hF
  cases hp : P_impl_arePacked (h, ps, ()) with
  | none => rw [hp] at hF; cases hF
  | some r =>
    obtain ⟨r, ⟨⟩⟩ := r
    rw [hp] at hF
    cases r with
    | false => exact .inl ⟨rfl, (Option.some.inj hF).symm⟩
    | true =>
      simp only [Option.bind_some, Bool.not_true, cond_false] at hF
      cases hb : P_Heap_box (h, ()) with
      | none => rw [hb] at hF; cases hF
      | some b =>
        obtain ⟨b, ⟨⟩⟩ := b
        rw [hb] at hF
        simp only [Option.bind_some] at hF
        cases hn : P_box_size (b, ()) with
        | none => rw [hn] at hF; cases hF
        | some n =>
          obtain ⟨n, ⟨⟩⟩ := n
          rw [hn] at hF
          simp only [Option.bind_some] at hF
          cases hf : P_Heap_free (h, ()) with
          | none => rw [hf] at hF; cases hF
          | some f =>
            obtain ⟨f, ⟨⟩⟩ := f
            rw [hf] at hF
            simp only [Option.bind_some] at hF
            cases hd : (decide (1 ≤ n) && (decide (n ≤ 64) && decide (ps.length ≤ 8))) with
            | false => rw [hd] at hF; cases hF
            | true =>
              rw [hd] at hF
              simp only [cond_true] at hF
              simp only [Bool.and_eq_true, decide_eq_true_eq] at hd
              obtain ⟨n', rfl⟩ : ∃ n' : Nat, n = (n' : Int) := ⟨n.toNat, by omega⟩
              rw [show (n' : Int).toNat = n' from rfl] at hF
              cases hx : fillF run b ps 12 f 0 (List.replicate n' (-1)) s0 with
              | none => rw [hx] at hF; cases hF
              | some x =>
                rw [hx] at hF
                exact .inr ⟨b, n', f, x, rfl, rfl, hn, rfl, by omega, hd.2.2, hx, (Option.some.inj hF).symm⟩
noncomputable def countF (x : D_Heap × List (List D_A3) × Unit) : Option (Int × Bool × Unit) := Option.bind (packF (fun _ n => (true, wrap64 (n + 1))) 0 x) fun o => some (match o with | none => (0, false, ()) | some n => (n, true, ()))
noncomputable def firstF (x : D_Heap × List (List D_A3) × Unit) : Option (List Int × Bool × Unit) := Option.bind (packF (fun l _ => (false, some l)) none x) fun o => some (match o with | some (some l) => (l, true, ()) | _ => ([], false, ()))
theorem args2 {Z : Nat → Prop} {w : World} {h : D_Heap} {ps : List (List D_A3)} {vs : List Value} (hZ : ∀ g, Z g → g < w.heap.size) (hrel : RelArgs Tryz.prog GG Z w [.data true T_Heap, .data false (.sl (.sl T_A3))] (h, ps, ()) vs) :
    ∃ hv A c, vs = [hpV h hv, .slice A ps.length c] ∧ ArgH Z w h hv ∧ RepI Z w (.sl (.sl T_A3)) ps [.slice A ps.length c] := by
  obtain ⟨us, vs', rfl, _, hrep, us2, vs2, rfl, h0, hrep2, hn⟩ := hrel
  obtain rfl : vs2 = [] := hn
  obtain ⟨c1, c2, rfl, h1, c3, c4, rfl, h2, c5, c6, rfl, h3, c7, c8, rfl, h4, h5⟩ := hrep
  obtain rfl : c1 = [.int .i64 h.1] := h1
  obtain rfl : c3 = [.int .i64 h.2.1] := h2
  obtain rfl : c5 = [.int .i64 h.2.2.1] := h3
  obtain rfl : c8 = [] := h5
  have h4' := h4
  obtain ⟨A, c, rfl, _, _⟩ := h4
  have hrep2' := hrep2
  obtain ⟨A2, k2, rfl, _, _⟩ := hrep2
  exact ⟨_, A2, k2, rfl, ⟨hZ, h4'⟩, hrep2'⟩
theorem count_sound : Sound Tryz.prog GG 6 ⟨[.data true T_Heap, .data false (.sl (.sl T_A3))], [(false, .int .i64), (false, .bool)], [], countF⟩ := by
  intro w Z vs xs r _ hZ hrel hF
  obtain ⟨h, ps, ⟨⟩⟩ := xs
  obtain ⟨hv, A, c, rfl, ah, hps⟩ := args2 hZ hrel
  have hF' : countF (h, ps, ()) = some r := hF
  unfold countF at hF'
  cases ho : packF (fun _ n => (true, wrap64 (n + 1))) 0 (h, ps, ()) with
  | none => rw [ho] at hF'; cases hF'
  | some o =>
    rw [ho] at hF'
    simp only [Option.bind_some, Option.some.injEq] at hF'
    have key : ∀ n b, r = (n, b, ()) → Calls Tryz.prog 6 #[hpV h hv, .slice A ps.length c] w (fun e w' => e = .returned (.tuple #[.int .i64 n, .bool b]) ∧ Below w.heap.size w w') → FCalls Tryz.prog 6 #[hpV h hv, .slice A ps.length c] w fun v w' => ∃ Z' us, v = mkRes us ∧ Below w.heap.size w w' ∧ (∀ g, Z g → Z' g) ∧ (∀ g, Z' g → Z g ∨ (w.heap.size ≤ g ∧ g < w'.heap.size)) ∧
        ResRel Z' w' w.heap.size (avsOf [hpV h hv, .slice A ps.length c]) (resL [(false, .int .i64), (false, .bool)] r []) us := by
      rintro n b rfl hc
      refine Calls.fcalls (fn := Tryz.f6) Tryz.func6 rfl (by kernel_rfl) (hc.mono ?_)
      rintro e w' ⟨rfl, hb⟩
      refine ⟨_, rfl, Z, [.int .i64 n, .bool b], rfl, hb, fun g hg => hg, fun g hg => .inl hg, fun i _ => match i with | 0 => .int .i64 n | _ => .bool b, rfl, ?_, ?_⟩
      · intro i p hp
        match i, hp with
        | 0, hp =>
          obtain rfl := Option.some.inj hp
          refine ⟨rfl, fun _ => rfl, fun j rc hj => ?_⟩
          match j, hj with
          | 0, hj => obtain rfl := Option.some.inj hj; exact ⟨rfl, rfl⟩
        | 1, hp =>
          obtain rfl := Option.some.inj hp
          refine ⟨rfl, fun _ => rfl, fun j rc hj => ?_⟩
          match j, hj with
          | 0, hj => obtain rfl := Option.some.inj hj; exact ⟨rfl, rfl⟩
      · intro i j i' j' p p' rc rc' g hp hj ho hp' hj' ho' hg hg'
        match i, hp with
        | 0, hp => simp [Value.ownBlock] at hg
        | 1, hp => simp [Value.ownBlock] at hg
    rcases packF_some ho with ⟨hp, rfl⟩ | ⟨b, n, fr, x, hp, hb, hn, hf, h1, h8, hx, rfl⟩
    · exact key 0 false hF'.symm (count_no ah hps hp)
    · exact key x.2.2 true hF'.symm (count_yes ah hps h8 hp hb hn h1 hf hx)
theorem first_sound : Sound Tryz.prog GG 8 ⟨[.data true T_Heap, .data false (.sl (.sl T_A3))], [(false, .sl (.int .i64)), (false, .bool)], [.own 3], firstF⟩ := by
  intro w Z vs xs r _ hZ hrel hF
  obtain ⟨h, ps, ⟨⟩⟩ := xs
  obtain ⟨hv, A, c, rfl, ah, hps⟩ := args2 hZ hrel
  have hF' : firstF (h, ps, ()) = some r := hF
  unfold firstF at hF'
  cases ho : packF (fun l _ => (false, some l)) none (h, ps, ()) with
  | none => rw [ho] at hF'; cases hF'
  | some o =>
    rw [ho] at hF'
    simp only [Option.bind_some, Option.some.injEq] at hF'
    have key : ∀ l b, r = (l, b, ()) → Calls Tryz.prog 8 #[hpV h hv, .slice A ps.length c] w (fun e w' => ∃ v, e = .returned (.tuple #[v, .bool b]) ∧ Below w.heap.size w w' ∧ w'.ownsRow w.heap.size 3 1 v l.length (ints l)) → FCalls Tryz.prog 8 #[hpV h hv, .slice A ps.length c] w fun v w' => ∃ Z' us, v = mkRes us ∧ Below w.heap.size w w' ∧ (∀ g, Z g → Z' g) ∧ (∀ g, Z' g → Z g ∨ (w.heap.size ≤ g ∧ g < w'.heap.size)) ∧
        ResRel Z' w' w.heap.size (avsOf [hpV h hv, .slice A ps.length c]) (resL [(false, .sl (.int .i64)), (false, .bool)] r [.own 3]) us := by
      rintro l b rfl hc
      refine Calls.fcalls (fn := Tryz.f8) Tryz.func8 rfl (by kernel_rfl) (hc.mono ?_)
      rintro e w' ⟨v, rfl, hb, hr⟩
      refine ⟨_, rfl, Z, [v, .bool b], rfl, hb, fun g hg => hg, fun g hg => .inl hg, fun i _ => match i with | 0 => v | _ => .bool b, rfl, ?_, ?_⟩
      · intro i p hp
        match i, hp with
        | 0, hp =>
          obtain rfl := Option.some.inj hp
          refine ⟨rfl, fun _ => rfl, fun j rc hj => ?_⟩
          match j, hj with
          | 0, hj =>
            obtain rfl := Option.some.inj hj
            refine ⟨ownInts hr, fun g hg hz => ?_⟩
            have h1 := (hr.lt g hg).1
            have h2 := hZ g hz
            omega
        | 1, hp =>
          obtain rfl := Option.some.inj hp
          refine ⟨rfl, fun _ => rfl, fun j rc hj => ?_⟩
          match j, hj with
          | 0, hj => obtain rfl := Option.some.inj hj; exact ⟨rfl, rfl⟩
      · intro i j i' j' p p' rc rc' g hp hj ho hp' hj' ho' hg hg'
        match i, hp, i', hp' with
        | 0, hp, 0, hp' =>
          obtain rfl := Option.some.inj hp
          obtain rfl := Option.some.inj hp'
          match j, hj, j', hj' with
          | 0, _, 0, _ => exact ⟨rfl, rfl⟩
        | 1, hp, _, _ => simp [Value.ownBlock] at hg
        | 0, _, 1, _ => simp [Value.ownBlock] at hg'
    rcases packF_some ho with ⟨hp, rfl⟩ | ⟨b, n, fr, x, hp, hb, hn, hf, h1, h8, hx, rfl⟩
    · exact key [] false hF'.symm ((first_no ah hps hp).mono fun e w' h => ⟨_, h.1, h.2, rfl, .inl ⟨rfl, rfl⟩⟩)
    · have hy := first_yes ah hps h8 hp hb hn h1 hf hx
      obtain ⟨xb, xl, xs⟩ := x
      cases xs with
      | none => exact key [] false hF'.symm (hy.mono fun e w' h => ⟨_, h.1, h.2, rfl, .inl ⟨rfl, rfl⟩⟩)
      | some l => exact key l true hF'.symm (hy.mono fun e w' h => by obtain ⟨g, k, h1, h2, h3⟩ := h; exact ⟨_, h1, h2, h3⟩)
end Go.VI
