/- Plain: what acts make of heaps. -/
import Derived.Test.YtkiiaoekkppghaaPlN
import Derived.Test.YtkiiaoekkppghaaPlA
namespace Go.VI
open Go.Proofs

/-- Both say the same of a heap. -/
def Both (a b : Option (D_Heap × Bool × Unit)) : Prop := ∃ r : D_Heap × Bool × Unit, a = some r ∧ b = some r ∧ Small r.1.2.2.2.1

theorem small64 {l : List D_A3} (h : l.length ≤ 64) : Small l := by unfold Small; omega
theorem small_no : Small noHeap.2.2.2.1 := by unfold Small noHeap; simp

theorem app_len' {α : Type} {l : List α} {x : α} (h : l.length ≤ 100000000) : (decide ((l.length + ([x] : List α).length) * 24 ≤ 140737488355328) && decide (l.length + ([x] : List α).length ≤ 140737488355328)) = true := by
  rw [Bool.and_eq_true, decide_eq_true_eq, decide_eq_true_eq]
  simp only [List.length_singleton]
  omega

/-! ### A cube more, a cube less, other cells -/
theorem cell_eq (a c : D_A3) : (decide (a.1 = c.1) && (decide (a.2.1 = c.2.1) && (decide (a.2.2.1 = c.2.2.1) && true))) = decide (a = c) := by
  rw [Bool.eq_iff_iff, Bool.and_eq_true, Bool.and_eq_true, Bool.and_eq_true, decide_eq_true_eq, decide_eq_true_eq, decide_eq_true_eq, decide_eq_true_eq]
  constructor
  · rintro ⟨h1, h2, h3, _⟩; exact cell_ext h1 h2 h3
  · intro h; rw [← h]; exact ⟨rfl, rfl, rfl, rfl⟩

theorem l_without {X Y Z X' Y' Z' : Int} (l : List D_A3) (c : D_A3) (hl : l.length ≤ 3000000) : ∀ (d i m : Nat) (out : List D_A3), l.length = i + d → d < m → out.length ≤ i →
    l_spec_l2Without_3 m X Y Z l c.1 c.2.1 c.2.2.1 0 0 0 [] X' Y' Z' out (i : Int) = some ((X', Y', Z', out ++ (l.drop i).filter (fun x => !decide (x = c)), ()), ())
  | d, i, 0, out, _, h, _ => by omega
  | d, i, m + 1, out, hk, hm, ho => by
    rw [q_spec_l2Without_3]
    by_cases hlt : i < l.length
    · rw [ltT hlt, inB_at hlt, nthA (t := T_A3) hlt, cell_eq l[i] c, app_len' (by omega), drop_at l i hlt, succI i (by omega)]
      simp only [cond_true, List.filter_cons]
      by_cases e : l[i] = c
      · rw [decide_eq_true e]
        simp only [Bool.not_true, cond_false, Bool.false_eq_true, if_false]
        exact l_without l c hl (d - 1) (i + 1) m out (by omega) (by omega) (by omega)
      · rw [decide_eq_false e]
        simp only [Bool.not_false, cond_true, if_true]
        rw [l_without l c hl (d - 1) (i + 1) m _ (by omega) (by omega) (by simp; omega)]
        simp
    · rw [ltF hlt, List.drop_eq_nil_of_le (by omega)]
      simp

theorem f_without {X Y Z : Int} (l : List D_A3) (c : D_A3) (hl : l.length ≤ 3000000) : P_spec_l2Without ((X, Y, Z, l, ()), c, ()) = some ((X, Y, Z, l.filter (fun x => !decide (x = c)), ()), ()) := by
  have := l_without (X := X) (Y := Y) (Z := Z) (X' := X) (Y' := Y) (Z' := Z) l c hl l.length 0 N [] (by simp) (by have := N_ge; omega) (by simp)
  rw [p_spec_l2Without, p_spec_l2Empty]
  exact this

theorem setIs_less {X Y Z : Int} (hs : sides X Y Z = true) {l : List D_A3} (hi : Ins X Y Z l) {c : D_A3} (hw : within3 X Y Z c = true) : SetIs X Y Z (mask Y Z l 0 &&& ~~~(BitVec.twoPow 64 (idx Y Z c))) (fun x => decide (x ∈ l) && !decide (x = c)) := by
  refine ⟨low_and (low_mask hs hi), fun x hx => ?_⟩
  have h1 := (idx_eq hs hx).2.1
  have h2 := (idx_eq hs hx).2.2.1
  rw [BitVec.getLsbD_and, BitVec.getLsbD_not, BitVec.getLsbD_twoPow, mask_mem hs hi hx]
  have e : decide (idx Y Z c = idx Y Z x) = decide (x = c) := by
    rw [Bool.eq_iff_iff, decide_eq_true_eq, decide_eq_true_eq]
    exact ⟨fun h => (idx_inj hs hw hx h).symm, fun h => by rw [h]⟩
  have h3 := (idx_eq hs hw).2.1
  rw [e, decide_eq_true (p := idx Y Z x < 64) (by omega), decide_eq_true (p := idx Y Z c < 64) (by omega)]
  simp

theorem low_full {X Y Z : Int} (hs : sides X Y Z = true) : Low (X * Y * Z).toNat (fullBits (X * Y * Z).toNat) := fun i hi => by
  have := size64 hs
  rw [fullBits_bit (by omega)]; exact decide_eq_false (by omega)

theorem setIs_other {X Y Z : Int} (hs : sides X Y Z = true) {l : List D_A3} (hi : Ins X Y Z l) : SetIs X Y Z (fullBits (X * Y * Z).toNat &&& ~~~(mask Y Z l 0)) (fun c => !decide (c ∈ l)) := by
  refine ⟨low_and (low_full hs), fun c hc => ?_⟩
  have h64 := size64 hs
  have hi' := (idx_eq hs hc).2.1
  rw [BitVec.getLsbD_and, BitVec.getLsbD_not, fullBits_bit (by omega), mask_mem hs hi hc, decide_eq_true hi', decide_eq_true (p := idx Y Z c < 64) (by omega)]
  simp

/-! ### Cubes elsewhere -/
theorem moved_is {S1 S2 S3 : Int} (hS : sides S1 S2 S3 = true) {l l' : List D_A3} {g : D_A3 → D_A3} (hg : ∀ c ∈ l, within3 S1 S2 S3 (g c) = true) (hr : Srt l') (hm : ∀ c, c ∈ l' ↔ c ∈ l.map g) : bitCells S1 S2 S3 (mask S2 S3 (l.map g) 0) = l' := by
  have hi : Ins S1 S2 S3 (l.map g) := fun x hx => by
    obtain ⟨c, hc, rfl⟩ := List.mem_map.1 hx
    exact hg c hc
  refine (setIs_mask hS hi).cells hS hr fun c => ?_
  rw [hm, decide_eq_true_eq]
  exact ⟨fun h => ⟨hi c h, h⟩, fun h => h.2⟩

/-- A cell mirrored. -/
def mirC (X Y Z d : Int) (c : D_A3) : D_A3 := ((bif decide (d = 0) then X - 1 - c.1 else c.1), (bif decide (d = 1) then Y - 1 - c.2.1 else c.2.1), (bif decide (d = 2) then Z - 1 - c.2.2.1 else c.2.2.1), ())

theorem mirC_in {X Y Z d : Int} {c : D_A3} (hc : within3 X Y Z c = true) : within3 X Y Z (mirC X Y Z d c) = true := by
  rw [within3_iff] at hc ⊢
  unfold mirC
  simp only
  refine ⟨?_, ?_, ?_⟩
  · cases decide (d = 0) <;> simp <;> omega
  · cases decide (d = 1) <;> simp <;> omega
  · cases decide (d = 2) <;> simp <;> omega

theorem mir_text {X Y Z d : Int} (hs : sides X Y Z = true) (d0 : 0 ≤ d) (d1 : d ≤ 2) {c : D_A3} (hc : within3 X Y Z c = true) (A : D_A3) (hA : A = (X, Y, Z, ())) : (((bif decide (d = (0 : Int)) then (IntKind.wrap .i64 ((IntKind.wrap .i64 ((bif decide (d = (0 : Int)) then A.1 else (bif decide (d = (1 : Int)) then A.2.1 else A.2.2.1)) - 1)) - (bif decide (d = (0 : Int)) then c.1 else (bif decide (d = (1 : Int)) then c.2.1 else c.2.2.1)))) else c.1), ((bif decide (d = (1 : Int)) then (IntKind.wrap .i64 ((IntKind.wrap .i64 ((bif decide (d = (0 : Int)) then A.1 else (bif decide (d = (1 : Int)) then A.2.1 else A.2.2.1)) - 1)) - (bif decide (d = (0 : Int)) then c.1 else (bif decide (d = (1 : Int)) then c.2.1 else c.2.2.1)))) else c.2.1), ((bif decide (d = (2 : Int)) then (IntKind.wrap .i64 ((IntKind.wrap .i64 ((bif decide (d = (0 : Int)) then A.1 else (bif decide (d = (1 : Int)) then A.2.1 else A.2.2.1)) - 1)) - (bif decide (d = (0 : Int)) then c.1 else (bif decide (d = (1 : Int)) then c.2.1 else c.2.2.1)))) else c.2.2.1), ()))) : D_A3) = mirC X Y Z d c := by
  subst hA
  have s := sides_iff.1 hs
  have w := within3_iff.1 hc
  have e : ∀ S x : Int, 1 ≤ S → S ≤ 4 → 0 ≤ x → x ≤ 4 → IntKind.wrap .i64 (IntKind.wrap .i64 (S - 1) - x) = S - 1 - x := fun S x h1 h2 h3 h4 => by rw [w64 (x := S - 1) (by omega) (by omega), w64 (by omega) (by omega)]
  have e1 := e X c.1 (by omega) (by omega) (by omega) (by omega)
  have e2 := e Y c.2.1 (by omega) (by omega) (by omega) (by omega)
  have e3 := e Z c.2.2.1 (by omega) (by omega) (by omega) (by omega)
  rcases dir d0 d1 with rfl | rfl | rfl <;> simp [mirC, e1, e2, e3]

theorem isDir (d : Int) : P_impl_isDirection (d, ()) = some (decide (0 ≤ d) && decide (d ≤ 2), ()) := by
  rw [p_impl_isDirection, f_impl_within]
  rfl

/-- Two directions exchanged. -/
def swC (a b : Int) (c : D_A3) : D_A3 := ((bif decide (b = 0) then get3 c a else (bif decide (a = 0) then get3 c b else c.1)), (bif decide (b = 1) then get3 c a else (bif decide (a = 1) then get3 c b else c.2.1)), (bif decide (b = 2) then get3 c a else (bif decide (a = 2) then get3 c b else c.2.2.1)), ())

theorem sw_sides {X Y Z a b : Int} (hs : sides X Y Z = true) (a0 : 0 ≤ a) (a1 : a ≤ 2) (b0 : 0 ≤ b) (b1 : b ≤ 2) : sides (swC a b (X, Y, Z, ())).1 (swC a b (X, Y, Z, ())).2.1 (swC a b (X, Y, Z, ())).2.2.1 = true := by
  rw [sides_iff] at hs ⊢
  rcases dir a0 a1 with rfl | rfl | rfl <;> rcases dir b0 b1 with rfl | rfl | rfl <;> simp [swC, get3] <;> omega

theorem sw_in {X Y Z a b : Int} (a0 : 0 ≤ a) (a1 : a ≤ 2) (b0 : 0 ≤ b) (b1 : b ≤ 2) {c : D_A3} (hc : within3 X Y Z c = true) : within3 (swC a b (X, Y, Z, ())).1 (swC a b (X, Y, Z, ())).2.1 (swC a b (X, Y, Z, ())).2.2.1 (swC a b c) = true := by
  rw [within3_iff] at hc ⊢
  rcases dir a0 a1 with rfl | rfl | rfl <;> rcases dir b0 b1 with rfl | rfl | rfl <;> simp [swC, get3] <;> omega

end Go.VI
/- Plain: dropped heaps. -/
namespace Go.VI
open Go.Proofs

def lineI (Y : Int) (c : D_A3) : Int := c.1 * Y + c.2.1

theorem line_ok {X Y Z : Int} (hs : sides X Y Z = true) {c : D_A3} (hc : within3 X Y Z c = true) : 0 ≤ lineI Y c ∧ lineI Y c < X * Y ∧ 0 ≤ c.1 * Y ∧ c.1 * Y ≤ 16 := by
  have s := sides_iff.1 hs
  have w := within3_iff.1 hc
  unfold lineI
  rcases four s.1.1 s.1.2 with rfl | rfl | rfl | rfl <;> rcases four s.2.1.1 s.2.1.2 with rfl | rfl | rfl | rfl <;> omega

/-- One cube more in its column. -/
def upL (Y : Int) (acc : List Int) (c : D_A3) : List Int := List.set acc (Int.toNat (lineI Y c)) (IntKind.wrap .i64 ((nth ((.int .i64) : Ty) acc (lineI Y c)) + 1))

theorem inB_line {X Y Z : Int} (hs : sides X Y Z = true) {c : D_A3} (hc : within3 X Y Z c = true) {acc : List Int} (ha : acc.length = (X * Y).toNat) : inB (lineI Y c) acc.length = true := by
  obtain ⟨h1, h2, h3, h4⟩ := line_ok hs hc
  unfold inB
  rw [Bool.and_eq_true, decide_eq_true_eq, decide_eq_true_eq]
  omega

theorem upL_len {Y : Int} {acc : List Int} {c : D_A3} : (upL Y acc c).length = acc.length := by simp [upL]

/-- How many cubes each column has. -/
def cols (X Y : Int) (l : List D_A3) : List Int := l.foldl (upL Y) (List.replicate (X * Y).toNat 0)

theorem foldl_upL_len (Y : Int) : ∀ (l : List D_A3) (acc : List Int), (l.foldl (upL Y) acc).length = acc.length
  | [], _ => rfl
  | c :: l, acc => by rw [List.foldl_cons, foldl_upL_len Y l, upL_len]

theorem cols_len (X Y : Int) (l : List D_A3) : (cols X Y l).length = (X * Y).toNat := by
  unfold cols
  rw [foldl_upL_len, List.length_replicate]

theorem guardN {n : Int} (h0 : 0 ≤ n) (h1 : n ≤ 1000) : (decide ((0 : Int) ≤ n) && decide (n ≤ n) && decide (n * ((8 : Nat) : Int) ≤ 140737488355328) && decide (n ≤ 140737488355328)) = true := by
  rw [decide_eq_true h0, decide_eq_true (Int.le_refl n), decide_eq_true (p := n * ((8 : Nat) : Int) ≤ 140737488355328) (by omega), decide_eq_true (p := n ≤ 140737488355328) (by omega)]
  rfl

/-- Is a cell below the top of its column? -/
def lowC (Y : Int) (V : List Int) (c : D_A3) : Bool := decide (c.2.2.1 < nth ((.int .i64) : Ty) V (lineI Y c))

end Go.VI
/- Plain: parts of heaps, and what stands. -/
namespace Go.VI
open Go.Proofs

/-! ### Near cubes -/
def ab (x y : Int) : Int := if x - y > y - x then x - y else y - x

theorem most_ab (x y : Int) : P_spec_l1Most (x - y, y - x, ()) = some (ab x y, ()) := by
  rw [p_spec_l1Most]
  unfold ab
  by_cases h : x - y > y - x <;> simp [h]

theorem f_apart (a b : D_A3) (ha : Near a) (hb : Near b) : P_spec_l2Apart (a, b, ()) = some (ab a.1 b.1 + ab a.2.1 b.2.1 + ab a.2.2.1 b.2.2.1, ()) := by
  obtain ⟨n, hn⟩ : ∃ n, N = n + 4 := ⟨N - 4, by have := N_ge; omega⟩
  unfold Near at ha hb
  have bd : ∀ x y : Int, -1000 ≤ x → x ≤ 1000 → -1000 ≤ y → y ≤ 1000 → 0 ≤ ab x y ∧ ab x y ≤ 2000 := fun x y h1 h2 h3 h4 => by unfold ab; split <;> omega
  obtain ⟨x0, x1⟩ := bd a.1 b.1 (by omega) (by omega) (by omega) (by omega)
  obtain ⟨y0, y1⟩ := bd a.2.1 b.2.1 (by omega) (by omega) (by omega) (by omega)
  obtain ⟨z0, z1⟩ := bd a.2.2.1 b.2.2.1 (by omega) (by omega) (by omega) (by omega)
  have wr : ∀ x y : Int, -1000 ≤ x → x ≤ 1000 → -1000 ≤ y → y ≤ 1000 → IntKind.wrap .i64 (x - y) = x - y := fun x y h1 h2 h3 h4 => w64 (by omega) (by omega)
  have s : ∀ (m : Nat) (v x y : Int) (k : Nat), k < 3 → (bif decide ((k : Int) = (0 : Int)) then a.1 else (bif decide ((k : Int) = (1 : Int)) then a.2.1 else a.2.2.1)) = x → (bif decide ((k : Int) = (0 : Int)) then b.1 else (bif decide ((k : Int) = (1 : Int)) then b.2.1 else b.2.2.1)) = y → -1000 ≤ x → x ≤ 1000 → -1000 ≤ y → y ≤ 1000 → 0 ≤ v → v ≤ 100000 →
      l_spec_l2Apart_3 (m + 1) a.1 a.2.1 a.2.2.1 b.1 b.2.1 b.2.2.1 v (k : Int) = l_spec_l2Apart_3 m a.1 a.2.1 a.2.2.1 b.1 b.2.1 b.2.2.1 (v + ab x y) ((k + 1 : Nat) : Int) := by
    intro m v x y k hk hx hy h1 h2 h3 h4 h5 h6
    obtain ⟨b0, b1⟩ := bd x y h1 h2 h3 h4
    rw [q_spec_l2Apart_3, decide_eq_true (p := (k : Int) < 3) (by omega), inB_at (k := k) (n := 3) hk, hx, hy, wr x y h1 h2 h3 h4, wr y x h3 h4 h1 h2, most_ab, succI k (by omega)]
    simp only [cond_true, Option.bind_some]
    rw [w64 (by omega) (by omega)]
  have fin : ∀ (m : Nat) (v : Int), l_spec_l2Apart_3 (m + 1) a.1 a.2.1 a.2.2.1 b.1 b.2.1 b.2.2.1 v ((3 : Nat) : Int) = some (v, ()) := by
    intro m v; rw [q_spec_l2Apart_3]; rfl
  rw [p_spec_l2Apart]
  show l_spec_l2Apart_3 N a.1 a.2.1 a.2.2.1 b.1 b.2.1 b.2.2.1 0 ((0 : Nat) : Int) = _
  rw [hn, s (n + 3) 0 a.1 b.1 0 (by omega) rfl rfl (by omega) (by omega) (by omega) (by omega) (by omega) (by omega), s (n + 2) _ a.2.1 b.2.1 1 (by omega) rfl rfl (by omega) (by omega) (by omega) (by omega) (by omega) (by omega), s (n + 1) _ a.2.2.1 b.2.2.1 2 (by omega) rfl rfl (by omega) (by omega) (by omega) (by omega) (by omega) (by omega), fin]
  congr 2
  omega

theorem apart_nb (a c : D_A3) : ab a.1 c.1 + ab a.2.1 c.2.1 + ab a.2.2.1 c.2.2.1 = 1 ↔ nb c a := by
  rw [nb_iff]
  unfold ab
  constructor
  · intro h
    split at h <;> split at h <;> split at h <;> omega
  · intro h
    split <;> split <;> split <;> omega

theorem l_near {X Y Z : Int} {l : List D_A3} (hl : l.length ≤ 1000000) (hn : ∀ c ∈ l, Near c) {c : D_A3} (hc : Near c) (p : D_A3 → Bool) (hp : ∀ x, p x = true ↔ nb c x) : ∀ (d i m : Nat) (out : List D_A3), l.length = i + d → d < m → out.length ≤ i →
    l_spec_l2Near_3 m X Y Z l c.1 c.2.1 c.2.2.1 out (i : Int) = some (out ++ (l.drop i).filter p, ())
  | d, i, 0, out, _, h, _ => by omega
  | d, i, m + 1, out, hk, hm, ho => by
    rw [q_spec_l2Near_3]
    by_cases hlt : i < l.length
    · have e := f_apart l[i] c (hn _ (List.getElem_mem hlt)) hc
      have e' : P_spec_l2Apart (l[i], (c.1, (c.2.1, (c.2.2.1, ()))), ()) = _ := e
      rw [ltT hlt, inB_at hlt, nthA (t := T_A3) hlt, e', app_len' (by omega), drop_at l i hlt, succI i (by omega)]
      simp only [cond_true, Option.bind_some, List.filter_cons]
      by_cases h : nb c l[i]
      · rw [decide_eq_true ((apart_nb l[i] c).2 h), (hp _).2 h]
        simp only [cond_true, if_true]
        rw [l_near hl hn hc p hp (d - 1) (i + 1) m _ (by omega) (by omega) (by simp; omega)]
        simp
      · have hpf : p l[i] = false := by
          cases hb : p l[i] with
          | false => rfl
          | true => exact absurd ((hp _).1 hb) h
        rw [decide_eq_false (fun hh => h ((apart_nb l[i] c).1 hh)), hpf]
        simp only [cond_false, Bool.false_eq_true, if_false]
        exact l_near hl hn hc p hp (d - 1) (i + 1) m out (by omega) (by omega) (by omega)
    · rw [ltF hlt, List.drop_eq_nil_of_le (by omega)]
      simp

open Classical in
/-- Is a cell a neighbor? -/
noncomputable def nbB (c x : D_A3) : Bool := decide (nb c x)
open Classical in
theorem nbB_iff (c x : D_A3) : nbB c x = true ↔ nb c x := by simp [nbB]

theorem f_nearL {X Y Z : Int} {l : List D_A3} (hl : l.length ≤ 1000000) (hn : ∀ c ∈ l, Near c) {c : D_A3} (hc : Near c) : P_spec_l2Near ((X, Y, Z, l, ()), c, ()) = some (l.filter (nbB c), ()) := by
  have := l_near (X := X) (Y := Y) (Z := Z) hl hn hc (nbB c) (nbB_iff c) l.length 0 N [] (by simp) (by have := N_ge; omega) (by simp)
  rw [p_spec_l2Near]
  exact this

/-! ### One part -/
def Conn (l : List D_A3) (c0 : D_A3) : D_A3 → Prop := Rch (fun c => c = c0) (fun c => c ∈ l)

theorem Conn.mem {l : List D_A3} {c0 c : D_A3} (h0 : c0 ∈ l) (h : Conn l c0 c) : c ∈ l := by
  cases h with
  | base h => rw [h]; exact h0
  | step _ _ h => exact h

theorem Conn.trans {l : List D_A3} {a b c : D_A3} (h : Conn l a b) (k : Conn l b c) : Conn l a c :=
  Rch.mono (p := fun x => x = b) (fun x hx => by rw [hx]; exact h) (fun _ h => h) k

theorem Conn.symm {l : List D_A3} {a b : D_A3} (ha : a ∈ l) (h : Conn l a b) : Conn l b a := by
  induction h with
  | base h => exact .base h.symm
  | step hr hn hd ih =>
    rename_i c d
    have hc : c ∈ l := Conn.mem ha hr
    exact Conn.trans (.step (.base rfl) (nb_symm hn) hc) ih

/-- A part is being gathered: what is left, the list, what is put together; n cells are done. -/
structure Part (l L0 : List D_A3) (c0 : D_A3) (n np : Nat) (ls lf pt : List D_A3) : Prop where
  srt : Srt lf
  sub : ∀ c ∈ lf, c ∈ L0
  lsub : ∀ c ∈ ls, c ∈ L0
  all : ∀ c ∈ L0, c ∈ ls ∨ c ∈ lf
  apart : ∀ c ∈ ls, c ∉ lf
  conn : ∀ c ∈ ls, Conn l c0 c
  done : ∀ i, i < n → ∀ c, ls[i]? = some c → ∀ d, nb c d → d ∉ lf
  psrt : Srt pt
  pmem : ∀ c, c ∈ pt ↔ c ∈ ls.take np
  nodup : ls.Nodup
  start : c0 ∈ ls

theorem Part.len {l L0 : List D_A3} {c0 : D_A3} {n np : Nat} {ls lf pt : List D_A3} (h : Part l L0 c0 n np ls lf pt) (hr : Srt L0) : ls.length + lf.length = L0.length := by
  have hp : L0.Perm (ls ++ lf) := by
    refine (List.perm_ext_iff_of_nodup hr.nodup ?_).2 fun c => ?_
    · rw [List.nodup_append]
      exact ⟨h.nodup, h.srt.nodup, fun a ha b hb e => h.apart a ha (e ▸ hb)⟩
    · rw [List.mem_append]
      exact ⟨h.all c, fun hc => hc.elim (h.lsub c) (h.sub c)⟩
  rw [hp.length_eq, List.length_append]

/-- One near cell is taken over. -/
theorem Part.take {l L0 : List D_A3} {c0 : D_A3} {n np : Nat} {ls lf pt : List D_A3} (hl : ∀ c ∈ L0, c ∈ l) (h : Part l L0 c0 n np ls lf pt) {c x : D_A3} (hcl : c ∈ ls) (hx : x ∈ lf) (hn : nb c x) (hnp : np ≤ ls.length) (hpt : n ≤ ls.length) :
    Part l L0 c0 n np (ls ++ [x]) (lf.filter fun y => !decide (y = x)) pt := by
  have hxl : x ∉ ls := fun hh => h.apart x hh hx
  refine ⟨h.srt.filter _, fun y hy => h.sub y (List.mem_filter.1 hy).1, fun y hy => ?_, fun y hy => ?_, fun y hy => ?_, fun y hy => ?_, fun i hi y hy d hd => ?_, h.psrt, fun y => ?_, ?_, List.mem_append_left _ h.start⟩
  · rcases List.mem_append.1 hy with hy | hy
    · exact h.lsub y hy
    · rw [List.mem_singleton.1 hy]; exact h.sub x hx
  · rcases h.all y hy with hy | hy
    · exact .inl (List.mem_append_left _ hy)
    · by_cases e : y = x
      · exact .inl (by rw [e]; simp)
      · exact .inr (List.mem_filter.2 ⟨hy, by simp [e]⟩)
  · intro hh
    have hh' := List.mem_filter.1 hh
    rcases List.mem_append.1 hy with hy | hy
    · exact h.apart y hy hh'.1
    · rw [List.mem_singleton.1 hy] at hh'
      simp at hh'
  · rcases List.mem_append.1 hy with hy | hy
    · exact h.conn y hy
    · rw [List.mem_singleton.1 hy]
      exact .step (h.conn c hcl) hn (hl x (h.sub x hx))
  · rw [List.getElem?_append_left (by omega)] at hy
    exact fun hh => h.done i hi y hy d hd (List.mem_filter.1 hh).1
  · rw [h.pmem, List.take_append_of_le_length (by omega)]
  · rw [List.nodup_append]
    exact ⟨h.nodup, (by simp), fun a ha b hb e => hxl (by rw [← List.mem_singleton.1 hb, ← e]; exact ha)⟩
end Go.VI
/- Plain: pieces behind cuts, as the reference finds them. -/
namespace Go.VI
open Go.Proofs

/-- Do two cells lie on the same sides of all cuts? -/
def same (cuts : List D_A2) (a b : D_A3) : Bool := cuts.all fun t => decide (get3 a t.1 < t.2.1) == decide (get3 b t.1 < t.2.1)

theorem same_iff {cuts : List D_A2} {a b : D_A3} : same cuts a b = true ↔ ∀ t ∈ cuts, (get3 a t.1 < t.2.1 ↔ get3 b t.1 < t.2.1) := by
  unfold same
  rw [List.all_eq_true]
  constructor
  · intro h t ht
    have := h t ht
    rw [beq_iff_eq, decide_eq_decide] at this
    exact this
  · intro h t ht
    rw [beq_iff_eq, decide_eq_decide]
    exact h t ht

theorem same_refl (cuts : List D_A2) (a : D_A3) : same cuts a a = true := same_iff.2 fun _ _ => Iff.rfl
theorem same_symm {cuts : List D_A2} {a b : D_A3} (h : same cuts a b = true) : same cuts b a = true := same_iff.2 fun t ht => (same_iff.1 h t ht).symm
theorem same_trans {cuts : List D_A2} {a b c : D_A3} (h : same cuts a b = true) (k : same cuts b c = true) : same cuts a c = true := same_iff.2 fun t ht => (same_iff.1 h t ht).trans (same_iff.1 k t ht)

def Dirs (cuts : List D_A2) : Prop := ∀ t ∈ cuts, 0 ≤ t.1 ∧ t.1 ≤ 2

theorem l_parted11 (cuts : List D_A2) (hd : Dirs cuts) (hl : cuts.length ≤ 1000) (a b : D_A3) : ∀ (d k m : Nat), cuts.length = k + d → d < m → l_spec_l11Parted_2 m a.1 a.2.1 a.2.2.1 b.1 b.2.1 b.2.2.1 cuts (k : Int) = some (!same (cuts.drop k) a b, ())
  | d, k, 0, _, h => by omega
  | d, k, m + 1, hk, hm => by
    rw [q_spec_l11Parted_2]
    by_cases hlt : k < cuts.length
    · have hdk := hd _ (List.getElem_mem hlt)
      rw [ltT hlt, inB_at hlt, nthA (t := T_A2) hlt, inB_dir hdk.1 hdk.2, succI k (by omega), l_parted11 cuts hd hl a b (d - 1) (k + 1) m (by omega) (by omega), drop_at cuts k hlt]
      simp only [cond_true]
      have e : same (cuts[k] :: cuts.drop (k + 1)) a b = ((decide (get3 a cuts[k].1 < cuts[k].2.1) == decide (get3 b cuts[k].1 < cuts[k].2.1)) && same (cuts.drop (k + 1)) a b) := rfl
      rw [e]
      show (bif !(decide (get3 a cuts[k].1 < cuts[k].2.1) == decide (get3 b cuts[k].1 < cuts[k].2.1)) then some (true, ()) else _) = _
      cases (decide (get3 a cuts[k].1 < cuts[k].2.1) == decide (get3 b cuts[k].1 < cuts[k].2.1)) <;> rfl
    · rw [ltF hlt, List.drop_eq_nil_of_le (by omega)]
      rfl

theorem f_parted11 (cuts : List D_A2) (hd : Dirs cuts) (hl : cuts.length ≤ 1000) (a b : D_A3) : P_spec_l11Parted (cuts, a, b, ()) = some (!same cuts a b, ()) := by
  rw [p_spec_l11Parted]
  exact l_parted11 cuts hd hl a b cuts.length 0 N (by simp) (by have := N_ge; omega)

/-- What is reached on one side of all cuts. -/
def ConnS (cuts : List D_A2) (l : List D_A3) (c0 : D_A3) : D_A3 → Prop := Rch (fun c => c = c0) (fun c => c ∈ l ∧ same cuts c0 c = true)

theorem ConnS.mem {cuts : List D_A2} {l : List D_A3} {c0 c : D_A3} (h0 : c0 ∈ l) (h : ConnS cuts l c0 c) : c ∈ l := by
  cases h with
  | base h => rw [h]; exact h0
  | step _ _ h => exact h.1

theorem ConnS.same {cuts : List D_A2} {l : List D_A3} {c0 c : D_A3} (h : ConnS cuts l c0 c) : same cuts c0 c = true := by
  cases h with
  | base h => rw [h]; exact same_refl _ _
  | step _ _ h => exact h.2

theorem ConnS.conn {cuts : List D_A2} {l : List D_A3} {c0 c : D_A3} (h : ConnS cuts l c0 c) : Conn l c0 c := Rch.mono (fun _ hx => .base hx) (fun _ hx => hx.1) h

/-- A piece is being gathered. -/
structure PartS (cuts : List D_A2) (l L0 : List D_A3) (c0 : D_A3) (n np : Nat) (ls lf pt : List D_A3) : Prop where
  srt : Srt lf
  sub : ∀ c ∈ lf, c ∈ L0
  lsub : ∀ c ∈ ls, c ∈ L0
  all : ∀ c ∈ L0, c ∈ ls ∨ c ∈ lf
  apart : ∀ c ∈ ls, c ∉ lf
  conn : ∀ c ∈ ls, ConnS cuts l c0 c
  done : ∀ i, i < n → ∀ c, ls[i]? = some c → ∀ d, nb c d → same cuts c d = true → d ∉ lf
  psrt : Srt pt
  pmem : ∀ c, c ∈ pt ↔ c ∈ ls.take np
  nodup : ls.Nodup
  start : c0 ∈ ls

theorem PartS.len {cuts : List D_A2} {l L0 : List D_A3} {c0 : D_A3} {n np : Nat} {ls lf pt : List D_A3} (h : PartS cuts l L0 c0 n np ls lf pt) (hr : Srt L0) : ls.length + lf.length = L0.length := by
  have hp : L0.Perm (ls ++ lf) := by
    refine (List.perm_ext_iff_of_nodup hr.nodup ?_).2 fun c => ?_
    · rw [List.nodup_append]
      exact ⟨h.nodup, h.srt.nodup, fun a ha b hb e => h.apart a ha (e ▸ hb)⟩
    · rw [List.mem_append]
      exact ⟨h.all c, fun hc => hc.elim (h.lsub c) (h.sub c)⟩
  rw [hp.length_eq, List.length_append]

theorem PartS.take {cuts : List D_A2} {l L0 : List D_A3} {c0 : D_A3} {n np : Nat} {ls lf pt : List D_A3} (hl : ∀ c ∈ L0, c ∈ l) (h : PartS cuts l L0 c0 n np ls lf pt) {c x : D_A3} (hcl : c ∈ ls) (hx : x ∈ lf) (hn : nb c x) (hsm : same cuts c x = true) (hnp : np ≤ ls.length) (hpt : n ≤ ls.length) :
    PartS cuts l L0 c0 n np (ls ++ [x]) (lf.filter fun y => !decide (y = x)) pt := by
  have hxl : x ∉ ls := fun hh => h.apart x hh hx
  refine ⟨h.srt.filter _, fun y hy => h.sub y (List.mem_filter.1 hy).1, fun y hy => ?_, fun y hy => ?_, fun y hy => ?_, fun y hy => ?_, fun i hi y hy d hd hs => ?_, h.psrt, fun y => ?_, ?_, List.mem_append_left _ h.start⟩
  · rcases List.mem_append.1 hy with hy | hy
    · exact h.lsub y hy
    · rw [List.mem_singleton.1 hy]; exact h.sub x hx
  · rcases h.all y hy with hy | hy
    · exact .inl (List.mem_append_left _ hy)
    · by_cases e : y = x
      · exact .inl (by rw [e]; simp)
      · exact .inr (List.mem_filter.2 ⟨hy, by simp [e]⟩)
  · intro hh
    have hh' := List.mem_filter.1 hh
    rcases List.mem_append.1 hy with hy | hy
    · exact h.apart y hy hh'.1
    · rw [List.mem_singleton.1 hy] at hh'
      simp at hh'
  · rcases List.mem_append.1 hy with hy | hy
    · exact h.conn y hy
    · rw [List.mem_singleton.1 hy]
      exact .step (h.conn c hcl) hn ⟨hl x (h.sub x hx), same_trans (h.conn c hcl).same hsm⟩
  · intro hh
    have hh' := List.mem_filter.1 hh
    rw [List.getElem?_append_left (by omega)] at hy
    exact h.done i hi y hy d hd hs hh'.1
  · rw [h.pmem, List.take_append_of_le_length hnp]
  · rw [List.nodup_append]
    exact ⟨h.nodup, by simp, fun a ha b hb e => hxl (by rw [← List.mem_singleton.1 hb, ← e]; exact ha)⟩

theorem l_k11 {X Y Z : Int} {cuts : List D_A2} (hdr : Dirs cuts) (hcl : cuts.length ≤ 1000) {l L0 lf0 nr pt : List D_A3} {c0 c : D_A3} {n : Nat} (hl : ∀ x ∈ L0, x ∈ l) (hL : Srt L0) (h64 : L0.length ≤ 64) (hnr : nr.Nodup) (hc : ∀ x ∈ nr, nb c x) (hlen : nr.length ≤ 64) (ps : List (List D_A3)) (m0 m1 : Nat) :
    ∀ (d k m : Nat) (ls lf : List D_A3), nr.length = k + d → d < m → PartS cuts l L0 c0 n (n + 1) ls lf pt → ls[n]? = some c → (∀ x ∈ lf, x ∈ lf0) → (∀ x ∈ nr.take k, same cuts c x = true → x ∉ lf) → (∀ x ∈ nr.drop k, x ∈ lf) →
    ∃ ls' lf', l_spec_l11Pieces_11 m0 m1 m X Y Z l X Y Z lf X Y Z pt cuts ps ls (n : Int) nr (k : Int) = l_spec_l11Pieces_6 m0 m1 X Y Z l X Y Z lf' X Y Z pt cuts ps ls' ((n + 1 : Nat) : Int) ∧ PartS cuts l L0 c0 n (n + 1) ls' lf' pt ∧ (∀ x ∈ lf', x ∈ lf0) ∧ (∀ x ∈ nr, same cuts c x = true → x ∉ lf') ∧ ls'[n]? = some c
  | d, k, 0, ls, lf, _, h, _, _, _, _, _ => by omega
  | d, k, m + 1, ls, lf, hk, hm, hP, hn, h0, h1, h2 => by
    have hle := hP.len hL
    have hlt0 : n < ls.length := (List.getElem?_eq_some_iff.1 hn).1
    have hcn : ls[n] = c := by rw [List.getElem?_eq_getElem hlt0] at hn; exact Option.some.inj hn
    rw [q_spec_l11Pieces_11]
    by_cases hlt : k < nr.length
    · rw [ltT hlt, inB_at hlt0, inB_at hlt, nthA (t := T_A3) hlt, nthA (t := T_A3) hlt0, hcn, f_parted11 cuts hdr hcl, succI k (by omega)]
      simp only [cond_true, Option.bind_some, Bool.not_not]
      have hd : nr.drop k = nr[k] :: nr.drop (k + 1) := drop_at nr k hlt
      have hnd : (nr.drop k).Nodup := hnr.sublist (List.drop_sublist k nr)
      rw [hd] at hnd
      cases hsm : same cuts c nr[k] with
      | true =>
        rw [app_len' (by omega), f_without lf nr[k] (by omega)]
        simp only [cond_true, Option.bind_some]
        have hx : nr[k] ∈ lf := h2 _ (by rw [hd]; exact List.mem_cons_self ..)
        have hP' := hP.take hl (List.mem_of_getElem? hn) hx (hc _ (List.getElem_mem hlt)) hsm (by omega) (by omega)
        refine l_k11 hdr hcl hl hL h64 hnr hc hlen ps m0 m1 (d - 1) (k + 1) m _ _ (by omega) (by omega) hP' (by rw [List.getElem?_append_left hlt0]; exact hn) (fun x hx => h0 x (List.mem_filter.1 hx).1) (fun x hx hs hh => ?_) (fun x hx => ?_)
        · rw [List.take_add_one, List.getElem?_eq_getElem hlt] at hx
          have hh' := List.mem_filter.1 hh
          rcases List.mem_append.1 hx with hx | hx
          · exact h1 x hx hs hh'.1
          · rw [show x = nr[k] by simpa using hx] at hh'
            simp at hh'
        · have hne : x ≠ nr[k] := fun e => (List.nodup_cons.1 hnd).1 (e ▸ hx)
          exact List.mem_filter.2 ⟨h2 x (by rw [hd]; exact List.mem_cons_of_mem _ hx), by simp [hne]⟩
      | false =>
        simp only [cond_false]
        refine l_k11 hdr hcl hl hL h64 hnr hc hlen ps m0 m1 (d - 1) (k + 1) m ls lf (by omega) (by omega) hP hn h0 (fun x hx hs hh => ?_) (fun x hx => h2 x (by rw [hd]; exact List.mem_cons_of_mem _ hx))
        rw [List.take_add_one, List.getElem?_eq_getElem hlt] at hx
        rcases List.mem_append.1 hx with hx | hx
        · exact h1 x hx hs hh
        · rw [show x = nr[k] by simpa using hx, hsm] at hs
          cases hs
    · rw [ltF hlt, succI n (by omega)]
      refine ⟨ls, lf, rfl, hP, h0, fun x hx => h1 x (by rw [List.take_of_length_le (by omega)]; exact hx), hn⟩

theorem l_k6 {X Y Z : Int} {cuts : List D_A2} (hdr : Dirs cuts) (hcl : cuts.length ≤ 1000) {l L0 : List D_A3} {c0 : D_A3} (hs : sides X Y Z = true) (hi : Ins X Y Z l) (hl : ∀ x ∈ L0, x ∈ l) (hL : Srt L0) (h64 : L0.length ≤ 64) (ps : List (List D_A3)) (hps : ps.length ≤ 1000) (m0 : Nat) :
    ∀ (d n m : Nat) (ls lf pt : List D_A3), L0.length = n + d → d < m → PartS cuts l L0 c0 n n ls lf pt → n ≤ ls.length →
    ∃ ls' lf' pt', l_spec_l11Pieces_6 m0 m X Y Z l X Y Z lf X Y Z pt cuts ps ls (n : Int) = l_spec_l11Pieces_2 m0 X Y Z l X Y Z lf' cuts (ps ++ [pt']) ∧ PartS cuts l L0 c0 ls'.length ls'.length ls' lf' pt'
  | d, n, 0, ls, lf, pt, _, h, _, _ => by omega
  | d, n, m + 1, ls, lf, pt, hk, hm, hP, hn => by
    have hle := hP.len hL
    rw [q_spec_l11Pieces_6]
    by_cases hlt : n < ls.length
    · have hcm : ls[n] ∈ ls := List.getElem_mem hlt
      have hin : ∀ x ∈ L0, Near x := fun x hx => near_of hs (hi x (hl x hx))
      have hptl : pt.length ≤ 64 := srt_small64 hs (fun x hx => hi x (hl x (hP.lsub x (List.mem_of_mem_take ((hP.pmem x).1 hx))))) hP.psrt
      obtain ⟨pt', g1, g2, g3, g4⟩ := f_l2With (X := X) (Y := Y) (Z := Z) hP.psrt ls[n] (by omega)
      rw [ltT hlt, inB_at hlt, nthA (t := T_A3) hlt, g1, f_nearL (X := X) (Y := Y) (Z := Z) (l := lf) (by omega) (fun x hx => hin x (hP.sub x hx)) (hin _ (hP.lsub _ hcm))]
      simp only [cond_true, Option.bind_some]
      have hpm : ∀ x, x ∈ pt' ↔ x ∈ ls.take (n + 1) := fun x => by
        rw [g3, hP.pmem, List.take_add_one, List.getElem?_eq_getElem hlt, List.mem_append]
        simp only [Option.toList_some, List.mem_singleton]
        exact or_comm
      have hP1 : PartS cuts l L0 c0 n (n + 1) ls lf pt' := { hP with psrt := g2, pmem := hpm }
      have hnr : (lf.filter (nbB ls[n])).Nodup := (hP.srt.filter _).nodup
      obtain ⟨ls', lf', e1, e2, e3, e4, e5⟩ := l_k11 (X := X) (Y := Y) (Z := Z) hdr hcl (lf0 := lf) (nr := lf.filter (nbB ls[n])) (c := ls[n]) hl hL h64 hnr (fun x hx => (nbB_iff _ _).1 (List.mem_filter.1 hx).2) (Nat.le_trans (List.length_filter_le _ _) (by omega)) ps m0 m (lf.filter (nbB ls[n])).length 0 N ls lf (by omega) (by have := List.length_filter_le (nbB ls[n]) lf; have := N_ge; omega) hP1 (List.getElem?_eq_getElem hlt) (fun x hx => hx) (by simp) (fun x hx => (List.mem_filter.1 (by simpa using hx)).1)
      have e1' : l_spec_l11Pieces_11 m0 m N X Y Z l X Y Z lf X Y Z pt' cuts ps ls (n : Int) (lf.filter (nbB ls[n])) 0 = _ := e1
      rw [e1']
      have hlt' : n < ls'.length := (List.getElem?_eq_some_iff.1 e5).1
      have hle' := e2.len hL
      refine l_k6 hdr hcl hs hi hl hL h64 ps hps m0 (d - 1) (n + 1) m ls' lf' pt' (by omega) (by omega) { e2 with done := fun i hii x hx y hy hsm hh => ?_ } (by omega)
      by_cases e : i = n
      · subst e
        rw [e5] at hx
        have hx := Option.some.inj hx
        rw [← hx] at hy hsm
        exact e4 y (List.mem_filter.2 ⟨e3 y hh, (nbB_iff _ _).2 hy⟩) hsm hh
      · exact e2.done i (by omega) x hx y hy hsm hh
    · have e : n = ls.length := by omega
      subst e
      rw [ltF hlt, app_len' (by omega)]
      exact ⟨ls, lf, pt, rfl, hP⟩

/-- One piece is found. -/
theorem step_spec {X Y Z : Int} {cuts : List D_A2} (hdr : Dirs cuts) (hcl : cuts.length ≤ 1000) {l : List D_A3} (hs : sides X Y Z = true) (hi : Ins X Y Z l) {c0 : D_A3} {L : List D_A3} (hr : Srt (c0 :: L)) (hsub : ∀ c ∈ c0 :: L, c ∈ l) (hclo : ∀ c ∈ c0 :: L, ∀ d ∈ l, nb c d → same cuts c d = true → d ∈ c0 :: L) (h64 : (c0 :: L).length ≤ 64) (ps : List (List D_A3)) (hps : ps.length ≤ 1000) (m : Nat) :
    ∃ pt lf, l_spec_l11Pieces_2 (m + 1) X Y Z l X Y Z (c0 :: L) cuts ps = l_spec_l11Pieces_2 m X Y Z l X Y Z lf cuts (ps ++ [pt]) ∧ Srt pt ∧ (∀ c, c ∈ pt ↔ ConnS cuts l c0 c) ∧ Srt lf ∧ (∀ c, c ∈ lf ↔ c ∈ c0 :: L ∧ c ∉ pt) ∧ pt.length + lf.length = (c0 :: L).length := by
  rw [q_spec_l11Pieces_2, decide_eq_true (by simp), p_spec_l2Empty]
  have n0 : nth T_A3 (c0 :: L) 0 = c0 := rfl
  have n1 : nth T_A3 ([nth T_A3 (c0 :: L) 0] : List D_A3) 0 = c0 := rfl
  have i0 : inB 0 (c0 :: L).length = true := by simp [inB]
  have i1 : inB 0 ([nth T_A3 (c0 :: L) 0] : List D_A3).length = true := rfl
  simp only [cond_true, Option.bind_some]
  rw [i0, i1, n1, n0, f_without (c0 :: L) c0 (by omega)]
  simp only [cond_true, Option.bind_some]
  have hmemF : ∀ x, x ∈ (c0 :: L).filter (fun x => !decide (x = c0)) ↔ x ∈ (c0 :: L) ∧ x ≠ c0 := fun x => by rw [List.mem_filter]; simp
  have hP : PartS cuts l (c0 :: L) c0 0 0 [c0] ((c0 :: L).filter fun x => !decide (x = c0)) [] := {
    srt := hr.filter _
    sub := fun x hx => ((hmemF x).1 hx).1
    lsub := fun x hx => by rw [List.mem_singleton.1 hx]; exact List.mem_cons_self ..
    all := fun x hx => by
      by_cases e : x = c0
      · exact .inl (by rw [e]; simp)
      · exact .inr ((hmemF x).2 ⟨hx, e⟩)
    apart := fun x hx hh => ((hmemF x).1 hh).2 (List.mem_singleton.1 hx)
    conn := fun x hx => .base (List.mem_singleton.1 hx)
    done := fun i hii => by omega
    psrt := List.Pairwise.nil
    pmem := fun x => by simp
    nodup := by simp
    start := by simp }
  obtain ⟨ls', lf', pt', e1, e2⟩ := l_k6 hdr hcl hs hi hsub hr h64 ps hps m (c0 :: L).length 0 N [c0] _ [] (by omega) (by have := N_ge; omega) hP (by omega)
  have e1' : l_spec_l11Pieces_6 m N X Y Z l X Y Z ((c0 :: L).filter fun x => !decide (x = c0)) X Y Z [] cuts ps [c0] 0 = _ := e1
  rw [e1']
  have hle := e2.len hr
  have hlsn : ∀ c ∈ ls', ∀ d, nb c d → same cuts c d = true → d ∉ lf' := fun c hc d hd => by
    obtain ⟨i, hii, e⟩ := List.getElem_of_mem hc
    exact e2.done i hii c (by rw [List.getElem?_eq_getElem hii, e]) d hd
  have hpl : ∀ c, c ∈ pt' ↔ c ∈ ls' := fun c => by rw [e2.pmem, List.take_length]
  have hcomp : ∀ c, c ∈ pt' ↔ ConnS cuts l c0 c := fun c => by
    rw [hpl]
    refine ⟨e2.conn c, fun hc => Rch.of (r := fun c => c ∈ ls') (fun c hc => by rw [show c = c0 from hc]; exact e2.start) (fun c d hc hn hd => ?_) hc⟩
    have hsm : same cuts c d = true := same_trans (same_symm (e2.conn c hc).same) hd.2
    rcases e2.all d (hclo c (e2.lsub c hc) d hd.1 hn hsm) with h | h
    · exact h
    · exact absurd h (hlsn c hc d hn hsm)
  have hlen : pt'.length = ls'.length := ((List.perm_ext_iff_of_nodup e2.psrt.nodup e2.nodup).2 hpl).length_eq
  refine ⟨pt', lf', rfl, e2.psrt, hcomp, e2.srt, fun c => ?_, by omega⟩
  rw [hpl]
  constructor
  · intro hc
    exact ⟨e2.sub c hc, fun hh => e2.apart c hh hc⟩
  · rintro ⟨hc, hn⟩
    exact (e2.all c hc).resolve_left hn
end Go.VI
/- Plain: pieces behind cuts, as the program finds them. -/
namespace Go.VI
open Go.Proofs

/-- The lowest bit. -/
theorem low_bit (v : BitVec 64) (i : Nat) (hi : i < 64) (h1 : v.getLsbD i = true) (h0 : ∀ j, j < i → v.getLsbD j = false) : intBits .and .u64 (v.toNat : Int) (IntKind.wrap .u64 (0 - (v.toNat : Int))) = ((BitVec.twoPow 64 i).toNat : Int) := by
  have hlt := v.isLt
  have hpos : 0 < v.toNat := by
    apply Nat.pos_of_ne_zero
    intro hz
    have : v.getLsbD i = false := by
      unfold BitVec.getLsbD
      rw [hz, Nat.zero_testBit]
    rw [this] at h1
    cases h1
  have hw : IntKind.wrap .u64 (0 - (v.toNat : Int)) = ((BitVec.ofNat 64 (2 ^ 64 - v.toNat)).toNat : Int) := by
    rw [wu64, BitVec.toNat_ofNat, Nat.mod_eq_of_lt (by omega)]
    omega
  rw [hw, and64]
  congr 2
  have hmod : v.toNat % 2 ^ i = 0 := by
    apply Nat.eq_of_testBit_eq
    intro j
    rw [Nat.testBit_mod_two_pow, Nat.zero_testBit]
    by_cases hj : j < i
    · have := h0 j hj
      unfold BitVec.getLsbD at this
      rw [this, Bool.and_false]
    · rw [decide_eq_false hj, Bool.false_and]
  have hodd : v.toNat / 2 ^ i % 2 = 1 := by
    have h := h1
    unfold BitVec.getLsbD at h
    rw [Nat.testBit_eq_decide_div_mod_eq] at h
    exact of_decide_eq_true h
  obtain ⟨q, hq⟩ : ∃ q, v.toNat / 2 ^ i = 2 * q + 1 := ⟨v.toNat / 2 ^ i / 2, by omega⟩
  have hv : v.toNat = 2 ^ i * (2 * q + 1) + 0 := by
    have := Nat.div_add_mod v.toNat (2 ^ i)
    rw [hmod, hq] at this
    exact this.symm
  have h2i : 0 < 2 ^ i := Nat.two_pow_pos i
  have hx : v.toNat - 1 = 2 ^ i * (2 * q) + (2 ^ i - 1) := by
    rw [hv, Nat.mul_add, Nat.mul_one]
    omega
  apply BitVec.eq_of_getLsbD_eq
  intro j hj
  rw [BitVec.getLsbD_and, BitVec.getLsbD_twoPow, BitVec.getLsbD_ofNat]
  have e1 : 2 ^ 64 - v.toNat = 2 ^ 64 - (v.toNat - 1 + 1) := by omega
  rw [e1, Nat.testBit_two_pow_sub_succ (by omega), hx, Nat.testBit_two_pow_mul_add _ (by omega)]
  by_cases c : j < i
  · rw [h0 j c, decide_eq_false (p := i = j) (by omega), Bool.false_and, Bool.and_false]
  · have hvb : v.getLsbD j = (2 * q + 1).testBit (j - i) := by
      unfold BitVec.getLsbD
      rw [hv, Nat.testBit_two_pow_mul_add _ h2i, if_neg c]
    rw [hvb, if_neg c, decide_eq_true hj]
    by_cases e : i = j
    · subst e
      simp
      exact hj
    · obtain ⟨k, hk⟩ : ∃ k, j - i = k + 1 := ⟨j - i - 1, by omega⟩
      rw [hk, Nat.testBit_succ, Nat.testBit_succ, decide_eq_false e, show (2 * q + 1) / 2 = q by omega, show 2 * q / 2 = q by omega]
      cases q.testBit k <;> simp

theorem setIs_one {X Y Z : Int} (hs : sides X Y Z = true) {c0 : D_A3} (hc : within3 X Y Z c0 = true) : SetIs X Y Z (BitVec.twoPow 64 (idx Y Z c0)) (fun c => decide (c = c0)) := by
  obtain ⟨_, h2, h3, _⟩ := idx_eq hs hc
  refine ⟨fun i hi => ?_, fun c hw => ?_⟩
  · rw [BitVec.getLsbD_twoPow, decide_eq_false (p := idx Y Z c0 = i) (by omega), Bool.and_false]
  · have h4 := (idx_eq hs hw).2.1
    rw [BitVec.getLsbD_twoPow]
    show _ = decide (c = c0)
    by_cases e : c = c0
    · rw [e, decide_eq_true (p := c0 = c0) rfl, decide_eq_true (p := idx Y Z c0 = idx Y Z c0) rfl, decide_eq_true (p := idx Y Z c0 < 64) (by omega)]
      rfl
    · rw [decide_eq_false e, decide_eq_false (p := idx Y Z c0 = idx Y Z c) (fun h => e (idx_inj hs hw hc h.symm)), Bool.and_false]

theorem setIs_and {X Y Z : Int} {v w : BitVec 64} {f g : D_A3 → Bool} (hv : SetIs X Y Z v f) (hw : SetIs X Y Z w g) : SetIs X Y Z (v &&& w) (fun c => f c && g c) :=
  ⟨fun i hi => by rw [BitVec.getLsbD_and, hv.1 i hi, Bool.false_and], fun c hc => by rw [BitVec.getLsbD_and, hv.2 c hc, hw.2 c hc]⟩

theorem l_i14 {X Y Z : Int} {cuts : List D_A2} (hdr : Dirs cuts) (hcl : cuts.length ≤ 1000) (hs : sides X Y Z = true) (c0 : D_A3) (f : D_A3 → Bool) (ps : List (List D_A3)) (p8 p9 : Int) (m0 : Nat) : ∀ (d k m : Nat) (v : BitVec 64), cuts.length = k + d → d < m → SetIs X Y Z v (fun c => f c && same (cuts.take k) c c0) →
    ∃ u : BitVec 64, SetIs X Y Z u (fun c => f c && same cuts c c0) ∧ l_impl_PiecesAfter_14 m0 m X Y Z c0.1 c0.2.1 c0.2.2.1 cuts ps p8 p9 (v.toNat : Int) cuts (cuts.length : Int) (k : Int) =
      Option.bind (P_box_grown ((X, (Y, (Z, ()))), p9, (u.toNat : Int), ())) fun r1 =>
      Option.bind (P_box_list ((X, (Y, (Z, ()))), r1.1, ())) fun r2 =>
      bif (decide (((List.length ps) + (List.length ([r2.1] : List (List D_A3)))) * 24 ≤ 140737488355328) && decide (((List.length ps) + (List.length ([r2.1] : List (List D_A3)))) ≤ 140737488355328)) then
        l_impl_PiecesAfter_10 m0 X Y Z cuts (ps ++ ([r2.1] : List (List D_A3))) (intBits .andNot .u64 p8 r1.1)
      else none
  | d, k, 0, v, _, h, _ => by omega
  | d, k, m + 1, v, hk, hm, hv => by
    rw [q_impl_PiecesAfter_14]
    by_cases hlt : k < cuts.length
    · have hdk := hdr _ (List.getElem_mem hlt)
      obtain ⟨r, e1, e2⟩ := f_those hs (g := fun c => decide (get3 c cuts[k].1 < cuts[k].2.1) == decide (get3 c0 cuts[k].1 < cuts[k].2.1)) (F := fun (y : D_A3 × Unit) => P_impl_PiecesAfter_1 (y.1, cuts[k], (c0.1, (c0.2.1, (c0.2.2.1, ()))), ())) (fun c hc => by
        show P_impl_PiecesAfter_1 (c, cuts[k], (c0.1, (c0.2.1, (c0.2.2.1, ()))), ()) = _
        rw [p_impl_PiecesAfter_1, inB_dir hdk.1 hdk.2]
        rfl)
      rw [ltT hlt, inB_at hlt, nthA (t := T_A2) hlt, e1, succI k (by omega)]
      simp only [cond_true, Option.bind_some]
      rw [and64]
      refine l_i14 hdr hcl hs c0 f ps p8 p9 m0 (d - 1) (k + 1) m _ (by omega) (by omega) ?_
      have h := setIs_and hv e2
      refine ⟨h.1, fun c hc => ?_⟩
      rw [h.2 c hc]
      show ((f c && same (cuts.take k) c c0) && (decide (get3 c cuts[k].1 < cuts[k].2.1) == decide (get3 c0 cuts[k].1 < cuts[k].2.1))) = (f c && same (cuts.take (k + 1)) c c0)
      rw [Bool.and_assoc]
      congr 1
      unfold same
      rw [List.take_add_one, List.getElem?_eq_getElem hlt, List.all_append]
      simp
    · rw [ltF hlt]
      refine ⟨v, ?_, rfl⟩
      rw [List.take_of_length_le (by omega)] at hv
      exact hv

theorem step_impl {X Y Z : Int} {cuts : List D_A2} (hdr : Dirs cuts) (hcl : cuts.length ≤ 1000) {l : List D_A3} (hs : sides X Y Z = true) (hi : Ins X Y Z l) {c0 : D_A3} {L : List D_A3} (hr : Srt (c0 :: L)) (hsub : ∀ c ∈ c0 :: L, c ∈ l) (hclo : ∀ c ∈ c0 :: L, ∀ d ∈ l, nb c d → same cuts c d = true → d ∈ c0 :: L) (ps : List (List D_A3)) (hps : ps.length ≤ 1000) (m : Nat)
    {pt lf : List D_A3} (p1 : Srt pt) (p2 : ∀ c, c ∈ pt ↔ ConnS cuts l c0 c) (p4 : ∀ c, c ∈ lf ↔ c ∈ c0 :: L ∧ c ∉ pt) :
    l_impl_PiecesAfter_10 (m + 1) X Y Z cuts ps ((mask Y Z (c0 :: L) 0).toNat : Int) = l_impl_PiecesAfter_10 m X Y Z cuts (ps ++ [pt]) ((mask Y Z lf 0).toNat : Int) := by
  have hin : Ins X Y Z (c0 :: L) := fun c hc => hi c (hsub c hc)
  have hw0 := hin c0 (List.mem_cons_self ..)
  obtain ⟨_, k2, k3, _⟩ := idx_eq hs hw0
  have hb1 : (mask Y Z (c0 :: L) 0).getLsbD (idx Y Z c0) = true := by
    rw [mask_mem hs hin hw0]; simp
  have hb0 : ∀ j, j < idx Y Z c0 → (mask Y Z (c0 :: L) 0).getLsbD j = false := by
    intro j hj
    rw [mask_bit]
    have : ((c0 :: L).any fun c => decide (idx Y Z c = j)) = false := by
      rw [List.any_eq_false]
      intro c hc
      have hge : idx Y Z c0 ≤ idx Y Z c := by
        rcases List.mem_cons.1 hc with rfl | hc'
        · exact Nat.le_refl _
        · exact Nat.le_of_lt ((idx_lt hs hw0 (hin c hc)).2 ((List.pairwise_cons.1 hr).1 c hc'))
      simp only [decide_eq_true_eq]
      omega
    rw [this]
    simp
  have hne : (mask Y Z (c0 :: L) 0).toNat ≠ 0 := by
    intro hz
    unfold BitVec.getLsbD at hb1
    rw [hz, Nat.zero_testBit] at hb1
    cases hb1
  have hlow := low_bit _ (idx Y Z c0) (by omega) hb1 hb0
  have hone : bitCells X Y Z (BitVec.twoPow 64 (idx Y Z c0)) = [c0] := (setIs_one hs hw0).cells hs (List.pairwise_singleton _ _) (fun c => by
    rw [List.mem_singleton, decide_eq_true_eq]
    constructor
    · rintro rfl; exact ⟨hw0, rfl⟩
    · rintro ⟨_, h⟩; exact h)
  rw [q_impl_PiecesAfter_10, decide_eq_false (p := ((mask Y Z (c0 :: L) 0).toNat : Int) = 0) (by omega), hlow]
  simp only [Bool.not_false, cond_true]
  rw [f_box_list hs, hone]
  simp only [Option.bind_some]
  have n0 : nth T_A3 ([c0] : List D_A3) 0 = c0 := rfl
  have i0 : inB 0 ([c0] : List D_A3).length = true := rfl
  rw [i0, n0]
  simp only [cond_true]
  have hset := setIs_mask hs hin
  obtain ⟨u, u1, u2⟩ := l_i14 (X := X) (Y := Y) (Z := Z) hdr hcl hs c0 (fun c => decide (c ∈ c0 :: L)) ps ((mask Y Z (c0 :: L) 0).toNat : Int) ((BitVec.twoPow 64 (idx Y Z c0)).toNat : Int) m cuts.length 0 N (mask Y Z (c0 :: L) 0) (by simp) (by have := N_ge; omega) ⟨hset.1, fun c hc => by rw [hset.2 c hc]; simp [same]⟩
  have u2' : l_impl_PiecesAfter_14 m N X Y Z c0.1 c0.2.1 c0.2.2.1 cuts ps ((mask Y Z (c0 :: L) 0).toNat : Int) ((BitVec.twoPow 64 (idx Y Z c0)).toNat : Int) ((mask Y Z (c0 :: L) 0).toNat : Int) cuts (cuts.length : Int) 0 = _ := u2
  rw [u2']
  have hs1 := setIs_one hs hw0
  obtain ⟨w, w1, w2, w3⟩ := f_grown hs hs1.1 u1.1
  rw [w1]
  simp only [Option.bind_some]
  have hreach : ∀ c, bitP X Y Z w c ↔ ConnS cuts l c0 c := by
    intro c
    rw [w3]
    constructor
    · intro h
      refine Rch.mono (fun x hx => .base ?_) (fun x hx => ?_) h
      · have := hx.2
        rw [hs1.2 x hx.1] at this
        exact of_decide_eq_true this
      · have := hx.2
        rw [u1.2 x hx.1, Bool.and_eq_true, decide_eq_true_eq] at this
        exact ⟨hsub x this.1, same_symm this.2⟩
    · intro h
      have key : c ∈ c0 :: L ∧ same cuts c0 c = true ∧ Rch (bitP X Y Z (BitVec.twoPow 64 (idx Y Z c0))) (bitP X Y Z u) c := by
        refine Rch.of (r := fun c => c ∈ c0 :: L ∧ same cuts c0 c = true ∧ Rch (bitP X Y Z (BitVec.twoPow 64 (idx Y Z c0))) (bitP X Y Z u) c) (fun x hx => ?_) (fun x d hx hn hd => ?_) h
        · have hx' : x = c0 := hx
          subst hx'
          exact ⟨List.mem_cons_self .., same_refl _ _, .base ⟨hw0, by rw [hs1.2 _ hw0]; simp⟩⟩
        · have hsm : same cuts x d = true := same_trans (same_symm hx.2.1) hd.2
          have hdm := hclo x hx.1 d hd.1 hn hsm
          refine ⟨hdm, hd.2, .step hx.2.2 hn ⟨hin d hdm, ?_⟩⟩
          rw [u1.2 d (hin d hdm), Bool.and_eq_true, decide_eq_true_eq]
          exact ⟨hdm, same_symm hd.2⟩
      exact key.2.2
  have hpt : bitCells X Y Z w = pt := srt_ext _ _ (srt_listOf hs w) p1 fun c => by
    rw [mem_listOf hs, p2]
    exact hreach c
  rw [f_box_list hs, hpt]
  simp only [Option.bind_some]
  rw [app_len' (by omega), andNot64]
  simp only [cond_true]
  have hmask : mask Y Z (c0 :: L) 0 &&& ~~~w = mask Y Z lf 0 := by
    have hlfin : Ins X Y Z lf := fun c hc => hin c ((p4 c).1 hc).1
    refine SetIs.ext hs (g := fun c => decide (c ∈ lf)) ⟨fun i hi => by rw [BitVec.getLsbD_and, hset.1 i hi, Bool.false_and], fun c hc => ?_⟩ (setIs_mask hs hlfin)
    have h64 := (idx_eq hs hc).2.1
    have hsz := size64 hs
    rw [BitVec.getLsbD_and, hset.2 c hc, BitVec.getLsbD_not, decide_eq_true (p := idx Y Z c < 64) (by omega), Bool.true_and, Bool.eq_iff_iff, Bool.and_eq_true, decide_eq_true_eq, decide_eq_true_eq, p4, Bool.not_eq_true', ← Bool.not_eq_true]
    have := hreach c
    rw [← p2] at this
    constructor
    · rintro ⟨a, b⟩
      exact ⟨a, fun hh => b (this.2 hh).2⟩
    · rintro ⟨a, b⟩
      exact ⟨a, fun hh => b (this.1 ⟨hc, hh⟩)⟩
  rw [hmask]

/-- Some pieces are told; the cells of L0 are left. -/
structure PiecesI (cuts : List D_A2) (l L0 : List D_A3) (ps : List (List D_A3)) : Prop where
  srt : Srt L0
  sub : ∀ c ∈ L0, c ∈ l
  closed : ∀ c ∈ L0, ∀ d ∈ l, nb c d → same cuts c d = true → d ∈ L0
  good : ∀ p ∈ ps, Srt p ∧ ∃ c0 ∈ l, ∀ c, c ∈ p ↔ ConnS cuts l c0 c
  cover : ∀ c ∈ l, c ∈ L0 ∨ ∃ p ∈ ps, c ∈ p
  tot : (ps.map List.length).sum + L0.length = l.length

theorem walk_both {X Y Z : Int} {cuts : List D_A2} (hdr : Dirs cuts) (hcl : cuts.length ≤ 1000) {l : List D_A3} (hs : sides X Y Z = true) (hi : Ins X Y Z l) : ∀ (d m m' : Nat) (L0 : List D_A3) (ps : List (List D_A3)), L0.length ≤ d → d < m → d < m' → d ≤ 64 → ps.length + d ≤ 100 → PiecesI cuts l L0 ps →
    ∃ ps', l_spec_l11Pieces_2 m X Y Z l X Y Z L0 cuts ps = some (ps', ()) ∧ l_impl_PiecesAfter_10 m' X Y Z cuts ps ((mask Y Z L0 0).toNat : Int) = some (ps', true, ()) ∧ PiecesI cuts l [] ps' ∧ ps'.length ≤ 100
  | d, 0, m', L0, ps, _, h, _, _, _, _ => by omega
  | d, m + 1, 0, L0, ps, _, _, h, _, _, _ => by omega
  | d, m + 1, m' + 1, [], ps, hd, hm, hm', h64, hps, hI => by
    rw [q_spec_l11Pieces_2, q_impl_PiecesAfter_10]
    exact ⟨ps, rfl, rfl, hI, by omega⟩
  | d, m + 1, m' + 1, c0 :: L, ps, hd, hm, hm', h64, hps, hI => by
    have hlen : (c0 :: L).length ≤ 64 := by omega
    obtain ⟨pt, lf, e1, e2, e3, e4, e5, e6⟩ := step_spec hdr hcl hs hi hI.srt hI.sub hI.closed hlen ps (by omega) m
    have e7 := step_impl hdr hcl hs hi hI.srt hI.sub hI.closed ps (by omega) m' e2 e3 e5
    have hc0 : c0 ∈ pt := (e3 c0).2 (.base rfl)
    have hpos : 0 < pt.length := List.length_pos_of_mem hc0
    rw [e1, e7]
    refine walk_both hdr hcl hs hi (d - 1) m m' lf (ps ++ [pt]) (by omega) (by omega) (by omega) (by omega) (by simp; omega) ⟨e4, fun c hc => hI.sub c ((e5 c).1 hc).1, fun c hc d hd hn hsm => ?_, fun p hp => ?_, fun c hc => ?_, ?_⟩
    · have hcL := ((e5 c).1 hc).1
      have hdL := hI.closed c hcL d hd hn hsm
      refine (e5 d).2 ⟨hdL, fun hdp => ((e5 c).1 hc).2 ((e3 c).2 ?_)⟩
      have hcd := (e3 d).1 hdp
      exact .step hcd (nb_symm hn) ⟨hI.sub c hcL, same_trans hcd.same (same_symm hsm)⟩
    · rcases List.mem_append.1 hp with hp | hp
      · exact hI.good p hp
      · rw [List.mem_singleton.1 hp]
        exact ⟨e2, c0, hI.sub c0 (List.mem_cons_self ..), e3⟩
    · rcases hI.cover c hc with h | ⟨p, hp, h⟩
      · by_cases hcp : c ∈ pt
        · exact .inr ⟨pt, by simp, hcp⟩
        · exact .inl ((e5 c).2 ⟨h, hcp⟩)
      · exact .inr ⟨p, List.mem_append_left _ hp, h⟩
    · have := hI.tot
      rw [List.map_append, List.sum_append]
      simp only [List.map_cons, List.map_nil, List.sum_cons, List.sum_nil]
      omega

def okCuts (X Y Z : Int) (cuts : List D_A2) : Bool := cuts.all fun t => isCut X Y Z t.1 t.2.1

theorem okCuts_dirs {X Y Z : Int} {cuts : List D_A2} (h : okCuts X Y Z cuts = true) : Dirs cuts := fun t ht => by
  have := isCut_iff.1 (List.all_eq_true.1 h t ht)
  exact ⟨this.1, this.2.1⟩

theorem l_vi {X Y Z : Int} {l : List D_A3} (hs : sides X Y Z = true) {cuts : List D_A2} (hcl : cuts.length ≤ 1000) : ∀ (d k m : Nat), cuts.length = k + d → d < m → l_impl_PiecesAfter_4 m X Y Z l cuts cuts (cuts.length : Int) (k : Int) = if okCuts X Y Z (cuts.drop k) = true then (Option.bind (P_Heap_cubes ((X, (Y, (Z, (l, ())))), ())) fun r2 => l_impl_PiecesAfter_10 N X Y Z cuts ([] : List (List D_A3)) r2.1) else some ([], false, ())
  | d, k, 0, _, h => by omega
  | d, k, m + 1, hk, hm => by
    rw [q_impl_PiecesAfter_4]
    by_cases hlt : k < cuts.length
    · rw [ltT hlt, inB_at hlt, nthA (t := T_A2) hlt, f_isCut l hs, succI k (by omega), l_vi hs hcl (d - 1) (k + 1) m (by omega) (by omega), drop_at cuts k hlt]
      simp only [cond_true, Option.bind_some]
      have e : okCuts X Y Z (cuts[k] :: cuts.drop (k + 1)) = (isCut X Y Z cuts[k].1 cuts[k].2.1 && okCuts X Y Z (cuts.drop (k + 1))) := rfl
      rw [e]
      cases isCut X Y Z cuts[k].1 cuts[k].2.1 <;> simp
    · rw [ltF hlt, List.drop_eq_nil_of_le (by omega), f_Heap_box]
      simp [okCuts]

theorem l_vs {X Y Z : Int} {l : List D_A3} (hl : Small l) (ho : okHeap (X, Y, Z, l, ()) = true) {cuts : List D_A2} (hcl : cuts.length ≤ 1000) : ∀ (d k m : Nat), cuts.length = k + d → d < m → l_spec_PiecesAfter_4 m X Y Z l cuts (k : Int) = if okCuts X Y Z (cuts.drop k) = true then (Option.bind (P_spec_l11Pieces ((X, (Y, (Z, (l, ())))), cuts, ())) fun r1 => some (r1.1, true, ())) else some ([], false, ())
  | d, k, 0, _, h => by omega
  | d, k, m + 1, hk, hm => by
    rw [q_spec_PiecesAfter_4]
    by_cases hlt : k < cuts.length
    · have e0 := f_l11Cut ((X, (Y, (Z, (l, ())))) : D_Heap) hl cuts[k].1 cuts[k].2.1
      rw [ltT hlt, inB_at hlt, nthA (t := T_A2) hlt, e0, ho, succI k (by omega), l_vs hl ho hcl (d - 1) (k + 1) m (by omega) (by omega), drop_at cuts k hlt]
      simp only [cond_true, Option.bind_some, Bool.true_and]
      have e : okCuts X Y Z (cuts[k] :: cuts.drop (k + 1)) = (isCut X Y Z cuts[k].1 cuts[k].2.1 && okCuts X Y Z (cuts.drop (k + 1))) := rfl
      rw [e]
      cases isCut X Y Z cuts[k].1 cuts[k].2.1 <;> simp
    · rw [ltF hlt, List.drop_eq_nil_of_le (by omega)]
      simp [okCuts]

theorem pieces_full (h : D_Heap) (cuts : List D_A2) (hl : Small h.2.2.2.1) : ∃ (ps : List (List D_A3)) (b : Bool), P_spec_PiecesAfter (h, cuts, ()) = some (ps, b, ()) ∧ P_impl_PiecesAfter (h, cuts, ()) = some (ps, b, ()) ∧ b = (okHeap h && (decide (cuts.length ≤ 12) && okCuts h.1 h.2.1 h.2.2.1 cuts)) ∧ (b = true → PiecesI cuts h.2.2.2.1 [] ps) ∧ ps.length ≤ 100 ∧ (b = false → ps = []) := by
  rw [p_spec_PiecesAfter, p_impl_PiecesAfter, f_spec_l2Heap _ hl, f_impl_IsHeap _ hl]
  cases ho : okHeap h with
  | false => exact ⟨[], false, rfl, rfl, rfl, (fun hh => by cases hh), by simp, fun _ => rfl⟩
  | true =>
    obtain ⟨hs, hi, hr⟩ := okHeap_iff.1 ho
    simp only [Option.bind_some, Bool.not_true, cond_false, Bool.true_and]
    by_cases hc : cuts.length ≤ 12
    · rw [decide_eq_false (p := (cuts.length : Int) > 12) (by omega), decide_eq_true hc]
      simp only [cond_false, Bool.true_and]
      have h1 := l_vs (X := h.1) (Y := h.2.1) (Z := h.2.2.1) hl ho (cuts := cuts) (by omega) cuts.length 0 N (by simp) (by have := N_ge; omega)
      have h2 := l_vi (X := h.1) (Y := h.2.1) (Z := h.2.2.1) (l := h.2.2.2.1) hs (cuts := cuts) (by omega) cuts.length 0 N (by simp) (by have := N_ge; omega)
      have h1' : l_spec_PiecesAfter_4 N h.1 h.2.1 h.2.2.1 h.2.2.2.1 cuts 0 = _ := h1
      have h2' : l_impl_PiecesAfter_4 N h.1 h.2.1 h.2.2.1 h.2.2.2.1 cuts cuts (cuts.length : Int) 0 = _ := h2
      rw [h1', h2', List.drop_zero]
      cases hk : okCuts h.1 h.2.1 h.2.2.1 cuts with
      | false => exact ⟨[], false, rfl, rfl, rfl, (fun hh => by cases hh), by simp, fun _ => rfl⟩
      | true =>
        have h64 := srt_small64 hs hi hr
        have hI : PiecesI cuts h.2.2.2.1 h.2.2.2.1 [] := ⟨hr, fun c hc => hc, fun c hc d hd _ _ => hd, (fun p hp => by cases hp), fun c hc => .inl hc, by simp⟩
        obtain ⟨ps, w1, w2, w3, w4⟩ := walk_both (okCuts_dirs hk) (by omega) hs hi h.2.2.2.1.length N N h.2.2.2.1 [] (Nat.le_refl _) (by have := N_ge; omega) (by have := N_ge; omega) h64 (by simp; omega) hI
        have f3 : P_Heap_cubes ((h.1, (h.2.1, (h.2.2.1, (h.2.2.2.1, ())))), ()) = _ := f_Heap_cubes hs hl hi
        have fo : P_spec_l2Own ((h.1, (h.2.1, (h.2.2.1, (h.2.2.2.1, ())))), ()) = _ := f_l2Own (X := h.1) (Y := h.2.1) (Z := h.2.2.1) (l := h.2.2.2.1) (by omega)
        simp only [if_true]
        rw [f3, p_spec_l11Pieces, fo]
        simp only [Option.bind_some]
        rw [w1, w2]
        exact ⟨ps, true, rfl, rfl, rfl, fun _ => w3, w4, fun hh => by cases hh⟩
    · rw [decide_eq_true (p := (cuts.length : Int) > 12) (by omega), decide_eq_false hc]
      exact ⟨[], false, rfl, rfl, rfl, (fun hh => by cases hh), by simp, fun _ => rfl⟩
end Go.VI
