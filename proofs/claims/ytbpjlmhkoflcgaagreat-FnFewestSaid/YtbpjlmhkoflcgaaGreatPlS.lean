/- Plain: what acts make of heaps. -/
import Derived.Test.YtbpjlmhkoflcgaaGreatPlO
import Derived.Test.YtbpjlmhkoflcgaaGreatPlA
namespace Go.VI
open Go.Proofs
def Both (a b : Option (D_Heap × Bool × Unit)) : Prop := ∃ r : D_Heap × Bool × Unit, a = some r ∧ b = some r ∧ Small r.1.2.2.2.1
theorem small64 {l : List D_A3} (h : l.length ≤ 64) : Small l := by unfold Small; omega
theorem small_no : Small noHeap.2.2.2.1 := by unfold Small noHeap; simp
theorem heap_is {X Y Z : Int} (hs : sides X Y Z = true) {v : BitVec 64} {g : D_A3 → Bool} (hv : SetIs X Y Z v g) {l : List D_A3} (hr : Srt l) (hm : ∀ c, c ∈ l ↔ within3 X Y Z c = true ∧ g c = true) : P_bv ((X, Y, Z, ()), (v.toNat : Int), ()) = some ((X, Y, Z, l, ()), ()) := by
  rw [f_bv hs, hv.cells hs hr hm]
theorem app_len' {α : Type} {l : List α} {x : α} (h : l.length ≤ 100000000) : (decide ((l.length + ([x] : List α).length) * 24 ≤ 140737488355328) && decide (l.length + ([x] : List α).length ≤ 140737488355328)) = true := by
  rw [Bool.and_eq_true, decide_eq_true_eq, decide_eq_true_eq]
  simp only [List.length_singleton]
  omega
theorem setIs_less {X Y Z : Int} (hs : sides X Y Z = true) {l : List D_A3} (hi : Ins X Y Z l) {c : D_A3} (hw : within3 X Y Z c = true) : SetIs X Y Z (mask Y Z l 0 &&& ~~~(BitVec.twoPow 64 (idx Y Z c))) (fun x => decide (x ∈ l) && !decide (x = c)) := by
  refine ⟨low_and (low_mask hs hi), fun x hx => ?_⟩
  have h1 := (idx_eq hs hx).2.1
  have h2 := (idx_eq hs hx).2.2.1
  rw [BitVec.getLsbD_and, BitVec.getLsbD_not, BitVec.getLsbD_twoPow, mask_mem hs hi hx]
  have e : decide (idx Y Z c = idx Y Z x) = decide (x = c) := by
    rw [Bool.eq_iff_iff, decide_eq_true_eq, decide_eq_true_eq]
    exact ⟨fun h => (idx_inj hs hw hx h).symm, fun h => by rw [h]⟩
  have h3 := (idx_eq hs hw).2.1
  rw [e, decide_eq_true (p := idx Y Z x < 64) (by omega), decide_eq_true (p := idx Y Z c < 64) (by omega)]
  simp
theorem l_other {X Y Z X' Y' Z' : Int} {l al : List D_A3} (hl : Small l) (hal : Small al) : ∀ (d i m : Nat) (out : List D_A3), al.length = i + d → d < m → out.length ≤ i →
    l_a3_5 m X Y Z l 0 0 0 [] X' Y' Z' out al (i : Int) = some ((X', Y', Z', out ++ (al.drop i).filter (fun x => !decide (x ∈ l)), ()), true, ())
  | d, i, 0, out, _, h, _ => by omega
  | d, i, m + 1, out, hk, hm, ho => by
    have hal' := hal
    unfold Small at hal'
    rw [q_a3_5]
    by_cases hlt : i < al.length
    · rw [ltT hlt, inB_at hlt, nthA (t := T_A3) hlt, f_l2Has X Y Z l _ hl, app_len' (by omega), drop_at al i hlt, succI i (by omega)]
      simp only [cond_true, Option.bind_some, List.filter_cons]
      by_cases e : al[i] ∈ l
      · rw [decide_eq_true e]
        simp only [Bool.not_true, cond_false, Bool.false_eq_true, if_false]
        exact l_other hl hal (d - 1) (i + 1) m out (by omega) (by omega) (by omega)
      · rw [decide_eq_false e]
        simp only [Bool.not_false, cond_true, if_true]
        rw [l_other hl hal (d - 1) (i + 1) m _ (by omega) (by omega) (by simp; omega)]
        simp
    · rw [ltF hlt, List.drop_eq_nil_of_le (by omega)]
      simp
theorem l_moved {S1 S2 S3 : Int} (hS : sides S1 S2 S3 = true) {l : List D_A3} (hl : Small l) {g : D_A3 → D_A3} {F : D_A3 × Unit → Option (D_A3 × Unit)} (hF : ∀ c ∈ l, F (c, ()) = some (g c, ()) ∧ within3 S1 S2 S3 (g c) = true) : ∀ (d i m : Nat) (v : BitVec 64), l.length = i + d → d < m →
    l_bh_3 m S1 S2 S3 0 0 0 [] F (v.toNat : Int) l (l.length : Int) (i : Int) = some ((S1, S2, S3, bitCells S1 S2 S3 (mask S2 S3 ((l.drop i).map g) v), ()), ())
  | d, i, 0, v, _, h => by omega
  | d, i, m + 1, v, hk, hm => by
    have hl' := hl
    unfold Small at hl'
    rw [q_bh_3]
    by_cases hlt : i < l.length
    · obtain ⟨h1, h2⟩ := hF l[i] (List.getElem_mem hlt)
      rw [ltT hlt, inB_at hlt, nthA (t := T_A3) hlt, h1, drop_at l i hlt, succI i (by omega)]
      simp only [cond_true, Option.bind_some]
      rw [f_bx hS h2]
      simp only [Option.bind_some]
      rw [decide_eq_true (p := (0 : Int) ≤ (idx S2 S3 (g l[i]) : Int)) (by omega), shl64, or64]
      simp only [cond_true]
      rw [l_moved hS hl hF (d - 1) (i + 1) m _ (by omega) (by omega)]
      rfl
    · rw [ltF hlt, List.drop_eq_nil_of_le (by omega)]
      simp only [cond_false]
      rw [f_bv hS]
      rfl
theorem f_moved {X Y Z S1 S2 S3 : Int} (hS : sides S1 S2 S3 = true) {l : List D_A3} (hl : Small l) {g : D_A3 → D_A3} {F : D_A3 × Unit → Option (D_A3 × Unit)} (hF : ∀ c ∈ l, F (c, ()) = some (g c, ()) ∧ within3 S1 S2 S3 (g c) = true) : P_bh ((X, Y, Z, l, ()), (S1, S2, S3, ()), F, ()) = some ((S1, S2, S3, bitCells S1 S2 S3 (mask S2 S3 (l.map g) 0), ()), ()) := by
  have := l_moved hS hl hF l.length 0 N 0 (by simp) (by unfold Small at hl; have := N_ge; omega)
  rw [p_bh]
  exact this
theorem moved_is {S1 S2 S3 : Int} (hS : sides S1 S2 S3 = true) {l l' : List D_A3} {g : D_A3 → D_A3} (hg : ∀ c ∈ l, within3 S1 S2 S3 (g c) = true) (hr : Srt l') (hm : ∀ c, c ∈ l' ↔ c ∈ l.map g) : bitCells S1 S2 S3 (mask S2 S3 (l.map g) 0) = l' := by
  have hi : Ins S1 S2 S3 (l.map g) := fun x hx => by
    obtain ⟨c, hc, rfl⟩ := List.mem_map.1 hx
    exact hg c hc
  refine (setIs_mask hS hi).cells hS hr fun c => ?_
  rw [hm, decide_eq_true_eq]
  exact ⟨fun h => ⟨hi c h, h⟩, fun h => h.2⟩
def mirC (X Y Z d : Int) (c : D_A3) : D_A3 := ((bif decide (d = 0) then X - 1 - c.1 else c.1), (bif decide (d = 1) then Y - 1 - c.2.1 else c.2.1), (bif decide (d = 2) then Z - 1 - c.2.2.1 else c.2.2.1), ())
theorem mirC_in {X Y Z d : Int} {c : D_A3} (hc : within3 X Y Z c = true) : within3 X Y Z (mirC X Y Z d c) = true := by
  rw [within3_iff] at hc ⊢
  unfold mirC
  simp only
  refine ⟨?_, ?_, ?_⟩
  · cases decide (d = 0) <;> simp <;> omega
  · cases decide (d = 1) <;> simp <;> omega
  · cases decide (d = 2) <;> simp <;> omega
theorem mir_text {X Y Z d : Int} (hs : sides X Y Z = true) (d0 : 0 ≤ d) (d1 : d ≤ 2) {c : D_A3} (hc : within3 X Y Z c = true) (A : D_A3) (hA : A = (X, Y, Z, ())) : (((bif decide (d = (0 : Int)) then (IntKind.wrap .i64 ((IntKind.wrap .i64 ((bif decide (d = (0 : Int)) then A.1 else (bif decide (d = (1 : Int)) then A.2.1 else A.2.2.1)) - 1)) - (bif decide (d = (0 : Int)) then c.1 else (bif decide (d = (1 : Int)) then c.2.1 else c.2.2.1)))) else c.1), ((bif decide (d = (1 : Int)) then (IntKind.wrap .i64 ((IntKind.wrap .i64 ((bif decide (d = (0 : Int)) then A.1 else (bif decide (d = (1 : Int)) then A.2.1 else A.2.2.1)) - 1)) - (bif decide (d = (0 : Int)) then c.1 else (bif decide (d = (1 : Int)) then c.2.1 else c.2.2.1)))) else c.2.1), ((bif decide (d = (2 : Int)) then (IntKind.wrap .i64 ((IntKind.wrap .i64 ((bif decide (d = (0 : Int)) then A.1 else (bif decide (d = (1 : Int)) then A.2.1 else A.2.2.1)) - 1)) - (bif decide (d = (0 : Int)) then c.1 else (bif decide (d = (1 : Int)) then c.2.1 else c.2.2.1)))) else c.2.2.1), ()))) : D_A3) = mirC X Y Z d c := by
  subst hA
  have s := sides_iff.1 hs
  have w := within3_iff.1 hc
  have e : ∀ S x : Int, 1 ≤ S → S ≤ 4 → 0 ≤ x → x ≤ 4 → IntKind.wrap .i64 (IntKind.wrap .i64 (S - 1) - x) = S - 1 - x := fun S x h1 h2 h3 h4 => by rw [w64 (x := S - 1) (by omega) (by omega), w64 (by omega) (by omega)]
  have e1 := e X c.1 (by omega) (by omega) (by omega) (by omega)
  have e2 := e Y c.2.1 (by omega) (by omega) (by omega) (by omega)
  have e3 := e Z c.2.2.1 (by omega) (by omega) (by omega) (by omega)
  rcases dir d0 d1 with rfl | rfl | rfl <;> simp [mirC, e1, e2, e3]
theorem isDir (d : Int) : P_cg (d, ()) = some (decide (0 ≤ d) && decide (d ≤ 2), ()) := by
  rw [p_cg, f_bl]
  rfl
end Go.VI
/- Plain: dropped heaps. -/
namespace Go.VI
open Go.Proofs
def lineI (Y : Int) (c : D_A3) : Int := c.1 * Y + c.2.1
theorem line_ok {X Y Z : Int} (hs : sides X Y Z = true) {c : D_A3} (hc : within3 X Y Z c = true) : 0 ≤ lineI Y c ∧ lineI Y c < X * Y ∧ 0 ≤ c.1 * Y ∧ c.1 * Y ≤ 16 := by
  have s := sides_iff.1 hs
  have w := within3_iff.1 hc
  unfold lineI
  rcases four s.1.1 s.1.2 with rfl | rfl | rfl | rfl <;> rcases four s.2.1.1 s.2.1.2 with rfl | rfl | rfl | rfl <;> omega
theorem f_line2 {X Y Z : Int} (hs : sides X Y Z = true) {c : D_A3} (hc : within3 X Y Z c = true) : P_a1 ((X, Y, Z, ()), c, 2, ()) = some (lineI Y c, ()) := by
  obtain ⟨h1, h2, h3, h4⟩ := line_ok hs hc
  have h5 := size64 hs
  have w := within3_iff.1 hc
  have s := sides_iff.1 hs
  rw [p_a1, p_c2]
  show some (IntKind.wrap .i64 (IntKind.wrap .i64 (c.1 * Y) + c.2.1), ()) = _
  unfold lineI at *
  rw [w64 (x := c.1 * Y) (by omega) (by omega), w64 (by omega) (by omega)]
def upL (Y : Int) (acc : List Int) (c : D_A3) : List Int := List.set acc (Int.toNat (lineI Y c)) (IntKind.wrap .i64 ((nth ((.int .i64) : Ty) acc (lineI Y c)) + 1))
theorem inB_line {X Y Z : Int} (hs : sides X Y Z = true) {c : D_A3} (hc : within3 X Y Z c = true) {acc : List Int} (ha : acc.length = (X * Y).toNat) : inB (lineI Y c) acc.length = true := by
  obtain ⟨h1, h2, h3, h4⟩ := line_ok hs hc
  unfold inB
  rw [Bool.and_eq_true, decide_eq_true_eq, decide_eq_true_eq]
  omega
theorem upL_len {Y : Int} {acc : List Int} {c : D_A3} : (upL Y acc c).length = acc.length := by simp [upL]
theorem l_viewI {X Y Z : Int} (hs : sides X Y Z = true) {l : List D_A3} (hl : Small l) (hi : Ins X Y Z l) : ∀ (d i m : Nat) (acc : List Int), l.length = i + d → d < m → acc.length = (X * Y).toNat →
    l_be_3 m X Y Z 2 acc l (l.length : Int) (i : Int) = some ((l.drop i).foldl (upL Y) acc, ())
  | d, i, 0, acc, _, h, _ => by omega
  | d, i, m + 1, acc, hk, hm, ha => by
    have hl' := hl
    unfold Small at hl'
    rw [q_be_3]
    by_cases hlt : i < l.length
    · have hc := hi _ (List.getElem_mem hlt)
      rw [ltT hlt, inB_at hlt, nthA (t := T_A3) hlt, f_line2 hs hc, drop_at l i hlt, succI i (by omega)]
      simp only [cond_true, Option.bind_some]
      rw [inB_line hs hc ha]
      simp only [cond_true, List.foldl_cons]
      exact l_viewI hs hl hi (d - 1) (i + 1) m (upL Y acc l[i]) (by omega) (by omega) (by rw [upL_len, ha])
    · rw [ltF hlt, List.drop_eq_nil_of_le (by omega)]
      rfl
theorem l_viewS {X Y Z : Int} (hs : sides X Y Z = true) {l : List D_A3} (hl : Small l) (hi : Ins X Y Z l) : ∀ (d i m : Nat) (acc : List Int), l.length = i + d → d < m → acc.length = (X * Y).toNat →
    l_ap_4 m X Y Z l 0 1 acc (i : Int) = some ((l.drop i).foldl (upL Y) acc, ())
  | d, i, 0, acc, _, h, _ => by omega
  | d, i, m + 1, acc, hk, hm, ha => by
    have hl' := hl
    unfold Small at hl'
    rw [q_ap_4]
    by_cases hlt : i < l.length
    · have hc := hi _ (List.getElem_mem hlt)
      obtain ⟨h1, h2, h3, h4⟩ := line_ok hs hc
      have h5 := size64 hs
      have w := within3_iff.1 hc
      have s := sides_iff.1 hs
      rw [ltT hlt, inB_at hlt, nthA (t := T_A3) hlt, f_l2Long l (show (0 : Int) ≤ 1 by decide) (by decide), drop_at l i hlt, succI i (by omega)]
      have e : IntKind.wrap .i64 (IntKind.wrap .i64 ((bif decide ((0 : Int) = (0 : Int)) then l[i].1 else (bif decide ((0 : Int) = (1 : Int)) then l[i].2.1 else l[i].2.2.1)) * side3 X Y Z 1) + (bif decide ((1 : Int) = (0 : Int)) then l[i].1 else (bif decide ((1 : Int) = (1 : Int)) then l[i].2.1 else l[i].2.2.1))) = lineI Y l[i] := by
        show IntKind.wrap .i64 (IntKind.wrap .i64 (l[i].1 * Y) + l[i].2.1) = _
        unfold lineI at *
        rw [w64 (x := l[i].1 * Y) (by omega) (by omega), w64 (by omega) (by omega)]
      simp only [cond_true, Option.bind_some, show inB (0 : Int) 3 = true from rfl, show inB (1 : Int) 3 = true from rfl] at e ⊢
      rw [e, inB_line hs hc ha]
      simp only [cond_true, List.foldl_cons]
      exact l_viewS hs hl hi (d - 1) (i + 1) m (upL Y acc l[i]) (by omega) (by omega) (by rw [upL_len, ha])
    · rw [ltF hlt, List.drop_eq_nil_of_le (by omega)]
      rfl
def cols (X Y : Int) (l : List D_A3) : List Int := l.foldl (upL Y) (List.replicate (X * Y).toNat 0)
theorem foldl_upL_len (Y : Int) : ∀ (l : List D_A3) (acc : List Int), (l.foldl (upL Y) acc).length = acc.length
  | [], _ => rfl
  | c :: l, acc => by rw [List.foldl_cons, foldl_upL_len Y l, upL_len]
theorem cols_len (X Y : Int) (l : List D_A3) : (cols X Y l).length = (X * Y).toNat := by
  unfold cols
  rw [foldl_upL_len, List.length_replicate]
theorem guardN {n : Int} (h0 : 0 ≤ n) (h1 : n ≤ 1000) : (decide ((0 : Int) ≤ n) && decide (n ≤ n) && decide (n * ((8 : Nat) : Int) ≤ 140737488355328) && decide (n ≤ 140737488355328)) = true := by
  rw [decide_eq_true h0, decide_eq_true (Int.le_refl n), decide_eq_true (p := n * ((8 : Nat) : Int) ≤ 140737488355328) (by omega), decide_eq_true (p := n ≤ 140737488355328) (by omega)]
  rfl
theorem f_viewS {X Y Z : Int} (hs : sides X Y Z = true) {l : List D_A3} (hl : Small l) (hi : Ins X Y Z l) : P_ap ((X, Y, Z, l, ()), 2, ()) = some (cols X Y l, ()) := by
  have h5 := size64 hs
  rw [p_ap, p_ci]
  simp only [show decide ((2 : Int) = 0) = false from rfl, show decide ((2 : Int) = 1) = false from rfl, cond_false, Option.bind_some]
  rw [f_l2Long l (show (0 : Int) ≤ 0 by decide) (by decide), f_l2Long l (show (0 : Int) ≤ 1 by decide) (by decide)]
  simp only [Option.bind_some]
  have e : IntKind.wrap .i64 (side3 X Y Z 0 * side3 X Y Z 1) = X * Y := by
    show IntKind.wrap .i64 (X * Y) = _
    rw [w64 (by omega) (by omega)]
  rw [e, guardN (by omega) (by omega)]
  exact l_viewS hs hl hi l.length 0 N (List.replicate (X * Y).toNat 0) (by simp) (by unfold Small at hl; have := N_ge; omega) (by simp)
def lowC (Y : Int) (V : List Int) (c : D_A3) : Bool := decide (c.2.2.1 < nth ((.int .i64) : Ty) V (lineI Y c))
theorem l_stackS {X Y Z X' Y' Z' : Int} (hs : sides X Y Z = true) {V : List Int} (hV : V.length = (X * Y).toNat) {al : List D_A3} (hal : Small al) (hin : Ins X Y Z al) : ∀ (d i m : Nat) (out : List D_A3), al.length = i + d → d < m → out.length ≤ i →
    l_a2_4 m 0 0 0 [] X' Y' Z' out Y V al (i : Int) = some ((X', Y', Z', out ++ (al.drop i).filter (lowC Y V), ()), ())
  | d, i, 0, out, _, h, _ => by omega
  | d, i, m + 1, out, hk, hm, ho => by
    have hal' := hal
    unfold Small at hal'
    rw [q_a2_4]
    by_cases hlt : i < al.length
    · have hc := hin _ (List.getElem_mem hlt)
      obtain ⟨h1, h2, h3, h4⟩ := line_ok hs hc
      have h5 := size64 hs
      have w := within3_iff.1 hc
      have s := sides_iff.1 hs
      have e : IntKind.wrap .i64 (IntKind.wrap .i64 (al[i].1 * Y) + al[i].2.1) = lineI Y al[i] := by
        unfold lineI at *
        rw [w64 (x := al[i].1 * Y) (by omega) (by omega), w64 (by omega) (by omega)]
      rw [ltT hlt, inB_at hlt, nthA (t := T_A3) hlt, e, inB_line hs hc hV, app_len' (by omega), drop_at al i hlt, succI i (by omega)]
      simp only [cond_true, List.filter_cons]
      cases hlow : decide (al[i].2.2.1 < nth ((.int .i64) : Ty) V (lineI Y al[i])) with
      | false =>
        have hl2 : lowC Y V al[i] = false := hlow
        rw [hl2]
        simp only [cond_false, Bool.false_eq_true, if_false]
        exact l_stackS hs hV hal hin (d - 1) (i + 1) m out (by omega) (by omega) (by omega)
      | true =>
        have hl2 : lowC Y V al[i] = true := hlow
        rw [hl2]
        simp only [cond_true, if_true]
        rw [l_stackS hs hV hal hin (d - 1) (i + 1) m _ (by omega) (by omega) (by simp; omega)]
        simp
    · rw [ltF hlt, List.drop_eq_nil_of_le (by omega)]
      simp
end Go.VI
/- Plain: views, shadows and the bound by lines. -/
namespace Go.VI
open Go.Proofs
def o1 (d : Int) : Int := bif decide (d = 0) then 1 else 0
def o2 (d : Int) : Int := bif decide (d = 0) then 2 else (bif decide (d = 1) then 2 else 1)
def lineD (X Y Z d : Int) (c : D_A3) : Int := get3 c (o1 d) * side3 X Y Z (o2 d) + get3 c (o2 d)
def linesD (X Y Z d : Int) : Int := side3 X Y Z (o1 d) * side3 X Y Z (o2 d)
theorem lines_ok {X Y Z : Int} (hs : sides X Y Z = true) {d : Int} (d0 : 0 ≤ d) (d1 : d ≤ 2) : 1 ≤ linesD X Y Z d ∧ linesD X Y Z d ≤ 16 := by
  have s := sides_iff.1 hs
  have h : ∀ a b : Int, 1 ≤ a → a ≤ 4 → 1 ≤ b → b ≤ 4 → 1 ≤ a * b ∧ a * b ≤ 16 := fun a b a0 a1 b0 b1 => by
    rcases four a0 a1 with rfl | rfl | rfl | rfl <;> omega
  rcases dir d0 d1 with rfl | rfl | rfl
  · exact h Y Z s.2.1.1 s.2.1.2 s.2.2.1 s.2.2.2
  · exact h X Z s.1.1 s.1.2 s.2.2.1 s.2.2.2
  · exact h X Y s.1.1 s.1.2 s.2.1.1 s.2.1.2
theorem lineD_ok {X Y Z : Int} (hs : sides X Y Z = true) {d : Int} (d0 : 0 ≤ d) (d1 : d ≤ 2) {c : D_A3} (hc : within3 X Y Z c = true) : 0 ≤ lineD X Y Z d c ∧ lineD X Y Z d c < linesD X Y Z d ∧ 0 ≤ get3 c (o1 d) * side3 X Y Z (o2 d) ∧ get3 c (o1 d) * side3 X Y Z (o2 d) ≤ 16 ∧ 0 ≤ get3 c (o2 d) ∧ get3 c (o2 d) ≤ 3 := by
  have s := sides_iff.1 hs
  have w := within3_iff.1 hc
  have h : ∀ a b x y : Int, 1 ≤ a → a ≤ 4 → 1 ≤ b → b ≤ 4 → 0 ≤ x → x ≤ a - 1 → 0 ≤ y → y ≤ b - 1 → 0 ≤ x * b + y ∧ x * b + y < a * b ∧ 0 ≤ x * b ∧ x * b ≤ 16 ∧ 0 ≤ y ∧ y ≤ 3 := fun a b x y a0 a1 b0 b1 _ _ _ _ => by
    rcases four a0 a1 with rfl | rfl | rfl | rfl <;> rcases four b0 b1 with rfl | rfl | rfl | rfl <;> omega
  rcases dir d0 d1 with rfl | rfl | rfl
  · exact h Y Z c.2.1 c.2.2.1 s.2.1.1 s.2.1.2 s.2.2.1 s.2.2.2 w.2.1.1 w.2.1.2 w.2.2.1 w.2.2.2
  · exact h X Z c.1 c.2.2.1 s.1.1 s.1.2 s.2.2.1 s.2.2.2 w.1.1 w.1.2 w.2.2.1 w.2.2.2
  · exact h X Y c.1 c.2.1 s.1.1 s.1.2 s.2.1.1 s.2.1.2 w.1.1 w.1.2 w.2.1.1 w.2.1.2
theorem others_eq (d : Int) : P_c2 (d, ()) = some (o1 d, o2 d, ()) := by
  rw [p_c2]
  unfold o1 o2
  cases decide (d = 0) <;> cases decide (d = 1) <;> rfl
theorem l2Others_eq (d : Int) : P_ci (d, ()) = some (o1 d, o2 d, ()) := by
  rw [p_ci]
  unfold o1 o2
  cases decide (d = 0) <;> cases decide (d = 1) <;> rfl
theorem o1_ok (d : Int) : 0 ≤ o1 d ∧ o1 d ≤ 2 := by
  unfold o1
  cases decide (d = 0) <;> decide
theorem o2_ok (d : Int) : 0 ≤ o2 d ∧ o2 d ≤ 2 := by
  unfold o2
  cases decide (d = 0) <;> cases decide (d = 1) <;> decide
theorem f_lineD {X Y Z : Int} (hs : sides X Y Z = true) {d : Int} (d0 : 0 ≤ d) (d1 : d ≤ 2) {c : D_A3} (hc : within3 X Y Z c = true) : P_a1 ((X, Y, Z, ()), c, d, ()) = some (lineD X Y Z d c, ()) := by
  obtain ⟨h1, h2, h3, h4, h5, h6⟩ := lineD_ok hs d0 d1 hc
  have h7 := lines_ok hs d0 d1
  rw [p_a1, others_eq]
  simp only [Option.bind_some]
  rw [inB_dir (o1_ok d).1 (o1_ok d).2, inB_dir (o2_ok d).1 (o2_ok d).2]
  show some (IntKind.wrap .i64 (IntKind.wrap .i64 (get3 c (o1 d) * side3 X Y Z (o2 d)) + get3 c (o2 d)), ()) = _
  unfold lineD at *
  rw [w64 (x := get3 c (o1 d) * side3 X Y Z (o2 d)) (by omega) (by omega), w64 (by omega) (by omega)]
theorem f_linesD {X Y Z : Int} (hs : sides X Y Z = true) {d : Int} (d0 : 0 ≤ d) (d1 : d ≤ 2) : P_cj ((X, Y, Z, ()), d, ()) = some (linesD X Y Z d, ()) := by
  have h5 := size64 hs
  have s := sides_iff.1 hs
  have h7 := lines_ok hs d0 d1
  have e : (((X * Y * Z).toNat : Nat) : Int) = X * Y * Z := by omega
  rw [p_cj, f_size hs, e]
  simp only [Option.bind_some]
  rw [inB_dir d0 d1]
  have hd := side3_ok hs d
  have hdiv : Int.tdiv (X * Y * Z) (side3 X Y Z d) = linesD X Y Z d := by
    have hm : X * Y * Z = linesD X Y Z d * side3 X Y Z d := by
      rcases dir d0 d1 with rfl | rfl | rfl
      · show X * Y * Z = Y * Z * X
        rw [Int.mul_assoc, Int.mul_comm X]
      · show X * Y * Z = X * Z * Y
        rw [Int.mul_assoc, Int.mul_comm Y, ← Int.mul_assoc]
      · rfl
    rw [hm]
    exact Int.mul_tdiv_cancel _ (by omega)
  show (bif !decide (side3 X Y Z d = 0) then some (IntKind.wrap .i64 (Int.tdiv (X * Y * Z) (side3 X Y Z d)), ()) else none) = _
  rw [decide_eq_false (by omega), hdiv, w64 (by omega) (by omega)]
  rfl
def upD (X Y Z d : Int) (acc : List Int) (c : D_A3) : List Int := List.set acc (Int.toNat (lineD X Y Z d c)) (IntKind.wrap .i64 ((nth ((.int .i64) : Ty) acc (lineD X Y Z d c)) + 1))
theorem upD_len {X Y Z d : Int} {acc : List Int} {c : D_A3} : (upD X Y Z d acc c).length = acc.length := by simp [upD]
theorem inB_lineD {X Y Z : Int} (hs : sides X Y Z = true) {d : Int} (d0 : 0 ≤ d) (d1 : d ≤ 2) {c : D_A3} (hc : within3 X Y Z c = true) {acc : List Int} (ha : acc.length = (linesD X Y Z d).toNat) : inB (lineD X Y Z d c) acc.length = true := by
  obtain ⟨h1, h2, _⟩ := lineD_ok hs d0 d1 hc
  unfold inB
  rw [Bool.and_eq_true, decide_eq_true_eq, decide_eq_true_eq]
  omega
theorem l_viewID {X Y Z : Int} (hs : sides X Y Z = true) {dr : Int} (d0 : 0 ≤ dr) (d1 : dr ≤ 2) {l : List D_A3} (hl : Small l) (hi : Ins X Y Z l) : ∀ (d i m : Nat) (acc : List Int), l.length = i + d → d < m → acc.length = (linesD X Y Z dr).toNat →
    l_be_3 m X Y Z dr acc l (l.length : Int) (i : Int) = some ((l.drop i).foldl (upD X Y Z dr) acc, ())
  | d, i, 0, acc, _, h, _ => by omega
  | d, i, m + 1, acc, hk, hm, ha => by
    have hl' := hl
    unfold Small at hl'
    rw [q_be_3]
    by_cases hlt : i < l.length
    · have hc := hi _ (List.getElem_mem hlt)
      rw [ltT hlt, inB_at hlt, nthA (t := T_A3) hlt, f_lineD hs d0 d1 hc, drop_at l i hlt, succI i (by omega)]
      simp only [cond_true, Option.bind_some]
      rw [inB_lineD hs d0 d1 hc ha]
      simp only [cond_true, List.foldl_cons]
      exact l_viewID hs d0 d1 hl hi (d - 1) (i + 1) m (upD X Y Z dr acc l[i]) (by omega) (by omega) (by rw [upD_len, ha])
    · rw [ltF hlt, List.drop_eq_nil_of_le (by omega)]
      rfl
theorem l_viewSD {X Y Z : Int} (hs : sides X Y Z = true) {dr : Int} (d0 : 0 ≤ dr) (d1 : dr ≤ 2) {l : List D_A3} (hl : Small l) (hi : Ins X Y Z l) : ∀ (d i m : Nat) (acc : List Int), l.length = i + d → d < m → acc.length = (linesD X Y Z dr).toNat →
    l_ap_4 m X Y Z l (o1 dr) (o2 dr) acc (i : Int) = some ((l.drop i).foldl (upD X Y Z dr) acc, ())
  | d, i, 0, acc, _, h, _ => by omega
  | d, i, m + 1, acc, hk, hm, ha => by
    have hl' := hl
    unfold Small at hl'
    rw [q_ap_4]
    by_cases hlt : i < l.length
    · have hc := hi _ (List.getElem_mem hlt)
      obtain ⟨h1, h2, h3, h4, h5, h6⟩ := lineD_ok hs d0 d1 hc
      have h7 := lines_ok hs d0 d1
      rw [ltT hlt, inB_at hlt, nthA (t := T_A3) hlt, f_l2Long l (o2_ok dr).1 (o2_ok dr).2, drop_at l i hlt, succI i (by omega), inB_dir (o1_ok dr).1 (o1_ok dr).2, inB_dir (o2_ok dr).1 (o2_ok dr).2]
      have e : IntKind.wrap .i64 (IntKind.wrap .i64 (get3 l[i] (o1 dr) * side3 X Y Z (o2 dr)) + get3 l[i] (o2 dr)) = lineD X Y Z dr l[i] := by
        unfold lineD at *
        rw [w64 (x := get3 l[i] (o1 dr) * side3 X Y Z (o2 dr)) (by omega) (by omega), w64 (by omega) (by omega)]
      unfold get3 at e
      simp only [cond_true, Option.bind_some]
      rw [e, inB_lineD hs d0 d1 hc ha]
      simp only [cond_true, List.foldl_cons]
      exact l_viewSD hs d0 d1 hl hi (d - 1) (i + 1) m (upD X Y Z dr acc l[i]) (by omega) (by omega) (by rw [upD_len, ha])
    · rw [ltF hlt, List.drop_eq_nil_of_le (by omega)]
      rfl
def viewD (X Y Z d : Int) (l : List D_A3) : List Int := l.foldl (upD X Y Z d) (List.replicate (linesD X Y Z d).toNat 0)
theorem f_viewSD {X Y Z : Int} (hs : sides X Y Z = true) {d : Int} (d0 : 0 ≤ d) (d1 : d ≤ 2) {l : List D_A3} (hl : Small l) (hi : Ins X Y Z l) : P_ap ((X, Y, Z, l, ()), d, ()) = some (viewD X Y Z d l, ()) := by
  have h5 := lines_ok hs d0 d1
  rw [p_ap, l2Others_eq]
  simp only [Option.bind_some]
  rw [f_l2Long l (o1_ok d).1 (o1_ok d).2, f_l2Long l (o2_ok d).1 (o2_ok d).2]
  simp only [Option.bind_some]
  have e : IntKind.wrap .i64 (side3 X Y Z (o1 d) * side3 X Y Z (o2 d)) = linesD X Y Z d := by
    unfold linesD at *
    rw [w64 (by omega) (by omega)]
  rw [e, guardN (by omega) (by omega)]
  exact l_viewSD hs d0 d1 hl hi l.length 0 N (List.replicate (linesD X Y Z d).toNat 0) (by simp) (by unfold Small at hl; have := N_ge; omega) (by simp)
theorem f_viewIB {X Y Z : Int} (hs : sides X Y Z = true) {d : Int} (d0 : 0 ≤ d) (d1 : d ≤ 2) (v : BitVec 64) : P_be ((X, Y, Z, ()), (v.toNat : Int), d, ()) = some (viewD X Y Z d (bitCells X Y Z v), ()) := by
  have h5 := lines_ok hs d0 d1
  have hi : Ins X Y Z (bitCells X Y Z v) := fun c hc => ((mem_listOf hs v c).1 hc).1
  have hsm := small_listOf hs v
  rw [p_be, f_linesD hs d0 d1]
  simp only [Option.bind_some]
  rw [guardN (by omega) (by omega), f_an hs]
  exact l_viewID hs d0 d1 hsm hi (bitCells X Y Z v).length 0 N (List.replicate (linesD X Y Z d).toNat 0) (by simp) (by unfold Small at hsm; have := N_ge; omega) (by simp)
theorem upD_at {X Y Z : Int} (hs : sides X Y Z = true) {d : Int} (d0 : 0 ≤ d) (d1 : d ≤ 2) : ∀ (l : List D_A3) (acc : List Int) (b : Nat), Ins X Y Z l → acc.length = (linesD X Y Z d).toNat → (∀ x ∈ acc, 0 ≤ x ∧ x ≤ b) → b + l.length ≤ 10000000 →
    (l.foldl (upD X Y Z d) acc).length = acc.length ∧ ∀ (i : Nat) (h : i < acc.length), (l.foldl (upD X Y Z d) acc)[i]? = some (acc[i] + ((l.filter fun c => decide (lineD X Y Z d c = i)).length : Int))
  | [], acc, b, _, _, _, _ => ⟨rfl, fun i h => by simp [h]⟩
  | c :: l, acc, b, hi, ha, hb, hn => by
    have hc := hi c (List.mem_cons_self ..)
    obtain ⟨h1, h2, _⟩ := lineD_ok hs d0 d1 hc
    obtain ⟨k, hk⟩ : ∃ k : Nat, lineD X Y Z d c = (k : Int) := ⟨(lineD X Y Z d c).toNat, by omega⟩
    have hkl : k < acc.length := by omega
    have hk0 := hb _ (List.getElem_mem hkl)
    simp only [List.length_cons] at hn
    have hu : upD X Y Z d acc c = acc.set k (acc[k] + 1) := by
      unfold upD
      rw [hk, nthA (t := .int .i64) hkl, w64 (by omega) (by omega)]
      rfl
    obtain ⟨g1, g2⟩ := upD_at hs d0 d1 l (upD X Y Z d acc c) (b + 1) (fun x hx => hi x (List.mem_cons_of_mem _ hx)) (by rw [upD_len, ha]) (by
      rw [hu]
      intro x hx
      rcases List.mem_or_eq_of_mem_set hx with hx | rfl
      · have := hb x hx; omega
      · omega) (by omega)
    rw [List.foldl_cons]
    refine ⟨by rw [g1, upD_len], fun i h => ?_⟩
    rw [g2 i (by rw [upD_len]; exact h)]
    simp only [hu, List.filter_cons, hk]
    by_cases e : k = i
    · subst e
      rw [List.getElem_set_self, decide_eq_true (by rfl)]
      simp only [if_true, List.length_cons]
      congr 1
      omega
    · rw [List.getElem_set_ne (by omega), decide_eq_false (by omega)]
      simp
def shD (X Y Z d : Int) (l : List D_A3) : List Int := (List.range (linesD X Y Z d).toNat).map fun i : Nat => if l.any fun c => decide (lineD X Y Z d c = (i : Int)) then 1 else 0
theorem shD_len (X Y Z d : Int) (l : List D_A3) : (shD X Y Z d l).length = (linesD X Y Z d).toNat := by simp [shD]
theorem view_at {X Y Z : Int} (hs : sides X Y Z = true) {d : Int} (d0 : 0 ≤ d) (d1 : d ≤ 2) {l : List D_A3} (hl : Small l) (hi : Ins X Y Z l) : (viewD X Y Z d l).length = (linesD X Y Z d).toNat ∧ ∀ (i : Nat), i < (linesD X Y Z d).toNat → (viewD X Y Z d l)[i]? = some (((l.filter fun c => decide (lineD X Y Z d c = i)).length : Int)) := by
  have h := upD_at hs d0 d1 l (List.replicate (linesD X Y Z d).toNat 0) 0 hi (by simp) (fun x hx => by rw [List.eq_of_mem_replicate hx]; omega) (by unfold Small at hl; omega)
  refine ⟨by rw [viewD, h.1, List.length_replicate], fun i h' => ?_⟩
  rw [viewD, h.2 i (by simpa using h'), List.getElem_replicate, Int.zero_add]
def min1 (n : Int) : Int := bif decide (1 < n) then 1 else n
theorem ones_view {X Y Z : Int} (hs : sides X Y Z = true) {d : Int} (d0 : 0 ≤ d) (d1 : d ≤ 2) {l : List D_A3} (hl : Small l) (hi : Ins X Y Z l) : (viewD X Y Z d l).map min1 = shD X Y Z d l := by
  obtain ⟨h1, h2⟩ := view_at hs d0 d1 hl hi
  apply List.ext_getElem?
  intro i
  by_cases h : i < (linesD X Y Z d).toNat
  · rw [List.getElem?_map, h2 i h, shD, List.getElem?_map, List.getElem?_range h]
    simp only [Option.map_some]
    congr 1
    cases ha : l.any fun c => decide (lineD X Y Z d c = (i : Int)) with
    | true =>
      obtain ⟨c, hc, hd⟩ := List.any_eq_true.1 ha
      have : 0 < (l.filter fun c => decide (lineD X Y Z d c = (i : Int))).length := List.length_pos_of_mem (List.mem_filter.2 ⟨hc, hd⟩)
      unfold min1
      by_cases h2 : 1 < (((l.filter fun c => decide (lineD X Y Z d c = (i : Int))).length : Nat) : Int)
      · rw [decide_eq_true h2]; rfl
      · rw [decide_eq_false h2]
        simp only [cond_false, if_true]
        omega
    | false =>
      have : l.filter (fun c => decide (lineD X Y Z d c = (i : Int))) = [] := List.filter_eq_nil_iff.2 fun c hc => by
        have := List.any_eq_false.1 ha c hc
        simpa using this
      rw [this]
      rfl
  · rw [List.getElem?_eq_none (by rw [List.length_map, h1]; omega), List.getElem?_eq_none (by rw [shD_len]; omega)]
theorem least1 (n : Int) : P_df (n, 1, ()) = some (min1 n, ()) := by
  rw [p_df]
  unfold min1
  by_cases h : n < 1
  · rw [decide_eq_true h, decide_eq_false (by omega)]; rfl
  · by_cases h1 : n = 1
    · subst h1; rfl
    · rw [decide_eq_false h, decide_eq_true (by omega)]; rfl
theorem l_ones {v : List Int} (hv : v.length ≤ 1000000) : ∀ (d i m : Nat) (out : List Int), v.length = i + d → d < m → out.length ≤ i → l_a0_3 m v out (i : Int) = some (out ++ (v.drop i).map min1, ())
  | d, i, 0, out, _, h, _ => by omega
  | d, i, m + 1, out, hk, hm, ho => by
    rw [q_a0_3]
    by_cases hlt : i < v.length
    · rw [ltT hlt, inB_at hlt, nthA (t := .int .i64) hlt, least1, drop_at v i hlt, succI i (by omega)]
      simp only [cond_true, Option.bind_some, List.map_cons]
      rw [decide_eq_true (by simp; omega), decide_eq_true (by simp; omega)]
      simp only [Bool.and_self, cond_true]
      rw [l_ones hv (d - 1) (i + 1) m (out ++ [min1 v[i]]) (by omega) (by omega) (by simp; omega), List.append_assoc]
      rfl
    · rw [ltF hlt, List.drop_eq_nil_of_le (by omega)]
      simp
theorem f_onesV {X Y Z : Int} (hs : sides X Y Z = true) {d : Int} (d0 : 0 ≤ d) (d1 : d ≤ 2) {l : List D_A3} (hl : Small l) (hi : Ins X Y Z l) : P_a0 (viewD X Y Z d l, ()) = some (shD X Y Z d l, ()) := by
  obtain ⟨h1, _⟩ := view_at hs d0 d1 hl hi
  have h2 := lines_ok hs d0 d1
  rw [p_a0]
  have e := l_ones (v := viewD X Y Z d l) (by omega) (viewD X Y Z d l).length 0 N [] (by simp) (by have := N_ge; omega) (by simp)
  have e' : l_a0_3 N (viewD X Y Z d l) [] 0 = _ := e
  rw [e', ← ones_view hs d0 d1 hl hi]
  rfl
def shadowOf (X Y Z : Int) (l : List D_A3) : D_Shadow := (X, Y, Z, shD X Y Z 2 l, shD X Y Z 1 l, shD X Y Z 0 l, ())
theorem f_l3Of {X Y Z : Int} (hs : sides X Y Z = true) {l : List D_A3} (hl : Small l) (hi : Ins X Y Z l) : P_cf ((X, Y, Z, l, ()), ()) = some (shadowOf X Y Z l, ()) := by
  rw [p_cf, p_co, p_ct, p_cl, f_viewSD hs (by decide) (by decide) hl hi, f_viewSD hs (by decide) (by decide) hl hi, f_viewSD hs (by decide) (by decide) hl hi]
  simp only [Option.bind_some]
  rw [f_onesV hs (by decide) (by decide) hl hi, f_onesV hs (by decide) (by decide) hl hi, f_onesV hs (by decide) (by decide) hl hi]
  rfl
theorem set_min {L V : List Int} {k : Nat} (hk : k < V.length) (hl : L.length = V.length) (hd : L.drop k = V.drop k) :
    nth ((.int .i64) : Ty) L (k : Int) = V[k] ∧ (L.set k (min1 V[k])).length = V.length ∧ (L.set k (min1 V[k])).drop (k + 1) = V.drop (k + 1) ∧ (L.set k (min1 V[k])).take (k + 1) ++ (V.drop (k + 1)).map min1 = L.take k ++ (V.drop k).map min1 := by
  have hk' : k < L.length := by omega
  have e : L[k] = V[k] := by
    have h1 := drop_at L k hk'
    have h2 := drop_at V k hk
    rw [hd, h2] at h1
    exact (List.cons.inj h1).1.symm
  refine ⟨by rw [nthA (t := .int .i64) hk', e], by simp [hl], ?_, ?_⟩
  · rw [List.drop_set_of_lt (by omega), ← List.drop_drop, hd, List.drop_drop]
  · rw [List.take_add_one, List.take_set_of_le (by omega), List.getElem?_set_self hk', drop_at V k hk, List.map_cons, Option.toList_some, List.append_assoc]
    rfl
theorem bif_min (n : Int) : (bif decide (1 < n) then 1 else n) = min1 n := rfl
theorem l_sh7 (m0 : Nat) (a b c d e f : Int) (g h i : List Int) (j k : List Int) (w : Int) (V : List Int) (hV : V.length ≤ 100) : ∀ (n q m : Nat) (L : List Int), V.length = q + n → n < m → L.length = V.length → L.drop q = V.drop q →
    l_aa_7 m0 m a b c d e f g h i L j k w 0 0 (V.length : Int) (q : Int) = l_aa_3 m0 a b c d e f g h i (L.take q ++ (V.drop q).map min1) j k w 1
  | n, q, 0, L, _, h, _, _ => by omega
  | n, q, m + 1, L, hk, hm, hl, hd => by
    rw [q_aa_7]
    by_cases hlt : q < V.length
    · obtain ⟨s1, s2, s3, s4⟩ := set_min hlt hl hd
      have hlt' : q < L.length := by omega
      rw [ltT hlt, inB_at hlt', s1, succI q (by omega), bif_min]
      simp only [cond_true, show inB (0 : Int) 3 = true from rfl]
      show l_aa_7 m0 m a b c d e f g h i (L.set q (min1 V[q])) j k w 0 0 (V.length : Int) ((q + 1 : Nat) : Int) = _
      rw [l_sh7 m0 a b c d e f g h i j k w V hV (n - 1) (q + 1) m _ (by omega) (by omega) s2 s3, s4]
    · rw [ltF hlt, List.drop_eq_nil_of_le (by omega), List.take_of_length_le (by omega)]
      simp only [cond_false, List.map_nil, List.append_nil]
      rfl
theorem l_sh1007 (m0 : Nat) (a b c d e f : Int) (g h i : List Int) (j k : List Int) (w : Int) (V : List Int) (hV : V.length ≤ 100) : ∀ (n q m : Nat) (L : List Int), V.length = q + n → n < m → L.length = V.length → L.drop q = V.drop q →
    l_aa_1007 m0 m a b c d e f g h i j L k w 1 1 (V.length : Int) (q : Int) = l_aa_3 m0 a b c d e f g h i j (L.take q ++ (V.drop q).map min1) k w 2
  | n, q, 0, L, _, h, _, _ => by omega
  | n, q, m + 1, L, hk, hm, hl, hd => by
    rw [q_aa_1007]
    by_cases hlt : q < V.length
    · obtain ⟨s1, s2, s3, s4⟩ := set_min hlt hl hd
      have hlt' : q < L.length := by omega
      rw [ltT hlt, inB_at hlt', s1, succI q (by omega), bif_min]
      simp only [cond_true, cond_false, show inB (1 : Int) 3 = true from rfl, show decide ((1 : Int) = 0) = false from rfl]
      show l_aa_1007 m0 m a b c d e f g h i j (L.set q (min1 V[q])) k w 1 1 (V.length : Int) ((q + 1 : Nat) : Int) = _
      rw [l_sh1007 m0 a b c d e f g h i j k w V hV (n - 1) (q + 1) m _ (by omega) (by omega) s2 s3, s4]
    · rw [ltF hlt, List.drop_eq_nil_of_le (by omega), List.take_of_length_le (by omega)]
      simp only [cond_false, List.map_nil, List.append_nil]
      rfl
theorem l_sh2007 (m0 : Nat) (a b c d e f : Int) (g h i : List Int) (j k : List Int) (w : Int) (V : List Int) (hV : V.length ≤ 100) : ∀ (n q m : Nat) (L : List Int), V.length = q + n → n < m → L.length = V.length → L.drop q = V.drop q →
    l_aa_2007 m0 m a b c d e f g h i j k L w 2 2 (V.length : Int) (q : Int) = l_aa_3 m0 a b c d e f g h i j k (L.take q ++ (V.drop q).map min1) w 3
  | n, q, 0, L, _, h, _, _ => by omega
  | n, q, m + 1, L, hk, hm, hl, hd => by
    rw [q_aa_2007]
    by_cases hlt : q < V.length
    · obtain ⟨s1, s2, s3, s4⟩ := set_min hlt hl hd
      have hlt' : q < L.length := by omega
      rw [ltT hlt, inB_at hlt', s1, succI q (by omega), bif_min]
      simp only [cond_true, cond_false, show inB (2 : Int) 3 = true from rfl, show decide ((2 : Int) = 1) = false from rfl, show decide ((2 : Int) = 0) = false from rfl]
      show l_aa_2007 m0 m a b c d e f g h i j k (L.set q (min1 V[q])) w 2 2 (V.length : Int) ((q + 1 : Nat) : Int) = _
      rw [l_sh2007 m0 a b c d e f g h i j k w V hV (n - 1) (q + 1) m _ (by omega) (by omega) s2 s3, s4]
    · rw [ltF hlt, List.drop_eq_nil_of_le (by omega), List.take_of_length_le (by omega)]
      simp only [cond_false, List.map_nil, List.append_nil]
      rfl
theorem f_shadowB {X Y Z : Int} (hs : sides X Y Z = true) (v : BitVec 64) : P_aa ((X, Y, Z, ()), (v.toNat : Int), ()) = some (shadowOf X Y Z (bitCells X Y Z v), ()) := by
  obtain ⟨n, hn⟩ : ∃ n, N = n + 10 := ⟨N - 10, by have := N_ge; omega⟩
  have hi : Ins X Y Z (bitCells X Y Z v) := fun c hc => ((mem_listOf hs v c).1 hc).1
  have hsm := small_listOf hs v
  have hlen : ∀ {d : Int}, 0 ≤ d → d ≤ 2 → (viewD X Y Z d (bitCells X Y Z v)).length ≤ 100 := fun {d} d0 d1 => by
    have h1 := (view_at hs d0 d1 hsm hi).1
    have h2 := lines_ok hs d0 d1
    omega
  have key : ∀ m, l_aa_3 (m + 4) X Y Z 0 0 0 [] [] [] [] [] [] (v.toNat : Int) 0 = some (shadowOf X Y Z (bitCells X Y Z v), ()) := by
    intro m
    have h1 : l_aa_7 (m + 3) N X Y Z 0 0 0 [] [] [] (viewD X Y Z 0 (bitCells X Y Z v)) [] [] (v.toNat : Int) 0 0 ((viewD X Y Z 0 (bitCells X Y Z v)).length : Int) 0 = _ :=
      l_sh7 (m + 3) X Y Z 0 0 0 [] [] [] [] [] (v.toNat : Int) (viewD X Y Z 0 (bitCells X Y Z v)) (hlen (by decide) (by decide)) _ 0 N _ (Nat.zero_add _).symm (by have := hlen (d := 0) (by decide) (by decide); have := N_ge; omega) rfl rfl
    have h2 : l_aa_1007 (m + 2) N X Y Z 0 0 0 [] [] [] (shD X Y Z 0 (bitCells X Y Z v)) (viewD X Y Z 1 (bitCells X Y Z v)) [] (v.toNat : Int) 1 1 ((viewD X Y Z 1 (bitCells X Y Z v)).length : Int) 0 = _ :=
      l_sh1007 (m + 2) X Y Z 0 0 0 [] [] [] (shD X Y Z 0 (bitCells X Y Z v)) [] (v.toNat : Int) (viewD X Y Z 1 (bitCells X Y Z v)) (hlen (by decide) (by decide)) _ 0 N _ (Nat.zero_add _).symm (by have := hlen (d := 1) (by decide) (by decide); have := N_ge; omega) rfl rfl
    have h3 : l_aa_2007 (m + 1) N X Y Z 0 0 0 [] [] [] (shD X Y Z 0 (bitCells X Y Z v)) (shD X Y Z 1 (bitCells X Y Z v)) (viewD X Y Z 2 (bitCells X Y Z v)) (v.toNat : Int) 2 2 ((viewD X Y Z 2 (bitCells X Y Z v)).length : Int) 0 = _ :=
      l_sh2007 (m + 1) X Y Z 0 0 0 [] [] [] (shD X Y Z 0 (bitCells X Y Z v)) (shD X Y Z 1 (bitCells X Y Z v)) (v.toNat : Int) (viewD X Y Z 2 (bitCells X Y Z v)) (hlen (by decide) (by decide)) _ 0 N _ (Nat.zero_add _).symm (by have := hlen (d := 2) (by decide) (by decide); have := N_ge; omega) rfl rfl
    rw [q_aa_3, f_viewIB hs (by decide) (by decide)]
    show l_aa_7 (m + 3) N X Y Z 0 0 0 [] [] [] (viewD X Y Z 0 (bitCells X Y Z v)) [] [] (v.toNat : Int) 0 0 ((viewD X Y Z 0 (bitCells X Y Z v)).length : Int) 0 = _
    rw [h1, List.take_zero, List.drop_zero, List.nil_append, ones_view hs (by decide) (by decide) hsm hi, q_aa_3, f_viewIB hs (by decide) (by decide)]
    show l_aa_1007 (m + 2) N X Y Z 0 0 0 [] [] [] (shD X Y Z 0 (bitCells X Y Z v)) (viewD X Y Z 1 (bitCells X Y Z v)) [] (v.toNat : Int) 1 1 ((viewD X Y Z 1 (bitCells X Y Z v)).length : Int) 0 = _
    rw [h2, List.take_zero, List.drop_zero, List.nil_append, ones_view hs (by decide) (by decide) hsm hi, q_aa_3, f_viewIB hs (by decide) (by decide)]
    show l_aa_2007 (m + 1) N X Y Z 0 0 0 [] [] [] (shD X Y Z 0 (bitCells X Y Z v)) (shD X Y Z 1 (bitCells X Y Z v)) (viewD X Y Z 2 (bitCells X Y Z v)) (v.toNat : Int) 2 2 ((viewD X Y Z 2 (bitCells X Y Z v)).length : Int) 0 = _
    rw [h3, List.take_zero, List.drop_zero, List.nil_append, ones_view hs (by decide) (by decide) hsm hi, q_aa_3]
    rfl
  rw [p_aa]
  show l_aa_3 N X Y Z 0 0 0 [] [] [] [] [] [] (v.toNat : Int) 0 = _
  rw [hn]
  exact key (n + 6)
end Go.VI
/- Plain: benches. -/
namespace Go.VI
open Go.Proofs
end Go.VI
/- Plain: valid shadows, the bound by lines, and the gap. -/
namespace Go.VI
open Go.Proofs
def bit01 (x : Int) : Bool := decide (0 ≤ x) && decide (x ≤ 1)
def onesB (l : List Int) (n : Int) : Bool := l.all bit01 && decide ((l.length : Int) = n)
def listD (s : D_Shadow) (d : Int) : List Int := bif decide (d = 0) then s.2.2.2.2.2.1 else (bif decide (d = 1) then s.2.2.2.2.1 else s.2.2.2.1)
def okSh (s : D_Shadow) : Bool := sides s.1 s.2.1 s.2.2.1 && (onesB (listD s 0) (linesD s.1 s.2.1 s.2.2.1 0) && (onesB (listD s 1) (linesD s.1 s.2.1 s.2.2.1 1) && onesB (listD s 2) (linesD s.1 s.2.1 s.2.2.1 2)))
def SmallS (s : D_Shadow) : Prop := Small s.2.2.2.1 ∧ Small s.2.2.2.2.1 ∧ Small s.2.2.2.2.2.1
theorem f_sList (s : D_Shadow) {d : Int} (d0 : 0 ≤ d) (d1 : d ≤ 2) : P_bw (s, d, ()) = some (listD s d, ()) := by
  rw [p_bw]
  rcases dir d0 d1 with rfl | rfl | rfl <;> rfl
theorem small_list {s : D_Shadow} (h : SmallS s) {d : Int} (d0 : 0 ≤ d) (d1 : d ≤ 2) : Small (listD s d) := by
  rcases dir d0 d1 with rfl | rfl | rfl
  · exact h.2.2
  · exact h.2.1
  · exact h.1
theorem l_allWithin {l : List Int} (hl : Small l) (a b : Int) : ∀ (d i m : Nat), l.length = i + d → d < m → l_bo_2 m a b l (l.length : Int) (i : Int) = some ((l.drop i).all fun x => decide (a ≤ x) && decide (x ≤ b), ())
  | d, i, 0, _, h => by omega
  | d, i, m + 1, hk, hm => by
    have hl' := hl
    unfold Small at hl'
    rw [q_bo_2]
    by_cases hlt : i < l.length
    · rw [ltT hlt, inB_at hlt, nthA (t := .int .i64) hlt, f_bl, drop_at l i hlt, succI i (by omega), l_allWithin hl a b (d - 1) (i + 1) m (by omega) (by omega)]
      simp only [cond_true, Option.bind_some, List.all_cons]
      cases decide (a ≤ l[i]) && decide (l[i] ≤ b) <;> rfl
    · rw [ltF hlt, List.drop_eq_nil_of_le (by omega)]
      rfl
theorem f_allWithin {l : List Int} (hl : Small l) (a b : Int) : P_bo (l, a, b, ()) = some (l.all fun x => decide (a ≤ x) && decide (x ≤ b), ()) := by
  rw [p_bo]
  exact l_allWithin hl a b l.length 0 N (by simp) (by unfold Small at hl; have := N_ge; omega)
theorem l_isSh (s : D_Shadow) (hs : sides s.1 s.2.1 s.2.2.1 = true) (hm : SmallS s) (m : Nat) {d : Int} (d0 : 0 ≤ d) (d1 : d ≤ 2) :
    l_ao_4 (m + 1) s.1 s.2.1 s.2.2.1 s.2.2.2.1 s.2.2.2.2.1 s.2.2.2.2.2.1 d = bif onesB (listD s d) (linesD s.1 s.2.1 s.2.2.1 d) then l_ao_4 m s.1 s.2.1 s.2.2.1 s.2.2.2.1 s.2.2.2.2.1 s.2.2.2.2.2.1 (d + 1) else some (false, ()) := by
  rw [q_ao_4, decide_eq_true (p := d < 3) (by omega)]
  have e1 : P_bw ((s.1, (s.2.1, (s.2.2.1, (s.2.2.2.1, (s.2.2.2.2.1, (s.2.2.2.2.2.1, ())))))), d, ()) = _ := f_sList s d0 d1
  rw [e1, p_ae]
  simp only [cond_true, Option.bind_some]
  rw [f_linesD hs d0 d1]
  simp only [Option.bind_some]
  rw [f_allWithin (small_list hm d0 d1), w64 (x := d + 1) (by omega) (by omega)]
  unfold onesB
  cases hc : decide (((listD s d).length : Int) = linesD s.1 s.2.1 s.2.2.1 d) with
  | false => simp
  | true =>
    simp only [Bool.not_true, cond_false, Option.bind_some, Bool.and_true]
    show (bif !(listD s d).all bit01 then _ else _) = _
    cases (listD s d).all bit01 <;> rfl
theorem l_isSh3 (s : D_Shadow) (m : Nat) : l_ao_4 (m + 1) s.1 s.2.1 s.2.2.1 s.2.2.2.1 s.2.2.2.2.1 s.2.2.2.2.2.1 3 = some (true, ()) := by
  rw [q_ao_4]
  rfl
theorem f_isShadow (s : D_Shadow) (hm : SmallS s) : P_ao (s, ()) = some (okSh s, ()) := by
  rw [p_ao, p_ae]
  simp only [Option.bind_some]
  rw [f_ca]
  simp only [Option.bind_some]
  unfold okSh
  cases hs : sides s.1 s.2.1 s.2.2.1 with
  | false => rfl
  | true =>
    obtain ⟨n, hn⟩ : ∃ n, N = n + 4 := ⟨N - 4, by have := N_ge; omega⟩
    simp only [Bool.not_true, cond_false, Bool.true_and]
    rw [hn, l_isSh s hs hm (n + 3) (d := 0) (by decide) (by decide)]
    cases onesB (listD s 0) (linesD s.1 s.2.1 s.2.2.1 0) with
    | false => rfl
    | true =>
      simp only [cond_true, Bool.true_and]
      rw [show (0 : Int) + 1 = 1 from rfl, l_isSh s hs hm (n + 2) (d := 1) (by decide) (by decide)]
      cases onesB (listD s 1) (linesD s.1 s.2.1 s.2.2.1 1) with
      | false => rfl
      | true =>
        simp only [cond_true, Bool.true_and]
        rw [show (1 : Int) + 1 = 2 from rfl, l_isSh s hs hm (n + 1) (d := 2) (by decide) (by decide), show (2 : Int) + 1 = 3 from rfl, l_isSh3]
        cases onesB (listD s 2) (linesD s.1 s.2.1 s.2.2.1 2) <;> rfl
theorem l_ones3 {l : List Int} (hl : Small l) (n : Int) : ∀ (d i m : Nat), l.length = i + d → d < m → l_bd_2 m l n (i : Int) = some ((l.drop i).all bit01 && decide ((l.length : Int) = n), ())
  | d, i, 0, _, h => by omega
  | d, i, m + 1, hk, hm => by
    have hl' := hl
    unfold Small at hl'
    rw [q_bd_2]
    by_cases hlt : i < l.length
    · rw [ltT hlt, inB_at hlt, nthA (t := .int .i64) hlt, f_bn, drop_at l i hlt, succI i (by omega), l_ones3 hl n (d - 1) (i + 1) m (by omega) (by omega)]
      simp only [cond_true, Option.bind_some, List.all_cons]
      show (bif !bit01 l[i] then _ else _) = _
      cases bit01 l[i] <;> rfl
    · rw [ltF hlt, List.drop_eq_nil_of_le (by omega)]
      rfl
theorem f_ones3 {l : List Int} (hl : Small l) (n : Int) : P_bd (l, n, ()) = some (onesB l n, ()) := by
  rw [p_bd]
  exact l_ones3 hl n l.length 0 N (by simp) (by unfold Small at hl; have := N_ge; omega)
theorem f_l3Shadow (s : D_Shadow) (hm : SmallS s) : P_b9 (s, ()) = some (okSh s, ()) := by
  rw [p_b9, f_b0]
  simp only [Option.bind_some]
  unfold okSh
  cases hs : sides s.1 s.2.1 s.2.2.1 with
  | false => rfl
  | true =>
    have g0 := lines_ok hs (d := 0) (by decide) (by decide)
    have g1 := lines_ok hs (d := 1) (by decide) (by decide)
    have g2 := lines_ok hs (d := 2) (by decide) (by decide)
    have e0 : IntKind.wrap .i64 (s.2.1 * s.2.2.1) = linesD s.1 s.2.1 s.2.2.1 0 := w64 (by have : linesD s.1 s.2.1 s.2.2.1 0 = s.2.1 * s.2.2.1 := rfl; omega) (by have : linesD s.1 s.2.1 s.2.2.1 0 = s.2.1 * s.2.2.1 := rfl; omega)
    have e1 : IntKind.wrap .i64 (s.1 * s.2.2.1) = linesD s.1 s.2.1 s.2.2.1 1 := w64 (by have : linesD s.1 s.2.1 s.2.2.1 1 = s.1 * s.2.2.1 := rfl; omega) (by have : linesD s.1 s.2.1 s.2.2.1 1 = s.1 * s.2.2.1 := rfl; omega)
    have e2 : IntKind.wrap .i64 (s.1 * s.2.1) = linesD s.1 s.2.1 s.2.2.1 2 := w64 (by have : linesD s.1 s.2.1 s.2.2.1 2 = s.1 * s.2.1 := rfl; omega) (by have : linesD s.1 s.2.1 s.2.2.1 2 = s.1 * s.2.1 := rfl; omega)
    rw [e0, e1, e2, f_ones3 hm.1, f_ones3 hm.2.1, f_ones3 hm.2.2]
    simp only [cond_true, Option.bind_some, Bool.true_and]
    show (bif onesB (listD s 2) (linesD s.1 s.2.1 s.2.2.1 2) then bif onesB (listD s 1) (linesD s.1 s.2.1 s.2.2.1 1) then some (onesB (listD s 0) (linesD s.1 s.2.1 s.2.2.1 0), ()) else some (false, ()) else some (false, ())) = _
    cases onesB (listD s 0) (linesD s.1 s.2.1 s.2.2.1 0) <;> cases onesB (listD s 1) (linesD s.1 s.2.1 s.2.2.1 1) <;> cases onesB (listD s 2) (linesD s.1 s.2.1 s.2.2.1 2) <;> rfl
def lit (l : List Int) : Int := l.foldl (· + ·) 0
theorem lit_from : ∀ (l : List Int) (a : Int), (∀ x ∈ l, bit01 x = true) → a ≤ l.foldl (· + ·) a ∧ l.foldl (· + ·) a ≤ a + l.length
  | [], a, _ => by simp
  | x :: l, a, h => by
    have hx := h x (List.mem_cons_self ..)
    unfold bit01 at hx
    rw [Bool.and_eq_true, decide_eq_true_eq, decide_eq_true_eq] at hx
    have := lit_from l (a + x) fun y hy => h y (List.mem_cons_of_mem _ hy)
    rw [List.foldl_cons, List.length_cons]
    omega
theorem lit_ok {l : List Int} {n : Int} (h : onesB l n = true) (hn : n ≤ 16) : 0 ≤ lit l ∧ lit l ≤ 16 ∧ (∀ x ∈ l, bit01 x = true) ∧ (l.length : Int) = n := by
  unfold onesB at h
  rw [Bool.and_eq_true, decide_eq_true_eq] at h
  have h1 := fun x hx => List.all_eq_true.1 h.1 x hx
  have := lit_from l 0 h1
  unfold lit
  exact ⟨by omega, by omega, h1, h.2⟩
theorem l_lb9 (m0 : Nat) (s : D_Shadow) (most d : Int) {l : List Int} (h1 : ∀ x ∈ l, bit01 x = true) (hl : l.length ≤ 16) : ∀ (n i m : Nat) (a : Int), l.length = i + n → n < m → 0 ≤ a → a ≤ i →
    l_al_9 m0 m s.1 s.2.1 s.2.2.1 s.2.2.2.1 s.2.2.2.2.1 s.2.2.2.2.2.1 most a d l (l.length : Int) (i : Int) = l_al_5 m0 s.1 s.2.1 s.2.2.1 s.2.2.2.1 s.2.2.2.2.1 s.2.2.2.2.2.1 (bif decide ((l.drop i).foldl (· + ·) a > most) then (l.drop i).foldl (· + ·) a else most) (IntKind.wrap .i64 (d + 1))
  | n, i, 0, a, _, h, _, _ => by omega
  | n, i, m + 1, a, hk, hm, a0, a1 => by
    rw [q_al_9]
    by_cases hlt : i < l.length
    · have hx := h1 _ (List.getElem_mem hlt)
      unfold bit01 at hx
      rw [Bool.and_eq_true, decide_eq_true_eq, decide_eq_true_eq] at hx
      rw [ltT hlt, inB_at hlt, nthA (t := .int .i64) hlt, drop_at l i hlt, succI i (by omega), w64 (x := a + l[i]) (by omega) (by omega), l_lb9 m0 s most d h1 hl (n - 1) (i + 1) m _ (by omega) (by omega) (by omega) (by omega)]
      rfl
    · rw [ltF hlt, List.drop_eq_nil_of_le (by omega)]
      rfl
theorem l_lb5 (s : D_Shadow) (m : Nat) (most : Int) {d : Int} (d0 : 0 ≤ d) (d1 : d ≤ 2) {n : Int} (h : onesB (listD s d) n = true) (hn : n ≤ 16) :
    l_al_5 (m + 1) s.1 s.2.1 s.2.2.1 s.2.2.2.1 s.2.2.2.2.1 s.2.2.2.2.2.1 most d = l_al_5 m s.1 s.2.1 s.2.2.1 s.2.2.2.1 s.2.2.2.2.1 s.2.2.2.2.2.1 (bif decide (lit (listD s d) > most) then lit (listD s d) else most) (d + 1) := by
  obtain ⟨h0, h1, h2, h3⟩ := lit_ok h hn
  rw [q_al_5, decide_eq_true (p := d < 3) (by omega)]
  have e1 : P_bw ((s.1, (s.2.1, (s.2.2.1, (s.2.2.2.1, (s.2.2.2.2.1, (s.2.2.2.2.2.1, ())))))), d, ()) = _ := f_sList s d0 d1
  rw [e1]
  simp only [cond_true, Option.bind_some]
  have e2 := l_lb9 m s most d h2 (by omega) (listD s d).length 0 N 0 (by simp) (by have := N_ge; omega) (by omega) (by omega)
  have e2' : l_al_9 m N s.1 s.2.1 s.2.2.1 s.2.2.2.1 s.2.2.2.2.1 s.2.2.2.2.2.1 most 0 d (listD s d) ((listD s d).length : Int) 0 = _ := e2
  rw [e2', w64 (x := d + 1) (by omega) (by omega)]
  rfl
def mx (a b : Int) : Int := bif decide (a > b) then a else b
theorem mx_eq (a b : Int) : mx a b = if a ≤ b then b else a := by
  unfold mx
  by_cases h : a ≤ b
  · rw [decide_eq_false (by omega), if_pos h]; rfl
  · rw [decide_eq_true (by omega), if_neg h]; rfl
def bound (s : D_Shadow) : Int := mx (lit (listD s 2)) (mx (lit (listD s 1)) (mx (lit (listD s 0)) 0))
theorem f_LineBound (s : D_Shadow) (hm : SmallS s) : P_al (s, ()) = some (if okSh s then (bound s, true, ()) else (0, false, ())) := by
  rw [p_al, f_isShadow s hm]
  simp only [Option.bind_some]
  cases ho : okSh s with
  | false => rfl
  | true =>
    have ho' := ho
    unfold okSh at ho'
    simp only [Bool.and_eq_true] at ho'
    obtain ⟨hs, h0, h1, h2⟩ := ho'
    obtain ⟨n, hn⟩ : ∃ n, N = n + 4 := ⟨N - 4, by have := N_ge; omega⟩
    simp only [Bool.not_true, cond_false, if_true]
    rw [hn, l_lb5 s (n + 3) 0 (d := 0) (by decide) (by decide) h0 (lines_ok hs (by decide) (by decide)).2, show (0 : Int) + 1 = 1 from rfl, l_lb5 s (n + 2) _ (d := 1) (by decide) (by decide) h1 (lines_ok hs (by decide) (by decide)).2, show (1 : Int) + 1 = 2 from rfl, l_lb5 s (n + 1) _ (d := 2) (by decide) (by decide) h2 (lines_ok hs (by decide) (by decide)).2, q_al_5]
    rfl
theorem shadowOf_small (X Y Z : Int) (l : List D_A3) (hs : sides X Y Z = true) : SmallS (shadowOf X Y Z l) := by
  have h : ∀ d : Int, 0 ≤ d → d ≤ 2 → Small (shD X Y Z d l) := fun d d0 d1 => by
    have := lines_ok hs d0 d1
    unfold Small
    rw [shD_len]
    omega
  exact ⟨h 2 (by decide) (by decide), h 1 (by decide) (by decide), h 0 (by decide) (by decide)⟩
theorem ones_shD {X Y Z : Int} (hs : sides X Y Z = true) {d : Int} (d0 : 0 ≤ d) (d1 : d ≤ 2) (l : List D_A3) : onesB (shD X Y Z d l) (linesD X Y Z d) = true := by
  have h := lines_ok hs d0 d1
  unfold onesB
  rw [Bool.and_eq_true, decide_eq_true_eq, shD_len]
  refine ⟨List.all_eq_true.2 fun x hx => ?_, by omega⟩
  unfold shD at hx
  obtain ⟨i, _, rfl⟩ := List.mem_map.1 hx
  split <;> rfl
theorem shadowOf_ok {X Y Z : Int} (hs : sides X Y Z = true) (l : List D_A3) : okSh (shadowOf X Y Z l) = true := by
  unfold okSh
  simp only [Bool.and_eq_true]
  exact ⟨hs, ones_shD hs (by decide) (by decide) l, ones_shD hs (by decide) (by decide) l, ones_shD hs (by decide) (by decide) l⟩
end Go.VI
