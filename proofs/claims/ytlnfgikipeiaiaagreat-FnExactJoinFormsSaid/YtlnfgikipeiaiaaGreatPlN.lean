/- Plain: what is reached from cell to cell. -/
import Derived.Test.YtlnfgikipeiaiaaGreatWjComp
namespace Go.VI
open Go.Proofs
def nb (c d : D_A3) : Prop := ∃ k, k < 6 ∧ d = stp k c
theorem nb_iff {c d : D_A3} : nb c d ↔ (d.2.1 = c.2.1 ∧ d.2.2.1 = c.2.2.1 ∧ (d.1 = c.1 - 1 ∨ d.1 = c.1 + 1)) ∨ (d.1 = c.1 ∧ d.2.2.1 = c.2.2.1 ∧ (d.2.1 = c.2.1 - 1 ∨ d.2.1 = c.2.1 + 1)) ∨ (d.1 = c.1 ∧ d.2.1 = c.2.1 ∧ (d.2.2.1 = c.2.2.1 - 1 ∨ d.2.2.1 = c.2.2.1 + 1)) := by
  obtain ⟨x, y, z, ⟨⟩⟩ := c
  obtain ⟨x', y', z', ⟨⟩⟩ := d
  constructor
  · rintro ⟨k, hk, e⟩
    rcases six hk with rfl | rfl | rfl | rfl | rfl | rfl <;> simp only [stp, Prod.mk.injEq, and_true] at e <;> obtain ⟨rfl, rfl, rfl⟩ := e <;> simp <;> omega
  · rintro (⟨h1, h2, h3 | h3⟩ | ⟨h1, h2, h3 | h3⟩ | ⟨h1, h2, h3 | h3⟩) <;> simp only at h1 h2 h3 <;> subst h1 <;> subst h2 <;> subst h3
    · exact ⟨0, by omega, by simp [stp]; omega⟩
    · exact ⟨1, by omega, by simp [stp]⟩
    · exact ⟨2, by omega, by simp [stp]; omega⟩
    · exact ⟨3, by omega, by simp [stp]⟩
    · exact ⟨4, by omega, by simp [stp]; omega⟩
    · exact ⟨5, by omega, by simp [stp]⟩
theorem nb_symm {c d : D_A3} (h : nb c d) : nb d c := by
  rw [nb_iff] at h ⊢
  omega
inductive Rch (p q : D_A3 → Prop) : D_A3 → Prop
  | base {c : D_A3} : p c → Rch p q c
  | step {c d : D_A3} : Rch p q c → nb c d → q d → Rch p q d
theorem Rch.mono {p p' q q' : D_A3 → Prop} (hp : ∀ c, p c → Rch p' q' c) (hq : ∀ c, q c → q' c) {c : D_A3} (h : Rch p q c) : Rch p' q' c := by
  induction h with
  | base h => exact hp _ h
  | step _ hn hd ih => exact .step ih hn (hq _ hd)
theorem Rch.of {p q r : D_A3 → Prop} (hp : ∀ c, p c → r c) (hq : ∀ c d, r c → nb c d → q d → r d) {c : D_A3} (h : Rch p q c) : r c := by
  induction h with
  | base h => exact hp _ h
  | step _ hn hd ih => exact hq _ _ ih hn hd
def nears (X Y Z : Int) (c : D_A3) : List D_A3 := ((List.range 6).map fun k => stp k c).filter (within3 X Y Z)
theorem mem_nears {X Y Z : Int} {c d : D_A3} : d ∈ nears X Y Z c ↔ within3 X Y Z d = true ∧ nb c d := by
  unfold nears nb
  simp only [List.mem_filter, List.mem_map, List.mem_range]
  constructor
  · rintro ⟨⟨k, hk, rfl⟩, h⟩; exact ⟨h, k, hk, rfl⟩
  · rintro ⟨h, k, hk, rfl⟩; exact ⟨⟨k, hk, rfl⟩, h⟩
theorem ins_nears (X Y Z : Int) (c : D_A3) : Ins X Y Z (nears X Y Z c) := fun d hd => (mem_nears.1 hd).1
def nearB (X Y Z : Int) (c : D_A3) : BitVec 64 := mask Y Z (nears X Y Z c) 0
theorem nearB_bit {X Y Z : Int} (hs : sides X Y Z = true) {c d : D_A3} (hd : within3 X Y Z d = true) : (nearB X Y Z c).getLsbD (idx Y Z d) = true ↔ nb c d := by
  unfold nearB
  rw [mask_mem hs (ins_nears X Y Z c) hd, decide_eq_true_eq, mem_nears]
  exact ⟨fun h => h.2, fun h => ⟨hd, h⟩⟩
def Low (n : Nat) (v : BitVec 64) : Prop := ∀ i, n ≤ i → v.getLsbD i = false
theorem low_mask {X Y Z : Int} (hs : sides X Y Z = true) {l : List D_A3} (hl : Ins X Y Z l) : Low (X * Y * Z).toNat (mask Y Z l 0) := by
  intro i hi
  rw [mask_bit]
  have h0 : (0 : BitVec 64).getLsbD i = false := by simp
  rw [h0, Bool.false_or, Bool.and_eq_false_iff]
  right
  rw [List.any_eq_false]
  intro c hc
  have := (idx_eq hs (hl c hc)).2.1
  simp only [decide_eq_true_eq]
  omega
theorem low_ext {n : Nat} {v w : BitVec 64} (hv : Low n v) (hw : Low n w) (h : ∀ i, i < n → v.getLsbD i = w.getLsbD i) : v = w := by
  apply BitVec.eq_of_getLsbD_eq
  intro i _
  by_cases hi : i < n
  · exact h i hi
  · rw [hv i (by omega), hw i (by omega)]
theorem box_ext {X Y Z : Int} (hs : sides X Y Z = true) {v w : BitVec 64} (hv : Low (X * Y * Z).toNat v) (hw : Low (X * Y * Z).toNat w) (h : ∀ c, within3 X Y Z c = true → v.getLsbD (idx Y Z c) = w.getLsbD (idx Y Z c)) : v = w := by
  refine low_ext hv hw fun i hi => ?_
  obtain ⟨h1, h2⟩ := cellOf_ok hs hi
  rw [← h2]
  exact h _ h1
def growR (X Y Z : Int) (u v : BitVec 64) : (d k : Nat) → BitVec 64 → BitVec 64
  | 0, _, acc => acc
  | d + 1, k, acc => growR X Y Z u v d (k + 1) (bif v.getLsbD k then acc ||| (nearB X Y Z (cellOf Y Z k) &&& u) else acc)
theorem growR_bit (X Y Z : Int) (u v : BitVec 64) (i : Nat) : ∀ (d k : Nat) (acc : BitVec 64), (growR X Y Z u v d k acc).getLsbD i = true ↔ acc.getLsbD i = true ∨ ∃ j, k ≤ j ∧ j < k + d ∧ v.getLsbD j = true ∧ (nearB X Y Z (cellOf Y Z j)).getLsbD i = true ∧ u.getLsbD i = true
  | 0, k, acc => by
    simp only [growR]
    constructor
    · exact .inl
    · rintro (h | ⟨j, h1, h2, _⟩)
      · exact h
      · omega
  | d + 1, k, acc => by
    rw [growR, growR_bit X Y Z u v i d (k + 1)]
    cases hk : v.getLsbD k with
    | false =>
      simp only [cond_false]
      constructor
      · rintro (h | ⟨j, h1, h2, h3⟩)
        · exact .inl h
        · exact .inr ⟨j, by omega, by omega, h3⟩
      · rintro (h | ⟨j, h1, h2, h3⟩)
        · exact .inl h
        · have : j ≠ k := fun e => by rw [e, hk] at h3; cases h3.1
          exact .inr ⟨j, by omega, by omega, h3⟩
    | true =>
      simp only [cond_true, BitVec.getLsbD_or, BitVec.getLsbD_and, Bool.or_eq_true, Bool.and_eq_true]
      constructor
      · rintro ((h | h) | ⟨j, h1, h2, h3⟩)
        · exact .inl h
        · exact .inr ⟨k, by omega, by omega, hk, h.1, h.2⟩
        · exact .inr ⟨j, by omega, by omega, h3⟩
      · rintro (h | ⟨j, h1, h2, h3, h4, h5⟩)
        · exact .inl (.inl h)
        · by_cases e : j = k
          · subst e; exact .inl (.inr ⟨h4, h5⟩)
          · exact .inr ⟨j, by omega, by omega, h3, h4, h5⟩
def grow1 (X Y Z : Int) (u v : BitVec 64) : BitVec 64 := growR X Y Z u v (X * Y * Z).toNat 0 v
theorem grow1_low {X Y Z : Int} {u v : BitVec 64} (hv : Low (X * Y * Z).toNat v) (hu : Low (X * Y * Z).toNat u) : Low (X * Y * Z).toNat (grow1 X Y Z u v) := by
  intro i hi
  cases hb : (grow1 X Y Z u v).getLsbD i with
  | false => rfl
  | true =>
    unfold grow1 at hb
    rw [growR_bit] at hb
    rcases hb with hb | ⟨_, _, _, _, _, hb⟩
    · rw [hv i hi] at hb; cases hb
    · rw [hu i hi] at hb; cases hb
theorem grow1_sub {X Y Z : Int} {u v : BitVec 64} (i : Nat) (h : v.getLsbD i = true) : (grow1 X Y Z u v).getLsbD i = true := by
  unfold grow1
  rw [growR_bit]
  exact .inl h
def unset (n : Nat) (v : BitVec 64) : Nat := ((List.range n).filter fun i => !v.getLsbD i).length
theorem filter_lt {α : Type} (p p' : α → Bool) : ∀ (l : List α), (∀ x ∈ l, p' x = true → p x = true) → (∃ x ∈ l, p x = true ∧ p' x = false) → (l.filter p').length < (l.filter p).length
  | [], _, h => by obtain ⟨x, hx, _⟩ := h; cases hx
  | a :: l, h, hx => by
    have le : ∀ (l : List α), (∀ x ∈ l, p' x = true → p x = true) → (l.filter p').length ≤ (l.filter p).length := by
      intro l
      induction l with
      | nil => intro _; simp
      | cons b l ih =>
        intro h
        have := ih fun x hx => h x (List.mem_cons_of_mem _ hx)
        cases hb' : p' b with
        | false =>
          cases hb : p b <;> simp [List.filter_cons, hb, hb'] <;> omega
        | true =>
          have hb := h b (List.mem_cons_self ..) hb'
          simp [List.filter_cons, hb, hb']; omega
    obtain ⟨x, hx, h1, h2⟩ := hx
    have hl := le l fun x hx => h x (List.mem_cons_of_mem _ hx)
    rcases List.mem_cons.1 hx with rfl | hx
    · simp only [List.filter_cons, h1, h2, if_true, List.length_cons, Bool.false_eq_true, if_false]
      omega
    · have ih := filter_lt p p' l (fun x hx => h x (List.mem_cons_of_mem _ hx)) ⟨x, hx, h1, h2⟩
      cases ha' : p' a with
      | false => cases ha : p a <;> simp [List.filter_cons, ha, ha'] <;> omega
      | true =>
        have ha := h a (List.mem_cons_self ..) ha'
        simp [List.filter_cons, ha, ha']; omega
theorem unset_lt {n : Nat} {v w : BitVec 64} (hv : Low n v) (hw : Low n w) (hsub : ∀ i, v.getLsbD i = true → w.getLsbD i = true) (hne : w ≠ v) : unset n w < unset n v := by
  unfold unset
  refine filter_lt _ _ _ (fun i _ h => ?_) ?_
  · cases hb : v.getLsbD i with
    | false => rfl
    | true => rw [hsub i hb] at h; exact h
  · apply Classical.byContradiction
    intro hno
    apply hne
    refine low_ext hw hv fun i hi => ?_
    cases hb : v.getLsbD i with
    | true => exact hsub i hb
    | false =>
      cases hb' : w.getLsbD i with
      | false => rfl
      | true => exact absurd ⟨i, List.mem_range.2 hi, by simp [hb], by simp [hb']⟩ hno
theorem unset_le (n : Nat) (v : BitVec 64) : unset n v ≤ n := by
  unfold unset
  have := List.length_filter_le (fun i => !v.getLsbD i) (List.range n)
  simpa using this
def bitP (X Y Z : Int) (v : BitVec 64) (c : D_A3) : Prop := within3 X Y Z c = true ∧ v.getLsbD (idx Y Z c) = true
theorem Rch.within {X Y Z : Int} {v u : BitVec 64} {c : D_A3} (h : Rch (bitP X Y Z v) (bitP X Y Z u) c) : within3 X Y Z c = true := by
  induction h with
  | base h => exact h.1
  | step _ _ h _ => exact h.1
theorem grow1_reach {X Y Z : Int} (hs : sides X Y Z = true) {v0 u v : BitVec 64} (h : ∀ c, bitP X Y Z v c → Rch (bitP X Y Z v0) (bitP X Y Z u) c) (c : D_A3) (hc : bitP X Y Z (grow1 X Y Z u v) c) : Rch (bitP X Y Z v0) (bitP X Y Z u) c := by
  obtain ⟨h1, h2⟩ := hc
  unfold grow1 at h2
  rw [growR_bit] at h2
  rcases h2 with h2 | ⟨j, _, hj, h3, h4, h5⟩
  · exact h c ⟨h1, h2⟩
  · obtain ⟨k1, k2⟩ := cellOf_ok (i := j) hs (by omega)
    exact .step (h _ ⟨k1, by rw [k2]; exact h3⟩) ((nearB_bit hs h1).1 h4) ⟨h1, h5⟩
theorem grow1_closed {X Y Z : Int} (hs : sides X Y Z = true) {v0 u w : BitVec 64} (hsub : ∀ i, v0.getLsbD i = true → w.getLsbD i = true) (hw : grow1 X Y Z u w = w) (c : D_A3) (h : Rch (bitP X Y Z v0) (bitP X Y Z u) c) : w.getLsbD (idx Y Z c) = true := by
  induction h with
  | base h => exact hsub _ h.2
  | step hr hn hd ih =>
    rename_i c d
    have hc := hr.within
    rw [← hw]
    unfold grow1
    rw [growR_bit]
    refine .inr ⟨idx Y Z c, Nat.zero_le _, by have := (idx_eq hs hc).2.1; omega, ih, ?_, hd.2⟩
    rw [cellOf_idx hs hc]
    exact (nearB_bit hs hd.1).2 hn
def FreeC (X Y Z : Int) (l : List D_A3) (d : D_A3) : Prop := within3 X Y Z d = true ∧ d ∉ l
def Outer (X Y Z : Int) (l : List D_A3) (c : D_A3) : Prop := FreeC X Y Z l c ∧ ∃ m, within3 X Y Z m = false ∧ nb m c
def OutP (X Y Z : Int) (l : List D_A3) : D_A3 → Prop := Rch (Outer X Y Z l) (FreeC X Y Z l)
structure Bfs (X Y Z : Int) (l M : List D_A3) (n k : Nat) (ls sn : List D_A3) : Prop where
  srt : Srt sn
  ins : Ins X Y Z sn
  out : ∀ c ∈ sn, OutP X Y Z l c
  mem : ∀ c, c ∈ ls ↔ c ∈ M ∨ c ∈ sn
  done : ∀ i, i < n → ∀ c, ls[i]? = some c → ∀ d, nb c d → FreeC X Y Z l d → d ∈ sn
  part : ∀ c, ls[n]? = some c → ∀ j, j < k → FreeC X Y Z l (stp j c) → stp j c ∈ sn
  len : ls.length = M.length + sn.length
theorem Bfs.next {X Y Z : Int} {l M ls sn : List D_A3} {n : Nat} (h : Bfs X Y Z l M n 6 ls sn) : Bfs X Y Z l M (n + 1) 0 ls sn :=
  ⟨h.srt, h.ins, h.out, h.mem, fun i hi c hc d hd hf => by
    by_cases e : i = n
    · subst e
      obtain ⟨k, hk, rfl⟩ := hd
      exact h.part c hc k hk hf
    · exact h.done i (by omega) c hc d hd hf, fun c _ j hj => by omega, h.len⟩
theorem Bfs.pass {X Y Z : Int} {l M ls sn : List D_A3} {n k : Nat} (h : Bfs X Y Z l M n k ls sn) (hk : ∀ c, ls[n]? = some c → FreeC X Y Z l (stp k c) → stp k c ∈ sn) : Bfs X Y Z l M n (k + 1) ls sn :=
  ⟨h.srt, h.ins, h.out, h.mem, h.done, fun c hc j hj hf => by
    by_cases e : j = k
    · subst e; exact hk c hc hf
    · exact h.part c hc j (by omega) hf, h.len⟩
theorem Bfs.add {X Y Z : Int} {l M ls sn sn' : List D_A3} {n k : Nat} (hM : ∀ m ∈ M, within3 X Y Z m = false) (h : Bfs X Y Z l M n k ls sn) {c : D_A3} (hc : ls[n]? = some c) (hk : k < 6) (hf : FreeC X Y Z l (stp k c)) (hn : stp k c ∉ sn)
 (hs : Srt sn') (hm : ∀ x, x ∈ sn' ↔ x = stp k c ∨ x ∈ sn) : Bfs X Y Z l M n (k + 1) (ls ++ [stp k c]) sn' := by
  have hlt : n < ls.length := (List.getElem?_eq_some_iff.1 hc).1
  have hlen : sn'.length = sn.length + 1 := by
    have hp : sn'.Perm (stp k c :: sn) := by
      refine (List.perm_ext_iff_of_nodup hs.nodup (List.nodup_cons.2 ⟨hn, h.srt.nodup⟩)).2 fun x => ?_
      rw [hm, List.mem_cons]
    simpa using hp.length_eq
  refine ⟨hs, fun x hx => ?_, fun x hx => ?_, fun x => ?_, fun i hi c' hc' d hd hfd => ?_, fun c' hc' j hj hfj => ?_, ?_⟩
  · rcases (hm x).1 hx with rfl | hx
    · exact hf.1
    · exact h.ins x hx
  · rcases (hm x).1 hx with rfl | hx
    · have hcm : c ∈ ls := List.mem_of_getElem? hc
      rcases (h.mem c).1 hcm with hcM | hcs
      · exact .base ⟨hf, c, hM c hcM, k, hk, rfl⟩
      · exact .step (h.out c hcs) ⟨k, hk, rfl⟩ hf
    · exact h.out x hx
  · rw [List.mem_append, List.mem_singleton, h.mem, hm]
    constructor
    · rintro ((h1 | h1) | h1)
      · exact .inl h1
      · exact .inr (.inr h1)
      · exact .inr (.inl h1)
    · rintro (h1 | h1 | h1)
      · exact .inl (.inl h1)
      · exact .inr h1
      · exact .inl (.inr h1)
  · rw [List.getElem?_append_left (by omega)] at hc'
    exact (hm d).2 (.inr (h.done i hi c' hc' d hd hfd))
  · rw [List.getElem?_append_left hlt, hc] at hc'
    obtain rfl := Option.some.inj hc'
    by_cases e : j = k
    · subst e; exact (hm _).2 (.inl rfl)
    · exact (hm _).2 (.inr (h.part c hc j (by omega) hfj))
  · rw [List.length_append, List.length_singleton, h.len, hlen]
    omega
theorem Bfs.all {X Y Z : Int} {l M ls sn : List D_A3} (hM : ∀ m c, within3 X Y Z m = false → within3 X Y Z c = true → nb m c → m ∈ M) (h : Bfs X Y Z l M ls.length 0 ls sn) (c : D_A3) : c ∈ sn ↔ OutP X Y Z l c := by
  have key : ∀ m, m ∈ ls → ∀ d, nb m d → FreeC X Y Z l d → d ∈ sn := by
    intro m hm d hd hf
    obtain ⟨i, hi, e⟩ := List.getElem_of_mem hm
    exact h.done i hi m (by rw [List.getElem?_eq_getElem hi, e]) d hd hf
  refine ⟨h.out c, fun hc => Rch.of (r := fun c => c ∈ sn) (fun c hc => ?_) (fun c d hc hn hf => ?_) hc⟩
  · obtain ⟨hf, m, hm, hn⟩ := hc
    exact key m ((h.mem m).2 (.inl (hM m c hm hf.1 hn))) c hn hf
  · exact key c ((h.mem c).2 (.inr hc)) d hn hf
theorem srt_small64 {X Y Z : Int} (hs : sides X Y Z = true) {l : List D_A3} (hi : Ins X Y Z l) (hr : Srt l) : l.length ≤ 64 := by
  have h1 : l = bitCells X Y Z (mask Y Z l 0) := (listOf_mask hs hi hr).symm
  have h2 := listFrom_length Y Z (mask Y Z l 0) (X * Y * Z).toNat 0
  have h3 := size64 hs
  rw [h1]
  unfold bitCells
  omega
def SetIs (X Y Z : Int) (v : BitVec 64) (g : D_A3 → Bool) : Prop := Low (X * Y * Z).toNat v ∧ ∀ c, within3 X Y Z c = true → v.getLsbD (idx Y Z c) = g c
theorem SetIs.ext {X Y Z : Int} (hs : sides X Y Z = true) {v w : BitVec 64} {g : D_A3 → Bool} (hv : SetIs X Y Z v g) (hw : SetIs X Y Z w g) : v = w :=
  box_ext hs hv.1 hw.1 fun c hc => by rw [hv.2 c hc, hw.2 c hc]
theorem setIs_mask {X Y Z : Int} (hs : sides X Y Z = true) {l : List D_A3} (hl : Ins X Y Z l) : SetIs X Y Z (mask Y Z l 0) (fun c => decide (c ∈ l)) := ⟨low_mask hs hl, fun _ hc => mask_mem hs hl hc⟩
theorem SetIs.cells {X Y Z : Int} (hs : sides X Y Z = true) {v : BitVec 64} {g : D_A3 → Bool} (hv : SetIs X Y Z v g) {l : List D_A3} (hr : Srt l) (hm : ∀ c, c ∈ l ↔ within3 X Y Z c = true ∧ g c = true) : bitCells X Y Z v = l :=
  srt_ext _ _ (srt_listOf hs v) hr fun c => by
    rw [mem_listOf hs, hm]
    constructor
    · rintro ⟨h1, h2⟩; rw [hv.2 c h1] at h2; exact ⟨h1, h2⟩
    · rintro ⟨h1, h2⟩; exact ⟨h1, by rw [hv.2 c h1]; exact h2⟩
theorem SetIs.bits {X Y Z : Int} {v : BitVec 64} {g : D_A3 → Bool} (hv : SetIs X Y Z v g) {q : List D_A3} (hi : Ins X Y Z q) (hg : ∀ c, within3 X Y Z c = true → g c = decide (c ∈ q)) : BitsOf X Y Z v q :=
  ⟨hi, fun c hc => by rw [hv.2 c hc, hg c hc]⟩
end Go.VI
namespace Go.VI
open Go.Proofs
theorem nearB_eq (X Y Z : Int) (c : D_A3) : nearB X Y Z c = (List.range 6).foldl (fun v k => bif within3 X Y Z (stp k c) then v ||| BitVec.twoPow 64 (idx Y Z (stp k c)) else v) 0 := by
  unfold nearB nears mask
  rw [List.foldl_filter, List.foldl_map]
  congr 1
  funext v k
  cases within3 X Y Z (stp k c) <;> rfl
theorem f_size {X Y Z : Int} (hs : sides X Y Z = true) : P_box_size ((X, Y, Z, ()), ()) = some (((X * Y * Z).toNat : Int), ()) := by
  have h := size64 hs
  have s := sides_iff.1 hs
  rw [p_box_size]
  show some (IntKind.wrap .i64 (IntKind.wrap .i64 (X * Y) * Z), ()) = _
  rw [w64 (x := X * Y) (by omega) (by omega), w64 (x := X * Y * Z) (by omega) (by omega)]
  congr 2
  omega
theorem near_step {X Y Z : Int} (hs : sides X Y Z = true) {c : D_A3} (hc : Near c) (m0 m1 : Nat) (v : BitVec 64) (d j : Nat) (hd : d < 3) (hj : j < 2) :
 l_box_near_6 m0 (m1 + 1) X Y Z c.1 c.2.1 c.2.2.1 (v.toNat : Int) (d : Int) (d : Int) (-1) 1 (j : Int) = l_box_near_6 m0 m1 X Y Z c.1 c.2.1 c.2.2.1 (((bif within3 X Y Z (stp (2 * d + j) c) then v ||| BitVec.twoPow 64 (idx Y Z (stp (2 * d + j) c)) else v).toNat : Nat) : Int) (d : Int) (d : Int) (-1) 1 ((j + 1 : Nat) : Int) := by
  rw [q_box_near_6]
  unfold Near at hc
  have hst : (((bif decide ((d : Int) = (0 : Int)) then (IntKind.wrap .i64 ((bif decide ((d : Int) = (0 : Int)) then c.1 else (bif decide ((d : Int) = (1 : Int)) then c.2.1 else c.2.2.1)) + (bif decide ((j : Int) = (0 : Int)) then (-1) else 1))) else c.1), ((bif decide ((d : Int) = (1 : Int)) then (IntKind.wrap .i64 ((bif decide ((d : Int) = (0 : Int)) then c.1 else (bif decide ((d : Int) = (1 : Int)) then c.2.1 else c.2.2.1)) + (bif decide ((j : Int) = (0 : Int)) then (-1) else 1))) else c.2.1), ((bif decide ((d : Int) = (2 : Int)) then (IntKind.wrap .i64 ((bif decide ((d : Int) = (0 : Int)) then c.1 else (bif decide ((d : Int) = (1 : Int)) then c.2.1 else c.2.2.1)) + (bif decide ((j : Int) = (0 : Int)) then (-1) else 1))) else c.2.2.1), ()))) : D_A3) = stp (2 * d + j) c := by
    have e1 : ∀ x : Int, -1000 ≤ x → x ≤ 1000 → IntKind.wrap .i64 (x + -1) = x + -1 := fun x h0 h1 => by rw [w64 (by omega) (by omega)]
    have e2 : ∀ x : Int, -1000 ≤ x → x ≤ 1000 → IntKind.wrap .i64 (x + 1) = x + 1 := fun x h0 h1 => by rw [w64 (by omega) (by omega)]
    have hd3 : d = 0 ∨ d = 1 ∨ d = 2 := by omega
    have hj2 : j = 0 ∨ j = 1 := by omega
    rcases hd3 with rfl | rfl | rfl <;> rcases hj2 with rfl | rfl <;> simp [stp, e1 _ hc.1 hc.2.1, e1 _ hc.2.2.1 hc.2.2.2.1, e1 _ hc.2.2.2.2.1 hc.2.2.2.2.2, e2 _ hc.1 hc.2.1, e2 _ hc.2.2.1 hc.2.2.2.1, e2 _ hc.2.2.2.2.1 hc.2.2.2.2.2]
  rw [hst, decide_eq_true (p := (j : Int) < 2) (by omega), inB_at (k := j) (n := 2) hj, inB_at (k := d) (n := 3) hd, f_box_has (X, Y, Z, ()) _ hs, succI j (by omega)]
  simp only [cond_true, Option.bind_some]
  cases hw : within3 X Y Z (stp (2 * d + j) c) with
  | false => simp
  | true =>
    rw [f_box_index hs hw]
    simp only [cond_true, Option.bind_some]
    rw [decide_eq_true (p := (0 : Int) ≤ (idx Y Z (stp (2 * d + j) c) : Int)) (by omega), shl64, or64]
    rfl
theorem f_near {X Y Z : Int} (hs : sides X Y Z = true) {c : D_A3} (hc : Near c) : P_box_near ((X, Y, Z, ()), c, ()) = some (((nearB X Y Z c).toNat : Int), ()) := by
  obtain ⟨n, hn⟩ : ∃ n, N = n + 10 := ⟨N - 10, by have := N_ge; omega⟩
  have done6 : ∀ (m0 m1 : Nat) (v : BitVec 64) (d : Nat), d < 3 → l_box_near_6 m0 (m1 + 1) X Y Z c.1 c.2.1 c.2.2.1 (v.toNat : Int) (d : Int) (d : Int) (-1) 1 ((2 : Nat) : Int) = l_box_near_3 m0 X Y Z c.1 c.2.1 c.2.2.1 (v.toNat : Int) ((d + 1 : Nat) : Int) := by
    intro m0 m1 v d hd
    rw [q_box_near_6, succI d (by omega)]
    rfl
  have step3 : ∀ (m0 : Nat) (v : BitVec 64) (d : Nat), d < 3 → l_box_near_3 (m0 + 1) X Y Z c.1 c.2.1 c.2.2.1 (v.toNat : Int) (d : Int) = l_box_near_6 m0 N X Y Z c.1 c.2.1 c.2.2.1 (v.toNat : Int) (d : Int) (d : Int) (-1) 1 ((0 : Nat) : Int) := by
    intro m0 v d hd
    rw [q_box_near_3, decide_eq_true (by omega)]
    rfl
  have end3 : ∀ (m0 : Nat) (v : Int), l_box_near_3 (m0 + 1) X Y Z c.1 c.2.1 c.2.2.1 v ((3 : Nat) : Int) = some (v, ()) := by
    intro m0 v
    rw [q_box_near_3]
    rfl
  have round : ∀ (m0 : Nat) (v : BitVec 64) (d : Nat), d < 3 → l_box_near_3 (m0 + 1) X Y Z c.1 c.2.1 c.2.2.1 (v.toNat : Int) (d : Int) = l_box_near_3 m0 X Y Z c.1 c.2.1 c.2.2.1 ((((fun (v : BitVec 64) (k : Nat) => bif within3 X Y Z (stp k c) then v ||| BitVec.twoPow 64 (idx Y Z (stp k c)) else v) ((fun (v : BitVec 64) (k : Nat) => bif within3 X Y Z (stp k c) then v ||| BitVec.twoPow 64 (idx Y Z (stp k c)) else v) v (2 * d + 0)) (2 * d + 1)).toNat : Nat) : Int) ((d + 1 : Nat) : Int) := by
    intro m0 v d hd
    rw [step3 m0 v d hd, hn, near_step hs hc m0 (n + 9) v d 0 hd (by omega), near_step hs hc m0 (n + 8) _ d 1 hd (by omega), done6 m0 (n + 7) _ d hd]
  rw [p_box_near]
  show l_box_near_3 N X Y Z c.1 c.2.1 c.2.2.1 (((0 : BitVec 64).toNat : Nat) : Int) ((0 : Nat) : Int) = _
  rw [hn, round (n + 9) 0 0 (by omega), round (n + 8) _ 1 (by omega), round (n + 7) _ 2 (by omega), end3, nearB_eq]
  rfl
theorem l_grow3 {X Y Z : Int} (hs : sides X Y Z = true) (u v : BitVec 64) (m0 : Nat) : ∀ (d k m : Nat) (acc : BitVec 64), k + d = (X * Y * Z).toNat → d < m →
 l_box_grown_3 m0 m X Y Z (v.toNat : Int) (u.toNat : Int) (acc.toNat : Int) (((X * Y * Z).toNat : Nat) : Int) (k : Int) = if growR X Y Z u v d k acc = v then some ((v.toNat : Int), ()) else l_box_grown_1 m0 X Y Z ((growR X Y Z u v d k acc).toNat : Int) (u.toNat : Int)
  | d, k, 0, acc, _, h => by omega
  | d, k, m + 1, acc, hk, hm => by
    have h64 := size64 hs
    rw [q_box_grown_3]
    cases d with
    | zero =>
      rw [ltF (by omega), growR]
      simp only [cond_false]
      have e : decide ((acc.toNat : Int) = (v.toNat : Int)) = decide (acc = v) := by
        rw [Bool.eq_iff_iff, decide_eq_true_eq, decide_eq_true_eq]
        constructor
        · intro h; exact BitVec.eq_of_toNat_eq (by omega)
        · intro h; rw [h]
      rw [e]
      by_cases h : acc = v <;> simp [h]
    | succ d =>
      obtain ⟨h1, h2⟩ := cellOf_ok hs (i := k) (by omega)
      rw [ltT (by omega), f_set_has, f_box_cell hs (by omega)]
      simp only [cond_true, Option.bind_some]
      rw [f_near hs (near_of hs h1), succI k (by omega), growR]
      simp only [Option.bind_some]
      rw [and64, or64]
      cases v.getLsbD k with
      | false => exact l_grow3 hs u v m0 d (k + 1) m _ (by omega) (by omega)
      | true => exact l_grow3 hs u v m0 d (k + 1) m _ (by omega) (by omega)
theorem l_grow1 {X Y Z : Int} (hs : sides X Y Z = true) (u v : BitVec 64) (m : Nat) : l_box_grown_1 (m + 1) X Y Z (v.toNat : Int) (u.toNat : Int) = if grow1 X Y Z u v = v then some ((v.toNat : Int), ()) else l_box_grown_1 m X Y Z ((grow1 X Y Z u v).toNat : Int) (u.toNat : Int) := by
  rw [q_box_grown_1, f_size hs]
  exact l_grow3 hs u v m (X * Y * Z).toNat 0 N v (by omega) (by have := size64 hs; have := N_ge; omega)
theorem grown_ex {X Y Z : Int} (hs : sides X Y Z = true) {v0 u : BitVec 64} (hu : Low (X * Y * Z).toNat u) : ∀ (n : Nat) (v : BitVec 64), unset (X * Y * Z).toNat v ≤ n → Low (X * Y * Z).toNat v → (∀ i, v0.getLsbD i = true → v.getLsbD i = true) → (∀ c, bitP X Y Z v c → Rch (bitP X Y Z v0) (bitP X Y Z u) c) →
 ∃ w : BitVec 64, (∀ m, n < m → l_box_grown_1 m X Y Z (v.toNat : Int) (u.toNat : Int) = some ((w.toNat : Int), ())) ∧ Low (X * Y * Z).toNat w ∧ ∀ c, bitP X Y Z w c ↔ Rch (bitP X Y Z v0) (bitP X Y Z u) c := by
  intro n
  induction n with
  | zero =>
    intro v hn hv hsub hr
    by_cases h : grow1 X Y Z u v = v
    · refine ⟨v, fun m hm => ?_, hv, fun c => ⟨hr c, fun hc => ⟨hc.within, grow1_closed hs hsub h c hc⟩⟩⟩
      obtain ⟨m, rfl⟩ : ∃ m', m = m' + 1 := ⟨m - 1, by omega⟩
      rw [l_grow1 hs, if_pos h]
    · have := unset_lt hv (grow1_low hv hu) (fun i hi => grow1_sub i hi) h
      omega
  | succ n ih =>
    intro v hn hv hsub hr
    by_cases h : grow1 X Y Z u v = v
    · refine ⟨v, fun m hm => ?_, hv, fun c => ⟨hr c, fun hc => ⟨hc.within, grow1_closed hs hsub h c hc⟩⟩⟩
      obtain ⟨m, rfl⟩ : ∃ m', m = m' + 1 := ⟨m - 1, by omega⟩
      rw [l_grow1 hs, if_pos h]
    · have hlt := unset_lt hv (grow1_low hv hu) (fun i hi => grow1_sub i hi) h
      obtain ⟨w, h1, h2, h3⟩ := ih (grow1 X Y Z u v) (by omega) (grow1_low hv hu) (fun i hi => grow1_sub i (hsub i hi)) (fun c hc => grow1_reach hs hr c hc)
      refine ⟨w, fun m hm => ?_, h2, h3⟩
      obtain ⟨m, rfl⟩ : ∃ m', m = m' + 1 := ⟨m - 1, by omega⟩
      rw [l_grow1 hs, if_neg h]
      exact h1 m (by omega)
theorem f_grown {X Y Z : Int} (hs : sides X Y Z = true) {v u : BitVec 64} (hv : Low (X * Y * Z).toNat v) (hu : Low (X * Y * Z).toNat u) : ∃ w : BitVec 64, P_box_grown ((X, Y, Z, ()), (v.toNat : Int), (u.toNat : Int), ()) = some ((w.toNat : Int), ()) ∧ Low (X * Y * Z).toNat w ∧ ∀ c, bitP X Y Z w c ↔ Rch (bitP X Y Z v) (bitP X Y Z u) c := by
  obtain ⟨w, h1, h2, h3⟩ := grown_ex hs hu 64 v (by have := unset_le (X * Y * Z).toNat v; have := size64 hs; omega) hv (fun _ h => h) (fun c hc => .base hc)
  refine ⟨w, ?_, h2, h3⟩
  rw [p_box_grown]
  exact h1 N (by have := N_ge; omega)
end Go.VI
namespace Go.VI
open Go.Proofs
def sh (d s : Int) (c : D_A3) : D_A3 := ((bif decide (d = 0) then c.1 + s else c.1), (bif decide (d = 1) then c.2.1 + s else c.2.1), (bif decide (d = 2) then c.2.2.1 + s else c.2.2.1), ())
end Go.VI
namespace Go.VI
open Go.Proofs
theorem f_markK (h : D_Heap) (k : Int) (hl : Small h.2.2.2.1) (h0 : 0 ≤ k) (h1 : k ≤ 10000000) : P_laws_markHeap (h, k, ()) = some ((k + 3 * (h.2.2.2.1.length : Int), ()), ((0, 0, 0, marked h.2.2.2.1 k, ()), ())) := by
  have := l_mark2 h.2.2.2.1 k hl h0 h1 h.2.2.2.1.length 0 N h.2.2.2.1 (by simp) (by unfold Small at hl; have := N_ge; omega) rfl (by simp)
  rw [p_laws_markHeap, p_laws_markIntA3S]
  simp only [Int.natCast_zero, Int.mul_zero, Int.add_zero] at this
  rw [this]
  rfl
end Go.VI
namespace Go.VI
open Go.Proofs
theorem cut_lo {l : List D_A3} (k : Nat) : cut l 0 (k : Int) = l.take k := by simp [cut]
theorem cut_hi {l : List D_A3} (k : Nat) : cut l (k : Int) (l.length : Int) = l.drop k := by simp [cut]
theorem f_l2Own {X Y Z : Int} {l : List D_A3} (hl : l.length ≤ 3000000) : P_spec_l2Own ((X, Y, Z, l, ()), ()) = some ((X, Y, Z, l, ()), ()) := by
  rw [p_spec_l2Own]
  simp only [List.length_nil, List.nil_append, p_spec_l2Made, Option.bind_some]
  rw [decide_eq_true (by omega), decide_eq_true (by omega)]
  rfl
theorem srt_insert {l : List D_A3} (hr : Srt l) (c : D_A3) (k : Nat) (h1 : ∀ x ∈ l.take k, ltC x c = true) (h2 : ∀ x ∈ l.drop k, ltC c x = true) : Srt (l.take k ++ [c] ++ l.drop k) := by
  unfold Srt
  rw [List.append_assoc, List.pairwise_append]
  have ht : Srt (l.take k) := List.Pairwise.sublist (List.take_sublist k l) hr
  have hd : Srt (l.drop k) := List.Pairwise.sublist (List.drop_sublist k l) hr
  refine ⟨ht, List.pairwise_cons.2 ⟨h2, hd⟩, fun a ha b hb => ?_⟩
  rcases List.mem_cons.1 hb with rfl | hb'
  · exact h1 a ha
  · exact ltC_trans (h1 a ha) (h2 b hb')
theorem mem_insert {l : List D_A3} (c x : D_A3) (k : Nat) : x ∈ l.take k ++ [c] ++ l.drop k ↔ x = c ∨ x ∈ l := by
  have : x ∈ l ↔ x ∈ l.take k ∨ x ∈ l.drop k := by rw [← List.mem_append, List.take_append_drop]
  rw [this]
  simp only [List.mem_append, List.mem_singleton]
  constructor
  · rintro ((h | h) | h)
    · exact .inr (.inl h)
    · exact .inl h
    · exact .inr (.inr h)
  · rintro (h | h | h)
    · exact .inl (.inr h)
    · exact .inl (.inl h)
    · exact .inr h
theorem l_with {X Y Z : Int} {l : List D_A3} (hr : Srt l) (c : D_A3) (hl : l.length ≤ 2500000) : ∀ (n k m : Nat), l.length = k + n → n < m → (∀ x ∈ l.take k, ltC x c = true) →
 ∃ l', l_spec_l2With_2 m X Y Z l c.1 c.2.1 c.2.2.1 0 0 0 [] (k : Int) = some ((X, Y, Z, l', ()), ()) ∧ Srt l' ∧ (∀ x, x ∈ l' ↔ x = c ∨ x ∈ l) ∧ l'.length ≤ l.length + 1
  | n, k, 0, hk, hm, _ => by omega
  | n, k, m + 1, hk, hm, hlow => by
    have g1 : (decide (((List.length ([] : List D_A3)) + (List.length (l.take k))) * 24 ≤ 140737488355328) && decide (((List.length ([] : List D_A3)) + (List.length (l.take k))) ≤ 140737488355328)) = true := by
      rw [List.length_take, List.length_nil, decide_eq_true (by omega), decide_eq_true (by omega)]; rfl
    have g2 : (decide (((List.length (([] : List D_A3) ++ (l.take k))) + (List.length ([c] : List D_A3))) * 24 ≤ 140737488355328) && decide (((List.length (([] : List D_A3) ++ (l.take k))) + (List.length ([c] : List D_A3))) ≤ 140737488355328)) = true := by
      rw [List.nil_append, List.length_take, List.length_singleton, decide_eq_true (by omega), decide_eq_true (by omega)]; rfl
    have g3 : (decide (((List.length ((([] : List D_A3) ++ (l.take k)) ++ ([c] : List D_A3))) + (List.length (l.drop k))) * 24 ≤ 140737488355328) && decide (((List.length ((([] : List D_A3) ++ (l.take k)) ++ ([c] : List D_A3))) + (List.length (l.drop k))) ≤ 140737488355328)) = true := by
      rw [List.nil_append, List.length_append, List.length_take, List.length_singleton, List.length_drop, decide_eq_true (by omega), decide_eq_true (by omega)]; rfl
    have g4 : (decide ((0 : Int) ≤ 0) && decide ((0 : Int) ≤ (k : Int)) && decide ((k : Int) ≤ (List.length l : Int))) = true := by
      rw [decide_eq_true (by omega), decide_eq_true (by omega), decide_eq_true (by omega)]; rfl
    have g5 : (decide ((0 : Int) ≤ (k : Int)) && decide ((k : Int) ≤ (List.length l : Int)) && decide ((List.length l : Int) ≤ (List.length l : Int))) = true := by
      rw [decide_eq_true (by omega), decide_eq_true (by omega), decide_eq_true (by omega)]; rfl
    have hlen : (l.take k ++ [c] ++ l.drop k).length ≤ l.length + 1 := by
      rw [List.length_append, List.length_append, List.length_take, List.length_drop, List.length_singleton]; omega
    have ec : ((c.1, (c.2.1, (c.2.2.1, ()))) : D_A3) = c := rfl
    rw [q_spec_l2With_2]
    by_cases hlt : k < l.length
    · rw [ltT hlt, inB_at hlt, nthA (t := T_A3) hlt, f_spec_l2Before, ec, cut_lo, cut_hi, g1, g2, g3, g4, g5, succI k (by omega)]
      simp only [cond_true, Option.bind_some, Bool.and_true]
      cases hb : ltC l[k] c with
      | true =>
        refine l_with hr c hl (n - 1) (k + 1) m (by omega) (by omega) ?_
        intro x hx
        rw [List.take_add_one, List.getElem?_eq_getElem hlt] at hx
        rcases List.mem_append.1 hx with h | h
        · exact hlow x h
        · have : x = l[k] := by simpa using h
          rw [this]; exact hb
      | false =>
        simp only [cond_false]
        by_cases he : l[k] = c
        · have hq : (decide ((l[k]).1 = c.1) && (decide ((l[k]).2.1 = c.2.1) && decide ((l[k]).2.2.1 = c.2.2.1))) = true := by rw [he]; simp
          rw [hq, f_l2Own (by omega)]
          refine ⟨l, rfl, hr, fun x => ?_, by omega⟩
          constructor
          · exact .inr
          · rintro (rfl | h)
            · rw [← he]; exact List.getElem_mem hlt
            · exact h
        · have hq : (decide ((l[k]).1 = c.1) && (decide ((l[k]).2.1 = c.2.1) && decide ((l[k]).2.2.1 = c.2.2.1))) = false := by
            rw [Bool.eq_false_iff]
            intro h
            simp only [Bool.and_eq_true, decide_eq_true_eq] at h
            exact he (cell_ext h.1 h.2.1 h.2.2)
          rw [hq, p_spec_l2Made]
          have hck : ltC c l[k] = true := by
            cases h : ltC c l[k] with
            | true => rfl
            | false => exact absurd (ltC_total hb h) he
          refine ⟨l.take k ++ [c] ++ l.drop k, rfl, srt_insert hr c k hlow ?_, fun x => mem_insert c x k, hlen⟩
          intro x hx
          rw [drop_at l k hlt] at hx
          rcases List.mem_cons.1 hx with rfl | h
          · exact hck
          · have hd : Srt (l.drop k) := List.Pairwise.sublist (List.drop_sublist k l) hr
            rw [drop_at l k hlt] at hd
            exact ltC_trans hck ((List.pairwise_cons.1 hd).1 x h)
    · rw [ltF hlt, ec, cut_lo, cut_hi, g1, g2, g3, g4, g5, p_spec_l2Made]
      refine ⟨l.take k ++ [c] ++ l.drop k, rfl, srt_insert hr c k hlow ?_, fun x => mem_insert c x k, hlen⟩
      intro x hx
      rw [List.drop_eq_nil_of_le (by omega)] at hx
      cases hx
theorem f_l2With {X Y Z : Int} {l : List D_A3} (hr : Srt l) (c : D_A3) (hl : l.length ≤ 2500000) : ∃ l', P_spec_l2With ((X, Y, Z, l, ()), c, ()) = some ((X, Y, Z, l', ()), ()) ∧ Srt l' ∧ (∀ x, x ∈ l' ↔ x = c ∨ x ∈ l) ∧ l'.length ≤ l.length + 1 := by
  obtain ⟨l', h, r⟩ := l_with (X := X) (Y := Y) (Z := Z) hr c hl l.length 0 N (by simp) (by have := N_ge; omega) (by simp)
  exact ⟨l', by rw [p_spec_l2With]; exact h, r⟩
theorem f_szHeap2 (h : D_Heap) (left : Int) (h0 : 0 ≤ left) (h1 : left ≤ 1048576) (hl : h.2.2.2.1.length ≤ 9223372036854775807) : ∃ z, P_laws_szHeap (h, left, ()) = some (z, ()) ∧ z ≤ left ∧ (z < 0 ∨ (h.2.2.2.1.length : Int) + z ≤ left) := by
  obtain ⟨z, hz, hle, hor⟩ := f_szIntA3S h.2.2.2.1 left h0 h1 hl
  rw [p_laws_szHeap, hz]
  simp only [Option.bind_some]
  by_cases hn : z < 0
  · exact ⟨-1, by simp [hn], by omega, .inl (by omega)⟩
  · exact ⟨z, by simp [hn], hle, .inr (by omega)⟩
end Go.VI
namespace Go.VI
open Go.Proofs
theorem app_len' {α : Type} {l : List α} {x : α} (h : l.length ≤ 100000000) : (decide ((l.length + ([x] : List α).length) * 24 ≤ 140737488355328) && decide (l.length + ([x] : List α).length ≤ 140737488355328)) = true := by
  rw [Bool.and_eq_true, decide_eq_true_eq, decide_eq_true_eq]
  simp only [List.length_singleton]
  omega
theorem cell_eq (a c : D_A3) : (decide (a.1 = c.1) && (decide (a.2.1 = c.2.1) && (decide (a.2.2.1 = c.2.2.1) && true))) = decide (a = c) := by
  rw [Bool.eq_iff_iff, Bool.and_eq_true, Bool.and_eq_true, Bool.and_eq_true, decide_eq_true_eq, decide_eq_true_eq, decide_eq_true_eq, decide_eq_true_eq]
  constructor
  · rintro ⟨h1, h2, h3, _⟩; exact cell_ext h1 h2 h3
  · intro h; rw [← h]; exact ⟨rfl, rfl, rfl, rfl⟩
theorem l_without {X Y Z X' Y' Z' : Int} (l : List D_A3) (c : D_A3) (hl : l.length ≤ 3000000) : ∀ (d i m : Nat) (out : List D_A3), l.length = i + d → d < m → out.length ≤ i →
 l_spec_l2Without_3 m X Y Z l c.1 c.2.1 c.2.2.1 0 0 0 [] X' Y' Z' out (i : Int) = some ((X', Y', Z', out ++ (l.drop i).filter (fun x => !decide (x = c)), ()), ())
  | d, i, 0, out, _, h, _ => by omega
  | d, i, m + 1, out, hk, hm, ho => by
    rw [q_spec_l2Without_3]
    by_cases hlt : i < l.length
    · rw [ltT hlt, inB_at hlt, nthA (t := T_A3) hlt, cell_eq l[i] c, app_len' (by omega), drop_at l i hlt, succI i (by omega)]
      simp only [cond_true, List.filter_cons]
      by_cases e : l[i] = c
      · rw [decide_eq_true e]
        simp only [Bool.not_true, cond_false, Bool.false_eq_true, if_false]
        exact l_without l c hl (d - 1) (i + 1) m out (by omega) (by omega) (by omega)
      · rw [decide_eq_false e]
        simp only [Bool.not_false, cond_true, if_true]
        rw [l_without l c hl (d - 1) (i + 1) m _ (by omega) (by omega) (by simp; omega)]
        simp
    · rw [ltF hlt, List.drop_eq_nil_of_le (by omega)]
      simp
theorem f_without {X Y Z : Int} (l : List D_A3) (c : D_A3) (hl : l.length ≤ 3000000) : P_spec_l2Without ((X, Y, Z, l, ()), c, ()) = some ((X, Y, Z, l.filter (fun x => !decide (x = c)), ()), ()) := by
  have := l_without (X := X) (Y := Y) (Z := Z) (X' := X) (Y' := Y) (Z' := Z) l c hl l.length 0 N [] (by simp) (by have := N_ge; omega) (by simp)
  rw [p_spec_l2Without, p_spec_l2Empty]
  exact this
theorem l_moved {S1 S2 S3 : Int} (hS : sides S1 S2 S3 = true) {l : List D_A3} (hl : Small l) {g : D_A3 → D_A3} {F : D_A3 × Unit → Option (D_A3 × Unit)} (hF : ∀ c ∈ l, F (c, ()) = some (g c, ()) ∧ within3 S1 S2 S3 (g c) = true) : ∀ (d i m : Nat) (v : BitVec 64), l.length = i + d → d < m →
 l_Heap_moved_3 m S1 S2 S3 0 0 0 [] F (v.toNat : Int) l (l.length : Int) (i : Int) = some ((S1, S2, S3, bitCells S1 S2 S3 (mask S2 S3 ((l.drop i).map g) v), ()), ())
  | d, i, 0, v, _, h => by omega
  | d, i, m + 1, v, hk, hm => by
    have hl' := hl
    unfold Small at hl'
    rw [q_Heap_moved_3]
    by_cases hlt : i < l.length
    · obtain ⟨h1, h2⟩ := hF l[i] (List.getElem_mem hlt)
      rw [ltT hlt, inB_at hlt, nthA (t := T_A3) hlt, h1, drop_at l i hlt, succI i (by omega)]
      simp only [cond_true, Option.bind_some]
      rw [f_box_index hS h2]
      simp only [Option.bind_some]
      rw [decide_eq_true (p := (0 : Int) ≤ (idx S2 S3 (g l[i]) : Int)) (by omega), shl64, or64]
      simp only [cond_true]
      rw [l_moved hS hl hF (d - 1) (i + 1) m _ (by omega) (by omega)]
      rfl
    · rw [ltF hlt, List.drop_eq_nil_of_le (by omega)]
      simp only [cond_false]
      rw [f_box_heap hS]
      rfl
theorem f_moved {X Y Z S1 S2 S3 : Int} (hS : sides S1 S2 S3 = true) {l : List D_A3} (hl : Small l) {g : D_A3 → D_A3} {F : D_A3 × Unit → Option (D_A3 × Unit)} (hF : ∀ c ∈ l, F (c, ()) = some (g c, ()) ∧ within3 S1 S2 S3 (g c) = true) : P_Heap_moved ((X, Y, Z, l, ()), (S1, S2, S3, ()), F, ()) = some ((S1, S2, S3, bitCells S1 S2 S3 (mask S2 S3 (l.map g) 0), ()), ()) := by
  have := l_moved hS hl hF l.length 0 N 0 (by simp) (by unfold Small at hl; have := N_ge; omega)
  rw [p_Heap_moved]
  exact this
end Go.VI
namespace Go.VI
open Go.Proofs
def addC (c d : D_A3) : D_A3 := (c.1 + d.1, c.2.1 + d.2.1, c.2.2.1 + d.2.2.1, ())
def negC (c : D_A3) : D_A3 := (-c.1, -c.2.1, -c.2.2.1, ())
theorem addC_inj {c d v : D_A3} : addC c v = addC d v ↔ c = d := by
  constructor
  · intro h
    simp only [addC, Prod.mk.injEq, and_true] at h
    exact cell_ext (by omega) (by omega) (by omega)
  · rintro rfl; rfl
theorem addC_negC (c v : D_A3) : addC (addC c v) (negC v) = c := cell_ext (by simp [addC, negC]; omega) (by simp [addC, negC]; omega) (by simp [addC, negC]; omega)
theorem addC_negC' (c v : D_A3) : addC (addC c (negC v)) v = c := cell_ext (by simp [addC, negC]; omega) (by simp [addC, negC]; omega) (by simp [addC, negC]; omega)
theorem addC_assoc (a b c : D_A3) : addC (addC a b) c = addC a (addC b c) := cell_ext (by simp [addC]; omega) (by simp [addC]; omega) (by simp [addC]; omega)
theorem ltC_add (a b v : D_A3) : ltC (addC a v) (addC b v) = ltC a b := by
  have : ltC (addC a v) (addC b v) = true ↔ ltC a b = true := by
    rw [ltC_iff, ltC_iff]; simp only [addC]; omega
  cases h : ltC a b with
  | true => exact this.2 h
  | false =>
    cases h' : ltC (addC a v) (addC b v) with
    | true => rw [this.1 h'] at h; cases h
    | false => rfl
theorem srt_addC {l : List D_A3} (h : Srt l) (v : D_A3) : Srt (l.map fun c => addC c v) := by
  unfold Srt at h ⊢
  rw [List.pairwise_map]
  exact h.imp fun {a b} hab => by rw [ltC_add]; exact hab
structure IsLow (l : List D_A3) (p : D_A3) : Prop where
  le : ∀ c ∈ l, p.1 ≤ c.1 ∧ p.2.1 ≤ c.2.1 ∧ p.2.2.1 ≤ c.2.2.1
  at0 : ∃ c ∈ l, c.1 = p.1
  at1 : ∃ c ∈ l, c.2.1 = p.2.1
  at2 : ∃ c ∈ l, c.2.2.1 = p.2.2.1
structure IsHigh (l : List D_A3) (p : D_A3) : Prop where
  le : ∀ c ∈ l, c.1 ≤ p.1 ∧ c.2.1 ≤ p.2.1 ∧ c.2.2.1 ≤ p.2.2.1
  at0 : ∃ c ∈ l, c.1 = p.1
  at1 : ∃ c ∈ l, c.2.1 = p.2.1
  at2 : ∃ c ∈ l, c.2.2.1 = p.2.2.1
theorem IsLow.uniq {l : List D_A3} {p q : D_A3} (h : IsLow l p) (k : IsLow l q) : p = q := by
  obtain ⟨a, a1, a2⟩ := h.at0; obtain ⟨b, b1, b2⟩ := h.at1; obtain ⟨c, c1, c2⟩ := h.at2
  obtain ⟨a', a1', a2'⟩ := k.at0; obtain ⟨b', b1', b2'⟩ := k.at1; obtain ⟨c', c1', c2'⟩ := k.at2
  have := h.le a' a1'; have := h.le b' b1'; have := h.le c' c1'
  have := k.le a a1; have := k.le b b1; have := k.le c c1
  exact cell_ext (by omega) (by omega) (by omega)
theorem IsHigh.uniq {l : List D_A3} {p q : D_A3} (h : IsHigh l p) (k : IsHigh l q) : p = q := by
  obtain ⟨a, a1, a2⟩ := h.at0; obtain ⟨b, b1, b2⟩ := h.at1; obtain ⟨c, c1, c2⟩ := h.at2
  obtain ⟨a', a1', a2'⟩ := k.at0; obtain ⟨b', b1', b2'⟩ := k.at1; obtain ⟨c', c1', c2'⟩ := k.at2
  have := h.le a' a1'; have := h.le b' b1'; have := h.le c' c1'
  have := k.le a a1; have := k.le b b1; have := k.le c c1
  exact cell_ext (by omega) (by omega) (by omega)
theorem IsLow.set {l l' : List D_A3} (e : ∀ c, c ∈ l ↔ c ∈ l') {p : D_A3} (h : IsLow l p) : IsLow l' p := by
  obtain ⟨a, a1, a2⟩ := h.at0; obtain ⟨b, b1, b2⟩ := h.at1; obtain ⟨c, c1, c2⟩ := h.at2
  exact ⟨fun c hc => h.le c ((e c).2 hc), ⟨a, (e a).1 a1, a2⟩, ⟨b, (e b).1 b1, b2⟩, ⟨c, (e c).1 c1, c2⟩⟩
theorem IsHigh.set {l l' : List D_A3} (e : ∀ c, c ∈ l ↔ c ∈ l') {p : D_A3} (h : IsHigh l p) : IsHigh l' p := by
  obtain ⟨a, a1, a2⟩ := h.at0; obtain ⟨b, b1, b2⟩ := h.at1; obtain ⟨c, c1, c2⟩ := h.at2
  exact ⟨fun c hc => h.le c ((e c).2 hc), ⟨a, (e a).1 a1, a2⟩, ⟨b, (e b).1 b1, b2⟩, ⟨c, (e c).1 c1, c2⟩⟩
theorem IsLow.add {l : List D_A3} {p : D_A3} (h : IsLow l p) (v : D_A3) : IsLow (l.map fun c => addC c v) (addC p v) := by
  obtain ⟨a, a1, a2⟩ := h.at0; obtain ⟨b, b1, b2⟩ := h.at1; obtain ⟨c, c1, c2⟩ := h.at2
  refine ⟨fun d hd => ?_, ⟨_, List.mem_map_of_mem a1, by simp [addC]; omega⟩, ⟨_, List.mem_map_of_mem b1, by simp [addC]; omega⟩, ⟨_, List.mem_map_of_mem c1, by simp [addC]; omega⟩⟩
  obtain ⟨x, hx, rfl⟩ := List.mem_map.1 hd
  have := h.le x hx
  simp only [addC]; omega
theorem IsHigh.add {l : List D_A3} {p : D_A3} (h : IsHigh l p) (v : D_A3) : IsHigh (l.map fun c => addC c v) (addC p v) := by
  obtain ⟨a, a1, a2⟩ := h.at0; obtain ⟨b, b1, b2⟩ := h.at1; obtain ⟨c, c1, c2⟩ := h.at2
  refine ⟨fun d hd => ?_, ⟨_, List.mem_map_of_mem a1, by simp [addC]; omega⟩, ⟨_, List.mem_map_of_mem b1, by simp [addC]; omega⟩, ⟨_, List.mem_map_of_mem c1, by simp [addC]; omega⟩⟩
  obtain ⟨x, hx, rfl⟩ := List.mem_map.1 hd
  have := h.le x hx
  simp only [addC]; omega
structure NrmIs (l : List D_A3) (h : D_Heap) (lo hi : D_A3) : Prop where
  low : IsLow l lo
  high : IsHigh l hi
  x : h.1 = hi.1 - lo.1 + 1
  y : h.2.1 = hi.2.1 - lo.2.1 + 1
  z : h.2.2.1 = hi.2.2.1 - lo.2.2.1 + 1
  srt : Srt h.2.2.2.1
  mem : ∀ c, c ∈ h.2.2.2.1 ↔ addC c lo ∈ l
def Nrm (l : List D_A3) (h : D_Heap) : Prop := ∃ lo hi, NrmIs l h lo hi
theorem heap_ext {g h : D_Heap} (h1 : g.1 = h.1) (h2 : g.2.1 = h.2.1) (h3 : g.2.2.1 = h.2.2.1) (h4 : g.2.2.2.1 = h.2.2.2.1) : g = h := by
  obtain ⟨a, b, c, d, ⟨⟩⟩ := g
  obtain ⟨a', b', c', d', ⟨⟩⟩ := h
  simp only at h1 h2 h3 h4
  subst h1; subst h2; subst h3; subst h4; rfl
theorem Nrm.uniq {l : List D_A3} {g h : D_Heap} (a : Nrm l g) (b : Nrm l h) : g = h := by
  obtain ⟨lo, hi, a⟩ := a
  obtain ⟨lo', hi', b⟩ := b
  obtain rfl := a.low.uniq b.low
  obtain rfl := a.high.uniq b.high
  exact heap_ext (by rw [a.x, b.x]) (by rw [a.y, b.y]) (by rw [a.z, b.z]) (srt_ext _ _ a.srt b.srt fun c => by rw [a.mem, b.mem])
theorem Nrm.set {l l' : List D_A3} (e : ∀ c, c ∈ l ↔ c ∈ l') {h : D_Heap} (a : Nrm l h) : Nrm l' h := by
  obtain ⟨lo, hi, a⟩ := a
  exact ⟨lo, hi, a.low.set e, a.high.set e, a.x, a.y, a.z, a.srt, fun c => by rw [a.mem, e]⟩
theorem Nrm.add {l : List D_A3} {h : D_Heap} (a : Nrm l h) (v : D_A3) : Nrm (l.map fun c => addC c v) h := by
  obtain ⟨lo, hi, a⟩ := a
  refine ⟨addC lo v, addC hi v, a.low.add v, a.high.add v, by rw [a.x]; simp only [addC]; omega, by rw [a.y]; simp only [addC]; omega, by rw [a.z]; simp only [addC]; omega, a.srt, fun c => ?_⟩
  rw [a.mem, List.mem_map]
  constructor
  · intro hc; exact ⟨_, hc, addC_assoc ..⟩
  · rintro ⟨d, hd, e⟩
    rw [← addC_assoc, addC_inj] at e
    rw [← e]; exact hd
theorem Nrm.moved {l : List D_A3} {h : D_Heap} (a : Nrm l h) : ∃ v, ∀ c, c ∈ h.2.2.2.1 ↔ addC c v ∈ l := by
  obtain ⟨lo, hi, a⟩ := a
  exact ⟨lo, a.mem⟩
end Go.VI
namespace Go.VI
open Go.Proofs
def mn (a b : Int) : Int := bif decide (b < a) then b else a
def mx (a b : Int) : Int := bif decide (b > a) then b else a
def mnC (p c : D_A3) : D_A3 := (mn p.1 c.1, mn p.2.1 c.2.1, mn p.2.2.1 c.2.2.1, ())
def mxC (p c : D_A3) : D_A3 := (mx p.1 c.1, mx p.2.1 c.2.1, mx p.2.2.1 c.2.2.1, ())
theorem mn_le (a b : Int) : mn a b ≤ a ∧ mn a b ≤ b ∧ (mn a b = a ∨ mn a b = b) := by
  unfold mn
  by_cases h : b < a
  · rw [decide_eq_true h]; simp; omega
  · rw [decide_eq_false h]; simp; omega
theorem mx_le (a b : Int) : a ≤ mx a b ∧ b ≤ mx a b ∧ (mx a b = a ∨ mx a b = b) := by
  unfold mx
  by_cases h : b > a
  · rw [decide_eq_true h]; simp; omega
  · rw [decide_eq_false h]; simp; omega
theorem isLow_one (c : D_A3) : IsLow [c] c := ⟨fun d hd => by rw [List.mem_singleton.1 hd]; omega, ⟨c, by simp⟩, ⟨c, by simp⟩, ⟨c, by simp⟩⟩
theorem isHigh_one (c : D_A3) : IsHigh [c] c := ⟨fun d hd => by rw [List.mem_singleton.1 hd]; omega, ⟨c, by simp⟩, ⟨c, by simp⟩, ⟨c, by simp⟩⟩
theorem IsLow.snoc {l : List D_A3} {p : D_A3} (h : IsLow l p) (c : D_A3) : IsLow (l ++ [c]) (mnC p c) := by
  have e0 := mn_le p.1 c.1; have e1 := mn_le p.2.1 c.2.1; have e2 := mn_le p.2.2.1 c.2.2.1
  obtain ⟨a, a1, a2⟩ := h.at0; obtain ⟨b, b1, b2⟩ := h.at1; obtain ⟨d, d1, d2⟩ := h.at2
  refine ⟨fun x hx => ?_, ?_, ?_, ?_⟩
  · simp only [mnC]
    rcases List.mem_append.1 hx with hx | hx
    · have := h.le x hx; omega
    · rw [List.mem_singleton.1 hx]; omega
  · rcases e0.2.2 with e | e
    · exact ⟨a, List.mem_append_left _ a1, by simp only [mnC]; rw [a2, e]⟩
    · exact ⟨c, by simp, by simp only [mnC]; rw [e]⟩
  · rcases e1.2.2 with e | e
    · exact ⟨b, List.mem_append_left _ b1, by simp only [mnC]; rw [b2, e]⟩
    · exact ⟨c, by simp, by simp only [mnC]; rw [e]⟩
  · rcases e2.2.2 with e | e
    · exact ⟨d, List.mem_append_left _ d1, by simp only [mnC]; rw [d2, e]⟩
    · exact ⟨c, by simp, by simp only [mnC]; rw [e]⟩
theorem IsHigh.snoc {l : List D_A3} {p : D_A3} (h : IsHigh l p) (c : D_A3) : IsHigh (l ++ [c]) (mxC p c) := by
  have e0 := mx_le p.1 c.1; have e1 := mx_le p.2.1 c.2.1; have e2 := mx_le p.2.2.1 c.2.2.1
  obtain ⟨a, a1, a2⟩ := h.at0; obtain ⟨b, b1, b2⟩ := h.at1; obtain ⟨d, d1, d2⟩ := h.at2
  refine ⟨fun x hx => ?_, ?_, ?_, ?_⟩
  · simp only [mxC]
    rcases List.mem_append.1 hx with hx | hx
    · have := h.le x hx; omega
    · rw [List.mem_singleton.1 hx]; omega
  · rcases e0.2.2 with e | e
    · exact ⟨a, List.mem_append_left _ a1, by simp only [mxC]; rw [a2, e]⟩
    · exact ⟨c, by simp, by simp only [mxC]; rw [e]⟩
  · rcases e1.2.2 with e | e
    · exact ⟨b, List.mem_append_left _ b1, by simp only [mxC]; rw [b2, e]⟩
    · exact ⟨c, by simp, by simp only [mxC]; rw [e]⟩
  · rcases e2.2.2 with e | e
    · exact ⟨d, List.mem_append_left _ d1, by simp only [mxC]; rw [d2, e]⟩
    · exact ⟨c, by simp, by simp only [mxC]; rw [e]⟩
theorem N_eq3 : N = (((N - 4) + 1) + 1 + 1) + 1 := by have := N_ge; omega
theorem l_crop8 (m : Nat) (p0 p1 p2 : Int) (p3 : List D_A3) (p4 p5 p6 : Int) (p7 : List D_A3) (lo hi c : D_A3) (l : List D_A3) (n k : Int) :
 l_impl_CropHeap_8 m N p0 p1 p2 p3 p4 p5 p6 p7 lo.1 lo.2.1 lo.2.2.1 hi.1 hi.2.1 hi.2.2.1 c.1 c.2.1 c.2.2.1 l n k 0 =
 l_impl_CropHeap_5 m p0 p1 p2 p3 p4 p5 p6 p7 (mnC lo c).1 (mnC lo c).2.1 (mnC lo c).2.2.1 (mxC hi c).1 (mxC hi c).2.1 (mxC hi c).2.2.1 l n (IntKind.wrap .i64 (k + 1)) := by
  rw [N_eq3, q_impl_CropHeap_8]
  show l_impl_CropHeap_8 m (N - 4 + 1 + 1 + 1) p0 p1 p2 p3 p4 p5 p6 p7 (mn lo.1 c.1) lo.2.1 lo.2.2.1 (mx hi.1 c.1) hi.2.1 hi.2.2.1 c.1 c.2.1 c.2.2.1 l n k 1 = _
  rw [q_impl_CropHeap_8]
  show l_impl_CropHeap_8 m (N - 4 + 1 + 1) p0 p1 p2 p3 p4 p5 p6 p7 (mn lo.1 c.1) (mn lo.2.1 c.2.1) lo.2.2.1 (mx hi.1 c.1) (mx hi.2.1 c.2.1) hi.2.2.1 c.1 c.2.1 c.2.2.1 l n k 2 = _
  rw [q_impl_CropHeap_8]
  show l_impl_CropHeap_8 m (N - 4 + 1) p0 p1 p2 p3 p4 p5 p6 p7 (mn lo.1 c.1) (mn lo.2.1 c.2.1) (mn lo.2.2.1 c.2.2.1) (mx hi.1 c.1) (mx hi.2.1 c.2.1) (mx hi.2.2.1 c.2.2.1) c.1 c.2.1 c.2.2.1 l n k 3 = _
  rw [q_impl_CropHeap_8]
  rfl
theorem l_hof6 (m : Nat) (p0 p1 p2 : Int) (p3 : List D_A3) (lo hi c : D_A3) (l0 l : List D_A3) (n k : Int) :
 l_impl_heapOf_6 m N p0 p1 p2 p3 lo.1 lo.2.1 lo.2.2.1 hi.1 hi.2.1 hi.2.2.1 c.1 c.2.1 c.2.2.1 l0 l n k 0 =
 l_impl_heapOf_3 m p0 p1 p2 p3 (mnC lo c).1 (mnC lo c).2.1 (mnC lo c).2.2.1 (mxC hi c).1 (mxC hi c).2.1 (mxC hi c).2.2.1 l0 l n (IntKind.wrap .i64 (k + 1)) := by
  rw [N_eq3, q_impl_heapOf_6]
  show l_impl_heapOf_6 m (N - 4 + 1 + 1 + 1) p0 p1 p2 p3 (mn lo.1 c.1) lo.2.1 lo.2.2.1 (mx hi.1 c.1) hi.2.1 hi.2.2.1 c.1 c.2.1 c.2.2.1 l0 l n k 1 = _
  rw [q_impl_heapOf_6]
  show l_impl_heapOf_6 m (N - 4 + 1 + 1) p0 p1 p2 p3 (mn lo.1 c.1) (mn lo.2.1 c.2.1) lo.2.2.1 (mx hi.1 c.1) (mx hi.2.1 c.2.1) hi.2.2.1 c.1 c.2.1 c.2.2.1 l0 l n k 2 = _
  rw [q_impl_heapOf_6]
  show l_impl_heapOf_6 m (N - 4 + 1) p0 p1 p2 p3 (mn lo.1 c.1) (mn lo.2.1 c.2.1) (mn lo.2.2.1 c.2.2.1) (mx hi.1 c.1) (mx hi.2.1 c.2.1) (mx hi.2.2.1 c.2.2.1) c.1 c.2.1 c.2.2.1 l0 l n k 3 = _
  rw [q_impl_heapOf_6]
  rfl
end Go.VI
namespace Go.VI
open Go.Proofs
def Close (l : List D_A3) : Prop := ∀ c ∈ l, ∀ d ∈ l, c.1 - d.1 ≤ 3 ∧ c.2.1 - d.2.1 ≤ 3 ∧ c.2.2.1 - d.2.2.1 ≤ 3
theorem Close.set {l l' : List D_A3} (e : ∀ c, c ∈ l ↔ c ∈ l') (h : Close l) : Close l' := fun c hc d hd => h c ((e c).2 hc) d ((e d).2 hd)
theorem Close.add {l : List D_A3} (h : Close l) (v : D_A3) : Close (l.map fun c => addC c v) := fun c hc d hd => by
  obtain ⟨a, ha, rfl⟩ := List.mem_map.1 hc
  obtain ⟨b, hb, rfl⟩ := List.mem_map.1 hd
  have := h a ha b hb
  simp only [addC]; omega
theorem ins_close {X Y Z : Int} {l : List D_A3} (hs : sides X Y Z = true) (hi : Ins X Y Z l) : Close l := fun c hc d hd => by
  have := sides_iff.1 hs
  have := within3_iff.1 (hi c hc)
  have := within3_iff.1 (hi d hd)
  omega
theorem NrmIs.ok {l : List D_A3} {h : D_Heap} {lo hi : D_A3} (a : NrmIs l h lo hi) (hc : Close l) : sides h.1 h.2.1 h.2.2.1 = true ∧ Ins h.1 h.2.1 h.2.2.1 h.2.2.2.1 := by
  obtain ⟨p, p1, p2⟩ := a.low.at0; obtain ⟨q, q1, q2⟩ := a.low.at1; obtain ⟨r, r1, r2⟩ := a.low.at2
  obtain ⟨p', p1', p2'⟩ := a.high.at0; obtain ⟨q', q1', q2'⟩ := a.high.at1; obtain ⟨r', r1', r2'⟩ := a.high.at2
  have := hc p' p1' p p1; have := hc q' q1' q q1; have := hc r' r1' r r1
  have := a.low.le p' p1'; have := a.low.le q' q1'; have := a.low.le r' r1'
  refine ⟨sides_iff.2 ⟨by rw [a.x]; omega, by rw [a.y]; omega, by rw [a.z]; omega⟩, fun c hc' => ?_⟩
  have hm := (a.mem c).1 hc'
  have h1 := a.low.le _ hm
  have h2 := a.high.le _ hm
  simp only [addC] at h1 h2
  rw [within3_iff, a.x, a.y, a.z]
  omega
theorem low_take {l : List D_A3} {k : Nat} (h : k < l.length) {c0 lo : D_A3} (a : IsLow (c0 :: l.take k) lo) : IsLow (c0 :: l.take (k + 1)) (mnC lo l[k]) := by
  have := a.snoc l[k]
  rw [List.take_succ_eq_append_getElem h]
  exact this
theorem high_take {l : List D_A3} {k : Nat} (h : k < l.length) {c0 lo : D_A3} (a : IsHigh (c0 :: l.take k) lo) : IsHigh (c0 :: l.take (k + 1)) (mxC lo l[k]) := by
  have := a.snoc l[k]
  rw [List.take_succ_eq_append_getElem h]
  exact this
theorem mem_bits {X Y Z : Int} (hs : sides X Y Z = true) {l : List D_A3} (hi : Ins X Y Z l) (c : D_A3) : c ∈ bitCells X Y Z (mask Y Z l 0) ↔ c ∈ l := by
  rw [mem_listOf hs]
  constructor
  · rintro ⟨h1, h2⟩
    have := (setIs_mask hs hi).2 c h1
    rw [h2] at this
    exact of_decide_eq_true this.symm
  · intro h
    have h1 := hi c h
    exact ⟨h1, ((setIs_mask hs hi).2 c h1).trans (decide_eq_true h)⟩
noncomputable def cropTail (X Y Z : Int) (l : List D_A3) (lo hi : D_A3) : Option (D_Heap × Bool × Unit) :=
  Option.bind (P_impl_added ((hi.1, (hi.2.1, (hi.2.2.1, ()))), ((IntKind.wrap .i64 (0 - lo.1)), ((IntKind.wrap .i64 (0 - lo.2.1)), ((IntKind.wrap .i64 (0 - lo.2.2.1)), ()))), ())) fun r1 =>
    Option.bind (P_impl_added (r1.1, (1, (1, (1, ()))), ())) fun r2 =>
    Option.bind (P_Heap_moved ((X, (Y, (Z, (l, ())))), r2.1, (fun (y : D_A3 × Unit) => P_impl_CropHeap_1 (y.1, ((IntKind.wrap .i64 (0 - lo.1)), ((IntKind.wrap .i64 (0 - lo.2.1)), ((IntKind.wrap .i64 (0 - lo.2.2.1)), ()))), ())), ())) fun r3 =>
    some (r3.1, true, ())
theorem l_crop5 {X Y Z : Int} {l : List D_A3} (hl : Small l) (c0 : D_A3) : ∀ (d k m : Nat) (lo hi : D_A3), l.length = k + d → d < m → IsLow (c0 :: l.take k) lo → IsHigh (c0 :: l.take k) hi →
 ∃ lo' hi', IsLow (c0 :: l) lo' ∧ IsHigh (c0 :: l) hi' ∧ l_impl_CropHeap_5 m X Y Z l 0 0 0 [] lo.1 lo.2.1 lo.2.2.1 hi.1 hi.2.1 hi.2.2.1 l (l.length : Int) (k : Int) = cropTail X Y Z l lo' hi'
  | d, k, 0, lo, hi, _, h, _, _ => by omega
  | d, k, m + 1, lo, hi, hk, hm, a, b => by
    have hl' := hl
    unfold Small at hl'
    rw [q_impl_CropHeap_5]
    by_cases hlt : k < l.length
    · rw [ltT hlt, inB_at hlt]
      simp only [cond_true]
      rw [nthA (t := T_A3) hlt, l_crop8, succI k (by omega)]
      exact l_crop5 hl c0 (d - 1) (k + 1) m _ _ (by omega) (by omega) (low_take hlt a) (high_take hlt b)
    · rw [ltF hlt]
      have e : l.take k = l := List.take_of_length_le (by omega)
      rw [e] at a b
      exact ⟨lo, hi, a, b, rfl⟩
theorem neg_w {x : Int} (h0 : -1000000 ≤ x) (h1 : x ≤ 1000000) : IntKind.wrap .i64 (0 - x) = -x := by rw [w64 (by omega) (by omega)]; omega
theorem f_added {c d : D_A3} (h : ∀ x y : Int, (x, y) ∈ [(c.1, d.1), (c.2.1, d.2.1), (c.2.2.1, d.2.2.1)] → -1000000 ≤ x ∧ x ≤ 1000000 ∧ -1000000 ≤ y ∧ y ≤ 1000000) : P_impl_added (c, d, ()) = some (addC c d, ()) := by
  have h0 := h c.1 d.1 (by simp)
  have h1 := h c.2.1 d.2.1 (by simp)
  have h2 := h c.2.2.1 d.2.2.1 (by simp)
  rw [p_impl_added]
  simp only [addC]
  rw [w64 (by omega) (by omega), w64 (by omega) (by omega), w64 (by omega) (by omega)]
def Tame (c : D_A3) : Prop := -1000000 ≤ c.1 ∧ c.1 ≤ 1000000 ∧ -1000000 ≤ c.2.1 ∧ c.2.1 ≤ 1000000 ∧ -1000000 ≤ c.2.2.1 ∧ c.2.2.1 ≤ 1000000
theorem f_add {c d : D_A3} (h : Tame c) (k : Tame d) : P_impl_added (c, d, ()) = some (addC c d, ()) := by
  unfold Tame at h k
  refine f_added fun x y hxy => ?_
  simp only [List.mem_cons, Prod.mk.injEq, List.not_mem_nil, or_false] at hxy
  rcases hxy with ⟨rfl, rfl⟩ | ⟨rfl, rfl⟩ | ⟨rfl, rfl⟩ <;> omega
theorem cropTail_is {X Y Z : Int} {l : List D_A3} (hl : Small l) (hc : Close l) {lo hi : D_A3} (a : IsLow l lo) (b : IsHigh l hi) (t : ∀ c ∈ l, -500000 ≤ c.1 ∧ c.1 ≤ 500000 ∧ -500000 ≤ c.2.1 ∧ c.2.1 ≤ 500000 ∧ -500000 ≤ c.2.2.1 ∧ c.2.2.1 ≤ 500000) :
 ∃ h, cropTail X Y Z l lo hi = some (h, true, ()) ∧ NrmIs l h lo hi := by
  obtain ⟨p, p1, p2⟩ := a.at0; obtain ⟨q, q1, q2⟩ := a.at1; obtain ⟨r, r1, r2⟩ := a.at2
  obtain ⟨p', p1', p2'⟩ := b.at0; obtain ⟨q', q1', q2'⟩ := b.at1; obtain ⟨r', r1', r2'⟩ := b.at2
  have t1 := t p p1; have t2 := t q q1; have t3 := t r r1; have t4 := t p' p1'; have t5 := t q' q1'; have t6 := t r' r1'
  have c1 := hc p' p1' p p1; have c2 := hc q' q1' q q1; have c3 := hc r' r1' r r1
  have l1 := a.le p' p1'; have l2 := a.le q' q1'; have l3 := a.le r' r1'
  have hlo : Tame (-lo.1, -lo.2.1, -lo.2.2.1, ()) := by unfold Tame; simp only; omega
  have hS : sides (hi.1 + -lo.1 + 1) (hi.2.1 + -lo.2.1 + 1) (hi.2.2.1 + -lo.2.2.1 + 1) = true := sides_iff.2 ⟨by omega, by omega, by omega⟩
  have hw : ∀ c ∈ l, within3 (hi.1 + -lo.1 + 1) (hi.2.1 + -lo.2.1 + 1) (hi.2.2.1 + -lo.2.2.1 + 1) (addC c (-lo.1, -lo.2.1, -lo.2.2.1, ())) = true := fun c hc => by
    have := a.le c hc
    have := b.le c hc
    rw [within3_iff]; simp only [addC]; omega
  unfold cropTail
  rw [neg_w (by omega) (by omega), neg_w (by omega) (by omega), neg_w (by omega) (by omega)]
  rw [f_add (c := (hi.1, hi.2.1, hi.2.2.1, ())) (by unfold Tame; simp only; omega) hlo]
  simp only [Option.bind_some, addC]
  rw [f_add (by unfold Tame; simp only; omega) (by unfold Tame; simp only; omega)]
  simp only [Option.bind_some, addC]
  rw [f_moved hS hl (g := fun c => addC c (-lo.1, -lo.2.1, -lo.2.2.1, ())) fun c hc => ⟨by
    have := t c hc
    simp only
    rw [p_impl_CropHeap_1, f_add (by unfold Tame; omega) hlo]; rfl, hw c hc⟩]
  simp only [Option.bind_some]
  refine ⟨_, rfl, a, b, ?_, ?_, ?_, srt_listOf hS _, fun c => ?_⟩
  · simp only; omega
  · simp only; omega
  · simp only; omega
  · have hi' : Ins (hi.1 + -lo.1 + 1) (hi.2.1 + -lo.2.1 + 1) (hi.2.2.1 + -lo.2.2.1 + 1) (l.map fun c => addC c (-lo.1, -lo.2.1, -lo.2.2.1, ())) := fun x hx => by
      obtain ⟨c, hc, rfl⟩ := List.mem_map.1 hx
      exact hw c hc
    simp only
    rw [mem_bits hS hi' c, List.mem_map]
    constructor
    · rintro ⟨d, hd, rfl⟩
      have e : addC (addC d (-lo.1, -lo.2.1, -lo.2.2.1, ())) lo = d := addC_negC' d lo
      rw [e]; exact hd
    · intro hc
      have e : addC (addC c lo) (-lo.1, -lo.2.1, -lo.2.2.1, ()) = c := addC_negC c lo
      exact ⟨_, hc, e⟩
theorem nrm_cons {l : List D_A3} {c0 : D_A3} (h : c0 ∈ l) (c : D_A3) : c ∈ c0 :: l ↔ c ∈ l := by
  rw [List.mem_cons]
  exact ⟨fun h' => h'.elim (fun e => e ▸ h) id, .inr⟩
theorem f_crop {X Y Z : Int} {l : List D_A3} (hl : Small l) (ho : okHeap (X, Y, Z, l, ()) = true) (hs : sides X Y Z = true) (hi : Ins X Y Z l) (hne : l ≠ []) :
 ∃ h, P_impl_CropHeap ((X, Y, Z, l, ()), ()) = some (h, true, ()) ∧ Nrm l h := by
  have hpos : 0 < l.length := List.length_pos_iff.2 hne
  rw [p_impl_CropHeap, f_impl_IsHeap _ hl, ho]
  simp only [Option.bind_some, Bool.not_true, cond_false]
  rw [decide_eq_false (p := (l.length : Int) = 0) (by omega), show inB (0 : Int) l.length = true from inB_at (k := 0) hpos]
  simp only [cond_false, cond_true]
  rw [show nth T_A3 l 0 = l[0] from nthA (t := T_A3) (k := 0) hpos]
  obtain ⟨lo, hh, a, b, e⟩ := l_crop5 (X := X) (Y := Y) (Z := Z) hl l[0] l.length 0 N l[0] l[0] (by omega) (by unfold Small at hl; have := N_ge; omega) (by simpa using isLow_one _) (by simpa using isHigh_one _)
  have e' := e
  rw [show ((0 : Nat) : Int) = 0 from rfl] at e'
  rw [e']
  have hm : l[0] ∈ l := List.getElem_mem _
  obtain ⟨h, h1, h2⟩ := cropTail_is (X := X) (Y := Y) (Z := Z) hl (ins_close hs hi) (a.set (nrm_cons hm)) (b.set (nrm_cons hm)) fun c hc => by
    have := sides_iff.1 hs
    have := within3_iff.1 (hi c hc)
    omega
  exact ⟨h, h1, _, _, h2⟩
end Go.VI
namespace Go.VI
open Go.Proofs
theorem l_hof14 {S1 S2 S3 : Int} (hS : sides S1 S2 S3 = true) {l : List D_A3} (hl : Small l) {v : D_A3} (tv : Tame v) (tl : ∀ c ∈ l, Tame c) (hF : ∀ c ∈ l, within3 S1 S2 S3 (addC c v) = true) : ∀ (d i m : Nat) (w : BitVec 64), l.length = i + d → d < m →
 l_impl_heapOf_14 m 0 0 0 [] v.1 v.2.1 v.2.2.1 S1 S2 S3 (w.toNat : Int) l (l.length : Int) (i : Int) = some ((S1, S2, S3, bitCells S1 S2 S3 (mask S2 S3 ((l.drop i).map fun c => addC c v) w), ()), ())
  | d, i, 0, w, _, h => by omega
  | d, i, m + 1, w, hk, hm => by
    have hl' := hl
    unfold Small at hl'
    rw [q_impl_heapOf_14]
    by_cases hlt : i < l.length
    · have h2 := hF l[i] (List.getElem_mem hlt)
      rw [ltT hlt, inB_at hlt, nthA (t := T_A3) hlt, drop_at l i hlt, succI i (by omega)]
      simp only [cond_true]
      rw [show ((v.1, (v.2.1, (v.2.2.1, ()))) : D_A3) = v from rfl, f_add (tl _ (List.getElem_mem hlt)) tv]
      simp only [Option.bind_some]
      rw [f_box_index hS h2]
      simp only [Option.bind_some]
      rw [decide_eq_true (p := (0 : Int) ≤ (idx S2 S3 (addC l[i] v) : Int)) (by omega), shl64, or64]
      simp only [cond_true]
      rw [l_hof14 hS hl tv tl hF (d - 1) (i + 1) m _ (by omega) (by omega)]
      rfl
    · rw [ltF hlt, List.drop_eq_nil_of_le (by omega)]
      simp only [cond_false]
      rw [f_box_heap hS]
      rfl
noncomputable def hofTail (l : List D_A3) (lo hi : D_A3) : Option (D_Heap × Unit) :=
  Option.bind (P_impl_added ((hi.1, (hi.2.1, (hi.2.2.1, ()))), ((IntKind.wrap .i64 (0 - lo.1)), ((IntKind.wrap .i64 (0 - lo.2.1)), ((IntKind.wrap .i64 (0 - lo.2.2.1)), ()))), ())) fun r1 =>
    Option.bind (P_impl_added (r1.1, (1, (1, (1, ()))), ())) fun r2 =>
    l_impl_heapOf_14 N 0 0 0 [] (IntKind.wrap .i64 (0 - lo.1)) (IntKind.wrap .i64 (0 - lo.2.1)) (IntKind.wrap .i64 (0 - lo.2.2.1)) r2.1.1 r2.1.2.1 r2.1.2.2.1 0 l (List.length l : Int) 0
theorem l_hof3 {l : List D_A3} (hl : Small l) (c0 : D_A3) : ∀ (d k m : Nat) (lo hi : D_A3), l.length = k + d → d < m → IsLow (c0 :: l.take k) lo → IsHigh (c0 :: l.take k) hi →
 ∃ lo' hi', IsLow (c0 :: l) lo' ∧ IsHigh (c0 :: l) hi' ∧ l_impl_heapOf_3 m 0 0 0 [] lo.1 lo.2.1 lo.2.2.1 hi.1 hi.2.1 hi.2.2.1 l l (l.length : Int) (k : Int) = hofTail l lo' hi'
  | d, k, 0, lo, hi, _, h, _, _ => by omega
  | d, k, m + 1, lo, hi, hk, hm, a, b => by
    have hl' := hl
    unfold Small at hl'
    rw [q_impl_heapOf_3]
    by_cases hlt : k < l.length
    · rw [ltT hlt, inB_at hlt]
      simp only [cond_true]
      rw [nthA (t := T_A3) hlt, l_hof6, succI k (by omega)]
      exact l_hof3 hl c0 (d - 1) (k + 1) m _ _ (by omega) (by omega) (low_take hlt a) (high_take hlt b)
    · rw [ltF hlt]
      have e : l.take k = l := List.take_of_length_le (by omega)
      rw [e] at a b
      exact ⟨lo, hi, a, b, rfl⟩
theorem hofTail_is {l : List D_A3} (hl : Small l) (hc : Close l) {lo hi : D_A3} (a : IsLow l lo) (b : IsHigh l hi) (t : ∀ c ∈ l, -500000 ≤ c.1 ∧ c.1 ≤ 500000 ∧ -500000 ≤ c.2.1 ∧ c.2.1 ≤ 500000 ∧ -500000 ≤ c.2.2.1 ∧ c.2.2.1 ≤ 500000) :
 ∃ h, hofTail l lo hi = some (h, ()) ∧ NrmIs l h lo hi := by
  obtain ⟨p, p1, p2⟩ := a.at0; obtain ⟨q, q1, q2⟩ := a.at1; obtain ⟨r, r1, r2⟩ := a.at2
  obtain ⟨p', p1', p2'⟩ := b.at0; obtain ⟨q', q1', q2'⟩ := b.at1; obtain ⟨r', r1', r2'⟩ := b.at2
  have t1 := t p p1; have t2 := t q q1; have t3 := t r r1; have t4 := t p' p1'; have t5 := t q' q1'; have t6 := t r' r1'
  have c1 := hc p' p1' p p1; have c2 := hc q' q1' q q1; have c3 := hc r' r1' r r1
  have l1 := a.le p' p1'; have l2 := a.le q' q1'; have l3 := a.le r' r1'
  have hlo : Tame (-lo.1, -lo.2.1, -lo.2.2.1, ()) := by unfold Tame; simp only; omega
  have hS : sides (hi.1 + -lo.1 + 1) (hi.2.1 + -lo.2.1 + 1) (hi.2.2.1 + -lo.2.2.1 + 1) = true := sides_iff.2 ⟨by omega, by omega, by omega⟩
  have hw : ∀ c ∈ l, within3 (hi.1 + -lo.1 + 1) (hi.2.1 + -lo.2.1 + 1) (hi.2.2.1 + -lo.2.2.1 + 1) (addC c (-lo.1, -lo.2.1, -lo.2.2.1, ())) = true := fun c hc => by
    have := a.le c hc
    have := b.le c hc
    rw [within3_iff]; simp only [addC]; omega
  unfold hofTail
  rw [neg_w (by omega) (by omega), neg_w (by omega) (by omega), neg_w (by omega) (by omega)]
  rw [f_add (c := (hi.1, hi.2.1, hi.2.2.1, ())) (by unfold Tame; simp only; omega) hlo]
  simp only [Option.bind_some, addC]
  rw [f_add (by unfold Tame; simp only; omega) (by unfold Tame; simp only; omega)]
  simp only [Option.bind_some, addC]
  have h14 := l_hof14 hS hl hlo (fun c hc => by have := t c hc; unfold Tame; omega) hw l.length 0 N 0 (by simp) (by unfold Small at hl; have := N_ge; omega)
  have h14' : l_impl_heapOf_14 N 0 0 0 [] (-lo.1) (-lo.2.1) (-lo.2.2.1) (hi.1 + -lo.1 + 1) (hi.2.1 + -lo.2.1 + 1) (hi.2.2.1 + -lo.2.2.1 + 1) 0 l (List.length l : Int) 0 = _ := h14
  rw [h14']
  refine ⟨_, rfl, a, b, ?_, ?_, ?_, srt_listOf hS _, fun c => ?_⟩
  · simp only; omega
  · simp only; omega
  · simp only; omega
  · have hi' : Ins (hi.1 + -lo.1 + 1) (hi.2.1 + -lo.2.1 + 1) (hi.2.2.1 + -lo.2.2.1 + 1) (l.map fun c => addC c (-lo.1, -lo.2.1, -lo.2.2.1, ())) := fun x hx => by
      obtain ⟨c, hc, rfl⟩ := List.mem_map.1 hx
      exact hw c hc
    simp only [List.drop_zero]
    rw [mem_bits hS hi' c, List.mem_map]
    constructor
    · rintro ⟨d, hd, rfl⟩
      have e : addC (addC d (-lo.1, -lo.2.1, -lo.2.2.1, ())) lo = d := addC_negC' d lo
      rw [e]; exact hd
    · intro hc
      have e : addC (addC c lo) (-lo.1, -lo.2.1, -lo.2.2.1, ()) = c := addC_negC c lo
      exact ⟨_, hc, e⟩
def TameL (l : List D_A3) : Prop := ∀ c ∈ l, -500000 ≤ c.1 ∧ c.1 ≤ 500000 ∧ -500000 ≤ c.2.1 ∧ c.2.1 ≤ 500000 ∧ -500000 ≤ c.2.2.1 ∧ c.2.2.1 ≤ 500000
theorem pf_hof {l : List D_A3} (hl : Small l) (hc : Close l) (t : TameL l) (hne : l ≠ []) : ∃ h, P_impl_heapOf (l, ()) = some (h, ()) ∧ Nrm l h := by
  have hpos : 0 < l.length := List.length_pos_iff.2 hne
  rw [p_impl_heapOf, show inB (0 : Int) l.length = true from inB_at (k := 0) hpos]
  simp only [cond_true]
  rw [show nth T_A3 l 0 = l[0] from nthA (t := T_A3) (k := 0) hpos]
  obtain ⟨lo, hh, a, b, e⟩ := l_hof3 hl l[0] l.length 0 N l[0] l[0] (by omega) (by unfold Small at hl; have := N_ge; omega) (by simpa using isLow_one _) (by simpa using isHigh_one _)
  have e' : l_impl_heapOf_3 N 0 0 0 [] (l[0]).1 (l[0]).2.1 (l[0]).2.2.1 (l[0]).1 (l[0]).2.1 (l[0]).2.2.1 l l (l.length : Int) 0 = hofTail l lo hh := e
  rw [e']
  have hm : l[0] ∈ l := List.getElem_mem _
  obtain ⟨h, h1, h2⟩ := hofTail_is hl hc (a.set (nrm_cons hm)) (b.set (nrm_cons hm)) t
  exact ⟨h, h1, _, _, h2⟩
def tl (t : D_l8Turn) (c : D_A3) : D_A3 := ((bif decide (t.2.1.1 = 1) then -get3 c t.1.1 else get3 c t.1.1), (bif decide (t.2.1.2.1 = 1) then -get3 c t.1.2.1 else get3 c t.1.2.1), (bif decide (t.2.1.2.2.1 = 1) then -get3 c t.1.2.2.1 else get3 c t.1.2.2.1), ())
def tv (t : D_l8Turn) (S : D_A3) : D_A3 := ((bif decide (t.2.1.1 = 1) then S.1 - 1 else 0), (bif decide (t.2.1.2.1 = 1) then S.2.1 - 1 else 0), (bif decide (t.2.1.2.2.1 = 1) then S.2.2.1 - 1 else 0), ())
def OkT (t : D_l8Turn) : Prop := (t.1.1 = 0 ∨ t.1.1 = 1 ∨ t.1.1 = 2) ∧ (t.1.2.1 = 0 ∨ t.1.2.1 = 1 ∨ t.1.2.1 = 2) ∧ (t.1.2.2.1 = 0 ∨ t.1.2.2.1 = 1 ∨ t.1.2.2.1 = 2)
theorem get3_add (c d : D_A3) (i : Int) : get3 (addC c d) i = get3 c i + get3 d i := by
  unfold get3 addC
  cases decide (i = 0) <;> cases decide (i = 1) <;> rfl
theorem tl_add (t : D_l8Turn) (c d : D_A3) : tl t (addC c d) = addC (tl t c) (tl t d) := by
  unfold tl
  rw [get3_add, get3_add, get3_add]
  unfold addC
  refine cell_ext ?_ ?_ ?_
  · simp only; cases decide (t.2.1.1 = 1) <;> simp <;> omega
  · simp only; cases decide (t.2.1.2.1 = 1) <;> simp <;> omega
  · simp only; cases decide (t.2.1.2.2.1 = 1) <;> simp <;> omega
end Go.VI
namespace Go.VI
open Go.Proofs
theorem inB3 {x : Int} (h : x = 0 ∨ x = 1 ∨ x = 2) : inB x 3 = true := by
  rcases h with rfl | rfl | rfl <;> rfl
def tval (c : D_A3) (f s x : Int) : Int := bif decide (s = 1) then (IntKind.wrap .i64 ((IntKind.wrap .i64 (x - 1)) - get3 c f)) else get3 c f
theorem turn_step0 (m : Nat) (c : D_A3) (p3 p4 p5 x y z : Int) (t : D_l8Turn) (S : D_A3) (f0 f1 f2 : Int) (h : inB f0 3 = true) :
 l_turning_of_1_3 (m + 1) c.1 c.2.1 c.2.2.1 p3 p4 p5 x y z t S f0 f1 f2 0 = l_turning_of_1_3 m c.1 c.2.1 c.2.2.1 p3 p4 p5 (tval c f0 t.2.1.1 S.1) y z t S f0 f1 f2 1 := by
  rw [q_turning_of_1_3]
  have e : ∀ b : Bool, (bif decide ((0 : Int) = 0) then inB f0 3 else b) = true := fun b => h
  unfold tval
  cases hs : decide (t.2.1.1 = 1) with
  | true =>
    have hs' : decide ((bif decide ((0 : Int) = 0) then t.2.1.1 else (bif decide ((0 : Int) = 1) then t.2.1.2.1 else t.2.1.2.2.1)) = 1) = true := hs
    show (bif inB f0 3 then bif decide ((bif decide ((0 : Int) = 0) then t.2.1.1 else (bif decide ((0 : Int) = 1) then t.2.1.2.1 else t.2.1.2.2.1)) = 1) then (bif inB f0 3 then _ else _) else _ else _) = _
    rw [h, hs']
    rfl
  | false =>
    have hs' : decide ((bif decide ((0 : Int) = 0) then t.2.1.1 else (bif decide ((0 : Int) = 1) then t.2.1.2.1 else t.2.1.2.2.1)) = 1) = false := hs
    show (bif inB f0 3 then bif decide ((bif decide ((0 : Int) = 0) then t.2.1.1 else (bif decide ((0 : Int) = 1) then t.2.1.2.1 else t.2.1.2.2.1)) = 1) then _ else _ else _) = _
    rw [h, hs']
    rfl
theorem turn_step1 (m : Nat) (c : D_A3) (p3 p4 p5 x y z : Int) (t : D_l8Turn) (S : D_A3) (f0 f1 f2 : Int) (h : inB f1 3 = true) :
 l_turning_of_1_3 (m + 1) c.1 c.2.1 c.2.2.1 p3 p4 p5 x y z t S f0 f1 f2 1 = l_turning_of_1_3 m c.1 c.2.1 c.2.2.1 p3 p4 p5 x (tval c f1 t.2.1.2.1 S.2.1) z t S f0 f1 f2 2 := by
  rw [q_turning_of_1_3]
  unfold tval
  cases hs : decide (t.2.1.2.1 = 1) with
  | true =>
    have hs' : decide ((bif decide ((1 : Int) = 0) then t.2.1.1 else (bif decide ((1 : Int) = 1) then t.2.1.2.1 else t.2.1.2.2.1)) = 1) = true := hs
    show (bif inB f1 3 then bif decide ((bif decide ((1 : Int) = 0) then t.2.1.1 else (bif decide ((1 : Int) = 1) then t.2.1.2.1 else t.2.1.2.2.1)) = 1) then (bif inB f1 3 then _ else _) else _ else _) = _
    rw [h, hs']
    rfl
  | false =>
    have hs' : decide ((bif decide ((1 : Int) = 0) then t.2.1.1 else (bif decide ((1 : Int) = 1) then t.2.1.2.1 else t.2.1.2.2.1)) = 1) = false := hs
    show (bif inB f1 3 then bif decide ((bif decide ((1 : Int) = 0) then t.2.1.1 else (bif decide ((1 : Int) = 1) then t.2.1.2.1 else t.2.1.2.2.1)) = 1) then _ else _ else _) = _
    rw [h, hs']
    rfl
theorem turn_step2 (m : Nat) (c : D_A3) (p3 p4 p5 x y z : Int) (t : D_l8Turn) (S : D_A3) (f0 f1 f2 : Int) (h : inB f2 3 = true) :
 l_turning_of_1_3 (m + 1) c.1 c.2.1 c.2.2.1 p3 p4 p5 x y z t S f0 f1 f2 2 = l_turning_of_1_3 m c.1 c.2.1 c.2.2.1 p3 p4 p5 x y (tval c f2 t.2.1.2.2.1 S.2.2.1) t S f0 f1 f2 3 := by
  rw [q_turning_of_1_3]
  unfold tval
  cases hs : decide (t.2.1.2.2.1 = 1) with
  | true =>
    have hs' : decide ((bif decide ((2 : Int) = 0) then t.2.1.1 else (bif decide ((2 : Int) = 1) then t.2.1.2.1 else t.2.1.2.2.1)) = 1) = true := hs
    show (bif inB f2 3 then bif decide ((bif decide ((2 : Int) = 0) then t.2.1.1 else (bif decide ((2 : Int) = 1) then t.2.1.2.1 else t.2.1.2.2.1)) = 1) then (bif inB f2 3 then _ else _) else _ else _) = _
    rw [h, hs']
    rfl
  | false =>
    have hs' : decide ((bif decide ((2 : Int) = 0) then t.2.1.1 else (bif decide ((2 : Int) = 1) then t.2.1.2.1 else t.2.1.2.2.1)) = 1) = false := hs
    show (bif inB f2 3 then bif decide ((bif decide ((2 : Int) = 0) then t.2.1.1 else (bif decide ((2 : Int) = 1) then t.2.1.2.1 else t.2.1.2.2.1)) = 1) then _ else _ else _) = _
    rw [h, hs']
    rfl
theorem tval_is {c : D_A3} {f s x : Int} (hc : -1000 ≤ get3 c f ∧ get3 c f ≤ 1000) (hx : -1000 ≤ x ∧ x ≤ 1000) : tval c f s x = (bif decide (s = 1) then -get3 c f else get3 c f) + (bif decide (s = 1) then x - 1 else 0) := by
  unfold tval
  cases decide (s = 1) with
  | true =>
    simp only [cond_true]
    rw [w64 (x := x - 1) (by omega) (by omega), w64 (by omega) (by omega)]
    omega
  | false => simp
theorem f_turn1 {c : D_A3} {t : D_l8Turn} {S : D_A3} (ht : OkT t) (hc : Near c) (hS : Near S) : P_turning_of_1 (c, t, S, ()) = some (addC (tl t c) (tv t S), ()) := by
  have hg : ∀ f, -1000 ≤ get3 c f ∧ get3 c f ≤ 1000 := fun f => by
    unfold Near at hc
    unfold get3
    cases decide (f = 0) <;> cases decide (f = 1) <;> simp <;> omega
  unfold Near at hS
  rw [p_turning_of_1, N_eq3, turn_step0 _ _ _ _ _ _ _ _ _ _ _ _ _ (inB3 ht.1), turn_step1 _ _ _ _ _ _ _ _ _ _ _ _ _ (inB3 ht.2.1), turn_step2 _ _ _ _ _ _ _ _ _ _ _ _ _ (inB3 ht.2.2), q_turning_of_1_3]
  show some ((tval c t.1.1 t.2.1.1 S.1, tval c t.1.2.1 t.2.1.2.1 S.2.1, tval c t.1.2.2.1 t.2.1.2.2.1 S.2.2.1, ()), ()) = _
  rw [tval_is (hg _) (by omega), tval_is (hg _) (by omega), tval_is (hg _) (by omega)]
  rfl
end Go.VI
namespace Go.VI
open Go.Proofs
theorem sel_is (X Y Z f : Int) : (bif decide (f = (0 : Int)) then X else (bif decide (f = (1 : Int)) then Y else Z)) = get3 (X, Y, Z, ()) f := rfl
theorem get3_in {X Y Z : Int} {c : D_A3} (h : within3 X Y Z c = true) {f : Int} : 0 ≤ get3 c f ∧ get3 c f ≤ get3 (X, Y, Z, ()) f - 1 := by
  rw [within3_iff] at h
  unfold get3
  cases decide (f = 0) <;> cases decide (f = 1) <;> simp <;> omega
theorem get3_sides {X Y Z : Int} (h : sides X Y Z = true) {f : Int} : 1 ≤ get3 (X, Y, Z, ()) f ∧ get3 (X, Y, Z, ()) f ≤ 4 := by
  have := sides_iff.1 h
  unfold get3
  cases decide (f = 0) <;> cases decide (f = 1) <;> simp <;> omega
def tS (t : D_l8Turn) (X Y Z : Int) : D_A3 := (get3 (X, Y, Z, ()) t.1.1, get3 (X, Y, Z, ()) t.1.2.1, get3 (X, Y, Z, ()) t.1.2.2.1, ())
theorem tS_sides {t : D_l8Turn} {X Y Z : Int} (h : sides X Y Z = true) : sides (tS t X Y Z).1 (tS t X Y Z).2.1 (tS t X Y Z).2.2.1 = true :=
  sides_iff.2 ⟨get3_sides h, get3_sides h, get3_sides h⟩
theorem turn_in {t : D_l8Turn} {X Y Z : Int} {c : D_A3} (h : within3 X Y Z c = true) : within3 (tS t X Y Z).1 (tS t X Y Z).2.1 (tS t X Y Z).2.2.1 (addC (tl t c) (tv t (tS t X Y Z))) = true := by
  have h0 := get3_in h (f := t.1.1)
  have h1 := get3_in h (f := t.1.2.1)
  have h2 := get3_in h (f := t.1.2.2.1)
  rw [within3_iff]
  unfold tS tl tv addC
  refine ⟨?_, ?_, ?_⟩
  · simp only; cases decide (t.2.1.1 = 1) <;> simp <;> omega
  · simp only; cases decide (t.2.1.2.1 = 1) <;> simp <;> omega
  · simp only; cases decide (t.2.1.2.2.1 = 1) <;> simp <;> omega
theorem f_turnof {t : D_l8Turn} (ht : OkT t) {X Y Z : Int} {l : List D_A3} (hs : sides X Y Z = true) (hi : Ins X Y Z l) (hl : Small l) :
 ∃ l', P_turning_of (t, (X, Y, Z, l, ()), ()) = some (((tS t X Y Z).1, (tS t X Y Z).2.1, (tS t X Y Z).2.2.1, l', ()), ()) ∧ Srt l' ∧ Ins (tS t X Y Z).1 (tS t X Y Z).2.1 (tS t X Y Z).2.2.1 l' ∧ ∀ c, c ∈ l' ↔ c ∈ (l.map (tl t)).map fun c => addC c (tv t (tS t X Y Z)) := by
  have hS := tS_sides (t := t) hs
  rw [p_turning_of, f_Heap_box]
  simp only [Option.bind_some]
  rw [inB3 ht.1, inB3 ht.2.1, inB3 ht.2.2]
  simp only [cond_true]
  rw [sel_is, sel_is, sel_is]
  have hw : ∀ c ∈ l, within3 (tS t X Y Z).1 (tS t X Y Z).2.1 (tS t X Y Z).2.2.1 (addC (tl t c) (tv t (tS t X Y Z))) = true := fun c hc => turn_in (hi c hc)
  have hm := f_moved (X := X) (Y := Y) (Z := Z) hS hl (g := fun c => addC (tl t c) (tv t (tS t X Y Z))) (F := fun y => P_turning_of_1 (y.1, t, tS t X Y Z, ())) fun c hc => ⟨f_turn1 ht (show Near c by
    have := sides_iff.1 hs
    have := within3_iff.1 (hi c hc)
    unfold Near; omega) (by
    have := sides_iff.1 hS
    unfold Near; omega), hw c hc⟩
  have hm' : P_Heap_moved ((X, Y, Z, l, ()), (get3 (X, Y, Z, ()) t.1.1, (get3 (X, Y, Z, ()) t.1.2.1, (get3 (X, Y, Z, ()) t.1.2.2.1, ()))), (fun y => P_turning_of_1 (y.1, t, (get3 (X, Y, Z, ()) t.1.1, (get3 (X, Y, Z, ()) t.1.2.1, (get3 (X, Y, Z, ()) t.1.2.2.1, ()))), ())), ()) = _ := hm
  rw [hm']
  have hi' : Ins (tS t X Y Z).1 (tS t X Y Z).2.1 (tS t X Y Z).2.2.1 (l.map fun c => addC (tl t c) (tv t (tS t X Y Z))) := fun x hx => by
    obtain ⟨c, hc, rfl⟩ := List.mem_map.1 hx
    exact hw c hc
  refine ⟨_, rfl, srt_listOf hS _, fun c hc => hi' c ((mem_bits hS hi' c).1 hc), fun c => ?_⟩
  rw [mem_bits hS hi' c, List.map_map]
  rfl
theorem f_pos {t : D_l8Turn} (ht : OkT t) {X Y Z : Int} {l : List D_A3} (hs : sides X Y Z = true) (hi : Ins X Y Z l) (hl : Small l) (hne : l ≠ []) :
 ∃ h' k, P_turning_of (t, (X, Y, Z, l, ()), ()) = some (h', ()) ∧ P_impl_CropHeap (h', ()) = some (k, true, ()) ∧ Nrm (l.map (tl t)) k := by
  obtain ⟨l', e1, e2, e3, e4⟩ := f_turnof ht hs hi hl
  have hS := tS_sides (t := t) hs
  have hne' : l' ≠ [] := by
    obtain ⟨c, hc⟩ := List.exists_mem_of_ne_nil l hne
    intro h
    have := (e4 (addC (tl t c) (tv t (tS t X Y Z)))).2 (List.mem_map_of_mem (List.mem_map_of_mem hc))
    rw [h] at this
    cases this
  have hl' : Small l' := by have := srt_small64 hS e3 e2; unfold Small; omega
  obtain ⟨k, k1, k2⟩ := f_crop hl' (okHeap_iff.2 ⟨hS, e3, e2⟩) hS e3 hne'
  refine ⟨_, k, e1, k1, ?_⟩
  have := (k2.set e4).add (negC (tv t (tS t X Y Z)))
  refine this.set fun c => ?_
  rw [List.map_map]
  simp only [List.mem_map, Function.comp]
  constructor
  · rintro ⟨d, ⟨x, hx, rfl⟩, rfl⟩; exact ⟨x, hx, (addC_negC ..).symm⟩
  · rintro ⟨x, hx, rfl⟩; exact ⟨_, ⟨x, hx, rfl⟩, addC_negC ..⟩
end Go.VI
namespace Go.VI
open Go.Proofs
theorem f_leastN (a b : Int) : P_spec_l1Least (a, b, ()) = some (mn a b, ()) := by
  rw [p_spec_l1Least]
  unfold mn
  by_cases h : a < b
  · rw [decide_eq_true h, decide_eq_false (show ¬ b < a by omega)]; rfl
  · rw [decide_eq_false h]
    by_cases h' : b < a
    · rw [decide_eq_true h']; rfl
    · rw [decide_eq_false h', show b = a by omega]; rfl
theorem f_mostN (a b : Int) : P_spec_l1Most (a, b, ()) = some (mx a b, ()) := by
  rw [p_spec_l1Most]
  unfold mx
  by_cases h : a > b
  · rw [decide_eq_true h, decide_eq_false (show ¬ b > a by omega)]; rfl
  · rw [decide_eq_false h]
    by_cases h' : b > a
    · rw [decide_eq_true h']; rfl
    · rw [decide_eq_false h', show b = a by omega]; rfl
theorem room_ok {n k : Nat} (h : n ≤ 2000000) (hk : k ≤ 2000000) : (decide ((n + k) * 24 ≤ 140737488355328) && decide (n + k ≤ 140737488355328)) = true := by
  rw [decide_eq_true (by omega), decide_eq_true (by omega)]; rfl
theorem l_movedS {X Y Z : Int} {l : List D_A3} (hl : Small l) {v : D_A3} (tv : Tame v) (tl : ∀ c ∈ l, Tame c) : ∀ (d k m : Nat) (out : List D_A3), l.length = k + d → d < m → out.length = k →
 l_spec_l2Moved_3 m X Y Z l v.1 v.2.1 v.2.2.1 out (k : Int) = some (out ++ (l.drop k).map (fun c => addC c v), ())
  | d, k, 0, out, _, h, _ => by omega
  | d, k, m + 1, out, hk, hm, ho => by
    have hl' := hl
    unfold Small at hl'
    rw [q_spec_l2Moved_3]
    by_cases hlt : k < l.length
    · have ht := tl _ (List.getElem_mem hlt)
      have e : ((IntKind.wrap .i64 ((l[k]).1 + v.1), (IntKind.wrap .i64 ((l[k]).2.1 + v.2.1), (IntKind.wrap .i64 ((l[k]).2.2.1 + v.2.2.1), ()))) : D_A3) = addC l[k] v := by
        unfold Tame at tv ht
        unfold addC
        rw [w64 (by omega) (by omega), w64 (by omega) (by omega), w64 (by omega) (by omega)]
      rw [ltT hlt, inB_at hlt, nthA (t := T_A3) hlt, drop_at l k hlt, e, succI k (by omega)]
      simp only [cond_true]
      rw [show (List.length ([addC l[k] v] : List D_A3)) = 1 from rfl, room_ok (by omega) (by omega)]
      simp only [cond_true]
      rw [l_movedS hl tv tl (d - 1) (k + 1) m _ (by omega) (by omega) (by simp [ho])]
      simp only [List.append_assoc, List.map_cons, List.cons_append, List.nil_append]
    · rw [ltF hlt, List.drop_eq_nil_of_le (by omega)]
      simp
theorem f_movedS {X Y Z : Int} {l : List D_A3} (hl : Small l) {v : D_A3} (tv : Tame v) (tl : ∀ c ∈ l, Tame c) : P_spec_l2Moved ((X, Y, Z, l, ()), v, ()) = some (l.map (fun c => addC c v), ()) := by
  rw [p_spec_l2Moved]
  have := l_movedS (X := X) (Y := Y) (Z := Z) hl tv tl l.length 0 N [] (by omega) (by unfold Small at hl; have := N_ge; omega) rfl
  simpa using this
theorem l_scrop6 (m : Nat) (X Y Z : Int) (l : List D_A3) (lo hi : D_A3) {k : Nat} (hk : k < l.length) :
 l_spec_l2Cropped_6 m N X Y Z l 0 0 0 [] lo.1 lo.2.1 lo.2.2.1 hi.1 hi.2.1 hi.2.2.1 (k : Int) 0 =
 l_spec_l2Cropped_3 m X Y Z l 0 0 0 [] (mnC lo l[k]).1 (mnC lo l[k]).2.1 (mnC lo l[k]).2.2.1 (mxC hi l[k]).1 (mxC hi l[k]).2.1 (mxC hi l[k]).2.2.1 (IntKind.wrap .i64 ((k : Int) + 1)) := by
  have hb := inB_at hk
  have hn : nth T_A3 l (k : Int) = l[k] := nthA (t := T_A3) hk
  rw [N_eq3]
  rw [q_spec_l2Cropped_6]
  show (bif inB (k : Int) l.length then Option.bind (P_spec_l1Least (lo.1, (nth T_A3 l (k : Int)).1, ())) fun r4 => bif inB (k : Int) l.length then Option.bind (P_spec_l1Most (hi.1, (nth T_A3 l (k : Int)).1, ())) fun r9 => l_spec_l2Cropped_6 m (N - 4 + 1 + 1 + 1) X Y Z l 0 0 0 [] r4.1 (lo.2.1) (lo.2.2.1) r9.1 (hi.2.1) (hi.2.2.1) (k : Int) 1 else none else none) = _
  rw [hb, hn, f_leastN]
  simp only [cond_true, Option.bind_some]
  rw [f_mostN]
  simp only [Option.bind_some]
  rw [q_spec_l2Cropped_6]
  show (bif inB (k : Int) l.length then Option.bind (P_spec_l1Least (lo.2.1, (nth T_A3 l (k : Int)).2.1, ())) fun r4 => bif inB (k : Int) l.length then Option.bind (P_spec_l1Most (hi.2.1, (nth T_A3 l (k : Int)).2.1, ())) fun r9 => l_spec_l2Cropped_6 m (N - 4 + 1 + 1) X Y Z l 0 0 0 [] (mn lo.1 (l[k]).1) r4.1 (lo.2.2.1) (mx hi.1 (l[k]).1) r9.1 (hi.2.2.1) (k : Int) 2 else none else none) = _
  rw [hb, hn, f_leastN]
  simp only [cond_true, Option.bind_some]
  rw [f_mostN]
  simp only [Option.bind_some]
  rw [q_spec_l2Cropped_6]
  show (bif inB (k : Int) l.length then Option.bind (P_spec_l1Least (lo.2.2.1, (nth T_A3 l (k : Int)).2.2.1, ())) fun r4 => bif inB (k : Int) l.length then Option.bind (P_spec_l1Most (hi.2.2.1, (nth T_A3 l (k : Int)).2.2.1, ())) fun r9 => l_spec_l2Cropped_6 m (N - 4 + 1) X Y Z l 0 0 0 [] (mn lo.1 (l[k]).1) (mn lo.2.1 (l[k]).2.1) r4.1 (mx hi.1 (l[k]).1) (mx hi.2.1 (l[k]).2.1) r9.1 (k : Int) 3 else none else none) = _
  rw [hb, hn, f_leastN]
  simp only [cond_true, Option.bind_some]
  rw [f_mostN]
  simp only [Option.bind_some]
  rw [q_spec_l2Cropped_6]
  rfl
noncomputable def scropTail (X Y Z : Int) (l : List D_A3) (lo hi : D_A3) : Option (D_Heap × Unit) :=
  Option.bind (P_spec_l2Empty ((IntKind.wrap .i64 ((IntKind.wrap .i64 (hi.1 - lo.1)) + 1)), (IntKind.wrap .i64 ((IntKind.wrap .i64 (hi.2.1 - lo.2.1)) + 1)), (IntKind.wrap .i64 ((IntKind.wrap .i64 (hi.2.2.1 - lo.2.2.1)) + 1)), ())) fun r1 =>
    Option.bind (P_spec_l2Moved ((X, (Y, (Z, (l, ())))), ((IntKind.wrap .i64 (0 - lo.1)), ((IntKind.wrap .i64 (0 - lo.2.1)), ((IntKind.wrap .i64 (0 - lo.2.2.1)), ()))), ())) fun r2 =>
    some ((r1.1.1, (r1.1.2.1, (r1.1.2.2.1, (r2.1, ())))), ())
theorem l_scrop3 {X Y Z : Int} {l : List D_A3} (hl : Small l) (c0 : D_A3) : ∀ (d k m : Nat) (lo hi : D_A3), l.length = k + d → d < m → IsLow (c0 :: l.take k) lo → IsHigh (c0 :: l.take k) hi →
 ∃ lo' hi', IsLow (c0 :: l) lo' ∧ IsHigh (c0 :: l) hi' ∧ l_spec_l2Cropped_3 m X Y Z l 0 0 0 [] lo.1 lo.2.1 lo.2.2.1 hi.1 hi.2.1 hi.2.2.1 (k : Int) = scropTail X Y Z l lo' hi'
  | d, k, 0, lo, hi, _, h, _, _ => by omega
  | d, k, m + 1, lo, hi, hk, hm, a, b => by
    have hl' := hl
    unfold Small at hl'
    rw [q_spec_l2Cropped_3]
    by_cases hlt : k < l.length
    · rw [ltT hlt]
      simp only [cond_true]
      rw [l_scrop6 _ _ _ _ _ _ _ hlt, succI k (by omega)]
      exact l_scrop3 hl c0 (d - 1) (k + 1) m _ _ (by omega) (by omega) (low_take hlt a) (high_take hlt b)
    · rw [ltF hlt]
      have e : l.take k = l := List.take_of_length_le (by omega)
      rw [e] at a b
      exact ⟨lo, hi, a, b, rfl⟩
theorem f_scrop {X Y Z : Int} {l : List D_A3} (hl : Small l) (hr : Srt l) (t : TameL l) (hne : l ≠ []) : ∃ h, P_spec_l2Cropped ((X, Y, Z, l, ()), ()) = some (h, ()) ∧ Nrm l h := by
  have hpos : 0 < l.length := List.length_pos_iff.2 hne
  rw [p_spec_l2Cropped, show inB (0 : Int) l.length = true from inB_at (k := 0) hpos]
  simp only [cond_true]
  rw [show nth T_A3 l 0 = l[0] from nthA (t := T_A3) (k := 0) hpos]
  obtain ⟨lo, hi, a, b, e⟩ := l_scrop3 (X := X) (Y := Y) (Z := Z) hl l[0] l.length 0 N l[0] l[0] (by omega) (by unfold Small at hl; have := N_ge; omega) (by simpa using isLow_one _) (by simpa using isHigh_one _)
  have e' : l_spec_l2Cropped_3 N X Y Z l 0 0 0 [] (l[0]).1 (l[0]).2.1 (l[0]).2.2.1 (l[0]).1 (l[0]).2.1 (l[0]).2.2.1 0 = scropTail X Y Z l lo hi := e
  rw [e']
  have hm : l[0] ∈ l := List.getElem_mem _
  replace a := a.set (nrm_cons hm)
  replace b := b.set (nrm_cons hm)
  obtain ⟨p, p1, p2⟩ := a.at0; obtain ⟨q, q1, q2⟩ := a.at1; obtain ⟨r, r1, r2⟩ := a.at2
  obtain ⟨p', p1', p2'⟩ := b.at0; obtain ⟨q', q1', q2'⟩ := b.at1; obtain ⟨r', r1', r2'⟩ := b.at2
  have t1 := t p p1; have t2 := t q q1; have t3 := t r r1; have t4 := t p' p1'; have t5 := t q' q1'; have t6 := t r' r1'
  have hlo : Tame (-lo.1, -lo.2.1, -lo.2.2.1, ()) := by unfold Tame; simp only; omega
  unfold scropTail
  rw [neg_w (by omega) (by omega), neg_w (by omega) (by omega), neg_w (by omega) (by omega), w64 (x := hi.1 - lo.1) (by omega) (by omega), w64 (x := hi.2.1 - lo.2.1) (by omega) (by omega), w64 (x := hi.2.2.1 - lo.2.2.1) (by omega) (by omega),
    w64 (by omega) (by omega), w64 (by omega) (by omega), w64 (by omega) (by omega), p_spec_l2Empty]
  simp only [Option.bind_some]
  rw [f_movedS hl hlo fun c hc => by have := t c hc; unfold Tame; omega]
  refine ⟨_, rfl, lo, hi, a, b, rfl, rfl, rfl, srt_addC hr _, fun c => ?_⟩
  simp only [List.mem_map]
  constructor
  · rintro ⟨d, hd, rfl⟩
    have e : addC (addC d (-lo.1, -lo.2.1, -lo.2.2.1, ())) lo = d := addC_negC' d lo
    rw [e]; exact hd
  · intro hc
    have e : addC (addC c lo) (-lo.1, -lo.2.1, -lo.2.2.1, ()) = c := addC_negC c lo
    exact ⟨_, hc, e⟩
section
variable (m n : Nat) (X Y Z : Int) (l : List D_A3) (f0 f1 f2 s0 s1 s2 S1 S2 S3 : Int) (o : List D_A3) (x y z : Int)
theorem made_step0 {k : Nat} (hk : k < l.length) (h : inB f0 3 = true) :
 l_spec_l8Made_7 m (n + 1) X Y Z l f0 f1 f2 s0 s1 s2 0 0 0 [] S1 S2 S3 o x y z (k : Int) 0 = l_spec_l8Made_7 m n X Y Z l f0 f1 f2 s0 s1 s2 0 0 0 [] S1 S2 S3 o (tval l[k] f0 s0 (get3 (X, Y, Z, ()) f0)) y z (k : Int) 1 := by
  have hn : nth T_A3 l (k : Int) = l[k] := nthA (t := T_A3) hk
  have e : inB (bif decide ((0 : Int) = (0 : Int)) then f0 else (bif decide ((0 : Int) = (1 : Int)) then f1 else f2)) 3 = true := h
  have el : P_spec_l2Long ((X, (Y, (Z, (l, ())))), (bif decide ((0 : Int) = (0 : Int)) then f0 else (bif decide ((0 : Int) = (1 : Int)) then f1 else f2)), ()) = some (get3 (X, Y, Z, ()) f0, ()) := by
    show P_spec_l2Long ((X, (Y, (Z, (l, ())))), f0, ()) = _
    rw [p_spec_l2Long, h]; rfl
  rw [q_spec_l8Made_7, inB_at hk, e, hn]
  unfold tval
  cases hs : decide (s0 = 1) with
  | true =>
    have hs' : decide ((bif decide ((0 : Int) = (0 : Int)) then s0 else (bif decide ((0 : Int) = (1 : Int)) then s1 else s2)) = 1) = true := hs
    rw [hs', el]
    rfl
  | false =>
    have hs' : decide ((bif decide ((0 : Int) = (0 : Int)) then s0 else (bif decide ((0 : Int) = (1 : Int)) then s1 else s2)) = 1) = false := hs
    rw [hs']
    rfl
theorem made_step1 {k : Nat} (hk : k < l.length) (h : inB f1 3 = true) :
 l_spec_l8Made_7 m (n + 1) X Y Z l f0 f1 f2 s0 s1 s2 0 0 0 [] S1 S2 S3 o x y z (k : Int) 1 = l_spec_l8Made_7 m n X Y Z l f0 f1 f2 s0 s1 s2 0 0 0 [] S1 S2 S3 o x (tval l[k] f1 s1 (get3 (X, Y, Z, ()) f1)) z (k : Int) 2 := by
  have hn : nth T_A3 l (k : Int) = l[k] := nthA (t := T_A3) hk
  have e : inB (bif decide ((1 : Int) = (0 : Int)) then f0 else (bif decide ((1 : Int) = (1 : Int)) then f1 else f2)) 3 = true := h
  have el : P_spec_l2Long ((X, (Y, (Z, (l, ())))), (bif decide ((1 : Int) = (0 : Int)) then f0 else (bif decide ((1 : Int) = (1 : Int)) then f1 else f2)), ()) = some (get3 (X, Y, Z, ()) f1, ()) := by
    show P_spec_l2Long ((X, (Y, (Z, (l, ())))), f1, ()) = _
    rw [p_spec_l2Long, h]; rfl
  rw [q_spec_l8Made_7, inB_at hk, e, hn]
  unfold tval
  cases hs : decide (s1 = 1) with
  | true =>
    have hs' : decide ((bif decide ((1 : Int) = (0 : Int)) then s0 else (bif decide ((1 : Int) = (1 : Int)) then s1 else s2)) = 1) = true := hs
    rw [hs', el]
    rfl
  | false =>
    have hs' : decide ((bif decide ((1 : Int) = (0 : Int)) then s0 else (bif decide ((1 : Int) = (1 : Int)) then s1 else s2)) = 1) = false := hs
    rw [hs']
    rfl
theorem made_step2 {k : Nat} (hk : k < l.length) (h : inB f2 3 = true) :
 l_spec_l8Made_7 m (n + 1) X Y Z l f0 f1 f2 s0 s1 s2 0 0 0 [] S1 S2 S3 o x y z (k : Int) 2 = l_spec_l8Made_7 m n X Y Z l f0 f1 f2 s0 s1 s2 0 0 0 [] S1 S2 S3 o x y (tval l[k] f2 s2 (get3 (X, Y, Z, ()) f2)) (k : Int) 3 := by
  have hn : nth T_A3 l (k : Int) = l[k] := nthA (t := T_A3) hk
  have e : inB (bif decide ((2 : Int) = (0 : Int)) then f0 else (bif decide ((2 : Int) = (1 : Int)) then f1 else f2)) 3 = true := h
  have el : P_spec_l2Long ((X, (Y, (Z, (l, ())))), (bif decide ((2 : Int) = (0 : Int)) then f0 else (bif decide ((2 : Int) = (1 : Int)) then f1 else f2)), ()) = some (get3 (X, Y, Z, ()) f2, ()) := by
    show P_spec_l2Long ((X, (Y, (Z, (l, ())))), f2, ()) = _
    rw [p_spec_l2Long, h]; rfl
  rw [q_spec_l8Made_7, inB_at hk, e, hn]
  unfold tval
  cases hs : decide (s2 = 1) with
  | true =>
    have hs' : decide ((bif decide ((2 : Int) = (0 : Int)) then s0 else (bif decide ((2 : Int) = (1 : Int)) then s1 else s2)) = 1) = true := hs
    rw [hs', el]
    rfl
  | false =>
    have hs' : decide ((bif decide ((2 : Int) = (0 : Int)) then s0 else (bif decide ((2 : Int) = (1 : Int)) then s1 else s2)) = 1) = false := hs
    rw [hs']
    rfl
end
theorem made_cell (m : Nat) {X Y Z : Int} {l : List D_A3} {t : D_l8Turn} (ht : OkT t) (hs : sides X Y Z = true) (hi : Ins X Y Z l) (S1 S2 S3 : Int) (o : List D_A3) {k : Nat} (hk : k < l.length) :
 l_spec_l8Made_7 m N X Y Z l t.1.1 t.1.2.1 t.1.2.2.1 t.2.1.1 t.2.1.2.1 t.2.1.2.2.1 0 0 0 [] S1 S2 S3 o 0 0 0 (k : Int) 0 =
 Option.bind (P_spec_l2With ((S1, (S2, (S3, (o, ())))), addC (tl t l[k]) (tv t (tS t X Y Z)), ())) fun r1 => l_spec_l8Made_3 m X Y Z l t.1.1 t.1.2.1 t.1.2.2.1 t.2.1.1 t.2.1.2.1 t.2.1.2.2.1 0 0 0 [] r1.1.1 r1.1.2.1 r1.1.2.2.1 r1.1.2.2.2.1 (IntKind.wrap .i64 ((k : Int) + 1)) := by
  have hc := hi _ (List.getElem_mem hk)
  have hg : ∀ f, -1000 ≤ get3 l[k] f ∧ get3 l[k] f ≤ 1000 := fun f => by
    have := get3_in hc (f := f); have := get3_sides hs (f := f); omega
  have hx : ∀ f, -1000 ≤ get3 (X, Y, Z, ()) f ∧ get3 (X, Y, Z, ()) f ≤ 1000 := fun f => by have := get3_sides hs (f := f); omega
  rw [N_eq3, made_step0 _ _ _ _ _ _ _ _ _ _ _ _ _ _ _ _ _ _ _ hk (inB3 ht.1), made_step1 _ _ _ _ _ _ _ _ _ _ _ _ _ _ _ _ _ _ _ hk (inB3 ht.2.1), made_step2 _ _ _ _ _ _ _ _ _ _ _ _ _ _ _ _ _ _ _ hk (inB3 ht.2.2), q_spec_l8Made_7]
  rw [tval_is (hg _) (hx _), tval_is (hg _) (hx _), tval_is (hg _) (hx _)]
  rfl
theorem l_made3 {X Y Z : Int} {l : List D_A3} {t : D_l8Turn} (ht : OkT t) (hs : sides X Y Z = true) (hi : Ins X Y Z l) (hl : Small l) (S1 S2 S3 : Int) : ∀ (d k m : Nat) (o : List D_A3), l.length = k + d → d < m → Srt o → o.length ≤ k → (∀ c, c ∈ o ↔ c ∈ (l.take k).map fun c => addC (tl t c) (tv t (tS t X Y Z))) →
 ∃ o', l_spec_l8Made_3 m X Y Z l t.1.1 t.1.2.1 t.1.2.2.1 t.2.1.1 t.2.1.2.1 t.2.1.2.2.1 0 0 0 [] S1 S2 S3 o (k : Int) = some ((S1, S2, S3, o', ()), ()) ∧ Srt o' ∧ ∀ c, c ∈ o' ↔ c ∈ l.map fun c => addC (tl t c) (tv t (tS t X Y Z))
  | d, k, 0, o, _, h, _, _, _ => by omega
  | d, k, m + 1, o, hk, hm, hr, ho, he => by
    have hl' := hl
    unfold Small at hl'
    rw [q_spec_l8Made_3]
    by_cases hlt : k < l.length
    · rw [ltT hlt]
      simp only [cond_true]
      rw [made_cell m ht hs hi S1 S2 S3 o hlt]
      obtain ⟨o', e1, e2, e3, e4⟩ := f_l2With (X := S1) (Y := S2) (Z := S3) hr (addC (tl t l[k]) (tv t (tS t X Y Z))) (by omega)
      rw [e1]
      simp only [Option.bind_some]
      rw [succI k (by omega)]
      refine l_made3 ht hs hi hl S1 S2 S3 (d - 1) (k + 1) m o' (by omega) (by omega) e2 (by omega) fun c => ?_
      rw [e3, he, List.take_succ_eq_append_getElem hlt, List.map_append, List.mem_append]
      simp only [List.map_cons, List.map_nil, List.mem_singleton]
      exact Or.comm
    · rw [ltF hlt]
      rw [List.take_of_length_le (by omega)] at he
      exact ⟨o, rfl, hr, he⟩
theorem f_made {t : D_l8Turn} (ht : OkT t) {X Y Z : Int} {l : List D_A3} (hs : sides X Y Z = true) (hi : Ins X Y Z l) (hl : Small l) :
 ∃ l', P_spec_l8Made ((X, Y, Z, l, ()), t, ()) = some (((tS t X Y Z).1, (tS t X Y Z).2.1, (tS t X Y Z).2.2.1, l', ()), ()) ∧ Srt l' ∧ ∀ c, c ∈ l' ↔ c ∈ (l.map (tl t)).map fun c => addC c (tv t (tS t X Y Z)) := by
  have e : ∀ f, (f = 0 ∨ f = 1 ∨ f = 2) → P_spec_l2Long ((X, Y, Z, l, ()), f, ()) = some (get3 (X, Y, Z, ()) f, ()) := fun f h => by
    rw [p_spec_l2Long, inB3 h]; rfl
  rw [p_spec_l8Made, e _ ht.1]
  simp only [Option.bind_some]
  rw [e _ ht.2.1]
  simp only [Option.bind_some]
  rw [e _ ht.2.2]
  simp only [Option.bind_some]
  rw [p_spec_l2Empty]
  simp only [Option.bind_some]
  obtain ⟨o', h1, h2, h3⟩ := l_made3 ht hs hi hl (get3 (X, Y, Z, ()) t.1.1) (get3 (X, Y, Z, ()) t.1.2.1) (get3 (X, Y, Z, ()) t.1.2.2.1) l.length 0 N [] (by omega) (by unfold Small at hl; have := N_ge; omega) List.Pairwise.nil (by simp) (by simp)
  refine ⟨o', h1, h2, fun c => ?_⟩
  rw [h3, List.map_map]
  rfl
theorem f_spos {t : D_l8Turn} (ht : OkT t) {X Y Z : Int} {l : List D_A3} (hs : sides X Y Z = true) (hi : Ins X Y Z l) (hl : Small l) (hne : l ≠ []) :
 ∃ h' k, P_spec_l8Made ((X, Y, Z, l, ()), t, ()) = some (h', ()) ∧ P_spec_l2Cropped (h', ()) = some (k, ()) ∧ Nrm (l.map (tl t)) k := by
  obtain ⟨l', e1, e2, e4⟩ := f_made ht hs hi hl
  have hS := tS_sides (t := t) hs
  have e3 : Ins (tS t X Y Z).1 (tS t X Y Z).2.1 (tS t X Y Z).2.2.1 l' := fun c hc => by
    have := (e4 c).1 hc
    rw [List.map_map] at this
    obtain ⟨d, hd, rfl⟩ := List.mem_map.1 this
    exact turn_in (hi d hd)
  have hne' : l' ≠ [] := by
    obtain ⟨c, hc⟩ := List.exists_mem_of_ne_nil l hne
    intro h
    have := (e4 (addC (tl t c) (tv t (tS t X Y Z)))).2 (List.mem_map_of_mem (List.mem_map_of_mem hc))
    rw [h] at this
    cases this
  have hl' : Small l' := by have := srt_small64 hS e3 e2; unfold Small; omega
  obtain ⟨k, k1, k2⟩ := f_scrop (X := (tS t X Y Z).1) (Y := (tS t X Y Z).2.1) (Z := (tS t X Y Z).2.2.1) hl' e2 (fun c hc => by
    have := sides_iff.1 hS
    have := within3_iff.1 (e3 c hc)
    omega) hne'
  refine ⟨_, k, e1, k1, ?_⟩
  have := (k2.set e4).add (negC (tv t (tS t X Y Z)))
  refine this.set fun c => ?_
  rw [List.map_map]
  simp only [List.mem_map, Function.comp]
  constructor
  · rintro ⟨d, ⟨x, hx, rfl⟩, rfl⟩; exact ⟨x, hx, (addC_negC ..).symm⟩
  · rintro ⟨x, hx, rfl⟩; exact ⟨_, ⟨x, hx, rfl⟩, addC_negC ..⟩
end Go.VI
