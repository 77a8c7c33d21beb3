/- Plain: what is reached from cell to cell. -/
import Derived.Test.YtcamgjgfjpcelaaGreatDoorPlA
namespace Go.VI
open Go.Proofs

/-- Neighbors. -/
def nb (c d : D_A3) : Prop := ∃ k, k < 6 ∧ d = stp k c

theorem nb_iff {c d : D_A3} : nb c d ↔ (d.2.1 = c.2.1 ∧ d.2.2.1 = c.2.2.1 ∧ (d.1 = c.1 - 1 ∨ d.1 = c.1 + 1)) ∨ (d.1 = c.1 ∧ d.2.2.1 = c.2.2.1 ∧ (d.2.1 = c.2.1 - 1 ∨ d.2.1 = c.2.1 + 1)) ∨ (d.1 = c.1 ∧ d.2.1 = c.2.1 ∧ (d.2.2.1 = c.2.2.1 - 1 ∨ d.2.2.1 = c.2.2.1 + 1)) := by
  obtain ⟨x, y, z, ⟨⟩⟩ := c
  obtain ⟨x', y', z', ⟨⟩⟩ := d
  constructor
  · rintro ⟨k, hk, e⟩
    rcases six hk with rfl | rfl | rfl | rfl | rfl | rfl <;> simp only [stp, Prod.mk.injEq, and_true] at e <;> obtain ⟨rfl, rfl, rfl⟩ := e <;> simp <;> omega
  · rintro (⟨h1, h2, h3 | h3⟩ | ⟨h1, h2, h3 | h3⟩ | ⟨h1, h2, h3 | h3⟩) <;> simp only at h1 h2 h3 <;> subst h1 <;> subst h2 <;> subst h3
    · exact ⟨0, by omega, by simp [stp]; omega⟩
    · exact ⟨1, by omega, by simp [stp]⟩
    · exact ⟨2, by omega, by simp [stp]; omega⟩
    · exact ⟨3, by omega, by simp [stp]⟩
    · exact ⟨4, by omega, by simp [stp]; omega⟩
    · exact ⟨5, by omega, by simp [stp]⟩

theorem nb_symm {c d : D_A3} (h : nb c d) : nb d c := by
  rw [nb_iff] at h ⊢
  omega

/-- What is reached from some cells by way of others. -/
inductive Rch (p q : D_A3 → Prop) : D_A3 → Prop
  | base {c : D_A3} : p c → Rch p q c
  | step {c d : D_A3} : Rch p q c → nb c d → q d → Rch p q d

theorem Rch.mono {p p' q q' : D_A3 → Prop} (hp : ∀ c, p c → Rch p' q' c) (hq : ∀ c, q c → q' c) {c : D_A3} (h : Rch p q c) : Rch p' q' c := by
  induction h with
  | base h => exact hp _ h
  | step _ hn hd ih => exact .step ih hn (hq _ hd)

theorem Rch.of {p q r : D_A3 → Prop} (hp : ∀ c, p c → r c) (hq : ∀ c d, r c → nb c d → q d → r d) {c : D_A3} (h : Rch p q c) : r c := by
  induction h with
  | base h => exact hp _ h
  | step _ hn hd ih => exact hq _ _ ih hn hd

/-- The neighbors in the box. -/
def nears (X Y Z : Int) (c : D_A3) : List D_A3 := ((List.range 6).map fun k => stp k c).filter (within3 X Y Z)

theorem mem_nears {X Y Z : Int} {c d : D_A3} : d ∈ nears X Y Z c ↔ within3 X Y Z d = true ∧ nb c d := by
  unfold nears nb
  simp only [List.mem_filter, List.mem_map, List.mem_range]
  constructor
  · rintro ⟨⟨k, hk, rfl⟩, h⟩; exact ⟨h, k, hk, rfl⟩
  · rintro ⟨h, k, hk, rfl⟩; exact ⟨⟨k, hk, rfl⟩, h⟩

theorem ins_nears (X Y Z : Int) (c : D_A3) : Ins X Y Z (nears X Y Z c) := fun d hd => (mem_nears.1 hd).1

def nearB (X Y Z : Int) (c : D_A3) : BitVec 64 := mask Y Z (nears X Y Z c) 0

theorem nearB_bit {X Y Z : Int} (hs : sides X Y Z = true) {c d : D_A3} (hd : within3 X Y Z d = true) : (nearB X Y Z c).getLsbD (idx Y Z d) = true ↔ nb c d := by
  unfold nearB
  rw [mask_mem hs (ins_nears X Y Z c) hd, decide_eq_true_eq, mem_nears]
  exact ⟨fun h => h.2, fun h => ⟨hd, h⟩⟩

/-- No bits from a place on. -/
def Low (n : Nat) (v : BitVec 64) : Prop := ∀ i, n ≤ i → v.getLsbD i = false

theorem low_mask {X Y Z : Int} (hs : sides X Y Z = true) {l : List D_A3} (hl : Ins X Y Z l) : Low (X * Y * Z).toNat (mask Y Z l 0) := by
  intro i hi
  rw [mask_bit]
  have h0 : (0 : BitVec 64).getLsbD i = false := by simp
  rw [h0, Bool.false_or, Bool.and_eq_false_iff]
  right
  rw [List.any_eq_false]
  intro c hc
  have := (idx_eq hs (hl c hc)).2.1
  simp only [decide_eq_true_eq]
  omega

theorem low_ext {n : Nat} {v w : BitVec 64} (hv : Low n v) (hw : Low n w) (h : ∀ i, i < n → v.getLsbD i = w.getLsbD i) : v = w := by
  apply BitVec.eq_of_getLsbD_eq
  intro i _
  by_cases hi : i < n
  · exact h i hi
  · rw [hv i (by omega), hw i (by omega)]

theorem box_ext {X Y Z : Int} (hs : sides X Y Z = true) {v w : BitVec 64} (hv : Low (X * Y * Z).toNat v) (hw : Low (X * Y * Z).toNat w) (h : ∀ c, within3 X Y Z c = true → v.getLsbD (idx Y Z c) = w.getLsbD (idx Y Z c)) : v = w := by
  refine low_ext hv hw fun i hi => ?_
  obtain ⟨h1, h2⟩ := cellOf_ok hs hi
  rw [← h2]
  exact h _ h1

/-- One round of growing. -/
def growR (X Y Z : Int) (u v : BitVec 64) : (d k : Nat) → BitVec 64 → BitVec 64
  | 0, _, acc => acc
  | d + 1, k, acc => growR X Y Z u v d (k + 1) (bif v.getLsbD k then acc ||| (nearB X Y Z (cellOf Y Z k) &&& u) else acc)

theorem growR_bit (X Y Z : Int) (u v : BitVec 64) (i : Nat) : ∀ (d k : Nat) (acc : BitVec 64), (growR X Y Z u v d k acc).getLsbD i = true ↔ acc.getLsbD i = true ∨ ∃ j, k ≤ j ∧ j < k + d ∧ v.getLsbD j = true ∧ (nearB X Y Z (cellOf Y Z j)).getLsbD i = true ∧ u.getLsbD i = true
  | 0, k, acc => by
    simp only [growR]
    constructor
    · exact .inl
    · rintro (h | ⟨j, h1, h2, _⟩)
      · exact h
      · omega
  | d + 1, k, acc => by
    rw [growR, growR_bit X Y Z u v i d (k + 1)]
    cases hk : v.getLsbD k with
    | false =>
      simp only [cond_false]
      constructor
      · rintro (h | ⟨j, h1, h2, h3⟩)
        · exact .inl h
        · exact .inr ⟨j, by omega, by omega, h3⟩
      · rintro (h | ⟨j, h1, h2, h3⟩)
        · exact .inl h
        · have : j ≠ k := fun e => by rw [e, hk] at h3; cases h3.1
          exact .inr ⟨j, by omega, by omega, h3⟩
    | true =>
      simp only [cond_true, BitVec.getLsbD_or, BitVec.getLsbD_and, Bool.or_eq_true, Bool.and_eq_true]
      constructor
      · rintro ((h | h) | ⟨j, h1, h2, h3⟩)
        · exact .inl h
        · exact .inr ⟨k, by omega, by omega, hk, h.1, h.2⟩
        · exact .inr ⟨j, by omega, by omega, h3⟩
      · rintro (h | ⟨j, h1, h2, h3, h4, h5⟩)
        · exact .inl (.inl h)
        · by_cases e : j = k
          · subst e; exact .inl (.inr ⟨h4, h5⟩)
          · exact .inr ⟨j, by omega, by omega, h3, h4, h5⟩

def grow1 (X Y Z : Int) (u v : BitVec 64) : BitVec 64 := growR X Y Z u v (X * Y * Z).toNat 0 v

theorem grow1_low {X Y Z : Int} {u v : BitVec 64} (hv : Low (X * Y * Z).toNat v) (hu : Low (X * Y * Z).toNat u) : Low (X * Y * Z).toNat (grow1 X Y Z u v) := by
  intro i hi
  cases hb : (grow1 X Y Z u v).getLsbD i with
  | false => rfl
  | true =>
    unfold grow1 at hb
    rw [growR_bit] at hb
    rcases hb with hb | ⟨_, _, _, _, _, hb⟩
    · rw [hv i hi] at hb; cases hb
    · rw [hu i hi] at hb; cases hb

theorem grow1_sub {X Y Z : Int} {u v : BitVec 64} (i : Nat) (h : v.getLsbD i = true) : (grow1 X Y Z u v).getLsbD i = true := by
  unfold grow1
  rw [growR_bit]
  exact .inl h

def unset (n : Nat) (v : BitVec 64) : Nat := ((List.range n).filter fun i => !v.getLsbD i).length

theorem filter_lt {α : Type} (p p' : α → Bool) : ∀ (l : List α), (∀ x ∈ l, p' x = true → p x = true) → (∃ x ∈ l, p x = true ∧ p' x = false) → (l.filter p').length < (l.filter p).length
  | [], _, h => by obtain ⟨x, hx, _⟩ := h; cases hx
  | a :: l, h, hx => by
    have le : ∀ (l : List α), (∀ x ∈ l, p' x = true → p x = true) → (l.filter p').length ≤ (l.filter p).length := by
      intro l
      induction l with
      | nil => intro _; simp
      | cons b l ih =>
        intro h
        have := ih fun x hx => h x (List.mem_cons_of_mem _ hx)
        cases hb' : p' b with
        | false =>
          cases hb : p b <;> simp [List.filter_cons, hb, hb'] <;> omega
        | true =>
          have hb := h b (List.mem_cons_self ..) hb'
          simp [List.filter_cons, hb, hb']; omega
    obtain ⟨x, hx, h1, h2⟩ := hx
    have hl := le l fun x hx => h x (List.mem_cons_of_mem _ hx)
    rcases List.mem_cons.1 hx with rfl | hx
    · simp only [List.filter_cons, h1, h2, if_true, List.length_cons, Bool.false_eq_true, if_false]
      omega
    · have ih := filter_lt p p' l (fun x hx => h x (List.mem_cons_of_mem _ hx)) ⟨x, hx, h1, h2⟩
      cases ha' : p' a with
      | false => cases ha : p a <;> simp [List.filter_cons, ha, ha'] <;> omega
      | true =>
        have ha := h a (List.mem_cons_self ..) ha'
        simp [List.filter_cons, ha, ha']; omega

theorem unset_lt {n : Nat} {v w : BitVec 64} (hv : Low n v) (hw : Low n w) (hsub : ∀ i, v.getLsbD i = true → w.getLsbD i = true) (hne : w ≠ v) : unset n w < unset n v := by
  unfold unset
  refine filter_lt _ _ _ (fun i _ h => ?_) ?_
  · cases hb : v.getLsbD i with
    | false => rfl
    | true => rw [hsub i hb] at h; exact h
  · apply Classical.byContradiction
    intro hno
    apply hne
    refine low_ext hw hv fun i hi => ?_
    cases hb : v.getLsbD i with
    | true => exact hsub i hb
    | false =>
      cases hb' : w.getLsbD i with
      | false => rfl
      | true => exact absurd ⟨i, List.mem_range.2 hi, by simp [hb], by simp [hb']⟩ hno

theorem unset_le (n : Nat) (v : BitVec 64) : unset n v ≤ n := by
  unfold unset
  have := List.length_filter_le (fun i => !v.getLsbD i) (List.range n)
  simpa using this

/-- A cell of the box with its bit. -/
def bitP (X Y Z : Int) (v : BitVec 64) (c : D_A3) : Prop := within3 X Y Z c = true ∧ v.getLsbD (idx Y Z c) = true

theorem Rch.within {X Y Z : Int} {v u : BitVec 64} {c : D_A3} (h : Rch (bitP X Y Z v) (bitP X Y Z u) c) : within3 X Y Z c = true := by
  induction h with
  | base h => exact h.1
  | step _ _ h _ => exact h.1

/-- What one round adds is reached. -/
theorem grow1_reach {X Y Z : Int} (hs : sides X Y Z = true) {v0 u v : BitVec 64} (h : ∀ c, bitP X Y Z v c → Rch (bitP X Y Z v0) (bitP X Y Z u) c) (c : D_A3) (hc : bitP X Y Z (grow1 X Y Z u v) c) : Rch (bitP X Y Z v0) (bitP X Y Z u) c := by
  obtain ⟨h1, h2⟩ := hc
  unfold grow1 at h2
  rw [growR_bit] at h2
  rcases h2 with h2 | ⟨j, _, hj, h3, h4, h5⟩
  · exact h c ⟨h1, h2⟩
  · obtain ⟨k1, k2⟩ := cellOf_ok (i := j) hs (by omega)
    exact .step (h _ ⟨k1, by rw [k2]; exact h3⟩) ((nearB_bit hs h1).1 h4) ⟨h1, h5⟩

/-- What doesn't grow has all that is reached. -/
theorem grow1_closed {X Y Z : Int} (hs : sides X Y Z = true) {v0 u w : BitVec 64} (hsub : ∀ i, v0.getLsbD i = true → w.getLsbD i = true) (hw : grow1 X Y Z u w = w) (c : D_A3) (h : Rch (bitP X Y Z v0) (bitP X Y Z u) c) : w.getLsbD (idx Y Z c) = true := by
  induction h with
  | base h => exact hsub _ h.2
  | step hr hn hd ih =>
    rename_i c d
    have hc := hr.within
    rw [← hw]
    unfold grow1
    rw [growR_bit]
    refine .inr ⟨idx Y Z c, Nat.zero_le _, by have := (idx_eq hs hc).2.1; omega, ih, ?_, hd.2⟩
    rw [cellOf_idx hs hc]
    exact (nearB_bit hs hd.1).2 hn
/-! ### What is outside -/
def FreeC (X Y Z : Int) (l : List D_A3) (d : D_A3) : Prop := within3 X Y Z d = true ∧ d ∉ l
def Outer (X Y Z : Int) (l : List D_A3) (c : D_A3) : Prop := FreeC X Y Z l c ∧ ∃ m, within3 X Y Z m = false ∧ nb m c
def OutP (X Y Z : Int) (l : List D_A3) : D_A3 → Prop := Rch (Outer X Y Z l) (FreeC X Y Z l)

/-- A search from the margin: the list, what is seen; n cells are done, and k steps of the next one. -/
structure Bfs (X Y Z : Int) (l M : List D_A3) (n k : Nat) (ls sn : List D_A3) : Prop where
  srt : Srt sn
  ins : Ins X Y Z sn
  out : ∀ c ∈ sn, OutP X Y Z l c
  mem : ∀ c, c ∈ ls ↔ c ∈ M ∨ c ∈ sn
  done : ∀ i, i < n → ∀ c, ls[i]? = some c → ∀ d, nb c d → FreeC X Y Z l d → d ∈ sn
  part : ∀ c, ls[n]? = some c → ∀ j, j < k → FreeC X Y Z l (stp j c) → stp j c ∈ sn
  len : ls.length = M.length + sn.length

theorem Bfs.begin {X Y Z : Int} {l M : List D_A3} : Bfs X Y Z l M 0 0 M [] :=
  ⟨List.Pairwise.nil, (fun c h => by cases h), (fun c h => by cases h), (fun c => by simp), (fun i h => by omega), (fun c _ j h => by omega), (by simp)⟩

theorem Bfs.next {X Y Z : Int} {l M ls sn : List D_A3} {n : Nat} (h : Bfs X Y Z l M n 6 ls sn) : Bfs X Y Z l M (n + 1) 0 ls sn :=
  ⟨h.srt, h.ins, h.out, h.mem, fun i hi c hc d hd hf => by
    by_cases e : i = n
    · subst e
      obtain ⟨k, hk, rfl⟩ := hd
      exact h.part c hc k hk hf
    · exact h.done i (by omega) c hc d hd hf, fun c _ j hj => by omega, h.len⟩

theorem Bfs.pass {X Y Z : Int} {l M ls sn : List D_A3} {n k : Nat} (h : Bfs X Y Z l M n k ls sn) (hk : ∀ c, ls[n]? = some c → FreeC X Y Z l (stp k c) → stp k c ∈ sn) : Bfs X Y Z l M n (k + 1) ls sn :=
  ⟨h.srt, h.ins, h.out, h.mem, h.done, fun c hc j hj hf => by
    by_cases e : j = k
    · subst e; exact hk c hc hf
    · exact h.part c hc j (by omega) hf, h.len⟩

theorem Bfs.add {X Y Z : Int} {l M ls sn sn' : List D_A3} {n k : Nat} (hM : ∀ m ∈ M, within3 X Y Z m = false) (h : Bfs X Y Z l M n k ls sn) {c : D_A3} (hc : ls[n]? = some c) (hk : k < 6) (hf : FreeC X Y Z l (stp k c)) (hn : stp k c ∉ sn)
    (hs : Srt sn') (hm : ∀ x, x ∈ sn' ↔ x = stp k c ∨ x ∈ sn) : Bfs X Y Z l M n (k + 1) (ls ++ [stp k c]) sn' := by
  have hlt : n < ls.length := (List.getElem?_eq_some_iff.1 hc).1
  have hlen : sn'.length = sn.length + 1 := by
    have hp : sn'.Perm (stp k c :: sn) := by
      refine (List.perm_ext_iff_of_nodup hs.nodup (List.nodup_cons.2 ⟨hn, h.srt.nodup⟩)).2 fun x => ?_
      rw [hm, List.mem_cons]
    simpa using hp.length_eq
  refine ⟨hs, fun x hx => ?_, fun x hx => ?_, fun x => ?_, fun i hi c' hc' d hd hfd => ?_, fun c' hc' j hj hfj => ?_, ?_⟩
  · rcases (hm x).1 hx with rfl | hx
    · exact hf.1
    · exact h.ins x hx
  · rcases (hm x).1 hx with rfl | hx
    · have hcm : c ∈ ls := List.mem_of_getElem? hc
      rcases (h.mem c).1 hcm with hcM | hcs
      · exact .base ⟨hf, c, hM c hcM, k, hk, rfl⟩
      · exact .step (h.out c hcs) ⟨k, hk, rfl⟩ hf
    · exact h.out x hx
  · rw [List.mem_append, List.mem_singleton, h.mem, hm]
    constructor
    · rintro ((h1 | h1) | h1)
      · exact .inl h1
      · exact .inr (.inr h1)
      · exact .inr (.inl h1)
    · rintro (h1 | h1 | h1)
      · exact .inl (.inl h1)
      · exact .inr h1
      · exact .inl (.inr h1)
  · rw [List.getElem?_append_left (by omega)] at hc'
    exact (hm d).2 (.inr (h.done i hi c' hc' d hd hfd))
  · rw [List.getElem?_append_left hlt, hc] at hc'
    obtain rfl := Option.some.inj hc'
    by_cases e : j = k
    · subst e; exact (hm _).2 (.inl rfl)
    · exact (hm _).2 (.inr (h.part c hc j (by omega) hfj))
  · rw [List.length_append, List.length_singleton, h.len, hlen]
    omega

theorem Bfs.all {X Y Z : Int} {l M ls sn : List D_A3} (hM : ∀ m c, within3 X Y Z m = false → within3 X Y Z c = true → nb m c → m ∈ M) (h : Bfs X Y Z l M ls.length 0 ls sn) (c : D_A3) : c ∈ sn ↔ OutP X Y Z l c := by
  have key : ∀ m, m ∈ ls → ∀ d, nb m d → FreeC X Y Z l d → d ∈ sn := by
    intro m hm d hd hf
    obtain ⟨i, hi, e⟩ := List.getElem_of_mem hm
    exact h.done i hi m (by rw [List.getElem?_eq_getElem hi, e]) d hd hf
  refine ⟨h.out c, fun hc => Rch.of (r := fun c => c ∈ sn) (fun c hc => ?_) (fun c d hc hn hf => ?_) hc⟩
  · obtain ⟨hf, m, hm, hn⟩ := hc
    exact key m ((h.mem m).2 (.inl (hM m c hm hf.1 hn))) c hn hf
  · exact key c ((h.mem c).2 (.inr hc)) d hn hf

theorem srt_small64 {X Y Z : Int} (hs : sides X Y Z = true) {l : List D_A3} (hi : Ins X Y Z l) (hr : Srt l) : l.length ≤ 64 := by
  have h1 : l = bitCells X Y Z (mask Y Z l 0) := (listOf_mask hs hi hr).symm
  have h2 := listFrom_length Y Z (mask Y Z l 0) (X * Y * Z).toNat 0
  have h3 := size64 hs
  rw [h1]
  unfold bitCells
  omega

/-- A set by bits is a function. -/
def SetIs (X Y Z : Int) (v : BitVec 64) (g : D_A3 → Bool) : Prop := Low (X * Y * Z).toNat v ∧ ∀ c, within3 X Y Z c = true → v.getLsbD (idx Y Z c) = g c

theorem SetIs.ext {X Y Z : Int} (hs : sides X Y Z = true) {v w : BitVec 64} {g : D_A3 → Bool} (hv : SetIs X Y Z v g) (hw : SetIs X Y Z w g) : v = w :=
  box_ext hs hv.1 hw.1 fun c hc => by rw [hv.2 c hc, hw.2 c hc]

theorem setIs_mask {X Y Z : Int} (hs : sides X Y Z = true) {l : List D_A3} (hl : Ins X Y Z l) : SetIs X Y Z (mask Y Z l 0) (fun c => decide (c ∈ l)) := ⟨low_mask hs hl, fun _ hc => mask_mem hs hl hc⟩

theorem SetIs.cells {X Y Z : Int} (hs : sides X Y Z = true) {v : BitVec 64} {g : D_A3 → Bool} (hv : SetIs X Y Z v g) {l : List D_A3} (hr : Srt l) (hm : ∀ c, c ∈ l ↔ within3 X Y Z c = true ∧ g c = true) : bitCells X Y Z v = l :=
  srt_ext _ _ (srt_listOf hs v) hr fun c => by
    rw [mem_listOf hs, hm]
    constructor
    · rintro ⟨h1, h2⟩; rw [hv.2 c h1] at h2; exact ⟨h1, h2⟩
    · rintro ⟨h1, h2⟩; exact ⟨h1, by rw [hv.2 c h1]; exact h2⟩

theorem SetIs.bits {X Y Z : Int} {v : BitVec 64} {g : D_A3 → Bool} (hv : SetIs X Y Z v g) {q : List D_A3} (hi : Ins X Y Z q) (hg : ∀ c, within3 X Y Z c = true → g c = decide (c ∈ q)) : BitsOf X Y Z v q :=
  ⟨hi, fun c hc => by rw [hv.2 c hc, hg c hc]⟩
end Go.VI
/- Plain: neighbors, those, grown sets and what is enclosed, as the program has them. -/
namespace Go.VI
open Go.Proofs

def popI (a0 : Int) : Int := (intBits .and .i64 (IntKind.wrap .i64 (IntKind.wrap .u64 ((IntKind.wrap .u64 ((IntKind.wrap .u64 ((intBits .and .u64 (IntKind.wrap .u64 ((shrI .u64 (IntKind.wrap .u64 ((intBits .and .u64 (shrI .u64 (IntKind.wrap .u64 ((intBits .and .u64 (shrI .u64 a0 1) 6148914691236517205) + (intBits .and .u64 a0 6148914691236517205))) 2) 3689348814741910323) + (intBits .and .u64 (IntKind.wrap .u64 ((intBits .and .u64 (shrI .u64 a0 1) 6148914691236517205) + (intBits .and .u64 a0 6148914691236517205))) 3689348814741910323))) 4) + (IntKind.wrap .u64 ((intBits .and .u64 (shrI .u64 (IntKind.wrap .u64 ((intBits .and .u64 (shrI .u64 a0 1) 6148914691236517205) + (intBits .and .u64 a0 6148914691236517205))) 2) 3689348814741910323) + (intBits .and .u64 (IntKind.wrap .u64 ((intBits .and .u64 (shrI .u64 a0 1) 6148914691236517205) + (intBits .and .u64 a0 6148914691236517205))) 3689348814741910323))))) 1085102592571150095) + (shrI .u64 (intBits .and .u64 (IntKind.wrap .u64 ((shrI .u64 (IntKind.wrap .u64 ((intBits .and .u64 (shrI .u64 (IntKind.wrap .u64 ((intBits .and .u64 (shrI .u64 a0 1) 6148914691236517205) + (intBits .and .u64 a0 6148914691236517205))) 2) 3689348814741910323) + (intBits .and .u64 (IntKind.wrap .u64 ((intBits .and .u64 (shrI .u64 a0 1) 6148914691236517205) + (intBits .and .u64 a0 6148914691236517205))) 3689348814741910323))) 4) + (IntKind.wrap .u64 ((intBits .and .u64 (shrI .u64 (IntKind.wrap .u64 ((intBits .and .u64 (shrI .u64 a0 1) 6148914691236517205) + (intBits .and .u64 a0 6148914691236517205))) 2) 3689348814741910323) + (intBits .and .u64 (IntKind.wrap .u64 ((intBits .and .u64 (shrI .u64 a0 1) 6148914691236517205) + (intBits .and .u64 a0 6148914691236517205))) 3689348814741910323))))) 1085102592571150095) 8))) + (shrI .u64 (IntKind.wrap .u64 ((intBits .and .u64 (IntKind.wrap .u64 ((shrI .u64 (IntKind.wrap .u64 ((intBits .and .u64 (shrI .u64 (IntKind.wrap .u64 ((intBits .and .u64 (shrI .u64 a0 1) 6148914691236517205) + (intBits .and .u64 a0 6148914691236517205))) 2) 3689348814741910323) + (intBits .and .u64 (IntKind.wrap .u64 ((intBits .and .u64 (shrI .u64 a0 1) 6148914691236517205) + (intBits .and .u64 a0 6148914691236517205))) 3689348814741910323))) 4) + (IntKind.wrap .u64 ((intBits .and .u64 (shrI .u64 (IntKind.wrap .u64 ((intBits .and .u64 (shrI .u64 a0 1) 6148914691236517205) + (intBits .and .u64 a0 6148914691236517205))) 2) 3689348814741910323) + (intBits .and .u64 (IntKind.wrap .u64 ((intBits .and .u64 (shrI .u64 a0 1) 6148914691236517205) + (intBits .and .u64 a0 6148914691236517205))) 3689348814741910323))))) 1085102592571150095) + (shrI .u64 (intBits .and .u64 (IntKind.wrap .u64 ((shrI .u64 (IntKind.wrap .u64 ((intBits .and .u64 (shrI .u64 (IntKind.wrap .u64 ((intBits .and .u64 (shrI .u64 a0 1) 6148914691236517205) + (intBits .and .u64 a0 6148914691236517205))) 2) 3689348814741910323) + (intBits .and .u64 (IntKind.wrap .u64 ((intBits .and .u64 (shrI .u64 a0 1) 6148914691236517205) + (intBits .and .u64 a0 6148914691236517205))) 3689348814741910323))) 4) + (IntKind.wrap .u64 ((intBits .and .u64 (shrI .u64 (IntKind.wrap .u64 ((intBits .and .u64 (shrI .u64 a0 1) 6148914691236517205) + (intBits .and .u64 a0 6148914691236517205))) 2) 3689348814741910323) + (intBits .and .u64 (IntKind.wrap .u64 ((intBits .and .u64 (shrI .u64 a0 1) 6148914691236517205) + (intBits .and .u64 a0 6148914691236517205))) 3689348814741910323))))) 1085102592571150095) 8))) 16))) + (shrI .u64 (IntKind.wrap .u64 ((IntKind.wrap .u64 ((intBits .and .u64 (IntKind.wrap .u64 ((shrI .u64 (IntKind.wrap .u64 ((intBits .and .u64 (shrI .u64 (IntKind.wrap .u64 ((intBits .and .u64 (shrI .u64 a0 1) 6148914691236517205) + (intBits .and .u64 a0 6148914691236517205))) 2) 3689348814741910323) + (intBits .and .u64 (IntKind.wrap .u64 ((intBits .and .u64 (shrI .u64 a0 1) 6148914691236517205) + (intBits .and .u64 a0 6148914691236517205))) 3689348814741910323))) 4) + (IntKind.wrap .u64 ((intBits .and .u64 (shrI .u64 (IntKind.wrap .u64 ((intBits .and .u64 (shrI .u64 a0 1) 6148914691236517205) + (intBits .and .u64 a0 6148914691236517205))) 2) 3689348814741910323) + (intBits .and .u64 (IntKind.wrap .u64 ((intBits .and .u64 (shrI .u64 a0 1) 6148914691236517205) + (intBits .and .u64 a0 6148914691236517205))) 3689348814741910323))))) 1085102592571150095) + (shrI .u64 (intBits .and .u64 (IntKind.wrap .u64 ((shrI .u64 (IntKind.wrap .u64 ((intBits .and .u64 (shrI .u64 (IntKind.wrap .u64 ((intBits .and .u64 (shrI .u64 a0 1) 6148914691236517205) + (intBits .and .u64 a0 6148914691236517205))) 2) 3689348814741910323) + (intBits .and .u64 (IntKind.wrap .u64 ((intBits .and .u64 (shrI .u64 a0 1) 6148914691236517205) + (intBits .and .u64 a0 6148914691236517205))) 3689348814741910323))) 4) + (IntKind.wrap .u64 ((intBits .and .u64 (shrI .u64 (IntKind.wrap .u64 ((intBits .and .u64 (shrI .u64 a0 1) 6148914691236517205) + (intBits .and .u64 a0 6148914691236517205))) 2) 3689348814741910323) + (intBits .and .u64 (IntKind.wrap .u64 ((intBits .and .u64 (shrI .u64 a0 1) 6148914691236517205) + (intBits .and .u64 a0 6148914691236517205))) 3689348814741910323))))) 1085102592571150095) 8))) + (shrI .u64 (IntKind.wrap .u64 ((intBits .and .u64 (IntKind.wrap .u64 ((shrI .u64 (IntKind.wrap .u64 ((intBits .and .u64 (shrI .u64 (IntKind.wrap .u64 ((intBits .and .u64 (shrI .u64 a0 1) 6148914691236517205) + (intBits .and .u64 a0 6148914691236517205))) 2) 3689348814741910323) + (intBits .and .u64 (IntKind.wrap .u64 ((intBits .and .u64 (shrI .u64 a0 1) 6148914691236517205) + (intBits .and .u64 a0 6148914691236517205))) 3689348814741910323))) 4) + (IntKind.wrap .u64 ((intBits .and .u64 (shrI .u64 (IntKind.wrap .u64 ((intBits .and .u64 (shrI .u64 a0 1) 6148914691236517205) + (intBits .and .u64 a0 6148914691236517205))) 2) 3689348814741910323) + (intBits .and .u64 (IntKind.wrap .u64 ((intBits .and .u64 (shrI .u64 a0 1) 6148914691236517205) + (intBits .and .u64 a0 6148914691236517205))) 3689348814741910323))))) 1085102592571150095) + (shrI .u64 (intBits .and .u64 (IntKind.wrap .u64 ((shrI .u64 (IntKind.wrap .u64 ((intBits .and .u64 (shrI .u64 (IntKind.wrap .u64 ((intBits .and .u64 (shrI .u64 a0 1) 6148914691236517205) + (intBits .and .u64 a0 6148914691236517205))) 2) 3689348814741910323) + (intBits .and .u64 (IntKind.wrap .u64 ((intBits .and .u64 (shrI .u64 a0 1) 6148914691236517205) + (intBits .and .u64 a0 6148914691236517205))) 3689348814741910323))) 4) + (IntKind.wrap .u64 ((intBits .and .u64 (shrI .u64 (IntKind.wrap .u64 ((intBits .and .u64 (shrI .u64 a0 1) 6148914691236517205) + (intBits .and .u64 a0 6148914691236517205))) 2) 3689348814741910323) + (intBits .and .u64 (IntKind.wrap .u64 ((intBits .and .u64 (shrI .u64 a0 1) 6148914691236517205) + (intBits .and .u64 a0 6148914691236517205))) 3689348814741910323))))) 1085102592571150095) 8))) 16))) 32)))) 127)
theorem nearB_eq (X Y Z : Int) (c : D_A3) : nearB X Y Z c = (List.range 6).foldl (fun v k => bif within3 X Y Z (stp k c) then v ||| BitVec.twoPow 64 (idx Y Z (stp k c)) else v) 0 := by
  unfold nearB nears mask
  rw [List.foldl_filter, List.foldl_map]
  congr 1
  funext v k
  cases within3 X Y Z (stp k c) <;> rfl

/-- Is a cell at the rim? -/
def rim (X Y Z : Int) (c : D_A3) : Bool := (List.range 6).any fun k => !within3 X Y Z (stp k c)

def chkRim : Bool := ([1, 2, 3, 4] : List Int).all fun X => ([1, 2, 3, 4] : List Int).all fun Y => ([1, 2, 3, 4] : List Int).all fun Z => (List.range (X * Y * Z).toNat).all fun i =>
  (decide (popI ((nearB X Y Z (cellOf Y Z i)).toNat : Int) < 6)) == rim X Y Z (cellOf Y Z i)
theorem chkRim_ok : chkRim = true := by kernel_rfl

theorem mem1234 {n : Int} (h0 : 1 ≤ n) (h1 : n ≤ 4) : n ∈ ([1, 2, 3, 4] : List Int) := by
  rcases four h0 h1 with rfl | rfl | rfl | rfl <;> simp

theorem pop_rim {X Y Z : Int} (hs : sides X Y Z = true) {c : D_A3} (hc : within3 X Y Z c = true) : decide (popI ((nearB X Y Z c).toNat : Int) < 6) = rim X Y Z c := by
  have h := chkRim_ok
  unfold chkRim at h
  have s := sides_iff.1 hs
  have h1 := List.all_eq_true.1 h X (mem1234 s.1.1 s.1.2)
  have h2 := List.all_eq_true.1 h1 Y (mem1234 s.2.1.1 s.2.1.2)
  have h3 := List.all_eq_true.1 h2 Z (mem1234 s.2.2.1 s.2.2.2)
  have h4 := List.all_eq_true.1 h3 (idx Y Z c) (List.mem_range.2 (idx_eq hs hc).2.1)
  rw [cellOf_idx hs hc] at h4
  exact eq_of_beq h4

theorem f_size {X Y Z : Int} (hs : sides X Y Z = true) : P_box_size ((X, Y, Z, ()), ()) = some (((X * Y * Z).toNat : Int), ()) := by
  have h := size64 hs
  have s := sides_iff.1 hs
  rw [p_box_size]
  show some (IntKind.wrap .i64 (IntKind.wrap .i64 (X * Y) * Z), ()) = _
  rw [w64 (x := X * Y) (by omega) (by omega), w64 (x := X * Y * Z) (by omega) (by omega)]
  congr 2
  omega

theorem near_step {X Y Z : Int} (hs : sides X Y Z = true) {c : D_A3} (hc : Near c) (m0 m1 : Nat) (v : BitVec 64) (d j : Nat) (hd : d < 3) (hj : j < 2) :
    l_box_near_6 m0 (m1 + 1) X Y Z c.1 c.2.1 c.2.2.1 (v.toNat : Int) (d : Int) (d : Int) (-1) 1 (j : Int) = l_box_near_6 m0 m1 X Y Z c.1 c.2.1 c.2.2.1 (((bif within3 X Y Z (stp (2 * d + j) c) then v ||| BitVec.twoPow 64 (idx Y Z (stp (2 * d + j) c)) else v).toNat : Nat) : Int) (d : Int) (d : Int) (-1) 1 ((j + 1 : Nat) : Int) := by
  rw [q_box_near_6]
  unfold Near at hc
  have hst : (((bif decide ((d : Int) = (0 : Int)) then (IntKind.wrap .i64 ((bif decide ((d : Int) = (0 : Int)) then c.1 else (bif decide ((d : Int) = (1 : Int)) then c.2.1 else c.2.2.1)) + (bif decide ((j : Int) = (0 : Int)) then (-1) else 1))) else c.1), ((bif decide ((d : Int) = (1 : Int)) then (IntKind.wrap .i64 ((bif decide ((d : Int) = (0 : Int)) then c.1 else (bif decide ((d : Int) = (1 : Int)) then c.2.1 else c.2.2.1)) + (bif decide ((j : Int) = (0 : Int)) then (-1) else 1))) else c.2.1), ((bif decide ((d : Int) = (2 : Int)) then (IntKind.wrap .i64 ((bif decide ((d : Int) = (0 : Int)) then c.1 else (bif decide ((d : Int) = (1 : Int)) then c.2.1 else c.2.2.1)) + (bif decide ((j : Int) = (0 : Int)) then (-1) else 1))) else c.2.2.1), ()))) : D_A3) = stp (2 * d + j) c := by
    have e1 : ∀ x : Int, -1000 ≤ x → x ≤ 1000 → IntKind.wrap .i64 (x + -1) = x + -1 := fun x h0 h1 => by rw [w64 (by omega) (by omega)]
    have e2 : ∀ x : Int, -1000 ≤ x → x ≤ 1000 → IntKind.wrap .i64 (x + 1) = x + 1 := fun x h0 h1 => by rw [w64 (by omega) (by omega)]
    have hd3 : d = 0 ∨ d = 1 ∨ d = 2 := by omega
    have hj2 : j = 0 ∨ j = 1 := by omega
    rcases hd3 with rfl | rfl | rfl <;> rcases hj2 with rfl | rfl <;> simp [stp, e1 _ hc.1 hc.2.1, e1 _ hc.2.2.1 hc.2.2.2.1, e1 _ hc.2.2.2.2.1 hc.2.2.2.2.2, e2 _ hc.1 hc.2.1, e2 _ hc.2.2.1 hc.2.2.2.1, e2 _ hc.2.2.2.2.1 hc.2.2.2.2.2]
  rw [hst, decide_eq_true (p := (j : Int) < 2) (by omega), inB_at (k := j) (n := 2) hj, inB_at (k := d) (n := 3) hd, f_box_has (X, Y, Z, ()) _ hs, succI j (by omega)]
  simp only [cond_true, Option.bind_some]
  cases hw : within3 X Y Z (stp (2 * d + j) c) with
  | false => simp
  | true =>
    rw [f_box_index hs hw]
    simp only [cond_true, Option.bind_some]
    rw [decide_eq_true (p := (0 : Int) ≤ (idx Y Z (stp (2 * d + j) c) : Int)) (by omega), shl64, or64]
    rfl

theorem f_near {X Y Z : Int} (hs : sides X Y Z = true) {c : D_A3} (hc : Near c) : P_box_near ((X, Y, Z, ()), c, ()) = some (((nearB X Y Z c).toNat : Int), ()) := by
  obtain ⟨n, hn⟩ : ∃ n, N = n + 10 := ⟨N - 10, by have := N_ge; omega⟩
  have done6 : ∀ (m0 m1 : Nat) (v : BitVec 64) (d : Nat), d < 3 → l_box_near_6 m0 (m1 + 1) X Y Z c.1 c.2.1 c.2.2.1 (v.toNat : Int) (d : Int) (d : Int) (-1) 1 ((2 : Nat) : Int) = l_box_near_3 m0 X Y Z c.1 c.2.1 c.2.2.1 (v.toNat : Int) ((d + 1 : Nat) : Int) := by
    intro m0 m1 v d hd
    rw [q_box_near_6, succI d (by omega)]
    rfl
  have step3 : ∀ (m0 : Nat) (v : BitVec 64) (d : Nat), d < 3 → l_box_near_3 (m0 + 1) X Y Z c.1 c.2.1 c.2.2.1 (v.toNat : Int) (d : Int) = l_box_near_6 m0 N X Y Z c.1 c.2.1 c.2.2.1 (v.toNat : Int) (d : Int) (d : Int) (-1) 1 ((0 : Nat) : Int) := by
    intro m0 v d hd
    rw [q_box_near_3, decide_eq_true (by omega)]
    rfl
  have end3 : ∀ (m0 : Nat) (v : Int), l_box_near_3 (m0 + 1) X Y Z c.1 c.2.1 c.2.2.1 v ((3 : Nat) : Int) = some (v, ()) := by
    intro m0 v
    rw [q_box_near_3]
    rfl
  have round : ∀ (m0 : Nat) (v : BitVec 64) (d : Nat), d < 3 → l_box_near_3 (m0 + 1) X Y Z c.1 c.2.1 c.2.2.1 (v.toNat : Int) (d : Int) = l_box_near_3 m0 X Y Z c.1 c.2.1 c.2.2.1 ((((fun (v : BitVec 64) (k : Nat) => bif within3 X Y Z (stp k c) then v ||| BitVec.twoPow 64 (idx Y Z (stp k c)) else v) ((fun (v : BitVec 64) (k : Nat) => bif within3 X Y Z (stp k c) then v ||| BitVec.twoPow 64 (idx Y Z (stp k c)) else v) v (2 * d + 0)) (2 * d + 1)).toNat : Nat) : Int) ((d + 1 : Nat) : Int) := by
    intro m0 v d hd
    rw [step3 m0 v d hd, hn, near_step hs hc m0 (n + 9) v d 0 hd (by omega), near_step hs hc m0 (n + 8) _ d 1 hd (by omega), done6 m0 (n + 7) _ d hd]
  rw [p_box_near]
  show l_box_near_3 N X Y Z c.1 c.2.1 c.2.2.1 (((0 : BitVec 64).toNat : Nat) : Int) ((0 : Nat) : Int) = _
  rw [hn, round (n + 9) 0 0 (by omega), round (n + 8) _ 1 (by omega), round (n + 7) _ 2 (by omega), end3, nearB_eq]
  rfl

/-! ### Growing -/
theorem l_grow3 {X Y Z : Int} (hs : sides X Y Z = true) (u v : BitVec 64) (m0 : Nat) : ∀ (d k m : Nat) (acc : BitVec 64), k + d = (X * Y * Z).toNat → d < m →
    l_box_grown_3 m0 m X Y Z (v.toNat : Int) (u.toNat : Int) (acc.toNat : Int) (((X * Y * Z).toNat : Nat) : Int) (k : Int) = if growR X Y Z u v d k acc = v then some ((v.toNat : Int), ()) else l_box_grown_1 m0 X Y Z ((growR X Y Z u v d k acc).toNat : Int) (u.toNat : Int)
  | d, k, 0, acc, _, h => by omega
  | d, k, m + 1, acc, hk, hm => by
    have h64 := size64 hs
    rw [q_box_grown_3]
    cases d with
    | zero =>
      rw [ltF (by omega), growR]
      simp only [cond_false]
      have e : decide ((acc.toNat : Int) = (v.toNat : Int)) = decide (acc = v) := by
        rw [Bool.eq_iff_iff, decide_eq_true_eq, decide_eq_true_eq]
        constructor
        · intro h; exact BitVec.eq_of_toNat_eq (by omega)
        · intro h; rw [h]
      rw [e]
      by_cases h : acc = v <;> simp [h]
    | succ d =>
      obtain ⟨h1, h2⟩ := cellOf_ok hs (i := k) (by omega)
      rw [ltT (by omega), f_set_has, f_box_cell hs (by omega)]
      simp only [cond_true, Option.bind_some]
      rw [f_near hs (near_of hs h1), succI k (by omega), growR]
      simp only [Option.bind_some]
      rw [and64, or64]
      cases v.getLsbD k with
      | false => exact l_grow3 hs u v m0 d (k + 1) m _ (by omega) (by omega)
      | true => exact l_grow3 hs u v m0 d (k + 1) m _ (by omega) (by omega)

theorem l_grow1 {X Y Z : Int} (hs : sides X Y Z = true) (u v : BitVec 64) (m : Nat) : l_box_grown_1 (m + 1) X Y Z (v.toNat : Int) (u.toNat : Int) = if grow1 X Y Z u v = v then some ((v.toNat : Int), ()) else l_box_grown_1 m X Y Z ((grow1 X Y Z u v).toNat : Int) (u.toNat : Int) := by
  rw [q_box_grown_1, f_size hs]
  exact l_grow3 hs u v m (X * Y * Z).toNat 0 N v (by omega) (by have := size64 hs; have := N_ge; omega)

theorem grown_ex {X Y Z : Int} (hs : sides X Y Z = true) {v0 u : BitVec 64} (hu : Low (X * Y * Z).toNat u) : ∀ (n : Nat) (v : BitVec 64), unset (X * Y * Z).toNat v ≤ n → Low (X * Y * Z).toNat v → (∀ i, v0.getLsbD i = true → v.getLsbD i = true) → (∀ c, bitP X Y Z v c → Rch (bitP X Y Z v0) (bitP X Y Z u) c) →
    ∃ w : BitVec 64, (∀ m, n < m → l_box_grown_1 m X Y Z (v.toNat : Int) (u.toNat : Int) = some ((w.toNat : Int), ())) ∧ Low (X * Y * Z).toNat w ∧ ∀ c, bitP X Y Z w c ↔ Rch (bitP X Y Z v0) (bitP X Y Z u) c := by
  intro n
  induction n with
  | zero =>
    intro v hn hv hsub hr
    by_cases h : grow1 X Y Z u v = v
    · refine ⟨v, fun m hm => ?_, hv, fun c => ⟨hr c, fun hc => ⟨hc.within, grow1_closed hs hsub h c hc⟩⟩⟩
      obtain ⟨m, rfl⟩ : ∃ m', m = m' + 1 := ⟨m - 1, by omega⟩
      rw [l_grow1 hs, if_pos h]
    · have := unset_lt hv (grow1_low hv hu) (fun i hi => grow1_sub i hi) h
      omega
  | succ n ih =>
    intro v hn hv hsub hr
    by_cases h : grow1 X Y Z u v = v
    · refine ⟨v, fun m hm => ?_, hv, fun c => ⟨hr c, fun hc => ⟨hc.within, grow1_closed hs hsub h c hc⟩⟩⟩
      obtain ⟨m, rfl⟩ : ∃ m', m = m' + 1 := ⟨m - 1, by omega⟩
      rw [l_grow1 hs, if_pos h]
    · have hlt := unset_lt hv (grow1_low hv hu) (fun i hi => grow1_sub i hi) h
      obtain ⟨w, h1, h2, h3⟩ := ih (grow1 X Y Z u v) (by omega) (grow1_low hv hu) (fun i hi => grow1_sub i (hsub i hi)) (fun c hc => grow1_reach hs hr c hc)
      refine ⟨w, fun m hm => ?_, h2, h3⟩
      obtain ⟨m, rfl⟩ : ∃ m', m = m' + 1 := ⟨m - 1, by omega⟩
      rw [l_grow1 hs, if_neg h]
      exact h1 m (by omega)

theorem f_grown {X Y Z : Int} (hs : sides X Y Z = true) {v u : BitVec 64} (hv : Low (X * Y * Z).toNat v) (hu : Low (X * Y * Z).toNat u) : ∃ w : BitVec 64, P_box_grown ((X, Y, Z, ()), (v.toNat : Int), (u.toNat : Int), ()) = some ((w.toNat : Int), ()) ∧ Low (X * Y * Z).toNat w ∧ ∀ c, bitP X Y Z w c ↔ Rch (bitP X Y Z v) (bitP X Y Z u) c := by
  obtain ⟨w, h1, h2, h3⟩ := grown_ex hs hu 64 v (by have := unset_le (X * Y * Z).toNat v; have := size64 hs; omega) hv (fun _ h => h) (fun c hc => .base hc)
  refine ⟨w, ?_, h2, h3⟩
  rw [p_box_grown]
  exact h1 N (by have := N_ge; omega)

theorem low_and {n : Nat} {v w : BitVec 64} (hv : Low n v) : Low n (v &&& w) := fun i hi => by rw [BitVec.getLsbD_and, hv i hi, Bool.false_and]

end Go.VI
/- Plain: the texts of heaps. -/
namespace Go.VI
open Go.Proofs

def dg (n : Int) : UInt8 := UInt8.ofNat (48 + n.toNat)
def word (c : D_A3) : List UInt8 := [dg c.1, dg c.2.1, dg c.2.2.1]
def txtH (X Y Z : Int) : List UInt8 := [dg X, 120, dg Y, 120, dg Z]
def txtC (l : List D_A3) : List UInt8 := (l.map fun c => 32 :: word c).flatten
def txt (h : D_Heap) : List UInt8 := txtH h.1 h.2.1 h.2.2.1 ++ txtC h.2.2.2.1

theorem txtC_len (l : List D_A3) : (txtC l).length = 4 * l.length := by
  induction l with
  | nil => rfl
  | cons c r ih =>
    have e : txtC (c :: r) = (32 :: word c) ++ txtC r := rfl
    rw [e, List.length_append, ih, List.length_cons]
    simp [word]
    omega

theorem f_itoa {n : Int} (h0 : 0 ≤ n) (h1 : n < 10) : P_strconv_Itoa (n, ()) = some ([dg n], ()) := by
  show (bif decide (0 ≤ n) && decide (n < 100) then some (Lib.decDigits n.toNat, ()) else none) = _
  rw [decide_eq_true h0, decide_eq_true (p := n < 100) (by omega), Lib.decDigits_one (by omega)]
  rfl

theorem f_num1 {n : Int} (h0 : 0 ≤ n) (h1 : n < 10) : P_spec_l1Num (n, ()) = some ([dg n], ()) := by
  have := f_num n.toNat (by omega)
  have e : ((n.toNat : Nat) : Int) = n := by omega
  rw [e, Lib.decDigits_one (by omega)] at this
  exact this

theorem f_digits {c : D_A3} (h : (0 ≤ c.1 ∧ c.1 < 10) ∧ (0 ≤ c.2.1 ∧ c.2.1 < 10) ∧ (0 ≤ c.2.2.1 ∧ c.2.2.1 < 10)) : P_impl_digits (c, ()) = some (word c, ()) := by
  rw [p_impl_digits, f_itoa h.1.1 h.1.2, f_itoa h.2.1.1 h.2.1.2, f_itoa h.2.2.1 h.2.2.2]
  simp only [Option.bind_some]
  rw [cat_ok (by simp) (by simp)]
  simp only [Option.bind_some]
  rw [cat_ok (by simp) (by simp)]
  rfl

def Dig (l : List D_A3) : Prop := ∀ c ∈ l, (0 ≤ c.1 ∧ c.1 < 10) ∧ (0 ≤ c.2.1 ∧ c.2.1 < 10) ∧ (0 ≤ c.2.2.1 ∧ c.2.2.1 < 10)

theorem l_htI {l : List D_A3} (hl : l.length ≤ 1000000) (hd : Dig l) : ∀ (d k m : Nat) (acc : List UInt8), l.length = k + d → d < m → acc.length ≤ 100000000 + 4 * k → l_impl_heapText_3 m acc l (l.length : Int) (k : Int) = some (acc ++ txtC (l.drop k), ())
  | d, k, 0, acc, _, h, _ => by omega
  | d, k, m + 1, acc, hk, hm, ha => by
    rw [q_impl_heapText_3]
    by_cases hlt : k < l.length
    · rw [ltT hlt, inB_at hlt, nthA (t := T_A3) hlt, f_digits (hd _ (List.getElem_mem hlt)), succI k (by omega)]
      simp only [cond_true, Option.bind_some]
      rw [cat_ok (by simp) (by simp [word])]
      simp only [Option.bind_some]
      rw [cat_ok (by omega) (by simp [word])]
      simp only [Option.bind_some]
      rw [l_htI hl hd (d - 1) (k + 1) m _ (by omega) (by omega) (by simp [word]; omega), drop_at l k hlt, List.append_assoc]
      rfl
    · rw [ltF hlt, List.drop_eq_nil_of_le (by omega)]
      simp [txtC]

theorem dig_of {h : D_Heap} (ho : okHeap h = true) : Dig h.2.2.2.1 ∧ ((0 ≤ h.1 ∧ h.1 < 10) ∧ (0 ≤ h.2.1 ∧ h.2.1 < 10) ∧ (0 ≤ h.2.2.1 ∧ h.2.2.1 < 10)) := by
  obtain ⟨hs, hi, _⟩ := okHeap_iff.1 ho
  have h3 := sides_iff.1 hs
  refine ⟨fun c hc => ?_, by omega⟩
  have := within3_iff.1 (hi c hc)
  omega

theorem text_impl {h : D_Heap} (ho : okHeap h = true) : P_impl_heapText (h, ()) = some (txt h, ()) := by
  obtain ⟨hd, h1, h2, h3⟩ := dig_of ho
  obtain ⟨hs, hi, hr⟩ := okHeap_iff.1 ho
  have h64 := srt_small64 hs hi hr
  rw [p_impl_heapText, f_itoa h1.1 h1.2, f_itoa h2.1 h2.2, f_itoa h3.1 h3.2]
  simp only [Option.bind_some]
  rw [cat_ok (by simp) (by simp)]
  simp only [Option.bind_some]
  rw [cat_ok (by simp) (by simp)]
  simp only [Option.bind_some]
  rw [cat_ok (by simp) (by simp)]
  simp only [Option.bind_some]
  rw [cat_ok (by simp) (by simp)]
  simp only [Option.bind_some]
  have := l_htI (l := h.2.2.2.1) (by omega) hd h.2.2.2.1.length 0 N (txtH h.1 h.2.1 h.2.2.1) (by simp) (by have := N_ge; omega) (by simp [txtH])
  rw [List.drop_zero] at this
  exact this

theorem l_htS {X Y Z : Int} {l : List D_A3} (hl : l.length ≤ 1000000) (hd : Dig l) : ∀ (d k m : Nat) (acc : List UInt8), l.length = k + d → d < m → acc.length ≤ 100000000 + 4 * k → l_spec_l2Text_3 m X Y Z l acc (k : Int) = some (acc ++ txtC (l.drop k), ())
  | d, k, 0, acc, _, h, _ => by omega
  | d, k, m + 1, acc, hk, hm, ha => by
    rw [q_spec_l2Text_3]
    by_cases hlt : k < l.length
    · have hg := hd _ (List.getElem_mem hlt)
      rw [ltT hlt, inB_at hlt, nthA (t := T_A3) hlt, f_num1 hg.1.1 hg.1.2, f_num1 hg.2.1.1 hg.2.1.2, f_num1 hg.2.2.1 hg.2.2.2, succI k (by omega)]
      simp only [cond_true, Option.bind_some]
      rw [cat_ok (by omega) (by simp)]
      simp only [Option.bind_some]
      rw [cat_ok (by simp; omega) (by simp)]
      simp only [Option.bind_some]
      rw [cat_ok (by simp; omega) (by simp)]
      simp only [Option.bind_some]
      rw [cat_ok (by simp; omega) (by simp)]
      simp only [Option.bind_some]
      rw [l_htS hl hd (d - 1) (k + 1) m _ (by omega) (by omega) (by simp; omega), drop_at l k hlt]
      generalize l.drop (k + 1) = r
      generalize l[k] = c
      simp [txtC, word]
    · rw [ltF hlt, List.drop_eq_nil_of_le (by omega)]
      simp [txtC]

theorem text_spec {h : D_Heap} (ho : okHeap h = true) : P_spec_l2Text (h, ()) = some (txt h, ()) := by
  obtain ⟨hd, h1, h2, h3⟩ := dig_of ho
  obtain ⟨hs, hi, hr⟩ := okHeap_iff.1 ho
  have h64 := srt_small64 hs hi hr
  rw [p_spec_l2Text, f_num1 h1.1 h1.2, f_num1 h2.1 h2.2, f_num1 h3.1 h3.2]
  simp only [Option.bind_some]
  rw [cat_ok (by simp) (by simp)]
  simp only [Option.bind_some]
  rw [cat_ok (by simp) (by simp)]
  simp only [Option.bind_some]
  rw [cat_ok (by simp) (by simp)]
  simp only [Option.bind_some]
  rw [cat_ok (by simp) (by simp)]
  simp only [Option.bind_some]
  have := l_htS (X := h.1) (Y := h.2.1) (Z := h.2.2.1) (l := h.2.2.2.1) (by omega) hd h.2.2.2.1.length 0 N (txtH h.1 h.2.1 h.2.2.1) (by simp) (by have := N_ge; omega) (by simp [txtH])
  rw [List.drop_zero] at this
  exact this

theorem heapText_both (h : D_Heap) (hl : Small h.2.2.2.1) : P_impl_HeapText (h, ()) = some (if okHeap h then txt h else [], okHeap h, ()) ∧ P_spec_HeapText (h, ()) = some (if okHeap h then txt h else [], okHeap h, ()) := by
  constructor
  · rw [p_impl_HeapText, f_impl_IsHeap _ hl]
    cases ho : okHeap h with
    | false => rfl
    | true =>
      simp only [Option.bind_some, Bool.not_true, cond_false]
      rw [text_impl ho]
      rfl
  · rw [p_spec_HeapText, f_spec_l2Heap _ hl]
    cases ho : okHeap h with
    | false => rfl
    | true =>
      simp only [Option.bind_some, Bool.not_true, cond_false]
      rw [text_spec ho]
      rfl

/-! ### Reading -/
def dv (b : UInt8) : Int := (b.toNat : Int) - 48
def cell3 (w : List UInt8) : D_A3 := (dv (w.getD 0 0), dv (w.getD 1 0), dv (w.getD 2 0), ())
def noH : D_Heap × Bool × Unit := ((0, (0, (0, (([] : List D_A3), ())))), false, ())
def finP (h : D_Heap) (s : List UInt8) : D_Heap × Bool × Unit := if okHeap h = true ∧ txt h = s then (h, true, ()) else noH
def three (ws : List (List UInt8)) : Bool := ws.all fun w => decide (w.length = 3)

theorem dv_dg {n : Int} (h0 : 0 ≤ n) (h1 : n < 10) : dv (dg n) = n := by
  unfold dv dg
  rw [UInt8.toNat_ofNat']
  omega

theorem cell3_word {c : D_A3} (h : (0 ≤ c.1 ∧ c.1 < 10) ∧ (0 ≤ c.2.1 ∧ c.2.1 < 10) ∧ (0 ≤ c.2.2.1 ∧ c.2.2.1 < 10)) : cell3 (word c) = c := by
  unfold cell3 word
  simp only [List.getD_cons_zero, List.getD_cons_succ]
  rw [dv_dg h.1.1 h.1.2, dv_dg h.2.1.1 h.2.1.2, dv_dg h.2.2.1 h.2.2.2]

theorem f_p1 (b : UInt8) : P_impl_ParseHeap_1 ((b.toNat : Int), ()) = some (dv b, ()) := by
  have hb := b.toNat_lt
  have hb' : b.toNat < 256 := hb
  rw [p_impl_ParseHeap_1, w64 (x := (b.toNat : Int)) (by omega) (by omega), w64 (by omega) (by omega)]
  rfl

theorem word3 {w : List UInt8} (h : w.length = 3) : ∃ a b c, w = [a, b, c] := by
  match w, h with
  | [a, b, c], _ => exact ⟨a, b, c, rfl⟩

theorem app24 {α : Type} {l : List α} {x : α} (h : l.length ≤ 100000000) : (decide ((l.length + ([x] : List α).length) * 24 ≤ 140737488355328) && decide (l.length + ([x] : List α).length ≤ 140737488355328)) = true := by
  rw [Bool.and_eq_true, decide_eq_true_eq, decide_eq_true_eq]
  simp only [List.length_singleton]
  omega

theorem fin_impl (h : D_Heap) (s : List UInt8) (hl : Small h.2.2.2.1) : (Option.bind (P_impl_IsHeap (h, ())) fun r1 =>
    bif !r1.1 then
      some ((0, (0, (0, (([] : List D_A3), ())))), false, ())
    else
      Option.bind (P_impl_heapText (h, ())) fun r3 =>
      bif !(r3.1 == s) then
        some ((0, (0, (0, (([] : List D_A3), ())))), false, ())
      else
        some (h, true, ())) = some (finP h s) := by
  rw [f_impl_IsHeap _ hl]
  unfold finP
  cases ho : okHeap h with
  | false => simp [noH]
  | true =>
    rw [text_impl ho]
    by_cases e : txt h = s
    · simp [e]
    · have e2 : (txt h == s) = false := beq_eq_false_iff_ne.2 e
      simp [e, e2, noH]

theorem fin_spec (h : D_Heap) (s : List UInt8) (hl : Small h.2.2.2.1) : (Option.bind (P_spec_l2Heap (h, ())) fun r1 =>
    bif !r1.1 then
      some ((0, (0, (0, (([] : List D_A3), ())))), false, ())
    else
      Option.bind (P_spec_l2Text (h, ())) fun r3 =>
      bif !(r3.1 == s) then
        some ((0, (0, (0, (([] : List D_A3), ())))), false, ())
      else
        some (h, true, ())) = some (finP h s) := by
  rw [f_spec_l2Heap _ hl]
  unfold finP
  cases ho : okHeap h with
  | false => simp [noH]
  | true =>
    rw [text_spec ho]
    by_cases e : txt h = s
    · simp [e]
    · have e2 : (txt h == s) = false := beq_eq_false_iff_ne.2 e
      simp [e, e2, noH]

theorem l_phI (X Y Z : Int) (s : List UInt8) (ws : List (List UInt8)) (hw : ws.length ≤ 1000) : ∀ (d k m : Nat) (acc : List D_A3), ws.length = k + d → d < m → acc.length ≤ k →
    l_impl_ParseHeap_7 m 0 0 0 [] X Y Z acc s ws (ws.length : Int) (k : Int) = some (if three (ws.drop k) = true then finP (X, Y, Z, acc ++ (ws.drop k).map cell3, ()) s else noH)
  | d, k, 0, acc, _, h, _ => by omega
  | d, k, m + 1, acc, hk, hm, ha => by
    rw [q_impl_ParseHeap_7]
    by_cases hlt : k < ws.length
    · have e : nth (.str : Ty) ws (k : Int) = ws[k] := nthA (t := .str) hlt
      rw [ltT hlt, inB_at hlt, e, drop_at ws k hlt]
      simp only [cond_true]
      by_cases h3 : ws[k].length = 3
      · obtain ⟨a, b, c, hw3⟩ := word3 h3
        rw [hw3]
        have i0 : inB 0 ([a, b, c] : List UInt8).length = true := rfl
        have i1 : inB 1 ([a, b, c] : List UInt8).length = true := rfl
        have i2 : inB 2 ([a, b, c] : List UInt8).length = true := rfl
        have b0 : byteAt [a, b, c] 0 = (a.toNat : Int) := rfl
        have b1 : byteAt [a, b, c] 1 = (b.toNat : Int) := rfl
        have b2 : byteAt [a, b, c] 2 = (c.toNat : Int) := rfl
        rw [decide_eq_true (p := ((List.length [a, b, c] : Nat) : Int) = 3) rfl, i0, i1, i2, b0, b1, b2, f_p1, f_p1, f_p1]
        simp only [Bool.not_true, cond_false, cond_true, Option.bind_some]
        rw [app24 (by omega), succI k (by omega)]
        simp only [cond_true]
        rw [l_phI X Y Z s ws hw (d - 1) (k + 1) m _ (by omega) (by omega) (by simp; omega), List.append_assoc]
        rfl
      · rw [decide_eq_false (p := ((ws[k].length : Nat) : Int) = 3) (by omega)]
        have : three (ws[k] :: ws.drop (k + 1)) = false := by
          unfold three
          rw [List.all_cons, decide_eq_false h3, Bool.false_and]
        rw [this]
        rfl
    · rw [ltF hlt, List.drop_eq_nil_of_le (by omega)]
      simp only [cond_false]
      rw [fin_impl (X, Y, Z, acc, ()) s (by unfold Small; show acc.length ≤ _; omega)]
      simp [three]

theorem l_phS (X Y Z : Int) (s : List UInt8) (w0 : List UInt8) (ws : List (List UInt8)) (hw : ws.length ≤ 1000) : ∀ (d k m : Nat) (acc : List D_A3), ws.length = k + d → d < m → acc.length ≤ k →
    l_spec_ParseHeap_16 m 0 0 0 [] X Y Z acc s (w0 :: ws) ((k + 1 : Nat) : Int) = some (if three (ws.drop k) = true then finP (X, Y, Z, acc ++ (ws.drop k).map cell3, ()) s else noH)
  | d, k, 0, acc, _, h, _ => by omega
  | d, k, m + 1, acc, hk, hm, ha => by
    rw [q_spec_ParseHeap_16]
    by_cases hlt : k < ws.length
    · have hlt' : k + 1 < (w0 :: ws).length := by simpa using hlt
      have e : nth (.str : Ty) (w0 :: ws) ((k + 1 : Nat) : Int) = ws[k] := nthA (t := .str) hlt'
      rw [ltT hlt', inB_at hlt', e, drop_at ws k hlt]
      simp only [cond_true]
      by_cases h3 : ws[k].length = 3
      · obtain ⟨a, b, c, hw3⟩ := word3 h3
        rw [hw3]
        have i0 : inB 0 ([a, b, c] : List UInt8).length = true := rfl
        have i1 : inB 1 ([a, b, c] : List UInt8).length = true := rfl
        have i2 : inB 2 ([a, b, c] : List UInt8).length = true := rfl
        have b0 : byteAt [a, b, c] 0 = (a.toNat : Int) := rfl
        have b1 : byteAt [a, b, c] 1 = (b.toNat : Int) := rfl
        have b2 : byteAt [a, b, c] 2 = (c.toNat : Int) := rfl
        have wd : ∀ x : UInt8, IntKind.wrap .i64 ((IntKind.wrap .i64 (x.toNat : Int)) - 48) = dv x := fun x => by
          have hb' : x.toNat < 256 := x.toNat_lt
          rw [w64 (x := (x.toNat : Int)) (by omega) (by omega), w64 (by omega) (by omega)]
          rfl
        rw [decide_eq_true (p := ((List.length [a, b, c] : Nat) : Int) = 3) rfl, i0, i1, i2, b0, b1, b2, wd, wd, wd]
        simp only [Bool.not_true, cond_false, cond_true]
        rw [app24 (by omega), succI (k + 1) (by omega)]
        simp only [cond_true]
        rw [l_phS X Y Z s w0 ws hw (d - 1) (k + 1) m _ (by omega) (by omega) (by simp; omega), List.append_assoc]
        rfl
      · rw [decide_eq_false (p := ((ws[k].length : Nat) : Int) = 3) (by omega)]
        have : three (ws[k] :: ws.drop (k + 1)) = false := by
          unfold three
          rw [List.all_cons, decide_eq_false h3, Bool.false_and]
        rw [this]
        rfl
    · rw [ltF (show ¬ k + 1 < (w0 :: ws).length by simpa using hlt), List.drop_eq_nil_of_le (by omega)]
      simp only [cond_false]
      rw [fin_spec (X, Y, Z, acc, ()) s (by unfold Small; show acc.length ≤ _; omega)]
      simp [three]
end Go.VI
