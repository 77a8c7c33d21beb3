/- Plain: what is reached from cell to cell. -/
import Derived.Test.YtkiiaoekkppghaaPlA
namespace Go.VI
open Go.Proofs

/-- Neighbors. -/
def nb (c d : D_A3) : Prop := ∃ k, k < 6 ∧ d = stp k c

theorem nb_iff {c d : D_A3} : nb c d ↔ (d.2.1 = c.2.1 ∧ d.2.2.1 = c.2.2.1 ∧ (d.1 = c.1 - 1 ∨ d.1 = c.1 + 1)) ∨ (d.1 = c.1 ∧ d.2.2.1 = c.2.2.1 ∧ (d.2.1 = c.2.1 - 1 ∨ d.2.1 = c.2.1 + 1)) ∨ (d.1 = c.1 ∧ d.2.1 = c.2.1 ∧ (d.2.2.1 = c.2.2.1 - 1 ∨ d.2.2.1 = c.2.2.1 + 1)) := by
  obtain ⟨x, y, z, ⟨⟩⟩ := c
  obtain ⟨x', y', z', ⟨⟩⟩ := d
  constructor
  · rintro ⟨k, hk, e⟩
    rcases six hk with rfl | rfl | rfl | rfl | rfl | rfl <;> simp only [stp, Prod.mk.injEq, and_true] at e <;> obtain ⟨rfl, rfl, rfl⟩ := e <;> simp <;> omega
  · rintro (⟨h1, h2, h3 | h3⟩ | ⟨h1, h2, h3 | h3⟩ | ⟨h1, h2, h3 | h3⟩) <;> simp only at h1 h2 h3 <;> subst h1 <;> subst h2 <;> subst h3
    · exact ⟨0, by omega, by simp [stp]; omega⟩
    · exact ⟨1, by omega, by simp [stp]⟩
    · exact ⟨2, by omega, by simp [stp]; omega⟩
    · exact ⟨3, by omega, by simp [stp]⟩
    · exact ⟨4, by omega, by simp [stp]; omega⟩
    · exact ⟨5, by omega, by simp [stp]⟩

theorem nb_symm {c d : D_A3} (h : nb c d) : nb d c := by
  rw [nb_iff] at h ⊢
  omega

/-- What is reached from some cells by way of others. -/
inductive Rch (p q : D_A3 → Prop) : D_A3 → Prop
  | base {c : D_A3} : p c → Rch p q c
  | step {c d : D_A3} : Rch p q c → nb c d → q d → Rch p q d

theorem Rch.mono {p p' q q' : D_A3 → Prop} (hp : ∀ c, p c → Rch p' q' c) (hq : ∀ c, q c → q' c) {c : D_A3} (h : Rch p q c) : Rch p' q' c := by
  induction h with
  | base h => exact hp _ h
  | step _ hn hd ih => exact .step ih hn (hq _ hd)

theorem Rch.of {p q r : D_A3 → Prop} (hp : ∀ c, p c → r c) (hq : ∀ c d, r c → nb c d → q d → r d) {c : D_A3} (h : Rch p q c) : r c := by
  induction h with
  | base h => exact hp _ h
  | step _ hn hd ih => exact hq _ _ ih hn hd

/-- The neighbors in the box. -/
def nears (X Y Z : Int) (c : D_A3) : List D_A3 := ((List.range 6).map fun k => stp k c).filter (within3 X Y Z)

theorem mem_nears {X Y Z : Int} {c d : D_A3} : d ∈ nears X Y Z c ↔ within3 X Y Z d = true ∧ nb c d := by
  unfold nears nb
  simp only [List.mem_filter, List.mem_map, List.mem_range]
  constructor
  · rintro ⟨⟨k, hk, rfl⟩, h⟩; exact ⟨h, k, hk, rfl⟩
  · rintro ⟨h, k, hk, rfl⟩; exact ⟨⟨k, hk, rfl⟩, h⟩

theorem ins_nears (X Y Z : Int) (c : D_A3) : Ins X Y Z (nears X Y Z c) := fun d hd => (mem_nears.1 hd).1

def nearB (X Y Z : Int) (c : D_A3) : BitVec 64 := mask Y Z (nears X Y Z c) 0

theorem nearB_bit {X Y Z : Int} (hs : sides X Y Z = true) {c d : D_A3} (hd : within3 X Y Z d = true) : (nearB X Y Z c).getLsbD (idx Y Z d) = true ↔ nb c d := by
  unfold nearB
  rw [mask_mem hs (ins_nears X Y Z c) hd, decide_eq_true_eq, mem_nears]
  exact ⟨fun h => h.2, fun h => ⟨hd, h⟩⟩

/-- No bits from a place on. -/
def Low (n : Nat) (v : BitVec 64) : Prop := ∀ i, n ≤ i → v.getLsbD i = false

theorem low_mask {X Y Z : Int} (hs : sides X Y Z = true) {l : List D_A3} (hl : Ins X Y Z l) : Low (X * Y * Z).toNat (mask Y Z l 0) := by
  intro i hi
  rw [mask_bit]
  have h0 : (0 : BitVec 64).getLsbD i = false := by simp
  rw [h0, Bool.false_or, Bool.and_eq_false_iff]
  right
  rw [List.any_eq_false]
  intro c hc
  have := (idx_eq hs (hl c hc)).2.1
  simp only [decide_eq_true_eq]
  omega

theorem low_ext {n : Nat} {v w : BitVec 64} (hv : Low n v) (hw : Low n w) (h : ∀ i, i < n → v.getLsbD i = w.getLsbD i) : v = w := by
  apply BitVec.eq_of_getLsbD_eq
  intro i _
  by_cases hi : i < n
  · exact h i hi
  · rw [hv i (by omega), hw i (by omega)]

theorem box_ext {X Y Z : Int} (hs : sides X Y Z = true) {v w : BitVec 64} (hv : Low (X * Y * Z).toNat v) (hw : Low (X * Y * Z).toNat w) (h : ∀ c, within3 X Y Z c = true → v.getLsbD (idx Y Z c) = w.getLsbD (idx Y Z c)) : v = w := by
  refine low_ext hv hw fun i hi => ?_
  obtain ⟨h1, h2⟩ := cellOf_ok hs hi
  rw [← h2]
  exact h _ h1

/-- One round of growing. -/
def growR (X Y Z : Int) (u v : BitVec 64) : (d k : Nat) → BitVec 64 → BitVec 64
  | 0, _, acc => acc
  | d + 1, k, acc => growR X Y Z u v d (k + 1) (bif v.getLsbD k then acc ||| (nearB X Y Z (cellOf Y Z k) &&& u) else acc)

theorem growR_bit (X Y Z : Int) (u v : BitVec 64) (i : Nat) : ∀ (d k : Nat) (acc : BitVec 64), (growR X Y Z u v d k acc).getLsbD i = true ↔ acc.getLsbD i = true ∨ ∃ j, k ≤ j ∧ j < k + d ∧ v.getLsbD j = true ∧ (nearB X Y Z (cellOf Y Z j)).getLsbD i = true ∧ u.getLsbD i = true
  | 0, k, acc => by
    simp only [growR]
    constructor
    · exact .inl
    · rintro (h | ⟨j, h1, h2, _⟩)
      · exact h
      · omega
  | d + 1, k, acc => by
    rw [growR, growR_bit X Y Z u v i d (k + 1)]
    cases hk : v.getLsbD k with
    | false =>
      simp only [cond_false]
      constructor
      · rintro (h | ⟨j, h1, h2, h3⟩)
        · exact .inl h
        · exact .inr ⟨j, by omega, by omega, h3⟩
      · rintro (h | ⟨j, h1, h2, h3⟩)
        · exact .inl h
        · have : j ≠ k := fun e => by rw [e, hk] at h3; cases h3.1
          exact .inr ⟨j, by omega, by omega, h3⟩
    | true =>
      simp only [cond_true, BitVec.getLsbD_or, BitVec.getLsbD_and, Bool.or_eq_true, Bool.and_eq_true]
      constructor
      · rintro ((h | h) | ⟨j, h1, h2, h3⟩)
        · exact .inl h
        · exact .inr ⟨k, by omega, by omega, hk, h.1, h.2⟩
        · exact .inr ⟨j, by omega, by omega, h3⟩
      · rintro (h | ⟨j, h1, h2, h3, h4, h5⟩)
        · exact .inl (.inl h)
        · by_cases e : j = k
          · subst e; exact .inl (.inr ⟨h4, h5⟩)
          · exact .inr ⟨j, by omega, by omega, h3, h4, h5⟩

def grow1 (X Y Z : Int) (u v : BitVec 64) : BitVec 64 := growR X Y Z u v (X * Y * Z).toNat 0 v

theorem grow1_low {X Y Z : Int} {u v : BitVec 64} (hv : Low (X * Y * Z).toNat v) (hu : Low (X * Y * Z).toNat u) : Low (X * Y * Z).toNat (grow1 X Y Z u v) := by
  intro i hi
  cases hb : (grow1 X Y Z u v).getLsbD i with
  | false => rfl
  | true =>
    unfold grow1 at hb
    rw [growR_bit] at hb
    rcases hb with hb | ⟨_, _, _, _, _, hb⟩
    · rw [hv i hi] at hb; cases hb
    · rw [hu i hi] at hb; cases hb

theorem grow1_sub {X Y Z : Int} {u v : BitVec 64} (i : Nat) (h : v.getLsbD i = true) : (grow1 X Y Z u v).getLsbD i = true := by
  unfold grow1
  rw [growR_bit]
  exact .inl h

def unset (n : Nat) (v : BitVec 64) : Nat := ((List.range n).filter fun i => !v.getLsbD i).length

theorem filter_lt {α : Type} (p p' : α → Bool) : ∀ (l : List α), (∀ x ∈ l, p' x = true → p x = true) → (∃ x ∈ l, p x = true ∧ p' x = false) → (l.filter p').length < (l.filter p).length
  | [], _, h => by obtain ⟨x, hx, _⟩ := h; cases hx
  | a :: l, h, hx => by
    have le : ∀ (l : List α), (∀ x ∈ l, p' x = true → p x = true) → (l.filter p').length ≤ (l.filter p).length := by
      intro l
      induction l with
      | nil => intro _; simp
      | cons b l ih =>
        intro h
        have := ih fun x hx => h x (List.mem_cons_of_mem _ hx)
        cases hb' : p' b with
        | false =>
          cases hb : p b <;> simp [List.filter_cons, hb, hb'] <;> omega
        | true =>
          have hb := h b (List.mem_cons_self ..) hb'
          simp [List.filter_cons, hb, hb']; omega
    obtain ⟨x, hx, h1, h2⟩ := hx
    have hl := le l fun x hx => h x (List.mem_cons_of_mem _ hx)
    rcases List.mem_cons.1 hx with rfl | hx
    · simp only [List.filter_cons, h1, h2, if_true, List.length_cons, Bool.false_eq_true, if_false]
      omega
    · have ih := filter_lt p p' l (fun x hx => h x (List.mem_cons_of_mem _ hx)) ⟨x, hx, h1, h2⟩
      cases ha' : p' a with
      | false => cases ha : p a <;> simp [List.filter_cons, ha, ha'] <;> omega
      | true =>
        have ha := h a (List.mem_cons_self ..) ha'
        simp [List.filter_cons, ha, ha']; omega

theorem unset_lt {n : Nat} {v w : BitVec 64} (hv : Low n v) (hw : Low n w) (hsub : ∀ i, v.getLsbD i = true → w.getLsbD i = true) (hne : w ≠ v) : unset n w < unset n v := by
  unfold unset
  refine filter_lt _ _ _ (fun i _ h => ?_) ?_
  · cases hb : v.getLsbD i with
    | false => rfl
    | true => rw [hsub i hb] at h; exact h
  · apply Classical.byContradiction
    intro hno
    apply hne
    refine low_ext hw hv fun i hi => ?_
    cases hb : v.getLsbD i with
    | true => exact hsub i hb
    | false =>
      cases hb' : w.getLsbD i with
      | false => rfl
      | true => exact absurd ⟨i, List.mem_range.2 hi, by simp [hb], by simp [hb']⟩ hno

theorem unset_le (n : Nat) (v : BitVec 64) : unset n v ≤ n := by
  unfold unset
  have := List.length_filter_le (fun i => !v.getLsbD i) (List.range n)
  simpa using this

/-- A cell of the box with its bit. -/
def bitP (X Y Z : Int) (v : BitVec 64) (c : D_A3) : Prop := within3 X Y Z c = true ∧ v.getLsbD (idx Y Z c) = true

theorem Rch.within {X Y Z : Int} {v u : BitVec 64} {c : D_A3} (h : Rch (bitP X Y Z v) (bitP X Y Z u) c) : within3 X Y Z c = true := by
  induction h with
  | base h => exact h.1
  | step _ _ h _ => exact h.1

/-- What one round adds is reached. -/
theorem grow1_reach {X Y Z : Int} (hs : sides X Y Z = true) {v0 u v : BitVec 64} (h : ∀ c, bitP X Y Z v c → Rch (bitP X Y Z v0) (bitP X Y Z u) c) (c : D_A3) (hc : bitP X Y Z (grow1 X Y Z u v) c) : Rch (bitP X Y Z v0) (bitP X Y Z u) c := by
  obtain ⟨h1, h2⟩ := hc
  unfold grow1 at h2
  rw [growR_bit] at h2
  rcases h2 with h2 | ⟨j, _, hj, h3, h4, h5⟩
  · exact h c ⟨h1, h2⟩
  · obtain ⟨k1, k2⟩ := cellOf_ok (i := j) hs (by omega)
    exact .step (h _ ⟨k1, by rw [k2]; exact h3⟩) ((nearB_bit hs h1).1 h4) ⟨h1, h5⟩

/-- What doesn't grow has all that is reached. -/
theorem grow1_closed {X Y Z : Int} (hs : sides X Y Z = true) {v0 u w : BitVec 64} (hsub : ∀ i, v0.getLsbD i = true → w.getLsbD i = true) (hw : grow1 X Y Z u w = w) (c : D_A3) (h : Rch (bitP X Y Z v0) (bitP X Y Z u) c) : w.getLsbD (idx Y Z c) = true := by
  induction h with
  | base h => exact hsub _ h.2
  | step hr hn hd ih =>
    rename_i c d
    have hc := hr.within
    rw [← hw]
    unfold grow1
    rw [growR_bit]
    refine .inr ⟨idx Y Z c, Nat.zero_le _, by have := (idx_eq hs hc).2.1; omega, ih, ?_, hd.2⟩
    rw [cellOf_idx hs hc]
    exact (nearB_bit hs hd.1).2 hn
/-! ### What is outside -/
def FreeC (X Y Z : Int) (l : List D_A3) (d : D_A3) : Prop := within3 X Y Z d = true ∧ d ∉ l
def Outer (X Y Z : Int) (l : List D_A3) (c : D_A3) : Prop := FreeC X Y Z l c ∧ ∃ m, within3 X Y Z m = false ∧ nb m c
def OutP (X Y Z : Int) (l : List D_A3) : D_A3 → Prop := Rch (Outer X Y Z l) (FreeC X Y Z l)

theorem OutP.freeC {X Y Z : Int} {l : List D_A3} {c : D_A3} (h : OutP X Y Z l c) : FreeC X Y Z l c := by
  cases h with
  | base h => exact h.1
  | step _ _ h => exact h

/-- A search from the margin: the list, what is seen; n cells are done, and k steps of the next one. -/
structure Bfs (X Y Z : Int) (l M : List D_A3) (n k : Nat) (ls sn : List D_A3) : Prop where
  srt : Srt sn
  ins : Ins X Y Z sn
  out : ∀ c ∈ sn, OutP X Y Z l c
  mem : ∀ c, c ∈ ls ↔ c ∈ M ∨ c ∈ sn
  done : ∀ i, i < n → ∀ c, ls[i]? = some c → ∀ d, nb c d → FreeC X Y Z l d → d ∈ sn
  part : ∀ c, ls[n]? = some c → ∀ j, j < k → FreeC X Y Z l (stp j c) → stp j c ∈ sn
  len : ls.length = M.length + sn.length

theorem Bfs.begin {X Y Z : Int} {l M : List D_A3} : Bfs X Y Z l M 0 0 M [] :=
  ⟨List.Pairwise.nil, (fun c h => by cases h), (fun c h => by cases h), (fun c => by simp), (fun i h => by omega), (fun c _ j h => by omega), (by simp)⟩

theorem Bfs.next {X Y Z : Int} {l M ls sn : List D_A3} {n : Nat} (h : Bfs X Y Z l M n 6 ls sn) : Bfs X Y Z l M (n + 1) 0 ls sn :=
  ⟨h.srt, h.ins, h.out, h.mem, fun i hi c hc d hd hf => by
    by_cases e : i = n
    · subst e
      obtain ⟨k, hk, rfl⟩ := hd
      exact h.part c hc k hk hf
    · exact h.done i (by omega) c hc d hd hf, fun c _ j hj => by omega, h.len⟩

theorem Bfs.pass {X Y Z : Int} {l M ls sn : List D_A3} {n k : Nat} (h : Bfs X Y Z l M n k ls sn) (hk : ∀ c, ls[n]? = some c → FreeC X Y Z l (stp k c) → stp k c ∈ sn) : Bfs X Y Z l M n (k + 1) ls sn :=
  ⟨h.srt, h.ins, h.out, h.mem, h.done, fun c hc j hj hf => by
    by_cases e : j = k
    · subst e; exact hk c hc hf
    · exact h.part c hc j (by omega) hf, h.len⟩

theorem Bfs.add {X Y Z : Int} {l M ls sn sn' : List D_A3} {n k : Nat} (hM : ∀ m ∈ M, within3 X Y Z m = false) (h : Bfs X Y Z l M n k ls sn) {c : D_A3} (hc : ls[n]? = some c) (hk : k < 6) (hf : FreeC X Y Z l (stp k c)) (hn : stp k c ∉ sn)
    (hs : Srt sn') (hm : ∀ x, x ∈ sn' ↔ x = stp k c ∨ x ∈ sn) : Bfs X Y Z l M n (k + 1) (ls ++ [stp k c]) sn' := by
  have hlt : n < ls.length := (List.getElem?_eq_some_iff.1 hc).1
  have hlen : sn'.length = sn.length + 1 := by
    have hp : sn'.Perm (stp k c :: sn) := by
      refine (List.perm_ext_iff_of_nodup hs.nodup (List.nodup_cons.2 ⟨hn, h.srt.nodup⟩)).2 fun x => ?_
      rw [hm, List.mem_cons]
    simpa using hp.length_eq
  refine ⟨hs, fun x hx => ?_, fun x hx => ?_, fun x => ?_, fun i hi c' hc' d hd hfd => ?_, fun c' hc' j hj hfj => ?_, ?_⟩
  · rcases (hm x).1 hx with rfl | hx
    · exact hf.1
    · exact h.ins x hx
  · rcases (hm x).1 hx with rfl | hx
    · have hcm : c ∈ ls := List.mem_of_getElem? hc
      rcases (h.mem c).1 hcm with hcM | hcs
      · exact .base ⟨hf, c, hM c hcM, k, hk, rfl⟩
      · exact .step (h.out c hcs) ⟨k, hk, rfl⟩ hf
    · exact h.out x hx
  · rw [List.mem_append, List.mem_singleton, h.mem, hm]
    constructor
    · rintro ((h1 | h1) | h1)
      · exact .inl h1
      · exact .inr (.inr h1)
      · exact .inr (.inl h1)
    · rintro (h1 | h1 | h1)
      · exact .inl (.inl h1)
      · exact .inr h1
      · exact .inl (.inr h1)
  · rw [List.getElem?_append_left (by omega)] at hc'
    exact (hm d).2 (.inr (h.done i hi c' hc' d hd hfd))
  · rw [List.getElem?_append_left hlt, hc] at hc'
    obtain rfl := Option.some.inj hc'
    by_cases e : j = k
    · subst e; exact (hm _).2 (.inl rfl)
    · exact (hm _).2 (.inr (h.part c hc j (by omega) hfj))
  · rw [List.length_append, List.length_singleton, h.len, hlen]
    omega

theorem Bfs.all {X Y Z : Int} {l M ls sn : List D_A3} (hM : ∀ m c, within3 X Y Z m = false → within3 X Y Z c = true → nb m c → m ∈ M) (h : Bfs X Y Z l M ls.length 0 ls sn) (c : D_A3) : c ∈ sn ↔ OutP X Y Z l c := by
  have key : ∀ m, m ∈ ls → ∀ d, nb m d → FreeC X Y Z l d → d ∈ sn := by
    intro m hm d hd hf
    obtain ⟨i, hi, e⟩ := List.getElem_of_mem hm
    exact h.done i hi m (by rw [List.getElem?_eq_getElem hi, e]) d hd hf
  refine ⟨h.out c, fun hc => Rch.of (r := fun c => c ∈ sn) (fun c hc => ?_) (fun c d hc hn hf => ?_) hc⟩
  · obtain ⟨hf, m, hm, hn⟩ := hc
    exact key m ((h.mem m).2 (.inl (hM m c hm hf.1 hn))) c hn hf
  · exact key c ((h.mem c).2 (.inr hc)) d hn hf

theorem srt_small64 {X Y Z : Int} (hs : sides X Y Z = true) {l : List D_A3} (hi : Ins X Y Z l) (hr : Srt l) : l.length ≤ 64 := by
  have h1 : l = bitCells X Y Z (mask Y Z l 0) := (listOf_mask hs hi hr).symm
  have h2 := listFrom_length Y Z (mask Y Z l 0) (X * Y * Z).toNat 0
  have h3 := size64 hs
  rw [h1]
  unfold bitCells
  omega

/-- A set by bits is a function. -/
def SetIs (X Y Z : Int) (v : BitVec 64) (g : D_A3 → Bool) : Prop := Low (X * Y * Z).toNat v ∧ ∀ c, within3 X Y Z c = true → v.getLsbD (idx Y Z c) = g c

theorem SetIs.ext {X Y Z : Int} (hs : sides X Y Z = true) {v w : BitVec 64} {g : D_A3 → Bool} (hv : SetIs X Y Z v g) (hw : SetIs X Y Z w g) : v = w :=
  box_ext hs hv.1 hw.1 fun c hc => by rw [hv.2 c hc, hw.2 c hc]

theorem setIs_mask {X Y Z : Int} (hs : sides X Y Z = true) {l : List D_A3} (hl : Ins X Y Z l) : SetIs X Y Z (mask Y Z l 0) (fun c => decide (c ∈ l)) := ⟨low_mask hs hl, fun _ hc => mask_mem hs hl hc⟩

theorem SetIs.cells {X Y Z : Int} (hs : sides X Y Z = true) {v : BitVec 64} {g : D_A3 → Bool} (hv : SetIs X Y Z v g) {l : List D_A3} (hr : Srt l) (hm : ∀ c, c ∈ l ↔ within3 X Y Z c = true ∧ g c = true) : bitCells X Y Z v = l :=
  srt_ext _ _ (srt_listOf hs v) hr fun c => by
    rw [mem_listOf hs, hm]
    constructor
    · rintro ⟨h1, h2⟩; rw [hv.2 c h1] at h2; exact ⟨h1, h2⟩
    · rintro ⟨h1, h2⟩; exact ⟨h1, by rw [hv.2 c h1]; exact h2⟩

theorem SetIs.bits {X Y Z : Int} {v : BitVec 64} {g : D_A3 → Bool} (hv : SetIs X Y Z v g) {q : List D_A3} (hi : Ins X Y Z q) (hg : ∀ c, within3 X Y Z c = true → g c = decide (c ∈ q)) : BitsOf X Y Z v q :=
  ⟨hi, fun c hc => by rw [hv.2 c hc, hg c hc]⟩
end Go.VI
/- Plain: neighbors, those, grown sets and what is enclosed, as the program has them. -/
namespace Go.VI
open Go.Proofs

def popI (a0 : Int) : Int := (intBits .and .i64 (IntKind.wrap .i64 (IntKind.wrap .u64 ((IntKind.wrap .u64 ((IntKind.wrap .u64 ((intBits .and .u64 (IntKind.wrap .u64 ((shrI .u64 (IntKind.wrap .u64 ((intBits .and .u64 (shrI .u64 (IntKind.wrap .u64 ((intBits .and .u64 (shrI .u64 a0 1) 6148914691236517205) + (intBits .and .u64 a0 6148914691236517205))) 2) 3689348814741910323) + (intBits .and .u64 (IntKind.wrap .u64 ((intBits .and .u64 (shrI .u64 a0 1) 6148914691236517205) + (intBits .and .u64 a0 6148914691236517205))) 3689348814741910323))) 4) + (IntKind.wrap .u64 ((intBits .and .u64 (shrI .u64 (IntKind.wrap .u64 ((intBits .and .u64 (shrI .u64 a0 1) 6148914691236517205) + (intBits .and .u64 a0 6148914691236517205))) 2) 3689348814741910323) + (intBits .and .u64 (IntKind.wrap .u64 ((intBits .and .u64 (shrI .u64 a0 1) 6148914691236517205) + (intBits .and .u64 a0 6148914691236517205))) 3689348814741910323))))) 1085102592571150095) + (shrI .u64 (intBits .and .u64 (IntKind.wrap .u64 ((shrI .u64 (IntKind.wrap .u64 ((intBits .and .u64 (shrI .u64 (IntKind.wrap .u64 ((intBits .and .u64 (shrI .u64 a0 1) 6148914691236517205) + (intBits .and .u64 a0 6148914691236517205))) 2) 3689348814741910323) + (intBits .and .u64 (IntKind.wrap .u64 ((intBits .and .u64 (shrI .u64 a0 1) 6148914691236517205) + (intBits .and .u64 a0 6148914691236517205))) 3689348814741910323))) 4) + (IntKind.wrap .u64 ((intBits .and .u64 (shrI .u64 (IntKind.wrap .u64 ((intBits .and .u64 (shrI .u64 a0 1) 6148914691236517205) + (intBits .and .u64 a0 6148914691236517205))) 2) 3689348814741910323) + (intBits .and .u64 (IntKind.wrap .u64 ((intBits .and .u64 (shrI .u64 a0 1) 6148914691236517205) + (intBits .and .u64 a0 6148914691236517205))) 3689348814741910323))))) 1085102592571150095) 8))) + (shrI .u64 (IntKind.wrap .u64 ((intBits .and .u64 (IntKind.wrap .u64 ((shrI .u64 (IntKind.wrap .u64 ((intBits .and .u64 (shrI .u64 (IntKind.wrap .u64 ((intBits .and .u64 (shrI .u64 a0 1) 6148914691236517205) + (intBits .and .u64 a0 6148914691236517205))) 2) 3689348814741910323) + (intBits .and .u64 (IntKind.wrap .u64 ((intBits .and .u64 (shrI .u64 a0 1) 6148914691236517205) + (intBits .and .u64 a0 6148914691236517205))) 3689348814741910323))) 4) + (IntKind.wrap .u64 ((intBits .and .u64 (shrI .u64 (IntKind.wrap .u64 ((intBits .and .u64 (shrI .u64 a0 1) 6148914691236517205) + (intBits .and .u64 a0 6148914691236517205))) 2) 3689348814741910323) + (intBits .and .u64 (IntKind.wrap .u64 ((intBits .and .u64 (shrI .u64 a0 1) 6148914691236517205) + (intBits .and .u64 a0 6148914691236517205))) 3689348814741910323))))) 1085102592571150095) + (shrI .u64 (intBits .and .u64 (IntKind.wrap .u64 ((shrI .u64 (IntKind.wrap .u64 ((intBits .and .u64 (shrI .u64 (IntKind.wrap .u64 ((intBits .and .u64 (shrI .u64 a0 1) 6148914691236517205) + (intBits .and .u64 a0 6148914691236517205))) 2) 3689348814741910323) + (intBits .and .u64 (IntKind.wrap .u64 ((intBits .and .u64 (shrI .u64 a0 1) 6148914691236517205) + (intBits .and .u64 a0 6148914691236517205))) 3689348814741910323))) 4) + (IntKind.wrap .u64 ((intBits .and .u64 (shrI .u64 (IntKind.wrap .u64 ((intBits .and .u64 (shrI .u64 a0 1) 6148914691236517205) + (intBits .and .u64 a0 6148914691236517205))) 2) 3689348814741910323) + (intBits .and .u64 (IntKind.wrap .u64 ((intBits .and .u64 (shrI .u64 a0 1) 6148914691236517205) + (intBits .and .u64 a0 6148914691236517205))) 3689348814741910323))))) 1085102592571150095) 8))) 16))) + (shrI .u64 (IntKind.wrap .u64 ((IntKind.wrap .u64 ((intBits .and .u64 (IntKind.wrap .u64 ((shrI .u64 (IntKind.wrap .u64 ((intBits .and .u64 (shrI .u64 (IntKind.wrap .u64 ((intBits .and .u64 (shrI .u64 a0 1) 6148914691236517205) + (intBits .and .u64 a0 6148914691236517205))) 2) 3689348814741910323) + (intBits .and .u64 (IntKind.wrap .u64 ((intBits .and .u64 (shrI .u64 a0 1) 6148914691236517205) + (intBits .and .u64 a0 6148914691236517205))) 3689348814741910323))) 4) + (IntKind.wrap .u64 ((intBits .and .u64 (shrI .u64 (IntKind.wrap .u64 ((intBits .and .u64 (shrI .u64 a0 1) 6148914691236517205) + (intBits .and .u64 a0 6148914691236517205))) 2) 3689348814741910323) + (intBits .and .u64 (IntKind.wrap .u64 ((intBits .and .u64 (shrI .u64 a0 1) 6148914691236517205) + (intBits .and .u64 a0 6148914691236517205))) 3689348814741910323))))) 1085102592571150095) + (shrI .u64 (intBits .and .u64 (IntKind.wrap .u64 ((shrI .u64 (IntKind.wrap .u64 ((intBits .and .u64 (shrI .u64 (IntKind.wrap .u64 ((intBits .and .u64 (shrI .u64 a0 1) 6148914691236517205) + (intBits .and .u64 a0 6148914691236517205))) 2) 3689348814741910323) + (intBits .and .u64 (IntKind.wrap .u64 ((intBits .and .u64 (shrI .u64 a0 1) 6148914691236517205) + (intBits .and .u64 a0 6148914691236517205))) 3689348814741910323))) 4) + (IntKind.wrap .u64 ((intBits .and .u64 (shrI .u64 (IntKind.wrap .u64 ((intBits .and .u64 (shrI .u64 a0 1) 6148914691236517205) + (intBits .and .u64 a0 6148914691236517205))) 2) 3689348814741910323) + (intBits .and .u64 (IntKind.wrap .u64 ((intBits .and .u64 (shrI .u64 a0 1) 6148914691236517205) + (intBits .and .u64 a0 6148914691236517205))) 3689348814741910323))))) 1085102592571150095) 8))) + (shrI .u64 (IntKind.wrap .u64 ((intBits .and .u64 (IntKind.wrap .u64 ((shrI .u64 (IntKind.wrap .u64 ((intBits .and .u64 (shrI .u64 (IntKind.wrap .u64 ((intBits .and .u64 (shrI .u64 a0 1) 6148914691236517205) + (intBits .and .u64 a0 6148914691236517205))) 2) 3689348814741910323) + (intBits .and .u64 (IntKind.wrap .u64 ((intBits .and .u64 (shrI .u64 a0 1) 6148914691236517205) + (intBits .and .u64 a0 6148914691236517205))) 3689348814741910323))) 4) + (IntKind.wrap .u64 ((intBits .and .u64 (shrI .u64 (IntKind.wrap .u64 ((intBits .and .u64 (shrI .u64 a0 1) 6148914691236517205) + (intBits .and .u64 a0 6148914691236517205))) 2) 3689348814741910323) + (intBits .and .u64 (IntKind.wrap .u64 ((intBits .and .u64 (shrI .u64 a0 1) 6148914691236517205) + (intBits .and .u64 a0 6148914691236517205))) 3689348814741910323))))) 1085102592571150095) + (shrI .u64 (intBits .and .u64 (IntKind.wrap .u64 ((shrI .u64 (IntKind.wrap .u64 ((intBits .and .u64 (shrI .u64 (IntKind.wrap .u64 ((intBits .and .u64 (shrI .u64 a0 1) 6148914691236517205) + (intBits .and .u64 a0 6148914691236517205))) 2) 3689348814741910323) + (intBits .and .u64 (IntKind.wrap .u64 ((intBits .and .u64 (shrI .u64 a0 1) 6148914691236517205) + (intBits .and .u64 a0 6148914691236517205))) 3689348814741910323))) 4) + (IntKind.wrap .u64 ((intBits .and .u64 (shrI .u64 (IntKind.wrap .u64 ((intBits .and .u64 (shrI .u64 a0 1) 6148914691236517205) + (intBits .and .u64 a0 6148914691236517205))) 2) 3689348814741910323) + (intBits .and .u64 (IntKind.wrap .u64 ((intBits .and .u64 (shrI .u64 a0 1) 6148914691236517205) + (intBits .and .u64 a0 6148914691236517205))) 3689348814741910323))))) 1085102592571150095) 8))) 16))) 32)))) 127)
theorem nearB_eq (X Y Z : Int) (c : D_A3) : nearB X Y Z c = (List.range 6).foldl (fun v k => bif within3 X Y Z (stp k c) then v ||| BitVec.twoPow 64 (idx Y Z (stp k c)) else v) 0 := by
  unfold nearB nears mask
  rw [List.foldl_filter, List.foldl_map]
  congr 1
  funext v k
  cases within3 X Y Z (stp k c) <;> rfl

/-- Is a cell at the rim? -/
def rim (X Y Z : Int) (c : D_A3) : Bool := (List.range 6).any fun k => !within3 X Y Z (stp k c)

def chkRim : Bool := ([1, 2, 3, 4] : List Int).all fun X => ([1, 2, 3, 4] : List Int).all fun Y => ([1, 2, 3, 4] : List Int).all fun Z => (List.range (X * Y * Z).toNat).all fun i =>
  (decide (popI ((nearB X Y Z (cellOf Y Z i)).toNat : Int) < 6)) == rim X Y Z (cellOf Y Z i)
theorem chkRim_ok : chkRim = true := by kernel_rfl

theorem mem1234 {n : Int} (h0 : 1 ≤ n) (h1 : n ≤ 4) : n ∈ ([1, 2, 3, 4] : List Int) := by
  rcases four h0 h1 with rfl | rfl | rfl | rfl <;> simp

theorem pop_rim {X Y Z : Int} (hs : sides X Y Z = true) {c : D_A3} (hc : within3 X Y Z c = true) : decide (popI ((nearB X Y Z c).toNat : Int) < 6) = rim X Y Z c := by
  have h := chkRim_ok
  unfold chkRim at h
  have s := sides_iff.1 hs
  have h1 := List.all_eq_true.1 h X (mem1234 s.1.1 s.1.2)
  have h2 := List.all_eq_true.1 h1 Y (mem1234 s.2.1.1 s.2.1.2)
  have h3 := List.all_eq_true.1 h2 Z (mem1234 s.2.2.1 s.2.2.2)
  have h4 := List.all_eq_true.1 h3 (idx Y Z c) (List.mem_range.2 (idx_eq hs hc).2.1)
  rw [cellOf_idx hs hc] at h4
  exact eq_of_beq h4

theorem f_size {X Y Z : Int} (hs : sides X Y Z = true) : P_box_size ((X, Y, Z, ()), ()) = some (((X * Y * Z).toNat : Int), ()) := by
  have h := size64 hs
  have s := sides_iff.1 hs
  rw [p_box_size]
  show some (IntKind.wrap .i64 (IntKind.wrap .i64 (X * Y) * Z), ()) = _
  rw [w64 (x := X * Y) (by omega) (by omega), w64 (x := X * Y * Z) (by omega) (by omega)]
  congr 2
  omega

theorem near_step {X Y Z : Int} (hs : sides X Y Z = true) {c : D_A3} (hc : Near c) (m0 m1 : Nat) (v : BitVec 64) (d j : Nat) (hd : d < 3) (hj : j < 2) :
    l_box_near_6 m0 (m1 + 1) X Y Z c.1 c.2.1 c.2.2.1 (v.toNat : Int) (d : Int) (d : Int) (-1) 1 (j : Int) = l_box_near_6 m0 m1 X Y Z c.1 c.2.1 c.2.2.1 (((bif within3 X Y Z (stp (2 * d + j) c) then v ||| BitVec.twoPow 64 (idx Y Z (stp (2 * d + j) c)) else v).toNat : Nat) : Int) (d : Int) (d : Int) (-1) 1 ((j + 1 : Nat) : Int) := by
  rw [q_box_near_6]
  unfold Near at hc
  have hst : (((bif decide ((d : Int) = (0 : Int)) then (IntKind.wrap .i64 ((bif decide ((d : Int) = (0 : Int)) then c.1 else (bif decide ((d : Int) = (1 : Int)) then c.2.1 else c.2.2.1)) + (bif decide ((j : Int) = (0 : Int)) then (-1) else 1))) else c.1), ((bif decide ((d : Int) = (1 : Int)) then (IntKind.wrap .i64 ((bif decide ((d : Int) = (0 : Int)) then c.1 else (bif decide ((d : Int) = (1 : Int)) then c.2.1 else c.2.2.1)) + (bif decide ((j : Int) = (0 : Int)) then (-1) else 1))) else c.2.1), ((bif decide ((d : Int) = (2 : Int)) then (IntKind.wrap .i64 ((bif decide ((d : Int) = (0 : Int)) then c.1 else (bif decide ((d : Int) = (1 : Int)) then c.2.1 else c.2.2.1)) + (bif decide ((j : Int) = (0 : Int)) then (-1) else 1))) else c.2.2.1), ()))) : D_A3) = stp (2 * d + j) c := by
    have e1 : ∀ x : Int, -1000 ≤ x → x ≤ 1000 → IntKind.wrap .i64 (x + -1) = x + -1 := fun x h0 h1 => by rw [w64 (by omega) (by omega)]
    have e2 : ∀ x : Int, -1000 ≤ x → x ≤ 1000 → IntKind.wrap .i64 (x + 1) = x + 1 := fun x h0 h1 => by rw [w64 (by omega) (by omega)]
    have hd3 : d = 0 ∨ d = 1 ∨ d = 2 := by omega
    have hj2 : j = 0 ∨ j = 1 := by omega
    rcases hd3 with rfl | rfl | rfl <;> rcases hj2 with rfl | rfl <;> simp [stp, e1 _ hc.1 hc.2.1, e1 _ hc.2.2.1 hc.2.2.2.1, e1 _ hc.2.2.2.2.1 hc.2.2.2.2.2, e2 _ hc.1 hc.2.1, e2 _ hc.2.2.1 hc.2.2.2.1, e2 _ hc.2.2.2.2.1 hc.2.2.2.2.2]
  rw [hst, decide_eq_true (p := (j : Int) < 2) (by omega), inB_at (k := j) (n := 2) hj, inB_at (k := d) (n := 3) hd, f_box_has (X, Y, Z, ()) _ hs, succI j (by omega)]
  simp only [cond_true, Option.bind_some]
  cases hw : within3 X Y Z (stp (2 * d + j) c) with
  | false => simp
  | true =>
    rw [f_box_index hs hw]
    simp only [cond_true, Option.bind_some]
    rw [decide_eq_true (p := (0 : Int) ≤ (idx Y Z (stp (2 * d + j) c) : Int)) (by omega), shl64, or64]
    rfl

theorem f_near {X Y Z : Int} (hs : sides X Y Z = true) {c : D_A3} (hc : Near c) : P_box_near ((X, Y, Z, ()), c, ()) = some (((nearB X Y Z c).toNat : Int), ()) := by
  obtain ⟨n, hn⟩ : ∃ n, N = n + 10 := ⟨N - 10, by have := N_ge; omega⟩
  have done6 : ∀ (m0 m1 : Nat) (v : BitVec 64) (d : Nat), d < 3 → l_box_near_6 m0 (m1 + 1) X Y Z c.1 c.2.1 c.2.2.1 (v.toNat : Int) (d : Int) (d : Int) (-1) 1 ((2 : Nat) : Int) = l_box_near_3 m0 X Y Z c.1 c.2.1 c.2.2.1 (v.toNat : Int) ((d + 1 : Nat) : Int) := by
    intro m0 m1 v d hd
    rw [q_box_near_6, succI d (by omega)]
    rfl
  have step3 : ∀ (m0 : Nat) (v : BitVec 64) (d : Nat), d < 3 → l_box_near_3 (m0 + 1) X Y Z c.1 c.2.1 c.2.2.1 (v.toNat : Int) (d : Int) = l_box_near_6 m0 N X Y Z c.1 c.2.1 c.2.2.1 (v.toNat : Int) (d : Int) (d : Int) (-1) 1 ((0 : Nat) : Int) := by
    intro m0 v d hd
    rw [q_box_near_3, decide_eq_true (by omega)]
    rfl
  have end3 : ∀ (m0 : Nat) (v : Int), l_box_near_3 (m0 + 1) X Y Z c.1 c.2.1 c.2.2.1 v ((3 : Nat) : Int) = some (v, ()) := by
    intro m0 v
    rw [q_box_near_3]
    rfl
  have round : ∀ (m0 : Nat) (v : BitVec 64) (d : Nat), d < 3 → l_box_near_3 (m0 + 1) X Y Z c.1 c.2.1 c.2.2.1 (v.toNat : Int) (d : Int) = l_box_near_3 m0 X Y Z c.1 c.2.1 c.2.2.1 ((((fun (v : BitVec 64) (k : Nat) => bif within3 X Y Z (stp k c) then v ||| BitVec.twoPow 64 (idx Y Z (stp k c)) else v) ((fun (v : BitVec 64) (k : Nat) => bif within3 X Y Z (stp k c) then v ||| BitVec.twoPow 64 (idx Y Z (stp k c)) else v) v (2 * d + 0)) (2 * d + 1)).toNat : Nat) : Int) ((d + 1 : Nat) : Int) := by
    intro m0 v d hd
    rw [step3 m0 v d hd, hn, near_step hs hc m0 (n + 9) v d 0 hd (by omega), near_step hs hc m0 (n + 8) _ d 1 hd (by omega), done6 m0 (n + 7) _ d hd]
  rw [p_box_near]
  show l_box_near_3 N X Y Z c.1 c.2.1 c.2.2.1 (((0 : BitVec 64).toNat : Nat) : Int) ((0 : Nat) : Int) = _
  rw [hn, round (n + 9) 0 0 (by omega), round (n + 8) _ 1 (by omega), round (n + 7) _ 2 (by omega), end3, nearB_eq]
  rfl

/-- The cells for which something is so. -/
def thoseR (Y Z : Int) (g : D_A3 → Bool) : (d k : Nat) → BitVec 64 → BitVec 64
  | 0, _, v => v
  | d + 1, k, v => thoseR Y Z g d (k + 1) (bif g (cellOf Y Z k) then v ||| BitVec.twoPow 64 k else v)

theorem thoseR_bit (Y Z : Int) (g : D_A3 → Bool) (i : Nat) : ∀ (d k : Nat) (v : BitVec 64), k + d ≤ 64 → (thoseR Y Z g d k v).getLsbD i = (v.getLsbD i || (decide (k ≤ i) && decide (i < k + d) && g (cellOf Y Z i)))
  | 0, k, v, _ => by
    have : (decide (k ≤ i) && decide (i < k + 0)) = false := by
      rw [Bool.and_eq_false_iff, decide_eq_false_iff_not, decide_eq_false_iff_not]; omega
    simp only [thoseR, this, Bool.false_and, Bool.or_false]
  | d + 1, k, v, h => by
    rw [thoseR, thoseR_bit Y Z g i d (k + 1) _ (by omega)]
    by_cases e : i = k
    · subst e
      have h1 : decide (i + 1 ≤ i) = false := decide_eq_false (by omega)
      have h2 : decide (i < i + (d + 1)) = true := decide_eq_true (by omega)
      rw [h1, h2]
      cases g (cellOf Y Z i) with
      | false => simp
      | true =>
        simp only [cond_true, BitVec.getLsbD_or, BitVec.getLsbD_twoPow]
        have : decide (i < 64) = true := decide_eq_true (by omega)
        simp [this]
    · have h1 : decide (k + 1 ≤ i) = decide (k ≤ i) := by rw [Bool.eq_iff_iff, decide_eq_true_eq, decide_eq_true_eq]; omega
      have h2 : decide (i < k + 1 + d) = decide (i < k + (d + 1)) := by rw [Bool.eq_iff_iff, decide_eq_true_eq, decide_eq_true_eq]; omega
      rw [h1, h2]
      congr 1
      cases g (cellOf Y Z k) with
      | false => rfl
      | true =>
        simp only [cond_true, BitVec.getLsbD_or, BitVec.getLsbD_twoPow]
        have : decide (k = i) = false := decide_eq_false (fun h => e h.symm)
        simp [this]

theorem l_those {X Y Z : Int} (hs : sides X Y Z = true) {g : D_A3 → Bool} {F : D_A3 × Unit → Option (Bool × Unit)} (hF : ∀ c, within3 X Y Z c = true → F (c, ()) = some (g c, ())) : ∀ (d k m : Nat) (v : BitVec 64), k + d = (X * Y * Z).toNat → d < m →
    l_box_those_3 m X Y Z F (v.toNat : Int) (((X * Y * Z).toNat : Nat) : Int) (k : Int) = some (((thoseR Y Z g d k v).toNat : Int), ())
  | d, k, 0, v, _, h => by omega
  | d, k, m + 1, v, hk, hm => by
    have h64 := size64 hs
    rw [q_box_those_3]
    cases d with
    | zero =>
      rw [ltF (by omega)]
      rfl
    | succ d =>
      obtain ⟨h1, h2⟩ := cellOf_ok hs (i := k) (by omega)
      rw [ltT (by omega), f_box_cell hs (by omega)]
      simp only [cond_true, Option.bind_some]
      rw [hF _ h1, succI k (by omega), decide_eq_true (p := (0 : Int) ≤ (k : Int)) (by omega), shl64, or64]
      simp only [cond_true, Option.bind_some]
      rw [thoseR]
      cases g (cellOf Y Z k) with
      | false => exact l_those hs hF d (k + 1) m _ (by omega) (by omega)
      | true => exact l_those hs hF d (k + 1) m _ (by omega) (by omega)

theorem f_those {X Y Z : Int} (hs : sides X Y Z = true) {g : D_A3 → Bool} {F : D_A3 × Unit → Option (Bool × Unit)} (hF : ∀ c, within3 X Y Z c = true → F (c, ()) = some (g c, ())) : ∃ v : BitVec 64, P_box_those ((X, Y, Z, ()), F, ()) = some ((v.toNat : Int), ()) ∧ SetIs X Y Z v g := by
  have h64 := size64 hs
  refine ⟨thoseR Y Z g (X * Y * Z).toNat 0 0, ?_, fun i hi => ?_, fun c hc => ?_⟩
  · rw [p_box_those, f_size hs]
    exact l_those hs hF (X * Y * Z).toNat 0 N 0 (by omega) (by have := N_ge; omega)
  · rw [thoseR_bit Y Z g i _ 0 0 (by omega)]
    have : decide (i < 0 + (X * Y * Z).toNat) = false := decide_eq_false (by omega)
    rw [this, Bool.and_false, Bool.false_and, Bool.or_false]
    simp
  · rw [thoseR_bit Y Z g _ _ 0 0 (by omega), cellOf_idx hs hc]
    have : decide (idx Y Z c < 0 + (X * Y * Z).toNat) = true := decide_eq_true (by have := (idx_eq hs hc).2.1; omega)
    rw [this, decide_eq_true (Nat.zero_le _)]
    simp

/-! ### Growing -/
theorem l_grow3 {X Y Z : Int} (hs : sides X Y Z = true) (u v : BitVec 64) (m0 : Nat) : ∀ (d k m : Nat) (acc : BitVec 64), k + d = (X * Y * Z).toNat → d < m →
    l_box_grown_3 m0 m X Y Z (v.toNat : Int) (u.toNat : Int) (acc.toNat : Int) (((X * Y * Z).toNat : Nat) : Int) (k : Int) = if growR X Y Z u v d k acc = v then some ((v.toNat : Int), ()) else l_box_grown_1 m0 X Y Z ((growR X Y Z u v d k acc).toNat : Int) (u.toNat : Int)
  | d, k, 0, acc, _, h => by omega
  | d, k, m + 1, acc, hk, hm => by
    have h64 := size64 hs
    rw [q_box_grown_3]
    cases d with
    | zero =>
      rw [ltF (by omega), growR]
      simp only [cond_false]
      have e : decide ((acc.toNat : Int) = (v.toNat : Int)) = decide (acc = v) := by
        rw [Bool.eq_iff_iff, decide_eq_true_eq, decide_eq_true_eq]
        constructor
        · intro h; exact BitVec.eq_of_toNat_eq (by omega)
        · intro h; rw [h]
      rw [e]
      by_cases h : acc = v <;> simp [h]
    | succ d =>
      obtain ⟨h1, h2⟩ := cellOf_ok hs (i := k) (by omega)
      rw [ltT (by omega), f_set_has, f_box_cell hs (by omega)]
      simp only [cond_true, Option.bind_some]
      rw [f_near hs (near_of hs h1), succI k (by omega), growR]
      simp only [Option.bind_some]
      rw [and64, or64]
      cases v.getLsbD k with
      | false => exact l_grow3 hs u v m0 d (k + 1) m _ (by omega) (by omega)
      | true => exact l_grow3 hs u v m0 d (k + 1) m _ (by omega) (by omega)

theorem l_grow1 {X Y Z : Int} (hs : sides X Y Z = true) (u v : BitVec 64) (m : Nat) : l_box_grown_1 (m + 1) X Y Z (v.toNat : Int) (u.toNat : Int) = if grow1 X Y Z u v = v then some ((v.toNat : Int), ()) else l_box_grown_1 m X Y Z ((grow1 X Y Z u v).toNat : Int) (u.toNat : Int) := by
  rw [q_box_grown_1, f_size hs]
  exact l_grow3 hs u v m (X * Y * Z).toNat 0 N v (by omega) (by have := size64 hs; have := N_ge; omega)

theorem grown_ex {X Y Z : Int} (hs : sides X Y Z = true) {v0 u : BitVec 64} (hu : Low (X * Y * Z).toNat u) : ∀ (n : Nat) (v : BitVec 64), unset (X * Y * Z).toNat v ≤ n → Low (X * Y * Z).toNat v → (∀ i, v0.getLsbD i = true → v.getLsbD i = true) → (∀ c, bitP X Y Z v c → Rch (bitP X Y Z v0) (bitP X Y Z u) c) →
    ∃ w : BitVec 64, (∀ m, n < m → l_box_grown_1 m X Y Z (v.toNat : Int) (u.toNat : Int) = some ((w.toNat : Int), ())) ∧ Low (X * Y * Z).toNat w ∧ ∀ c, bitP X Y Z w c ↔ Rch (bitP X Y Z v0) (bitP X Y Z u) c := by
  intro n
  induction n with
  | zero =>
    intro v hn hv hsub hr
    by_cases h : grow1 X Y Z u v = v
    · refine ⟨v, fun m hm => ?_, hv, fun c => ⟨hr c, fun hc => ⟨hc.within, grow1_closed hs hsub h c hc⟩⟩⟩
      obtain ⟨m, rfl⟩ : ∃ m', m = m' + 1 := ⟨m - 1, by omega⟩
      rw [l_grow1 hs, if_pos h]
    · have := unset_lt hv (grow1_low hv hu) (fun i hi => grow1_sub i hi) h
      omega
  | succ n ih =>
    intro v hn hv hsub hr
    by_cases h : grow1 X Y Z u v = v
    · refine ⟨v, fun m hm => ?_, hv, fun c => ⟨hr c, fun hc => ⟨hc.within, grow1_closed hs hsub h c hc⟩⟩⟩
      obtain ⟨m, rfl⟩ : ∃ m', m = m' + 1 := ⟨m - 1, by omega⟩
      rw [l_grow1 hs, if_pos h]
    · have hlt := unset_lt hv (grow1_low hv hu) (fun i hi => grow1_sub i hi) h
      obtain ⟨w, h1, h2, h3⟩ := ih (grow1 X Y Z u v) (by omega) (grow1_low hv hu) (fun i hi => grow1_sub i (hsub i hi)) (fun c hc => grow1_reach hs hr c hc)
      refine ⟨w, fun m hm => ?_, h2, h3⟩
      obtain ⟨m, rfl⟩ : ∃ m', m = m' + 1 := ⟨m - 1, by omega⟩
      rw [l_grow1 hs, if_neg h]
      exact h1 m (by omega)

theorem f_grown {X Y Z : Int} (hs : sides X Y Z = true) {v u : BitVec 64} (hv : Low (X * Y * Z).toNat v) (hu : Low (X * Y * Z).toNat u) : ∃ w : BitVec 64, P_box_grown ((X, Y, Z, ()), (v.toNat : Int), (u.toNat : Int), ()) = some ((w.toNat : Int), ()) ∧ Low (X * Y * Z).toNat w ∧ ∀ c, bitP X Y Z w c ↔ Rch (bitP X Y Z v) (bitP X Y Z u) c := by
  obtain ⟨w, h1, h2, h3⟩ := grown_ex hs hu 64 v (by have := unset_le (X * Y * Z).toNat v; have := size64 hs; omega) hv (fun _ h => h) (fun c hc => .base hc)
  refine ⟨w, ?_, h2, h3⟩
  rw [p_box_grown]
  exact h1 N (by have := N_ge; omega)

theorem low_and {n : Nat} {v w : BitVec 64} (hv : Low n v) : Low n (v &&& w) := fun i hi => by rw [BitVec.getLsbD_and, hv i hi, Bool.false_and]

theorem rim_iff {X Y Z : Int} {c : D_A3} : rim X Y Z c = true ↔ ∃ m, within3 X Y Z m = false ∧ nb m c := by
  unfold rim
  rw [List.any_eq_true]
  constructor
  · rintro ⟨k, hk, h⟩
    exact ⟨stp k c, by simpa using h, nb_symm ⟨k, List.mem_range.1 hk, rfl⟩⟩
  · rintro ⟨m, hm, hn⟩
    obtain ⟨k, hk, rfl⟩ := nb_symm hn
    exact ⟨k, List.mem_range.2 hk, by simp [hm]⟩

open Classical in
/-- What is enclosed. -/
noncomputable def encl (X Y Z : Int) (l : List D_A3) : List D_A3 := (allCells X Y Z).filter fun c => decide (c ∉ l ∧ ¬ OutP X Y Z l c)

open Classical in
theorem mem_encl {X Y Z : Int} (hs : sides X Y Z = true) {l : List D_A3} {c : D_A3} : c ∈ encl X Y Z l ↔ within3 X Y Z c = true ∧ c ∉ l ∧ ¬ OutP X Y Z l c := by
  unfold encl
  rw [List.mem_filter, mem_allCells hs, decide_eq_true_eq]

theorem encl_ok {X Y Z : Int} (hs : sides X Y Z = true) (l : List D_A3) : Small (encl X Y Z l) ∧ Ins X Y Z (encl X Y Z l) ∧ Srt (encl X Y Z l) := by
  obtain ⟨h1, h2, h3⟩ := allCells_ok hs
  refine ⟨?_, h2.filter _, h3.filter _⟩
  unfold Small at h1 ⊢
  exact Nat.le_trans (List.length_filter_le _ _) h1

end Go.VI
/- Plain: cuts. -/
namespace Go.VI
open Go.Proofs

def sh (d s : Int) (c : D_A3) : D_A3 := ((bif decide (d = 0) then c.1 + s else c.1), (bif decide (d = 1) then c.2.1 + s else c.2.1), (bif decide (d = 2) then c.2.2.1 + s else c.2.2.1), ())

theorem ltC_sh (d s : Int) (a b : D_A3) : ltC (sh d s a) (sh d s b) = ltC a b := by
  unfold ltC sh
  cases decide (d = 0) <;> cases decide (d = 1) <;> cases decide (d = 2) <;> simp

theorem srt_sh {l : List D_A3} (h : Srt l) (d s : Int) : Srt (l.map (sh d s)) := by
  unfold Srt
  rw [List.pairwise_map]
  exact List.Pairwise.imp (fun {a b} hab => by rw [ltC_sh]; exact hab) h

theorem dir {d : Int} (h0 : 0 ≤ d) (h1 : d ≤ 2) : d = 0 ∨ d = 1 ∨ d = 2 := by omega

theorem get3_sh {d : Int} (h0 : 0 ≤ d) (h1 : d ≤ 2) (s : Int) (c : D_A3) : get3 (sh d s c) d = get3 c d + s := by
  rcases dir h0 h1 with rfl | rfl | rfl <;> rfl

theorem sh_sh (d s t : Int) (c : D_A3) : sh d t (sh d s c) = sh d (s + t) c := by
  refine cell_ext ?_ ?_ ?_ <;> simp only [sh]
  · cases decide (d = 0) <;> simp; omega
  · cases decide (d = 1) <;> simp; omega
  · cases decide (d = 2) <;> simp; omega

theorem sh_zero (d : Int) (c : D_A3) : sh d 0 c = c := by
  refine cell_ext ?_ ?_ ?_ <;> simp [sh]

def cutN (l : List D_A3) (d k : Int) : Nat := (l.filter fun c => decide (get3 c d = k) && decide (sh d (-1) c ∈ l)).length

theorem inB_dir {d : Int} (h0 : 0 ≤ d) (h1 : d ≤ 2) : inB d 3 = true := by
  rcases dir h0 h1 with rfl | rfl | rfl <;> decide

def side3 (X Y Z d : Int) : Int := bif decide (d = 0) then X else (bif decide (d = 1) then Y else Z)

theorem faces_eq (l : List D_A3) (hr : Srt l) (dr k : Int) (d0 : 0 ≤ dr) (d1 : dr ≤ 2) : (l.filter fun c => decide (get3 c dr = k - 1) && decide (sh dr 1 c ∈ l)).map (sh dr 1) = l.filter fun c => decide (get3 c dr = k) && decide (sh dr (-1) c ∈ l) := by
  refine srt_ext _ _ (srt_sh (hr.filter _) _ _) (hr.filter _) fun c => ?_
  simp only [List.mem_map, List.mem_filter, Bool.and_eq_true, decide_eq_true_eq]
  constructor
  · rintro ⟨a, ⟨h1, h2, h3⟩, rfl⟩
    refine ⟨h3, ?_, ?_⟩
    · rw [get3_sh d0 d1]; omega
    · rw [sh_sh, show (1 : Int) + -1 = 0 from rfl, sh_zero]; exact h1
  · rintro ⟨h1, h2, h3⟩
    refine ⟨sh dr (-1) c, ⟨h3, ?_, ?_⟩, ?_⟩
    · rw [get3_sh d0 d1]; omega
    · rw [sh_sh, show (-1 : Int) + 1 = 0 from rfl, sh_zero]; exact h1
    · rw [sh_sh, show (-1 : Int) + 1 = 0 from rfl, sh_zero]

def isCut (X Y Z d k : Int) : Bool := decide (0 ≤ d) && decide (d ≤ 2) && (decide (1 ≤ k) && decide (k ≤ side3 X Y Z d - 1))

theorem side3_ok {X Y Z : Int} (hs : sides X Y Z = true) (d : Int) : 1 ≤ side3 X Y Z d ∧ side3 X Y Z d ≤ 4 := by
  obtain ⟨s1, s2, s3⟩ := sides_iff.1 hs
  unfold side3
  cases decide (d = 0) <;> cases decide (d = 1) <;> simp <;> omega

theorem f_isCut {X Y Z : Int} (l : List D_A3) (hs : sides X Y Z = true) (d k : Int) : P_Heap_isCut ((X, Y, Z, l, ()), d, k, ()) = some (isCut X Y Z d k, ()) := by
  have h4 := side3_ok hs d
  rw [p_Heap_isCut, p_impl_isDirection, f_impl_within, f_Heap_box]
  simp only [Option.bind_some, f_impl_within]
  unfold isCut
  by_cases hd : 0 ≤ d ∧ d ≤ 2
  · rw [decide_eq_true hd.1, decide_eq_true hd.2, inB_dir hd.1 hd.2]
    simp only [Bool.and_self, cond_true, Bool.true_and]
    have : (bif decide (d = (0 : Int)) then X else (bif decide (d = (1 : Int)) then Y else Z)) = side3 X Y Z d := rfl
    rw [this, w64 (by omega) (by omega)]
  · have : (decide (0 ≤ d) && decide (d ≤ 2)) = false := by simp; omega
    rw [this]
    simp

theorem f_l2Long {X Y Z : Int} (l : List D_A3) {d : Int} (d0 : 0 ≤ d) (d1 : d ≤ 2) : P_spec_l2Long ((X, Y, Z, l, ()), d, ()) = some (side3 X Y Z d, ()) := by
  rw [p_spec_l2Long, inB_dir d0 d1]; rfl

theorem f_l11Cut (h : D_Heap) (hl : Small h.2.2.2.1) (d k : Int) : P_spec_l11Cut (h, d, k, ()) = some (okHeap h && isCut h.1 h.2.1 h.2.2.1 d k, ()) := by
  rw [p_spec_l11Cut, f_spec_l2Heap _ hl]
  simp only [Option.bind_some, f_spec_l1In]
  cases ho : okHeap h with
  | false => simp
  | true =>
    have hs := (okHeap_iff.1 ho).1
    have h4 := side3_ok hs d
    simp only [cond_true, Bool.true_and]
    unfold isCut
    by_cases hd : 0 ≤ d ∧ d ≤ 2
    · have e := f_l2Long (X := h.1) (Y := h.2.1) (Z := h.2.2.1) h.2.2.2.1 hd.1 hd.2
      have e' : P_spec_l2Long (h, d, ()) = some (side3 h.1 h.2.1 h.2.2.1 d, ()) := e
      rw [e', decide_eq_true hd.1, decide_eq_true hd.2]
      simp only [Bool.and_self, cond_true, Bool.true_and, Option.bind_some]
      rw [w64 (by omega) (by omega)]
    · have : (decide (0 ≤ d) && decide (d ≤ 2)) = false := by simp; omega
      rw [this]
      simp

def cutFacesV (h : D_Heap) (d k : Int) : Int × Bool × Unit := if okHeap h && isCut h.1 h.2.1 h.2.2.1 d k then ((cutN h.2.2.2.1 d k : Int), true, ()) else (0, false, ())

theorem isCut_iff {X Y Z d k : Int} : isCut X Y Z d k = true ↔ 0 ≤ d ∧ d ≤ 2 ∧ 1 ≤ k ∧ k ≤ side3 X Y Z d - 1 := by
  simp [isCut, and_assoc]

end Go.VI
/- Plain: cutting a heap. -/
namespace Go.VI
open Go.Proofs

/-! ### Marks from any number on -/
theorem f_markK (h : D_Heap) (k : Int) (hl : Small h.2.2.2.1) (h0 : 0 ≤ k) (h1 : k ≤ 10000000) : P_laws_markHeap (h, k, ()) = some ((k + 3 * (h.2.2.2.1.length : Int), ()), ((0, 0, 0, marked h.2.2.2.1 k, ()), ())) := by
  have := l_mark2 h.2.2.2.1 k hl h0 h1 h.2.2.2.1.length 0 N h.2.2.2.1 (by simp) (by unfold Small at hl; have := N_ge; omega) rfl (by simp)
  rw [p_laws_markHeap, p_laws_markIntA3S]
  simp only [Int.natCast_zero, Int.mul_zero, Int.add_zero] at this
  rw [this]
  rfl

/-! ### The two parts -/
def lowOf (l : List D_A3) (d k : Int) : List D_A3 := l.filter fun c => decide (get3 c d < k)
def highOf (l : List D_A3) (d k : Int) : List D_A3 := (l.filter fun c => !decide (get3 c d < k)).map (sh d (-k))

theorem sh_text {d : Int} (d0 : 0 ≤ d) (d1 : d ≤ 2) (c : D_A3) (hc : Near c) (k : Int) (k0 : 0 ≤ k) (k1 : k ≤ 4) : ((bif decide (d = (0 : Int)) then (IntKind.wrap .i64 ((bif decide (d = (0 : Int)) then c.1 else (bif decide (d = (1 : Int)) then c.2.1 else c.2.2.1)) - k)) else c.1), ((bif decide (d = (1 : Int)) then (IntKind.wrap .i64 ((bif decide (d = (0 : Int)) then c.1 else (bif decide (d = (1 : Int)) then c.2.1 else c.2.2.1)) - k)) else c.2.1), ((bif decide (d = (2 : Int)) then (IntKind.wrap .i64 ((bif decide (d = (0 : Int)) then c.1 else (bif decide (d = (1 : Int)) then c.2.1 else c.2.2.1)) - k)) else c.2.2.1), ()))) = sh d (-k) c := by
  unfold Near at hc
  rw [w64]
  · rcases dir d0 d1 with rfl | rfl | rfl <;> rfl
  all_goals rcases dir d0 d1 with rfl | rfl | rfl <;> simp <;> omega

theorem mask_append (Y Z : Int) (l r : List D_A3) (v : BitVec 64) : mask Y Z (l ++ r) v = mask Y Z r (mask Y Z l v) := by
  unfold mask
  rw [List.foldl_append]

def boxWith (X Y Z d s : Int) (l : List D_A3) : D_Heap := ((bif decide (d = 0) then s else X), (bif decide (d = 1) then s else Y), (bif decide (d = 2) then s else Z), l, ())

def cutV (h : D_Heap) (d k : Int) : D_Heap × D_Heap × Bool × Unit :=
  if okHeap h && isCut h.1 h.2.1 h.2.2.1 d k then (boxWith h.1 h.2.1 h.2.2.1 d k (lowOf h.2.2.2.1 d k), boxWith h.1 h.2.1 h.2.2.1 d (side3 h.1 h.2.1 h.2.2.1 d - k) (highOf h.2.2.2.1 d k), true, ()) else (noHeap, noHeap, false, ())

theorem cutV_small (h : D_Heap) (hl : Small h.2.2.2.1) (d k : Int) : Small (cutV h d k).1.2.2.2.1 ∧ Small (cutV h d k).2.1.2.2.2.1 := by
  unfold cutV
  split
  · refine ⟨Nat.le_trans (List.length_filter_le _ _) hl, ?_⟩
    show (highOf h.2.2.2.1 d k).length ≤ 1048576
    unfold highOf
    rw [List.length_map]
    exact Nat.le_trans (List.length_filter_le _ _) hl
  · exact ⟨by unfold Small noHeap; simp, by unfold Small noHeap; simp⟩

end Go.VI
/- Plain: gluing two heaps. -/
namespace Go.VI
open Go.Proofs

theorem mid_len {l : List D_A3} (h : l.length ≤ 3000000) (n : Nat) (hn : n ≤ 3000000) : (decide ((l.length + n) * 24 ≤ 140737488355328) && decide (l.length + n ≤ 140737488355328)) = true := by
  rw [decide_eq_true (by omega), decide_eq_true (by omega)]; rfl

theorem cut_lo {l : List D_A3} (k : Nat) : cut l 0 (k : Int) = l.take k := by simp [cut]
theorem cut_hi {l : List D_A3} (k : Nat) : cut l (k : Int) (l.length : Int) = l.drop k := by simp [cut]

theorem f_l2Own {X Y Z : Int} {l : List D_A3} (hl : l.length ≤ 3000000) : P_spec_l2Own ((X, Y, Z, l, ()), ()) = some ((X, Y, Z, l, ()), ()) := by
  rw [p_spec_l2Own]
  simp only [List.length_nil, List.nil_append, p_spec_l2Made, Option.bind_some]
  rw [decide_eq_true (by omega), decide_eq_true (by omega)]
  rfl

theorem srt_insert {l : List D_A3} (hr : Srt l) (c : D_A3) (k : Nat) (h1 : ∀ x ∈ l.take k, ltC x c = true) (h2 : ∀ x ∈ l.drop k, ltC c x = true) : Srt (l.take k ++ [c] ++ l.drop k) := by
  unfold Srt
  rw [List.append_assoc, List.pairwise_append]
  have ht : Srt (l.take k) := List.Pairwise.sublist (List.take_sublist k l) hr
  have hd : Srt (l.drop k) := List.Pairwise.sublist (List.drop_sublist k l) hr
  refine ⟨ht, List.pairwise_cons.2 ⟨h2, hd⟩, fun a ha b hb => ?_⟩
  rcases List.mem_cons.1 hb with rfl | hb'
  · exact h1 a ha
  · exact ltC_trans (h1 a ha) (h2 b hb')

theorem mem_insert {l : List D_A3} (c x : D_A3) (k : Nat) : x ∈ l.take k ++ [c] ++ l.drop k ↔ x = c ∨ x ∈ l := by
  have : x ∈ l ↔ x ∈ l.take k ∨ x ∈ l.drop k := by rw [← List.mem_append, List.take_append_drop]
  rw [this]
  simp only [List.mem_append, List.mem_singleton]
  constructor
  · rintro ((h | h) | h)
    · exact .inr (.inl h)
    · exact .inl h
    · exact .inr (.inr h)
  · rintro (h | h | h)
    · exact .inl (.inr h)
    · exact .inl (.inl h)
    · exact .inr h

theorem l_with {X Y Z : Int} {l : List D_A3} (hr : Srt l) (c : D_A3) (hl : l.length ≤ 2500000) : ∀ (n k m : Nat), l.length = k + n → n < m → (∀ x ∈ l.take k, ltC x c = true) →
    ∃ l', l_spec_l2With_2 m X Y Z l c.1 c.2.1 c.2.2.1 0 0 0 [] (k : Int) = some ((X, Y, Z, l', ()), ()) ∧ Srt l' ∧ (∀ x, x ∈ l' ↔ x = c ∨ x ∈ l) ∧ l'.length ≤ l.length + 1
  | n, k, 0, hk, hm, _ => by omega
  | n, k, m + 1, hk, hm, hlow => by
    have g1 : (decide (((List.length ([] : List D_A3)) + (List.length (l.take k))) * 24 ≤ 140737488355328) && decide (((List.length ([] : List D_A3)) + (List.length (l.take k))) ≤ 140737488355328)) = true := by
      rw [List.length_take, List.length_nil, decide_eq_true (by omega), decide_eq_true (by omega)]; rfl
    have g2 : (decide (((List.length (([] : List D_A3) ++ (l.take k))) + (List.length ([c] : List D_A3))) * 24 ≤ 140737488355328) && decide (((List.length (([] : List D_A3) ++ (l.take k))) + (List.length ([c] : List D_A3))) ≤ 140737488355328)) = true := by
      rw [List.nil_append, List.length_take, List.length_singleton, decide_eq_true (by omega), decide_eq_true (by omega)]; rfl
    have g3 : (decide (((List.length ((([] : List D_A3) ++ (l.take k)) ++ ([c] : List D_A3))) + (List.length (l.drop k))) * 24 ≤ 140737488355328) && decide (((List.length ((([] : List D_A3) ++ (l.take k)) ++ ([c] : List D_A3))) + (List.length (l.drop k))) ≤ 140737488355328)) = true := by
      rw [List.nil_append, List.length_append, List.length_take, List.length_singleton, List.length_drop, decide_eq_true (by omega), decide_eq_true (by omega)]; rfl
    have g4 : (decide ((0 : Int) ≤ 0) && decide ((0 : Int) ≤ (k : Int)) && decide ((k : Int) ≤ (List.length l : Int))) = true := by
      rw [decide_eq_true (by omega), decide_eq_true (by omega), decide_eq_true (by omega)]; rfl
    have g5 : (decide ((0 : Int) ≤ (k : Int)) && decide ((k : Int) ≤ (List.length l : Int)) && decide ((List.length l : Int) ≤ (List.length l : Int))) = true := by
      rw [decide_eq_true (by omega), decide_eq_true (by omega), decide_eq_true (by omega)]; rfl
    have hlen : (l.take k ++ [c] ++ l.drop k).length ≤ l.length + 1 := by
      rw [List.length_append, List.length_append, List.length_take, List.length_drop, List.length_singleton]; omega
    have ec : ((c.1, (c.2.1, (c.2.2.1, ()))) : D_A3) = c := rfl
    rw [q_spec_l2With_2]
    by_cases hlt : k < l.length
    · rw [ltT hlt, inB_at hlt, nthA (t := T_A3) hlt, f_spec_l2Before, ec, cut_lo, cut_hi, g1, g2, g3, g4, g5, succI k (by omega)]
      simp only [cond_true, Option.bind_some, Bool.and_true]
      cases hb : ltC l[k] c with
      | true =>
        refine l_with hr c hl (n - 1) (k + 1) m (by omega) (by omega) ?_
        intro x hx
        rw [List.take_add_one, List.getElem?_eq_getElem hlt] at hx
        rcases List.mem_append.1 hx with h | h
        · exact hlow x h
        · have : x = l[k] := by simpa using h
          rw [this]; exact hb
      | false =>
        simp only [cond_false]
        by_cases he : l[k] = c
        · have hq : (decide ((l[k]).1 = c.1) && (decide ((l[k]).2.1 = c.2.1) && decide ((l[k]).2.2.1 = c.2.2.1))) = true := by rw [he]; simp
          rw [hq, f_l2Own (by omega)]
          refine ⟨l, rfl, hr, fun x => ?_, by omega⟩
          constructor
          · exact .inr
          · rintro (rfl | h)
            · rw [← he]; exact List.getElem_mem hlt
            · exact h
        · have hq : (decide ((l[k]).1 = c.1) && (decide ((l[k]).2.1 = c.2.1) && decide ((l[k]).2.2.1 = c.2.2.1))) = false := by
            rw [Bool.eq_false_iff]
            intro h
            simp only [Bool.and_eq_true, decide_eq_true_eq] at h
            exact he (cell_ext h.1 h.2.1 h.2.2)
          rw [hq, p_spec_l2Made]
          have hck : ltC c l[k] = true := by
            cases h : ltC c l[k] with
            | true => rfl
            | false => exact absurd (ltC_total hb h) he
          refine ⟨l.take k ++ [c] ++ l.drop k, rfl, srt_insert hr c k hlow ?_, fun x => mem_insert c x k, hlen⟩
          intro x hx
          rw [drop_at l k hlt] at hx
          rcases List.mem_cons.1 hx with rfl | h
          · exact hck
          · have hd : Srt (l.drop k) := List.Pairwise.sublist (List.drop_sublist k l) hr
            rw [drop_at l k hlt] at hd
            exact ltC_trans hck ((List.pairwise_cons.1 hd).1 x h)
    · rw [ltF hlt, ec, cut_lo, cut_hi, g1, g2, g3, g4, g5, p_spec_l2Made]
      refine ⟨l.take k ++ [c] ++ l.drop k, rfl, srt_insert hr c k hlow ?_, fun x => mem_insert c x k, hlen⟩
      intro x hx
      rw [List.drop_eq_nil_of_le (by omega)] at hx
      cases hx

theorem f_l2With {X Y Z : Int} {l : List D_A3} (hr : Srt l) (c : D_A3) (hl : l.length ≤ 2500000) : ∃ l', P_spec_l2With ((X, Y, Z, l, ()), c, ()) = some ((X, Y, Z, l', ()), ()) ∧ Srt l' ∧ (∀ x, x ∈ l' ↔ x = c ∨ x ∈ l) ∧ l'.length ≤ l.length + 1 := by
  obtain ⟨l', h, r⟩ := l_with (X := X) (Y := Y) (Z := Z) hr c hl l.length 0 N (by simp) (by have := N_ge; omega) (by simp)
  exact ⟨l', by rw [p_spec_l2With]; exact h, r⟩

/-! ### The reference -/
theorem sh_text2 {d : Int} (d0 : 0 ≤ d) (d1 : d ≤ 2) (c : D_A3) (hc : Near c) (k : Int) (k0 : 0 ≤ k) (k1 : k ≤ 4) : ((bif decide (d = (0 : Int)) then (IntKind.wrap .i64 ((bif decide (d = (0 : Int)) then c.1 else (bif decide (d = (1 : Int)) then c.2.1 else c.2.2.1)) + k)) else c.1), ((bif decide (d = (1 : Int)) then (IntKind.wrap .i64 ((bif decide (d = (0 : Int)) then c.1 else (bif decide (d = (1 : Int)) then c.2.1 else c.2.2.1)) + k)) else c.2.1), ((bif decide (d = (2 : Int)) then (IntKind.wrap .i64 ((bif decide (d = (0 : Int)) then c.1 else (bif decide (d = (1 : Int)) then c.2.1 else c.2.2.1)) + k)) else c.2.2.1), ()))) = sh d k c := by
  unfold Near at hc
  rw [w64]
  · rcases dir d0 d1 with rfl | rfl | rfl <;> rfl
  all_goals rcases dir d0 d1 with rfl | rfl | rfl <;> simp <;> omega

def glueOut (S1 S2 S3 : Int) (l : List D_A3) : D_Heap × Bool × Unit := if sides S1 S2 S3 then ((S1, S2, S3, l, ()), true, ()) else (noHeap, false, ())

/-! ### The program -/
theorem glue_box {A B C A' B' C' d : Int} (ha : sides A B C = true) (hb : sides A' B' C' = true) (d0 : 0 ≤ d) (d1 : d ≤ 2) {la lb : List D_A3} (ia : Ins A B C la) (ib : Ins A' B' C' lb)
    (he : ∀ j, 0 ≤ j → j ≤ 2 → j = d ∨ side3 A B C j = side3 A' B' C' j) :
    Ins (boxWith A B C d (side3 A B C d + side3 A' B' C' d) []).1 (boxWith A B C d (side3 A B C d + side3 A' B' C' d) []).2.1 (boxWith A B C d (side3 A B C d + side3 A' B' C' d) []).2.2.1 (la ++ lb.map (sh d (side3 A B C d))) := by
  obtain ⟨a1, a2, a3⟩ := sides_iff.1 ha
  obtain ⟨b1, b2, b3⟩ := sides_iff.1 hb
  have e0 := he 0 (by omega) (by omega)
  have e1 := he 1 (by omega) (by omega)
  have e2 := he 2 (by omega) (by omega)
  intro c hc
  rcases List.mem_append.1 hc with h | h
  · have := within3_iff.1 (ia c h)
    rw [within3_iff]
    rcases dir d0 d1 with rfl | rfl | rfl <;> simp [boxWith, side3] at e0 e1 e2 ⊢ <;> omega
  · obtain ⟨a, h', rfl⟩ := List.mem_map.1 h
    have := within3_iff.1 (ib a h')
    rw [within3_iff]
    rcases dir d0 d1 with rfl | rfl | rfl <;> simp [boxWith, side3, sh] at e0 e1 e2 ⊢ <;> omega

theorem glueOut_noHeap_small (S1 S2 S3 : Int) {l : List D_A3} (hl : l.length ≤ 1048576) : Small (glueOut S1 S2 S3 l).1.2.2.2.1 := by
  unfold glueOut
  split
  · exact hl
  · unfold Small noHeap; simp

theorem f_szHeap2 (h : D_Heap) (left : Int) (h0 : 0 ≤ left) (h1 : left ≤ 1048576) (hl : h.2.2.2.1.length ≤ 9223372036854775807) : ∃ z, P_laws_szHeap (h, left, ()) = some (z, ()) ∧ z ≤ left ∧ (z < 0 ∨ (h.2.2.2.1.length : Int) + z ≤ left) := by
  obtain ⟨z, hz, hle, hor⟩ := f_szIntA3S h.2.2.2.1 left h0 h1 hl
  rw [p_laws_szHeap, hz]
  simp only [Option.bind_some]
  by_cases hn : z < 0
  · exact ⟨-1, by simp [hn], by omega, .inl (by omega)⟩
  · exact ⟨z, by simp [hn], hle, .inr (by omega)⟩

end Go.VI
