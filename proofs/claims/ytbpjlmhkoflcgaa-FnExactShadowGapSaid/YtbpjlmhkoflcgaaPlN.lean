/- Plain: what is reached from cell to cell. -/
import Derived.Test.YtbpjlmhkoflcgaaPlA
namespace Go.VI
open Go.Proofs

/-- Neighbors. -/
def nb (c d : D_A3) : Prop := ∃ k, k < 6 ∧ d = stp k c

theorem nb_iff {c d : D_A3} : nb c d ↔ (d.2.1 = c.2.1 ∧ d.2.2.1 = c.2.2.1 ∧ (d.1 = c.1 - 1 ∨ d.1 = c.1 + 1)) ∨ (d.1 = c.1 ∧ d.2.2.1 = c.2.2.1 ∧ (d.2.1 = c.2.1 - 1 ∨ d.2.1 = c.2.1 + 1)) ∨ (d.1 = c.1 ∧ d.2.1 = c.2.1 ∧ (d.2.2.1 = c.2.2.1 - 1 ∨ d.2.2.1 = c.2.2.1 + 1)) := by
  obtain ⟨x, y, z, ⟨⟩⟩ := c
  obtain ⟨x', y', z', ⟨⟩⟩ := d
  constructor
  · rintro ⟨k, hk, e⟩
    rcases six hk with rfl | rfl | rfl | rfl | rfl | rfl <;> simp only [stp, Prod.mk.injEq, and_true] at e <;> obtain ⟨rfl, rfl, rfl⟩ := e <;> simp <;> omega
  · rintro (⟨h1, h2, h3 | h3⟩ | ⟨h1, h2, h3 | h3⟩ | ⟨h1, h2, h3 | h3⟩) <;> simp only at h1 h2 h3 <;> subst h1 <;> subst h2 <;> subst h3
    · exact ⟨0, by omega, by simp [stp]; omega⟩
    · exact ⟨1, by omega, by simp [stp]⟩
    · exact ⟨2, by omega, by simp [stp]; omega⟩
    · exact ⟨3, by omega, by simp [stp]⟩
    · exact ⟨4, by omega, by simp [stp]; omega⟩
    · exact ⟨5, by omega, by simp [stp]⟩

theorem nb_symm {c d : D_A3} (h : nb c d) : nb d c := by
  rw [nb_iff] at h ⊢
  omega

/-- What is reached from some cells by way of others. -/
inductive Rch (p q : D_A3 → Prop) : D_A3 → Prop
  | base {c : D_A3} : p c → Rch p q c
  | step {c d : D_A3} : Rch p q c → nb c d → q d → Rch p q d

theorem Rch.mono {p p' q q' : D_A3 → Prop} (hp : ∀ c, p c → Rch p' q' c) (hq : ∀ c, q c → q' c) {c : D_A3} (h : Rch p q c) : Rch p' q' c := by
  induction h with
  | base h => exact hp _ h
  | step _ hn hd ih => exact .step ih hn (hq _ hd)

theorem Rch.of {p q r : D_A3 → Prop} (hp : ∀ c, p c → r c) (hq : ∀ c d, r c → nb c d → q d → r d) {c : D_A3} (h : Rch p q c) : r c := by
  induction h with
  | base h => exact hp _ h
  | step _ hn hd ih => exact hq _ _ ih hn hd

/-- The neighbors in the box. -/
def nears (X Y Z : Int) (c : D_A3) : List D_A3 := ((List.range 6).map fun k => stp k c).filter (within3 X Y Z)

theorem mem_nears {X Y Z : Int} {c d : D_A3} : d ∈ nears X Y Z c ↔ within3 X Y Z d = true ∧ nb c d := by
  unfold nears nb
  simp only [List.mem_filter, List.mem_map, List.mem_range]
  constructor
  · rintro ⟨⟨k, hk, rfl⟩, h⟩; exact ⟨h, k, hk, rfl⟩
  · rintro ⟨h, k, hk, rfl⟩; exact ⟨⟨k, hk, rfl⟩, h⟩

theorem ins_nears (X Y Z : Int) (c : D_A3) : Ins X Y Z (nears X Y Z c) := fun d hd => (mem_nears.1 hd).1

def nearB (X Y Z : Int) (c : D_A3) : BitVec 64 := mask Y Z (nears X Y Z c) 0

theorem nearB_bit {X Y Z : Int} (hs : sides X Y Z = true) {c d : D_A3} (hd : within3 X Y Z d = true) : (nearB X Y Z c).getLsbD (idx Y Z d) = true ↔ nb c d := by
  unfold nearB
  rw [mask_mem hs (ins_nears X Y Z c) hd, decide_eq_true_eq, mem_nears]
  exact ⟨fun h => h.2, fun h => ⟨hd, h⟩⟩

/-- No bits from a place on. -/
def Low (n : Nat) (v : BitVec 64) : Prop := ∀ i, n ≤ i → v.getLsbD i = false

theorem low_mask {X Y Z : Int} (hs : sides X Y Z = true) {l : List D_A3} (hl : Ins X Y Z l) : Low (X * Y * Z).toNat (mask Y Z l 0) := by
  intro i hi
  rw [mask_bit]
  have h0 : (0 : BitVec 64).getLsbD i = false := by simp
  rw [h0, Bool.false_or, Bool.and_eq_false_iff]
  right
  rw [List.any_eq_false]
  intro c hc
  have := (idx_eq hs (hl c hc)).2.1
  simp only [decide_eq_true_eq]
  omega

theorem low_ext {n : Nat} {v w : BitVec 64} (hv : Low n v) (hw : Low n w) (h : ∀ i, i < n → v.getLsbD i = w.getLsbD i) : v = w := by
  apply BitVec.eq_of_getLsbD_eq
  intro i _
  by_cases hi : i < n
  · exact h i hi
  · rw [hv i (by omega), hw i (by omega)]

theorem box_ext {X Y Z : Int} (hs : sides X Y Z = true) {v w : BitVec 64} (hv : Low (X * Y * Z).toNat v) (hw : Low (X * Y * Z).toNat w) (h : ∀ c, within3 X Y Z c = true → v.getLsbD (idx Y Z c) = w.getLsbD (idx Y Z c)) : v = w := by
  refine low_ext hv hw fun i hi => ?_
  obtain ⟨h1, h2⟩ := cellOf_ok hs hi
  rw [← h2]
  exact h _ h1

/-- One round of growing. -/
def growR (X Y Z : Int) (u v : BitVec 64) : (d k : Nat) → BitVec 64 → BitVec 64
  | 0, _, acc => acc
  | d + 1, k, acc => growR X Y Z u v d (k + 1) (bif v.getLsbD k then acc ||| (nearB X Y Z (cellOf Y Z k) &&& u) else acc)

theorem growR_bit (X Y Z : Int) (u v : BitVec 64) (i : Nat) : ∀ (d k : Nat) (acc : BitVec 64), (growR X Y Z u v d k acc).getLsbD i = true ↔ acc.getLsbD i = true ∨ ∃ j, k ≤ j ∧ j < k + d ∧ v.getLsbD j = true ∧ (nearB X Y Z (cellOf Y Z j)).getLsbD i = true ∧ u.getLsbD i = true
  | 0, k, acc => by
    simp only [growR]
    constructor
    · exact .inl
    · rintro (h | ⟨j, h1, h2, _⟩)
      · exact h
      · omega
  | d + 1, k, acc => by
    rw [growR, growR_bit X Y Z u v i d (k + 1)]
    cases hk : v.getLsbD k with
    | false =>
      simp only [cond_false]
      constructor
      · rintro (h | ⟨j, h1, h2, h3⟩)
        · exact .inl h
        · exact .inr ⟨j, by omega, by omega, h3⟩
      · rintro (h | ⟨j, h1, h2, h3⟩)
        · exact .inl h
        · have : j ≠ k := fun e => by rw [e, hk] at h3; cases h3.1
          exact .inr ⟨j, by omega, by omega, h3⟩
    | true =>
      simp only [cond_true, BitVec.getLsbD_or, BitVec.getLsbD_and, Bool.or_eq_true, Bool.and_eq_true]
      constructor
      · rintro ((h | h) | ⟨j, h1, h2, h3⟩)
        · exact .inl h
        · exact .inr ⟨k, by omega, by omega, hk, h.1, h.2⟩
        · exact .inr ⟨j, by omega, by omega, h3⟩
      · rintro (h | ⟨j, h1, h2, h3, h4, h5⟩)
        · exact .inl (.inl h)
        · by_cases e : j = k
          · subst e; exact .inl (.inr ⟨h4, h5⟩)
          · exact .inr ⟨j, by omega, by omega, h3, h4, h5⟩

def grow1 (X Y Z : Int) (u v : BitVec 64) : BitVec 64 := growR X Y Z u v (X * Y * Z).toNat 0 v

theorem grow1_low {X Y Z : Int} {u v : BitVec 64} (hv : Low (X * Y * Z).toNat v) (hu : Low (X * Y * Z).toNat u) : Low (X * Y * Z).toNat (grow1 X Y Z u v) := by
  intro i hi
  cases hb : (grow1 X Y Z u v).getLsbD i with
  | false => rfl
  | true =>
    unfold grow1 at hb
    rw [growR_bit] at hb
    rcases hb with hb | ⟨_, _, _, _, _, hb⟩
    · rw [hv i hi] at hb; cases hb
    · rw [hu i hi] at hb; cases hb

theorem grow1_sub {X Y Z : Int} {u v : BitVec 64} (i : Nat) (h : v.getLsbD i = true) : (grow1 X Y Z u v).getLsbD i = true := by
  unfold grow1
  rw [growR_bit]
  exact .inl h

def unset (n : Nat) (v : BitVec 64) : Nat := ((List.range n).filter fun i => !v.getLsbD i).length

theorem filter_lt {α : Type} (p p' : α → Bool) : ∀ (l : List α), (∀ x ∈ l, p' x = true → p x = true) → (∃ x ∈ l, p x = true ∧ p' x = false) → (l.filter p').length < (l.filter p).length
  | [], _, h => by obtain ⟨x, hx, _⟩ := h; cases hx
  | a :: l, h, hx => by
    have le : ∀ (l : List α), (∀ x ∈ l, p' x = true → p x = true) → (l.filter p').length ≤ (l.filter p).length := by
      intro l
      induction l with
      | nil => intro _; simp
      | cons b l ih =>
        intro h
        have := ih fun x hx => h x (List.mem_cons_of_mem _ hx)
        cases hb' : p' b with
        | false =>
          cases hb : p b <;> simp [List.filter_cons, hb, hb'] <;> omega
        | true =>
          have hb := h b (List.mem_cons_self ..) hb'
          simp [List.filter_cons, hb, hb']; omega
    obtain ⟨x, hx, h1, h2⟩ := hx
    have hl := le l fun x hx => h x (List.mem_cons_of_mem _ hx)
    rcases List.mem_cons.1 hx with rfl | hx
    · simp only [List.filter_cons, h1, h2, if_true, List.length_cons, Bool.false_eq_true, if_false]
      omega
    · have ih := filter_lt p p' l (fun x hx => h x (List.mem_cons_of_mem _ hx)) ⟨x, hx, h1, h2⟩
      cases ha' : p' a with
      | false => cases ha : p a <;> simp [List.filter_cons, ha, ha'] <;> omega
      | true =>
        have ha := h a (List.mem_cons_self ..) ha'
        simp [List.filter_cons, ha, ha']; omega

theorem unset_lt {n : Nat} {v w : BitVec 64} (hv : Low n v) (hw : Low n w) (hsub : ∀ i, v.getLsbD i = true → w.getLsbD i = true) (hne : w ≠ v) : unset n w < unset n v := by
  unfold unset
  refine filter_lt _ _ _ (fun i _ h => ?_) ?_
  · cases hb : v.getLsbD i with
    | false => rfl
    | true => rw [hsub i hb] at h; exact h
  · apply Classical.byContradiction
    intro hno
    apply hne
    refine low_ext hw hv fun i hi => ?_
    cases hb : v.getLsbD i with
    | true => exact hsub i hb
    | false =>
      cases hb' : w.getLsbD i with
      | false => rfl
      | true => exact absurd ⟨i, List.mem_range.2 hi, by simp [hb], by simp [hb']⟩ hno

theorem unset_le (n : Nat) (v : BitVec 64) : unset n v ≤ n := by
  unfold unset
  have := List.length_filter_le (fun i => !v.getLsbD i) (List.range n)
  simpa using this

/-- A cell of the box with its bit. -/
def bitP (X Y Z : Int) (v : BitVec 64) (c : D_A3) : Prop := within3 X Y Z c = true ∧ v.getLsbD (idx Y Z c) = true

theorem Rch.within {X Y Z : Int} {v u : BitVec 64} {c : D_A3} (h : Rch (bitP X Y Z v) (bitP X Y Z u) c) : within3 X Y Z c = true := by
  induction h with
  | base h => exact h.1
  | step _ _ h _ => exact h.1

/-- What one round adds is reached. -/
theorem grow1_reach {X Y Z : Int} (hs : sides X Y Z = true) {v0 u v : BitVec 64} (h : ∀ c, bitP X Y Z v c → Rch (bitP X Y Z v0) (bitP X Y Z u) c) (c : D_A3) (hc : bitP X Y Z (grow1 X Y Z u v) c) : Rch (bitP X Y Z v0) (bitP X Y Z u) c := by
  obtain ⟨h1, h2⟩ := hc
  unfold grow1 at h2
  rw [growR_bit] at h2
  rcases h2 with h2 | ⟨j, _, hj, h3, h4, h5⟩
  · exact h c ⟨h1, h2⟩
  · obtain ⟨k1, k2⟩ := cellOf_ok (i := j) hs (by omega)
    exact .step (h _ ⟨k1, by rw [k2]; exact h3⟩) ((nearB_bit hs h1).1 h4) ⟨h1, h5⟩

/-- What doesn't grow has all that is reached. -/
theorem grow1_closed {X Y Z : Int} (hs : sides X Y Z = true) {v0 u w : BitVec 64} (hsub : ∀ i, v0.getLsbD i = true → w.getLsbD i = true) (hw : grow1 X Y Z u w = w) (c : D_A3) (h : Rch (bitP X Y Z v0) (bitP X Y Z u) c) : w.getLsbD (idx Y Z c) = true := by
  induction h with
  | base h => exact hsub _ h.2
  | step hr hn hd ih =>
    rename_i c d
    have hc := hr.within
    rw [← hw]
    unfold grow1
    rw [growR_bit]
    refine .inr ⟨idx Y Z c, Nat.zero_le _, by have := (idx_eq hs hc).2.1; omega, ih, ?_, hd.2⟩
    rw [cellOf_idx hs hc]
    exact (nearB_bit hs hd.1).2 hn
/-! ### What is outside -/
def FreeC (X Y Z : Int) (l : List D_A3) (d : D_A3) : Prop := within3 X Y Z d = true ∧ d ∉ l
def Outer (X Y Z : Int) (l : List D_A3) (c : D_A3) : Prop := FreeC X Y Z l c ∧ ∃ m, within3 X Y Z m = false ∧ nb m c
def OutP (X Y Z : Int) (l : List D_A3) : D_A3 → Prop := Rch (Outer X Y Z l) (FreeC X Y Z l)

theorem OutP.freeC {X Y Z : Int} {l : List D_A3} {c : D_A3} (h : OutP X Y Z l c) : FreeC X Y Z l c := by
  cases h with
  | base h => exact h.1
  | step _ _ h => exact h

/-- A search from the margin: the list, what is seen; n cells are done, and k steps of the next one. -/
structure Bfs (X Y Z : Int) (l M : List D_A3) (n k : Nat) (ls sn : List D_A3) : Prop where
  srt : Srt sn
  ins : Ins X Y Z sn
  out : ∀ c ∈ sn, OutP X Y Z l c
  mem : ∀ c, c ∈ ls ↔ c ∈ M ∨ c ∈ sn
  done : ∀ i, i < n → ∀ c, ls[i]? = some c → ∀ d, nb c d → FreeC X Y Z l d → d ∈ sn
  part : ∀ c, ls[n]? = some c → ∀ j, j < k → FreeC X Y Z l (stp j c) → stp j c ∈ sn
  len : ls.length = M.length + sn.length

theorem Bfs.begin {X Y Z : Int} {l M : List D_A3} : Bfs X Y Z l M 0 0 M [] :=
  ⟨List.Pairwise.nil, (fun c h => by cases h), (fun c h => by cases h), (fun c => by simp), (fun i h => by omega), (fun c _ j h => by omega), (by simp)⟩

theorem Bfs.next {X Y Z : Int} {l M ls sn : List D_A3} {n : Nat} (h : Bfs X Y Z l M n 6 ls sn) : Bfs X Y Z l M (n + 1) 0 ls sn :=
  ⟨h.srt, h.ins, h.out, h.mem, fun i hi c hc d hd hf => by
    by_cases e : i = n
    · subst e
      obtain ⟨k, hk, rfl⟩ := hd
      exact h.part c hc k hk hf
    · exact h.done i (by omega) c hc d hd hf, fun c _ j hj => by omega, h.len⟩

theorem Bfs.pass {X Y Z : Int} {l M ls sn : List D_A3} {n k : Nat} (h : Bfs X Y Z l M n k ls sn) (hk : ∀ c, ls[n]? = some c → FreeC X Y Z l (stp k c) → stp k c ∈ sn) : Bfs X Y Z l M n (k + 1) ls sn :=
  ⟨h.srt, h.ins, h.out, h.mem, h.done, fun c hc j hj hf => by
    by_cases e : j = k
    · subst e; exact hk c hc hf
    · exact h.part c hc j (by omega) hf, h.len⟩

theorem Bfs.add {X Y Z : Int} {l M ls sn sn' : List D_A3} {n k : Nat} (hM : ∀ m ∈ M, within3 X Y Z m = false) (h : Bfs X Y Z l M n k ls sn) {c : D_A3} (hc : ls[n]? = some c) (hk : k < 6) (hf : FreeC X Y Z l (stp k c)) (hn : stp k c ∉ sn)
    (hs : Srt sn') (hm : ∀ x, x ∈ sn' ↔ x = stp k c ∨ x ∈ sn) : Bfs X Y Z l M n (k + 1) (ls ++ [stp k c]) sn' := by
  have hlt : n < ls.length := (List.getElem?_eq_some_iff.1 hc).1
  have hlen : sn'.length = sn.length + 1 := by
    have hp : sn'.Perm (stp k c :: sn) := by
      refine (List.perm_ext_iff_of_nodup hs.nodup (List.nodup_cons.2 ⟨hn, h.srt.nodup⟩)).2 fun x => ?_
      rw [hm, List.mem_cons]
    simpa using hp.length_eq
  refine ⟨hs, fun x hx => ?_, fun x hx => ?_, fun x => ?_, fun i hi c' hc' d hd hfd => ?_, fun c' hc' j hj hfj => ?_, ?_⟩
  · rcases (hm x).1 hx with rfl | hx
    · exact hf.1
    · exact h.ins x hx
  · rcases (hm x).1 hx with rfl | hx
    · have hcm : c ∈ ls := List.mem_of_getElem? hc
      rcases (h.mem c).1 hcm with hcM | hcs
      · exact .base ⟨hf, c, hM c hcM, k, hk, rfl⟩
      · exact .step (h.out c hcs) ⟨k, hk, rfl⟩ hf
    · exact h.out x hx
  · rw [List.mem_append, List.mem_singleton, h.mem, hm]
    constructor
    · rintro ((h1 | h1) | h1)
      · exact .inl h1
      · exact .inr (.inr h1)
      · exact .inr (.inl h1)
    · rintro (h1 | h1 | h1)
      · exact .inl (.inl h1)
      · exact .inr h1
      · exact .inl (.inr h1)
  · rw [List.getElem?_append_left (by omega)] at hc'
    exact (hm d).2 (.inr (h.done i hi c' hc' d hd hfd))
  · rw [List.getElem?_append_left hlt, hc] at hc'
    obtain rfl := Option.some.inj hc'
    by_cases e : j = k
    · subst e; exact (hm _).2 (.inl rfl)
    · exact (hm _).2 (.inr (h.part c hc j (by omega) hfj))
  · rw [List.length_append, List.length_singleton, h.len, hlen]
    omega

theorem Bfs.all {X Y Z : Int} {l M ls sn : List D_A3} (hM : ∀ m c, within3 X Y Z m = false → within3 X Y Z c = true → nb m c → m ∈ M) (h : Bfs X Y Z l M ls.length 0 ls sn) (c : D_A3) : c ∈ sn ↔ OutP X Y Z l c := by
  have key : ∀ m, m ∈ ls → ∀ d, nb m d → FreeC X Y Z l d → d ∈ sn := by
    intro m hm d hd hf
    obtain ⟨i, hi, e⟩ := List.getElem_of_mem hm
    exact h.done i hi m (by rw [List.getElem?_eq_getElem hi, e]) d hd hf
  refine ⟨h.out c, fun hc => Rch.of (r := fun c => c ∈ sn) (fun c hc => ?_) (fun c d hc hn hf => ?_) hc⟩
  · obtain ⟨hf, m, hm, hn⟩ := hc
    exact key m ((h.mem m).2 (.inl (hM m c hm hf.1 hn))) c hn hf
  · exact key c ((h.mem c).2 (.inr hc)) d hn hf

theorem srt_small64 {X Y Z : Int} (hs : sides X Y Z = true) {l : List D_A3} (hi : Ins X Y Z l) (hr : Srt l) : l.length ≤ 64 := by
  have h1 : l = bitCells X Y Z (mask Y Z l 0) := (listOf_mask hs hi hr).symm
  have h2 := listFrom_length Y Z (mask Y Z l 0) (X * Y * Z).toNat 0
  have h3 := size64 hs
  rw [h1]
  unfold bitCells
  omega

/-- A set by bits is a function. -/
def SetIs (X Y Z : Int) (v : BitVec 64) (g : D_A3 → Bool) : Prop := Low (X * Y * Z).toNat v ∧ ∀ c, within3 X Y Z c = true → v.getLsbD (idx Y Z c) = g c

theorem SetIs.ext {X Y Z : Int} (hs : sides X Y Z = true) {v w : BitVec 64} {g : D_A3 → Bool} (hv : SetIs X Y Z v g) (hw : SetIs X Y Z w g) : v = w :=
  box_ext hs hv.1 hw.1 fun c hc => by rw [hv.2 c hc, hw.2 c hc]

theorem setIs_mask {X Y Z : Int} (hs : sides X Y Z = true) {l : List D_A3} (hl : Ins X Y Z l) : SetIs X Y Z (mask Y Z l 0) (fun c => decide (c ∈ l)) := ⟨low_mask hs hl, fun _ hc => mask_mem hs hl hc⟩

theorem SetIs.cells {X Y Z : Int} (hs : sides X Y Z = true) {v : BitVec 64} {g : D_A3 → Bool} (hv : SetIs X Y Z v g) {l : List D_A3} (hr : Srt l) (hm : ∀ c, c ∈ l ↔ within3 X Y Z c = true ∧ g c = true) : bitCells X Y Z v = l :=
  srt_ext _ _ (srt_listOf hs v) hr fun c => by
    rw [mem_listOf hs, hm]
    constructor
    · rintro ⟨h1, h2⟩; rw [hv.2 c h1] at h2; exact ⟨h1, h2⟩
    · rintro ⟨h1, h2⟩; exact ⟨h1, by rw [hv.2 c h1]; exact h2⟩

theorem SetIs.bits {X Y Z : Int} {v : BitVec 64} {g : D_A3 → Bool} (hv : SetIs X Y Z v g) {q : List D_A3} (hi : Ins X Y Z q) (hg : ∀ c, within3 X Y Z c = true → g c = decide (c ∈ q)) : BitsOf X Y Z v q :=
  ⟨hi, fun c hc => by rw [hv.2 c hc, hg c hc]⟩
end Go.VI
/- Plain: neighbors, those, grown sets and what is enclosed, as the program has them. -/
namespace Go.VI
open Go.Proofs

def popI (a0 : Int) : Int := (intBits .and .i64 (IntKind.wrap .i64 (IntKind.wrap .u64 ((IntKind.wrap .u64 ((IntKind.wrap .u64 ((intBits .and .u64 (IntKind.wrap .u64 ((shrI .u64 (IntKind.wrap .u64 ((intBits .and .u64 (shrI .u64 (IntKind.wrap .u64 ((intBits .and .u64 (shrI .u64 a0 1) 6148914691236517205) + (intBits .and .u64 a0 6148914691236517205))) 2) 3689348814741910323) + (intBits .and .u64 (IntKind.wrap .u64 ((intBits .and .u64 (shrI .u64 a0 1) 6148914691236517205) + (intBits .and .u64 a0 6148914691236517205))) 3689348814741910323))) 4) + (IntKind.wrap .u64 ((intBits .and .u64 (shrI .u64 (IntKind.wrap .u64 ((intBits .and .u64 (shrI .u64 a0 1) 6148914691236517205) + (intBits .and .u64 a0 6148914691236517205))) 2) 3689348814741910323) + (intBits .and .u64 (IntKind.wrap .u64 ((intBits .and .u64 (shrI .u64 a0 1) 6148914691236517205) + (intBits .and .u64 a0 6148914691236517205))) 3689348814741910323))))) 1085102592571150095) + (shrI .u64 (intBits .and .u64 (IntKind.wrap .u64 ((shrI .u64 (IntKind.wrap .u64 ((intBits .and .u64 (shrI .u64 (IntKind.wrap .u64 ((intBits .and .u64 (shrI .u64 a0 1) 6148914691236517205) + (intBits .and .u64 a0 6148914691236517205))) 2) 3689348814741910323) + (intBits .and .u64 (IntKind.wrap .u64 ((intBits .and .u64 (shrI .u64 a0 1) 6148914691236517205) + (intBits .and .u64 a0 6148914691236517205))) 3689348814741910323))) 4) + (IntKind.wrap .u64 ((intBits .and .u64 (shrI .u64 (IntKind.wrap .u64 ((intBits .and .u64 (shrI .u64 a0 1) 6148914691236517205) + (intBits .and .u64 a0 6148914691236517205))) 2) 3689348814741910323) + (intBits .and .u64 (IntKind.wrap .u64 ((intBits .and .u64 (shrI .u64 a0 1) 6148914691236517205) + (intBits .and .u64 a0 6148914691236517205))) 3689348814741910323))))) 1085102592571150095) 8))) + (shrI .u64 (IntKind.wrap .u64 ((intBits .and .u64 (IntKind.wrap .u64 ((shrI .u64 (IntKind.wrap .u64 ((intBits .and .u64 (shrI .u64 (IntKind.wrap .u64 ((intBits .and .u64 (shrI .u64 a0 1) 6148914691236517205) + (intBits .and .u64 a0 6148914691236517205))) 2) 3689348814741910323) + (intBits .and .u64 (IntKind.wrap .u64 ((intBits .and .u64 (shrI .u64 a0 1) 6148914691236517205) + (intBits .and .u64 a0 6148914691236517205))) 3689348814741910323))) 4) + (IntKind.wrap .u64 ((intBits .and .u64 (shrI .u64 (IntKind.wrap .u64 ((intBits .and .u64 (shrI .u64 a0 1) 6148914691236517205) + (intBits .and .u64 a0 6148914691236517205))) 2) 3689348814741910323) + (intBits .and .u64 (IntKind.wrap .u64 ((intBits .and .u64 (shrI .u64 a0 1) 6148914691236517205) + (intBits .and .u64 a0 6148914691236517205))) 3689348814741910323))))) 1085102592571150095) + (shrI .u64 (intBits .and .u64 (IntKind.wrap .u64 ((shrI .u64 (IntKind.wrap .u64 ((intBits .and .u64 (shrI .u64 (IntKind.wrap .u64 ((intBits .and .u64 (shrI .u64 a0 1) 6148914691236517205) + (intBits .and .u64 a0 6148914691236517205))) 2) 3689348814741910323) + (intBits .and .u64 (IntKind.wrap .u64 ((intBits .and .u64 (shrI .u64 a0 1) 6148914691236517205) + (intBits .and .u64 a0 6148914691236517205))) 3689348814741910323))) 4) + (IntKind.wrap .u64 ((intBits .and .u64 (shrI .u64 (IntKind.wrap .u64 ((intBits .and .u64 (shrI .u64 a0 1) 6148914691236517205) + (intBits .and .u64 a0 6148914691236517205))) 2) 3689348814741910323) + (intBits .and .u64 (IntKind.wrap .u64 ((intBits .and .u64 (shrI .u64 a0 1) 6148914691236517205) + (intBits .and .u64 a0 6148914691236517205))) 3689348814741910323))))) 1085102592571150095) 8))) 16))) + (shrI .u64 (IntKind.wrap .u64 ((IntKind.wrap .u64 ((intBits .and .u64 (IntKind.wrap .u64 ((shrI .u64 (IntKind.wrap .u64 ((intBits .and .u64 (shrI .u64 (IntKind.wrap .u64 ((intBits .and .u64 (shrI .u64 a0 1) 6148914691236517205) + (intBits .and .u64 a0 6148914691236517205))) 2) 3689348814741910323) + (intBits .and .u64 (IntKind.wrap .u64 ((intBits .and .u64 (shrI .u64 a0 1) 6148914691236517205) + (intBits .and .u64 a0 6148914691236517205))) 3689348814741910323))) 4) + (IntKind.wrap .u64 ((intBits .and .u64 (shrI .u64 (IntKind.wrap .u64 ((intBits .and .u64 (shrI .u64 a0 1) 6148914691236517205) + (intBits .and .u64 a0 6148914691236517205))) 2) 3689348814741910323) + (intBits .and .u64 (IntKind.wrap .u64 ((intBits .and .u64 (shrI .u64 a0 1) 6148914691236517205) + (intBits .and .u64 a0 6148914691236517205))) 3689348814741910323))))) 1085102592571150095) + (shrI .u64 (intBits .and .u64 (IntKind.wrap .u64 ((shrI .u64 (IntKind.wrap .u64 ((intBits .and .u64 (shrI .u64 (IntKind.wrap .u64 ((intBits .and .u64 (shrI .u64 a0 1) 6148914691236517205) + (intBits .and .u64 a0 6148914691236517205))) 2) 3689348814741910323) + (intBits .and .u64 (IntKind.wrap .u64 ((intBits .and .u64 (shrI .u64 a0 1) 6148914691236517205) + (intBits .and .u64 a0 6148914691236517205))) 3689348814741910323))) 4) + (IntKind.wrap .u64 ((intBits .and .u64 (shrI .u64 (IntKind.wrap .u64 ((intBits .and .u64 (shrI .u64 a0 1) 6148914691236517205) + (intBits .and .u64 a0 6148914691236517205))) 2) 3689348814741910323) + (intBits .and .u64 (IntKind.wrap .u64 ((intBits .and .u64 (shrI .u64 a0 1) 6148914691236517205) + (intBits .and .u64 a0 6148914691236517205))) 3689348814741910323))))) 1085102592571150095) 8))) + (shrI .u64 (IntKind.wrap .u64 ((intBits .and .u64 (IntKind.wrap .u64 ((shrI .u64 (IntKind.wrap .u64 ((intBits .and .u64 (shrI .u64 (IntKind.wrap .u64 ((intBits .and .u64 (shrI .u64 a0 1) 6148914691236517205) + (intBits .and .u64 a0 6148914691236517205))) 2) 3689348814741910323) + (intBits .and .u64 (IntKind.wrap .u64 ((intBits .and .u64 (shrI .u64 a0 1) 6148914691236517205) + (intBits .and .u64 a0 6148914691236517205))) 3689348814741910323))) 4) + (IntKind.wrap .u64 ((intBits .and .u64 (shrI .u64 (IntKind.wrap .u64 ((intBits .and .u64 (shrI .u64 a0 1) 6148914691236517205) + (intBits .and .u64 a0 6148914691236517205))) 2) 3689348814741910323) + (intBits .and .u64 (IntKind.wrap .u64 ((intBits .and .u64 (shrI .u64 a0 1) 6148914691236517205) + (intBits .and .u64 a0 6148914691236517205))) 3689348814741910323))))) 1085102592571150095) + (shrI .u64 (intBits .and .u64 (IntKind.wrap .u64 ((shrI .u64 (IntKind.wrap .u64 ((intBits .and .u64 (shrI .u64 (IntKind.wrap .u64 ((intBits .and .u64 (shrI .u64 a0 1) 6148914691236517205) + (intBits .and .u64 a0 6148914691236517205))) 2) 3689348814741910323) + (intBits .and .u64 (IntKind.wrap .u64 ((intBits .and .u64 (shrI .u64 a0 1) 6148914691236517205) + (intBits .and .u64 a0 6148914691236517205))) 3689348814741910323))) 4) + (IntKind.wrap .u64 ((intBits .and .u64 (shrI .u64 (IntKind.wrap .u64 ((intBits .and .u64 (shrI .u64 a0 1) 6148914691236517205) + (intBits .and .u64 a0 6148914691236517205))) 2) 3689348814741910323) + (intBits .and .u64 (IntKind.wrap .u64 ((intBits .and .u64 (shrI .u64 a0 1) 6148914691236517205) + (intBits .and .u64 a0 6148914691236517205))) 3689348814741910323))))) 1085102592571150095) 8))) 16))) 32)))) 127)
theorem nearB_eq (X Y Z : Int) (c : D_A3) : nearB X Y Z c = (List.range 6).foldl (fun v k => bif within3 X Y Z (stp k c) then v ||| BitVec.twoPow 64 (idx Y Z (stp k c)) else v) 0 := by
  unfold nearB nears mask
  rw [List.foldl_filter, List.foldl_map]
  congr 1
  funext v k
  cases within3 X Y Z (stp k c) <;> rfl

/-- Is a cell at the rim? -/
def rim (X Y Z : Int) (c : D_A3) : Bool := (List.range 6).any fun k => !within3 X Y Z (stp k c)

def chkRim : Bool := ([1, 2, 3, 4] : List Int).all fun X => ([1, 2, 3, 4] : List Int).all fun Y => ([1, 2, 3, 4] : List Int).all fun Z => (List.range (X * Y * Z).toNat).all fun i =>
  (decide (popI ((nearB X Y Z (cellOf Y Z i)).toNat : Int) < 6)) == rim X Y Z (cellOf Y Z i)
theorem chkRim_ok : chkRim = true := by kernel_rfl

theorem mem1234 {n : Int} (h0 : 1 ≤ n) (h1 : n ≤ 4) : n ∈ ([1, 2, 3, 4] : List Int) := by
  rcases four h0 h1 with rfl | rfl | rfl | rfl <;> simp

theorem pop_rim {X Y Z : Int} (hs : sides X Y Z = true) {c : D_A3} (hc : within3 X Y Z c = true) : decide (popI ((nearB X Y Z c).toNat : Int) < 6) = rim X Y Z c := by
  have h := chkRim_ok
  unfold chkRim at h
  have s := sides_iff.1 hs
  have h1 := List.all_eq_true.1 h X (mem1234 s.1.1 s.1.2)
  have h2 := List.all_eq_true.1 h1 Y (mem1234 s.2.1.1 s.2.1.2)
  have h3 := List.all_eq_true.1 h2 Z (mem1234 s.2.2.1 s.2.2.2)
  have h4 := List.all_eq_true.1 h3 (idx Y Z c) (List.mem_range.2 (idx_eq hs hc).2.1)
  rw [cellOf_idx hs hc] at h4
  exact eq_of_beq h4

theorem f_size {X Y Z : Int} (hs : sides X Y Z = true) : P_box_size ((X, Y, Z, ()), ()) = some (((X * Y * Z).toNat : Int), ()) := by
  have h := size64 hs
  have s := sides_iff.1 hs
  rw [p_box_size]
  show some (IntKind.wrap .i64 (IntKind.wrap .i64 (X * Y) * Z), ()) = _
  rw [w64 (x := X * Y) (by omega) (by omega), w64 (x := X * Y * Z) (by omega) (by omega)]
  congr 2
  omega

/-- The cells for which something is so. -/
def thoseR (Y Z : Int) (g : D_A3 → Bool) : (d k : Nat) → BitVec 64 → BitVec 64
  | 0, _, v => v
  | d + 1, k, v => thoseR Y Z g d (k + 1) (bif g (cellOf Y Z k) then v ||| BitVec.twoPow 64 k else v)

theorem thoseR_bit (Y Z : Int) (g : D_A3 → Bool) (i : Nat) : ∀ (d k : Nat) (v : BitVec 64), k + d ≤ 64 → (thoseR Y Z g d k v).getLsbD i = (v.getLsbD i || (decide (k ≤ i) && decide (i < k + d) && g (cellOf Y Z i)))
  | 0, k, v, _ => by
    have : (decide (k ≤ i) && decide (i < k + 0)) = false := by
      rw [Bool.and_eq_false_iff, decide_eq_false_iff_not, decide_eq_false_iff_not]; omega
    simp only [thoseR, this, Bool.false_and, Bool.or_false]
  | d + 1, k, v, h => by
    rw [thoseR, thoseR_bit Y Z g i d (k + 1) _ (by omega)]
    by_cases e : i = k
    · subst e
      have h1 : decide (i + 1 ≤ i) = false := decide_eq_false (by omega)
      have h2 : decide (i < i + (d + 1)) = true := decide_eq_true (by omega)
      rw [h1, h2]
      cases g (cellOf Y Z i) with
      | false => simp
      | true =>
        simp only [cond_true, BitVec.getLsbD_or, BitVec.getLsbD_twoPow]
        have : decide (i < 64) = true := decide_eq_true (by omega)
        simp [this]
    · have h1 : decide (k + 1 ≤ i) = decide (k ≤ i) := by rw [Bool.eq_iff_iff, decide_eq_true_eq, decide_eq_true_eq]; omega
      have h2 : decide (i < k + 1 + d) = decide (i < k + (d + 1)) := by rw [Bool.eq_iff_iff, decide_eq_true_eq, decide_eq_true_eq]; omega
      rw [h1, h2]
      congr 1
      cases g (cellOf Y Z k) with
      | false => rfl
      | true =>
        simp only [cond_true, BitVec.getLsbD_or, BitVec.getLsbD_twoPow]
        have : decide (k = i) = false := decide_eq_false (fun h => e h.symm)
        simp [this]

/-! ### Growing -/
theorem low_and {n : Nat} {v w : BitVec 64} (hv : Low n v) : Low n (v &&& w) := fun i hi => by rw [BitVec.getLsbD_and, hv i hi, Bool.false_and]

theorem rim_iff {X Y Z : Int} {c : D_A3} : rim X Y Z c = true ↔ ∃ m, within3 X Y Z m = false ∧ nb m c := by
  unfold rim
  rw [List.any_eq_true]
  constructor
  · rintro ⟨k, hk, h⟩
    exact ⟨stp k c, by simpa using h, nb_symm ⟨k, List.mem_range.1 hk, rfl⟩⟩
  · rintro ⟨m, hm, hn⟩
    obtain ⟨k, hk, rfl⟩ := nb_symm hn
    exact ⟨k, List.mem_range.2 hk, by simp [hm]⟩

open Classical in
/-- What is enclosed. -/
noncomputable def encl (X Y Z : Int) (l : List D_A3) : List D_A3 := (allCells X Y Z).filter fun c => decide (c ∉ l ∧ ¬ OutP X Y Z l c)

open Classical in
theorem mem_encl {X Y Z : Int} (hs : sides X Y Z = true) {l : List D_A3} {c : D_A3} : c ∈ encl X Y Z l ↔ within3 X Y Z c = true ∧ c ∉ l ∧ ¬ OutP X Y Z l c := by
  unfold encl
  rw [List.mem_filter, mem_allCells hs, decide_eq_true_eq]

theorem encl_ok {X Y Z : Int} (hs : sides X Y Z = true) (l : List D_A3) : Small (encl X Y Z l) ∧ Ins X Y Z (encl X Y Z l) ∧ Srt (encl X Y Z l) := by
  obtain ⟨h1, h2, h3⟩ := allCells_ok hs
  refine ⟨?_, h2.filter _, h3.filter _⟩
  unfold Small at h1 ⊢
  exact Nat.le_trans (List.length_filter_le _ _) h1

end Go.VI
/- Plain: cuts. -/
namespace Go.VI
open Go.Proofs

def sh (d s : Int) (c : D_A3) : D_A3 := ((bif decide (d = 0) then c.1 + s else c.1), (bif decide (d = 1) then c.2.1 + s else c.2.1), (bif decide (d = 2) then c.2.2.1 + s else c.2.2.1), ())

theorem ltC_sh (d s : Int) (a b : D_A3) : ltC (sh d s a) (sh d s b) = ltC a b := by
  unfold ltC sh
  cases decide (d = 0) <;> cases decide (d = 1) <;> cases decide (d = 2) <;> simp

theorem srt_sh {l : List D_A3} (h : Srt l) (d s : Int) : Srt (l.map (sh d s)) := by
  unfold Srt
  rw [List.pairwise_map]
  exact List.Pairwise.imp (fun {a b} hab => by rw [ltC_sh]; exact hab) h

theorem dir {d : Int} (h0 : 0 ≤ d) (h1 : d ≤ 2) : d = 0 ∨ d = 1 ∨ d = 2 := by omega

theorem get3_sh {d : Int} (h0 : 0 ≤ d) (h1 : d ≤ 2) (s : Int) (c : D_A3) : get3 (sh d s c) d = get3 c d + s := by
  rcases dir h0 h1 with rfl | rfl | rfl <;> rfl

theorem sh_sh (d s t : Int) (c : D_A3) : sh d t (sh d s c) = sh d (s + t) c := by
  refine cell_ext ?_ ?_ ?_ <;> simp only [sh]
  · cases decide (d = 0) <;> simp; omega
  · cases decide (d = 1) <;> simp; omega
  · cases decide (d = 2) <;> simp; omega

theorem sh_zero (d : Int) (c : D_A3) : sh d 0 c = c := by
  refine cell_ext ?_ ?_ ?_ <;> simp [sh]

def cutN (l : List D_A3) (d k : Int) : Nat := (l.filter fun c => decide (get3 c d = k) && decide (sh d (-1) c ∈ l)).length

theorem inB_dir {d : Int} (h0 : 0 ≤ d) (h1 : d ≤ 2) : inB d 3 = true := by
  rcases dir h0 h1 with rfl | rfl | rfl <;> decide

def side3 (X Y Z d : Int) : Int := bif decide (d = 0) then X else (bif decide (d = 1) then Y else Z)

theorem faces_eq (l : List D_A3) (hr : Srt l) (dr k : Int) (d0 : 0 ≤ dr) (d1 : dr ≤ 2) : (l.filter fun c => decide (get3 c dr = k - 1) && decide (sh dr 1 c ∈ l)).map (sh dr 1) = l.filter fun c => decide (get3 c dr = k) && decide (sh dr (-1) c ∈ l) := by
  refine srt_ext _ _ (srt_sh (hr.filter _) _ _) (hr.filter _) fun c => ?_
  simp only [List.mem_map, List.mem_filter, Bool.and_eq_true, decide_eq_true_eq]
  constructor
  · rintro ⟨a, ⟨h1, h2, h3⟩, rfl⟩
    refine ⟨h3, ?_, ?_⟩
    · rw [get3_sh d0 d1]; omega
    · rw [sh_sh, show (1 : Int) + -1 = 0 from rfl, sh_zero]; exact h1
  · rintro ⟨h1, h2, h3⟩
    refine ⟨sh dr (-1) c, ⟨h3, ?_, ?_⟩, ?_⟩
    · rw [get3_sh d0 d1]; omega
    · rw [sh_sh, show (-1 : Int) + 1 = 0 from rfl, sh_zero]; exact h1
    · rw [sh_sh, show (-1 : Int) + 1 = 0 from rfl, sh_zero]

def isCut (X Y Z d k : Int) : Bool := decide (0 ≤ d) && decide (d ≤ 2) && (decide (1 ≤ k) && decide (k ≤ side3 X Y Z d - 1))

theorem side3_ok {X Y Z : Int} (hs : sides X Y Z = true) (d : Int) : 1 ≤ side3 X Y Z d ∧ side3 X Y Z d ≤ 4 := by
  obtain ⟨s1, s2, s3⟩ := sides_iff.1 hs
  unfold side3
  cases decide (d = 0) <;> cases decide (d = 1) <;> simp <;> omega

theorem f_l2Long {X Y Z : Int} (l : List D_A3) {d : Int} (d0 : 0 ≤ d) (d1 : d ≤ 2) : P_spec_l2Long ((X, Y, Z, l, ()), d, ()) = some (side3 X Y Z d, ()) := by
  rw [p_spec_l2Long, inB_dir d0 d1]; rfl

def cutFacesV (h : D_Heap) (d k : Int) : Int × Bool × Unit := if okHeap h && isCut h.1 h.2.1 h.2.2.1 d k then ((cutN h.2.2.2.1 d k : Int), true, ()) else (0, false, ())

theorem isCut_iff {X Y Z d k : Int} : isCut X Y Z d k = true ↔ 0 ≤ d ∧ d ≤ 2 ∧ 1 ≤ k ∧ k ≤ side3 X Y Z d - 1 := by
  simp [isCut, and_assoc]

end Go.VI
/- Plain: cutting a heap. -/
namespace Go.VI
open Go.Proofs

/-! ### Marks from any number on -/
/-! ### The two parts -/
def lowOf (l : List D_A3) (d k : Int) : List D_A3 := l.filter fun c => decide (get3 c d < k)
def highOf (l : List D_A3) (d k : Int) : List D_A3 := (l.filter fun c => !decide (get3 c d < k)).map (sh d (-k))

theorem sh_text {d : Int} (d0 : 0 ≤ d) (d1 : d ≤ 2) (c : D_A3) (hc : Near c) (k : Int) (k0 : 0 ≤ k) (k1 : k ≤ 4) : ((bif decide (d = (0 : Int)) then (IntKind.wrap .i64 ((bif decide (d = (0 : Int)) then c.1 else (bif decide (d = (1 : Int)) then c.2.1 else c.2.2.1)) - k)) else c.1), ((bif decide (d = (1 : Int)) then (IntKind.wrap .i64 ((bif decide (d = (0 : Int)) then c.1 else (bif decide (d = (1 : Int)) then c.2.1 else c.2.2.1)) - k)) else c.2.1), ((bif decide (d = (2 : Int)) then (IntKind.wrap .i64 ((bif decide (d = (0 : Int)) then c.1 else (bif decide (d = (1 : Int)) then c.2.1 else c.2.2.1)) - k)) else c.2.2.1), ()))) = sh d (-k) c := by
  unfold Near at hc
  rw [w64]
  · rcases dir d0 d1 with rfl | rfl | rfl <;> rfl
  all_goals rcases dir d0 d1 with rfl | rfl | rfl <;> simp <;> omega

theorem mask_append (Y Z : Int) (l r : List D_A3) (v : BitVec 64) : mask Y Z (l ++ r) v = mask Y Z r (mask Y Z l v) := by
  unfold mask
  rw [List.foldl_append]

def boxWith (X Y Z d s : Int) (l : List D_A3) : D_Heap := ((bif decide (d = 0) then s else X), (bif decide (d = 1) then s else Y), (bif decide (d = 2) then s else Z), l, ())

def cutV (h : D_Heap) (d k : Int) : D_Heap × D_Heap × Bool × Unit :=
  if okHeap h && isCut h.1 h.2.1 h.2.2.1 d k then (boxWith h.1 h.2.1 h.2.2.1 d k (lowOf h.2.2.2.1 d k), boxWith h.1 h.2.1 h.2.2.1 d (side3 h.1 h.2.1 h.2.2.1 d - k) (highOf h.2.2.2.1 d k), true, ()) else (noHeap, noHeap, false, ())

theorem cutV_small (h : D_Heap) (hl : Small h.2.2.2.1) (d k : Int) : Small (cutV h d k).1.2.2.2.1 ∧ Small (cutV h d k).2.1.2.2.2.1 := by
  unfold cutV
  split
  · refine ⟨Nat.le_trans (List.length_filter_le _ _) hl, ?_⟩
    show (highOf h.2.2.2.1 d k).length ≤ 1048576
    unfold highOf
    rw [List.length_map]
    exact Nat.le_trans (List.length_filter_le _ _) hl
  · exact ⟨by unfold Small noHeap; simp, by unfold Small noHeap; simp⟩

end Go.VI
/- Plain: gluing two heaps. -/
namespace Go.VI
open Go.Proofs

theorem mid_len {l : List D_A3} (h : l.length ≤ 3000000) (n : Nat) (hn : n ≤ 3000000) : (decide ((l.length + n) * 24 ≤ 140737488355328) && decide (l.length + n ≤ 140737488355328)) = true := by
  rw [decide_eq_true (by omega), decide_eq_true (by omega)]; rfl

theorem cut_lo {l : List D_A3} (k : Nat) : cut l 0 (k : Int) = l.take k := by simp [cut]
theorem cut_hi {l : List D_A3} (k : Nat) : cut l (k : Int) (l.length : Int) = l.drop k := by simp [cut]

theorem srt_insert {l : List D_A3} (hr : Srt l) (c : D_A3) (k : Nat) (h1 : ∀ x ∈ l.take k, ltC x c = true) (h2 : ∀ x ∈ l.drop k, ltC c x = true) : Srt (l.take k ++ [c] ++ l.drop k) := by
  unfold Srt
  rw [List.append_assoc, List.pairwise_append]
  have ht : Srt (l.take k) := List.Pairwise.sublist (List.take_sublist k l) hr
  have hd : Srt (l.drop k) := List.Pairwise.sublist (List.drop_sublist k l) hr
  refine ⟨ht, List.pairwise_cons.2 ⟨h2, hd⟩, fun a ha b hb => ?_⟩
  rcases List.mem_cons.1 hb with rfl | hb'
  · exact h1 a ha
  · exact ltC_trans (h1 a ha) (h2 b hb')

theorem mem_insert {l : List D_A3} (c x : D_A3) (k : Nat) : x ∈ l.take k ++ [c] ++ l.drop k ↔ x = c ∨ x ∈ l := by
  have : x ∈ l ↔ x ∈ l.take k ∨ x ∈ l.drop k := by rw [← List.mem_append, List.take_append_drop]
  rw [this]
  simp only [List.mem_append, List.mem_singleton]
  constructor
  · rintro ((h | h) | h)
    · exact .inr (.inl h)
    · exact .inl h
    · exact .inr (.inr h)
  · rintro (h | h | h)
    · exact .inl (.inr h)
    · exact .inl (.inl h)
    · exact .inr h

/-! ### The reference -/
theorem sh_text2 {d : Int} (d0 : 0 ≤ d) (d1 : d ≤ 2) (c : D_A3) (hc : Near c) (k : Int) (k0 : 0 ≤ k) (k1 : k ≤ 4) : ((bif decide (d = (0 : Int)) then (IntKind.wrap .i64 ((bif decide (d = (0 : Int)) then c.1 else (bif decide (d = (1 : Int)) then c.2.1 else c.2.2.1)) + k)) else c.1), ((bif decide (d = (1 : Int)) then (IntKind.wrap .i64 ((bif decide (d = (0 : Int)) then c.1 else (bif decide (d = (1 : Int)) then c.2.1 else c.2.2.1)) + k)) else c.2.1), ((bif decide (d = (2 : Int)) then (IntKind.wrap .i64 ((bif decide (d = (0 : Int)) then c.1 else (bif decide (d = (1 : Int)) then c.2.1 else c.2.2.1)) + k)) else c.2.2.1), ()))) = sh d k c := by
  unfold Near at hc
  rw [w64]
  · rcases dir d0 d1 with rfl | rfl | rfl <;> rfl
  all_goals rcases dir d0 d1 with rfl | rfl | rfl <;> simp <;> omega

def glueOut (S1 S2 S3 : Int) (l : List D_A3) : D_Heap × Bool × Unit := if sides S1 S2 S3 then ((S1, S2, S3, l, ()), true, ()) else (noHeap, false, ())

/-! ### The program -/
theorem glue_box {A B C A' B' C' d : Int} (ha : sides A B C = true) (hb : sides A' B' C' = true) (d0 : 0 ≤ d) (d1 : d ≤ 2) {la lb : List D_A3} (ia : Ins A B C la) (ib : Ins A' B' C' lb)
    (he : ∀ j, 0 ≤ j → j ≤ 2 → j = d ∨ side3 A B C j = side3 A' B' C' j) :
    Ins (boxWith A B C d (side3 A B C d + side3 A' B' C' d) []).1 (boxWith A B C d (side3 A B C d + side3 A' B' C' d) []).2.1 (boxWith A B C d (side3 A B C d + side3 A' B' C' d) []).2.2.1 (la ++ lb.map (sh d (side3 A B C d))) := by
  obtain ⟨a1, a2, a3⟩ := sides_iff.1 ha
  obtain ⟨b1, b2, b3⟩ := sides_iff.1 hb
  have e0 := he 0 (by omega) (by omega)
  have e1 := he 1 (by omega) (by omega)
  have e2 := he 2 (by omega) (by omega)
  intro c hc
  rcases List.mem_append.1 hc with h | h
  · have := within3_iff.1 (ia c h)
    rw [within3_iff]
    rcases dir d0 d1 with rfl | rfl | rfl <;> simp [boxWith, side3] at e0 e1 e2 ⊢ <;> omega
  · obtain ⟨a, h', rfl⟩ := List.mem_map.1 h
    have := within3_iff.1 (ib a h')
    rw [within3_iff]
    rcases dir d0 d1 with rfl | rfl | rfl <;> simp [boxWith, side3, sh] at e0 e1 e2 ⊢ <;> omega

theorem glueOut_noHeap_small (S1 S2 S3 : Int) {l : List D_A3} (hl : l.length ≤ 1048576) : Small (glueOut S1 S2 S3 l).1.2.2.2.1 := by
  unfold glueOut
  split
  · exact hl
  · unfold Small noHeap; simp

theorem f_szHeap2 (h : D_Heap) (left : Int) (h0 : 0 ≤ left) (h1 : left ≤ 1048576) (hl : h.2.2.2.1.length ≤ 9223372036854775807) : ∃ z, P_laws_szHeap (h, left, ()) = some (z, ()) ∧ z ≤ left ∧ (z < 0 ∨ (h.2.2.2.1.length : Int) + z ≤ left) := by
  obtain ⟨z, hz, hle, hor⟩ := f_szIntA3S h.2.2.2.1 left h0 h1 hl
  rw [p_laws_szHeap, hz]
  simp only [Option.bind_some]
  by_cases hn : z < 0
  · exact ⟨-1, by simp [hn], by omega, .inl (by omega)⟩
  · exact ⟨z, by simp [hn], hle, .inr (by omega)⟩

end Go.VI
/- Plain: what acts make of heaps. -/
namespace Go.VI
open Go.Proofs

/-- Both say the same of a heap. -/
def Both (a b : Option (D_Heap × Bool × Unit)) : Prop := ∃ r : D_Heap × Bool × Unit, a = some r ∧ b = some r ∧ Small r.1.2.2.2.1

theorem small64 {l : List D_A3} (h : l.length ≤ 64) : Small l := by unfold Small; omega
theorem small_no : Small noHeap.2.2.2.1 := by unfold Small noHeap; simp

theorem app_len' {α : Type} {l : List α} {x : α} (h : l.length ≤ 100000000) : (decide ((l.length + ([x] : List α).length) * 24 ≤ 140737488355328) && decide (l.length + ([x] : List α).length ≤ 140737488355328)) = true := by
  rw [Bool.and_eq_true, decide_eq_true_eq, decide_eq_true_eq]
  simp only [List.length_singleton]
  omega

/-! ### A cube more, a cube less, other cells -/
theorem cell_eq (a c : D_A3) : (decide (a.1 = c.1) && (decide (a.2.1 = c.2.1) && (decide (a.2.2.1 = c.2.2.1) && true))) = decide (a = c) := by
  rw [Bool.eq_iff_iff, Bool.and_eq_true, Bool.and_eq_true, Bool.and_eq_true, decide_eq_true_eq, decide_eq_true_eq, decide_eq_true_eq, decide_eq_true_eq]
  constructor
  · rintro ⟨h1, h2, h3, _⟩; exact cell_ext h1 h2 h3
  · intro h; rw [← h]; exact ⟨rfl, rfl, rfl, rfl⟩

theorem setIs_less {X Y Z : Int} (hs : sides X Y Z = true) {l : List D_A3} (hi : Ins X Y Z l) {c : D_A3} (hw : within3 X Y Z c = true) : SetIs X Y Z (mask Y Z l 0 &&& ~~~(BitVec.twoPow 64 (idx Y Z c))) (fun x => decide (x ∈ l) && !decide (x = c)) := by
  refine ⟨low_and (low_mask hs hi), fun x hx => ?_⟩
  have h1 := (idx_eq hs hx).2.1
  have h2 := (idx_eq hs hx).2.2.1
  rw [BitVec.getLsbD_and, BitVec.getLsbD_not, BitVec.getLsbD_twoPow, mask_mem hs hi hx]
  have e : decide (idx Y Z c = idx Y Z x) = decide (x = c) := by
    rw [Bool.eq_iff_iff, decide_eq_true_eq, decide_eq_true_eq]
    exact ⟨fun h => (idx_inj hs hw hx h).symm, fun h => by rw [h]⟩
  have h3 := (idx_eq hs hw).2.1
  rw [e, decide_eq_true (p := idx Y Z x < 64) (by omega), decide_eq_true (p := idx Y Z c < 64) (by omega)]
  simp

theorem low_full {X Y Z : Int} (hs : sides X Y Z = true) : Low (X * Y * Z).toNat (fullBits (X * Y * Z).toNat) := fun i hi => by
  have := size64 hs
  rw [fullBits_bit (by omega)]; exact decide_eq_false (by omega)

theorem setIs_other {X Y Z : Int} (hs : sides X Y Z = true) {l : List D_A3} (hi : Ins X Y Z l) : SetIs X Y Z (fullBits (X * Y * Z).toNat &&& ~~~(mask Y Z l 0)) (fun c => !decide (c ∈ l)) := by
  refine ⟨low_and (low_full hs), fun c hc => ?_⟩
  have h64 := size64 hs
  have hi' := (idx_eq hs hc).2.1
  rw [BitVec.getLsbD_and, BitVec.getLsbD_not, fullBits_bit (by omega), mask_mem hs hi hc, decide_eq_true hi', decide_eq_true (p := idx Y Z c < 64) (by omega)]
  simp

/-! ### Cubes elsewhere -/
theorem moved_is {S1 S2 S3 : Int} (hS : sides S1 S2 S3 = true) {l l' : List D_A3} {g : D_A3 → D_A3} (hg : ∀ c ∈ l, within3 S1 S2 S3 (g c) = true) (hr : Srt l') (hm : ∀ c, c ∈ l' ↔ c ∈ l.map g) : bitCells S1 S2 S3 (mask S2 S3 (l.map g) 0) = l' := by
  have hi : Ins S1 S2 S3 (l.map g) := fun x hx => by
    obtain ⟨c, hc, rfl⟩ := List.mem_map.1 hx
    exact hg c hc
  refine (setIs_mask hS hi).cells hS hr fun c => ?_
  rw [hm, decide_eq_true_eq]
  exact ⟨fun h => ⟨hi c h, h⟩, fun h => h.2⟩

/-- A cell mirrored. -/
def mirC (X Y Z d : Int) (c : D_A3) : D_A3 := ((bif decide (d = 0) then X - 1 - c.1 else c.1), (bif decide (d = 1) then Y - 1 - c.2.1 else c.2.1), (bif decide (d = 2) then Z - 1 - c.2.2.1 else c.2.2.1), ())

theorem mirC_in {X Y Z d : Int} {c : D_A3} (hc : within3 X Y Z c = true) : within3 X Y Z (mirC X Y Z d c) = true := by
  rw [within3_iff] at hc ⊢
  unfold mirC
  simp only
  refine ⟨?_, ?_, ?_⟩
  · cases decide (d = 0) <;> simp <;> omega
  · cases decide (d = 1) <;> simp <;> omega
  · cases decide (d = 2) <;> simp <;> omega

theorem mir_text {X Y Z d : Int} (hs : sides X Y Z = true) (d0 : 0 ≤ d) (d1 : d ≤ 2) {c : D_A3} (hc : within3 X Y Z c = true) (A : D_A3) (hA : A = (X, Y, Z, ())) : (((bif decide (d = (0 : Int)) then (IntKind.wrap .i64 ((IntKind.wrap .i64 ((bif decide (d = (0 : Int)) then A.1 else (bif decide (d = (1 : Int)) then A.2.1 else A.2.2.1)) - 1)) - (bif decide (d = (0 : Int)) then c.1 else (bif decide (d = (1 : Int)) then c.2.1 else c.2.2.1)))) else c.1), ((bif decide (d = (1 : Int)) then (IntKind.wrap .i64 ((IntKind.wrap .i64 ((bif decide (d = (0 : Int)) then A.1 else (bif decide (d = (1 : Int)) then A.2.1 else A.2.2.1)) - 1)) - (bif decide (d = (0 : Int)) then c.1 else (bif decide (d = (1 : Int)) then c.2.1 else c.2.2.1)))) else c.2.1), ((bif decide (d = (2 : Int)) then (IntKind.wrap .i64 ((IntKind.wrap .i64 ((bif decide (d = (0 : Int)) then A.1 else (bif decide (d = (1 : Int)) then A.2.1 else A.2.2.1)) - 1)) - (bif decide (d = (0 : Int)) then c.1 else (bif decide (d = (1 : Int)) then c.2.1 else c.2.2.1)))) else c.2.2.1), ()))) : D_A3) = mirC X Y Z d c := by
  subst hA
  have s := sides_iff.1 hs
  have w := within3_iff.1 hc
  have e : ∀ S x : Int, 1 ≤ S → S ≤ 4 → 0 ≤ x → x ≤ 4 → IntKind.wrap .i64 (IntKind.wrap .i64 (S - 1) - x) = S - 1 - x := fun S x h1 h2 h3 h4 => by rw [w64 (x := S - 1) (by omega) (by omega), w64 (by omega) (by omega)]
  have e1 := e X c.1 (by omega) (by omega) (by omega) (by omega)
  have e2 := e Y c.2.1 (by omega) (by omega) (by omega) (by omega)
  have e3 := e Z c.2.2.1 (by omega) (by omega) (by omega) (by omega)
  rcases dir d0 d1 with rfl | rfl | rfl <;> simp [mirC, e1, e2, e3]

/-- Two directions exchanged. -/
def swC (a b : Int) (c : D_A3) : D_A3 := ((bif decide (b = 0) then get3 c a else (bif decide (a = 0) then get3 c b else c.1)), (bif decide (b = 1) then get3 c a else (bif decide (a = 1) then get3 c b else c.2.1)), (bif decide (b = 2) then get3 c a else (bif decide (a = 2) then get3 c b else c.2.2.1)), ())

theorem sw_sides {X Y Z a b : Int} (hs : sides X Y Z = true) (a0 : 0 ≤ a) (a1 : a ≤ 2) (b0 : 0 ≤ b) (b1 : b ≤ 2) : sides (swC a b (X, Y, Z, ())).1 (swC a b (X, Y, Z, ())).2.1 (swC a b (X, Y, Z, ())).2.2.1 = true := by
  rw [sides_iff] at hs ⊢
  rcases dir a0 a1 with rfl | rfl | rfl <;> rcases dir b0 b1 with rfl | rfl | rfl <;> simp [swC, get3] <;> omega

theorem sw_in {X Y Z a b : Int} (a0 : 0 ≤ a) (a1 : a ≤ 2) (b0 : 0 ≤ b) (b1 : b ≤ 2) {c : D_A3} (hc : within3 X Y Z c = true) : within3 (swC a b (X, Y, Z, ())).1 (swC a b (X, Y, Z, ())).2.1 (swC a b (X, Y, Z, ())).2.2.1 (swC a b c) = true := by
  rw [within3_iff] at hc ⊢
  rcases dir a0 a1 with rfl | rfl | rfl <;> rcases dir b0 b1 with rfl | rfl | rfl <;> simp [swC, get3] <;> omega

end Go.VI
/- Plain: dropped heaps. -/
namespace Go.VI
open Go.Proofs

def lineI (Y : Int) (c : D_A3) : Int := c.1 * Y + c.2.1

theorem line_ok {X Y Z : Int} (hs : sides X Y Z = true) {c : D_A3} (hc : within3 X Y Z c = true) : 0 ≤ lineI Y c ∧ lineI Y c < X * Y ∧ 0 ≤ c.1 * Y ∧ c.1 * Y ≤ 16 := by
  have s := sides_iff.1 hs
  have w := within3_iff.1 hc
  unfold lineI
  rcases four s.1.1 s.1.2 with rfl | rfl | rfl | rfl <;> rcases four s.2.1.1 s.2.1.2 with rfl | rfl | rfl | rfl <;> omega

theorem f_line2 {X Y Z : Int} (hs : sides X Y Z = true) {c : D_A3} (hc : within3 X Y Z c = true) : P_box_line ((X, Y, Z, ()), c, 2, ()) = some (lineI Y c, ()) := by
  obtain ⟨h1, h2, h3, h4⟩ := line_ok hs hc
  have h5 := size64 hs
  have w := within3_iff.1 hc
  have s := sides_iff.1 hs
  rw [p_box_line, p_impl_others]
  show some (IntKind.wrap .i64 (IntKind.wrap .i64 (c.1 * Y) + c.2.1), ()) = _
  unfold lineI at *
  rw [w64 (x := c.1 * Y) (by omega) (by omega), w64 (by omega) (by omega)]

/-- One cube more in its column. -/
def upL (Y : Int) (acc : List Int) (c : D_A3) : List Int := List.set acc (Int.toNat (lineI Y c)) (IntKind.wrap .i64 ((nth ((.int .i64) : Ty) acc (lineI Y c)) + 1))

theorem inB_line {X Y Z : Int} (hs : sides X Y Z = true) {c : D_A3} (hc : within3 X Y Z c = true) {acc : List Int} (ha : acc.length = (X * Y).toNat) : inB (lineI Y c) acc.length = true := by
  obtain ⟨h1, h2, h3, h4⟩ := line_ok hs hc
  unfold inB
  rw [Bool.and_eq_true, decide_eq_true_eq, decide_eq_true_eq]
  omega

theorem upL_len {Y : Int} {acc : List Int} {c : D_A3} : (upL Y acc c).length = acc.length := by simp [upL]

theorem l_viewI {X Y Z : Int} (hs : sides X Y Z = true) {l : List D_A3} (hl : Small l) (hi : Ins X Y Z l) : ∀ (d i m : Nat) (acc : List Int), l.length = i + d → d < m → acc.length = (X * Y).toNat →
    l_box_view_3 m X Y Z 2 acc l (l.length : Int) (i : Int) = some ((l.drop i).foldl (upL Y) acc, ())
  | d, i, 0, acc, _, h, _ => by omega
  | d, i, m + 1, acc, hk, hm, ha => by
    have hl' := hl
    unfold Small at hl'
    rw [q_box_view_3]
    by_cases hlt : i < l.length
    · have hc := hi _ (List.getElem_mem hlt)
      rw [ltT hlt, inB_at hlt, nthA (t := T_A3) hlt, f_line2 hs hc, drop_at l i hlt, succI i (by omega)]
      simp only [cond_true, Option.bind_some]
      rw [inB_line hs hc ha]
      simp only [cond_true, List.foldl_cons]
      exact l_viewI hs hl hi (d - 1) (i + 1) m (upL Y acc l[i]) (by omega) (by omega) (by rw [upL_len, ha])
    · rw [ltF hlt, List.drop_eq_nil_of_le (by omega)]
      rfl

theorem l_viewS {X Y Z : Int} (hs : sides X Y Z = true) {l : List D_A3} (hl : Small l) (hi : Ins X Y Z l) : ∀ (d i m : Nat) (acc : List Int), l.length = i + d → d < m → acc.length = (X * Y).toNat →
    l_spec_l2View_4 m X Y Z l 0 1 acc (i : Int) = some ((l.drop i).foldl (upL Y) acc, ())
  | d, i, 0, acc, _, h, _ => by omega
  | d, i, m + 1, acc, hk, hm, ha => by
    have hl' := hl
    unfold Small at hl'
    rw [q_spec_l2View_4]
    by_cases hlt : i < l.length
    · have hc := hi _ (List.getElem_mem hlt)
      obtain ⟨h1, h2, h3, h4⟩ := line_ok hs hc
      have h5 := size64 hs
      have w := within3_iff.1 hc
      have s := sides_iff.1 hs
      rw [ltT hlt, inB_at hlt, nthA (t := T_A3) hlt, f_l2Long l (show (0 : Int) ≤ 1 by decide) (by decide), drop_at l i hlt, succI i (by omega)]
      have e : IntKind.wrap .i64 (IntKind.wrap .i64 ((bif decide ((0 : Int) = (0 : Int)) then l[i].1 else (bif decide ((0 : Int) = (1 : Int)) then l[i].2.1 else l[i].2.2.1)) * side3 X Y Z 1) + (bif decide ((1 : Int) = (0 : Int)) then l[i].1 else (bif decide ((1 : Int) = (1 : Int)) then l[i].2.1 else l[i].2.2.1))) = lineI Y l[i] := by
        show IntKind.wrap .i64 (IntKind.wrap .i64 (l[i].1 * Y) + l[i].2.1) = _
        unfold lineI at *
        rw [w64 (x := l[i].1 * Y) (by omega) (by omega), w64 (by omega) (by omega)]
      simp only [cond_true, Option.bind_some, show inB (0 : Int) 3 = true from rfl, show inB (1 : Int) 3 = true from rfl] at e ⊢
      rw [e, inB_line hs hc ha]
      simp only [cond_true, List.foldl_cons]
      exact l_viewS hs hl hi (d - 1) (i + 1) m (upL Y acc l[i]) (by omega) (by omega) (by rw [upL_len, ha])
    · rw [ltF hlt, List.drop_eq_nil_of_le (by omega)]
      rfl

/-- How many cubes each column has. -/
def cols (X Y : Int) (l : List D_A3) : List Int := l.foldl (upL Y) (List.replicate (X * Y).toNat 0)

theorem foldl_upL_len (Y : Int) : ∀ (l : List D_A3) (acc : List Int), (l.foldl (upL Y) acc).length = acc.length
  | [], _ => rfl
  | c :: l, acc => by rw [List.foldl_cons, foldl_upL_len Y l, upL_len]

theorem cols_len (X Y : Int) (l : List D_A3) : (cols X Y l).length = (X * Y).toNat := by
  unfold cols
  rw [foldl_upL_len, List.length_replicate]

theorem guardN {n : Int} (h0 : 0 ≤ n) (h1 : n ≤ 1000) : (decide ((0 : Int) ≤ n) && decide (n ≤ n) && decide (n * ((8 : Nat) : Int) ≤ 140737488355328) && decide (n ≤ 140737488355328)) = true := by
  rw [decide_eq_true h0, decide_eq_true (Int.le_refl n), decide_eq_true (p := n * ((8 : Nat) : Int) ≤ 140737488355328) (by omega), decide_eq_true (p := n ≤ 140737488355328) (by omega)]
  rfl

theorem f_viewS {X Y Z : Int} (hs : sides X Y Z = true) {l : List D_A3} (hl : Small l) (hi : Ins X Y Z l) : P_spec_l2View ((X, Y, Z, l, ()), 2, ()) = some (cols X Y l, ()) := by
  have h5 := size64 hs
  rw [p_spec_l2View, p_spec_l2Others]
  simp only [show decide ((2 : Int) = 0) = false from rfl, show decide ((2 : Int) = 1) = false from rfl, cond_false, Option.bind_some]
  rw [f_l2Long l (show (0 : Int) ≤ 0 by decide) (by decide), f_l2Long l (show (0 : Int) ≤ 1 by decide) (by decide)]
  simp only [Option.bind_some]
  have e : IntKind.wrap .i64 (side3 X Y Z 0 * side3 X Y Z 1) = X * Y := by
    show IntKind.wrap .i64 (X * Y) = _
    rw [w64 (by omega) (by omega)]
  rw [e, guardN (by omega) (by omega)]
  exact l_viewS hs hl hi l.length 0 N (List.replicate (X * Y).toNat 0) (by simp) (by unfold Small at hl; have := N_ge; omega) (by simp)

theorem f_viewI {X Y Z : Int} (hs : sides X Y Z = true) {l : List D_A3} (hi : Ins X Y Z l) (hr : Srt l) : P_box_view ((X, Y, Z, ()), ((mask Y Z l 0).toNat : Int), 2, ()) = some (cols X Y l, ()) := by
  have h5 := size64 hs
  have s := sides_iff.1 hs
  have h64 := srt_small64 hs hi hr
  have el : P_box_lines ((X, Y, Z, ()), 2, ()) = some (X * Y, ()) := by
    rw [p_box_lines, f_size hs]
    have hz : decide ((bif decide ((2 : Int) = (0 : Int)) then X else (bif decide ((2 : Int) = (1 : Int)) then Y else Z)) = 0) = false := decide_eq_false (show ¬ Z = 0 by omega)
    simp only [Option.bind_some, show inB (2 : Int) 3 = true from rfl, cond_true]
    show (bif !decide ((bif decide ((2 : Int) = (0 : Int)) then X else (bif decide ((2 : Int) = (1 : Int)) then Y else Z)) = 0) then some (IntKind.wrap .i64 (Int.tdiv (((X * Y * Z).toNat : Nat) : Int) Z), ()) else none) = _
    rw [hz]
    have e : Int.tdiv (((X * Y * Z).toNat : Nat) : Int) Z = X * Y := by
      rw [Int.toNat_of_nonneg (by omega)]
      exact Int.mul_tdiv_cancel _ (by omega)
    rw [e, w64 (by omega) (by omega)]
    rfl
  rw [p_box_view, el]
  simp only [Option.bind_some]
  rw [guardN (by omega) (by omega), f_box_list hs, listOf_mask hs hi hr]
  exact l_viewI hs (small64 h64) hi l.length 0 N (List.replicate (X * Y).toNat 0) (by simp) (by have := N_ge; omega) (by simp)

/-- Is a cell below the top of its column? -/
def lowC (Y : Int) (V : List Int) (c : D_A3) : Bool := decide (c.2.2.1 < nth ((.int .i64) : Ty) V (lineI Y c))

end Go.VI
