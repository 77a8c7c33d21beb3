/- Plain: what is reached from cell to cell. -/
import Derived.Test.YtaopponjedombaaGreatPlJ
namespace Go.VI
open Go.Proofs

/-- Neighbors. -/
def nb (c d : D_A3) : Prop := ∃ k, k < 6 ∧ d = stp k c

theorem nb_iff {c d : D_A3} : nb c d ↔ (d.2.1 = c.2.1 ∧ d.2.2.1 = c.2.2.1 ∧ (d.1 = c.1 - 1 ∨ d.1 = c.1 + 1)) ∨ (d.1 = c.1 ∧ d.2.2.1 = c.2.2.1 ∧ (d.2.1 = c.2.1 - 1 ∨ d.2.1 = c.2.1 + 1)) ∨ (d.1 = c.1 ∧ d.2.1 = c.2.1 ∧ (d.2.2.1 = c.2.2.1 - 1 ∨ d.2.2.1 = c.2.2.1 + 1)) := by
  obtain ⟨x, y, z, ⟨⟩⟩ := c
  obtain ⟨x', y', z', ⟨⟩⟩ := d
  constructor
  · rintro ⟨k, hk, e⟩
    rcases six hk with rfl | rfl | rfl | rfl | rfl | rfl <;> simp only [stp, Prod.mk.injEq, and_true] at e <;> obtain ⟨rfl, rfl, rfl⟩ := e <;> simp <;> omega
  · rintro (⟨h1, h2, h3 | h3⟩ | ⟨h1, h2, h3 | h3⟩ | ⟨h1, h2, h3 | h3⟩) <;> simp only at h1 h2 h3 <;> subst h1 <;> subst h2 <;> subst h3
    · exact ⟨0, by omega, by simp [stp]; omega⟩
    · exact ⟨1, by omega, by simp [stp]⟩
    · exact ⟨2, by omega, by simp [stp]; omega⟩
    · exact ⟨3, by omega, by simp [stp]⟩
    · exact ⟨4, by omega, by simp [stp]; omega⟩
    · exact ⟨5, by omega, by simp [stp]⟩

theorem nb_symm {c d : D_A3} (h : nb c d) : nb d c := by
  rw [nb_iff] at h ⊢
  omega

/-- What is reached from some cells by way of others. -/
inductive Rch (p q : D_A3 → Prop) : D_A3 → Prop
  | base {c : D_A3} : p c → Rch p q c
  | step {c d : D_A3} : Rch p q c → nb c d → q d → Rch p q d

theorem Rch.mono {p p' q q' : D_A3 → Prop} (hp : ∀ c, p c → Rch p' q' c) (hq : ∀ c, q c → q' c) {c : D_A3} (h : Rch p q c) : Rch p' q' c := by
  induction h with
  | base h => exact hp _ h
  | step _ hn hd ih => exact .step ih hn (hq _ hd)

theorem Rch.of {p q r : D_A3 → Prop} (hp : ∀ c, p c → r c) (hq : ∀ c d, r c → nb c d → q d → r d) {c : D_A3} (h : Rch p q c) : r c := by
  induction h with
  | base h => exact hp _ h
  | step _ hn hd ih => exact hq _ _ ih hn hd

/-- The neighbors in the box. -/
def nears (X Y Z : Int) (c : D_A3) : List D_A3 := ((List.range 6).map fun k => stp k c).filter (within3 X Y Z)

theorem mem_nears {X Y Z : Int} {c d : D_A3} : d ∈ nears X Y Z c ↔ within3 X Y Z d = true ∧ nb c d := by
  unfold nears nb
  simp only [List.mem_filter, List.mem_map, List.mem_range]
  constructor
  · rintro ⟨⟨k, hk, rfl⟩, h⟩; exact ⟨h, k, hk, rfl⟩
  · rintro ⟨h, k, hk, rfl⟩; exact ⟨⟨k, hk, rfl⟩, h⟩

theorem ins_nears (X Y Z : Int) (c : D_A3) : Ins X Y Z (nears X Y Z c) := fun d hd => (mem_nears.1 hd).1

def nearB (X Y Z : Int) (c : D_A3) : BitVec 64 := mask Y Z (nears X Y Z c) 0

theorem nearB_bit {X Y Z : Int} (hs : sides X Y Z = true) {c d : D_A3} (hd : within3 X Y Z d = true) : (nearB X Y Z c).getLsbD (idx Y Z d) = true ↔ nb c d := by
  unfold nearB
  rw [mask_mem hs (ins_nears X Y Z c) hd, decide_eq_true_eq, mem_nears]
  exact ⟨fun h => h.2, fun h => ⟨hd, h⟩⟩

/-- No bits from a place on. -/
def Low (n : Nat) (v : BitVec 64) : Prop := ∀ i, n ≤ i → v.getLsbD i = false

theorem low_mask {X Y Z : Int} (hs : sides X Y Z = true) {l : List D_A3} (hl : Ins X Y Z l) : Low (X * Y * Z).toNat (mask Y Z l 0) := by
  intro i hi
  rw [mask_bit]
  have h0 : (0 : BitVec 64).getLsbD i = false := by simp
  rw [h0, Bool.false_or, Bool.and_eq_false_iff]
  right
  rw [List.any_eq_false]
  intro c hc
  have := (idx_eq hs (hl c hc)).2.1
  simp only [decide_eq_true_eq]
  omega

theorem low_ext {n : Nat} {v w : BitVec 64} (hv : Low n v) (hw : Low n w) (h : ∀ i, i < n → v.getLsbD i = w.getLsbD i) : v = w := by
  apply BitVec.eq_of_getLsbD_eq
  intro i _
  by_cases hi : i < n
  · exact h i hi
  · rw [hv i (by omega), hw i (by omega)]

theorem box_ext {X Y Z : Int} (hs : sides X Y Z = true) {v w : BitVec 64} (hv : Low (X * Y * Z).toNat v) (hw : Low (X * Y * Z).toNat w) (h : ∀ c, within3 X Y Z c = true → v.getLsbD (idx Y Z c) = w.getLsbD (idx Y Z c)) : v = w := by
  refine low_ext hv hw fun i hi => ?_
  obtain ⟨h1, h2⟩ := cellOf_ok hs hi
  rw [← h2]
  exact h _ h1

/-- One round of growing. -/
def growR (X Y Z : Int) (u v : BitVec 64) : (d k : Nat) → BitVec 64 → BitVec 64
  | 0, _, acc => acc
  | d + 1, k, acc => growR X Y Z u v d (k + 1) (bif v.getLsbD k then acc ||| (nearB X Y Z (cellOf Y Z k) &&& u) else acc)

theorem growR_bit (X Y Z : Int) (u v : BitVec 64) (i : Nat) : ∀ (d k : Nat) (acc : BitVec 64), (growR X Y Z u v d k acc).getLsbD i = true ↔ acc.getLsbD i = true ∨ ∃ j, k ≤ j ∧ j < k + d ∧ v.getLsbD j = true ∧ (nearB X Y Z (cellOf Y Z j)).getLsbD i = true ∧ u.getLsbD i = true
  | 0, k, acc => by
    simp only [growR]
    constructor
    · exact .inl
    · rintro (h | ⟨j, h1, h2, _⟩)
      · exact h
      · omega
  | d + 1, k, acc => by
    rw [growR, growR_bit X Y Z u v i d (k + 1)]
    cases hk : v.getLsbD k with
    | false =>
      simp only [cond_false]
      constructor
      · rintro (h | ⟨j, h1, h2, h3⟩)
        · exact .inl h
        · exact .inr ⟨j, by omega, by omega, h3⟩
      · rintro (h | ⟨j, h1, h2, h3⟩)
        · exact .inl h
        · have : j ≠ k := fun e => by rw [e, hk] at h3; cases h3.1
          exact .inr ⟨j, by omega, by omega, h3⟩
    | true =>
      simp only [cond_true, BitVec.getLsbD_or, BitVec.getLsbD_and, Bool.or_eq_true, Bool.and_eq_true]
      constructor
      · rintro ((h | h) | ⟨j, h1, h2, h3⟩)
        · exact .inl h
        · exact .inr ⟨k, by omega, by omega, hk, h.1, h.2⟩
        · exact .inr ⟨j, by omega, by omega, h3⟩
      · rintro (h | ⟨j, h1, h2, h3, h4, h5⟩)
        · exact .inl (.inl h)
        · by_cases e : j = k
          · subst e; exact .inl (.inr ⟨h4, h5⟩)
          · exact .inr ⟨j, by omega, by omega, h3, h4, h5⟩

def grow1 (X Y Z : Int) (u v : BitVec 64) : BitVec 64 := growR X Y Z u v (X * Y * Z).toNat 0 v

theorem grow1_low {X Y Z : Int} {u v : BitVec 64} (hv : Low (X * Y * Z).toNat v) (hu : Low (X * Y * Z).toNat u) : Low (X * Y * Z).toNat (grow1 X Y Z u v) := by
  intro i hi
  cases hb : (grow1 X Y Z u v).getLsbD i with
  | false => rfl
  | true =>
    unfold grow1 at hb
    rw [growR_bit] at hb
    rcases hb with hb | ⟨_, _, _, _, _, hb⟩
    · rw [hv i hi] at hb; cases hb
    · rw [hu i hi] at hb; cases hb

theorem grow1_sub {X Y Z : Int} {u v : BitVec 64} (i : Nat) (h : v.getLsbD i = true) : (grow1 X Y Z u v).getLsbD i = true := by
  unfold grow1
  rw [growR_bit]
  exact .inl h

def unset (n : Nat) (v : BitVec 64) : Nat := ((List.range n).filter fun i => !v.getLsbD i).length

theorem filter_lt {α : Type} (p p' : α → Bool) : ∀ (l : List α), (∀ x ∈ l, p' x = true → p x = true) → (∃ x ∈ l, p x = true ∧ p' x = false) → (l.filter p').length < (l.filter p).length
  | [], _, h => by obtain ⟨x, hx, _⟩ := h; cases hx
  | a :: l, h, hx => by
    have le : ∀ (l : List α), (∀ x ∈ l, p' x = true → p x = true) → (l.filter p').length ≤ (l.filter p).length := by
      intro l
      induction l with
      | nil => intro _; simp
      | cons b l ih =>
        intro h
        have := ih fun x hx => h x (List.mem_cons_of_mem _ hx)
        cases hb' : p' b with
        | false =>
          cases hb : p b <;> simp [List.filter_cons, hb, hb'] <;> omega
        | true =>
          have hb := h b (List.mem_cons_self ..) hb'
          simp [List.filter_cons, hb, hb']; omega
    obtain ⟨x, hx, h1, h2⟩ := hx
    have hl := le l fun x hx => h x (List.mem_cons_of_mem _ hx)
    rcases List.mem_cons.1 hx with rfl | hx
    · simp only [List.filter_cons, h1, h2, if_true, List.length_cons, Bool.false_eq_true, if_false]
      omega
    · have ih := filter_lt p p' l (fun x hx => h x (List.mem_cons_of_mem _ hx)) ⟨x, hx, h1, h2⟩
      cases ha' : p' a with
      | false => cases ha : p a <;> simp [List.filter_cons, ha, ha'] <;> omega
      | true =>
        have ha := h a (List.mem_cons_self ..) ha'
        simp [List.filter_cons, ha, ha']; omega

theorem unset_lt {n : Nat} {v w : BitVec 64} (hv : Low n v) (hw : Low n w) (hsub : ∀ i, v.getLsbD i = true → w.getLsbD i = true) (hne : w ≠ v) : unset n w < unset n v := by
  unfold unset
  refine filter_lt _ _ _ (fun i _ h => ?_) ?_
  · cases hb : v.getLsbD i with
    | false => rfl
    | true => rw [hsub i hb] at h; exact h
  · apply Classical.byContradiction
    intro hno
    apply hne
    refine low_ext hw hv fun i hi => ?_
    cases hb : v.getLsbD i with
    | true => exact hsub i hb
    | false =>
      cases hb' : w.getLsbD i with
      | false => rfl
      | true => exact absurd ⟨i, List.mem_range.2 hi, by simp [hb], by simp [hb']⟩ hno

theorem unset_le (n : Nat) (v : BitVec 64) : unset n v ≤ n := by
  unfold unset
  have := List.length_filter_le (fun i => !v.getLsbD i) (List.range n)
  simpa using this

/-- A cell of the box with its bit. -/
def bitP (X Y Z : Int) (v : BitVec 64) (c : D_A3) : Prop := within3 X Y Z c = true ∧ v.getLsbD (idx Y Z c) = true

theorem Rch.within {X Y Z : Int} {v u : BitVec 64} {c : D_A3} (h : Rch (bitP X Y Z v) (bitP X Y Z u) c) : within3 X Y Z c = true := by
  induction h with
  | base h => exact h.1
  | step _ _ h _ => exact h.1

/-- What one round adds is reached. -/
theorem grow1_reach {X Y Z : Int} (hs : sides X Y Z = true) {v0 u v : BitVec 64} (h : ∀ c, bitP X Y Z v c → Rch (bitP X Y Z v0) (bitP X Y Z u) c) (c : D_A3) (hc : bitP X Y Z (grow1 X Y Z u v) c) : Rch (bitP X Y Z v0) (bitP X Y Z u) c := by
  obtain ⟨h1, h2⟩ := hc
  unfold grow1 at h2
  rw [growR_bit] at h2
  rcases h2 with h2 | ⟨j, _, hj, h3, h4, h5⟩
  · exact h c ⟨h1, h2⟩
  · obtain ⟨k1, k2⟩ := cellOf_ok (i := j) hs (by omega)
    exact .step (h _ ⟨k1, by rw [k2]; exact h3⟩) ((nearB_bit hs h1).1 h4) ⟨h1, h5⟩

/-- What doesn't grow has all that is reached. -/
theorem grow1_closed {X Y Z : Int} (hs : sides X Y Z = true) {v0 u w : BitVec 64} (hsub : ∀ i, v0.getLsbD i = true → w.getLsbD i = true) (hw : grow1 X Y Z u w = w) (c : D_A3) (h : Rch (bitP X Y Z v0) (bitP X Y Z u) c) : w.getLsbD (idx Y Z c) = true := by
  induction h with
  | base h => exact hsub _ h.2
  | step hr hn hd ih =>
    rename_i c d
    have hc := hr.within
    rw [← hw]
    unfold grow1
    rw [growR_bit]
    refine .inr ⟨idx Y Z c, Nat.zero_le _, by have := (idx_eq hs hc).2.1; omega, ih, ?_, hd.2⟩
    rw [cellOf_idx hs hc]
    exact (nearB_bit hs hd.1).2 hn
/-! ### What is outside -/
def FreeC (X Y Z : Int) (l : List D_A3) (d : D_A3) : Prop := within3 X Y Z d = true ∧ d ∉ l
def Outer (X Y Z : Int) (l : List D_A3) (c : D_A3) : Prop := FreeC X Y Z l c ∧ ∃ m, within3 X Y Z m = false ∧ nb m c
def OutP (X Y Z : Int) (l : List D_A3) : D_A3 → Prop := Rch (Outer X Y Z l) (FreeC X Y Z l)

/-- A search from the margin: the list, what is seen; n cells are done, and k steps of the next one. -/
structure Bfs (X Y Z : Int) (l M : List D_A3) (n k : Nat) (ls sn : List D_A3) : Prop where
  srt : Srt sn
  ins : Ins X Y Z sn
  out : ∀ c ∈ sn, OutP X Y Z l c
  mem : ∀ c, c ∈ ls ↔ c ∈ M ∨ c ∈ sn
  done : ∀ i, i < n → ∀ c, ls[i]? = some c → ∀ d, nb c d → FreeC X Y Z l d → d ∈ sn
  part : ∀ c, ls[n]? = some c → ∀ j, j < k → FreeC X Y Z l (stp j c) → stp j c ∈ sn
  len : ls.length = M.length + sn.length

theorem Bfs.begin {X Y Z : Int} {l M : List D_A3} : Bfs X Y Z l M 0 0 M [] :=
  ⟨List.Pairwise.nil, (fun c h => by cases h), (fun c h => by cases h), (fun c => by simp), (fun i h => by omega), (fun c _ j h => by omega), (by simp)⟩

theorem Bfs.next {X Y Z : Int} {l M ls sn : List D_A3} {n : Nat} (h : Bfs X Y Z l M n 6 ls sn) : Bfs X Y Z l M (n + 1) 0 ls sn :=
  ⟨h.srt, h.ins, h.out, h.mem, fun i hi c hc d hd hf => by
    by_cases e : i = n
    · subst e
      obtain ⟨k, hk, rfl⟩ := hd
      exact h.part c hc k hk hf
    · exact h.done i (by omega) c hc d hd hf, fun c _ j hj => by omega, h.len⟩

theorem Bfs.pass {X Y Z : Int} {l M ls sn : List D_A3} {n k : Nat} (h : Bfs X Y Z l M n k ls sn) (hk : ∀ c, ls[n]? = some c → FreeC X Y Z l (stp k c) → stp k c ∈ sn) : Bfs X Y Z l M n (k + 1) ls sn :=
  ⟨h.srt, h.ins, h.out, h.mem, h.done, fun c hc j hj hf => by
    by_cases e : j = k
    · subst e; exact hk c hc hf
    · exact h.part c hc j (by omega) hf, h.len⟩

theorem Bfs.add {X Y Z : Int} {l M ls sn sn' : List D_A3} {n k : Nat} (hM : ∀ m ∈ M, within3 X Y Z m = false) (h : Bfs X Y Z l M n k ls sn) {c : D_A3} (hc : ls[n]? = some c) (hk : k < 6) (hf : FreeC X Y Z l (stp k c)) (hn : stp k c ∉ sn)
    (hs : Srt sn') (hm : ∀ x, x ∈ sn' ↔ x = stp k c ∨ x ∈ sn) : Bfs X Y Z l M n (k + 1) (ls ++ [stp k c]) sn' := by
  have hlt : n < ls.length := (List.getElem?_eq_some_iff.1 hc).1
  have hlen : sn'.length = sn.length + 1 := by
    have hp : sn'.Perm (stp k c :: sn) := by
      refine (List.perm_ext_iff_of_nodup hs.nodup (List.nodup_cons.2 ⟨hn, h.srt.nodup⟩)).2 fun x => ?_
      rw [hm, List.mem_cons]
    simpa using hp.length_eq
  refine ⟨hs, fun x hx => ?_, fun x hx => ?_, fun x => ?_, fun i hi c' hc' d hd hfd => ?_, fun c' hc' j hj hfj => ?_, ?_⟩
  · rcases (hm x).1 hx with rfl | hx
    · exact hf.1
    · exact h.ins x hx
  · rcases (hm x).1 hx with rfl | hx
    · have hcm : c ∈ ls := List.mem_of_getElem? hc
      rcases (h.mem c).1 hcm with hcM | hcs
      · exact .base ⟨hf, c, hM c hcM, k, hk, rfl⟩
      · exact .step (h.out c hcs) ⟨k, hk, rfl⟩ hf
    · exact h.out x hx
  · rw [List.mem_append, List.mem_singleton, h.mem, hm]
    constructor
    · rintro ((h1 | h1) | h1)
      · exact .inl h1
      · exact .inr (.inr h1)
      · exact .inr (.inl h1)
    · rintro (h1 | h1 | h1)
      · exact .inl (.inl h1)
      · exact .inr h1
      · exact .inl (.inr h1)
  · rw [List.getElem?_append_left (by omega)] at hc'
    exact (hm d).2 (.inr (h.done i hi c' hc' d hd hfd))
  · rw [List.getElem?_append_left hlt, hc] at hc'
    obtain rfl := Option.some.inj hc'
    by_cases e : j = k
    · subst e; exact (hm _).2 (.inl rfl)
    · exact (hm _).2 (.inr (h.part c hc j (by omega) hfj))
  · rw [List.length_append, List.length_singleton, h.len, hlen]
    omega

theorem Bfs.all {X Y Z : Int} {l M ls sn : List D_A3} (hM : ∀ m c, within3 X Y Z m = false → within3 X Y Z c = true → nb m c → m ∈ M) (h : Bfs X Y Z l M ls.length 0 ls sn) (c : D_A3) : c ∈ sn ↔ OutP X Y Z l c := by
  have key : ∀ m, m ∈ ls → ∀ d, nb m d → FreeC X Y Z l d → d ∈ sn := by
    intro m hm d hd hf
    obtain ⟨i, hi, e⟩ := List.getElem_of_mem hm
    exact h.done i hi m (by rw [List.getElem?_eq_getElem hi, e]) d hd hf
  refine ⟨h.out c, fun hc => Rch.of (r := fun c => c ∈ sn) (fun c hc => ?_) (fun c d hc hn hf => ?_) hc⟩
  · obtain ⟨hf, m, hm, hn⟩ := hc
    exact key m ((h.mem m).2 (.inl (hM m c hm hf.1 hn))) c hn hf
  · exact key c ((h.mem c).2 (.inr hc)) d hn hf

theorem srt_small64 {X Y Z : Int} (hs : sides X Y Z = true) {l : List D_A3} (hi : Ins X Y Z l) (hr : Srt l) : l.length ≤ 64 := by
  have h1 : l = bitCells X Y Z (mask Y Z l 0) := (listOf_mask hs hi hr).symm
  have h2 := listFrom_length Y Z (mask Y Z l 0) (X * Y * Z).toNat 0
  have h3 := size64 hs
  rw [h1]
  unfold bitCells
  omega

/-- A set by bits is a function. -/
def SetIs (X Y Z : Int) (v : BitVec 64) (g : D_A3 → Bool) : Prop := Low (X * Y * Z).toNat v ∧ ∀ c, within3 X Y Z c = true → v.getLsbD (idx Y Z c) = g c

theorem SetIs.ext {X Y Z : Int} (hs : sides X Y Z = true) {v w : BitVec 64} {g : D_A3 → Bool} (hv : SetIs X Y Z v g) (hw : SetIs X Y Z w g) : v = w :=
  box_ext hs hv.1 hw.1 fun c hc => by rw [hv.2 c hc, hw.2 c hc]

theorem setIs_mask {X Y Z : Int} (hs : sides X Y Z = true) {l : List D_A3} (hl : Ins X Y Z l) : SetIs X Y Z (mask Y Z l 0) (fun c => decide (c ∈ l)) := ⟨low_mask hs hl, fun _ hc => mask_mem hs hl hc⟩

theorem SetIs.cells {X Y Z : Int} (hs : sides X Y Z = true) {v : BitVec 64} {g : D_A3 → Bool} (hv : SetIs X Y Z v g) {l : List D_A3} (hr : Srt l) (hm : ∀ c, c ∈ l ↔ within3 X Y Z c = true ∧ g c = true) : bitCells X Y Z v = l :=
  srt_ext _ _ (srt_listOf hs v) hr fun c => by
    rw [mem_listOf hs, hm]
    constructor
    · rintro ⟨h1, h2⟩; rw [hv.2 c h1] at h2; exact ⟨h1, h2⟩
    · rintro ⟨h1, h2⟩; exact ⟨h1, by rw [hv.2 c h1]; exact h2⟩

theorem SetIs.bits {X Y Z : Int} {v : BitVec 64} {g : D_A3 → Bool} (hv : SetIs X Y Z v g) {q : List D_A3} (hi : Ins X Y Z q) (hg : ∀ c, within3 X Y Z c = true → g c = decide (c ∈ q)) : BitsOf X Y Z v q :=
  ⟨hi, fun c hc => by rw [hv.2 c hc, hg c hc]⟩
end Go.VI
