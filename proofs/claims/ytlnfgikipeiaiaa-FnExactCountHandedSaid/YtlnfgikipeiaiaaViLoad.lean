/- VI, part 9: loads. -/
import Derived.Test.YtlnfgikipeiaiaaViMem
namespace Go.VI
open Go.RowKit
def GlobOK (A : Fix) (X : Ctx) : Prop := ∀ w, A.G w → ∀ g p, look X.globals g = some p → ∃ us, RepI (fun _ => False) w p.1 p.2 us ∧ ∀ j u, us[j]? = some u → w.cell? ⟨g, j, none⟩ = some u
theorem inB_iff {i : Int} {n : Nat} : inB i n = true ↔ 0 ≤ i ∧ i.toNat < n := by
  simp only [inB, Bool.and_eq_true, decide_eq_true_eq]
  omega
theorem nth_get {t : Ty} {l : List t.den} {i : Int} (h : inB i l.length = true) : l[i.toNat]? = some (nth t l i) := by
  have := (inB_iff.1 h).2
  simp [nth, List.getD, List.getElem?_eq_getElem this]
section
variable {A : Fix} {X : Ctx} {γ : Gh} {Fr : Nat → Prop} {env : Env} {a : Act} {w w' : World} {vn : Nat}
theorem selCell_good (i : Int) : ∀ (n j : Nat) (cs : List Cell) (us : List Value) (sz : Nat) (c : Cell), selCell i j cs sz n = some c → RelCs A γ w Fr cs us → (j : Int) ≤ i → i < ((j + n : Nat) : Int) →
    ∃ u, us[(i.toNat - j) * sz]? = some u ∧ GoodR A γ w Fr c u
  | 0, j, cs, us, sz, c, h, hr, h1, h2 => by omega
  | n + 1, j, [], us, sz, c, h, hr, h1, h2 => by simp [selCell] at h
  | 1, j, c0 :: cs, us, sz, c, h, hr, h1, h2 => by
    simp only [selCell, Option.some.injEq] at h
    subst h
    obtain ⟨u, us', rfl, hg, _⟩ := hr
    exact ⟨u, by have : i.toNat - j = 0 := by omega
                 simp [this], hg⟩
  | n + 2, j, c0 :: cs, us, sz, c, h, hr, h1, h2 => by
    have hd := hr.drop sz
    obtain ⟨u, us', hus, hg, _⟩ := id hr
    simp only [selCell] at h
    have rest : ∀ c', selCell i (j + 1) ((c0 :: cs).drop sz) sz (n + 1) = some c' → i ≠ (j : Int) → ∃ u', us[(i.toNat - j) * sz]? = some u' ∧ GoodR A γ w Fr c' u' := by
      intro c' hc' hne
      obtain ⟨u', hu', hg'⟩ := selCell_good i (n + 1) (j + 1) _ _ sz c' hc' hd (by omega) (by omega)
      refine ⟨u', ?_, hg'⟩
      rw [List.getElem?_drop] at hu'
      rw [← hu']
      congr 1
      have : i.toNat - j = (i.toNat - (j + 1)) + 1 := by omega
      rw [this, Nat.succ_mul]; omega
    have here : i = (j : Int) → us[(i.toNat - j) * sz]? = some u := by
      intro he
      have : i.toNat - j = 0 := by omega
      rw [this, hus]; simp
    split at h
    · rename_i k x k' y hsel
      split at h
      · rename_i hk
        subst hk
        injection h with h
        subst h
        by_cases he : i = (j : Int)
        · refine ⟨u, here he, ?_⟩
          simp only [he, decide_true, cond_true]
          exact hg
        · obtain ⟨u', hu', hg'⟩ := rest _ hsel he
          refine ⟨u', hu', ?_⟩
          simp only [he, decide_false, cond_false]
          exact hg'
      · cases h
    · rename_i x y hsel
      injection h with h
      subst h
      by_cases he : i = (j : Int)
      · refine ⟨u, here he, ?_⟩
        simp only [he, decide_true, cond_true]
        exact hg
      · obtain ⟨u', hu', hg'⟩ := rest _ hsel he
        refine ⟨u', hu', ?_⟩
        simp only [he, decide_false, cond_false]
        exact hg'
    · rename_i x y hsel
      injection h with h
      subst h
      by_cases he : i = (j : Int)
      · refine ⟨u, here he, ?_⟩
        simp only [he, decide_true, cond_true]
        exact hg
      · obtain ⟨u', hu', hg'⟩ := rest _ hsel he
        refine ⟨u', hu', ?_⟩
        simp only [he, decide_false, cond_false]
        exact hg'
    · cases h
theorem selCells_good (i : Int) (cs : List Cell) (us : List Value) (n sz : Nat) (hr : RelCs A γ w Fr cs us) (hi : inB i n = true) : ∀ (m d : Nat) (cs' : List Cell), selCells i cs n sz d m = some cs' →
    ∃ us', RelCs A γ w Fr cs' us' ∧ us'.length = m ∧ ∀ (j : Nat) (u : Value), us'[j]? = some u → us[i.toNat * sz + (d + j)]? = some u
  | 0, d, cs', h => by
    simp [selCells] at h
    subst h
    exact ⟨[], rfl, rfl, by simp⟩
  | m + 1, d, cs', h => by
    simp only [selCells] at h
    split at h
    · rename_i c hc
      simp only [Option.map_eq_some_iff] at h
      obtain ⟨r, h1, rfl⟩ := h
      obtain ⟨us', k1, k2, k3⟩ := selCells_good i cs us n sz hr hi m (d + 1) r h1
      obtain ⟨h0, h2⟩ := inB_iff.1 hi
      obtain ⟨u, hu, hg⟩ := selCell_good i n 0 (cs.drop d) (us.drop d) sz c hc (hr.drop d) (by omega) (by omega)
      rw [List.getElem?_drop] at hu
      refine ⟨u :: us', ⟨u, us', rfl, hg, k1⟩, by simp [k2], fun j u' hj => ?_⟩
      cases j with
      | zero =>
        simp at hj
        subst hj
        rw [← hu]; congr 1; simp; omega
      | succ j =>
        have := k3 j u' (by simpa using hj)
        rw [← this]; congr 1; omega
    · cases h
theorem Core.boxCells (h : Core A X γ Fr env a w) {b bv : Nat} {fz : Bool} {cs0 : List Cell} (hb : env.get (.box b) = .box bv fz cs0) (off : Nat) :
    RelCs A γ w Fr (VI.readCells (.box b) 0 off (cs0.drop off)) ((cellVals γ (.box b) 0 cs0.length).drop off) ∧
    ∀ j u, (cellVals γ (.box b) 0 cs0.length)[j]? = some u → w.cell? ⟨γ.σ b bv, j, none⟩ = some u := by
  constructor
  · have := h.readCells (.box b) 0 off (cs0.drop off) (fun k c hk => by
      rw [List.getElem?_drop] at hk
      show (env.get (.box b)).cell? 0 (off + k) = some c
      rw [hb]; exact hk)
    have e : (cellVals γ (.box b) 0 cs0.length).drop off = (List.range (cs0.drop off).length).map fun k => γ.φ ⟨.box b, 0, off + k⟩ := by
      apply List.ext_getElem?
      intro k
      simp only [cellVals, List.getElem?_drop, List.getElem?_map, List.length_drop]
      by_cases hk : off + k < cs0.length
      · simp [List.getElem?_range hk, List.getElem?_range (show k < cs0.length - off by omega)]
      · rw [List.getElem?_eq_none (by simp; omega), List.getElem?_eq_none (by simp; omega)]
        rfl
    rw [e]; exact this
  · intro j u hu
    obtain ⟨⟨T, hg⟩, _⟩ := h.box b bv fz cs0 hb
    rw [cell_of_row w _ j _ T (0, 0) hg]
    simpa using hu
theorem cellsAt_sound (h : Core A X γ Fr env a w) (hgl : GlobOK A X) {n : Nat} {c : Cell} {v : Value} {cs : List Cell} {lg lg' : List Slot} (hg : GoodR A γ w Fr c v)
    (he : (cellsAt X n c).eval env.get lg = some (cs, lg')) :
    ∃ ad us, v = .pointer (some ad) ∧ RelCs A γ w Fr cs us ∧ us.length = n ∧ ∀ j u, us[j]? = some u → w.cell? (ad.add j) = some u := by
  have take : ∀ (cs0 cs' : List Cell) (us0 : List Value) (ad : Addr) (off : Nat), RelCs A γ w Fr cs0 us0 → VI.takeN n (cs0.drop off) = some cs' → (∀ j u, us0[j]? = some u → w.cell? (ad.add j) = some u) →
      ∃ us, RelCs A γ w Fr cs' us ∧ us.length = n ∧ ∀ j u, us[j]? = some u → w.cell? ((ad.add off).add j) = some u := by
    intro cs0 cs' us0 ad off hr ht hc
    obtain ⟨e1, e2⟩ := takeN_eq ht
    have hr' := (hr.drop off).takeN ht
    refine ⟨_, hr', by rw [hr'.length, e1, List.length_take]; exact Nat.min_eq_left e2, fun j u hj => ?_⟩
    rw [add_add]
    refine hc _ u ?_
    rw [List.getElem?_take] at hj
    split at hj
    · rwa [List.getElem?_drop] at hj
    · cases hj
  cases c with
  | addr b bv off =>
    simp only [cellsAt, Rd.eval_bind, Option.bind_eq_some_iff, Rd.eval_ofOpt, Option.map_eq_some_iff] at he
    obtain ⟨⟨⟨fz, cs0⟩, l1⟩, h1, _, ⟨cs', h2, rfl⟩, h3⟩ := he
    simp only [Rd.eval, Option.some.injEq, Prod.mk.injEq] at h3
    obtain ⟨rfl, _⟩ := h3
    have hb := boxAt_eval h1
    obtain ⟨k1, k2⟩ := h.boxCells hb off
    obtain ⟨e1, e2⟩ := takeN_eq h2
    have hr := h.readCells (.box b) 0 off cs' (fun k c hk => by
      show (env.get (.box b)).cell? 0 (off + k) = some c
      rw [hb]
      rw [e1, List.getElem?_take] at hk
      split at hk
      · rwa [List.getElem?_drop] at hk
      · cases hk)
    refine ⟨⟨γ.σ b bv, off, none⟩, _, hg.1, hr, by rw [List.length_map, List.length_range, e1, List.length_take]; exact Nat.min_eq_left e2, fun j u hj => ?_⟩
    rw [add_plain]
    refine k2 _ u ?_
    rw [List.getElem?_map, Option.map_eq_some_iff] at hj
    obtain ⟨j', hj', rfl⟩ := hj
    have hlt : j < cs'.length := by
      rcases Nat.lt_or_ge j cs'.length with hh | hh
      · exact hh
      · rw [List.getElem?_eq_none (by simpa using hh)] at hj'; cases hj'
    rw [List.getElem?_range hlt] at hj'
    injection hj' with hj'
    subst hj'
    rw [cellVals_get]
    rw [e1] at hlt
    simp only [List.length_take, List.length_drop] at hlt
    dsimp only at hlt ⊢
    omega
  | addrI b bv off m sz i =>
    simp only [cellsAt, Rd.eval_bind, Option.bind_eq_some_iff, Rd.eval_ofOpt, Option.map_eq_some_iff] at he
    obtain ⟨⟨⟨fz, cs0⟩, l1⟩, h1, cs', h2, h3⟩ := he
    simp only [Prod.mk.injEq] at h3
    obtain ⟨rfl, _⟩ := h3
    have hb := boxAt_eval h1
    obtain ⟨k1, k2⟩ := h.boxCells hb off
    obtain ⟨hin, hv⟩ := hg.1
    obtain ⟨us', r1, r2, r3⟩ := selCells_good i _ _ m sz k1 hin n 0 cs' h2
    refine ⟨_, us', hv, r1, r2, fun j u hj => ?_⟩
    have := r3 j u hj
    rw [add_plain]
    refine k2 _ u ?_
    rw [List.getElem?_drop] at this
    rw [← this]; congr 1; omega
  | gptr g off =>
    simp only [cellsAt, global, Rd.eval_bind, Option.bind_eq_some_iff, Rd.eval_ofOpt, Option.map_eq_some_iff] at he
    obtain ⟨⟨cs0, l1⟩, ⟨_, ⟨p, h1, rfl⟩, h1'⟩, cs', h2, h3⟩ := he
    simp only [Rd.eval, Option.some.injEq, Prod.mk.injEq] at h1' h3
    obtain ⟨rfl, _⟩ := h1'
    obtain ⟨rfl, _⟩ := h3
    obtain ⟨us0, hr0, hc0⟩ := hgl w h.glob g p h1
    obtain ⟨us, r1, r2, r3⟩ := take _ cs' us0 ⟨g, 0, none⟩ off (explode_rel p.1 p.2 us0 (RepI.mono (fun _ hf => hf.elim) (fun _ hf => hf.elim) _ _ _ hr0)) h2 (fun j u hj => by rw [add_plain, Nat.zero_add]; exact hc0 j u hj)
    refine ⟨⟨g, off, none⟩, us, hg.1, r1, r2, fun j u hj => ?_⟩
    have := r3 j u hj
    rwa [add_plain, Nat.zero_add] at this
  | gptrI g off m sz i =>
    simp only [cellsAt, global, Rd.eval_bind, Option.bind_eq_some_iff, Rd.eval_ofOpt, Option.map_eq_some_iff] at he
    obtain ⟨⟨cs0, l1⟩, ⟨_, ⟨p, h1, rfl⟩, h1'⟩, cs', h2, h3⟩ := he
    simp only [Rd.eval, Option.some.injEq, Prod.mk.injEq] at h1' h3
    obtain ⟨rfl, _⟩ := h1'
    obtain ⟨rfl, _⟩ := h3
    obtain ⟨us0, hr0, hc0⟩ := hgl w h.glob g p h1
    obtain ⟨hin, hv⟩ := hg.1
    have hr1 : RelCs A γ w Fr (explode p.1 p.2) us0 := explode_rel p.1 p.2 us0 (RepI.mono (fun _ hf => hf.elim) (fun _ hf => hf.elim) _ _ _ hr0)
    obtain ⟨us', r1, r2, r3⟩ := selCells_good i _ _ m sz (hr1.drop off) hin n 0 cs' h2
    refine ⟨_, us', hv, r1, r2, fun j u hj => ?_⟩
    have := r3 j u hj
    rw [add_plain]
    refine hc0 _ u ?_
    rw [List.getElem?_drop] at this
    rw [← this]; congr 1; omega
  | iptr t x off =>
    simp only [cellsAt, Rd.eval_ofOpt, Option.map_eq_some_iff, Prod.mk.injEq] at he
    obtain ⟨cs', h2, rfl, _⟩ := he
    obtain ⟨ad, us0, hv, hz, hr0, hc0⟩ := hg.1
    obtain ⟨us, r1, r2, r3⟩ := take _ cs' us0 ad off (explode_rel t x us0 hr0) h2 hc0
    exact ⟨_, us, hv, r1, r2, r3⟩
  | iptrI t x off m sz i =>
    simp only [cellsAt, Rd.eval_ofOpt, Option.map_eq_some_iff, Prod.mk.injEq] at he
    obtain ⟨cs', h2, rfl, _⟩ := he
    obtain ⟨hin, ad, us0, hv, hz, hr0, hc0⟩ := hg.1
    have hr1 : RelCs A γ w Fr (explode t x) us0 := explode_rel t x us0 hr0
    obtain ⟨us', r1, r2, r3⟩ := selCells_good i _ _ m sz (hr1.drop off) hin n 0 cs' h2
    refine ⟨_, us', hv, r1, r2, fun j u hj => ?_⟩
    have := r3 j u hj
    rw [add_add]
    refine hc0 _ u ?_
    rw [List.getElem?_drop] at this
    rw [← this]; congr 1; omega
  | eview x ver sz i off =>
    simp only [cellsAt, Rd.eval_bind, Option.bind_eq_some_iff] at he
    obtain ⟨⟨⟨e, t, l⟩, l1⟩, h1, h2⟩ := he
    have hx := ownerAt_eval h1
    simp only at h2 hx
    cases hs : Nat.beq sz t.size with
    | false => rw [hs] at h2; simp [Rd.eval] at h2
    | true =>
      have hs' : sz = t.size := Nat.eq_of_beq_eq_true hs
      rw [hs] at h2
      simp only [cond_true, Rd.eval_ofOpt, Option.map_eq_some_iff, Prod.mk.injEq] at h2
      obtain ⟨cs', h2, rfl, _⟩ := h2
      obtain ⟨g, m, c, hψ, hin, hv⟩ := hg.1
      have hφ : γ.φ x = .slice (some ⟨g, 0, none⟩) m c := by rw [← (h.own x e t ver l hx).1]; exact hψ
      have hown := (h.cell x _ hx).1
      rw [hφ] at hown
      obtain ⟨_, xs, ho, hrs⟩ := hown
      have hm : m = l.length := by
        rcases ho.2 with ⟨hn, _⟩ | ⟨g', cap, cur, fz', hh, _⟩
        · cases hn
        · injection hh with h1 h2 h3
      rw [hm] at hin
      obtain ⟨us0, hr0, hc0⟩ := hrs.at l xs i.toNat _ (nth_get hin)
      obtain ⟨us, r1, r2, r3⟩ := take _ cs' us0 ⟨g, i.toNat * t.size, none⟩ off (explode_rel t _ us0 hr0) h2 (fun j u hj => by
        have := ho.cells (g := g) (by simp [Value.ownBlock]) _ _ (hc0 j u hj)
        rw [add_plain] at this ⊢
        rwa [Nat.zero_add] at this)
      refine ⟨_, us, hv, r1, r2, fun j u hj => ?_⟩
      have := r3 j u hj
      rw [add_plain] at this
      rw [hs']; exact this
  | eimm t l i off =>
    simp only [cellsAt, Rd.eval_ofOpt, Option.map_eq_some_iff, Prod.mk.injEq] at he
    obtain ⟨cs', h2, rfl, _⟩ := he
    obtain ⟨hin, ad, c, hrow, hv⟩ := hg.1
    obtain ⟨B, c', hB, _, hel⟩ := hrow
    simp only [List.cons.injEq, Value.slice.injEq, and_true] at hB
    obtain ⟨a', ha', hz, us0, hr0, hc0⟩ := hel i.toNat _ (nth_get hin)
    rw [← hB.1] at ha'
    injection ha' with ha'
    subst ha'
    obtain ⟨us, r1, r2, r3⟩ := take _ cs' us0 (ad.add (i.toNat * t.size)) off (explode_rel t _ us0 hr0) h2 (fun j u hj => by rw [add_add]; exact hc0 j u hj)
    refine ⟨_, us, hv, r1, r2, fun j u hj => ?_⟩
    have := r3 j u hj
    rwa [add_add ad] at this
  | eviewI x ver sz i off m sz2 j =>
    simp only [cellsAt, Rd.eval_bind, Option.bind_eq_some_iff] at he
    obtain ⟨⟨⟨e, t, l⟩, l1⟩, h1, h2⟩ := he
    have hx := ownerAt_eval h1
    simp only at h2 hx
    cases hs : Nat.beq sz t.size with
    | false => rw [hs] at h2; simp [Rd.eval] at h2
    | true =>
      have hs' : sz = t.size := Nat.eq_of_beq_eq_true hs
      rw [hs] at h2
      simp only [cond_true, Rd.eval_ofOpt, Option.map_eq_some_iff, Prod.mk.injEq] at h2
      obtain ⟨cs', h2, rfl, _⟩ := h2
      obtain ⟨g, m', c, hψ, hin, hinj, hv⟩ := hg.1
      have hφ : γ.φ x = .slice (some ⟨g, 0, none⟩) m' c := by rw [← (h.own x e t ver l hx).1]; exact hψ
      have hown := (h.cell x _ hx).1
      rw [hφ] at hown
      obtain ⟨_, xs, ho, hrs⟩ := hown
      have hm : m' = l.length := by
        rcases ho.2 with ⟨hn, _⟩ | ⟨g', cap, cur, fz', hh, _⟩
        · cases hn
        · injection hh with h1 h2 h3
      rw [hm] at hin
      obtain ⟨us0, hr0, hc0⟩ := hrs.at l xs i.toNat _ (nth_get hin)
      have hr1 : RelCs A γ w Fr (explode t (nth t l i)) us0 := explode_rel t _ us0 hr0
      obtain ⟨us', r1, r2, r3⟩ := selCells_good j _ _ m sz2 (hr1.drop off) hinj n 0 cs' h2
      refine ⟨_, us', hv, r1, r2, fun k u hk => ?_⟩
      have h4 := r3 k u hk
      rw [List.getElem?_drop] at h4
      have h5 := ho.cells (g := g) (by simp [Value.ownBlock]) _ _ (hc0 _ u h4)
      rw [add_plain, Nat.zero_add] at h5
      rw [add_plain, hs', ← h5]
      congr 2; omega
  | eimmI t l i off m sz2 j =>
    simp only [cellsAt, Rd.eval_ofOpt, Option.map_eq_some_iff, Prod.mk.injEq] at he
    obtain ⟨cs', h2, rfl, _⟩ := he
    obtain ⟨hin, hinj, ad, c, hrow, hv⟩ := hg.1
    obtain ⟨B, c', hB, _, hel⟩ := hrow
    simp only [List.cons.injEq, Value.slice.injEq, and_true] at hB
    obtain ⟨a', ha', hz, us0, hr0, hc0⟩ := hel i.toNat _ (nth_get hin)
    rw [← hB.1] at ha'
    injection ha' with ha'
    subst ha'
    have hr1 : RelCs A γ w Fr (explode t (nth t l i)) us0 := explode_rel t _ us0 hr0
    obtain ⟨us', r1, r2, r3⟩ := selCells_good j _ _ m sz2 (hr1.drop off) hinj n 0 cs' h2
    refine ⟨_, us', hv, r1, r2, fun k u hk => ?_⟩
    have h4 := r3 k u hk
    rw [List.getElem?_drop] at h4
    have h5 := hc0 _ u h4
    rw [add_add, ← h5]
    congr 2; omega
  | undef => simp [cellsAt, Rd.eval] at he
  | int k n => simp [cellsAt, Rd.eval] at he
  | bool b => simp [cellsAt, Rd.eval] at he
  | str s => simp [cellsAt, Rd.eval] at he
  | own e t v l => simp [cellsAt, Rd.eval] at he
  | nil e t => simp [cellsAt, Rd.eval] at he
  | imm t l p => simp [cellsAt, Rd.eval] at he
  | view x v => simp [cellsAt, Rd.eval] at he
  | sub x v s lo hi => simp [cellsAt, Rd.eval] at he
  | barr b bv o n t => simp [cellsAt, Rd.eval] at he
  | func f => simp [cellsAt, Rd.eval] at he
  | clo as rs F => simp [cellsAt, Rd.eval] at he
theorem op_load {o : Oper} {us : List Upd} {lg : List Slot} (h : Core A X γ Fr env a w) (hgl : GlobOK A X) (hty : TyOK A.P X) (hd : dstOk X o) {T : TypeId} {x : Operand} (ho : o.op = .load T x)
    (he : (opRd X vn o).eval env.get [] = some (us, lg)) : OpOK A X Fr o us env a w := by
  simp only [opRd, ho, Rd.eval_bind, Option.bind_eq_some_iff, Ctx.ti, Rd.eval_ofOpt, Option.map_eq_some_iff] at he
  obtain ⟨_, ⟨ti, h1, rfl⟩, ⟨c, l1⟩, h2, ⟨cs, l2⟩, h3, h4⟩ := he
  simp only [Rd.eval, Option.some.injEq, Prod.mk.injEq] at h4
  obtain ⟨rfl, _⟩ := h4
  have ht := hty T ti h1
  obtain ⟨ad, vs, hv, hr, hl, hc⟩ := cellsAt_sound h hgl (rdCell_sound h h2) h3
  have hrun : (execOp a.eval o).run A.P w = .ok (.value (mkVal ti.agg vs)) w := by
    simp only [execOp, ho, Instr.loadAt, Instr.sureAddr, hv, Sem.run_bind, Sem.run_pure, Result.andThen_ok, run_loadVar_at ht hl hc]
  exact OpOK.value hrun (h.put hd (av := .val ti.agg cs) ⟨vs, rfl, fun hg => by rw [← hr.length, hl]; exact ht.one hg, hr⟩ (.inl ⟨_, _, rfl⟩))
end
end Go.VI
