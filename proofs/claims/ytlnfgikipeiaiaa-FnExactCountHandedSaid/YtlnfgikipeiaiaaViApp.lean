/- VI, part 18: append. -/
import Derived.Test.YtlnfgikipeiaiaaViBuild
import Derived.Deep.Upon
namespace Go.VI
open Go.RowKit
section
variable {P : Program} (w : World)
theorem run_append_room_row (t tx ty e : TypeId) (i : TypeInfo) (ht : P.underlying t = some (.slice e)) (hi : P.info? e = some i)
    (g sLen sCap : Nat) (cur : Array Value) (hg : w.heap[g]? = some (.cells cur e (0, 0))) (x : Value) (n : Nat) (news : List Value) (hs : Go.Src P i.size tx x n news w)
    (hroom : sLen + n ≤ sCap) (hfit : sLen * i.size + news.length ≤ cur.size) :
    (Builtin.append_ #[t, tx] ty #[.slice (some ⟨g, 0, none⟩) sLen sCap, x]).run P w =
      .ok (.slice (some ⟨g, 0, none⟩) (sLen + n) sCap) (w.setRow g (cur.toList.take (sLen * i.size) ++ news ++ cur.toList.drop (sLen * i.size + news.length)).toArray) := by
  have hst := run_storeCells_at P g (sLen * i.size) e news 0 cur w hg (by simpa using hfit) hs.one
  simp only [Nat.add_zero] at hst
  rcases hs.kind with ⟨e', hk⟩ | hk <;> simp [Builtin.append_, run_underlying ht, run_underlying hk, sizeOf, typeInfo, hi, hs.len, hroom, hs.cells, Addr.add_lit, hst]
theorem run_append_own_src (base : Nat) (t tx ty e : TypeId) (i : TypeInfo) (z : Value) (size bytes : Nat) (ht : P.underlying t = some (.slice e)) (hi : P.info? e = some i) (hz : i.zero = some z)
    (hsize : i.size = size) (hby : i.bytes = bytes) (hzs : z.cells.size = size)
    (v : Value) (n : Nat) (xs : List Value) (hown : w.ownsRow base e size v n xs)
    (x : Value) (m : Nat) (news : List Value) (hs : Go.Src P size tx x m news w)
    (h63 : n + m ≤ maxLen) (hbytes : (n + m) * bytes ≤ 140737488355328) (hbase : base ≤ w.heap.size) :
    ∃ v' w', (Builtin.append_ #[t, tx] ty #[v, x]).run P w = .ok v' w' ∧ w'.ownsRow base e size v' (n + m) (xs ++ news) ∧ GrownD w w' v.ownBlock ∧
      (v'.ownBlock = v.ownBlock ∨ v'.ownBlock = some w.heap.size) := by
  subst hsize
  subst hby
  have hl := hs.newsLen
  have hsmall : n + m ≤ 9223372036854775807 := by simp only [maxLen] at h63; omega
  have hlen : (xs ++ news).length = (n + m) * i.size := by rw [List.length_append, hown.1, hl, Nat.add_mul]
  have grown : ∀ (old : Nat), old < n + m → ∀ (row : Option Nat),
      (w.drew.alloc (.cells ((xs ++ news).toArray ++ Builtin.zeroCells z.cells (grownCap w (n + m) old e - (n + m))) e)).ownsRow base e i.size
        (.slice (some ⟨w.heap.size, 0, none⟩) (n + m) (grownCap w (n + m) old e)) (n + m) (xs ++ news) ∧
      GrownD w (w.drew.alloc (.cells ((xs ++ news).toArray ++ Builtin.zeroCells z.cells (grownCap w (n + m) old e - (n + m))) e)) row := by
    intro old ho row
    have hge := grownCap_ge w (n + m) old e
    have hcm : grownCap w (n + m) old e ≤ maxLen := grownCap_le_maxLen w (n + m) old e h63
    refine ⟨⟨hlen, .inr ⟨w.heap.size, _, _, rfl, hbase, heap_alloc_new w.drew _, hge, hcm, ?_, ?_⟩⟩, ⟨rfl, rfl, rfl, by simp, fun k hk _ => heap_alloc_old w.drew _ k hk, Nat.le_succ _⟩⟩
    · rw [Array.size_append, List.size_toArray, size_zeroCells, hlen, hzs, ← Nat.add_mul]
      congr 1
      omega
    · rw [Array.toList_append, ← hlen]
      exact List.take_left
  rcases hown.2 with ⟨rfl, rfl⟩ | ⟨g, cap, cur, rfl, hbg, hg, hnc, hcm, hcs, htake⟩
  · have hx : xs = [] := List.eq_nil_of_length_eq_zero (by simpa using hown.1)
    subst hx
    by_cases hm : m = 0
    · subst hm
      have hn : news = [] := List.eq_nil_of_length_eq_zero (by simpa using hl)
      subst hn
      exact ⟨.slice none 0 0, w, run_append_nothing w t tx ty e i ht hi none 0 0 (Nat.le_refl _) x hs, World.ownsRow_nil w base e i.size, ⟨rfl, rfl, rfl, Nat.le_refl _, fun _ _ _ => rfl, Nat.le_refl _⟩, Or.inl rfl⟩
    · have hr := run_append_grow_src (P := P) w t tx ty e i z ht hi hz none 0 0 [] (run_firstCells_none w.drew i.size 0 0 0) x m news hs (by omega) (by omega) (growslice_fits (by omega) hbytes)
      have hgr := grown 0 (by omega) (Value.ownBlock (.slice none 0 0))
      exact ⟨_, _, hr, hgr.1, hgr.2, Or.inr rfl⟩
  · by_cases hroom : n + m ≤ cap
    · have hfit : n * i.size + news.length ≤ cur.size := by rw [hl, hcs, ← Nat.add_mul]; exact Nat.mul_le_mul_right _ hroom
      have hr := run_append_room_row (P := P) w t tx ty e i ht hi g n cap cur hg x m news hs hroom hfit
      refine ⟨_, _, hr, ⟨hlen, .inr ⟨g, cap, _, rfl, hbg, setRow_heap w g cur _ e _ hg, hroom, hcm, ?_, ?_⟩⟩, ⟨rfl, rfl, rfl, by simp, fun k _ hk => setRow_other w g k _ (fun e => hk (by simp [Value.ownBlock, e])), Nat.le_refl _⟩, Or.inl rfl⟩
      · simp only [List.size_toArray, List.length_append, List.length_take, List.length_drop, Array.length_toList]
        omega
      · rw [htake, ← hlen]
        exact List.take_left
    · have holds : ∀ j u, xs[j]? = some u → w.cell? ((⟨g, 0, none⟩ : Addr).add j) = some u := hown.cells (g := g) rfl
      have hr := run_append_grow_src (P := P) w t tx ty e i z ht hi hz (some ⟨g, 0, none⟩) n cap xs (run_firstCells_some w.drew i.size n ⟨g, 0, none⟩ n cap xs hown.1 (by simpa using holds)) x m news hs (by omega) (by omega) (growslice_fits (by omega) hbytes)
      have hgr := grown cap (by omega) (Value.ownBlock (.slice (some ⟨g, 0, none⟩) n cap))
      exact ⟨_, _, hr, hgr.1, hgr.2, Or.inr rfl⟩
end
section
variable {A : Fix} {X : Ctx} {γ : Gh} {Fr : Nat → Prop} {env : Env} {a : Act} {w w' : World} {vn : Nat} {o : Oper} {us : List Upd} {lg : List Slot}
def Elems (Z : Nat → Prop) (w : World) (t : Ty) (l : List t.den) (v : Value) : Prop :=
  ∃ B c, v = .slice B l.length c ∧ l.length ≤ c ∧ ∀ i x, l[i]? = some x → ∃ ad, B = some ad ∧ ∃ xs, RepI Z w t x xs ∧ ∀ j u, xs[j]? = some u → w.cell? (ad.add (i * t.size + j)) = some u
theorem Elems.cutE {Z : Nat → Prop} {t : Ty} {l : List t.den} {B : Option Addr} {n c : Nat} (h : Elems Z w t l (.slice B n c)) {lo hi : Int} (h0 : 0 ≤ lo) (h1 : lo ≤ hi) (h2 : hi ≤ (n : Int)) :
    Elems Z w t (cut l lo hi) (.slice (if c = lo.toNat then B else B.map (·.add (lo.toNat * t.size))) (hi.toNat - lo.toNat) (c - lo.toNat)) := by
  obtain ⟨B', c', hB, hlc, hel⟩ := h
  injection hB with hB1 hB2 hB3
  subst hB1; subst hB2; subst hB3
  have hl : (cut l lo hi).length = hi.toNat - lo.toNat := by simp [cut]; omega
  refine ⟨_, _, by rw [hl], by rw [hl]; omega, fun i x hx => ?_⟩
  have hi' : i < hi.toNat - lo.toNat := by rw [← hl]; exact (List.getElem?_eq_some_iff.1 hx).1
  have hx' : l[lo.toNat + i]? = some x := by
    simp only [cut, List.getElem?_drop, List.getElem?_take] at hx
    rwa [if_pos (by omega)] at hx
  obtain ⟨ad, rfl, xs, hr, hc⟩ := hel _ _ hx'
  have hne : ¬ (c = lo.toNat) := by omega
  refine ⟨ad.add (lo.toNat * t.size), by simp [hne], xs, hr, fun j v hv => ?_⟩
  rw [add_add, ← hc j v hv]
  congr 2
  rw [Nat.add_mul]; omega
theorem Elems.ofI {Z : Nat → Prop} {t : Ty} {l : List t.den} {v : Value} (h : RepI Z w (.sl t) l [v]) : Elems Z w t l v := by
  obtain ⟨B, c, hB, hlc, hel⟩ := h
  simp only [List.cons.injEq, and_true] at hB
  exact ⟨B, c, hB, hlc, fun i x hx => let ⟨ad, h1, _, xs, h2, h3⟩ := hel i x hx; ⟨ad, h1, xs, h2, h3⟩⟩
theorem Elems.ofOwn {Z : Nat → Prop} {B : Nat} {e : TypeId} {t : Ty} {l : List t.den} {v : Value} (h : OwnV Z w B e t v l) : Elems Z w t l v := by
  obtain ⟨h0, xs, ho, hr⟩ := h
  rcases ho.2 with ⟨rfl, hn⟩ | ⟨g, cap, cur, fz, rfl, hb, hg, _, hnc, hcm, hcs, htake⟩
  · refine ⟨none, 0, by rw [hn], by rw [hn]; exact Nat.le_refl _, fun i x hx => ?_⟩
    have : l = [] := List.eq_nil_of_length_eq_zero hn
    subst this
    simp at hx
  · refine ⟨some ⟨g, 0, none⟩, cap, rfl, hnc, fun i x hx => ?_⟩
    obtain ⟨ys, hy, hc⟩ := RepsL.at l xs hr i x hx
    refine ⟨_, rfl, ys, hy, fun j u hu => ?_⟩
    have hx2 := hc j u hu
    rw [add_plain, cell_of_row w g _ cur e fz hg]
    rw [← htake, List.getElem?_take] at hx2
    split at hx2
    · simpa using hx2
    · cases hx2
theorem Elems.news {Z : Nat → Prop} {t : Ty} : ∀ (l : List t.den) (ad : Addr), (∀ i x, l[i]? = some x → ∃ xs, RepI Z w t x xs ∧ ∀ j u, xs[j]? = some u → w.cell? (ad.add (i * t.size + j)) = some u) →
    ∃ news, RepsL Z w t l news ∧ ∀ j u, news[j]? = some u → w.cell? (ad.add j) = some u
  | [], ad, _ => ⟨[], rfl, by simp⟩
  | x :: r, ad, h => by
    obtain ⟨xs, h1, h2⟩ := h 0 x rfl
    obtain ⟨news, k1, k2⟩ := Elems.news r (ad.add t.size) (fun i y hy => by
      obtain ⟨ys, g1, g2⟩ := h (i + 1) y (by simpa using hy)
      refine ⟨ys, g1, fun j u hu => ?_⟩
      rw [add_add, ← g2 j u hu]
      congr 2
      rw [Nat.succ_mul]; omega)
    have hl := RepI.length _ _ _ h1
    refine ⟨xs ++ news, ⟨xs, news, rfl, h1, k1⟩, fun j u hu => ?_⟩
    by_cases hj : j < xs.length
    · rw [List.getElem?_append_left hj] at hu
      have := h2 j u hu
      simpa using this
    · rw [List.getElem?_append_right (by omega)] at hu
      have := k2 _ u hu
      rw [add_add] at this
      rwa [show t.size + (j - xs.length) = j by omega] at this
theorem listOf_elems (h : Core A X γ Fr env a w) {c : Cell} {v : Value} (hg : GoodR A γ w Fr c v) {p : Σ t : Ty, List t.den} {l0 l1 : List Slot} (hs : (listOf c).eval env.get l0 = some (p, l1)) : Elems γ.Z w p.1 p.2 v := by
  cases c with
  | imm t l par =>
    simp only [listOf, Rd.eval, Option.some.injEq, Prod.mk.injEq] at hs
    obtain ⟨rfl, _⟩ := hs
    exact Elems.ofI hg.1.1
  | nil e t =>
    simp only [listOf, Rd.eval, Option.some.injEq, Prod.mk.injEq] at hs
    obtain ⟨rfl, _⟩ := hs
    exact ⟨none, 0, hg.1, Nat.le_refl _, fun i x hx => by simp at hx⟩
  | view x ver =>
    simp only [listOf, Rd.eval_bind, Option.bind_eq_some_iff] at hs
    obtain ⟨⟨⟨e, t, l⟩, l2⟩, h1, h2⟩ := hs
    simp only [Rd.eval, Option.some.injEq, Prod.mk.injEq] at h2
    obtain ⟨rfl, _⟩ := h2
    have hx := ownerAt_eval h1
    rw [hg.1.trans (h.own x e t ver l hx).1]
    exact Elems.ofOwn (h.cell x _ hx).1
  | sub x ver sz lo hi =>
    simp only [listOf, Rd.eval_bind, Option.bind_eq_some_iff] at hs
    obtain ⟨⟨⟨e, t, l⟩, l2⟩, h1, h2⟩ := hs
    simp only at h2
    cases hsz : Nat.beq sz t.size with
    | false => rw [hsz] at h2; simp [Rd.eval] at h2
    | true =>
      rw [hsz] at h2
      have hsz := Nat.eq_of_beq_eq_true hsz
      subst hsz
      simp only [cond_true, Rd.eval, Option.some.injEq, Prod.mk.injEq] at h2
      obtain ⟨rfl, _⟩ := h2
      have hx := ownerAt_eval h1
      obtain ⟨B, n, c, hψ, k0, k1, k2, hv⟩ := hg.1
      have hφ : γ.φ x = .slice B n c := by rw [← (h.own x e t ver l hx).1]; exact hψ
      have hr := Elems.ofOwn (h.cell x _ hx).1
      rw [hφ] at hr
      rw [hv]
      exact hr.cutE k0 k1 k2
  | barr b bv off n t =>
    simp only [listOf, Rd.eval_bind, Option.bind_eq_some_iff, Rd.eval_ofOpt, Option.map_eq_some_iff] at hs
    obtain ⟨⟨⟨fz, cs0⟩, l2⟩, h1, _, ⟨l, h2, rfl⟩, h3⟩ := hs
    simp only [Rd.eval, Option.some.injEq, Prod.mk.injEq] at h3
    obtain ⟨rfl, _⟩ := h3
    obtain ⟨k1, k2⟩ := h.boxCells (boxAt_eval h1) off
    obtain ⟨u1, u2, hu, r1, r2⟩ := implodeN_rel t n _ _ l h2 k1
    rw [show v = _ from hg.1]
    refine ⟨_, _, by rw [r2], by rw [r2]; exact Nat.le_refl _, fun i x hx => ?_⟩
    obtain ⟨xs, hr, hc⟩ := r1.at l u1 i x hx
    refine ⟨_, rfl, xs, hr, fun j v hv => ?_⟩
    rw [add_plain]
    refine k2 _ v ?_
    have := hc j v hv
    have hlt := (List.getElem?_eq_some_iff.1 this).1
    have : ((cellVals γ (.box b) 0 cs0.length).drop off)[i * t.size + j]? = some v := by rw [hu, List.getElem?_append_left hlt]; exact this
    rwa [List.getElem?_drop] at this
  | _ => simp [listOf, Rd.eval] at hs
theorem bytes_reps (Z : Nat → Prop) : ∀ (s : List UInt8), RepsL Z w (.int .u8) (s.map fun (c : UInt8) => (c.toNat : Int)) (s.map fun b => Value.int .u8 b.toNat)
  | [] => rfl
  | b :: r => ⟨[.int .u8 b.toNat], _, rfl, rfl, bytes_reps Z r⟩
theorem srcOf_sound (h : Core A X γ Fr env a w) {T : TypeId} {ti : TI} (ht : TIOK A.P T ti) {c : Cell} {v : Value} (hg : GoodR A γ w Fr c v) {p : Σ t : Ty, List t.den} {l0 l1 : List Slot}
    (hs : (srcOf ti.desc c).eval env.get l0 = some (p, l1)) : ∃ news, RepsL γ.Z w p.1 p.2 news ∧ Go.Src A.P p.1.size T v p.2.length news w := by
  unfold srcOf at hs
  split at hs
  · rename_i s hdesc
    simp only [Rd.eval, Option.some.injEq, Prod.mk.injEq] at hs
    obtain ⟨rfl, _⟩ := hs
    have hk : A.P.underlying T = some .string := by rw [ht.und, hdesc]
    have := Go.Src.ofString (P := A.P) w hk ⟨s.toArray⟩
    refine ⟨_, bytes_reps γ.Z s, ?_⟩
    rw [show v = _ from hg.1]
    simpa [Ty.size, byteCells, ByteArray.size] using this
  · rename_i c e hdesc
    have hk : A.P.underlying T = some (.slice e) := by rw [ht.und, hdesc]
    obtain ⟨B, c', hB, hlc, hel⟩ := listOf_elems h hg hs
    obtain ⟨t, l⟩ := p
    simp only at hB hlc hel ⊢
    cases B with
    | none =>
      have : l = [] := by
        cases l with
        | nil => rfl
        | cons x r => obtain ⟨_, hh, _⟩ := hel 0 x rfl; cases hh
      subst this
      exact ⟨[], rfl, by rw [hB]; exact Go.Src.ofNil w hk c'⟩
    | some ad =>
      obtain ⟨news, k1, k2⟩ := Elems.news l ad (fun i x hx => by
        obtain ⟨ad', h1, xs, h2, h3⟩ := hel i x hx
        injection h1 with h1
        subst h1
        exact ⟨xs, h2, h3⟩)
      exact ⟨news, k1, by rw [hB]; exact Go.Src.ofSlice w hk ad l.length c' news (RepsL.length _ _ k1) k2 (RepsL.one _ _ k1)⟩
  · simp [Rd.eval] at hs
theorem ownOf_sound (h : Core A X γ Fr env a w) {e : TypeId} {c : Cell} {v : Value} (hg : GoodR A γ w Fr c v) {p : (Σ t : Ty, List t.den) × List Upd} {l0 l1 : List Slot} (hs : (ownOf e c).eval env.get l0 = some (p, l1)) (h0 : 0 < p.1.1.size) :
    Core A X γ Fr (appAll env p.2) a w ∧ OwnV γ.Z w A.B e p.1.1 v p.1.2 ∧ (∀ g, v.ownBlock = some g → Free A γ (appAll env p.2) g) := by
  unfold ownOf at hs
  split at hs
  · rename_i x ver
    cases hnl : x.s.isLent with
    | true => rw [hnl] at hs; simp [Rd.eval] at hs
    | false =>
    rw [hnl] at hs
    simp only [cond_false, Rd.eval_bind, Option.bind_eq_some_iff] at hs
    obtain ⟨⟨⟨e', t, l⟩, l2⟩, h1, h2⟩ := hs
    simp only at h2
    cases he : Nat.beq e' e with
    | false => rw [he] at h2; simp [Rd.eval] at h2
    | true =>
      rw [he] at h2
      have he := Nat.eq_of_beq_eq_true he
      subst he
      simp only [cond_true, Rd.eval, Option.some.injEq, Prod.mk.injEq] at h2
      obtain ⟨rfl, _⟩ := h2
      have hx := ownerAt_eval h1
      have hv : v = γ.φ x := hg.1.trans (h.own x _ t ver l hx).1
      refine ⟨h.kill x, by rw [hv]; exact (h.cell x _ hx).1, fun g hgb => h.kill_free hx hnl (by rw [← hv]; exact hgb)⟩
  · simp only [Rd.eval, Option.some.injEq, Prod.mk.injEq] at hs
    obtain ⟨rfl, _⟩ := hs
    have hv : v = .slice none 0 0 := hg.1
    refine ⟨h, by rw [hv]; exact OwnV.nil h0, fun g hgb => by rw [hv] at hgb; simp [Value.ownBlock] at hgb⟩
  · simp [Rd.eval] at hs
theorem array2 {α : Type} {xs : Array α} {a b : α} (h : xs.toList = [a, b]) : xs = #[a, b] := by
  apply Array.ext'; simpa using h
theorem array1 {α : Type} {xs : Array α} {a : α} (h : xs.toList = [a]) : xs = #[a] := by
  apply Array.ext'; simpa using h
theorem op_append (h : Core A X γ Fr env a w) (hst : Stable A.n0 A.G) (hG0 : BaseOK A) (hty : TyOK A.P X) (hv : Fr vn) (hd : dstOk X o) {c : Call} {x y : Operand} {T T' : TypeId} (ho : o.op = .call c) (hc : c.callee = .builtin .append)
    (hx : c.args.toList = [x, y]) (hT : c.argTypes.toList = [T, T']) (he : (opRd X vn o).eval env.get [] = some (us, lg)) : OpOK A X (FrD Fr vn) o us env a w := by
  simp only [opRd, ho, hc, builtinRd, hx, hT, Rd.eval_bind, Option.bind_eq_some_iff, Ctx.ti, Rd.eval_ofOpt, Option.map_eq_some_iff] at he
  obtain ⟨_, ⟨ti, k1, rfl⟩, _, ⟨ti', k2, rfl⟩, he⟩ := he
  have ht := hty T ti k1
  have ht' := hty T' ti' k2
  simp only at he
  split at he
  · rename_i e t hdesc htt
    simp only [Rd.eval_bind, Option.bind_eq_some_iff, Rd.eval_ofOpt, Option.map_eq_some_iff] at he
    obtain ⟨_, ⟨te, k3, rfl⟩, ⟨cx, l1⟩, h1, ⟨cy, l2⟩, h2, ⟨ys, l3⟩, h3, ⟨xs, l4⟩, h4, h5⟩ := he
    have hte := hty e te k3
    simp only at h3 h4 h5
    split at h5
    · rename_i hh
      obtain ⟨⟨tx, lx⟩, ux⟩ := xs
      obtain ⟨tyy, ly⟩ := ys
      simp only at hh h3 h4 h5
      obtain ⟨e1, e2, e3, h0, hnm⟩ := hh
      subst e1; subst e2
      cases hb : (decide ((lx.length + ly.length) * te.bytes ≤ 140737488355328) && decide (lx.length + ly.length ≤ 140737488355328)) with
      | false => rw [hb] at h5; simp [Rd.eval] at h5
      | true =>
        rw [hb] at h5
        simp only [Rd.eval, cond_true, Option.some.injEq, Prod.mk.injEq] at h5
        obtain ⟨rfl, _⟩ := h5
        simp only [Bool.and_eq_true, decide_eq_true_eq] at hb
        have gx := rdCell_sound h h1
        have gy := rdCell_sound h h2
        obtain ⟨news, r1, r2⟩ := srcOf_sound h ht' gy h3
        obtain ⟨c1, c2, c3⟩ := ownOf_sound h gx h4 h0
        obtain ⟨_, xs0, ho', hr0⟩ := c2
        obtain ⟨i, hi, hsz, hby, hz⟩ := hte.info'
        have hzc : (mkVal te.agg (te.zero.map cellV)).cells.size = tyy.size := by rw [zero_cells hte]; simp [hte.zlen, e3]
        have hBs : A.B ≤ w.heap.size := Nat.le_trans h.baseB h.frame.size
        obtain ⟨v', w', hrun, q1, q2, q3⟩ := run_append_own_src (P := A.P) w A.B T T' o.type e i _ tyy.size te.bytes (by rw [ht.und, hdesc]) hi hz (by rw [hsz, e3]) hby hzc _ _ _ (ho'.plain hnm) _ _ _ r2
          (by simp [maxLen]; omega) hb.1 hBs
        have hw := c1.world q2 (fun g hg => ⟨(c3 g hg).1, fun _ => c3 g hg⟩) (h.glob_own hst hG0 q2 fun g hg => .inl (c3 g hg).1)
        have hZ : ∀ g, γ.Z g → w'.heap[g]? = w.heap[g]? := fun g hz' => q2.block g (h.zone g hz') (fun e => (c3 g e.symm).2.1 hz')
        have hown : OwnV γ.Z w' A.B e tyy v' (lx ++ ly) := ⟨h0, xs0 ++ news, by rw [List.length_append]; exact OwnRow.of q1, RepsL.mono (fun _ h => h) hZ _ _ (hr0.append _ _ _ _ r1)⟩
        have hp := hw.putOwn hv hd hown fun g hg => by
          rcases q3 with q3 | q3
          · exact c3 g (by rw [← q3]; exact hg)
          · rw [q3] at hg; injection hg with hg; subst hg
            exact c1.free_new (Nat.le_refl _)
        rw [← appAll_append] at hp
        refine OpOK.value (v := v') ?_ hp
        simp only [execOp, ho, resolve, hc, invoke, builtin, array2 hx, array2 hT, Sem.run_bind, Sem.run_pure, Result.andThen_ok, List.map_toArray, List.map_cons, List.map_nil, hrun]
    · simp [Rd.eval] at h5
  · simp [Rd.eval] at he
theorem op_len (h : Core A X γ Fr env a w) (hty : TyOK A.P X) (hd : dstOk X o) {c : Call} {x : Operand} {T : TypeId} (ho : o.op = .call c) (hc : c.callee = .builtin .len)
    (hx : c.args.toList = [x]) (hT : c.argTypes.toList = [T]) (he : (opRd X vn o).eval env.get [] = some (us, lg)) : OpOK A X Fr o us env a w := by
  simp only [opRd, ho, hc, builtinRd, hx, hT, Rd.eval_bind, Option.bind_eq_some_iff, Ctx.ti, Rd.eval_ofOpt, Option.map_eq_some_iff] at he
  obtain ⟨_, ⟨ti, k1, rfl⟩, he⟩ := he
  have ht := hty T ti k1
  have hu := run_underlying (P := A.P) ht.und w
  have fin : ∀ n : Int, (Builtin.len_ #[T] o.type #[a.eval x]).run A.P w = .ok (.int .i64 n) w → OpOK A X Fr o (dstSet o (.val false [.int .i64 n])) env a w := by
    intro n hrun
    refine OpOK.value (v := .int .i64 n) ?_ (h.putCell hd (good_int _ _))
    simp only [execOp, ho, resolve, hc, invoke, builtin, array1 hx, array1 hT, Sem.run_bind, Sem.run_pure, Result.andThen_ok, List.map_toArray, List.map_cons, List.map_nil, hrun]
  simp only at he
  split at he
  · rename_i n e hdesc
    rw [retOne_eval he]
    rw [hdesc] at hu
    exact fin _ (by simp [Builtin.len_, hu, goInt])
  · rename_i hdesc
    simp only [Rd.eval_bind, Option.bind_eq_some_iff] at he
    obtain ⟨⟨cx, l1⟩, h1, h2⟩ := he
    have g := rdCell_sound h h1
    simp only at h2
    split at h2
    · rename_i s
      rw [retOne_eval h2]
      rw [hdesc] at hu
      refine fin _ ?_
      have hx' : a.eval x = .string ⟨s.toArray⟩ := g.1
      simp only [Builtin.len_, List.getElem?_toArray, List.getElem?_cons_zero, Sem.run_bind, hu, Result.andThen_ok, hx', goInt, Sem.run_pure, size_str]
    · simp [Rd.eval] at h2
  · rename_i e hdesc
    simp only [Rd.eval_bind, Option.bind_eq_some_iff] at he
    obtain ⟨⟨cx, l1⟩, h1, ⟨p, l2⟩, h2, h3⟩ := he
    have g := rdCell_sound h h1
    rw [retOne_eval h3]
    rw [hdesc] at hu
    obtain ⟨B, c', hB, _⟩ := listOf_elems h g h2
    refine fin _ ?_
    simp [Builtin.len_, hu, goInt, hB]
  · simp [Rd.eval] at he
theorem op_max (h : Core A X γ Fr env a w) (hd : dstOk X o) {c : Call} {x y : Operand} (ho : o.op = .call c) (hc : c.callee = .builtin .max)
    (hx : c.args.toList = [x, y]) (he : (opRd X vn o).eval env.get [] = some (us, lg)) : OpOK A X Fr o us env a w := by
  simp only [opRd, ho, hc, builtinRd, hx, Rd.eval_bind, Option.bind_eq_some_iff] at he
  obtain ⟨⟨⟨k, p⟩, l1⟩, h1, ⟨⟨k', q⟩, l2⟩, h2, h3⟩ := he
  have e1 := rdInt_sound h h1
  have e2 := rdInt_sound h h2
  simp only at h3 e1 e2
  split at h3
  · rename_i hk
    subst hk
    rw [retOne_eval h3]
    refine OpOK.value (v := .int k (bif decide (q > p) then q else p)) ?_ (h.putCell hd (good_int _ _))
    simp only [execOp, ho, resolve, hc, invoke, builtin, array2 hx, Sem.run_bind, Sem.run_pure, Result.andThen_ok, List.map_toArray, List.map_cons, List.map_nil, Builtin.max_, List.foldlM, e1, e2, Builtin.max2]
    by_cases hpq : q > p <;> simp [hpq]
  · simp [Rd.eval] at h3
theorem op_min (h : Core A X γ Fr env a w) (hd : dstOk X o) {c : Call} {x y : Operand} (ho : o.op = .call c) (hc : c.callee = .builtin .min)
    (hx : c.args.toList = [x, y]) (he : (opRd X vn o).eval env.get [] = some (us, lg)) : OpOK A X Fr o us env a w := by
  simp only [opRd, ho, hc, builtinRd, hx, Rd.eval_bind, Option.bind_eq_some_iff] at he
  obtain ⟨⟨⟨k, p⟩, l1⟩, h1, ⟨⟨k', q⟩, l2⟩, h2, h3⟩ := he
  have e1 := rdInt_sound h h1
  have e2 := rdInt_sound h h2
  simp only at h3 e1 e2
  split at h3
  · rename_i hk
    subst hk
    rw [retOne_eval h3]
    refine OpOK.value (v := .int k (bif decide (q < p) then q else p)) ?_ (h.putCell hd (good_int _ _))
    simp only [execOp, ho, resolve, hc, invoke, builtin, array2 hx, Sem.run_bind, Sem.run_pure, Result.andThen_ok, List.map_toArray, List.map_cons, List.map_nil, Builtin.min_, List.foldlM, e1, e2, Builtin.min2]
    by_cases hpq : q < p <;> simp [hpq]
  · simp [Rd.eval] at h3
end
end Go.VI
