/- VI, part 18: append. -/
import Derived.Test.YtdejhienahdoiaaGreatViOps
import Derived.Deep.Upon
namespace Go.VI
open Go.RowKit
section
variable {P : Program} (w : World)
theorem run_append_room_row (t tx ty e : TypeId) (i : TypeInfo) (ht : P.underlying t = some (.slice e)) (hi : P.info? e = some i)
    (g sLen sCap : Nat) (cur : Array Value) (hg : w.heap[g]? = some (.cells cur e (0, 0))) (x : Value) (n : Nat) (news : List Value) (hs : Go.Src P i.size tx x n news w)
    (hroom : sLen + n ≤ sCap) (hfit : sLen * i.size + news.length ≤ cur.size) :
    (Builtin.append_ #[t, tx] ty #[.slice (some ⟨g, 0, none⟩) sLen sCap, x]).run P w =
      .ok (.slice (some ⟨g, 0, none⟩) (sLen + n) sCap) (w.setRow g (cur.toList.take (sLen * i.size) ++ news ++ cur.toList.drop (sLen * i.size + news.length)).toArray) := by
  have hst := run_storeCells_at P g (sLen * i.size) e news 0 cur w hg (by simpa using hfit) hs.one
  simp only [Nat.add_zero] at hst
  rcases hs.kind with ⟨e', hk⟩ | hk <;> simp [Builtin.append_, run_underlying ht, run_underlying hk, sizeOf, typeInfo, hi, hs.len, hroom, hs.cells, Addr.add_lit, hst]
theorem run_append_own_src (base : Nat) (t tx ty e : TypeId) (i : TypeInfo) (z : Value) (size bytes : Nat) (ht : P.underlying t = some (.slice e)) (hi : P.info? e = some i) (hz : i.zero = some z)
    (hsize : i.size = size) (hby : i.bytes = bytes) (hzs : z.cells.size = size)
    (v : Value) (n : Nat) (xs : List Value) (hown : w.ownsRow base e size v n xs)
    (x : Value) (m : Nat) (news : List Value) (hs : Go.Src P size tx x m news w)
    (h63 : n + m ≤ maxLen) (hbytes : (n + m) * bytes ≤ 140737488355328) (hbase : base ≤ w.heap.size) :
    ∃ v' w', (Builtin.append_ #[t, tx] ty #[v, x]).run P w = .ok v' w' ∧ w'.ownsRow base e size v' (n + m) (xs ++ news) ∧ GrownD w w' v.ownBlock ∧
      (v'.ownBlock = v.ownBlock ∨ v'.ownBlock = some w.heap.size) := by
  subst hsize
  subst hby
  have hl := hs.newsLen
  have hsmall : n + m ≤ 9223372036854775807 := by simp only [maxLen] at h63; omega
  have hlen : (xs ++ news).length = (n + m) * i.size := by rw [List.length_append, hown.1, hl, Nat.add_mul]
  have grown : ∀ (old : Nat), old < n + m → ∀ (row : Option Nat),
      (w.drew.alloc (.cells ((xs ++ news).toArray ++ Builtin.zeroCells z.cells (grownCap w (n + m) old e - (n + m))) e)).ownsRow base e i.size
        (.slice (some ⟨w.heap.size, 0, none⟩) (n + m) (grownCap w (n + m) old e)) (n + m) (xs ++ news) ∧
      GrownD w (w.drew.alloc (.cells ((xs ++ news).toArray ++ Builtin.zeroCells z.cells (grownCap w (n + m) old e - (n + m))) e)) row := by
    intro old ho row
    have hge := grownCap_ge w (n + m) old e
    have hcm : grownCap w (n + m) old e ≤ maxLen := grownCap_le_maxLen w (n + m) old e h63
    refine ⟨⟨hlen, .inr ⟨w.heap.size, _, _, rfl, hbase, heap_alloc_new w.drew _, hge, hcm, ?_, ?_⟩⟩, ⟨rfl, rfl, rfl, by simp, fun k hk _ => heap_alloc_old w.drew _ k hk, Nat.le_succ _⟩⟩
    · rw [Array.size_append, List.size_toArray, size_zeroCells, hlen, hzs, ← Nat.add_mul]
      congr 1
      omega
    · rw [Array.toList_append, ← hlen]
      exact List.take_left
  rcases hown.2 with ⟨rfl, rfl⟩ | ⟨g, cap, cur, rfl, hbg, hg, hnc, hcm, hcs, htake⟩
  · have hx : xs = [] := List.eq_nil_of_length_eq_zero (by simpa using hown.1)
    subst hx
    by_cases hm : m = 0
    · subst hm
      have hn : news = [] := List.eq_nil_of_length_eq_zero (by simpa using hl)
      subst hn
      exact ⟨.slice none 0 0, w, run_append_nothing w t tx ty e i ht hi none 0 0 (Nat.le_refl _) x hs, World.ownsRow_nil w base e i.size, ⟨rfl, rfl, rfl, Nat.le_refl _, fun _ _ _ => rfl, Nat.le_refl _⟩, Or.inl rfl⟩
    · have hr := run_append_grow_src (P := P) w t tx ty e i z ht hi hz none 0 0 [] (run_firstCells_none w.drew i.size 0 0 0) x m news hs (by omega) (by omega) (growslice_fits (by omega) hbytes)
      have hgr := grown 0 (by omega) (Value.ownBlock (.slice none 0 0))
      exact ⟨_, _, hr, hgr.1, hgr.2, Or.inr rfl⟩
  · by_cases hroom : n + m ≤ cap
    · have hfit : n * i.size + news.length ≤ cur.size := by rw [hl, hcs, ← Nat.add_mul]; exact Nat.mul_le_mul_right _ hroom
      have hr := run_append_room_row (P := P) w t tx ty e i ht hi g n cap cur hg x m news hs hroom hfit
      refine ⟨_, _, hr, ⟨hlen, .inr ⟨g, cap, _, rfl, hbg, setRow_heap w g cur _ e _ hg, hroom, hcm, ?_, ?_⟩⟩, ⟨rfl, rfl, rfl, by simp, fun k _ hk => setRow_other w g k _ (fun e => hk (by simp [Value.ownBlock, e])), Nat.le_refl _⟩, Or.inl rfl⟩
      · simp only [List.size_toArray, List.length_append, List.length_take, List.length_drop, Array.length_toList]
        omega
      · rw [htake, ← hlen]
        exact List.take_left
    · have holds : ∀ j u, xs[j]? = some u → w.cell? ((⟨g, 0, none⟩ : Addr).add j) = some u := hown.cells (g := g) rfl
      have hr := run_append_grow_src (P := P) w t tx ty e i z ht hi hz (some ⟨g, 0, none⟩) n cap xs (run_firstCells_some w.drew i.size n ⟨g, 0, none⟩ n cap xs hown.1 (by simpa using holds)) x m news hs (by omega) (by omega) (growslice_fits (by omega) hbytes)
      have hgr := grown cap (by omega) (Value.ownBlock (.slice (some ⟨g, 0, none⟩) n cap))
      exact ⟨_, _, hr, hgr.1, hgr.2, Or.inr rfl⟩
end
section
variable {A : Fix} {X : Ctx} {γ : Gh} {Fr : Nat → Prop} {env : Env} {a : Act} {w w' : World} {vn : Nat} {o : Oper} {us : List Upd} {lg : List Slot}
def Elems (Z : Nat → Prop) (w : World) (t : Ty) (l : List t.den) (v : Value) : Prop :=
  ∃ B c, v = .slice B l.length c ∧ l.length ≤ c ∧ ∀ i x, l[i]? = some x → ∃ ad, B = some ad ∧ ∃ xs, RepI Z w t x xs ∧ ∀ j u, xs[j]? = some u → w.cell? (ad.add (i * t.size + j)) = some u
theorem Elems.cutE {Z : Nat → Prop} {t : Ty} {l : List t.den} {B : Option Addr} {n c : Nat} (h : Elems Z w t l (.slice B n c)) {lo hi : Int} (h0 : 0 ≤ lo) (h1 : lo ≤ hi) (h2 : hi ≤ (n : Int)) :
    Elems Z w t (cut l lo hi) (.slice (if c = lo.toNat then B else B.map (·.add (lo.toNat * t.size))) (hi.toNat - lo.toNat) (c - lo.toNat)) := by
  obtain ⟨B', c', hB, hlc, hel⟩ := h
  injection hB with hB1 hB2 hB3
  subst hB1; subst hB2; subst hB3
  have hl : (cut l lo hi).length = hi.toNat - lo.toNat := by simp [cut]; omega
  refine ⟨_, _, by rw [hl], by rw [hl]; omega, fun i x hx => ?_⟩
  have hi' : i < hi.toNat - lo.toNat := by rw [← hl]; exact (List.getElem?_eq_some_iff.1 hx).1
  have hx' : l[lo.toNat + i]? = some x := by
    simp only [cut, List.getElem?_drop, List.getElem?_take] at hx
    rwa [if_pos (by omega)] at hx
  obtain ⟨ad, rfl, xs, hr, hc⟩ := hel _ _ hx'
  have hne : ¬ (c = lo.toNat) := by omega
  refine ⟨ad.add (lo.toNat * t.size), by simp [hne], xs, hr, fun j v hv => ?_⟩
  rw [add_add, ← hc j v hv]
  congr 2
  rw [Nat.add_mul]; omega
theorem Elems.ofI {Z : Nat → Prop} {t : Ty} {l : List t.den} {v : Value} (h : RepI Z w (.sl t) l [v]) : Elems Z w t l v := by
  obtain ⟨B, c, hB, hlc, hel⟩ := h
  simp only [List.cons.injEq, and_true] at hB
  exact ⟨B, c, hB, hlc, fun i x hx => let ⟨ad, h1, _, xs, h2, h3⟩ := hel i x hx; ⟨ad, h1, xs, h2, h3⟩⟩
theorem Elems.ofOwn {Z : Nat → Prop} {B : Nat} {e : TypeId} {t : Ty} {l : List t.den} {v : Value} (h : OwnV Z w B e t v l) : Elems Z w t l v := by
  obtain ⟨h0, xs, ho, hr⟩ := h
  rcases ho.2 with ⟨rfl, hn⟩ | ⟨g, cap, cur, fz, rfl, hb, hg, _, hnc, hcm, hcs, htake⟩
  · refine ⟨none, 0, by rw [hn], by rw [hn]; exact Nat.le_refl _, fun i x hx => ?_⟩
    have : l = [] := List.eq_nil_of_length_eq_zero hn
    subst this
    simp at hx
  · refine ⟨some ⟨g, 0, none⟩, cap, rfl, hnc, fun i x hx => ?_⟩
    obtain ⟨ys, hy, hc⟩ := RepsL.at l xs hr i x hx
    refine ⟨_, rfl, ys, hy, fun j u hu => ?_⟩
    have hx2 := hc j u hu
    rw [add_plain, cell_of_row w g _ cur e fz hg]
    rw [← htake, List.getElem?_take] at hx2
    split at hx2
    · simpa using hx2
    · cases hx2
theorem Elems.news {Z : Nat → Prop} {t : Ty} : ∀ (l : List t.den) (ad : Addr), (∀ i x, l[i]? = some x → ∃ xs, RepI Z w t x xs ∧ ∀ j u, xs[j]? = some u → w.cell? (ad.add (i * t.size + j)) = some u) →
    ∃ news, RepsL Z w t l news ∧ ∀ j u, news[j]? = some u → w.cell? (ad.add j) = some u
  | [], ad, _ => ⟨[], rfl, by simp⟩
  | x :: r, ad, h => by
    obtain ⟨xs, h1, h2⟩ := h 0 x rfl
    obtain ⟨news, k1, k2⟩ := Elems.news r (ad.add t.size) (fun i y hy => by
      obtain ⟨ys, g1, g2⟩ := h (i + 1) y (by simpa using hy)
      refine ⟨ys, g1, fun j u hu => ?_⟩
      rw [add_add, ← g2 j u hu]
      congr 2
      rw [Nat.succ_mul]; omega)
    have hl := RepI.length _ _ _ h1
    refine ⟨xs ++ news, ⟨xs, news, rfl, h1, k1⟩, fun j u hu => ?_⟩
    by_cases hj : j < xs.length
    · rw [List.getElem?_append_left hj] at hu
      have := h2 j u hu
      simpa using this
    · rw [List.getElem?_append_right (by omega)] at hu
      have := k2 _ u hu
      rw [add_add] at this
      rwa [show t.size + (j - xs.length) = j by omega] at this
theorem listOf_elems (h : Core A X γ Fr env a w) {c : Cell} {v : Value} (hg : GoodR A γ w Fr c v) {p : Σ t : Ty, List t.den} {l0 l1 : List Slot} (hs : (listOf c).eval env.get l0 = some (p, l1)) : Elems γ.Z w p.1 p.2 v := by
  cases c with
  | imm t l par =>
    simp only [listOf, Rd.eval, Option.some.injEq, Prod.mk.injEq] at hs
    obtain ⟨rfl, _⟩ := hs
    exact Elems.ofI hg.1.1
  | nil e t =>
    simp only [listOf, Rd.eval, Option.some.injEq, Prod.mk.injEq] at hs
    obtain ⟨rfl, _⟩ := hs
    exact ⟨none, 0, hg.1, Nat.le_refl _, fun i x hx => by simp at hx⟩
  | view x ver =>
    simp only [listOf, Rd.eval_bind, Option.bind_eq_some_iff] at hs
    obtain ⟨⟨⟨e, t, l⟩, l2⟩, h1, h2⟩ := hs
    simp only [Rd.eval, Option.some.injEq, Prod.mk.injEq] at h2
    obtain ⟨rfl, _⟩ := h2
    have hx := ownerAt_eval h1
    rw [hg.1.trans (h.own x e t ver l hx).1]
    exact Elems.ofOwn (h.cell x _ hx).1
  | sub x ver sz lo hi =>
    simp only [listOf, Rd.eval_bind, Option.bind_eq_some_iff] at hs
    obtain ⟨⟨⟨e, t, l⟩, l2⟩, h1, h2⟩ := hs
    simp only at h2
    cases hsz : Nat.beq sz t.size with
    | false => rw [hsz] at h2; simp [Rd.eval] at h2
    | true =>
      rw [hsz] at h2
      have hsz := Nat.eq_of_beq_eq_true hsz
      subst hsz
      simp only [cond_true, Rd.eval, Option.some.injEq, Prod.mk.injEq] at h2
      obtain ⟨rfl, _⟩ := h2
      have hx := ownerAt_eval h1
      obtain ⟨B, n, c, hψ, k0, k1, k2, hv⟩ := hg.1
      have hφ : γ.φ x = .slice B n c := by rw [← (h.own x e t ver l hx).1]; exact hψ
      have hr := Elems.ofOwn (h.cell x _ hx).1
      rw [hφ] at hr
      rw [hv]
      exact hr.cutE k0 k1 k2
  | barr b bv off n t =>
    simp only [listOf, Rd.eval_bind, Option.bind_eq_some_iff, Rd.eval_ofOpt, Option.map_eq_some_iff] at hs
    obtain ⟨⟨⟨fz, cs0⟩, l2⟩, h1, _, ⟨l, h2, rfl⟩, h3⟩ := hs
    simp only [Rd.eval, Option.some.injEq, Prod.mk.injEq] at h3
    obtain ⟨rfl, _⟩ := h3
    obtain ⟨k1, k2⟩ := h.boxCells (boxAt_eval h1) off
    obtain ⟨u1, u2, hu, r1, r2⟩ := implodeN_rel t n _ _ l h2 k1
    rw [show v = _ from hg.1]
    refine ⟨_, _, by rw [r2], by rw [r2]; exact Nat.le_refl _, fun i x hx => ?_⟩
    obtain ⟨xs, hr, hc⟩ := r1.at l u1 i x hx
    refine ⟨_, rfl, xs, hr, fun j v hv => ?_⟩
    rw [add_plain]
    refine k2 _ v ?_
    have := hc j v hv
    have hlt := (List.getElem?_eq_some_iff.1 this).1
    have : ((cellVals γ (.box b) 0 cs0.length).drop off)[i * t.size + j]? = some v := by rw [hu, List.getElem?_append_left hlt]; exact this
    rwa [List.getElem?_drop] at this
  | _ => simp [listOf, Rd.eval] at hs
theorem bytes_reps (Z : Nat → Prop) : ∀ (s : List UInt8), RepsL Z w (.int .u8) (s.map fun (c : UInt8) => (c.toNat : Int)) (s.map fun b => Value.int .u8 b.toNat)
  | [] => rfl
  | b :: r => ⟨[.int .u8 b.toNat], _, rfl, rfl, bytes_reps Z r⟩
theorem srcOf_sound (h : Core A X γ Fr env a w) {T : TypeId} {ti : TI} (ht : TIOK A.P T ti) {c : Cell} {v : Value} (hg : GoodR A γ w Fr c v) {p : Σ t : Ty, List t.den} {l0 l1 : List Slot}
    (hs : (srcOf ti.desc c).eval env.get l0 = some (p, l1)) : ∃ news, RepsL γ.Z w p.1 p.2 news ∧ Go.Src A.P p.1.size T v p.2.length news w := by
  unfold srcOf at hs
  split at hs
  · rename_i s hdesc
    simp only [Rd.eval, Option.some.injEq, Prod.mk.injEq] at hs
    obtain ⟨rfl, _⟩ := hs
    have hk : A.P.underlying T = some .string := by rw [ht.und, hdesc]
    have := Go.Src.ofString (P := A.P) w hk ⟨s.toArray⟩
    refine ⟨_, bytes_reps γ.Z s, ?_⟩
    rw [show v = _ from hg.1]
    simpa [Ty.size, byteCells, ByteArray.size] using this
  · rename_i c e hdesc
    have hk : A.P.underlying T = some (.slice e) := by rw [ht.und, hdesc]
    obtain ⟨B, c', hB, hlc, hel⟩ := listOf_elems h hg hs
    obtain ⟨t, l⟩ := p
    simp only at hB hlc hel ⊢
    cases B with
    | none =>
      have : l = [] := by
        cases l with
        | nil => rfl
        | cons x r => obtain ⟨_, hh, _⟩ := hel 0 x rfl; cases hh
      subst this
      exact ⟨[], rfl, by rw [hB]; exact Go.Src.ofNil w hk c'⟩
    | some ad =>
      obtain ⟨news, k1, k2⟩ := Elems.news l ad (fun i x hx => by
        obtain ⟨ad', h1, xs, h2, h3⟩ := hel i x hx
        injection h1 with h1
        subst h1
        exact ⟨xs, h2, h3⟩)
      exact ⟨news, k1, by rw [hB]; exact Go.Src.ofSlice w hk ad l.length c' news (RepsL.length _ _ k1) k2 (RepsL.one _ _ k1)⟩
  · simp [Rd.eval] at hs
theorem ownOf_sound (h : Core A X γ Fr env a w) {e : TypeId} {c : Cell} {v : Value} (hg : GoodR A γ w Fr c v) {p : (Σ t : Ty, List t.den) × List Upd} {l0 l1 : List Slot} (hs : (ownOf e c).eval env.get l0 = some (p, l1)) (h0 : 0 < p.1.1.size) :
    Core A X γ Fr (appAll env p.2) a w ∧ OwnV γ.Z w A.B e p.1.1 v p.1.2 ∧ (∀ g, v.ownBlock = some g → Free A γ (appAll env p.2) g) := by
  unfold ownOf at hs
  split at hs
  · rename_i x ver
    cases hnl : x.s.isLent with
    | true => rw [hnl] at hs; simp [Rd.eval] at hs
    | false =>
    rw [hnl] at hs
    simp only [cond_false, Rd.eval_bind, Option.bind_eq_some_iff] at hs
    obtain ⟨⟨⟨e', t, l⟩, l2⟩, h1, h2⟩ := hs
    simp only at h2
    cases he : Nat.beq e' e with
    | false => rw [he] at h2; simp [Rd.eval] at h2
    | true =>
      rw [he] at h2
      have he := Nat.eq_of_beq_eq_true he
      subst he
      simp only [cond_true, Rd.eval, Option.some.injEq, Prod.mk.injEq] at h2
      obtain ⟨rfl, _⟩ := h2
      have hx := ownerAt_eval h1
      have hv : v = γ.φ x := hg.1.trans (h.own x _ t ver l hx).1
      refine ⟨h.kill x, by rw [hv]; exact (h.cell x _ hx).1, fun g hgb => h.kill_free hx hnl (by rw [← hv]; exact hgb)⟩
  · simp only [Rd.eval, Option.some.injEq, Prod.mk.injEq] at hs
    obtain ⟨rfl, _⟩ := hs
    have hv : v = .slice none 0 0 := hg.1
    refine ⟨h, by rw [hv]; exact OwnV.nil h0, fun g hgb => by rw [hv] at hgb; simp [Value.ownBlock] at hgb⟩
  · simp [Rd.eval] at hs
theorem array2 {α : Type} {xs : Array α} {a b : α} (h : xs.toList = [a, b]) : xs = #[a, b] := by
  apply Array.ext'; simpa using h
theorem array1 {α : Type} {xs : Array α} {a : α} (h : xs.toList = [a]) : xs = #[a] := by
  apply Array.ext'; simpa using h
theorem op_append (h : Core A X γ Fr env a w) (hst : Stable A.n0 A.G) (hG0 : BaseOK A) (hty : TyOK A.P X) (hv : Fr vn) (hd : dstOk X o) {c : Call} {x y : Operand} {T T' : TypeId} (ho : o.op = .call c) (hc : c.callee = .builtin .append)
    (hx : c.args.toList = [x, y]) (hT : c.argTypes.toList = [T, T']) (he : (opRd X vn o).eval env.get [] = some (us, lg)) : OpOK A X (FrD Fr vn) o us env a w := by
  simp only [opRd, ho, hc, builtinRd, hx, hT, Rd.eval_bind, Option.bind_eq_some_iff, Ctx.ti, Rd.eval_ofOpt, Option.map_eq_some_iff] at he
  obtain ⟨_, ⟨ti, k1, rfl⟩, _, ⟨ti', k2, rfl⟩, he⟩ := he
  have ht := hty T ti k1
  have ht' := hty T' ti' k2
  simp only at he
  split at he
  · rename_i e t hdesc htt
    simp only [Rd.eval_bind, Option.bind_eq_some_iff, Rd.eval_ofOpt, Option.map_eq_some_iff] at he
    obtain ⟨_, ⟨te, k3, rfl⟩, ⟨cx, l1⟩, h1, ⟨cy, l2⟩, h2, ⟨ys, l3⟩, h3, ⟨xs, l4⟩, h4, h5⟩ := he
    have hte := hty e te k3
    simp only at h3 h4 h5
    split at h5
    · rename_i hh
      obtain ⟨⟨tx, lx⟩, ux⟩ := xs
      obtain ⟨tyy, ly⟩ := ys
      simp only at hh h3 h4 h5
      obtain ⟨e1, e2, e3, h0, hnm⟩ := hh
      subst e1; subst e2
      cases hb : (decide ((lx.length + ly.length) * te.bytes ≤ 140737488355328) && decide (lx.length + ly.length ≤ 140737488355328)) with
      | false => rw [hb] at h5; simp [Rd.eval] at h5
      | true =>
        rw [hb] at h5
        simp only [Rd.eval, cond_true, Option.some.injEq, Prod.mk.injEq] at h5
        obtain ⟨rfl, _⟩ := h5
        simp only [Bool.and_eq_true, decide_eq_true_eq] at hb
        have gx := rdCell_sound h h1
        have gy := rdCell_sound h h2
        obtain ⟨news, r1, r2⟩ := srcOf_sound h ht' gy h3
        obtain ⟨c1, c2, c3⟩ := ownOf_sound h gx h4 h0
        obtain ⟨_, xs0, ho', hr0⟩ := c2
        obtain ⟨i, hi, hsz, hby, hz⟩ := hte.info'
        have hzc : (mkVal te.agg (te.zero.map cellV)).cells.size = tyy.size := by rw [zero_cells hte]; simp [hte.zlen, e3]
        have hBs : A.B ≤ w.heap.size := Nat.le_trans h.baseB h.frame.size
        obtain ⟨v', w', hrun, q1, q2, q3⟩ := run_append_own_src (P := A.P) w A.B T T' o.type e i _ tyy.size te.bytes (by rw [ht.und, hdesc]) hi hz (by rw [hsz, e3]) hby hzc _ _ _ (ho'.plain hnm) _ _ _ r2
          (by simp [maxLen]; omega) hb.1 hBs
        have hw := c1.world q2 (fun g hg => ⟨(c3 g hg).1, fun _ => c3 g hg⟩) (h.glob_own hst hG0 q2 fun g hg => .inl (c3 g hg).1)
        have hZ : ∀ g, γ.Z g → w'.heap[g]? = w.heap[g]? := fun g hz' => q2.block g (h.zone g hz') (fun e => (c3 g e.symm).2.1 hz')
        have hown : OwnV γ.Z w' A.B e tyy v' (lx ++ ly) := ⟨h0, xs0 ++ news, by rw [List.length_append]; exact OwnRow.of q1, RepsL.mono (fun _ h => h) hZ _ _ (hr0.append _ _ _ _ r1)⟩
        have hp := hw.putOwn hv hd hown fun g hg => by
          rcases q3 with q3 | q3
          · exact c3 g (by rw [← q3]; exact hg)
          · rw [q3] at hg; injection hg with hg; subst hg
            exact c1.free_new (Nat.le_refl _)
        rw [← appAll_append] at hp
        refine OpOK.value (v := v') ?_ hp
        simp only [execOp, ho, resolve, hc, invoke, builtin, array2 hx, array2 hT, Sem.run_bind, Sem.run_pure, Result.andThen_ok, List.map_toArray, List.map_cons, List.map_nil, hrun]
    · simp [Rd.eval] at h5
  · simp [Rd.eval] at he
theorem op_len (h : Core A X γ Fr env a w) (hty : TyOK A.P X) (hd : dstOk X o) {c : Call} {x : Operand} {T : TypeId} (ho : o.op = .call c) (hc : c.callee = .builtin .len)
    (hx : c.args.toList = [x]) (hT : c.argTypes.toList = [T]) (he : (opRd X vn o).eval env.get [] = some (us, lg)) : OpOK A X Fr o us env a w := by
  simp only [opRd, ho, hc, builtinRd, hx, hT, Rd.eval_bind, Option.bind_eq_some_iff, Ctx.ti, Rd.eval_ofOpt, Option.map_eq_some_iff] at he
  obtain ⟨_, ⟨ti, k1, rfl⟩, he⟩ := he
  have ht := hty T ti k1
  have hu := run_underlying (P := A.P) ht.und w
  have fin : ∀ n : Int, (Builtin.len_ #[T] o.type #[a.eval x]).run A.P w = .ok (.int .i64 n) w → OpOK A X Fr o (dstSet o (.val false [.int .i64 n])) env a w := by
    intro n hrun
    refine OpOK.value (v := .int .i64 n) ?_ (h.putCell hd (good_int _ _))
    simp only [execOp, ho, resolve, hc, invoke, builtin, array1 hx, array1 hT, Sem.run_bind, Sem.run_pure, Result.andThen_ok, List.map_toArray, List.map_cons, List.map_nil, hrun]
  simp only at he
  split at he
  · rename_i n e hdesc
    rw [retOne_eval he]
    rw [hdesc] at hu
    exact fin _ (by simp [Builtin.len_, hu, goInt])
  · rename_i hdesc
    simp only [Rd.eval_bind, Option.bind_eq_some_iff] at he
    obtain ⟨⟨cx, l1⟩, h1, h2⟩ := he
    have g := rdCell_sound h h1
    simp only at h2
    split at h2
    · rename_i s
      rw [retOne_eval h2]
      rw [hdesc] at hu
      refine fin _ ?_
      have hx' : a.eval x = .string ⟨s.toArray⟩ := g.1
      simp only [Builtin.len_, List.getElem?_toArray, List.getElem?_cons_zero, Sem.run_bind, hu, Result.andThen_ok, hx', goInt, Sem.run_pure, size_str]
    · simp [Rd.eval] at h2
  · rename_i e hdesc
    simp only [Rd.eval_bind, Option.bind_eq_some_iff] at he
    obtain ⟨⟨cx, l1⟩, h1, ⟨p, l2⟩, h2, h3⟩ := he
    have g := rdCell_sound h h1
    rw [retOne_eval h3]
    rw [hdesc] at hu
    obtain ⟨B, c', hB, _⟩ := listOf_elems h g h2
    refine fin _ ?_
    simp [Builtin.len_, hu, goInt, hB]
  · simp [Rd.eval] at he
theorem op_max (h : Core A X γ Fr env a w) (hd : dstOk X o) {c : Call} {x y : Operand} (ho : o.op = .call c) (hc : c.callee = .builtin .max)
    (hx : c.args.toList = [x, y]) (he : (opRd X vn o).eval env.get [] = some (us, lg)) : OpOK A X Fr o us env a w := by
  simp only [opRd, ho, hc, builtinRd, hx, Rd.eval_bind, Option.bind_eq_some_iff] at he
  obtain ⟨⟨⟨k, p⟩, l1⟩, h1, ⟨⟨k', q⟩, l2⟩, h2, h3⟩ := he
  have e1 := rdInt_sound h h1
  have e2 := rdInt_sound h h2
  simp only at h3 e1 e2
  split at h3
  · rename_i hk
    subst hk
    rw [retOne_eval h3]
    refine OpOK.value (v := .int k (bif decide (q > p) then q else p)) ?_ (h.putCell hd (good_int _ _))
    simp only [execOp, ho, resolve, hc, invoke, builtin, array2 hx, Sem.run_bind, Sem.run_pure, Result.andThen_ok, List.map_toArray, List.map_cons, List.map_nil, Builtin.max_, List.foldlM, e1, e2, Builtin.max2]
    by_cases hpq : q > p <;> simp [hpq]
  · simp [Rd.eval] at h3
theorem op_min (h : Core A X γ Fr env a w) (hd : dstOk X o) {c : Call} {x y : Operand} (ho : o.op = .call c) (hc : c.callee = .builtin .min)
    (hx : c.args.toList = [x, y]) (he : (opRd X vn o).eval env.get [] = some (us, lg)) : OpOK A X Fr o us env a w := by
  simp only [opRd, ho, hc, builtinRd, hx, Rd.eval_bind, Option.bind_eq_some_iff] at he
  obtain ⟨⟨⟨k, p⟩, l1⟩, h1, ⟨⟨k', q⟩, l2⟩, h2, h3⟩ := he
  have e1 := rdInt_sound h h1
  have e2 := rdInt_sound h h2
  simp only at h3 e1 e2
  split at h3
  · rename_i hk
    subst hk
    rw [retOne_eval h3]
    refine OpOK.value (v := .int k (bif decide (q < p) then q else p)) ?_ (h.putCell hd (good_int _ _))
    simp only [execOp, ho, resolve, hc, invoke, builtin, array2 hx, Sem.run_bind, Sem.run_pure, Result.andThen_ok, List.map_toArray, List.map_cons, List.map_nil, Builtin.min_, List.foldlM, e1, e2, Builtin.min2]
    by_cases hpq : q < p <;> simp [hpq]
  · simp [Rd.eval] at h3
end
end Go.VI
namespace Go.VI
open Go.RowKit
def RelArgs (P : Program) (G : World → Prop) (Z : Nat → Prop) (w : World) : (As : List ATy) → denA As → List Value → Prop
  | [], _, vs => vs = []
  | .data g t :: r, x, vs => ∃ us vs', vs = mkVal g us :: vs' ∧ (g = false → us.length = 1) ∧ RepI Z w t x.1 us ∧ RelArgs P G Z w r x.2 vs'
  | .ptr t :: r, x, vs => ∃ (ad : Addr) (us vs' : List Value), vs = .pointer (some ad) :: vs' ∧ Z ad.block ∧ RepI Z w t x.1 us ∧ (∀ j u, us[j]? = some u → w.cell? (ad.add j) = some u) ∧ RelArgs P G Z w r x.2 vs'
  | .clo a b :: r, x, vs => ∃ v vs', vs = v :: vs' ∧ CloOK P G Z w a b x.1 v ∧ RelArgs P G Z w r x.2 vs'
  | .lrow .. :: _, _, _ => False
  | .lptr _ :: _, _, _ => False
section
variable {A : Fix} {X : Ctx} {γ : Gh} {Fr : Nat → Prop} {env : Env} {a : Act} {w w' : World} {vn : Nat} {o : Oper} {us : List Upd} {lg : List Slot}
theorem zoneOf_app {ss ss' : List Src} {g : Nat} : zoneOf γ (ss ++ ss') g ↔ zoneOf γ ss g ∨ zoneOf γ ss' g := by
  simp only [zoneOf, List.mem_append]
  constructor
  · rintro (h | ⟨s, hs | hs, hb⟩)
    · exact .inl (.inl h)
    · exact .inl (.inr ⟨s, hs, hb⟩)
    · exact .inr (.inr ⟨s, hs, hb⟩)
  · rintro ((h | ⟨s, hs, hb⟩) | (h | ⟨s, hs, hb⟩))
    · exact .inl h
    · exact .inr ⟨s, .inl hs, hb⟩
    · exact .inl h
    · exact .inr ⟨s, .inr hs, hb⟩
theorem solid_own {c c' : Cell} {ss : List Src} {e : Slot → AV} {l0 l1 : List Slot} (ho : c.isOwn = false) (hs : (solid c).eval e l0 = some ((c', ss), l1)) : c'.isOwn = false ∧ (∀ r, refs c' = some r → refs c = some r) := by
  cases c with
  | view x ver =>
    simp only [solid, Rd.eval_bind, Option.bind_eq_some_iff] at hs
    obtain ⟨_, _, h2⟩ := hs
    simp only [Rd.eval, Option.some.injEq, Prod.mk.injEq] at h2
    obtain ⟨⟨rfl, _⟩, _⟩ := h2
    exact ⟨rfl, by simp [refs]⟩
  | sub x ver sz lo hi =>
    simp only [solid, Rd.eval_bind, Option.bind_eq_some_iff] at hs
    obtain ⟨p, _, h2⟩ := hs
    cases hb : Nat.beq sz p.1.2.1.size <;> rw [hb] at h2 <;> simp [Rd.eval] at h2
    obtain ⟨⟨rfl, _⟩, _⟩ := h2
    exact ⟨rfl, by simp [refs]⟩
  | barr b bv off n t =>
    simp only [solid, Rd.eval_bind, Option.bind_eq_some_iff] at hs
    obtain ⟨_, _, _, _, h2⟩ := hs
    simp only [Rd.eval, Option.some.injEq, Prod.mk.injEq] at h2
    obtain ⟨⟨rfl, _⟩, _⟩ := h2
    exact ⟨rfl, by simp [refs]⟩
  | _ =>
    simp only [solid, Rd.eval, Option.some.injEq, Prod.mk.injEq] at hs
    obtain ⟨⟨rfl, _⟩, _⟩ := hs
    exact ⟨ho, fun _ h => h⟩
theorem solids_sound (h : Core A X γ Fr env a w) (Z' : Nat → Prop) : ∀ (cs : List Cell) {us : List Value} {cs' : List Cell} {ss : List Src} {l0 l1 : List Slot}, RelCs A γ w Fr cs us → (solids cs).eval env.get l0 = some ((cs', ss), l1) →
    (∀ g, zoneOf γ ss g → Z' g) → RelCs A { γ with Z := Z' } w Fr cs' us
  | [], us, cs', ss, l0, l1, hr, he, _ => by
    simp only [solids, Rd.eval, Option.some.injEq, Prod.mk.injEq] at he
    obtain ⟨⟨rfl, _⟩, _⟩ := he
    exact hr
  | c :: r, us, cs', ss, l0, l1, ⟨u, us', h1, h2, h3⟩, he, hZ => by
    simp only [solids, Rd.eval_bind, Option.bind_eq_some_iff] at he
    obtain ⟨⟨⟨c', s1⟩, l2⟩, k1, ⟨⟨r', s2⟩, l3⟩, k2, k3⟩ := he
    simp only [Rd.eval, Option.some.injEq, Prod.mk.injEq] at k3
    obtain ⟨⟨rfl, rfl⟩, _⟩ := k3
    have q := solid_own h2.2.2.2 k1
    exact ⟨u, us', h1, ⟨(slice_reads h h2 k1 Z' fun g hg => hZ g (zoneOf_app.2 (.inl hg))).1, h2.2.1, fun r hr => h2.2.2.1 r (q.2 r hr), q.1⟩,
      solids_sound h Z' r h3 k2 fun g hg => hZ g (zoneOf_app.2 (.inr hg))⟩
theorem solidArgs_sound (h : Core A X γ Fr env a w) (Z' : Nat → Prop) : ∀ (cs : List (Bool × List Cell)) {vs : List Value} {cs' : List (Bool × List Cell)} {ss : List Src} {l0 l1 : List Slot}, RelComps A γ w Fr cs vs →
    (solidArgs cs).eval env.get l0 = some ((cs', ss), l1) → (∀ g, zoneOf γ ss g → Z' g) → RelComps A { γ with Z := Z' } w Fr cs' vs
  | [], vs, cs', ss, l0, l1, hr, he, _ => by
    simp only [solidArgs, Rd.eval, Option.some.injEq, Prod.mk.injEq] at he
    obtain ⟨⟨rfl, _⟩, _⟩ := he
    exact hr
  | p :: r, vs, cs', ss, l0, l1, ⟨v, vs', h1, ⟨us, hv, hl, h2⟩, h3⟩, he, hZ => by
    simp only [solidArgs, Rd.eval_bind, Option.bind_eq_some_iff] at he
    obtain ⟨⟨⟨c', s1⟩, l2⟩, k1, ⟨⟨r', s2⟩, l3⟩, k2, k3⟩ := he
    simp only [Rd.eval, Option.some.injEq, Prod.mk.injEq] at k3
    obtain ⟨⟨rfl, rfl⟩, _⟩ := k3
    have hc := solids_sound h Z' p.2 h2 k1 fun g hg => hZ g (zoneOf_app.2 (.inl hg))
    exact ⟨v, vs', h1, ⟨us, hv, fun hg => by rw [← hc.length, h2.length]; exact hl hg, hc⟩, solidArgs_sound h Z' r h3 k2 fun g hg => hZ g (zoneOf_app.2 (.inr hg))⟩
theorem implode_all {Z : Nat → Prop} {t : Ty} {cs : List Cell} {us : List Value} {x : t.den} (h : implode t cs = some (x, [])) (hr : RelCs A { γ with Z := Z } w Fr cs us) : RepI Z w t x us := by
  obtain ⟨u1, u2, rfl, r1, r2⟩ := implode_rel t cs us x [] h hr
  rw [show u2 = [] from r2, List.append_nil]
  exact r1
theorem implodeArgs_ptr {t : Ty} {as : List ATy} {cs : List (Bool × List Cell)} {q : denA (.ptr t :: as) × List Src} {e : Slot → AV} {l0 l1 : List Slot} (he : (implodeArgs (.ptr t :: as) cs).eval e l0 = some (q, l1)) : ∃ c r, cs = (false, [c]) :: r := by
  match cs with
  | [] => simp [implodeArgs, Rd.eval] at he
  | (true, _) :: r => simp [implodeArgs, Rd.eval] at he
  | (false, []) :: r => simp [implodeArgs, Rd.eval] at he
  | (false, c :: c' :: q) :: r => simp [implodeArgs, Rd.eval] at he
  | (false, [c]) :: r => exact ⟨c, r, rfl⟩
theorem implodeArgs_clo {b1 b2 : List (Bool × Ty)} {as : List ATy} {cs : List (Bool × List Cell)} {q : denA (.clo b1 b2 :: as) × List Src} {e : Slot → AV} {l0 l1 : List Slot} (he : (implodeArgs (.clo b1 b2 :: as) cs).eval e l0 = some (q, l1)) :
    ∃ a b F r, cs = (false, [.clo a b F]) :: r := by
  match cs with
  | [] => simp [implodeArgs, Rd.eval] at he
  | (true, _) :: r => simp [implodeArgs, Rd.eval] at he
  | (false, []) :: r => simp [implodeArgs, Rd.eval] at he
  | (false, c :: c' :: q) :: r => simp [implodeArgs, Rd.eval] at he
  | (false, [c]) :: r => cases c <;> first | exact ⟨_, _, _, r, rfl⟩ | simp [implodeArgs, Rd.eval] at he
theorem implodeArgs_lent {as : List ATy} {cs : List (Bool × List Cell)} {e : Slot → AV} {l0 l1 : List Slot} : (∀ g t es (q : denA (.lrow g t es :: as) × List Src), (implodeArgs (.lrow g t es :: as) cs).eval e l0 ≠ some (q, l1)) ∧
    ∀ t (q : denA (.lptr t :: as) × List Src), (implodeArgs (.lptr t :: as) cs).eval e l0 ≠ some (q, l1) := by
  constructor
  · intro g t es q
    match cs with
    | [] => simp [implodeArgs, Rd.eval]
    | (g', c) :: r => cases g' <;> simp [implodeArgs, Rd.eval]
  · intro t q
    match cs with
    | [] => simp [implodeArgs, Rd.eval]
    | (g', c) :: r => cases g' <;> simp [implodeArgs, Rd.eval]
theorem implodeArgs_sound (h : Core A X γ Fr env a w) (Z : Nat → Prop) (hγZ : ∀ g, γ.Z g → Z g) : ∀ (As : List ATy) (cs : List (Bool × List Cell)) {vs : List Value} {xs : denA As} {ss : List Src} {l0 l1 : List Slot},
    RelComps A { γ with Z := Z } w Fr cs vs → (implodeArgs As cs).eval env.get l0 = some ((xs, ss), l1) → (∀ s ∈ ss, ∀ g, srcBlock γ g s → Z g) → RelArgs A.P A.G Z w As xs vs
  | [], cs, vs, xs, ss, l0, l1, hr, he, _ => by
    cases cs with
    | nil => exact hr
    | cons p r => simp [implodeArgs, Rd.eval] at he
  | .data g t :: as, cs, vs, xs, ss, l0, l1, hr, he, hs => by
    cases cs with
    | nil => simp [implodeArgs, Rd.eval] at he
    | cons p r =>
      obtain ⟨g', c⟩ := p
      obtain ⟨v, vs', h1, ⟨us, hv, hl, h2⟩, h3⟩ := hr
      simp only [implodeArgs] at he
      cases hg : (g == g') with
      | false => rw [hg] at he; simp [Rd.eval] at he
      | true =>
        rw [hg] at he
        have hg : g = g' := by simpa using hg
        subst hg
        simp only [cond_true] at he
        split at he
        · rename_i x hx
          simp only [Rd.eval_bind, Option.bind_eq_some_iff] at he
          obtain ⟨⟨⟨q1, q2⟩, l2⟩, k1, k2⟩ := he
          simp only [Rd.eval, Option.some.injEq, Prod.mk.injEq] at k2
          obtain ⟨⟨rfl, rfl⟩, _⟩ := k2
          exact ⟨us, vs', by rw [h1, hv], fun hgf => by rw [h2.length]; exact hl hgf, implode_all hx h2, implodeArgs_sound h Z hγZ as r h3 k1 hs⟩
        · simp [Rd.eval] at he
  | .ptr t :: as, cs, vs, xs, ss, l0, l1, hr, he, hs => by
    obtain ⟨c, r, rfl⟩ := implodeArgs_ptr he
    · simp only [implodeArgs] at he
      simp only [Rd.eval_bind, Option.bind_eq_some_iff] at he
      obtain ⟨⟨⟨p1, p2⟩, l2⟩, k1, k2⟩ := he
      simp only at k2
      split at k2
      · rename_i x hx
        simp only [Rd.eval_bind, Option.bind_eq_some_iff] at k2
        obtain ⟨⟨⟨q1, q2⟩, l3⟩, k3, k4⟩ := k2
        simp only [Rd.eval, Option.some.injEq, Prod.mk.injEq] at k4
        obtain ⟨⟨rfl, rfl⟩, _⟩ := k4
        obtain ⟨v, vs', h1, ⟨us, hv, hl, u, us', rfl, hg, h2⟩, h3⟩ := hr
        have hv : v = u := hv
        have ih := implodeArgs_sound h Z hγZ as r h3 k3 fun s hs' => hs s (List.mem_append_right _ hs')
        have hs1 := fun s (hs' : s ∈ p2) => hs s (List.mem_append_left _ hs')
        unfold getPtr at k1
        split at k1
        · rename_i b bv
          simp only [Rd.eval_bind, Option.bind_eq_some_iff] at k1
          obtain ⟨⟨⟨fz, cs0⟩, l4⟩, m1, m2⟩ := k1
          simp only [Rd.eval, Option.some.injEq, Prod.mk.injEq] at m2
          obtain ⟨⟨rfl, rfl⟩, _⟩ := m2
          obtain ⟨c1, c2⟩ := h.boxCells (boxAt_eval m1) 0
          simp only [List.drop_zero] at c1 c2
          have hzx : ZExt γ { γ with Z := Z } := ⟨rfl, rfl, rfl, hγZ⟩
          have c1' := RelCs.zext hzx c1
          refine ⟨⟨γ.σ b bv, 0, none⟩, _, vs', by rw [h1, hv]; exact congrArg (· :: vs') hg.1, hs1 _ (List.mem_singleton.2 rfl) _ rfl, implode_all hx c1', fun j u hu => ?_, ih⟩
          have := c2 j u hu
          simpa [add_plain] using this
        · rename_i t0 x0
          simp only [Rd.eval, Option.some.injEq, Prod.mk.injEq] at k1
          obtain ⟨⟨rfl, rfl⟩, _⟩ := k1
          obtain ⟨ad, us0, hv0, hz, hrep, hcell⟩ := hg.1
          have hexp := explode_rel (A := A) (γ := { γ with Z := Z }) (w := w) (Fr := Fr) t0 x0 us0 hrep
          have had : ad.add 0 = ad := by simp [Addr.add]
          refine ⟨ad, us0, vs', by rw [h1, hv, hv0, had]; rfl, hz, implode_all hx hexp, hcell, ih⟩
        · simp [Rd.eval] at k1
      · simp [Rd.eval] at k2
  | .clo b1 b2 :: as, cs, vs, xs, ss, l0, l1, hr, he, hs => by
    obtain ⟨d1, d2, F, r, rfl⟩ := implodeArgs_clo he
    · simp only [implodeArgs] at he
      split at he
      · rename_i hh
        obtain ⟨rfl, rfl⟩ := hh
        simp only [Rd.eval_bind, Option.bind_eq_some_iff] at he
        obtain ⟨⟨⟨q1, q2⟩, l3⟩, k3, k4⟩ := he
        simp only [Rd.eval, Option.some.injEq, Prod.mk.injEq] at k4
        obtain ⟨⟨rfl, rfl⟩, _⟩ := k4
        obtain ⟨v, vs', h1, ⟨us, hv, hl, u, us', rfl, hg, h2⟩, h3⟩ := hr
        have hv : v = u := hv
        exact ⟨v, vs', h1, by rw [hv]; exact hg.1, implodeArgs_sound h Z hγZ as r h3 k3 hs⟩
      · simp [Rd.eval] at he
  | .lrow g t es :: as, cs, vs, xs, ss, l0, l1, hr, he, hs => absurd he (implodeArgs_lent.1 g t es _)
  | .lptr t :: as, cs, vs, xs, ss, l0, l1, hr, he, hs => absurd he (implodeArgs_lent.2 t _)
theorem freezeAll_sound {env0 : Env} : ∀ (ss : List Src) (xs : List Loc) (γ : Gh) (env1 : Env) (us : List Upd) (lg lg' : List Slot),
    Core A X γ Fr env1 a w → (∀ y, memLoc y xs = false → envCell env1 y = envCell env0 y) → (∀ y, memLoc y xs = true → ∀ g, (γ.φ y).ownBlock = some g → γ.Z g) →
    (freezeAll xs ss).eval env0.get lg = some (us, lg') → ∃ γ', Core A X γ' Fr (appAll env1 us) a w ∧ ZExt γ γ' ∧ ∀ g, zoneOf γ ss g → γ'.Z g
  | [], xs, γ, env1, us, lg, lg', hc, hag, hx, he => by
    simp only [freezeAll, Rd.eval, Option.some.injEq, Prod.mk.injEq] at he
    obtain ⟨rfl, _⟩ := he
    refine ⟨γ, hc, ZExt.refl γ, fun g hg => ?_⟩
    rcases hg with hg | ⟨s, hs, _⟩
    · exact hg
    · cases hs
  | .arr b bv :: r, xs, γ, env1, us, lg, lg', hc, hag, hx, he => by simp [freezeAll, Rd.eval] at he
  | .row x :: r, xs, γ, env1, us, lg, lg', hc, hag, hx, he => by
    simp only [freezeAll] at he
    cases hm : memLoc x xs with
    | true =>
      rw [hm] at he
      obtain ⟨γ', k1, k2, k3⟩ := freezeAll_sound r xs γ env1 us lg lg' hc hag hx he
      refine ⟨γ', k1, k2, fun g hg => ?_⟩
      rcases hg with hg | ⟨s, hs, hb⟩
      · exact k2.2.2.2 g hg
      · rcases List.mem_cons.1 hs with rfl | hs
        · exact k2.2.2.2 g (hx x hm g hb)
        · exact k3 g (.inr ⟨s, hs, hb⟩)
    | false =>
      rw [hm] at he
      cases hnl : x.s.isLent with
      | true => rw [hnl] at he; simp [Rd.eval] at he
      | false =>
      rw [hnl] at he
      simp only [cond_false, Rd.eval] at he
      split at he
      · rename_i e t ver l hcell
        simp only [Rd.eval_bind, Option.bind_eq_some_iff] at he
        obtain ⟨⟨us1, l2⟩, h2, h3⟩ := he
        simp only [Rd.eval, Option.some.injEq, Prod.mk.injEq] at h3
        obtain ⟨rfl, _⟩ := h3
        have hx1 : envCell env1 x = some (.own e t ver l) := by rw [hag x hm]; exact hcell
        have hk := hc.freeze hx1 hnl
        have hz : ZExt γ { γ with Z := fun g => γ.Z g ∨ (γ.φ x).ownBlock = some g } := ⟨rfl, rfl, rfl, fun g hg => .inl hg⟩
        obtain ⟨γ', k1, k2, k3⟩ := freezeAll_sound r (x :: xs) _ _ us1 _ l2 hk (fun y hy => by
            simp only [memLoc, Bool.or_eq_false_iff] at hy
            have hne : y ≠ x := fun e => by rw [e] at hy; have := Loc.beq_iff.2 (rfl : x = x); rw [this] at hy; exact absurd hy.1 (by simp)
            rw [envCell_app_cell, if_neg (fun hh => hne hh.1)]
            exact hag y hy.2) (fun y hy g hg => by
            simp only [memLoc, Bool.or_eq_true, Loc.beq_iff] at hy
            rcases hy with rfl | hy
            · exact .inr hg
            · exact .inl (hx y hy g hg)) h2
        refine ⟨γ', k1, hz.trans k2, fun g hg => ?_⟩
        rcases hg with hg | ⟨s, hs, hb⟩
        · exact k2.2.2.2 g (.inl hg)
        · rcases List.mem_cons.1 hs with rfl | hs
          · exact k2.2.2.2 g (.inr hb)
          · refine k3 g (.inr ⟨s, hs, ?_⟩)
            cases s <;> exact hb
      · simp [Rd.eval] at he
end
end Go.VI
namespace Go.VI
open Go.RowKit
def RRel (Z : Nat → Prop) (w : World) (B : Nat) (avs : List Value) : RCell → Value → Prop
  | .flat c, u => zcell c = true ∧ u = cellV c
  | .own e t l, u => OwnV Z w B e t u l ∧ ∀ g, u.ownBlock = some g → ¬ Z g
  | .imm t l, u => RepI Z w (.sl t) l [u]
  | .pass j, u => avs[j]? = some u
  | .bad, _ => False
def RCell.isOwn : RCell → Bool
  | .own .. => true
  | _ => false
def ResRel (Z : Nat → Prop) (w : World) (B : Nat) (avs : List Value) (rs : List (Bool × List RCell)) (vs : List Value) : Prop :=
  ∃ f : Nat → Nat → Value, vs.length = rs.length ∧
    (∀ i p, rs[i]? = some p → vs[i]? = some (mkVal p.1 ((List.range p.2.length).map (f i))) ∧ (p.1 = false → p.2.length = 1) ∧ ∀ j rc, p.2[j]? = some rc → RRel Z w B avs rc (f i j)) ∧
    ∀ i j i' j' p p' rc rc' g, rs[i]? = some p → p.2[j]? = some rc → rc.isOwn = true → rs[i']? = some p' → p'.2[j']? = some rc' → rc'.isOwn = true →
      (f i j).ownBlock = some g → (f i' j').ownBlock = some g → i = i' ∧ j = j'
def avsOf (vs : List Value) : List Value := (vs.map fun v => v.cells.toList).flatten
def Sound (P : Program) (G : World → Prop) (f : FuncId) (C : Contract) : Prop :=
  ∀ (w : World) (Z : Nat → Prop) (vs : List Value) (xs : denA C.As) (r : denL C.R), G w → (∀ g, Z g → g < w.heap.size) → RelArgs P G Z w C.As xs vs → C.F xs = some r →
    FCalls P f vs.toArray w fun v w' => ∃ Z' us, v = mkRes us ∧ Below w.heap.size w w' ∧ (∀ g, Z g → Z' g) ∧ (∀ g, Z' g → Z g ∨ (w.heap.size ≤ g ∧ g < w'.heap.size)) ∧
      ResRel Z' w' w.heap.size (avsOf vs) (resL C.R r C.modes) us
def ConOK (P : Program) (G : World → Prop) (X : Ctx) : Prop := ∀ f C, C ∈ looks X.con f → Sound P G f C
theorem look_looks {α : Type} : ∀ {l : List (Nat × α)} {k : Nat} {x : α}, look l k = some x → x ∈ looks l k
  | [], k, x, h => by simp [look] at h
  | p :: r, k, x, h => by
    simp only [look] at h
    simp only [looks]
    cases hb : Nat.beq p.1 k with
    | true => rw [hb] at h; simp only [cond_true, Option.some.injEq] at h; subst h; simp
    | false => rw [hb] at h; simp only [cond_false] at h ⊢; exact look_looks h
theorem callAlts_eval {vn : Nat} {cs : List (Bool × List Cell)} {e : Slot → AV} : ∀ (r : List Contract) (C : Contract) {q : List (Bool × List Cell) × List Upd} {l0 l1 : List Slot}, (callAlts vn cs C r).eval e l0 = some (q, l1) → ∃ D ∈ C :: r, ∃ m0 m1, (callBy D vn cs).eval e m0 = some (q, m1)
  | [], C, q, l0, l1, h => ⟨C, List.mem_cons_self .., l0, l1, h⟩
  | D :: r, C, q, l0, l1, h => by
    simp only [callAlts, Rd.eval_bind, Option.bind_eq_some_iff] at h
    obtain ⟨⟨p, l2⟩, _, ⟨xs, l3⟩, _, h3⟩ := h
    simp only [Rd.eval] at h3
    cases hb : (C.F xs.1).isSome with
    | true => rw [hb] at h3; exact ⟨C, List.mem_cons_self .., _, _, h3⟩
    | false =>
      rw [hb] at h3
      obtain ⟨E, hE, m0, m1, h4⟩ := callAlts_eval r D h3
      exact ⟨E, List.mem_cons_of_mem _ hE, m0, m1, h4⟩
theorem OwnV.base {Z : Nat → Prop} {w : World} {B B' : Nat} {e : TypeId} {t : Ty} {v : Value} {l : List t.den} (h : OwnV Z w B e t v l) (hB : B' ≤ B) : OwnV Z w B' e t v l := by
  obtain ⟨h0, xs, ho, hr⟩ := h
  refine ⟨h0, xs, ⟨ho.1, ?_⟩, hr⟩
  rcases ho.2 with hn | ⟨g, cap, cur, fz, h1, h2, rest⟩
  · exact .inl hn
  · exact .inr ⟨g, cap, cur, fz, h1, Nat.le_trans hB h2, rest⟩
theorem resM_flat : ∀ (t : Ty) (x : t.den) (ms : List RMode), (ms.any fun | .imm => true | _ => false) = false → inner t = false →
    (∀ rc ∈ (resM t x ms).1, (∀ e t' l, rc = .own e t' l → leads t' = false) ∧ ∀ t' l, rc ≠ .imm t' l) ∧ ((resM t x ms).2.any fun | .imm => true | _ => false) = false
  | .int k, x, ms, hm, _ => ⟨by simp [resM], hm⟩
  | .bool, x, ms, hm, _ => ⟨by simp [resM], hm⟩
  | .str, x, ms, hm, _ => ⟨by simp [resM], hm⟩
  | .unit, x, ms, hm, _ => ⟨by simp [resM], hm⟩
  | .pair a b, x, ms, hm, hi => by
    simp only [inner, Bool.or_eq_false_iff] at hi
    obtain ⟨k1, k2⟩ := resM_flat a x.1 ms hm hi.1
    obtain ⟨k3, k4⟩ := resM_flat b x.2 _ k2 hi.2
    refine ⟨fun rc hrc => ?_, k4⟩
    simp only [resM, List.mem_append] at hrc
    rcases hrc with hrc | hrc
    · exact k1 rc hrc
    · exact k3 rc hrc
  | .sl t, l, [], hm, hi => ⟨by simp [resM], rfl⟩
  | .sl t, l, .own e :: ms, hm, hi => by
    simp only [List.any_cons, Bool.or_eq_false_iff] at hm
    refine ⟨fun rc hrc => ?_, hm.2⟩
    simp only [resM, List.mem_singleton] at hrc
    subst hrc
    exact ⟨fun e' t' l' hh => by injection hh with _ h2 _; subst h2; exact hi, fun t' l' hh => by cases hh⟩
  | .sl t, l, .imm :: ms, hm, hi => by simp at hm
  | .sl t, l, .pass j :: ms, hm, hi => by
    refine ⟨fun rc hrc => ?_, by simpa [resM] using hm⟩
    have hrc : rc = .pass j := by simpa [resM] using hrc
    subst hrc
    constructor
    · intro e' t' l' hh; cases hh
    · intro t' l' hh; cases hh
theorem resL_flat : ∀ (R : List (Bool × Ty)) (x : denL R) (ms : List RMode), (ms.any fun | .imm => true | _ => false) = false → (R.any fun p => inner p.2) = false →
    ∀ p ∈ resL R x ms, ∀ rc ∈ p.2, (∀ e t' l, rc = .own e t' l → leads t' = false) ∧ ∀ t' l, rc ≠ .imm t' l
  | [], x, ms, hm, _ => by simp [resL]
  | q :: r, x, ms, hm, hi => by
    simp only [List.any_cons, Bool.or_eq_false_iff] at hi
    obtain ⟨k1, k2⟩ := resM_flat q.2 x.1 ms hm hi.1
    have ih := resL_flat r x.2 _ k2 hi.2
    intro p hp
    simp only [resL, List.mem_cons] at hp
    rcases hp with rfl | hp
    · exact k1
    · exact ih p hp
section
variable {A : Fix} {X : Ctx} {γ : Gh} {Fr : Nat → Prop} {env : Env} {a : Act} {w w' : World} {vn : Nat} {o : Oper} {us : List Upd} {lg : List Slot}
theorem RelComps.flat : ∀ {cs : List (Bool × List Cell)} {vs : List Value}, RelComps A γ w Fr cs vs → RelCs A γ w Fr (cs.map (·.2)).flatten (avsOf vs)
  | [], vs, h => by rw [show vs = [] from h]; exact rfl
  | p :: r, vs, ⟨v, vs', h1, ⟨us, hv, hl, h2⟩, h3⟩ => by
    rw [h1, hv]
    have : avsOf (mkVal p.1 us :: vs') = us ++ avsOf vs' := by
      simp [avsOf, mkVal_cells h2.one (fun hg => by rw [h2.length]; exact hl hg)]
    rw [this, List.map_cons, List.flatten_cons]
    exact h2.append (RelComps.flat h3)
def InstComps (A : Fix) (γ : Gh) (w : World) (Fr : Nat → Prop) (vn : Nat) (env : Env) (cs : List (Bool × List Cell)) (f : Nat → Nat → Value) : Prop :=
  (∀ i p, cs[i]? = some p → (p.1 = false → p.2.length = 1) ∧ ∀ j c, p.2[j]? = some c → (c.isOwn = false → GoodR A γ w Fr c (f i j)) ∧
    (∀ e t v l, c = .own e t v l → v = vn ∧ OwnV γ.Z w A.B e t (f i j) l ∧ ∀ g, (f i j).ownBlock = some g → Free A γ env g)) ∧
  ∀ i j i' j' p p' c c' g, cs[i]? = some p → p.2[j]? = some c → c.isOwn = true → cs[i']? = some p' → p'.2[j']? = some c' → c'.isOwn = true →
      (f i j).ownBlock = some g → (f i' j').ownBlock = some g → i = i' ∧ j = j'
theorem asAV_cell {cs : List (Bool × List Cell)} {i j : Nat} {c : Cell} (h : (asAV cs).cell? i j = some c) : ∃ p, cs[i]? = some p ∧ p.2[j]? = some c := by
  unfold asAV at h
  split at h
  · rename_i g cs'
    cases i with
    | zero => exact ⟨_, rfl, h⟩
    | succ i => simp [AV.cell?] at h
  · simp only [AV.cell?, Option.bind_eq_some_iff] at h
    exact h
theorem Core.putRes (h : Core A X γ Fr env a w) (hv : Fr vn) (hd : dstOk X o) {cs : List (Bool × List Cell)} {f : Nat → Nat → Value} {vs : List Value} (hl : vs.length = cs.length)
    (hvs : ∀ i p, cs[i]? = some p → vs[i]? = some (mkVal p.1 ((List.range p.2.length).map (f i)))) (hi : InstComps A γ w Fr vn env cs f) :
    Holds A X (FrD Fr vn) (appAll env (dstSet o (asAV cs))) (a.put o.dst (mkRes vs)) w := by
  unfold dstSet
  cases hdst : o.dst with
  | none => exact ⟨γ, h.fr fun _ hh => hh.1⟩
  | some d =>
    refine ⟨_, h.setTmpG (hd d hdst) (asAV cs) f (mkRes vs) (setψ γ (.tmp d) vn f) (fun _ hh => hh.1) (setψ_old hv) ?_ ?_ ?_⟩
    · intro γ' hφ
      have hcv : ∀ i n, cellVals γ' (.tmp d) i n = (List.range n).map (f i) := fun i n => by simp [cellVals, hφ]
      unfold asAV
      split
      · rename_i g cs'
        have hv1 := hvs 0 _ rfl
        match vs, hl with
        | [v], _ =>
          simp only [List.getElem?_cons_zero, Option.some.injEq] at hv1
          exact ⟨by rw [hcv]; exact hv1, (hi.1 0 _ rfl).1⟩
      · rename_i hne
        refine ⟨?_, fun p hp => ?_⟩
        · have hm : mkRes vs = .tuple vs.toArray := by
            match vs, hl with
            | [], _ => rfl
            | [v], hl =>
              match cs, hl with
              | [p], _ => exact absurd rfl (hne p.1 p.2)
            | _ :: _ :: _, _ => rfl
          rw [hm]
          congr 2
          apply List.ext_getElem?
          intro i
          simp only [tupVals, List.getElem?_map, List.getElem?_zipIdx, hcv]
          cases hp : cs[i]? with
          | none =>
            have : cs.length ≤ i := by
              rcases Nat.lt_or_ge i cs.length with hlt | hge
              · simp [List.getElem?_eq_getElem hlt] at hp
              · exact hge
            simp [List.getElem?_eq_none (show vs.length ≤ i by omega)]
          | some p => simp [hvs i p hp]
        · obtain ⟨i, hi'⟩ := List.mem_iff_getElem?.1 hp
          exact (hi.1 i p hi').1
    · intro i j c hc
      obtain ⟨p, hp, hpj⟩ := asAV_cell hc
      obtain ⟨k1, k2⟩ := (hi.1 i p hp).2 j c hpj
      cases ho : c.isOwn with
      | false =>
        obtain ⟨g1, g2, g3, _⟩ := k1 ho
        exact ⟨g1.move (γ' := { γ with ψ := setψ γ (.tmp d) vn f }) (fun r hr y => setψ_old hv r (g3 r hr) y) (fun _ _ _ => rfl) (fun _ hz => hz) (fun _ _ => rfl) (Nat.le_refl _) (fun _ _ _ => rfl), g2, fun r hr hh => g3 r hr hh.1⟩
      | true =>
        cases c <;> simp [Cell.isOwn] at ho
        obtain ⟨_, k3, _⟩ := k2 _ _ _ _ rfl
        exact ⟨k3, by obtain ⟨B, c', hh, _⟩ := OwnV.slice k3; rw [hh]; rfl, by simp [refs]⟩
    · intro i j e t ver l hc
      obtain ⟨p, hp, hpj⟩ := asAV_cell hc
      obtain ⟨rfl, k3, k4⟩ := ((hi.1 i p hp).2 j _ hpj).2 _ _ _ _ rfl
      refine ⟨by simp [setψ], fun hh => hh.2 rfl, fun g hg => ⟨(k4 g hg).but _, fun i' j' e' t' ver' l' hc' hg' => ?_⟩⟩
      obtain ⟨p', hp', hpj'⟩ := asAV_cell hc'
      exact hi.2 i' j' i j p' p _ _ g hp' hpj' rfl hp hpj rfl hg' hg
theorem Core.zoneGrow (h : Core A X γ Fr env a w) {Z2 : Nat → Prop} (hZ : ∀ g, γ.Z g → Z2 g) (h2 : ∀ g, Z2 g → γ.Z g ∨ Free A γ env g) (h3 : ∀ g, Z2 g → g < w.heap.size) (h4 : ∀ g, Z2 g → γ.Z g ∨ A.w0.heap.size ≤ g) : Core A X { γ with Z := Z2 } Fr env a w := by
  refine { h with zone := h3, zone0 := ⟨fun g hg => hZ g (h.zone0.1 g hg), fun g hg => (h4 g hg).elim (h.zone0.2 g) .inr⟩, box := ?_, cell := ?_, own := ?_ }
  · intro b ver fz cs hb
    obtain ⟨b1, b2, b3, b4⟩ := h.box b ver fz cs hb
    refine ⟨b1, b2, ⟨fun hf => hZ _ (b3.1 hf), fun hz => ?_⟩, b4⟩
    rcases h2 _ hz with hz | hz
    · exact b3.2 hz
    · exact absurd rfl (hz.2.2.1 b ver fz cs hb)
  · intro x c hc
    obtain ⟨h1, k2, k3⟩ := h.cell x c hc
    exact ⟨h1.move (fun _ _ _ => rfl) (fun _ _ _ => rfl) hZ (fun _ _ => rfl) (Nat.le_refl _) (fun _ _ _ => rfl), k2, k3⟩
  · intro x e t ver l hc
    obtain ⟨k1, k2, k3⟩ := h.own x e t ver l hc
    refine ⟨k1, k2, fun g hg => ?_⟩
    obtain ⟨a1, a2, a3⟩ := k3 g hg
    refine ⟨fun hz => ?_, a2, a3⟩
    rcases h2 _ hz with hz | hz
    · exact a1 hz
    · exact hz.2.2.2 x e t ver l hc hg
theorem GoodR.world {c : Cell} {u : Value} (h : GoodR A γ w Fr c u) (hZ : ∀ g, γ.Z g → w'.heap[g]? = w.heap[g]?) (hs : w.heap.size ≤ w'.heap.size) : GoodR A γ w' Fr c u :=
  ⟨h.1.move (fun _ _ _ => rfl) (fun _ _ _ => rfl) (fun _ hz => hz) hZ hs (fun ho => by rw [h.2.2.2] at ho; cases ho), h.2⟩
theorem Core.row_lt (h : Core A X γ Fr env a w) {x : Loc} {e : TypeId} {t : Ty} {ver : Nat} {l : List t.den} (hx : envCell env x = some (.own e t ver l)) {g : Nat} (hg : srcBlock γ g (.row x)) : g < w.heap.size :=
  (OwnV.lt (h.cell x _ hx).1 g hg).2
theorem Core.arr_lt (h : Core A X γ Fr env a w) {b bv : Nat} {fz : Bool} {cs : List Cell} (hb : env.get (.box b) = .box bv fz cs) {g : Nat} (hg : srcBlock γ g (.arr b bv)) : g < w.heap.size := by
  obtain ⟨⟨T, h1⟩, _⟩ := h.box b bv fz cs hb
  rw [← show γ.σ b bv = g from hg]
  exact (Array.getElem?_eq_some_iff.1 h1).1
theorem solid_lt (h : Core A X γ Fr env a w) {c c' : Cell} {ss : List Src} {l0 l1 : List Slot} (hs : (solid c).eval env.get l0 = some ((c', ss), l1)) : ∀ s ∈ ss, ∀ g, srcBlock γ g s → g < w.heap.size := by
  cases c with
  | view x ver =>
    simp only [solid, Rd.eval_bind, Option.bind_eq_some_iff] at hs
    obtain ⟨_, k1, h2⟩ := hs
    simp only [Rd.eval, Option.some.injEq, Prod.mk.injEq] at h2
    obtain ⟨⟨_, rfl⟩, _⟩ := h2
    intro s hs g hg
    rw [List.mem_singleton.1 hs] at hg
    exact h.row_lt (ownerAt_eval k1) hg
  | sub x ver sz lo hi =>
    simp only [solid, Rd.eval_bind, Option.bind_eq_some_iff] at hs
    obtain ⟨p, k1, h2⟩ := hs
    cases hb : Nat.beq sz p.1.2.1.size <;> rw [hb] at h2 <;> simp [Rd.eval] at h2
    obtain ⟨⟨_, rfl⟩, _⟩ := h2
    intro s hs g hg
    rw [List.mem_singleton.1 hs] at hg
    exact h.row_lt (ownerAt_eval k1) hg
  | barr b bv off n t =>
    simp only [solid, Rd.eval_bind, Option.bind_eq_some_iff] at hs
    obtain ⟨_, k1, _, _, h2⟩ := hs
    simp only [Rd.eval, Option.some.injEq, Prod.mk.injEq] at h2
    obtain ⟨⟨_, rfl⟩, _⟩ := h2
    intro s hs g hg
    rw [List.mem_singleton.1 hs] at hg
    exact h.arr_lt (boxAt_eval k1) hg
  | _ =>
    simp only [solid, Rd.eval, Option.some.injEq, Prod.mk.injEq] at hs
    obtain ⟨⟨_, rfl⟩, _⟩ := hs
    intro s hs; cases hs
theorem solids_lt (h : Core A X γ Fr env a w) : ∀ (cs : List Cell) {cs' : List Cell} {ss : List Src} {l0 l1 : List Slot}, (solids cs).eval env.get l0 = some ((cs', ss), l1) → ∀ s ∈ ss, ∀ g, srcBlock γ g s → g < w.heap.size
  | [], cs', ss, l0, l1, he => by
    simp only [solids, Rd.eval, Option.some.injEq, Prod.mk.injEq] at he
    obtain ⟨⟨_, rfl⟩, _⟩ := he
    intro s hs; cases hs
  | c :: r, cs', ss, l0, l1, he => by
    simp only [solids, Rd.eval_bind, Option.bind_eq_some_iff] at he
    obtain ⟨⟨⟨c', s1⟩, l2⟩, k1, ⟨⟨r', s2⟩, l3⟩, k2, k3⟩ := he
    simp only [Rd.eval, Option.some.injEq, Prod.mk.injEq] at k3
    obtain ⟨⟨_, rfl⟩, _⟩ := k3
    intro s hs g hg
    rcases List.mem_append.1 hs with hs | hs
    · exact solid_lt h k1 s hs g hg
    · exact solids_lt h r k2 s hs g hg
theorem solidArgs_lt (h : Core A X γ Fr env a w) : ∀ (cs : List (Bool × List Cell)) {cs' : List (Bool × List Cell)} {ss : List Src} {l0 l1 : List Slot}, (solidArgs cs).eval env.get l0 = some ((cs', ss), l1) → ∀ s ∈ ss, ∀ g, srcBlock γ g s → g < w.heap.size
  | [], cs', ss, l0, l1, he => by
    simp only [solidArgs, Rd.eval, Option.some.injEq, Prod.mk.injEq] at he
    obtain ⟨⟨_, rfl⟩, _⟩ := he
    intro s hs; cases hs
  | c :: r, cs', ss, l0, l1, he => by
    simp only [solidArgs, Rd.eval_bind, Option.bind_eq_some_iff] at he
    obtain ⟨⟨⟨c', s1⟩, l2⟩, k1, ⟨⟨r', s2⟩, l3⟩, k2, k3⟩ := he
    simp only [Rd.eval, Option.some.injEq, Prod.mk.injEq] at k3
    obtain ⟨⟨_, rfl⟩, _⟩ := k3
    intro s hs g hg
    rcases List.mem_append.1 hs with hs | hs
    · exact solids_lt h _ k1 s hs g hg
    · exact solidArgs_lt h r k2 s hs g hg
theorem implodeArgs_lt (h : Core A X γ Fr env a w) : ∀ (As : List ATy) (cs : List (Bool × List Cell)) {xs : denA As} {ss : List Src} {l0 l1 : List Slot}, (implodeArgs As cs).eval env.get l0 = some ((xs, ss), l1) → ∀ s ∈ ss, ∀ g, srcBlock γ g s → g < w.heap.size
  | [], cs, xs, ss, l0, l1, he => by
    cases cs with
    | nil =>
      simp only [implodeArgs, Rd.eval, Option.some.injEq, Prod.mk.injEq] at he
      obtain ⟨⟨_, rfl⟩, _⟩ := he
      intro s hs; cases hs
    | cons p r => simp [implodeArgs, Rd.eval] at he
  | .data g t :: as, cs, xs, ss, l0, l1, he => by
    cases cs with
    | nil => simp [implodeArgs, Rd.eval] at he
    | cons p r =>
      obtain ⟨g', c⟩ := p
      simp only [implodeArgs] at he
      cases hg : (g == g') with
      | false => rw [hg] at he; simp [Rd.eval] at he
      | true =>
        rw [hg] at he
        simp only [cond_true] at he
        split at he
        · simp only [Rd.eval_bind, Option.bind_eq_some_iff] at he
          obtain ⟨⟨⟨q1, q2⟩, l2⟩, k1, k2⟩ := he
          simp only [Rd.eval, Option.some.injEq, Prod.mk.injEq] at k2
          obtain ⟨⟨_, rfl⟩, _⟩ := k2
          exact implodeArgs_lt h as r k1
        · simp [Rd.eval] at he
  | .ptr t :: as, cs, xs, ss, l0, l1, he => by
    obtain ⟨c, r, rfl⟩ := implodeArgs_ptr he
    simp only [implodeArgs, Rd.eval_bind, Option.bind_eq_some_iff] at he
    obtain ⟨⟨⟨p1, p2⟩, l2⟩, k1, k2⟩ := he
    simp only at k2
    split at k2
    · simp only [Rd.eval_bind, Option.bind_eq_some_iff] at k2
      obtain ⟨⟨⟨q1, q2⟩, l3⟩, k3, k4⟩ := k2
      simp only [Rd.eval, Option.some.injEq, Prod.mk.injEq] at k4
      obtain ⟨⟨_, rfl⟩, _⟩ := k4
      intro s hs g hg
      rcases List.mem_append.1 hs with hs | hs
      · unfold getPtr at k1
        split at k1
        · simp only [Rd.eval_bind, Option.bind_eq_some_iff] at k1
          obtain ⟨⟨⟨fz, cs0⟩, l4⟩, m1, m2⟩ := k1
          simp only [Rd.eval, Option.some.injEq, Prod.mk.injEq] at m2
          obtain ⟨⟨_, rfl⟩, _⟩ := m2
          rw [List.mem_singleton.1 hs] at hg
          exact h.arr_lt (boxAt_eval m1) hg
        · simp only [Rd.eval, Option.some.injEq, Prod.mk.injEq] at k1
          obtain ⟨⟨_, rfl⟩, _⟩ := k1
          cases hs
        · simp [Rd.eval] at k1
      · exact implodeArgs_lt h as r k3 s hs g hg
    · simp [Rd.eval] at k2
  | .clo b1 b2 :: as, cs, xs, ss, l0, l1, he => by
    obtain ⟨d1, d2, F, r, rfl⟩ := implodeArgs_clo he
    simp only [implodeArgs] at he
    split at he
    · simp only [Rd.eval_bind, Option.bind_eq_some_iff] at he
      obtain ⟨⟨⟨q1, q2⟩, l3⟩, k3, k4⟩ := he
      simp only [Rd.eval, Option.some.injEq, Prod.mk.injEq] at k4
      obtain ⟨⟨_, rfl⟩, _⟩ := k4
      exact implodeArgs_lt h as r k3
    · simp [Rd.eval] at he
  | .lrow g t es :: as, cs, xs, ss, l0, l1, he => absurd he (implodeArgs_lent.1 g t es _)
  | .lptr t :: as, cs, xs, ss, l0, l1, he => absurd he (implodeArgs_lent.2 t _)
theorem toCells_get {args : List Cell} {rs : List (Bool × List RCell)} {i : Nat} {p : Bool × List Cell} (h : (toCells args vn rs)[i]? = some p) : ∃ q, rs[i]? = some q ∧ p = (q.1, q.2.map (RCell.to args vn)) := by
  simp only [toCells, List.getElem?_map, Option.map_eq_some_iff] at h
  obtain ⟨q, h1, h2⟩ := h
  exact ⟨q, h1, h2.symm⟩
theorem toCells_cell {args : List Cell} {q : Bool × List RCell} {j : Nat} {c : Cell} (h : (q.2.map (RCell.to args vn))[j]? = some c) : ∃ rc, q.2[j]? = some rc ∧ c = rc.to args vn := by
  simp only [List.getElem?_map, Option.map_eq_some_iff] at h
  obtain ⟨rc, h1, h2⟩ := h
  exact ⟨rc, h1, h2.symm⟩
theorem resRel_inst {γ2 : Gh} {Z' : Nat → Prop} {B : Nat} {env1 : Env} {avs : List Value} {args : List Cell} {rs : List (Bool × List RCell)} {f : Nat → Nat → Value} (hB : A.B ≤ B)
    (hcell : ∀ i p, rs[i]? = some p → (p.1 = false → p.2.length = 1) ∧ ∀ j rc, p.2[j]? = some rc → RRel Z' w' B avs rc (f i j))
    (huniq : ∀ i j i' j' p p' rc rc' g, rs[i]? = some p → p.2[j]? = some rc → rc.isOwn = true → rs[i']? = some p' → p'.2[j']? = some rc' → rc'.isOwn = true →
      (f i j).ownBlock = some g → (f i' j').ownBlock = some g → i = i' ∧ j = j')
    (hargs : RelCs A γ2 w' Fr args avs)
    (hz : (∀ g, Z' g → γ2.Z g) ∨ ∀ p ∈ rs, ∀ rc ∈ p.2, (∀ e t' l, rc = .own e t' l → leads t' = false) ∧ ∀ t' l, rc ≠ .imm t' l)
    (hfree : ∀ g, B ≤ g → g < w'.heap.size → ¬ Z' g → Free A γ2 env1 g) : InstComps A γ2 w' Fr vn env1 (toCells args vn rs) f := by
  have own : ∀ (i j : Nat) (q : Bool × List RCell) (e : TypeId) (t : Ty) (l : List t.den), rs[i]? = some q → q.2[j]? = some (.own e t l) → OwnV γ2.Z w' A.B e t (f i j) l ∧ ∀ g, (f i j).ownBlock = some g → Free A γ2 env1 g := by
    intro i j q e t l hq hj
    obtain ⟨k1, k2⟩ := (hcell i q hq).2 j _ hj
    refine ⟨?_, fun g hg => hfree g (k1.lt g hg).1 (k1.lt g hg).2 (k2 g hg)⟩
    rcases hz with hz | hz
    · exact (k1.mono hz (fun _ _ => rfl) (fun _ _ => rfl)).base hB
    · exact (k1.flat ((hz q (List.mem_of_getElem? hq) _ (List.mem_of_getElem? hj)).1 e t l rfl)).base hB
  refine ⟨fun i p hp => ?_, fun i j i' j' p p' c c' g hp hc ho hp' hc' ho' hg hg' => ?_⟩
  · obtain ⟨q, hq, rfl⟩ := toCells_get hp
    refine ⟨fun hg => by rw [List.length_map]; exact (hcell i q hq).1 hg, fun j c hc => ?_⟩
    obtain ⟨rc, hrc, rfl⟩ := toCells_cell hc
    have hR := (hcell i q hq).2 j rc hrc
    cases rc with
    | flat c =>
      obtain ⟨k1, k2, k3, k4⟩ := zcell_rel (A := A) (γ := γ2) (w := w') hR.1
      have hR2 : f i j = cellV c := hR.2
      rw [hR2]
      refine ⟨fun _ => ⟨k1, k2, by simp [RCell.to, k3], k4⟩, fun e t v l hh => ?_⟩
      have hh : c = .own e t v l := hh
      rw [hh] at k4
      simp [Cell.isOwn] at k4
    | own e t l =>
      refine ⟨fun hh => by simp [RCell.to, Cell.isOwn] at hh, fun e' t' v' l' hh => ?_⟩
      have hh : Cell.own e t vn l = .own e' t' v' l' := hh
      injection hh with h1 h2 h3 h4
      subst h1; subst h2; subst h3
      have h4 := eq_of_heq h4
      subst h4
      exact ⟨rfl, own i j q _ _ _ hq hrc⟩
    | imm t l =>
      refine ⟨fun _ => ?_, fun e' t' v' l' hh => by cases hh⟩
      rcases hz with hz | hz
      · have hR : RepI Z' w' (.sl t) l [f i j] := hR
        refine ⟨⟨RepI.mono hz (fun _ _ => rfl) _ _ _ hR, by simp⟩, ?_, by simp [RCell.to, refs], rfl⟩
        exact RepI.one _ _ _ hR _ (by simp)
      · exact absurd rfl ((hz q (List.mem_of_getElem? hq) _ (List.mem_of_getElem? hrc)).2 t l)
    | pass k =>
      have hR : avs[k]? = some (f i j) := hR
      have hlt : k < args.length := by rw [← hargs.length]; exact (List.getElem?_eq_some_iff.1 hR).1
      obtain ⟨u, hu, hg⟩ := hargs.get (List.getElem?_eq_getElem hlt)
      rw [hR] at hu
      injection hu with hu
      subst hu
      have hc' : RCell.to args vn (.pass k) = args[k] := by simp [RCell.to, List.getD, List.getElem?_eq_getElem hlt]
      rw [hc']
      refine ⟨fun _ => hg, fun e t v l hh => ?_⟩
      have := hg.2.2.2
      rw [hh] at this
      simp [Cell.isOwn] at this
    | bad => exact hR.elim
  · obtain ⟨q, hq, rfl⟩ := toCells_get hp
    obtain ⟨rc, hrc, rfl⟩ := toCells_cell hc
    obtain ⟨q', hq', rfl⟩ := toCells_get hp'
    obtain ⟨rc', hrc', rfl⟩ := toCells_cell hc'
    have isO : ∀ (i j : Nat) (q : Bool × List RCell) (rc : RCell), rs[i]? = some q → q.2[j]? = some rc → (rc.to args vn).isOwn = true → rc.isOwn = true := by
      intro i j q rc hq hj ho
      have hR := (hcell i q hq).2 j rc hj
      cases rc with
      | flat c =>
        have := (zcell_rel (A := A) (γ := γ2) (w := w') hR.1).2.2.2
        have ho : c.isOwn = true := ho
        rw [ho] at this; cases this
      | own => rfl
      | imm => simp [RCell.to, Cell.isOwn] at ho
      | pass k =>
        have hR : avs[k]? = some (f i j) := hR
        have hlt : k < args.length := by rw [← hargs.length]; exact (List.getElem?_eq_some_iff.1 hR).1
        obtain ⟨u, hu, hg⟩ := hargs.get (List.getElem?_eq_getElem hlt)
        have hc' : RCell.to args vn (.pass k) = args[k] := by simp [RCell.to, List.getD, List.getElem?_eq_getElem hlt]
        rw [hc', hg.2.2.2] at ho; cases ho
      | bad => exact hR.elim
    exact huniq i j i' j' q q' rc rc' g hq hrc (isO i j q rc hq hrc ho) hq' hrc' (isO i' j' q' rc' hq' hrc' ho') hg hg'
theorem callBy_sound (h : Core A X γ Fr env a w) (hst : Stable A.n0 A.G) {f : FuncId} {C : Contract} (hC : Sound A.P A.G f C) {as : List (Bool × List Cell)} {vs : List Value} (hr : RelComps A γ w Fr as vs)
    {cs : List (Bool × List Cell)} {us : List Upd} {l0 l1 : List Slot} (he : (callBy C vn as).eval env.get l0 = some ((cs, us), l1)) :
    FCalls A.P f vs.toArray w fun v w' => ∃ γ2 uss fv, v = mkRes uss ∧ Core A X γ2 Fr (appAll env us) a w' ∧ uss.length = cs.length ∧
      (∀ i p, cs[i]? = some p → uss[i]? = some (mkVal p.1 ((List.range p.2.length).map (fv i)))) ∧ InstComps A γ2 w' Fr vn (appAll env us) cs fv := by
  simp only [callBy, Rd.eval_bind, Option.bind_eq_some_iff] at he
  obtain ⟨⟨⟨ps, ss⟩, l2⟩, h1, ⟨⟨xs, ss2⟩, l3⟩, h2, ⟨us0, l4⟩, h3, h4⟩ := he
  simp only [Rd.eval, Option.bind_eq_some_iff, Option.some.injEq, Prod.mk.injEq] at h4
  obtain ⟨r, hF, ⟨rfl, rfl⟩, _⟩ := h4
  simp only at h2 h3 hF
  have hZ0 : ∀ g, γ.Z g → zoneOf γ (ss ++ ss2) g := fun g hg => .inl hg
  have hps := solidArgs_sound h (zoneOf γ (ss ++ ss2)) as hr h1 fun g hg => zoneOf_app.2 (.inl hg)
  have hargs := implodeArgs_sound h (zoneOf γ (ss ++ ss2)) hZ0 C.As ps hps h2 (fun s hs g hb => .inr ⟨s, List.mem_append_right _ hs, hb⟩)
  have hlt : ∀ g, zoneOf γ (ss ++ ss2) g → g < w.heap.size := by
    rintro g (hg | ⟨s, hs, hg⟩)
    · exact h.zone g hg
    · rcases List.mem_append.1 hs with hs | hs
      · exact solidArgs_lt h as h1 s hs g hg
      · exact implodeArgs_lt h C.As ps h2 s hs g hg
  have key : ∃ γ1, Core A X γ1 Fr (appAll env us0) a w ∧ ZExt γ γ1 ∧ (freezes C.R C.modes = true → ∀ g, zoneOf γ (ss ++ ss2) g → γ1.Z g) := by
    cases hf : freezes C.R C.modes with
    | true =>
      rw [hf] at h3
      obtain ⟨γ1, k1, k2, k3⟩ := freezeAll_sound (ss ++ ss2) [] γ env us0 _ _ h (fun _ _ => rfl) (fun y hy => by simp [memLoc] at hy) h3
      exact ⟨γ1, k1, k2, fun _ => k3⟩
    | false =>
      rw [hf] at h3
      simp only [cond_false, Rd.eval, Option.some.injEq, Prod.mk.injEq] at h3
      obtain ⟨rfl, _⟩ := h3
      exact ⟨γ, h, ZExt.refl γ, fun hh => by cases hh⟩
  obtain ⟨γ1, c1, hz1, hfz⟩ := key
  refine (hC w (zoneOf γ (ss ++ ss2)) vs xs r h.glob hlt hargs hF).mono ?_
  rintro v w' ⟨Z', uss, rfl, hbel, hsub, hsup, f', hl, hcell, huniq⟩
  have hG : A.G w' := hst.below h.glob hbel
  have cw := c1.world (row := none) ⟨hbel.os, hbel.tape, hbel.output, hbel.size, fun k hk _ => hbel.block k hk, hbel.drawn⟩ (fun g hg => by cases hg) hG
  have hZ2lt : ∀ g, (γ1.Z g ∨ (Z' g ∧ w.heap.size ≤ g)) → g < w'.heap.size := by
    rintro g (hg | ⟨hg, _⟩)
    · exact cw.zone g hg
    · rcases hsup g hg with hg | hg
      · exact Nat.lt_of_lt_of_le (hlt g hg) hbel.size
      · exact hg.2
  have c2 := cw.zoneGrow (Z2 := fun g => γ1.Z g ∨ (Z' g ∧ w.heap.size ≤ g)) (fun g hg => .inl hg) (fun g hg => hg.imp id fun hh => c1.free_new hh.2) hZ2lt (fun g hg => hg.imp id fun hh => Nat.le_trans h.frame.size hh.2)
  have hz2 : ZExt γ { γ1 with Z := fun g => γ1.Z g ∨ (Z' g ∧ w.heap.size ≤ g) } := ⟨hz1.1, hz1.2.1, hz1.2.2.1, fun g hg => .inl (hz1.2.2.2 g hg)⟩
  refine ⟨{ γ1 with Z := fun g => γ1.Z g ∨ (Z' g ∧ w.heap.size ≤ g) }, uss, f', rfl, c2, by rw [hl]; simp [toCells], ?_, ?_⟩
  · intro i p hp
    obtain ⟨q, hq, rfl⟩ := toCells_get hp
    rw [(hcell i q hq).1, List.length_map]
  · have hkeep : ∀ g, zoneOf γ (ss ++ ss2) g → w'.heap[g]? = w.heap[g]? := fun g hg => hbel.block g (hlt g hg)
    refine resRel_inst (B := w.heap.size) (Z' := Z') (avs := avsOf vs) (Nat.le_trans h.baseB h.frame.size) (fun i p hp => (hcell i p hp).2) huniq ?_ ?_ ?_
    · cases hf : freezes C.R C.modes with
      | true =>
        simp only [cond_true]
        have hzz : ZExt { γ with Z := zoneOf γ (ss ++ ss2) } { γ1 with Z := fun g => γ1.Z g ∨ (Z' g ∧ w.heap.size ≤ g) } := ⟨hz1.1, hz1.2.1, hz1.2.2.1, fun g hg => .inl (hfz hf g hg)⟩
        have := RelComps.flat hps
        exact RelCs.of_get this.length fun j c u hc hu => by
          obtain ⟨u', hu', hg⟩ := this.get hc
          rw [hu] at hu'; injection hu' with hu'; subst hu'
          exact (hg.world hkeep hbel.size).zext hzz
      | false =>
        simp only [cond_false]
        have := RelComps.flat hr
        exact RelCs.of_get this.length fun j c u hc hu => by
          obtain ⟨u', hu', hg⟩ := this.get hc
          rw [hu] at hu'; injection hu' with hu'; subst hu'
          exact (hg.world (fun g hg => hbel.block g (h.zone g hg)) hbel.size).zext hz2
    · cases hf : freezes C.R C.modes with
      | true =>
        left
        intro g hg
        rcases hsup g hg with hg' | hg'
        · exact .inl (hfz hf g hg')
        · exact .inr ⟨hg, hg'.1⟩
      | false =>
        right
        simp only [freezes, hasImm, Bool.or_eq_false_iff] at hf
        exact resL_flat C.R r C.modes hf.1 hf.2
    · intro g hB hlt' hnz
      have hfr := c1.free_new hB
      refine ⟨hfr.1, fun hz => ?_, hfr.2.2.1, hfr.2.2.2⟩
      rcases hz with hz | hz
      · exact hfr.2.1 hz
      · exact hnz hz.1
end
end Go.VI
namespace Go.VI
open Go.RowKit
def Loose (A : Fix) (γ : Gh) (env : Env) (g : Nat) : Prop :=
  (A.w0.heap.size ≤ g ∨ A.L g) ∧ ¬ γ.Z g ∧ (∀ b bv fz cs, env.get (.box b) = .box bv fz cs → γ.σ b bv ≠ g) ∧ ∀ y e t ver l, envCell env y = some (.own e t ver l) → (γ.φ y).ownBlock ≠ some g
section
variable {A : Fix} {X : Ctx} {γ : Gh} {Fr : Nat → Prop} {env : Env} {a : Act} {w w' : World}
theorem Core.worldM (h : Core A X γ Fr env a w) (hos : w'.os = w.os) (htape : w'.tape = w.tape) (hout : w'.output = w.output) (hsz : w.heap.size ≤ w'.heap.size) (hdr : w.drawn ≤ w'.drawn)
    (hb : ∀ k, k < w.heap.size → ¬ Loose A γ env k → w'.heap[k]? = w.heap[k]?) (hG : A.G w') : Core A X γ Fr env a w' := by
  have hlt : ∀ {g : Nat} {o : Obj}, w.heap[g]? = some o → g < w.heap.size := fun hh => (Array.getElem?_eq_some_iff.1 hh).1
  have hZ : ∀ g, γ.Z g → w'.heap[g]? = w.heap[g]? := fun g hz => hb g (h.zone g hz) fun hl => hl.2.1 hz
  refine { frame := ⟨hos.trans h.frame.os, htape.trans h.frame.tape, hout.trans h.frame.output, Nat.le_trans h.frame.size hsz, fun k hk hL => ?_, Nat.le_trans h.frame.drawn hdr⟩, glob := hG, zone := fun g hz => Nat.lt_of_lt_of_le (h.zone g hz) hsz, zone0 := h.zone0, defers := h.defers, size := h.size, ntl := h.ntl, baseB := h.baseB, tmp := h.tmp, box := ?_, cell := ?_, own := h.own, inj := h.inj, fresh := h.fresh, lent := h.lent, lentloc := h.lentloc }
  · rw [hb k (Nat.lt_of_lt_of_le hk h.frame.size) (fun hl => hl.1.elim (fun h1 => by omega) hL)]
    exact h.frame.block k hk hL
  · intro b ver fz cs hbx
    obtain ⟨⟨T, h1⟩, h2⟩ := h.box b ver fz cs hbx
    refine ⟨⟨T, ?_⟩, h2⟩
    rw [hb _ (hlt h1) (fun hl => hl.2.2.1 b ver fz cs hbx rfl)]
    exact h1
  · intro x c hc
    obtain ⟨h1, h2, h3⟩ := h.cell x c hc
    refine ⟨h1.move (fun _ _ _ => rfl) (fun _ _ _ => rfl) (fun _ hz => hz) hZ hsz (fun hown g hgb => ?_), h2, h3⟩
    cases c <;> simp [Cell.isOwn] at hown
    exact hb g (h1.lt g hgb).2 fun hl => hl.2.2.2 x _ _ _ _ hc hgb
theorem Core.killBox (h : Core A X γ Fr env a w) (d : Nat) : Core A X γ Fr ((.box d, .undef) :: env) a w := by
  have hbx : ∀ b bv fz cs, Env.get ((.box d, .undef) :: env) (.box b) = .box bv fz cs → b ≠ d ∧ env.get (.box b) = .box bv fz cs := by
    intro b bv fz cs hb
    rw [Env.get_cons] at hb
    split at hb
    · cases hb
    · rename_i hh
      exact ⟨fun e => hh (by rw [e]), hb⟩
  have hc : ∀ x c, envCell ((.box d, .undef) :: env) x = some c → envCell env x = some c := by
    intro x c hx
    rw [envCell_cons] at hx
    split at hx
    · simp [AV.cell?] at hx
    · exact hx
  refine { frame := h.frame, glob := h.glob, zone := h.zone, zone0 := h.zone0, defers := h.defers, size := h.size, ntl := h.ntl, baseB := h.baseB, tmp := fun t => by rw [Env.get_cons_ne _ _ (by simp)]; exact h.tmp t, box := fun b ver fz cs hh => h.box b ver fz cs (hbx _ _ _ _ hh).2, cell := fun x c hx => h.cell x c (hc x c hx), own := ?_, inj := ?_, fresh := fun x e t ver l hx => h.fresh x e t ver l (hc x _ hx), lent := h.lent, lentloc := fun k c j cl hx => h.lentloc k c j cl (hc _ _ hx) }
  · intro x e t ver l hx
    obtain ⟨k1, k2, k3⟩ := h.own x e t ver l (hc x _ hx)
    refine ⟨k1, k2, fun g hg => ?_⟩
    obtain ⟨a1, a2, a3⟩ := k3 g hg
    exact ⟨a1, fun b bv fz cs hh => a2 b bv fz cs (hbx _ _ _ _ hh).2, fun y e' t' v' l' hy => a3 y e' t' v' l' (hc y _ hy)⟩
  · intro b b' bv bv' fz fz' cs cs' h1 h2
    exact h.inj b b' bv bv' fz fz' cs cs' (hbx _ _ _ _ h1).2 (hbx _ _ _ _ h2).2
theorem Core.killBox_loose (h : Core A X γ Fr env a w) {d bv : Nat} {cs : List Cell} (hb : env.get (.box d) = .box bv false cs) : Loose A γ ((.box d, .undef) :: env) (γ.σ d bv) := by
  refine ⟨h.boxMine hb, fun hz => ?_, fun b bv' fz cs' hb' he => ?_, fun y e t ver l hy hyg => ?_⟩
  · have := (h.box d bv false cs hb).2.2.1.2 hz
    cases this
  · rw [Env.get_cons] at hb'
    split at hb'
    · cases hb'
    · rename_i hh
      exact hh (by rw [h.inj b d bv' bv fz false cs' cs hb' hb he])
  · rw [envCell_cons] at hy
    split at hy
    · simp [AV.cell?] at hy
    · exact ((h.own y e t ver l hy).2.2 _ hyg).2.1 d bv false cs hb rfl
theorem Loose.killBox {g : Nat} (h : Loose A γ env g) (d : Nat) : Loose A γ ((.box d, .undef) :: env) g := by
  refine ⟨h.1, h.2.1, fun b bv fz cs hb => ?_, fun y e t v l hy => ?_⟩
  · rw [Env.get_cons] at hb
    split at hb
    · cases hb
    · exact h.2.2.1 b bv fz cs hb
  · rw [envCell_cons] at hy
    split at hy
    · simp [AV.cell?] at hy
    · exact h.2.2.2 y e t v l hy
theorem Core.kill_loose (h : Core A X γ Fr env a w) {x : Loc} {e : TypeId} {t : Ty} {ver : Nat} {l : List t.den} (hx : envCell env x = some (.own e t ver l)) {g : Nat} (hg : (γ.φ x).ownBlock = some g) :
    Loose A γ (Upd.app env (.cell x .undef)) g := by
  obtain ⟨a1, a2, a3⟩ := (h.own x e t ver l hx).2.2 g hg
  refine ⟨h.mine hx hg, a1, fun b bv fz cs hb => ?_, fun y e' t' v' l' hy hyg => ?_⟩
  · rw [get_app_cell] at hb
    split at hb
    · obtain ⟨cs', hb', _⟩ := box_setCell hb
      exact a2 b bv fz cs' hb'
    · exact a2 b bv fz cs hb
  · rw [envCell_app_cell] at hy
    split at hy
    · injection hy with hy; cases hy
    · rename_i hne
      have := a3 y e' t' v' l' hy hyg
      subst this
      exact hne ⟨rfl, by rw [hx]; rfl⟩
theorem Loose.kill {g : Nat} (h : Loose A γ env g) (x : Loc) : Loose A γ (Upd.app env (.cell x .undef)) g := by
  refine ⟨h.1, h.2.1, fun b bv fz cs hb => ?_, fun y e t v l hy => ?_⟩
  · rw [get_app_cell] at hb
    split at hb
    · obtain ⟨cs', hb', _⟩ := box_setCell hb
      exact h.2.2.1 b bv fz cs' hb'
    · exact h.2.2.1 b bv fz cs hb
  · rw [envCell_app_cell] at hy
    split at hy
    · injection hy with hy; cases hy
    · exact h.2.2.2 y e t v l hy
theorem Core.reviveRow (h : Core A X γ Fr env a w) {x : Loc} {e : TypeId} {t : Ty} {ver : Nat} {l : List t.den} (hx : envCell env x = some .undef) (hψ : γ.ψ x ver = γ.φ x) (hfr : ¬ Fr ver)
    (ho : OwnV γ.Z w A.B e t (γ.φ x) l) (hl : ∀ g, (γ.φ x).ownBlock = some g → Loose A γ env g) (hf : x.s.isLent = false → ∀ g, (γ.φ x).ownBlock = some g → A.w0.heap.size ≤ g) :
    Core A X γ Fr (Upd.app env (.cell x (.own e t ver l))) a w := by
  have hb : ∀ b bv fz cs, (Upd.app env (.cell x (.own e t ver l))).get (.box b) = .box bv fz cs → ∃ cs', env.get (.box b) = .box bv fz cs' ∧ cs'.length = cs.length := by
    intro b ver fz cs hb
    rw [get_app_cell] at hb
    split at hb
    · exact box_setCell hb
    · exact ⟨cs, hb, rfl⟩
  have hc : ∀ y c, envCell (Upd.app env (.cell x (.own e t ver l))) y = some c → (y = x ∧ c = .own e t ver l) ∨ (y ≠ x ∧ envCell env y = some c) := by
    intro y c hy
    rw [envCell_app_cell] at hy
    split at hy
    · rename_i hh; injection hy with hy; exact .inl ⟨hh.1, hy.symm⟩
    · rename_i hh
      exact .inr ⟨fun e => hh ⟨e, by rw [hx]; rfl⟩, hy⟩
  have hone : (γ.φ x).oneCell' = true := (h.cell x _ hx).2.1
  refine { frame := h.frame, glob := h.glob, zone := h.zone, zone0 := h.zone0, defers := h.defers, size := h.size, ntl := h.ntl, baseB := h.baseB, tmp := ?_, box := ?_, cell := ?_, own := ?_, inj := ?_, fresh := fun y e' t' ver' l1 hy => ?_, lent := h.lent, lentloc := lentloc_app h.lentloc x _ }
  · intro t'
    rw [get_app_cell]
    split
    · exact relTmp_setCell (h.tmp t')
    · exact h.tmp t'
  · intro b bver fz cs hbb
    obtain ⟨cs', h1, h2⟩ := hb b bver fz cs hbb
    have := h.box b bver fz cs' h1
    rwa [h2] at this
  · intro y c hy
    rcases hc y c hy with ⟨rfl, rfl⟩ | ⟨hne, hy⟩
    · exact ⟨ho, hone, by simp [refs]⟩
    · exact h.cell y c hy
  · intro y e' t' ver' l1 hy
    rcases hc y _ hy with ⟨rfl, hh⟩ | ⟨hne, hy⟩
    · injection hh with e1 e2 e3 e4
      subst e1; subst e2; subst e3
      refine ⟨hψ, hfr, fun g hg => ?_⟩
      have hlo := hl g hg
      refine ⟨hlo.2.1, fun b bv fz cs hbb => ?_, fun z e1 t1 v1 l1 hz hzg => ?_⟩
      · obtain ⟨cs', h1, _⟩ := hb b bv fz cs hbb
        exact hlo.2.2.1 b bv fz cs' h1
      · rcases hc z _ hz with ⟨hh, _⟩ | ⟨_, hh⟩
        · exact hh
        · exact absurd hzg (hlo.2.2.2 z _ _ _ _ hh)
    · have hyo := hy
      clear hy
      obtain ⟨h1, h2, h3⟩ := h.own y e' t' ver' l1 hyo
      refine ⟨h1, h2, fun g hg => ?_⟩
      obtain ⟨a1, a2, a3⟩ := h3 g hg
      refine ⟨a1, fun b bv fz cs hbb => ?_, fun z e1 t1 v1 l2 hz hzg => ?_⟩
      · obtain ⟨cs', h1, _⟩ := hb b bv fz cs hbb
        exact a2 b bv fz cs' h1
      · rcases hc z _ hz with ⟨hh, _⟩ | ⟨_, hh⟩
        · subst hh
          exact absurd hg ((hl g hzg).2.2.2 y _ _ _ _ hyo)
        · exact a3 z e1 t1 v1 l2 hh hzg
  · intro b b' bv bv' fz fz' cs cs' h1 h2
    obtain ⟨cs1, h1, _⟩ := hb b bv fz cs h1
    obtain ⟨cs2, h2, _⟩ := hb b' bv' fz' cs' h2
    exact h.inj b b' bv bv' fz fz' cs1 cs2 h1 h2
  · rcases hc y _ hy with ⟨rfl, hh⟩ | ⟨_, hh⟩
    · exact hf
    · exact h.fresh y _ _ _ _ hh
theorem Loose.reviveRow {g : Nat} (h : Loose A γ env g) {x : Loc} {e : TypeId} {t : Ty} {ver : Nat} {l : List t.den} (hx : (γ.φ x).ownBlock ≠ some g) : Loose A γ (Upd.app env (.cell x (.own e t ver l))) g := by
  refine ⟨h.1, h.2.1, fun b bv fz cs hb => ?_, fun y e' t' v' l' hy => ?_⟩
  · rw [get_app_cell] at hb
    split at hb
    · obtain ⟨cs', hb', _⟩ := box_setCell hb
      exact h.2.2.1 b bv fz cs' hb'
    · exact h.2.2.1 b bv fz cs hb
  · rw [envCell_app_cell] at hy
    split at hy
    · rename_i hh; rw [hh.1]; exact hx
    · exact h.2.2.2 y e' t' v' l' hy
theorem Core.reviveBox (h : Core A X γ Fr env a w) {d bv : Nat} {cs : List Cell} {us : List Value} {T : TypeId} (_hnb : ∀ v fz c, env.get (.box d) ≠ .box v fz c) (hbv : ¬ Fr bv)
    (hB : (d < lentBase → A.w0.heap.size ≤ γ.σ d bv) ∧ (lentBase ≤ d → A.lb (d - lentBase) = some (γ.σ d bv))) (hlo : Loose A γ env (γ.σ d bv)) (hg : w.heap[γ.σ d bv]? = some (.cells us.toArray T (0, 0)))
    (hr : RelCs A γ w Fr cs us) : Core A X { γ with φ := setφ γ (.box d) fun _ j => us.getD j undef } Fr ((.box d, .box bv false cs) :: env) a w := by
  have hl := hr.length
  have := h.setBoxG (Fr' := Fr) (d := d) (bv := bv) (g0 := γ.σ d bv) (w' := w) cs (fun _ j => us.getD j undef) T γ.ψ γ.σ (fun _ hh => hh) (fun _ _ _ => rfl) (fun _ _ _ => rfl) rfl hbv hB hlo.2.1
    (fun b bv' fz cs' hne hbb => hlo.2.2.1 b bv' fz cs' hbb) (fun y e t ver l _ hy => hlo.2.2.2 y e t ver l hy) ⟨rfl, rfl, rfl, Nat.le_refl _, fun _ _ _ => rfl, Nat.le_refl _⟩ h.glob
    (by rw [hg, range_map_getD us cs.length hl])
    (fun j c hc => by
      obtain ⟨u, hu, g1, g2, g3, _⟩ := hr.get hc
      rw [getD_of hu]
      exact ⟨g1.move (fun _ _ _ => rfl) (fun _ _ _ => rfl) (fun _ hz => hz) (fun _ _ => rfl) (Nat.le_refl _) (fun _ _ _ => rfl), g2, g3⟩)
    (fun j e t ver l hc => by
      obtain ⟨u, hu, _, _, _, g4⟩ := hr.get hc
      simp [Cell.isOwn] at g4)
  exact this
theorem Loose.reviveBox {g d bv : Nat} {cs : List Cell} {f : Nat → Nat → Value} (h : Loose A γ env g) (hne : γ.σ d bv ≠ g) (hno : ∀ c ∈ cs, c.isOwn = false) :
    Loose A { γ with φ := setφ γ (.box d) f } ((.box d, .box bv false cs) :: env) g := by
  refine ⟨h.1, h.2.1, fun b bv' fz cs' hb => ?_, fun y e t v l hy => ?_⟩
  · rw [Env.get_cons] at hb
    split at hb
    · rename_i hh
      simp only [Slot.box.injEq] at hh
      subst hh
      injection hb with e1
      subst e1
      exact hne
    · exact h.2.2.1 b bv' fz cs' hb
  · rw [envCell_cons] at hy
    split at hy
    · rename_i hs
      cases hi : y.c with
      | zero =>
        rw [hi] at hy
        have := hno _ (List.mem_of_getElem? hy)
        simp [Cell.isOwn] at this
      | succ i => rw [hi] at hy; simp [AV.cell?] at hy
    · rename_i hs
      show (setφ γ (.box d) f y).ownBlock ≠ some g
      rw [show setφ γ (.box d) f y = γ.φ y by simp [setφ, Ne.symm hs]]
      exact h.2.2.2 y e t v l hy
end
end Go.VI
namespace Go.VI
open Go.RowKit
inductive Item where
  | row (v : Value) (e : TypeId) (t : Ty)
  | box (g : Nat) (us : List Value)
def Item.block : Item → Option Nat
  | .row v _ _ => v.ownBlock
  | .box g _ => some g
def RepL (Z : Nat → Prop) (w : World) : (t : Ty) → List TypeId → t.den → List Value → List Item → List TypeId → Prop
  | .int k, es, n, cs, is, es' => cs = [.int k n] ∧ is = [] ∧ es' = es
  | .bool, es, b, cs, is, es' => cs = [.bool b] ∧ is = [] ∧ es' = es
  | .str, es, s, cs, is, es' => cs = [.string ⟨s.toArray⟩] ∧ is = [] ∧ es' = es
  | .unit, es, _, cs, is, es' => cs = [] ∧ is = [] ∧ es' = es
  | .pair a b, es, x, cs, is, es' => ∃ c1 c2 i1 i2 em, cs = c1 ++ c2 ∧ is = i1 ++ i2 ∧ RepL Z w a es x.1 c1 i1 em ∧ RepL Z w b em x.2 c2 i2 es'
  | .sl t, es, l, cs, is, es' => ∃ e v, es = e :: es' ∧ cs = [v] ∧ is = [.row v e t] ∧ OwnV Z w 0 e t v l
def RelArgsM (Z : Nat → Prop) (w : World) : (As : List ATy) → denA As → List Value → List Item → Prop
  | [], _, vs, is => vs = [] ∧ is = []
  | .lrow g t es :: r, x, vs, is => ∃ us vs' i1 i2, vs = mkVal g us :: vs' ∧ (g = false → us.length = 1) ∧ is = i1 ++ i2 ∧ RepL Z w t es x.1 us i1 [] ∧ RelArgsM Z w r x.2 vs' i2
  | .lptr t :: r, x, vs, is => ∃ g us vs' i2, vs = .pointer (some ⟨g, 0, none⟩) :: vs' ∧ is = .box g us :: i2 ∧ RepI Z w t x.1 us ∧ (∃ T, w.heap[g]? = some (.cells us.toArray T (0, 0))) ∧ RelArgsM Z w r x.2 vs' i2
  | .data g t :: r, x, vs, is => ∃ us vs', vs = mkVal g us :: vs' ∧ (g = false → us.length = 1) ∧ RepI Z w t x.1 us ∧ RelArgsM Z w r x.2 vs' is
  | .ptr _ :: _, _, _, _ => False
  | .clo _ _ :: _, _, _, _ => False
def Lof (is : List Item) (g : Nat) : Prop := ∃ it ∈ is, it.block = some g
structure Aside (Z : Nat → Prop) (w : World) (n0 : Nat) (is : List Item) : Prop where
  zone : ∀ g, Lof is g → ¬ Z g ∧ g < w.heap.size ∧ n0 ≤ g
  uniq : ∀ (i j : Nat) (p q : Item) (g : Nat), is[i]? = some p → is[j]? = some q → p.block = some g → q.block = some g → i = j
def BoxOut : List Cell → List Value → List Value → Prop
  | [], us, us' => us = [] ∧ us' = []
  | c :: r, us, us' => ∃ u u' s s', us = u :: s ∧ us' = u' :: s' ∧ ((zcell c = true ∧ u' = cellV c) ∨ (∃ t l p, c = .imm t l p ∧ u' = u)) ∧ BoxOut r s s'
def OutN (Z : Nat → Prop) (w : World) : List Item → List New → Prop
  | [], ns => ns = []
  | .row v e t :: is, ns => ∃ l ns', ns = .row t l :: ns' ∧ OwnV Z w 0 e t v l ∧ OutN Z w is ns'
  | .box g us :: is, ns => ∃ cs ns' us', ns = .box cs :: ns' ∧ BoxOut cs us us' ∧ (∃ T, w.heap[g]? = some (.cells us'.toArray T (0, 0))) ∧ OutN Z w is ns'
theorem OwnV.rebaseM {Z : Nat → Prop} {w : World} {B B' : Nat} {e : TypeId} {t : Ty} {v : Value} {l : List t.den} (h : OwnV Z w B e t v l) (hB : ∀ g, v.ownBlock = some g → B' ≤ g) : OwnV Z w B' e t v l := by
  obtain ⟨h0, xs, ho, hr⟩ := h
  refine ⟨h0, xs, ⟨ho.1, ?_⟩, hr⟩
  rcases ho.2 with hn | ⟨g, cap, cur, fz, h1, h2, rest⟩
  · exact .inl hn
  · exact .inr ⟨g, cap, cur, fz, h1, hB g (by rw [h1]; rfl), rest⟩
structure FrameL (L : Nat → Prop) (w w' : World) : Prop where
  os : w'.os = w.os
  tape : w'.tape = w.tape
  output : w'.output = w.output
  size : w.heap.size ≤ w'.heap.size
  block : ∀ k, k < w.heap.size → ¬ L k → w'.heap[k]? = w.heap[k]?
  drawn : w.drawn ≤ w'.drawn
def SoundM (P : Program) (n0 : Nat) (G : World → Prop) (f : FuncId) (C : MContract) : Prop :=
  ∀ (w : World) (Z : Nat → Prop) (vs : List Value) (xs : denA C.As) (r : denL C.R) (m : denM C.As) (is : List Item), G w → (∀ g, Z g → g < w.heap.size) → RelArgsM Z w C.As xs vs is → Aside Z w n0 is → C.F xs = some (r, m) →
    FCalls P f vs.toArray w fun v w' => ∃ Z' us, v = mkRes us ∧ FrameL (Lof is) w w' ∧ (∀ g, Z g → Z' g) ∧ (∀ g, Z' g → Z g ∨ (w.heap.size ≤ g ∧ g < w'.heap.size)) ∧
      ResRel Z' w' w.heap.size [] (resL C.R r C.modes) us ∧ OutN Z' w' is (newsOf C.As m)
def MConOK (P : Program) (n0 : Nat) (G : World → Prop) (X : Ctx) : Prop := ∀ f C, look X.mcon f = some C → SoundM P n0 G f C
section
variable {A : Fix} {X : Ctx} {γ : Gh} {Fr : Nat → Prop} {env : Env} {a : Act} {w w' : World} {vn : Nat} {o : Oper} {us : List Upd} {lg : List Slot}
def LsRel (γ : Gh) (env : Env) : List Lsrc → List Item → Prop
  | [], is => is = []
  | .row x ver e t :: r, is => ∃ is' l, is = .row (γ.φ x) e t :: is' ∧ envCell env x = some (.own e t ver l) ∧ LsRel γ env r is'
  | .nil e t :: r, is => ∃ is', is = .row (.slice none 0 0) e t :: is' ∧ LsRel γ env r is'
  | .box b bv cs :: r, is => ∃ is', is = .box (γ.σ b bv) (cellVals γ (.box b) 0 cs.length) :: is' ∧ env.get (.box b) = .box bv false cs ∧ cs.all plainCell = true ∧ LsRel γ env r is'
theorem LsRel.append : ∀ {ls ls' : List Lsrc} {is is' : List Item}, LsRel γ env ls is → LsRel γ env ls' is' → LsRel γ env (ls ++ ls') (is ++ is')
  | [], ls', is, is', h, h' => by rw [show is = [] from h]; simpa using h'
  | .row x ver e t :: r, ls', is, is', ⟨i1, l, h1, h2, h3⟩, h' => ⟨i1 ++ is', l, by rw [h1]; rfl, h2, LsRel.append h3 h'⟩
  | .nil e t :: r, ls', is, is', ⟨i1, h1, h3⟩, h' => ⟨i1 ++ is', by rw [h1]; rfl, LsRel.append h3 h'⟩
  | .box b bv cs :: r, ls', is, is', ⟨i1, h1, h2, h3, h4⟩, h' => ⟨i1 ++ is', by rw [h1]; rfl, h2, h3, LsRel.append h4 h'⟩
theorem lendCells_sound (h : Core A X γ Fr env a w) (Z : Nat → Prop) (hZ : ∀ g, γ.Z g → Z g) : ∀ (t : Ty) (es : List TypeId) (cs : List Cell) {us : List Value} {p : LendP t} {l0 l1 : List Slot}, RelCs A γ w Fr cs us →
    (lendCells t es cs).eval env.get l0 = some (p, l1) → ∃ u1 u2 is, us = u1 ++ u2 ∧ RepL Z w t es p.x u1 is p.es ∧ RelCs A γ w Fr p.cs u2 ∧ LsRel γ env p.ls is
  | .int k, es, cs, us, p, l0, l1, hr, he => by
    match cs, hr with
    | [], _ => simp [lendCells, Rd.eval] at he
    | c :: r, hr =>
      cases c <;> try (simp [lendCells, Rd.eval] at he; done)
      rename_i k' n
      simp only [lendCells] at he
      split at he
      · rename_i hk
        subst hk
        simp only [Rd.eval, Option.some.injEq, Prod.mk.injEq] at he
        obtain ⟨rfl, _⟩ := he
        obtain ⟨u, us', rfl, hg, hrr⟩ := hr
        exact ⟨[u], us', [], rfl, ⟨by rw [show u = _ from hg.1], rfl, rfl⟩, hrr, rfl⟩
      · simp [Rd.eval] at he
  | .bool, es, cs, us, p, l0, l1, hr, he => by
    match cs, hr with
    | [], _ => simp [lendCells, Rd.eval] at he
    | c :: r, hr =>
      cases c <;> simp [lendCells, Rd.eval] at he
      obtain ⟨rfl, _⟩ := he
      obtain ⟨u, us', rfl, hg, hrr⟩ := hr
      exact ⟨[u], us', [], rfl, ⟨by rw [show u = _ from hg.1], rfl, rfl⟩, hrr, rfl⟩
  | .str, es, cs, us, p, l0, l1, hr, he => by
    match cs, hr with
    | [], _ => simp [lendCells, Rd.eval] at he
    | c :: r, hr =>
      cases c <;> simp [lendCells, Rd.eval] at he
      obtain ⟨rfl, _⟩ := he
      obtain ⟨u, us', rfl, hg, hrr⟩ := hr
      exact ⟨[u], us', [], rfl, ⟨by rw [show u = _ from hg.1], rfl, rfl⟩, hrr, rfl⟩
  | .unit, es, cs, us, p, l0, l1, hr, he => by
    simp [lendCells, Rd.eval] at he
    obtain ⟨rfl, _⟩ := he
    exact ⟨[], us, [], rfl, ⟨rfl, rfl, rfl⟩, hr, rfl⟩
  | .pair x y, es, cs, us, p, l0, l1, hr, he => by
    simp only [lendCells, Rd.eval_bind, Option.bind_eq_some_iff] at he
    obtain ⟨⟨p1, l2⟩, h1, ⟨p2, l3⟩, h2, h3⟩ := he
    simp only [Rd.eval, Option.some.injEq, Prod.mk.injEq] at h3
    obtain ⟨rfl, _⟩ := h3
    obtain ⟨u1, u2, i1, rfl, r1, r2, r3⟩ := lendCells_sound h Z hZ x es cs hr h1
    obtain ⟨v1, v2, i2, rfl, s1, s2, s3⟩ := lendCells_sound h Z hZ y p1.es p1.cs r2 h2
    exact ⟨u1 ++ v1, v2, i1 ++ i2, by simp, ⟨u1, v1, i1, i2, p1.es, rfl, rfl, r1, s1⟩, s2, r3.append s3⟩
  | .sl t, [], cs, us, p, l0, l1, hr, he => by simp [lendCells, Rd.eval] at he
  | .sl t, e :: es, cs, us, p, l0, l1, hr, he => by
    match cs, hr with
    | [], _ => simp [lendCells, Rd.eval] at he
    | c :: r, hr =>
      obtain ⟨u, us', rfl, hg, hrr⟩ := hr
      cases c <;> try (simp [lendCells, Rd.eval] at he; done)
      · rename_i e' t'
        simp only [lendCells] at he
        cases hs : Nat.blt 0 t.size with
        | false => rw [hs] at he; simp [Rd.eval] at he
        | true =>
          rw [hs] at he
          simp only [cond_true, Rd.eval, Option.some.injEq, Prod.mk.injEq] at he
          obtain ⟨rfl, _⟩ := he
          have hu : u = .slice none 0 0 := hg.1
          exact ⟨[u], us', [.row (.slice none 0 0) e t], rfl, ⟨e, u, rfl, rfl, by rw [hu], by rw [hu]; exact OwnV.nil (Nat.le_of_ble_eq_true hs)⟩, hrr, [], rfl, rfl⟩
      · rename_i x ver
        simp only [lendCells, Rd.eval_bind, Option.bind_eq_some_iff] at he
        obtain ⟨⟨⟨e', t', l⟩, l2⟩, h1, h2⟩ := he
        simp only at h2
        split at h2
        · rename_i hh
          obtain ⟨rfl, rfl⟩ := hh
          simp only [Rd.eval, Option.some.injEq, Prod.mk.injEq] at h2
          obtain ⟨rfl, _⟩ := h2
          have hx := ownerAt_eval h1
          have hu : u = γ.φ x := hg.1.trans (h.own x _ _ _ _ hx).1
          exact ⟨[u], us', [.row (γ.φ x) e' t'], rfl, ⟨e', u, rfl, rfl, by rw [hu], by rw [hu]; exact ((h.cell x _ hx).1.mono hZ (fun _ _ => rfl) (fun _ _ => rfl)).base (Nat.zero_le _)⟩, hrr, [], l, rfl, hx, rfl⟩
        · simp [Rd.eval] at h2
theorem lendArgs_ptr {t : Ty} {as : List ATy} {cs : List (Bool × List Cell)} {q : denA (.lptr t :: as) × List Src × List Lsrc} {e : Slot → AV} {l0 l1 : List Slot} (he : (lendArgs (.lptr t :: as) cs).eval e l0 = some (q, l1)) : ∃ b bv r, cs = (false, [.addr b bv 0]) :: r := by
  match cs with
  | [] => simp [lendArgs, Rd.eval] at he
  | (true, _) :: r => simp [lendArgs, Rd.eval] at he
  | (false, []) :: r => simp [lendArgs, Rd.eval] at he
  | (false, c :: c' :: q) :: r => simp [lendArgs, Rd.eval] at he
  | (false, [c]) :: r =>
    cases c <;> try (simp [lendArgs, Rd.eval] at he; done)
    rename_i b bv off
    cases off with
    | zero => exact ⟨b, bv, r, rfl⟩
    | succ n => simp [lendArgs, Rd.eval] at he
theorem lendArgs_none {as : List ATy} {cs : List (Bool × List Cell)} {e : Slot → AV} {l0 l1 : List Slot} : (∀ t (q : denA (.ptr t :: as) × List Src × List Lsrc), (lendArgs (.ptr t :: as) cs).eval e l0 ≠ some (q, l1)) ∧
    ∀ a b (q : denA (.clo a b :: as) × List Src × List Lsrc), (lendArgs (.clo a b :: as) cs).eval e l0 ≠ some (q, l1) := by
  constructor
  · intro t q
    match cs with
    | [] => simp [lendArgs, Rd.eval]
    | (g', c) :: r => cases g' <;> simp [lendArgs, Rd.eval]
  · intro t b q
    match cs with
    | [] => simp [lendArgs, Rd.eval]
    | (g', c) :: r => cases g' <;> simp [lendArgs, Rd.eval]
theorem RelCs.plainZ {Z : Nat → Prop} {cs : List Cell} {us : List Value} (h : RelCs A γ w Fr cs us) (hZ : ∀ g, γ.Z g → Z g) : RelCs A { γ with Z := Z } w Fr cs us :=
  RelCs.zext (γ := γ) (γ' := { γ with Z := Z }) ⟨rfl, rfl, rfl, hZ⟩ h
theorem lendArgs_sound (h : Core A X γ Fr env a w) (Z : Nat → Prop) (hZ : ∀ g, γ.Z g → Z g) : ∀ (As : List ATy) (cs : List (Bool × List Cell)) {vs : List Value} {q : denA As × List Src × List Lsrc} {l0 l1 : List Slot},
    RelComps A γ w Fr cs vs → (lendArgs As cs).eval env.get l0 = some (q, l1) → (∀ g, zoneOf γ q.2.1 g → Z g) →
    ∃ is, RelArgsM Z w As q.1 vs is ∧ LsRel γ env q.2.2 is ∧ ∀ s ∈ q.2.1, ∀ g, srcBlock γ g s → g < w.heap.size
  | [], cs, vs, q, l0, l1, hr, he, _ => by
    cases cs with
    | nil =>
      simp only [lendArgs, Rd.eval, Option.some.injEq, Prod.mk.injEq] at he
      obtain ⟨rfl, _⟩ := he
      exact ⟨[], ⟨hr, rfl⟩, rfl, by simp⟩
    | cons p r => simp [lendArgs, Rd.eval] at he
  | .lrow g t es :: as, cs, vs, q, l0, l1, hr, he, hs => by
    cases cs with
    | nil => simp [lendArgs, Rd.eval] at he
    | cons p r =>
      obtain ⟨g', c⟩ := p
      obtain ⟨v, vs', h1, ⟨us, hv, hl, h2⟩, h3⟩ := hr
      simp only [lendArgs] at he
      cases hg : (g == g') with
      | false => rw [hg] at he; simp [Rd.eval] at he
      | true =>
        rw [hg] at he
        have hg : g = g' := by simpa using hg
        subst hg
        simp only [cond_true, Rd.eval_bind, Option.bind_eq_some_iff] at he
        obtain ⟨⟨p, l2⟩, k1, k2⟩ := he
        simp only at k2
        split at k2
        · rename_i hcs hes
          simp only [Rd.eval_bind, Option.bind_eq_some_iff] at k2
          obtain ⟨⟨q1, l3⟩, k3, k4⟩ := k2
          simp only [Rd.eval, Option.some.injEq, Prod.mk.injEq] at k4
          obtain ⟨rfl, _⟩ := k4
          obtain ⟨u1, u2, i1, e1, r1, r2, r3⟩ := lendCells_sound h Z hZ t es c h2 k1
          rw [hcs] at r2
          rw [show u2 = [] from r2, List.append_nil] at e1
          subst e1
          rw [hes] at r1
          obtain ⟨i2, s1, s2, s3⟩ := lendArgs_sound h Z hZ as r h3 k3 hs
          exact ⟨i1 ++ i2, ⟨_, vs', i1, i2, by rw [h1, hv], fun hgf => by rw [h2.length]; exact hl hgf, rfl, r1, s1⟩, r3.append s2, s3⟩
        · simp [Rd.eval] at k2
  | .lptr t :: as, cs, vs, q, l0, l1, hr, he, hs => by
    obtain ⟨b, bv, r, rfl⟩ := lendArgs_ptr he
    obtain ⟨v, vs', h1, ⟨us, hv, hl, u, us', rfl, hg, h2⟩, h3⟩ := hr
    have hv : v = u := hv
    simp only [lendArgs, Rd.eval_bind, Option.bind_eq_some_iff] at he
    obtain ⟨⟨⟨fz, cs0⟩, l2⟩, k1, k2⟩ := he
    simp only at k2
    cases hp : (fz || !(cs0.all plainCell)) with
    | true => rw [hp] at k2; simp [Rd.eval] at k2
    | false =>
      rw [hp] at k2
      simp only [Bool.or_eq_false_iff, Bool.not_eq_false'] at hp
      obtain ⟨rfl, hp⟩ := hp
      simp only [cond_false] at k2
      split at k2
      · rename_i x hx
        simp only [Rd.eval_bind, Option.bind_eq_some_iff] at k2
        obtain ⟨⟨q1, l3⟩, k3, k4⟩ := k2
        simp only [Rd.eval, Option.some.injEq, Prod.mk.injEq] at k4
        obtain ⟨rfl, _⟩ := k4
        obtain ⟨i2, s1, s2, s3⟩ := lendArgs_sound h Z hZ as r h3 k3 hs
        have hb := boxAt_eval k1
        obtain ⟨c1, _⟩ := h.boxCells hb 0
        simp only [List.drop_zero] at c1
        have hnov : VI.readCells (.box b) 0 0 cs0 = cs0 := by
          apply List.ext_getElem?
          intro j
          rw [readCells_get]
          cases hj : cs0[j]? with
          | none => rfl
          | some c =>
            have hc := (List.all_eq_true.1 hp) c (List.mem_of_getElem? hj)
            cases c <;> simp [plainCell] at hc <;> rfl
        rw [hnov] at c1
        obtain ⟨⟨T, hT⟩, _⟩ := h.box b bv false cs0 hb
        exact ⟨.box (γ.σ b bv) (cellVals γ (.box b) 0 cs0.length) :: i2, ⟨γ.σ b bv, _, vs', i2, by rw [h1, hv]; exact congrArg (· :: vs') hg.1, rfl, implode_all hx (c1.plainZ hZ), ⟨T, hT⟩, s1⟩, ⟨i2, rfl, hb, hp, s2⟩, s3⟩
      · simp [Rd.eval] at k2
  | .data g t :: as, cs, vs, q, l0, l1, hr, he, hs => by
    cases cs with
    | nil => simp [lendArgs, Rd.eval] at he
    | cons p r =>
      obtain ⟨g', c⟩ := p
      obtain ⟨v, vs', h1, ⟨us, hv, hl, h2⟩, h3⟩ := hr
      simp only [lendArgs] at he
      cases hg : (g == g') with
      | false => rw [hg] at he; simp [Rd.eval] at he
      | true =>
        rw [hg] at he
        have hg : g = g' := by simpa using hg
        subst hg
        simp only [cond_true, Rd.eval_bind, Option.bind_eq_some_iff] at he
        obtain ⟨⟨⟨p1, p2⟩, l2⟩, k1, k2⟩ := he
        simp only at k2
        split at k2
        · rename_i x hx
          simp only [Rd.eval_bind, Option.bind_eq_some_iff] at k2
          obtain ⟨⟨q1, l3⟩, k3, k4⟩ := k2
          simp only [Rd.eval, Option.some.injEq, Prod.mk.injEq] at k4
          obtain ⟨rfl, _⟩ := k4
          obtain ⟨i2, s1, s2, s3⟩ := lendArgs_sound h Z hZ as r h3 k3 fun g hg => hs g (zoneOf_app.2 (.inr hg))
          have hso := solids_sound h Z c h2 k1 fun g hg => hs g (zoneOf_app.2 (.inl hg))
          refine ⟨i2, ⟨us, vs', by rw [h1, hv], fun hgf => by rw [h2.length]; exact hl hgf, implode_all hx hso, s1⟩, s2, fun s hs' g hg => ?_⟩
          rcases List.mem_append.1 hs' with hs' | hs'
          · exact solids_lt h c k1 s hs' g hg
          · exact s3 s hs' g hg
        · simp [Rd.eval] at k2
  | .ptr t :: as, cs, vs, q, l0, l1, hr, he, hs => absurd he (lendArgs_none.1 t _)
  | .clo a b :: as, cs, vs, q, l0, l1, hr, he, hs => absurd he (lendArgs_none.2 a b _)
end
end Go.VI
