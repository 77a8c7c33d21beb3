/- VI, part 11: the operation that stores. -/
import Derived.Test.YtaglincpgdfjfaaDoorViStore
namespace Go.VI
open Go.RowKit

section
variable {A : Fix} {X : Ctx} {γ : Gh} {Fr : Nat → Prop} {env : Env} {a : Act} {w w' : World} {vn : Nat}

/-- Elements of a row of one's own: cells are set. -/
theorem Core.storeElem (h : Core A X γ Fr env a w) (hst : Stable A.n0 A.G) (hG0 : BaseOK A) {x : Loc} {e : TypeId} {t : Ty} {ver : Nat} {l : List t.den} (hx : envCell env x = some (.own e t ver l))
    {g m c : Nat} (hφ : γ.φ x = .slice (some ⟨g, 0, none⟩) m c) {i : Int} (hin : inB i l.length = true) {off : Nat} {new : List Cell} {us : List Value} {y : t.den}
    (hr : RelCs A γ w Fr new us) (hy : putElem t (nth t l i) off new = some y) (hfit : off + new.length ≤ t.size) :
    ∃ cur fz, w.heap[g]? = some (.cells cur e fz) ∧ (fz.2 ≤ fz.1 ∨ cur.size ≤ fz.1) ∧ i.toNat * t.size + off + us.length ≤ cur.size ∧
      Core A X γ Fr (Upd.app env (.cell x (.own e t ver (l.set i.toNat y)))) a
        (w.setRow g (cur.toList.take (i.toNat * t.size + off) ++ us ++ cur.toList.drop (i.toNat * t.size + off + us.length)).toArray) := by
  have hcx := (h.cell x _ hx).1
  have hul := hr.length
  rw [show γ.φ x = _ from hφ] at hcx
  obtain ⟨ht0, xs, ho, hrs⟩ := id hcx
  rcases ho.2 with ⟨hn, _⟩ | ⟨g', cap, cur, fz, hh, hB, hg, hff, hnc, hcm, hcs, htake⟩
  · cases hn
  · injection hh with e1 e2 e3
    injection e1 with e1
    injection e1 with e1
    subst e1
    have hi := (inB_iff.1 hin).2
    have hxl := hrs.length
    -- the element's cells
    obtain ⟨us0, hr0, hc0⟩ := hrs.at l xs i.toNat _ (nth_get hin)
    have hl0 := RepI.length _ _ _ hr0
    have hex : RelCs A γ w Fr (explode t (nth t l i)) us0 := explode_rel t _ us0 hr0
    have hexl := hex.length
    have hsp : RelCs A γ w Fr (spliceAt (explode t (nth t l i)) off new) (spliceAt us0 off us) := by
      rw [splice_eq _ _ _ (by omega), splice_eq _ _ _ (by omega), hul]
      exact ((hex.split (n := off)).append hr).append (hex.drop _)
    have hrep : RepI γ.Z w t y (spliceAt us0 off us) := by
      simp only [putElem] at hy
      split at hy
      · rename_i y' himp
        injection hy with hy
        subst hy
        obtain ⟨u1, u2, hu, hr1, hr2⟩ := implode_rel t _ _ _ _ himp hsp
        rw [show u2 = [] from hr2, List.append_nil] at hu
        rw [hu]; exact hr1
      · cases hy
    obtain ⟨hset, hfit2⟩ := hrs.set l xs i.toNat y _ hi hrep
    have hsl : (spliceAt us0 off us).length = us0.length := spliceAt_length _ _ _ (by omega)
    have hxc : xs.length ≤ cur.size := by
      rw [← htake, List.length_take]; simp; exact Nat.min_le_right _ _
    have hbig : i.toNat * t.size + off + us.length ≤ xs.length := by rw [hsl] at hfit2; omega
    have hfitc : i.toNat * t.size + off + us.length ≤ cur.size := by omega
    have hfz : fz.2 ≤ fz.1 ∨ cur.size ≤ fz.1 := by
      rcases hff with rfl | ⟨rfl, rfl⟩
      · exact .inl (Nat.le_refl _)
      · exact .inr (by rw [hcs]; simp [markT, Ty.size])
    refine ⟨cur, fz, hg, hfz, hfitc, ?_⟩
    -- the row's cells behind the store
    have hxs' : spliceAt xs (i.toNat * t.size) (spliceAt us0 off us) = spliceAt xs (i.toNat * t.size + off) us := by
      apply List.ext_getElem?
      intro k
      rw [spliceAt_get _ _ _ _ hfit2, spliceAt_get _ _ _ _ hbig, hsl]
      by_cases h1 : i.toNat * t.size ≤ k ∧ k < i.toNat * t.size + us0.length
      · rw [if_pos h1, spliceAt_get _ _ _ _ (by omega)]
        by_cases h2 : off ≤ k - i.toNat * t.size ∧ k - i.toNat * t.size < off + us.length
        · rw [if_pos h2, if_pos (by omega)]; congr 1; omega
        · rw [if_neg h2, if_neg (by omega)]
          have hk : k - i.toNat * t.size < us0.length := by omega
          rw [List.getElem?_eq_getElem hk, ← hc0 _ _ (List.getElem?_eq_getElem hk)]
          congr 1; omega
      · rw [if_neg h1, if_neg (by omega)]
    have hrowsp : cur.toList.take (i.toNat * t.size + off) ++ us ++ cur.toList.drop (i.toNat * t.size + off + us.length) = spliceAt cur.toList (i.toNat * t.size + off) us :=
      (splice_eq _ _ _ (by simpa using hfitc)).symm
    have hown' : OwnV γ.Z (w.setRow g (spliceAt cur.toList (i.toNat * t.size + off) us).toArray) A.B e t (γ.φ x) (l.set i.toNat y) := by
      rw [hφ]
      refine ⟨ht0, spliceAt xs (i.toNat * t.size + off) us, ⟨?_, .inr ⟨g, cap, _, fz, ?_, hB, setRow_heap w g cur _ e _ hg, hff, ?_, hcm, ?_, ?_⟩⟩, ?_⟩
      · rw [spliceAt_length _ _ _ hbig, hxl, List.length_set]
      · rw [e2, e3, List.length_set]
      · rw [List.length_set]; exact hnc
      · rw [List.size_toArray, spliceAt_length _ _ _ (by simpa using hfitc)]; simpa using hcs
      · apply List.ext_getElem?
        intro k
        rw [List.getElem?_take, List.length_set]
        show (if k < l.length * t.size then (spliceAt cur.toList (i.toNat * t.size + off) us)[k]? else none) = _
        rw [spliceAt_get _ _ _ _ (by simpa using hfitc), spliceAt_get _ _ _ _ hbig]
        have hxk : ∀ k, k < l.length * t.size → cur.toList[k]? = xs[k]? := fun k hk => by rw [← htake, List.getElem?_take, if_pos hk]
        by_cases hk : k < l.length * t.size
        · rw [if_pos hk, hxk k hk]
        · rw [if_neg hk]
          rw [if_neg (by omega), List.getElem?_eq_none (by omega)]
      · rw [← hxs']
        refine RepsL.mono (fun _ hz => hz) (fun g' hz => setRow_other w g g' _ (fun hgg => ?_)) _ _ hset
        have := ((h.own x e t ver l hx).2.2 g (by rw [hφ]; rfl)).1
        exact this (by rw [← hgg]; exact hz)
    rw [hrowsp]
    exact h.setOwn hx (row := some g) setRow_grown (fun g' hg' => by injection hg' with hg'; subst hg'; rw [hφ]; rfl) (h.glob_own hst hG0 setRow_grown fun g' hg' => by injection hg' with hg'; subst hg'; exact h.mine hx (by rw [hφ]; rfl)) hown'

theorem splice_in {α : Type} (row : List α) (P : Nat) (B vs : List α) (k : Nat) (hB : P + B.length ≤ row.length) (hrow : ∀ n, n < B.length → row[P + n]? = B[n]?) (hk : k + vs.length ≤ B.length) :
    row.take P ++ spliceAt B k vs ++ row.drop (P + (spliceAt B k vs).length) = row.take (P + k) ++ vs ++ row.drop (P + k + vs.length) := by
  have hsl : (spliceAt B k vs).length = B.length := spliceAt_length _ _ _ hk
  rw [← splice_eq _ _ _ (by rw [hsl]; exact hB), ← splice_eq _ _ _ (by omega)]
  apply List.ext_getElem?
  intro n
  rw [spliceAt_get row P (spliceAt B k vs) n (by rw [hsl]; exact hB), spliceAt_get row (P + k) vs n (by omega), hsl]
  by_cases c1 : P ≤ n ∧ n < P + B.length
  · rw [if_pos c1, spliceAt_get _ _ _ _ hk]
    by_cases c2 : k ≤ n - P ∧ n - P < k + vs.length
    · rw [if_pos c2, if_pos (by omega)]; congr 1; omega
    · rw [if_neg c2, if_neg (by omega), ← hrow _ (by omega)]; congr 1; omega
  · rw [if_neg c1, if_neg (by omega)]

theorem zip_noown (b : Bool) : ∀ (new olds hs : List Cell), new.length = olds.length → allSome (List.zipWith (pickCell b) new olds) = some hs → ∀ c ∈ olds, c.isOwn = false
  | [], [], hs, _, h => by simp
  | [], _ :: _, hs, hl, h => by simp at hl
  | _ :: _, [], hs, hl, h => by simp at hl
  | c :: r, d :: s, hs, hl, h => by
    simp only [List.zipWith_cons_cons] at h
    cases hp : pickCell b c d with
    | none => rw [hp] at h; cases h
    | some e =>
      rw [hp] at h
      simp only [allSome, Option.map_eq_some_iff] at h
      obtain ⟨hs', h1, _⟩ := h
      intro x hx
      rcases List.mem_cons.1 hx with rfl | hx
      · unfold pickCell at hp
        split at hp <;> first | rfl | cases hp
      · exact zip_noown b r s hs' (by simpa using hl) h1 x hx

theorem putCells_noown {i : Int} {new : List Cell} : ∀ (n j : Nat) (cs cs' : List Cell), putCells i new new.length j n cs = some cs' → ∀ (k : Nat) (c : Cell), k < n * new.length → cs[k]? = some c → c.isOwn = false
  | 0, j, cs, cs', h, k, c, hk, hc => by simp at hk
  | n + 1, j, cs, cs', h, k, c, hk, hc => by
    obtain ⟨hs, r, h0, h1, h2, _⟩ := putCells_step h
    by_cases hkl : k < new.length
    · refine zip_noown _ _ _ hs (by rw [List.length_take]; omega) h1 c (List.mem_of_getElem? (i := k) ?_)
      rw [List.getElem?_take, if_pos hkl]; exact hc
    · refine putCells_noown n (j + 1) _ r h2 (k - new.length) c (by rw [Nat.succ_mul] at hk; omega) ?_
      rw [List.getElem?_drop, ← hc]; congr 1; omega

theorem storeAt_sound (h : Core A X γ Fr env a w) (hst : Stable A.n0 A.G) (hG0 : BaseOK A) (hv : Fr vn) {T : TypeId} {ti : TI} (ht : TIOK A.P T ti) {c : Cell} {pv v : Value} {cs : List Cell} {vs : List Value} {us : List Upd} {lg lg' : List Slot}
    (hg : GoodR A γ w Fr c pv) (hcs : RelCs A γ w Fr cs vs) (hcells : v.cells = vs.toArray) (hlen : cs.length = ti.ty.size)
    (he : (storeAt vn cs c).eval env.get lg = some (us, lg')) : ∃ ad w', pv = .pointer (some ad) ∧ (storeVar T ad v).run A.P w = .ok () w' ∧ Holds A X (FrD Fr vn) (appAll env us) a w' := by
  have hvl := hcs.length
  cases c with
  | addr b bv off =>
    simp only [storeAt, Rd.eval_bind, Option.bind_eq_some_iff] at he
    obtain ⟨⟨⟨fz, cs0⟩, l3⟩, h5, h6⟩ := he
    have hb := boxAt_eval h5
    simp only at hb h6
    cases fz with
    | true => simp [Rd.eval] at h6
    | false =>
      simp only [cond_false] at h6
      cases hfit : Nat.ble (off + cs.length) cs0.length with
      | false => rw [hfit] at h6; simp [Rd.eval] at h6
      | true =>
        rw [hfit] at h6
        have hfit := Nat.le_of_ble_eq_true hfit
        simp only [Bool.not_true, cond_false, Rd.eval_bind, Option.bind_eq_some_iff] at h6
        obtain ⟨⟨⟨cs', ks⟩, l4⟩, h8, h9⟩ := h6
        obtain ⟨k1, k2, _, _⟩ := install_sound cs [] env vs cs' ks _ l4 h (fun _ _ => rfl) hcs h8
        simp only at h9
        cases hany : (ks.any fun u => Slot.beq u.slot (.box b)) with
        | true => rw [hany] at h9; simp [Rd.eval] at h9
        | false =>
          rw [hany] at h9
          simp only [cond_false, Rd.eval, Option.some.injEq, Prod.mk.injEq] at h9
          obtain ⟨rfl, _⟩ := h9
          have hb' : (appAll env ks).get (.box b) = .box bv false cs0 := by rw [get_appAll_other _ ks env hany]; exact hb
          have hcl : cs'.length = cs.length := by rw [← k1.len, hvl]
          obtain ⟨⟨T', hrow⟩, _⟩ := k2.box b bv false cs0 hb'
          have hrun := run_storeVar_at (w := w) ht (g := γ.σ b bv) (o := off) hcells (by rw [hvl]; exact hlen) hrow (.inl (Nat.le_refl _)) (by rw [List.size_toArray, cellVals_length, hvl]; exact hfit) hcs.one
          refine ⟨_, _, hg.1, hrun, ?_⟩
          rw [appAll_append]
          exact k2.storeBox hst hG0 hv hb' (by rw [hcl]; exact hfit) k1
  | addrI b bv off m sz i =>
    simp only [storeAt, Rd.eval_bind, Option.bind_eq_some_iff] at he
    obtain ⟨⟨⟨fz, cs0⟩, l3⟩, h5, h6⟩ := he
    have hb := boxAt_eval h5
    simp only at hb h6
    cases fz with
    | true => simp [Rd.eval] at h6
    | false =>
      simp only [cond_false] at h6
      cases hfit : (Nat.beq cs.length sz && Nat.ble (off + m * sz) cs0.length) with
      | false => rw [hfit] at h6; simp [Rd.eval] at h6
      | true =>
        rw [hfit] at h6
        simp only [Bool.and_eq_true] at hfit
        have hsz := Nat.eq_of_beq_eq_true hfit.1
        have hfit := Nat.le_of_ble_eq_true hfit.2
        subst hsz
        simp only [Bool.not_true, cond_false, Rd.eval_bind, Option.bind_eq_some_iff, Rd.eval_ofOpt, Option.map_eq_some_iff] at h6
        obtain ⟨_, ⟨arr, h7, rfl⟩, _, ⟨arr', h8, rfl⟩, h9⟩ := h6
        simp only [Rd.eval, Option.some.injEq, Prod.mk.injEq] at h9
        obtain ⟨rfl, _⟩ := h9
        simp only at h7 h8
        obtain ⟨e1, e2⟩ := takeN_eq h7
        obtain ⟨hin, hpv⟩ := hg.1
        have hin' := inB_iff.1 hin
        obtain ⟨⟨T', hrow⟩, _⟩ := h.box b bv false cs0 hb
        let row := cellVals γ (.box b) 0 cs0.length
        have hrl : row.length = cs0.length := cellVals_length γ (.box b) 0 cs0.length
        -- the array's cells; where they are read they hold no views
        have harr : RelCs A γ w Fr arr ((row.drop off).take (m * cs.length)) := by
          refine RelCs.of_get (by rw [e1]; simp [hrl]) fun j c u hc hu => ?_
          rw [e1, List.getElem?_take] at hc
          rw [List.getElem?_take] at hu
          split at hc
          · rename_i hj
            rw [if_pos hj, List.getElem?_drop] at hu
            rw [List.getElem?_drop] at hc
            have hlt : off + j < cs0.length := (List.getElem?_eq_some_iff.1 hc).1
            rw [cellVals_get γ (.box b) 0 cs0.length _ hlt] at hu
            injection hu with hu
            subst hu
            have hown : c.isOwn = false := putCells_noown m 0 arr arr' h8 j c hj (by rw [e1, List.getElem?_take, if_pos hj, List.getElem?_drop]; exact hc)
            obtain ⟨g1, g2, g3⟩ := h.cell ⟨.box b, 0, off + j⟩ c (by show (env.get (.box b)).cell? 0 (off + j) = some c; rw [hb]; exact hc)
            exact ⟨g1, g2, g3, hown⟩
          · cases hc
        obtain ⟨k1, k2⟩ := putCells_in hcs m 0 arr _ arr' (by omega) (by omega) h8 harr
        simp only [Nat.sub_zero] at k1 k2
        have hal := k1.length
        have hvfit : i.toNat * cs.length + vs.length ≤ ((row.drop off).take (m * cs.length)).length := by rw [hvl]; exact k2
        have hal' : arr'.length = m * cs.length := by
          rw [← hal, spliceAt_length _ _ _ hvfit, List.length_take, List.length_drop, hrl]; omega
        have hk2' : i.toNat * cs.length + cs.length ≤ m * cs.length := by
          rw [← Nat.succ_mul]; exact Nat.mul_le_mul_right _ hin'.2
        have hsb := h.storeBox hst hG0 hv hb (off := off) (new := arr') (us := spliceAt ((row.drop off).take (m * cs.length)) (i.toNat * cs.length) vs) (by rw [hal']; exact hfit) k1.inst
        have hrun := run_storeVar_at (w := w) ht (g := γ.σ b bv) (o := off + i.toNat * cs.length) hcells (by rw [hvl]; exact hlen) hrow (.inl (Nat.le_refl _)) (by rw [List.size_toArray, cellVals_length, hvl]; omega) hcs.one
        refine ⟨_, _, hpv, hrun, ?_⟩
        have hsl : (spliceAt ((row.drop off).take (m * cs.length)) (i.toNat * cs.length) vs).length = m * cs.length := by rw [hal, hal']
        have hrow2 : row.take off ++ spliceAt ((row.drop off).take (m * cs.length)) (i.toNat * cs.length) vs ++ row.drop (off + (spliceAt ((row.drop off).take (m * cs.length)) (i.toNat * cs.length) vs).length) =
            row.take (off + i.toNat * cs.length) ++ vs ++ row.drop (off + i.toNat * cs.length + vs.length) := by
          have hA : off + (spliceAt ((row.drop off).take (m * cs.length)) (i.toNat * cs.length) vs).length ≤ row.length := by rw [hsl, hrl]; exact hfit
          have hB : off + i.toNat * cs.length + vs.length ≤ row.length := by rw [hvl, hrl]; omega
          rw [← splice_eq _ _ _ hA, ← splice_eq _ _ _ hB]
          apply List.ext_getElem?
          intro k
          rw [spliceAt_get _ _ _ _ hA, spliceAt_get _ _ _ _ hB, hsl]
          by_cases c1 : off ≤ k ∧ k < off + m * cs.length
          · rw [if_pos c1, spliceAt_get _ _ _ _ hvfit]
            by_cases c2 : i.toNat * cs.length ≤ k - off ∧ k - off < i.toNat * cs.length + vs.length
            · rw [if_pos c2, if_pos (by omega)]; congr 1; omega
            · rw [if_neg c2, if_neg (by omega), List.getElem?_take, if_pos (by omega), List.getElem?_drop]; congr 1; omega
          · rw [if_neg c1, if_neg (by omega)]
        rw [← hrow2]
        exact hsb
  | eview x ver sz i off =>
    simp only [storeAt, Rd.eval_bind, Option.bind_eq_some_iff] at he
    obtain ⟨⟨⟨e, t, l⟩, l3⟩, h5, h6⟩ := he
    have hx := ownerAt_eval h5
    simp only at hx h6
    cases hs : Nat.beq sz t.size with
    | false => rw [hs] at h6; simp [Rd.eval] at h6
    | true =>
      rw [hs] at h6
      have hs := Nat.eq_of_beq_eq_true hs
      subst hs
      simp only [Bool.not_true, cond_false] at h6
      cases hp : (cs.all plainCell && Nat.ble (off + cs.length) t.size) with
      | false => rw [hp] at h6; simp [Rd.eval] at h6
      | true =>
        rw [hp] at h6
        simp only [Bool.and_eq_true] at hp
        have hfit := Nat.le_of_ble_eq_true hp.2
        simp only [Bool.not_true, cond_false, Rd.eval_bind, Option.bind_eq_some_iff, Rd.eval_ofOpt, Option.map_eq_some_iff] at h6
        obtain ⟨_, ⟨y, h7, rfl⟩, h8⟩ := h6
        simp only [Rd.eval, Option.some.injEq, Prod.mk.injEq] at h8
        obtain ⟨rfl, _⟩ := h8
        obtain ⟨g, m, cc, hψ, hin, hpv⟩ := hg.1
        have hφ : γ.φ x = .slice (some ⟨g, 0, none⟩) m cc := by rw [← (h.own x e t ver l hx).1]; exact hψ
        have hm : m = l.length := by
          obtain ⟨Ad, c', hsl, _⟩ := OwnV.slice (h.cell x _ hx).1
          rw [hφ] at hsl
          injection hsl with _ h2 _
        rw [hm] at hin
        obtain ⟨cur, fz, hgc, hfz, hfc, hcore⟩ := h.storeElem hst hG0 hx hφ hin hcs h7 hfit
        have hrun := run_storeVar_at (w := w) ht (g := g) (o := i.toNat * t.size + off) hcells (by rw [hvl]; exact hlen) hgc hfz hfc hcs.one
        exact ⟨_, _, hpv, hrun, _, hcore.fr fun _ hh => hh.1⟩
  | eviewI x ver sz i off m sz2 j =>
    simp only [storeAt, Rd.eval_bind, Option.bind_eq_some_iff] at he
    obtain ⟨⟨⟨e, t, l⟩, l3⟩, h5, h6⟩ := he
    have hx := ownerAt_eval h5
    simp only at hx h6
    cases hs : Nat.beq sz t.size with
    | false => rw [hs] at h6; simp [Rd.eval] at h6
    | true =>
      rw [hs] at h6
      have hs := Nat.eq_of_beq_eq_true hs
      subst hs
      simp only [Bool.not_true, cond_false] at h6
      cases hp : (Nat.beq cs.length sz2 && Nat.ble (off + m * sz2) t.size) with
      | false => rw [hp] at h6; simp [Rd.eval] at h6
      | true =>
        rw [hp] at h6
        simp only [Bool.and_eq_true] at hp
        have hsz := Nat.eq_of_beq_eq_true hp.1
        have hfit := Nat.le_of_ble_eq_true hp.2
        subst hsz
        simp only [Bool.not_true, cond_false, Rd.eval_bind, Option.bind_eq_some_iff, Rd.eval_ofOpt, Option.map_eq_some_iff] at h6
        obtain ⟨_, ⟨arr, h7, rfl⟩, _, ⟨arr', h8, rfl⟩, _, ⟨y, h9, rfl⟩, h10⟩ := h6
        simp only [Rd.eval, Option.some.injEq, Prod.mk.injEq] at h10
        obtain ⟨rfl, _⟩ := h10
        simp only at h7 h8 h9
        obtain ⟨e1, e2⟩ := takeN_eq h7
        obtain ⟨g, m', cc, hψ, hin, hinj, hpv⟩ := hg.1
        have hφ : γ.φ x = .slice (some ⟨g, 0, none⟩) m' cc := by rw [← (h.own x e t ver l hx).1]; exact hψ
        have hcx := (h.cell x _ hx).1
        have hm : m' = l.length := by
          obtain ⟨Ad, c', hsl, _⟩ := OwnV.slice hcx
          rw [hφ] at hsl
          injection hsl with _ h2 _
        rw [hm] at hin
        have hin' := inB_iff.1 hinj
        rw [hφ] at hcx
        obtain ⟨ht0, xs, ho, hrs⟩ := id hcx
        obtain ⟨us0, hr0, hc0⟩ := hrs.at l xs i.toNat _ (nth_get hin)
        have hl0 := RepI.length _ _ _ hr0
        have hex : RelCs A γ w Fr (explode t (nth t l i)) us0 := explode_rel t _ us0 hr0
        have hexl := hex.length
        have harr : RelCs A γ w Fr arr ((us0.drop off).take (m * cs.length)) := by
          rw [e1]
          exact (hex.drop off).split
        have harl : ((us0.drop off).take (m * cs.length)).length = m * cs.length := by
          rw [List.length_take, List.length_drop]; omega
        obtain ⟨k1, k2⟩ := putCells_in hcs m 0 arr _ arr' (by omega) (by omega) h8 harr
        simp only [Nat.sub_zero] at k1 k2
        rw [harl] at k2
        have hal := k1.length
        have hsl : (spliceAt ((us0.drop off).take (m * cs.length)) (j.toNat * cs.length) vs).length = m * cs.length := by
          rw [spliceAt_length _ _ _ (by rw [harl, hvl]; exact k2), harl]
        rw [hsl] at hal
        obtain ⟨cur, fz, hgc, hfz, hfc, hcore⟩ := h.storeElem hst hG0 hx hφ hin k1 h9 (by rw [← hal]; exact hfit)
        rw [hsl] at hfc
        have hcur : ∀ k, k < m * cs.length → cur.toList[i.toNat * t.size + off + k]? = ((us0.drop off).take (m * cs.length))[k]? := by
          intro k hk
          rw [List.getElem?_take, if_pos hk, List.getElem?_drop]
          have hk2 : off + k < us0.length := by omega
          rw [List.getElem?_eq_getElem hk2]
          have := ho.cells (g := g) (by simp [Value.ownBlock]) _ _ (hc0 _ _ (List.getElem?_eq_getElem hk2))
          rw [add_plain, Nat.zero_add, cell_of_row w g _ cur e fz hgc] at this
          rw [Array.getElem?_toList, ← this]
          congr 1; omega
        have hworld := splice_in cur.toList (i.toNat * t.size + off) ((us0.drop off).take (m * cs.length)) vs (j.toNat * cs.length) (by rw [harl]; simpa using hfc) (by rw [harl]; exact hcur) (by rw [harl, hvl]; exact k2)
        rw [hworld] at hcore
        have hrun := run_storeVar_at (w := w) ht (g := g) (o := i.toNat * t.size + off + j.toNat * cs.length) hcells (by rw [hvl]; exact hlen) hgc hfz (by rw [hvl]; omega) hcs.one
        exact ⟨_, _, hpv, hrun, _, hcore.fr fun _ hh => hh.1⟩
  | undef => simp [storeAt, Rd.eval] at he
  | int k n => simp [storeAt, Rd.eval] at he
  | bool b => simp [storeAt, Rd.eval] at he
  | str s => simp [storeAt, Rd.eval] at he
  | own e t v l => simp [storeAt, Rd.eval] at he
  | nil e t => simp [storeAt, Rd.eval] at he
  | imm t l p => simp [storeAt, Rd.eval] at he
  | view x v => simp [storeAt, Rd.eval] at he
  | sub x v s lo hi => simp [storeAt, Rd.eval] at he
  | barr b bv o n t => simp [storeAt, Rd.eval] at he
  | gptr g o => simp [storeAt, Rd.eval] at he
  | gptrI g o n s i => simp [storeAt, Rd.eval] at he
  | iptr t x o => simp [storeAt, Rd.eval] at he
  | iptrI t x o n s i => simp [storeAt, Rd.eval] at he
  | eimm t l i o => simp [storeAt, Rd.eval] at he
  | eimmI t l i o m s2 j => simp [storeAt, Rd.eval] at he
  | func f => simp [storeAt, Rd.eval] at he
  | clo as rs F => simp [storeAt, Rd.eval] at he

theorem op_store {o : Oper} {us : List Upd} {lg : List Slot} (h : Core A X γ Fr env a w) (hst : Stable A.n0 A.G) (hG0 : BaseOK A) (hty : TyOK A.P X) (hv : Fr vn) {T : TypeId} {x y : Operand} (ho : o.op = .store T x y)
    (he : (opRd X vn o).eval env.get [] = some (us, lg)) : OpOK A X (FrD Fr vn) o us env a w := by
  have hdn : o.dst = none := by
    cases hdn : o.dst with
    | none => rfl
    | some d => simp [opRd, ho, hdn, Rd.eval] at he
  simp only [opRd, ho, hdn, Rd.eval_bind, Option.bind_eq_some_iff, Ctx.ti, Rd.eval_ofOpt, Option.map_eq_some_iff] at he
  obtain ⟨_, ⟨ti, h1, rfl⟩, ⟨c, l1⟩, h2, ⟨av, l2⟩, h3, h4⟩ := he
  have ht := hty T ti h1
  have hr := rdOp_sound h h3
  cases av with
  | val g cs =>
    simp only at h4
    cases hlen : Nat.beq cs.length ti.ty.size with
    | false => rw [hlen] at h4; simp [Rd.eval] at h4
    | true =>
      rw [hlen] at h4
      have hlen := Nat.eq_of_beq_eq_true hlen
      simp only [cond_true] at h4
      obtain ⟨vs, hv', hg, hcs⟩ := hr
      obtain ⟨ad, w', hp, hrun, hh⟩ := storeAt_sound h hst hG0 hv ht (v := a.eval y) (rdCell_sound h h2) hcs (by rw [hv']; exact mkVal_cells hcs.one (fun hgf => by rw [hcs.length]; exact hg hgf)) hlen h4
      refine OpOK.skip (w' := w') ?_ (by rw [hdn]; exact hh)
      simp only [execOp, ho, Instr.storeAt, Instr.sureAddr, hp, Sem.run_bind, Sem.run_pure, Result.andThen_ok, hrun]
  | skip => simp [Rd.eval] at h4
  | undef => simp [Rd.eval] at h4
  | tup l => simp [Rd.eval] at h4
  | box _ _ _ => simp [Rd.eval] at h4
  | num _ => simp [Rd.eval] at h4
end
end Go.VI
