/- VI, part 8: memory: variables made, read. -/
import Derived.Test.YtlnfgikipeiaiaaViInst
namespace Go.VI
open Go.RowKit
theorem mkVal_cells {g : Bool} {us : List Value} (h1 : ∀ u ∈ us, u.oneCell' = true) (hg : g = false → us.length = 1) : (mkVal g us).cells = us.toArray := by
  cases g with
  | true => rfl
  | false =>
    have := hg rfl
    match us, this with
    | [u], _ =>
      have h := h1 u (by simp)
      cases u <;> simp_all [mkVal, Value.cells, Value.oneCell']
theorem add_zero_block (a : Addr) (n : Nat) : (a.add n).block = a.block := by unfold Addr.add; split <;> rfl
theorem add_add (a : Addr) (m n : Nat) : (a.add m).add n = a.add (m + n) := by
  unfold Addr.add
  by_cases hn : n = 0
  · subst hn; simp
  · by_cases hm : m = 0
    · subst hm; simp [hn]
    · have : ¬ (m + n = 0) := by omega
      simp [hn, hm, Nat.add_assoc]
theorem add_plain (g o n : Nat) : (⟨g, o, none⟩ : Addr).add n = ⟨g, o + n, none⟩ := by unfold Addr.add; split <;> simp_all
section
variable {A : Fix} {X : Ctx} {γ : Gh} {Fr : Nat → Prop} {env : Env} {a : Act} {w w' : World} {vn : Nat}
theorem RelCs.one : ∀ {cs : List Cell} {us : List Value}, RelCs A γ w Fr cs us → ∀ u ∈ us, u.oneCell' = true
  | [], us, h => by rw [show us = [] from h]; simp
  | c :: r, us, ⟨u, us', h1, h2, h3⟩ => by
    rw [h1]
    intro u' hu'
    rcases List.mem_cons.1 hu' with rfl | hu'
    · exact h2.2.1
    · exact RelCs.one h3 u' hu'
theorem explode_rel : ∀ (t : Ty) (x : t.den) (us : List Value), RepI γ.Z w t x us → RelCs A γ w Fr (explode t x) us
  | .int k, n, us, h => ⟨_, [], h, good_int k n, rfl⟩
  | .bool, b, us, h => ⟨_, [], h, good_bool b, rfl⟩
  | .str, s, us, h => ⟨_, [], h, good_str s, rfl⟩
  | .unit, _, us, h => h
  | .pair a b, x, us, ⟨c1, c2, h0, h1, h2⟩ => by rw [h0]; exact (explode_rel a x.1 c1 h1).append (explode_rel b x.2 c2 h2)
  | .sl t, l, us, h => by
    obtain ⟨B, c, h0, h1, h2⟩ := h
    exact ⟨_, [], h0, ⟨⟨⟨B, c, rfl, h1, h2⟩, by simp⟩, rfl, by simp [refs], rfl⟩, rfl⟩
theorem implode_rel : ∀ (t : Ty) (cs : List Cell) (us : List Value) (x : t.den) (r : List Cell), implode t cs = some (x, r) → RelCs A γ w Fr cs us →
    ∃ u1 u2, us = u1 ++ u2 ∧ RepI γ.Z w t x u1 ∧ RelCs A γ w Fr r u2
  | .int k, cs, us, x, r, h, hr => by
    cases cs with
    | nil => simp [implode] at h
    | cons c cs =>
      obtain ⟨u, us', rfl, hg, hr'⟩ := hr
      cases c <;> simp [implode] at h
      obtain ⟨rfl, rfl, rfl⟩ := h
      exact ⟨[u], us', rfl, by rw [show u = _ from hg.1]; rfl, hr'⟩
  | .bool, cs, us, x, r, h, hr => by
    cases cs with
    | nil => simp [implode] at h
    | cons c cs =>
      obtain ⟨u, us', rfl, hg, hr'⟩ := hr
      cases c <;> simp [implode] at h
      obtain ⟨rfl, rfl⟩ := h
      exact ⟨[u], us', rfl, by rw [show u = _ from hg.1]; rfl, hr'⟩
  | .str, cs, us, x, r, h, hr => by
    cases cs with
    | nil => simp [implode] at h
    | cons c cs =>
      obtain ⟨u, us', rfl, hg, hr'⟩ := hr
      cases c <;> simp [implode] at h
      obtain ⟨rfl, rfl⟩ := h
      exact ⟨[u], us', rfl, by rw [show u = _ from hg.1]; rfl, hr'⟩
  | .unit, cs, us, x, r, h, hr => by
    simp [implode] at h
    subst h
    exact ⟨[], us, rfl, rfl, hr⟩
  | .pair a b, cs, us, x, r, h, hr => by
    simp only [implode] at h
    split at h
    · rename_i y m h1
      split at h
      · rename_i z m' h2
        simp only [Option.some.injEq, Prod.mk.injEq] at h
        obtain ⟨rfl, rfl⟩ := h
        obtain ⟨u1, u2, rfl, r1, r2⟩ := implode_rel a cs us y m h1 hr
        obtain ⟨u3, u4, rfl, r3, r4⟩ := implode_rel b m u2 z m' h2 r2
        exact ⟨u1 ++ u3, u4, by rw [List.append_assoc], ⟨u1, u3, rfl, r1, r3⟩, r4⟩
      · cases h
    · cases h
  | .sl t, cs, us, x, r, h, hr => by
    cases cs with
    | nil => simp [implode] at h
    | cons c cs =>
      obtain ⟨u, us', rfl, hg, hr'⟩ := hr
      cases c <;> simp [implode] at h
      · obtain ⟨rfl, rfl⟩ := h
        refine ⟨[u], us', rfl, ?_, hr'⟩
        rw [show u = _ from hg.1]
        exact ⟨none, 0, rfl, Nat.le_refl _, fun i x hx => by simp at hx⟩
      · obtain ⟨⟨rfl, rfl⟩, rfl⟩ := h
        exact ⟨[u], us', rfl, hg.1.1, hr'⟩
theorem run_loadVar_at {T : TypeId} {ti : TI} (ht : TIOK A.P T ti) {ad : Addr} {us : List Value} (hl : us.length = ti.ty.size) (hc : ∀ j u, us[j]? = some u → w.cell? (ad.add j) = some u) :
    (loadVar T ad).run A.P w = .ok (mkVal ti.agg us) w := by
  obtain ⟨i, hi, hs, _, _⟩ := ht.info'
  have hu := run_underlying (P := A.P) ht.und w
  have hagg : (isAgg T).run A.P w = .ok ti.agg w := by
    rw [ht.agg]
    unfold isAgg
    simp only [Sem.run_bind, hu, Result.andThen_ok]
    cases ti.desc <;> rfl
  unfold loadVar
  simp only [Sem.run_bind, hagg, Result.andThen_ok]
  cases hg : ti.agg with
  | true =>
    simp only [if_true, Sem.run_bind, sizeOf, typeInfo, Sem.run_pure]
    simp only [program, Sem.run, hi, Sem.run_pure, Result.andThen_ok, hs, ← hl, run_loadCells_list w ad us hc]
    rfl
  | false =>
    have h1 := ht.one hg
    rw [← hl] at h1
    match us, h1 with
    | [u], _ =>
      have := hc 0 u rfl
      have h0 : ad.add 0 = ad := by simp [Addr.add]
      rw [h0] at this
      simp [mkVal, run_load, this]
theorem Core.newBox (h : Core A X γ Fr env a w) (hst : Stable A.n0 A.G) (hv : Fr vn) {d : Nat} (hd : d < X.ntmps) {cs : List Cell} {vs : List Value} (hi : InstOK A γ w Fr vn env cs vs) (T : TypeId) :
    Holds A X (FrD Fr vn) ((.tmp d, .val false [.addr d vn 0]) :: (.box d, .box vn false cs) :: env) (a.put (some d) (.pointer (some ⟨w.heap.size, 0, none⟩))) (w.alloc (.cells vs.toArray T)) := by
  have hlt : ∀ {g : Nat} {o : Obj}, w.heap[g]? = some o → g < w.heap.size := fun hh => (Array.getElem?_eq_some_iff.1 hh).1
  have hbel : Below w.heap.size w (w.alloc (.cells vs.toArray T)) := (Below.refl _ _).alloc (Nat.le_refl _) _
  let σ' : Nat → Nat → Nat := fun b v => if b = d ∧ v = vn then w.heap.size else γ.σ b v
  have hσ : ∀ r, ¬ Fr r → ∀ b, σ' b r = γ.σ b r := fun r hr b => by
    have : r ≠ vn := fun e => hr (by rw [e]; exact hv)
    simp [σ', this]
  have hsz : ∀ y e t ver l, envCell env y = some (.own e t ver l) → ∀ g, (γ.φ y).ownBlock = some g → g < w.heap.size := fun y e t ver l hy g hg => (OwnV.lt (h.cell y _ hy).1 g hg).2
  have hgetv : ∀ j c, cs[j]? = some c → vs[j]? = some (vs.getD j undef) := fun j c hc => by
    have hl : j < vs.length := by rw [hi.len]; exact (List.getElem?_eq_some_iff.1 hc).1
    simp [List.getD, List.getElem?_eq_getElem hl]
  have hmv : ∀ {c u}, RelCell A γ w c u → (∀ r, refs c = some r → ¬ Fr r) → (c.isOwn = true → ∀ g, u.ownBlock = some g → g < w.heap.size) →
      RelCell A { γ with ψ := setψ γ (.box d) vn (fun _ j => vs.getD j undef), σ := σ' } (w.alloc (.cells vs.toArray T)) c u := fun hc hr ho =>
    hc.move (fun r h1 y => show setψ γ (.box d) vn (fun _ j => vs.getD j undef) y r = γ.ψ y r from setψ_old hv r (hr r h1) y) (fun r h1 b => hσ r (hr r h1) b) (fun _ hz => hz)
      (fun g hz => heap_alloc_old w _ g (h.zone g hz)) (by simp) (fun ho' g hg => heap_alloc_old w _ g (ho ho' g hg))
  have hb := h.setBoxG (Fr' := FrD Fr vn) (d := d) (bv := vn) (g0 := w.heap.size) (w' := w.alloc (.cells vs.toArray T)) cs (fun _ j => vs.getD j undef) T
    (setψ γ (.box d) vn (fun _ j => vs.getD j undef)) σ'
    (fun _ hh => hh.1) (setψ_old hv) hσ (by simp [σ']) (fun hh => hh.2 rfl) ⟨fun _ => h.frame.size, fun hh => by have := h.ntl; omega⟩ (fun hz => by have := h.zone _ hz; omega)
    (fun b bv' fz cs' hne hbb => by
      obtain ⟨⟨T', h1⟩, _⟩ := h.box b bv' fz cs' hbb
      have := hlt h1; omega)
    (fun y e t ver l _ hy hg => by have := hsz y e t ver l hy _ hg; omega)
    (GrownD.alloc w _ _) (hst.below h.glob hbel)
    (by rw [heap_alloc_new, range_map_getD vs cs.length hi.len])
    (fun j c hc => by
      have hu := hgetv j c hc
      have hone := hi.one j _ hu
      cases ho : c.isOwn with
      | false =>
        obtain ⟨g1, g2, g3, g4⟩ := hi.rel j c _ hc hu ho
        exact ⟨hmv g1 g3 (fun hh => by rw [ho] at hh; cases hh), g2, fun r hr hh => g3 r hr hh.1⟩
      | true =>
        cases c <;> simp [Cell.isOwn] at ho
        obtain ⟨_, k2, _⟩ := hi.own j _ _ _ _ _ hc hu
        exact ⟨hmv (c := .own _ _ _ _) k2 (by simp [refs]) (fun _ g hg => (k2.lt g hg).2), hone, by simp [refs]⟩)
    (fun j e t ver l hc => by
      have hu := hgetv j _ hc
      obtain ⟨rfl, k2, k3⟩ := hi.own j _ _ _ _ _ hc hu
      refine ⟨by simp [setψ], fun hh => hh.2 rfl, fun g hgb => ⟨(k3 g hgb).but _, by have := (k2.lt g hgb).2; omega, fun j' e' t' ver' l' hc' hgb' => ?_⟩⟩
      exact (hi.uniq j j' _ _ _ _ _ _ _ _ _ _ g hc hu hc' (hgetv j' _ hc') hgb hgb').symm)
  refine Core.putVal hb hd ?_
  exact ⟨[.pointer (some ⟨w.heap.size, 0, none⟩)], rfl, fun _ => rfl, _, [], rfl, ⟨by simp [RelCell, σ'], rfl, fun r hr hh => by simp [refs] at hr; subst hr; exact hh.2 rfl, rfl⟩, rfl⟩
theorem inst_zero {cs : List Cell} (hz : ∀ c ∈ cs, zcell c = true) : InstOK A γ w Fr vn env cs (cs.map cellV) := by
  have hget : ∀ (j : Nat) (u : Value), (cs.map cellV)[j]? = some u → ∃ c, cs[j]? = some c ∧ u = cellV c ∧ zcell c = true := by
    intro j u hu
    rw [List.getElem?_map, Option.map_eq_some_iff] at hu
    obtain ⟨c, hc, rfl⟩ := hu
    exact ⟨c, hc, rfl, hz c (List.mem_of_getElem? hc)⟩
  refine ⟨by simp, fun j u hu => ?_, fun j c u hc hu ho => ?_, fun j e t v l u hc hu => ?_, fun j j' e e' t t' v v' l l' u u' g hc => ?_⟩
  · obtain ⟨c, _, rfl, hzc⟩ := hget j u hu
    exact (zcell_rel (A := A) (γ := γ) (w := w) hzc).2.1
  · obtain ⟨c', hc', rfl, hzc⟩ := hget j u hu
    rw [hc] at hc'; injection hc' with hc'; subst hc'
    obtain ⟨k1, k2, k3, k4⟩ := zcell_rel (A := A) (γ := γ) (w := w) hzc
    exact ⟨k1, k2, by simp [k3], k4⟩
  · have := hz _ (List.mem_of_getElem? hc); simp [zcell] at this
  · have := hz _ (List.mem_of_getElem? hc); simp [zcell] at this
theorem run_zeroValue {T : TypeId} {ti : TI} (ht : TIOK A.P T ti) : (zeroValue T).run A.P w = .ok (mkVal ti.agg (ti.zero.map cellV)) w := by
  obtain ⟨i, hi, hs, _, hz⟩ := ht.info'
  simp only [zeroValue, typeInfo, Sem.run_bind, program, Sem.run, hi, Sem.run_pure, Result.andThen_ok, hz]
theorem zcell_one {c : Cell} (h : zcell c = true) : (cellV c).oneCell' = true := by
  cases c <;> simp [zcell] at h <;> simp [cellV, Value.oneCell']
theorem zero_cells {T : TypeId} {ti : TI} (ht : TIOK A.P T ti) : (mkVal ti.agg (ti.zero.map cellV)).cells = (ti.zero.map cellV).toArray :=
  mkVal_cells (fun u hu => by
    obtain ⟨c, hc, rfl⟩ := List.mem_map.1 hu
    exact zcell_one (ht.zcells c hc)) (fun hg => by rw [List.length_map, ht.zlen]; exact ht.one hg)
theorem run_newVar (T : TypeId) (v : Value) : (newVar T v).run A.P w = .ok ⟨w.heap.size, 0, none⟩ (w.alloc (.cells v.cells T)) := rfl
theorem op_alloc {o : Oper} {us : List Upd} {lg : List Slot} (h : Core A X γ Fr env a w) (hst : Stable A.n0 A.G) (hty : TyOK A.P X) (hv : Fr vn) (hd : dstOk X o) {T : TypeId} (ho : o.op = .alloc T)
    (he : (opRd X vn o).eval env.get [] = some (us, lg)) : OpOK A X (FrD Fr vn) o us env a w := by
  simp only [opRd, ho] at he
  cases hdst : o.dst with
  | none => rw [hdst] at he; simp [Rd.eval] at he
  | some d =>
    rw [hdst] at he
    simp only [Rd.eval_bind, Option.bind_eq_some_iff, Ctx.ti, Rd.eval_ofOpt, Option.map_eq_some_iff] at he
    obtain ⟨_, ⟨ti, h1, rfl⟩, h2⟩ := he
    simp only [Rd.eval, Option.some.injEq, Prod.mk.injEq] at h2
    obtain ⟨rfl, _⟩ := h2
    have ht := hty T ti h1
    have hrun : (execOp a.eval o).run A.P w = .ok (.value (.pointer (some ⟨w.heap.size, 0, none⟩))) (w.alloc (.cells (ti.zero.map cellV).toArray T)) := by
      simp only [execOp, ho, Instr.alloc, Sem.run_bind, run_zeroValue ht, Result.andThen_ok, run_newVar, Sem.run_pure, zero_cells ht]
    refine OpOK.value hrun ?_
    rw [hdst]
    exact h.newBox hst hv (hd d hdst) (inst_zero ht.zcells) T
theorem op_box {o : Oper} {us : List Upd} {lg : List Slot} (h : Core A X γ Fr env a w) (hst : Stable A.n0 A.G) (hv : Fr vn) (hd : dstOk X o) {T : TypeId} {x : Operand} (ho : o.op = .box T x)
    (he : (opRd X vn o).eval env.get [] = some (us, lg)) : OpOK A X (FrD Fr vn) o us env a w := by
  simp only [opRd, ho] at he
  cases hdst : o.dst with
  | none => rw [hdst] at he; simp [Rd.eval] at he
  | some d =>
    rw [hdst] at he
    simp only [Rd.eval_bind, Option.bind_eq_some_iff, Ctx.ti, Rd.eval_ofOpt, Option.map_eq_some_iff] at he
    obtain ⟨_, ⟨ti, h1, rfl⟩, ⟨av, l1⟩, h2, h3⟩ := he
    have hr := rdOp_sound h h2
    cases av with
    | val g cs =>
      simp only at h3
      cases hc : (g == ti.agg && Nat.beq cs.length ti.ty.size) with
      | false => rw [hc] at h3; simp [Rd.eval] at h3
      | true =>
        rw [hc] at h3
        simp only [cond_true, Rd.eval_bind, Option.bind_eq_some_iff] at h3
        obtain ⟨⟨⟨cs', us'⟩, l2⟩, h4, h5⟩ := h3
        simp only [Rd.eval, Option.some.injEq, Prod.mk.injEq] at h5
        obtain ⟨rfl, _⟩ := h5
        obtain ⟨vs, hv', hg, hcs⟩ := hr
        obtain ⟨k1, k2, _, _⟩ := install_sound cs [] env vs cs' us' l1 l2 h (fun _ _ => rfl) hcs h4
        have hcells : (a.eval x).cells = vs.toArray := by
          rw [hv']; exact mkVal_cells hcs.one (fun hgf => by rw [hcs.length]; exact hg hgf)
        have hrun : (execOp a.eval o).run A.P w = .ok (.value (.pointer (some ⟨w.heap.size, 0, none⟩))) (w.alloc (.cells vs.toArray T)) := by
          simp only [execOp, ho, Instr.box, Sem.run_bind, Result.andThen_ok, run_newVar, Sem.run_pure, hcells]
        refine OpOK.value hrun ?_
        rw [hdst, appAll_append]
        exact k2.newBox hst hv (hd d hdst) k1 T
    | skip => simp [Rd.eval] at h3
    | undef => simp [Rd.eval] at h3
    | tup l => simp [Rd.eval] at h3
    | box _ _ _ => simp [Rd.eval] at h3
    | num _ => simp [Rd.eval] at h3
end
end Go.VI
