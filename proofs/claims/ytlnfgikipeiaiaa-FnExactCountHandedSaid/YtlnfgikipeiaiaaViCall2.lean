/- VI, part 21: the operations that call. -/
import Derived.Test.YtlnfgikipeiaiaaViM1
import Derived.Test.YtlnfgikipeiaiaaViClo0
namespace Go.VI
open Go.RowKit
section
variable {A : Fix} {X : Ctx} {γ : Gh} {Fr : Nat → Prop} {env : Env} {a : Act} {w w' : World} {vn : Nat} {o : Oper} {us : List Upd} {lg : List Slot}
theorem OpOK.call {Fr' : Nat → Prop} {f : FuncId} {args : Array Value} (hrun : (execOp a.eval o).run A.P w = (callFunc f args).run A.P w)
    (h : FCalls A.P f args w fun v w' => Holds A X Fr' (appAll env us) (a.put o.dst v) w') : OpOK A X Fr' o us env a w := by
  intro next Q hn
  unfold Oper.wp
  rw [hrun]
  rcases h with ⟨v, w', h1, h2⟩ | ⟨h1, h2⟩
  · rw [h1]; exact hn _ _ h2
  · rw [h1, Oper.upon_enter]
    refine h2.mono ?_
    rintro e w' ⟨v, rfl, hh⟩
    exact hn _ _ hh
theorem rdArgs_sound (h : Core A X γ Fr env a w) : ∀ (xs : List Operand) (ts : List TypeId) {as : List (Bool × List Cell)} {l0 l1 : List Slot}, (rdArgs X xs ts).eval env.get l0 = some (as, l1) → RelComps A γ w Fr as (xs.map a.eval)
  | [], ts, as, l0, l1, he => by
    simp only [rdArgs, Rd.eval, Option.some.injEq, Prod.mk.injEq] at he
    obtain ⟨rfl, _⟩ := he
    rfl
  | x :: r, ts, as, l0, l1, he => by
    simp only [rdArgs, Rd.eval_bind, Option.bind_eq_some_iff] at he
    obtain ⟨⟨av, l2⟩, h1, h2⟩ := he
    have hr := rdOp_sound h h1
    cases av with
    | val g cs =>
      simp only [Rd.eval_bind, Option.bind_eq_some_iff] at h2
      obtain ⟨⟨q, l3⟩, h3, h4⟩ := h2
      simp only [Rd.eval, Option.some.injEq, Prod.mk.injEq] at h4
      obtain ⟨rfl, _⟩ := h4
      exact ⟨_, _, rfl, hr, rdArgs_sound h r _ h3⟩
    | skip => simp [Rd.eval] at h2
    | undef => simp [Rd.eval] at h2
    | tup l => simp [Rd.eval] at h2
    | box _ _ _ => simp [Rd.eval] at h2
    | num _ => simp [Rd.eval] at h2
theorem op_callf (h : Core A X γ Fr env a w) (hst : Stable A.n0 A.G) (hG0 : BaseOK A) (hcon : ConOK A.P A.G X) (hmcon : MConOK A.P A.n0 A.G X) (hv : Fr vn) (hd : dstOk X o) {c : Call} {f : FuncId} (ho : o.op = .call c) (hc : c.callee = .value (.func f))
    (he : (opRd X vn o).eval env.get [] = some (us, lg)) : OpOK A X (FrD Fr vn) o us env a w := by
  have hargs : (c.args.toList.map a.eval).toArray = c.args.map a.eval := by apply Array.ext'; simp
  have hrun : (execOp a.eval o).run A.P w = (callFunc f (c.args.map a.eval)).run A.P w := by simp [execOp, ho, resolve, hc, Act.eval, Deferred.ofValue, invoke]
  simp only [opRd, ho, hc] at he
  split at he
  · rename_i C0 r0 k1
    simp only [Rd.eval_bind, Option.bind_eq_some_iff] at he
    obtain ⟨⟨as0, l1⟩, h1, ⟨as, l0⟩, h0, ⟨⟨cs, us1⟩, l2⟩, h2, h3⟩ := he
    obtain ⟨C, hC, m0, m1, h2⟩ := callAlts_eval r0 C0 h2
    rw [← k1] at hC
    simp only [Rd.eval, Option.some.injEq, Prod.mk.injEq] at h3
    obtain ⟨rfl, _⟩ := h3
    have hr := cloArgs_sound hcon h.zone (rdArgs_sound h _ _ h1) h0
    have hs := callBy_sound h hst (hcon f C hC) hr h2
    rw [hargs] at hs
    refine OpOK.call (f := f) (args := c.args.map a.eval) hrun (hs.mono ?_)
    rintro v w' ⟨γ2, uss, fv, rfl, c1, c2, c3, c4⟩
    rw [appAll_append]
    exact c1.putRes hv hd c2 c3 c4
  · simp only [Rd.eval_bind, Option.bind_eq_some_iff, Rd.eval_ofOpt, Option.map_eq_some_iff] at he
    obtain ⟨_, ⟨C, k1, rfl⟩, ⟨as, l1⟩, h1, ⟨⟨cs, us1⟩, l2⟩, h2, h3⟩ := he
    simp only [Rd.eval, Option.some.injEq, Prod.mk.injEq] at h3
    obtain ⟨rfl, _⟩ := h3
    have hr := rdArgs_sound h _ _ h1
    have hs := callByM_sound h hst hG0 (hmcon f C k1) hr h2
    rw [hargs] at hs
    refine OpOK.call (f := f) (args := c.args.map a.eval) hrun (hs.mono ?_)
    rintro v w' ⟨γ2, uss, fv, rfl, c1, c2, c3, c4⟩
    rw [appAll_append]
    exact c1.putRes hv hd c2 c3 c4
theorem implodeL_sound (h : Core A X γ Fr env a w) (Z : Nat → Prop) : ∀ (As : List (Bool × Ty)) (cs : List (Bool × List Cell)) {vs : List Value} {xs : denL As} {l0 l1 : List Slot},
    RelComps A { γ with Z := Z } w Fr cs vs → (implodeL As cs).eval env.get l0 = some (xs, l1) → RelArgsL Z w As xs vs
  | [], cs, vs, xs, l0, l1, hr, he => by
    cases cs with
    | nil => exact hr
    | cons p r => simp [implodeL, Rd.eval] at he
  | q :: as, cs, vs, xs, l0, l1, hr, he => by
    cases cs with
    | nil => simp [implodeL, Rd.eval] at he
    | cons p r =>
      obtain ⟨g', c⟩ := p
      obtain ⟨v, vs', h1, ⟨us, hv, hl, h2⟩, h3⟩ := hr
      simp only [implodeL] at he
      cases hg : (q.1 == g') with
      | false => rw [hg] at he; simp [Rd.eval] at he
      | true =>
        rw [hg] at he
        have hg : q.1 = g' := by simpa using hg
        subst hg
        simp only [cond_true] at he
        split at he
        · rename_i x hx
          simp only [Rd.eval_bind, Option.bind_eq_some_iff] at he
          obtain ⟨⟨q1, l2⟩, k1, k2⟩ := he
          simp only [Rd.eval, Option.some.injEq, Prod.mk.injEq] at k2
          obtain ⟨rfl, _⟩ := k2
          exact ⟨us, vs', by rw [h1, hv], fun hgf => by rw [h2.length]; exact hl hgf, implode_all hx h2, implodeL_sound h Z as r h3 k1⟩
        · simp [Rd.eval] at he
theorem resM_leadless : ∀ (t : Ty) (x : t.den) (ms : List RMode) (us : List Value), leads t = false → RepI (fun _ => False) w t x us →
    us.length = (resM t x ms).1.length ∧ (∀ (j : Nat) (rc : RCell) (u : Value), (resM t x ms).1[j]? = some rc → us[j]? = some u → ∃ c, rc = .flat c ∧ zcell c = true ∧ u = cellV c) ∧ (resM t x ms).2 = ms
  | .int k, n, ms, us, _, h => by
    rw [show us = [.int k n] from h]
    exact ⟨rfl, fun j rc u h1 h2 => by cases j <;> simp [resM] at h1 h2; subst h1; subst h2; exact ⟨_, rfl, rfl, rfl⟩, rfl⟩
  | .bool, b, ms, us, _, h => by
    rw [show us = [.bool b] from h]
    exact ⟨rfl, fun j rc u h1 h2 => by cases j <;> simp [resM] at h1 h2; subst h1; subst h2; exact ⟨_, rfl, rfl, rfl⟩, rfl⟩
  | .str, s, ms, us, _, h => by
    rw [show us = [.string ⟨s.toArray⟩] from h]
    exact ⟨rfl, fun j rc u h1 h2 => by cases j <;> simp [resM] at h1 h2; subst h1; subst h2; exact ⟨_, rfl, rfl, rfl⟩, rfl⟩
  | .unit, _, ms, us, _, h => by
    rw [show us = [] from h]
    exact ⟨rfl, fun j rc u h1 h2 => by simp at h2, rfl⟩
  | .pair a b, x, ms, us, hl, ⟨c1, c2, h0, h1, h2⟩ => by
    simp only [leads, Bool.or_eq_false_iff] at hl
    obtain ⟨k1, k2, k3⟩ := resM_leadless a x.1 ms c1 hl.1 h1
    obtain ⟨k4, k5, k6⟩ := resM_leadless b x.2 ms c2 hl.2 h2
    simp only [resM, k3]
    refine ⟨by rw [h0]; simp [k1, k4], fun j rc u hj hu => ?_, k6⟩
    rw [h0] at hu
    by_cases hlt : j < c1.length
    · rw [List.getElem?_append_left (by omega)] at hj
      rw [List.getElem?_append_left hlt] at hu
      exact k2 j rc u hj hu
    · rw [List.getElem?_append_right (by omega)] at hj
      rw [List.getElem?_append_right (by omega), k1] at hu
      exact k5 _ rc u hj hu
  | .sl t, l, ms, us, hl, h => by simp [leads] at hl
theorem resL_leadless (avs : List Value) (Z : Nat → Prop) (B : Nat) : ∀ (R : List (Bool × Ty)) (r : denL R) (vs : List Value), RelResL w R r vs → ∃ f : Nat → Nat → Value, vs.length = (resL R r []).length ∧
    ∀ i p, (resL R r [])[i]? = some p → vs[i]? = some (mkVal p.1 ((List.range p.2.length).map (f i))) ∧ (p.1 = false → p.2.length = 1) ∧ ∀ j rc, p.2[j]? = some rc → RRel Z w B avs rc (f i j) ∧ ∃ c, rc = .flat c
  | [], r, vs, h => ⟨fun _ _ => undef, by rw [show vs = [] from h]; rfl, fun i p hp => by simp [resL] at hp⟩
  | q :: R, r, vs, ⟨us, vs', h1, h2, h3, h4, h5⟩ => by
    obtain ⟨k1, k2, k3⟩ := resM_leadless q.2 r.1 [] us h3 h4
    obtain ⟨f, g1, g2⟩ := resL_leadless avs Z B R r.2 vs' h5
    refine ⟨fun i j => match i with | 0 => us.getD j undef | i + 1 => f i j, ?_, fun i p hp => ?_⟩
    · rw [h1]; simp [resL, k3, g1]
    · cases i with
      | zero =>
        simp only [resL, List.getElem?_cons_zero, Option.some.injEq] at hp
        subst hp
        refine ⟨by rw [h1, range_map_getD us _ k1]; rfl, fun hg => by rw [← k1]; exact h2 hg, fun j rc hrc => ?_⟩
        have hlt : j < us.length := by rw [k1]; exact (List.getElem?_eq_some_iff.1 hrc).1
        obtain ⟨c, rfl, hz, hu⟩ := k2 j rc _ hrc (List.getElem?_eq_getElem hlt)
        refine ⟨⟨hz, ?_⟩, c, rfl⟩
        simp only
        rw [← hu, getD_of (List.getElem?_eq_getElem hlt)]
      | succ i =>
        simp only [resL, k3, List.getElem?_cons_succ] at hp
        obtain ⟨m1, m2, m3⟩ := g2 i p hp
        exact ⟨by rw [h1]; simpa using m1, m2, m3⟩
theorem op_callv (h : Core A X γ Fr env a w) (hst : Stable A.n0 A.G) (hcon : ConOK A.P A.G X) (hv : Fr vn) (hd : dstOk X o) {c : Call} {x : Operand} (ho : o.op = .call c) (hc : c.callee = .value x) (hx : ∀ f, x ≠ .func f)
    (he : (opRd X vn o).eval env.get [] = some (us, lg)) : OpOK A X (FrD Fr vn) o us env a w := by
  have he' : ((rdCell X x 0).bind fun
          | .clo as rs F => (rdArgs X c.args.toList c.argTypes.toList).bind fun vs =>
            (solidArgs vs).bind fun p => (implodeL as p.1).bind fun xs =>
            .opt _ (F xs) fun r => .pure (dstSet o (asAV (toCells [] vn (resL rs r []))))
          | .func f => (Rd.ofOpt (look X.con f)).bind fun C => (rdArgs X c.args.toList c.argTypes.toList).bind fun as =>
            (callBy C vn as).bind fun q => .pure (q.2 ++ dstSet o (asAV q.1))
          | _ => .fail).eval env.get [] = some (us, lg) := by
    simp only [opRd, ho, hc] at he
    cases x with
    | func f => exact absurd rfl (hx f)
    | tmp t => exact he
    | const k => exact he
    | global g => exact he
  simp only [Rd.eval_bind, Option.bind_eq_some_iff] at he'
  obtain ⟨⟨cc, l1⟩, h1, h2⟩ := he'
  have hg := rdCell_sound h h1
  cases cc with
  | clo as rs F =>
    simp only [Rd.eval_bind, Option.bind_eq_some_iff] at h2
    obtain ⟨⟨vs, l2⟩, h3, ⟨⟨ps, ss⟩, l3⟩, h4, ⟨xs, l4⟩, h5, h6⟩ := h2
    simp only [Rd.eval, Option.bind_eq_some_iff, Option.some.injEq, Prod.mk.injEq] at h6
    obtain ⟨r, hF, rfl, _⟩ := h6
    simp only at h5 hF
    have hr := rdArgs_sound h _ _ h3
    have hps := solidArgs_sound h (zoneOf γ ss) vs hr h4 fun _ hg => hg
    have hargs := implodeL_sound h (zoneOf γ ss) as ps hps h5
    have hlt : ∀ g, zoneOf γ ss g → g < w.heap.size := by
      rintro g (hg | ⟨s, hs, hg⟩)
      · exact h.zone g hg
      · exact solidArgs_lt h vs h4 s hs g hg
    obtain ⟨f, caps, hfv, hcl⟩ := hg.1
    have hcalls := hcl w (zoneOf γ ss) xs _ r (fun _ _ => rfl) (Nat.le_refl _) h.glob hlt hargs hF
    refine OpOK.call (f := f) (args := (c.args.toList.map a.eval).toArray ++ caps) ?_ (hcalls.mono ?_)
    · have hargs' : (c.args.toList.map a.eval).toArray = c.args.map a.eval := by apply Array.ext'; simp
      rw [hargs']
      simp [execOp, ho, resolve, hc, hfv, Deferred.ofValue, invoke]
    · rintro e w' ⟨us1, rfl, hbel, hres⟩
      have hG : A.G w' := hst.below h.glob hbel
      have cw := h.world (row := none) ⟨hbel.os, hbel.tape, hbel.output, hbel.size, fun k hk _ => hbel.block k hk, hbel.drawn⟩ (fun g hg => by cases hg) hG
      obtain ⟨fv, g1, g2⟩ := resL_leadless (w := w') [] γ.Z w.heap.size rs r us1 hres
      refine cw.putRes hv hd (f := fv) (by rw [g1]; simp [toCells]) (fun i p hp => ?_) (resRel_inst (B := w.heap.size) (Z' := γ.Z) (avs := []) (Nat.le_trans h.baseB h.frame.size) (fun i p hp => ⟨(g2 i p hp).2.1, fun j rc hrc => ((g2 i p hp).2.2 j rc hrc).1⟩) ?_ rfl (.inl fun _ hg => hg) ?_)
      · obtain ⟨q, hq, rfl⟩ := toCells_get hp
        rw [(g2 i q hq).1, List.length_map]
      · intro i j i' j' p p' rc rc' g hp hrc ho'
        obtain ⟨_, cc, rfl⟩ := (g2 i p hp).2.2 j rc hrc
        simp [RCell.isOwn] at ho'
      · intro g hB _ _
        exact h.free_new hB
  | func f =>
    simp only [Rd.eval_bind, Option.bind_eq_some_iff, Rd.eval_ofOpt, Option.map_eq_some_iff] at h2
    obtain ⟨_, ⟨C, k1, rfl⟩, ⟨as, l1⟩, h3, ⟨⟨cs, us1⟩, l2⟩, h4, h5⟩ := h2
    simp only [Rd.eval, Option.some.injEq, Prod.mk.injEq] at h5
    obtain ⟨rfl, _⟩ := h5
    have hfv : a.eval x = .func (.func f) #[] #[] := hg.1
    have hargs : (c.args.toList.map a.eval).toArray = c.args.map a.eval := by apply Array.ext'; simp
    have hrun : (execOp a.eval o).run A.P w = (callFunc f (c.args.map a.eval)).run A.P w := by simp [execOp, ho, resolve, hc, hfv, Deferred.ofValue, invoke]
    have hr := rdArgs_sound h _ _ h3
    have hs := callBy_sound h hst (hcon f C (look_looks k1)) hr h4
    rw [hargs] at hs
    refine OpOK.call (f := f) (args := c.args.map a.eval) hrun (hs.mono ?_)
    rintro v w' ⟨γ2, uss, fv, rfl, c1, c2, c3, c4⟩
    rw [appAll_append]
    exact c1.putRes hv hd c2 c3 c4
  | _ => simp [Rd.eval] at h2
end
end Go.VI
