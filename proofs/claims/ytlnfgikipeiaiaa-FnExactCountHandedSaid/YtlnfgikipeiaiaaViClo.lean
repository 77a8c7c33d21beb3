/- VI, part 21b: closures that a function makes. -/
import Derived.Test.YtlnfgikipeiaiaaViCall2
namespace Go.VI
open Go.RowKit
section
variable {A : Fix} {X : Ctx} {γ : Gh} {Fr : Nat → Prop} {env : Env} {a : Act} {w w' : World} {vn : Nat} {o : Oper} {us : List Upd} {lg : List Slot}
theorem RelComps.zext {γ' : Gh} (hz : ZExt γ γ') : ∀ {cs : List (Bool × List Cell)} {vs : List Value}, RelComps A γ w Fr cs vs → RelComps A γ' w Fr cs vs
  | [], _, h => h
  | _ :: _, _, ⟨v, vs', h1, ⟨us, k1, k2, k3⟩, h3⟩ => ⟨v, vs', h1, ⟨us, k1, k2, RelCs.zext hz k3⟩, RelComps.zext hz h3⟩
theorem Core.freezeBox (h : Core A X γ Fr env a w) {b bv : Nat} {fz : Bool} {cs : List Cell} (hb : env.get (.box b) = .box bv fz cs) (hlb : b < lentBase) :
    Core A X { γ with Z := fun g => γ.Z g ∨ g = γ.σ b bv } Fr ((.box b, .box bv true cs) :: env) a w := by
  have hget : ∀ b1 v1 f1 c1, Env.get ((.box b, .box bv true cs) :: env) (.box b1) = .box v1 f1 c1 → ∃ f0, env.get (.box b1) = .box v1 f0 c1 ∧ (b1 = b → f1 = true) ∧ (b1 ≠ b → f0 = f1) := by
    intro b1 v1 f1 c1 h1
    by_cases e : b1 = b
    · subst e
      rw [Env.get_cons_self] at h1
      injection h1 with h1 h2 h3
      subst h1; subst h2; subst h3
      exact ⟨fz, hb, fun _ => rfl, fun hh => absurd rfl hh⟩
    · rw [Env.get_cons_ne _ _ (by intro hh; injection hh with hh; exact e hh.symm)] at h1
      exact ⟨f1, h1, fun hh => absurd hh e, fun _ => rfl⟩
  have hcell : ∀ x, envCell ((.box b, .box bv true cs) :: env) x = envCell env x := by
    intro x
    unfold envCell
    by_cases e : x.s = .box b
    · rw [e, Env.get_cons_self, hb]
      obtain ⟨s, c, j⟩ := x
      cases c <;> rfl
    · rw [Env.get_cons_ne _ _ (fun hh => e hh.symm)]
  obtain ⟨⟨T, b1⟩, b2, b3, b4⟩ := h.box b bv fz cs hb
  have hlt : γ.σ b bv < w.heap.size := (Array.getElem?_eq_some_iff.1 b1).1
  refine { frame := h.frame, glob := h.glob, zone := fun g hg => hg.elim (h.zone g) fun e => e ▸ hlt, zone0 := ⟨fun g hg => .inl (h.zone0.1 g hg), fun g hg => hg.elim (h.zone0.2 g) fun e => .inr (e ▸ b2.1 hlb)⟩, defers := h.defers, size := h.size, ntl := h.ntl, baseB := h.baseB, tmp := ?_, box := ?_, cell := ?_, own := ?_, inj := ?_, fresh := ?_, lent := h.lent, lentloc := ?_ }
  · intro t
    rw [Env.get_cons_ne _ _ (by simp)]
    exact h.tmp t
  · intro b1 v1 f1 c1 h1
    obtain ⟨f0, k1, k2, k3⟩ := hget b1 v1 f1 c1 h1
    obtain ⟨a1, a2, a3, a4⟩ := h.box b1 v1 f0 c1 k1
    refine ⟨a1, a2, ⟨fun hf => ?_, fun hz => ?_⟩, a4⟩
    · by_cases e : b1 = b
      · subst e
        rw [hb] at k1
        injection k1 with k1 _ _
        exact .inr (by rw [k1])
      · have hf0 : f0 = true := by rw [k3 e]; exact hf
        exact .inl (a3.1 hf0)
    · by_cases e : b1 = b
      · exact k2 e
      · rcases hz with hz | hz
        · rw [← k3 e]; exact a3.2 hz
        · exact absurd (h.inj b1 b v1 bv f0 fz c1 cs k1 hb hz) e
  · intro x c hc
    rw [hcell] at hc
    obtain ⟨a1, a2, a3⟩ := h.cell x c hc
    exact ⟨a1.move (fun _ _ _ => rfl) (fun _ _ _ => rfl) (fun _ hz => .inl hz) (fun _ _ => rfl) (Nat.le_refl _) (fun _ _ _ => rfl), a2, a3⟩
  · intro x e t ver l hc
    rw [hcell] at hc
    obtain ⟨k1, k2, k3⟩ := h.own x e t ver l hc
    refine ⟨k1, k2, fun g hg => ?_⟩
    obtain ⟨a1, a2, a3⟩ := k3 g hg
    refine ⟨?_, ?_, ?_⟩
    · rintro (hz | hz)
      · exact a1 hz
      · exact a2 b bv fz cs hb hz.symm
    · intro b1 v1 f1 c1 h1
      obtain ⟨f0, q1, _⟩ := hget b1 v1 f1 c1 h1
      exact a2 b1 v1 f0 c1 q1
    · intro y e' t' ver' l' hy
      rw [hcell] at hy
      exact a3 y e' t' ver' l' hy
  · intro x1 x2 v1 v2 f1 f2 c1 c2 h1 h2 hs
    obtain ⟨g1, q1, _⟩ := hget x1 v1 f1 c1 h1
    obtain ⟨g2, q2, _⟩ := hget x2 v2 f2 c2 h2
    exact h.inj x1 x2 v1 v2 g1 g2 c1 c2 q1 q2 hs
  · intro x e t ver l hc
    rw [hcell] at hc
    exact h.fresh x e t ver l hc
  · intro k c j cl hc
    rw [hcell] at hc
    exact h.lentloc k c j cl hc
theorem sealBoxes_sound {env0 : Env} : ∀ (ss : List Src) (xs : List Nat) (γ : Gh) (env1 : Env) (us : List Upd) (lg lg' : List Slot),
    Core A X γ Fr env1 a w → (∀ b, memNat b xs = false → env1.get (.box b) = env0.get (.box b)) →
    (∀ b, memNat b xs = true → ∃ bv fz cs, env0.get (.box b) = .box bv fz cs ∧ γ.Z (γ.σ b bv)) →
    (∀ b bv, Src.arr b bv ∈ ss → ∃ fz cs, env0.get (.box b) = .box bv fz cs) →
    (sealBoxes xs ss).eval env0.get lg = some (us, lg') → ∃ γ', Core A X γ' Fr (appAll env1 us) a w ∧ ZExt γ γ' ∧ ∀ g, zoneOf γ ss g → γ'.Z g
  | [], xs, γ, env1, us, lg, lg', hc, hag, hx, hb, he => by
    simp only [sealBoxes, Rd.eval, Option.some.injEq, Prod.mk.injEq] at he
    obtain ⟨rfl, _⟩ := he
    refine ⟨γ, hc, ZExt.refl γ, fun g hg => ?_⟩
    rcases hg with hg | ⟨s, hs, _⟩
    · exact hg
    · cases hs
  | .row x :: r, xs, γ, env1, us, lg, lg', hc, hag, hx, hb, he => by simp [sealBoxes, Rd.eval] at he
  | .arr b bv :: r, xs, γ, env1, us, lg, lg', hc, hag, hx, hb, he => by
    simp only [sealBoxes] at he
    cases hm : memNat b xs with
    | true =>
      rw [hm] at he
      obtain ⟨γ', k1, k2, k3⟩ := sealBoxes_sound r xs γ env1 us lg lg' hc hag hx (fun b' bv' hs => hb b' bv' (List.mem_cons_of_mem _ hs)) he
      refine ⟨γ', k1, k2, fun g hg => ?_⟩
      rcases hg with hg | ⟨s, hs, hsb⟩
      · exact k2.2.2.2 g hg
      · rcases List.mem_cons.1 hs with rfl | hs
        · obtain ⟨bv1, fz1, cs1, q1, q2⟩ := hx b hm
          obtain ⟨fz2, cs2, q3⟩ := hb b bv (List.mem_cons_self ..)
          rw [q1] at q3
          injection q3 with q3 _ _
          have hsb : γ.σ b bv = g := hsb
          rw [← hsb, ← q3]
          exact k2.2.2.2 _ q2
        · exact k3 g (.inr ⟨s, hs, hsb⟩)
    | false =>
      rw [hm] at he
      simp only [cond_false, Rd.eval_bind, Option.bind_eq_some_iff] at he
      obtain ⟨⟨⟨fz, cs⟩, l1⟩, h1, h2⟩ := he
      simp only at h2
      cases hfz : fz with
      | true =>
        rw [hfz] at h2
        simp only [cond_true] at h2
        have hb0 := boxAt_eval h1
        have hb1 : env1.get (.box b) = .box bv fz cs := by rw [hag b hm]; exact hb0
        have hzb : γ.Z (γ.σ b bv) := (hc.box b bv fz cs hb1).2.2.1.1 hfz
        obtain ⟨γ', k1, k2, k3⟩ := sealBoxes_sound r (b :: xs) γ env1 us l1 lg' hc (fun b' hb' => by
            simp only [memNat, Bool.or_eq_false_iff] at hb'
            exact hag b' hb'.2) (fun b' hb' => by
            simp only [memNat, Bool.or_eq_true] at hb'
            rcases hb' with hb' | hb'
            · have e : b' = b := (Nat.eq_of_beq_eq_true hb').symm
              subst e
              exact ⟨bv, fz, cs, hb0, hzb⟩
            · exact hx b' hb') (fun b' bv' hs => hb b' bv' (List.mem_cons_of_mem _ hs)) h2
        refine ⟨γ', k1, k2, fun g hg => ?_⟩
        rcases hg with hg | ⟨s, hs, hsb⟩
        · exact k2.2.2.2 g hg
        · rcases List.mem_cons.1 hs with rfl | hs
          · have hsb : γ.σ b bv = g := hsb
            rw [← hsb]
            exact k2.2.2.2 _ hzb
          · exact k3 g (.inr ⟨s, hs, hsb⟩)
      | false =>
      rw [hfz] at h2
      simp only [cond_false] at h2
      cases hok : (Nat.blt b lentBase && cs.all plainCell) with
      | false => rw [hok] at h2; simp [Rd.eval] at h2
      | true =>
        rw [hok] at h2
        simp only [cond_true, Rd.eval_bind, Option.bind_eq_some_iff] at h2
        obtain ⟨⟨us1, l2⟩, h3, h4⟩ := h2
        simp only [Rd.eval, Option.some.injEq, Prod.mk.injEq] at h4
        obtain ⟨rfl, _⟩ := h4
        have hlt : b < lentBase := by
          simp only [Bool.and_eq_true] at hok
          exact Nat.le_of_ble_eq_true hok.1
        have hb0 := boxAt_eval h1
        have hb1 : env1.get (.box b) = .box bv fz cs := by rw [hag b hm]; exact hb0
        have hk := hc.freezeBox hb1 hlt
        have hz : ZExt γ { γ with Z := fun g => γ.Z g ∨ g = γ.σ b bv } := ⟨rfl, rfl, rfl, fun g hg => .inl hg⟩
        obtain ⟨γ', k1, k2, k3⟩ := sealBoxes_sound r (b :: xs) _ _ us1 _ l2 hk (fun b' hb' => by
            simp only [memNat, Bool.or_eq_false_iff] at hb'
            have hne : b' ≠ b := fun e => by rw [e, Nat.beq_refl] at hb'; exact absurd hb'.1 (by simp)
            rw [Env.get_cons_ne _ _ (by intro hh; injection hh with hh; exact hne hh.symm)]
            exact hag b' hb'.2) (fun b' hb' => by
            simp only [memNat, Bool.or_eq_true] at hb'
            rcases hb' with hb' | hb'
            · have e : b' = b := (Nat.eq_of_beq_eq_true hb').symm
              subst e
              exact ⟨bv, fz, cs, hb0, .inr rfl⟩
            · obtain ⟨bv1, fz1, cs1, q1, q2⟩ := hx b' hb'
              exact ⟨bv1, fz1, cs1, q1, .inl q2⟩) (fun b' bv' hs => hb b' bv' (List.mem_cons_of_mem _ hs)) h3
        refine ⟨γ', k1, hz.trans k2, fun g hg => ?_⟩
        rcases hg with hg | ⟨s, hs, hsb⟩
        · exact k2.2.2.2 g (.inl hg)
        · rcases List.mem_cons.1 hs with rfl | hs
          · have hsb : γ.σ b bv = g := hsb
            exact k2.2.2.2 g (.inr hsb.symm)
          · exact k3 g (.inr ⟨s, hs, hsb⟩)
theorem sealTmp_sound (h : Holds A X Fr env a w) (c : Operand) : Holds A X Fr (sealTmp env c) a w := by
  unfold sealTmp
  split
  · split
    · split
      · rename_i b bv _ _ v cs hb
        cases hok : (Nat.beq v bv && (Nat.blt b lentBase && cs.all plainCell)) with
        | false => exact h
        | true =>
          simp only [Bool.and_eq_true] at hok
          obtain ⟨γ, hc⟩ := h
          exact ⟨_, hc.freezeBox hb (Nat.le_of_ble_eq_true hok.2.1)⟩
      · exact h
    · exact h
  · exact h
theorem sealAll_sound : ∀ (cs : List Operand) {env : Env}, Holds A X Fr env a w → Holds A X Fr (sealAll cs env) a w
  | [], _, h => h
  | c :: r, _, h => sealAll_sound r (sealTmp_sound h c)
theorem preSeal_sound : ∀ (ops : List Oper) {env : Env}, Holds A X Fr env a w → Holds A X Fr (preSeal ops env) a w
  | [], _, h => h
  | o :: r, env, h => by
    unfold preSeal
    split
    · exact preSeal_sound r (sealAll_sound _ h)
    · exact preSeal_sound r h
theorem getPtr_src {c : Cell} {cs : List Cell} {ss : List Src} {l0 l1 : List Slot} (he : (getPtr c).eval env.get l0 = some ((cs, ss), l1)) : ∀ b bv, Src.arr b bv ∈ ss → ∃ fz cs0, env.get (.box b) = .box bv fz cs0 := by
  unfold getPtr at he
  split at he
  · rename_i b0 bv0
    simp only [Rd.eval_bind, Option.bind_eq_some_iff] at he
    obtain ⟨⟨⟨fz, cs0⟩, l4⟩, m1, m2⟩ := he
    simp only [Rd.eval, Option.some.injEq, Prod.mk.injEq] at m2
    obtain ⟨⟨_, rfl⟩, _⟩ := m2
    intro b bv hs
    have := List.mem_singleton.1 hs
    injection this with h1 h2
    subst h1; subst h2
    exact ⟨fz, cs0, boxAt_eval m1⟩
  · simp only [Rd.eval, Option.some.injEq, Prod.mk.injEq] at he
    obtain ⟨⟨_, rfl⟩, _⟩ := he
    intro b bv hs; cases hs
  · simp [Rd.eval] at he
theorem implodeArgs_src : ∀ (As : List ATy) (cs : List (Bool × List Cell)) {xs : denA As} {ss : List Src} {l0 l1 : List Slot}, ptrsOnly As = true → (implodeArgs As cs).eval env.get l0 = some ((xs, ss), l1) →
    ∀ b bv, Src.arr b bv ∈ ss → ∃ fz cs0, env.get (.box b) = .box bv fz cs0
  | [], cs, xs, ss, l0, l1, _, he => by
    cases cs with
    | nil =>
      simp only [implodeArgs, Rd.eval, Option.some.injEq, Prod.mk.injEq] at he
      obtain ⟨⟨_, rfl⟩, _⟩ := he
      intro b bv hs; cases hs
    | cons p r => simp [implodeArgs, Rd.eval] at he
  | .ptr t :: as, cs, xs, ss, l0, l1, hp, he => by
    obtain ⟨c, r, rfl⟩ := implodeArgs_ptr he
    simp only [implodeArgs, Rd.eval_bind, Option.bind_eq_some_iff] at he
    obtain ⟨⟨⟨p1, p2⟩, l2⟩, k1, k2⟩ := he
    simp only at k2
    split at k2
    · simp only [Rd.eval_bind, Option.bind_eq_some_iff] at k2
      obtain ⟨⟨⟨q1, q2⟩, l3⟩, k3, k4⟩ := k2
      simp only [Rd.eval, Option.some.injEq, Prod.mk.injEq] at k4
      obtain ⟨⟨_, rfl⟩, _⟩ := k4
      intro b bv hs
      rcases List.mem_append.1 hs with hs | hs
      · exact getPtr_src k1 b bv hs
      · exact implodeArgs_src as r hp k3 b bv hs
    · simp [Rd.eval] at k2
  | .data _ _ :: _, _, _, _, _, _, hp, _ => by simp [ptrsOnly] at hp
  | .clo _ _ :: _, _, _, _, _, _, hp, _ => by simp [ptrsOnly] at hp
  | .lrow _ _ _ :: _, _, _, _, _, _, hp, _ => by simp [ptrsOnly] at hp
  | .lptr _ :: _, _, _, _, _, _, hp, _ => by simp [ptrsOnly] at hp
theorem op_makeFunc (h : Core A X γ Fr env a w) (hcon : ConOK A.P A.G X) (hd : dstOk X o) {fn : Fn} {first caps : Array Operand} (ho : o.op = .makeFunc fn first caps)
    (he : (opRd X vn o).eval env.get [] = some (us, lg)) : OpOK A X Fr o us env a w := by
  simp only [opRd, ho] at he
  split at he
  · rename_i f hfirst
    simp only [Rd.eval_bind, Option.bind_eq_some_iff, Rd.eval_ofOpt, Option.map_eq_some_iff] at he
    obtain ⟨_, ⟨C, k1, rfl⟩, ⟨vs, l1⟩, h1, ⟨⟨c, us0⟩, l2⟩, h2, h3⟩ := he
    simp only [Rd.eval, Option.some.injEq, Prod.mk.injEq] at h3
    obtain ⟨rfl, _⟩ := h3
    have hr := rdArgs_sound h _ _ h1
    simp only [makeClo] at h2
    cases hok : (ptrsOnly (capTy C.As) && !(C.R.any fun p => leads p.2)) with
    | false => rw [hok] at h2; simp [Rd.eval] at h2
    | true =>
      rw [hok] at h2
      simp only [Bool.and_eq_true, Bool.not_eq_true'] at hok
      simp only [cond_true, Rd.eval_bind, Option.bind_eq_some_iff] at h2
      obtain ⟨⟨⟨xs, ss⟩, l3⟩, h4, ⟨us1, l4⟩, h5, h6⟩ := h2
      simp only [Rd.eval, Option.some.injEq, Prod.mk.injEq] at h6
      obtain ⟨⟨rfl, rfl⟩, _⟩ := h6
      simp only at h5
      have hz0 : ZExt γ { γ with Z := zoneOf γ ss } := ⟨rfl, rfl, rfl, fun g hg => .inl hg⟩
      have hargs := implodeArgs_sound h (zoneOf γ ss) (fun g hg => .inl hg) (capTy C.As) vs (RelComps.zext hz0 hr) h4 (fun s hs g hb => .inr ⟨s, hs, hb⟩)
      have hlt : ∀ g, zoneOf γ ss g → g < w.heap.size := by
        rintro g (hg | ⟨s, hs, hg⟩)
        · exact h.zone g hg
        · exact implodeArgs_lt h (capTy C.As) vs h4 s hs g hg
      obtain ⟨γ1, c1, z1, z2⟩ := sealBoxes_sound ss [] γ env us1 _ _ h (fun _ _ => rfl) (fun b hb => by simp [memNat] at hb) (implodeArgs_src _ _ hok.1 h4) h5
      have hclo := cloOK_of (hcon f C (look_looks k1)) hlt hok.1 hok.2 hargs
      have hrel : RelCell A γ1 w (.clo (cloTy C.As) C.R (fun ys => C.F (joinA C.As ys xs))) (.func (.func f) #[] (caps.toList.map a.eval).toArray) := by
        obtain ⟨f', caps', e1, e2⟩ := hclo
        exact ⟨f', caps', e1, fun w2 Z2 ys vs r hk => e2 w2 Z2 ys vs r (fun g hg => hk g (z2 g hg))⟩
      have ecaps : (caps.toList.map a.eval).toArray = caps.map a.eval := by apply Array.ext'; simp
      rw [ecaps] at hrel
      have hfe : first = #[] := by apply Array.ext'; exact hfirst
      refine OpOK.value (w' := w) (v := .func (.func f) #[] (caps.map a.eval)) ?_ ?_
      · simp [execOp, ho, Instr.makeFunc, hfe, Sem.run_pure]
      · rw [appAll_append]
        exact c1.putCell hd ⟨hrel, rfl, by simp [refs], rfl⟩
  · simp [Rd.eval] at he
end
end Go.VI
