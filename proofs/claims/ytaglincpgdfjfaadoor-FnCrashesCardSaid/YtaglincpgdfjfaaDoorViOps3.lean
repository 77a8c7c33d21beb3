/- VI, part 14: elements' addresses, cuts, what is built. -/
import Derived.Test.YtaglincpgdfjfaaDoorViOps2
namespace Go.VI
open Go.RowKit

section
variable {A : Fix} {X : Ctx} {γ : Gh} {Fr : Nat → Prop} {env : Env} {a : Act} {w w' : World} {vn : Nat} {o : Oper} {us : List Upd} {lg : List Slot}

theorem run_sizeOf_ti {T : TypeId} {ti : TI} (ht : TIOK A.P T ti) : (sizeOf T).run A.P w = .ok ti.ty.size w := by
  obtain ⟨i, hi, hs, _, _⟩ := ht.info'
  simp only [sizeOf, typeInfo, program, Sem.run_bind, Sem.run, hi, Sem.run_pure, Result.andThen_ok, hs]

theorem addrIdx_good {m sz : Nat} {i : Int} {c c' : Cell} {v : Value} (hg : GoodR A γ w Fr c v) (hi : inB i m = true) (hc : addrIdx m sz i c = some c') :
    ∃ ad, v = .pointer (some ad) ∧ GoodR A γ w Fr c' (.pointer (some (ad.add (i.toNat * sz)))) := by
  cases c <;> simp [addrIdx] at hc
  · subst hc
    exact ⟨_, hg.1, by rw [add_plain]; exact ⟨⟨hi, rfl⟩, rfl, hg.2.2.1, rfl⟩⟩
  · subst hc
    exact ⟨_, hg.1, by rw [add_plain]; exact ⟨⟨hi, rfl⟩, rfl, by simp [refs], rfl⟩⟩
  · subst hc
    obtain ⟨ad, us0, hv, hz, hr, hcell⟩ := hg.1
    exact ⟨_, hv, ⟨hi, ad, us0, by rw [add_add], hz, hr, hcell⟩, rfl, by simp [refs], rfl⟩
  · subst hc
    obtain ⟨g, n, cc, h1, h2, h3⟩ := hg.1
    exact ⟨_, h3, ⟨g, n, cc, h1, h2, hi, by rw [add_plain]⟩, rfl, hg.2.2.1, rfl⟩
  · subst hc
    obtain ⟨h0, ad, cc, h1, h2⟩ := hg.1
    exact ⟨_, h2, ⟨h0, hi, ad, cc, h1, by rw [add_add]⟩, rfl, by simp [refs], rfl⟩

theorem splitAddr_good {b bv off sz : Nat} {i : Int} {v : Value} (hg : GoodR A γ w Fr (.addr b bv off) v) : ∀ (n k : Nat) {l l' : List Slot} {c' : Cell}, (k : Int) ≤ i → i < (k : Int) + (n : Int) → (splitAddr b bv off sz i k n).eval env.get l = some (c', l') →
    ∃ ad, v = .pointer (some ad) ∧ GoodR A γ w Fr c' (.pointer (some (ad.add (i.toNat * sz))))
  | 0, k, l, l', c', h0, h1, h => by simp [splitAddr, Rd.eval] at h
  | 1, k, l, l', c', h0, h1, h => by
    simp only [splitAddr, Rd.eval, Option.some.injEq, Prod.mk.injEq] at h
    obtain ⟨rfl, _⟩ := h
    have e : i.toNat = k := by omega
    rw [e]
    exact ⟨_, hg.1, by rw [add_plain]; exact ⟨rfl, rfl, hg.2.2.1, rfl⟩⟩
  | n + 2, k, l, l', c', h0, h1, h => by
    simp only [splitAddr, Rd.eval] at h
    by_cases hi : i = (k : Int)
    · rw [decide_eq_true hi] at h
      simp only [cond_true, Option.some.injEq, Prod.mk.injEq] at h
      obtain ⟨rfl, _⟩ := h
      have e : i.toNat = k := by omega
      rw [e]
      exact ⟨_, hg.1, by rw [add_plain]; exact ⟨rfl, rfl, hg.2.2.1, rfl⟩⟩
    · rw [decide_eq_false hi] at h
      simp only [cond_false] at h
      exact splitAddr_good hg (n + 1) (k + 1) (by omega) (by omega) h

theorem addrIdxRd_good {rows : Bool} {m sz : Nat} {i : Int} {c c' : Cell} {v : Value} {l l' : List Slot} (hg : GoodR A γ w Fr c v) (hi : inB i m = true) (hc : (addrIdxRd rows m sz i c).eval env.get l = some (c', l')) :
    ∃ ad, v = .pointer (some ad) ∧ GoodR A γ w Fr c' (.pointer (some (ad.add (i.toNat * sz)))) := by
  have hin : 0 ≤ i ∧ i < (m : Int) := by have := inB_iff.1 hi; omega
  cases rows with
  | false =>
    simp only [addrIdxRd, Rd.eval_ofOpt, Option.map_eq_some_iff, Prod.mk.injEq] at hc
    obtain ⟨c1, h1, rfl, _⟩ := hc
    exact addrIdx_good hg hi h1
  | true =>
    cases c with
    | addr b bv off => exact splitAddr_good hg m 0 (by omega) (by omega) hc
    | _ => simp [addrIdxRd, Rd.eval] at hc

theorem op_indexAddr (h : Core A X γ Fr env a w) (hty : TyOK A.P X) (hd : dstOk X o) {T : TypeId} {x ix : Operand} (ho : o.op = .indexAddr T x ix) (he : (opRd X vn o).eval env.get [] = some (us, lg)) : OpOK A X Fr o us env a w := by
  simp only [opRd, ho, Rd.eval_bind, Option.bind_eq_some_iff, Ctx.ti, Rd.eval_ofOpt, Option.map_eq_some_iff] at he
  obtain ⟨_, ⟨ti, k1, rfl⟩, ⟨⟨k, i⟩, l1⟩, h1, h2⟩ := he
  have ht := hty T ti k1
  have hi := rdInt_sound h h1
  simp only at hi h2
  have hu := run_underlying (P := A.P) ht.und w
  split at h2
  · -- an array's
    rename_i n e hdesc
    simp only [Rd.eval_bind, Option.bind_eq_some_iff, Rd.eval_ofOpt, Option.map_eq_some_iff] at h2
    obtain ⟨_, ⟨te, k2, rfl⟩, ⟨c, l2⟩, h3, h4⟩ := h2
    have hte := hty e te k2
    simp only [Rd.eval] at h4
    cases hin : inB i n with
    | false => rw [hin] at h4; simp at h4
    | true =>
      rw [hin] at h4
      simp only [cond_true, Rd.eval_bind, Option.bind_eq_some_iff] at h4
      obtain ⟨⟨c', l4⟩, h5, h6⟩ := h4
      rw [retOne_eval h6]
      obtain ⟨ad, hv, hg⟩ := addrIdxRd_good (rdCell_sound h h3) hin h5
      rw [hdesc] at hu
      have hin' : 0 ≤ i ∧ i < (n : Int) := by have := inB_iff.1 hin; omega
      refine OpOK.value (v := .pointer (some (ad.add (i.toNat * te.ty.size)))) ?_ (h.putCell hd hg)
      simp only [execOp, ho, Instr.indexAt, hi, hv, asIntOf, Sem.run_bind, Sem.run_pure, Result.andThen_ok, hu, Instr.sureAddr, hin', and_self, if_true, run_sizeOf_ti hte]
  · rename_i e hdesc
    simp only [Rd.eval_bind, Option.bind_eq_some_iff, Rd.eval_ofOpt, Option.map_eq_some_iff] at h2
    obtain ⟨_, ⟨te, k2, rfl⟩, ⟨c, l2⟩, h3, h4⟩ := h2
    have hte := hty e te k2
    have hgc := rdCell_sound h h3
    rw [hdesc] at hu
    simp only at h4
    have fin : ∀ (B : Addr) (n cap : Nat) (c' : Cell), a.eval x = .slice (some B) n cap → inB i n = true → GoodR A γ w Fr c' (.pointer (some (B.add (i.toNat * te.ty.size)))) → OpOK A X Fr o (dstSet o (.val false [c'])) env a w := by
      intro B n cap c' hx hin hg
      have hin' : 0 ≤ i ∧ i < (n : Int) := by have := inB_iff.1 hin; omega
      refine OpOK.value (v := .pointer (some (B.add (i.toNat * te.ty.size)))) ?_ (h.putCell hd hg)
      simp only [execOp, ho, Instr.indexAt, hi, hx, asIntOf, Sem.run_bind, Sem.run_pure, Result.andThen_ok, hu, hin', and_self, if_true, run_sizeOf_ti hte]
    split at h4
    · rename_i y ver
      simp only [Rd.eval_bind, Option.bind_eq_some_iff] at h4
      obtain ⟨⟨⟨e', t, l⟩, l3⟩, h5, h6⟩ := h4
      have hx := ownerAt_eval h5
      simp only at h6 hx
      cases hs : Nat.beq te.ty.size t.size with
      | false => rw [hs] at h6; simp [Rd.eval] at h6
      | true =>
        rw [hs] at h6
        have hs := Nat.eq_of_beq_eq_true hs
        simp only [cond_true, Rd.eval] at h6
        cases hin : inB i l.length with
        | false => rw [hin] at h6; simp at h6
        | true =>
          rw [hin] at h6
          simp only [cond_true] at h6
          rw [retOne_eval h6]
          have hv : a.eval x = γ.ψ y ver := hgc.1
          have hψ : γ.ψ y ver = γ.φ y := (h.own y _ _ _ _ hx).1
          obtain ⟨_, xs, ho', _⟩ := (h.cell y _ hx).1
          rcases ho'.2 with ⟨_, hn⟩ | ⟨g, cap, cur, fz, hsl, _⟩
          · have := inB_iff.1 hin; omega
          · have hvs : γ.ψ y ver = .slice (some ⟨g, 0, none⟩) l.length cap := hψ.trans hsl
            refine fin _ _ _ _ (hv.trans hvs) hin ⟨⟨g, l.length, cap, hvs, hin, ?_⟩, rfl, hgc.2.2.1, rfl⟩
            rw [add_plain, hs]; simp
    · rename_i t l p
      cases hs : Nat.beq te.ty.size t.size with
      | false => rw [hs] at h4; simp [Rd.eval] at h4
      | true =>
        rw [hs] at h4
        have hs := Nat.eq_of_beq_eq_true hs
        simp only [cond_true, Rd.eval] at h4
        cases hin : inB i l.length with
        | false => rw [hin] at h4; simp at h4
        | true =>
          rw [hin] at h4
          simp only [cond_true] at h4
          rw [retOne_eval h4]
          have hr := hgc.1.1
          obtain ⟨B, c', hB, hlc, hel⟩ := hr
          simp only [List.cons.injEq, and_true] at hB
          obtain ⟨ad, rfl, _⟩ := hel _ _ (nth_get hin)
          have hr := hgc.1.1
          rw [hB] at hr
          refine fin _ _ _ _ hB hin ⟨⟨hin, ad, c', hr, ?_⟩, rfl, by simp [refs], rfl⟩
          rw [hs]; simp
    · simp [Rd.eval] at h4
  · simp [Rd.eval] at h2
end
end Go.VI
