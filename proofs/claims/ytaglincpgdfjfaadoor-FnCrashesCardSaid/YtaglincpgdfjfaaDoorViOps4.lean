/- VI, part 15: cuts. -/
import Derived.Test.YtaglincpgdfjfaaDoorViOps3
namespace Go.VI
open Go.RowKit

section
variable {A : Fix} {X : Ctx} {γ : Gh} {Fr : Nat → Prop} {env : Env} {a : Act} {w w' : World} {vn : Nat} {o : Oper} {us : List Upd} {lg : List Slot}

def BoundIs (a : Act) (x : Option Operand) (d n : Int) : Prop :=
  match x with
  | some l => ∃ k, a.eval l = .int k n
  | none => n = d

theorem rdBound_sound (h : Core A X γ Fr env a w) {x : Option Operand} {d n : Int} {l0 l1 : List Slot} (he : (rdBound X x d).eval env.get l0 = some (n, l1)) : BoundIs a x d n := by
  unfold rdBound at he
  split at he
  · simp only [Rd.eval_bind, Option.bind_eq_some_iff] at he
    obtain ⟨⟨p, l2⟩, h1, h2⟩ := he
    simp only [Rd.eval, Option.some.injEq, Prod.mk.injEq] at h2
    obtain ⟨rfl, _⟩ := h2
    exact ⟨_, rdInt_sound h h1⟩
  · simp only [Rd.eval, Option.some.injEq, Prod.mk.injEq] at he
    exact he.1.symm

theorem run_bounds {isSlice : Bool} {len cap : Nat} {lo hi : Option Operand} {l h : Int} (h1 : BoundIs a lo 0 l) (h2 : BoundIs a hi len h) (k0 : 0 ≤ l) (k1 : l ≤ h) (k2 : h ≤ (cap : Int)) :
    (Instr.sliceBounds isSlice len cap (lo.map a.eval) (hi.map a.eval) none).run A.P w = .ok (l.toNat, h.toNat, cap) w := by
  have hh : ∀ (y : Nat) (k : IntKind) (i : Int) (code : BoundsCode), 0 ≤ i → i ≤ (y : Int) → (Instr.sliceBound (.int k i) y code).run A.P w = .ok i.toNat w := fun y k i code a b => by simp [Instr.sliceBound, asIntOf, a, b]
  have hlh : l ≤ ((h.toNat : Nat) : Int) := by omega
  cases lo with
  | none =>
    have h1 : l = 0 := h1
    subst h1
    cases hi with
    | none =>
      have h2 : h = len := h2
      subst h2
      simp [Instr.sliceBounds]
    | some x =>
      obtain ⟨k, hk⟩ := h2
      simp [Instr.sliceBounds, hk, hh cap k h _ (by omega) k2, Result.andThen_ok]
  | some y =>
    obtain ⟨k', hk'⟩ := h1
    cases hi with
    | none =>
      have h2 : h = len := h2
      subst h2
      simp [Instr.sliceBounds, hk', hh len k' l _ k0 k1, Result.andThen_ok]
    | some x =>
      obtain ⟨k, hk⟩ := h2
      simp [Instr.sliceBounds, hk, hk', Sem.run_bind, hh cap k h _ (by omega) k2, hh h.toNat k' l _ k0 hlh, Result.andThen_ok]

theorem extract_str (s : List UInt8) (l h : Nat) : (⟨s.toArray⟩ : ByteArray).extract l h = ⟨((s.take h).drop l).toArray⟩ := by
  apply ByteArray.ext
  simp only [ByteArray.data_extract, List.extract_toArray, List.extract_eq_take_drop]
  rw [List.drop_take]

theorem op_slice (h : Core A X γ Fr env a w) (hty : TyOK A.P X) (hd : dstOk X o) {T : TypeId} {x : Operand} {lo hi mx : Option Operand} (ho : o.op = .slice T x lo hi mx) (he : (opRd X vn o).eval env.get [] = some (us, lg)) : OpOK A X Fr o us env a w := by
  simp only [opRd, ho, Rd.eval_bind, Option.bind_eq_some_iff, Ctx.ti, Rd.eval_ofOpt, Option.map_eq_some_iff] at he
  obtain ⟨_, ⟨ti, k1, rfl⟩, he⟩ := he
  have ht := hty T ti k1
  have hu := run_underlying (P := A.P) ht.und w
  cases mx with
  | some m => simp [Rd.eval] at he
  | none =>
  simp only [Rd.eval_bind, Option.bind_eq_some_iff] at he
  obtain ⟨⟨c, l1⟩, h1, ⟨l, l2⟩, h2, h3⟩ := he
  have hg := rdCell_sound h h1
  have hl := rdBound_sound h h2
  simp only at h3
  split at h3
  · rename_i s hdesc
    simp only [Rd.eval_bind, Option.bind_eq_some_iff] at h3
    obtain ⟨⟨r, l3⟩, h4, h5⟩ := h3
    have hr := rdBound_sound h h4
    simp only [Rd.eval] at h5
    cases hb : (decide (0 ≤ l) && decide (l ≤ r) && decide (r ≤ (s.length : Int))) with
    | false => rw [hb] at h5; simp at h5
    | true =>
      rw [hb] at h5
      simp only [cond_true] at h5
      simp only [Bool.and_eq_true, decide_eq_true_eq] at hb
      rw [retOne_eval h5]
      rw [hdesc] at hu
      have hx : a.eval x = .string ⟨s.toArray⟩ := hg.1
      refine OpOK.value (v := .string ⟨(cut s l r).toArray⟩) ?_ (h.putCell hd (good_str _))
      have hbd := run_bounds (A := A) (w := w) (isSlice := false) (len := s.length) (cap := s.length) hl hr hb.1.1 hb.1.2 hb.2
      simp only [execOp, ho, Instr.sliceAt, Instr.slice, Sem.run_bind, hu, Result.andThen_ok, hx, Option.map_none, Option.isSome_none, Bool.false_eq_true, if_false, size_str, hbd, Sem.run_pure, extract_str, cut]
  · rename_i n e b bv off hdesc
    split at h3
    · simp only [Rd.eval_bind, Option.bind_eq_some_iff, Rd.eval_ofOpt, Option.map_eq_some_iff] at h3
      obtain ⟨_, ⟨te, k2, rfl⟩, h4⟩ := h3
      have hte := hty e te k2
      rw [retOne_eval h4]
      rw [hdesc] at hu
      have hx : a.eval x = .pointer (some ⟨γ.σ b bv, off, none⟩) := hg.1
      have hbd := run_bounds (A := A) (w := w) (a := a) (isSlice := false) (len := n) (cap := n) (lo := none) (hi := none) (l := 0) (h := n) rfl rfl (Int.le_refl _) (by omega) (Int.le_refl _)
      simp only [Option.map_none, Int.toNat_zero, Int.toNat_natCast] at hbd
      refine OpOK.value (v := .slice (some ⟨γ.σ b bv, off, none⟩) n n) ?_ (h.putCell hd ⟨rfl, rfl, fun r hr => hg.2.2.1 r hr, rfl⟩)
      simp only [execOp, ho, Instr.sliceAt, Sem.run_bind, hu, Result.andThen_ok, hx, Option.map_none, Instr.sureAddr, Sem.run_pure, hbd, run_sizeOf_ti hte, Nat.sub_zero, Nat.zero_mul, add_plain, Nat.add_zero, ite_self]
    · simp [Rd.eval] at h3
  · rename_i e y ver hdesc
    simp only [Rd.eval_bind, Option.bind_eq_some_iff, Rd.eval_ofOpt, Option.map_eq_some_iff] at h3
    obtain ⟨_, ⟨te, k2, rfl⟩, ⟨⟨e', t, s⟩, l3⟩, h4, h5⟩ := h3
    have hte := hty e te k2
    have hy := ownerAt_eval h4
    simp only at h5 hy
    cases hs : Nat.beq te.ty.size t.size with
    | false => rw [hs] at h5; simp [Rd.eval] at h5
    | true =>
      rw [hs] at h5
      have hs := Nat.eq_of_beq_eq_true hs
      simp only [cond_true, Rd.eval_bind, Option.bind_eq_some_iff] at h5
      obtain ⟨⟨r, l4⟩, h6, h7⟩ := h5
      have hr := rdBound_sound h h6
      simp only [Rd.eval] at h7
      cases hb : (decide (0 ≤ l) && decide (l ≤ r) && decide (r ≤ (s.length : Int))) with
      | false => rw [hb] at h7; simp at h7
      | true =>
        rw [hb] at h7
        simp only [cond_true] at h7
        simp only [Bool.and_eq_true, decide_eq_true_eq] at hb
        rw [retOne_eval h7]
        rw [hdesc] at hu
        obtain ⟨B, c', hsl, hlc⟩ := OwnV.slice (h.cell y _ hy).1
        have hψ : γ.ψ y ver = .slice B s.length c' := (h.own y _ _ _ _ hy).1.trans hsl
        have hx : a.eval x = .slice B s.length c' := (show a.eval x = γ.ψ y ver from hg.1).trans hψ
        have hbd := run_bounds (A := A) (w := w) (isSlice := true) (len := s.length) (cap := c') hl hr hb.1.1 hb.1.2 (by omega)
        refine OpOK.value (v := .slice (if c' = l.toNat then B else B.map (·.add (l.toNat * t.size))) (r.toNat - l.toNat) (c' - l.toNat)) ?_ (h.putCell hd ⟨⟨B, _, c', hψ, hb.1.1, hb.1.2, hb.2, rfl⟩, rfl, fun r hr => hg.2.2.1 r hr, rfl⟩)
        simp only [execOp, ho, Instr.sliceAt, Instr.slice, Sem.run_bind, hu, Result.andThen_ok, hx, Option.map_none, hbd, Sem.run_pure, run_sizeOf_ti hte, hs]
  · rename_i e t s p hdesc
    simp only [Rd.eval_bind, Option.bind_eq_some_iff, Rd.eval_ofOpt, Option.map_eq_some_iff] at h3
    obtain ⟨_, ⟨te, k2, rfl⟩, h5⟩ := h3
    have hte := hty e te k2
    simp only at h5
    cases hs : Nat.beq te.ty.size t.size with
    | false => rw [hs] at h5; simp [Rd.eval] at h5
    | true =>
      rw [hs] at h5
      have hs := Nat.eq_of_beq_eq_true hs
      simp only [cond_true, Rd.eval_bind, Option.bind_eq_some_iff] at h5
      obtain ⟨⟨r, l4⟩, h6, h7⟩ := h5
      have hr := rdBound_sound h h6
      simp only [Rd.eval] at h7
      cases hb : (decide (0 ≤ l) && decide (l ≤ r) && decide (r ≤ (s.length : Int))) with
      | false => rw [hb] at h7; simp at h7
      | true =>
        rw [hb] at h7
        simp only [cond_true] at h7
        simp only [Bool.and_eq_true, decide_eq_true_eq] at hb
        rw [retOne_eval h7]
        rw [hdesc] at hu
        have hrep := hg.1.1
        obtain ⟨B, c', hB, hlc, hel⟩ := hrep
        simp only [List.cons.injEq, and_true] at hB
        have hrep := hg.1.1
        rw [hB] at hrep
        have hbd := run_bounds (A := A) (w := w) (isSlice := true) (len := s.length) (cap := c') hl hr hb.1.1 hb.1.2 (by omega)
        refine OpOK.value (v := .slice (if c' = l.toNat then B else B.map (·.add (l.toNat * t.size))) (r.toNat - l.toNat) (c' - l.toNat)) ?_ (h.putCell hd ⟨⟨hrep.cutI hb.1.1 hb.1.2 hb.2, by simp⟩, rfl, by simp [refs], rfl⟩)
        simp only [execOp, ho, Instr.sliceAt, Instr.slice, Sem.run_bind, hu, Result.andThen_ok, hB, Option.map_none, hbd, Sem.run_pure, run_sizeOf_ti hte, hs]
  · simp [Rd.eval] at h3
end
end Go.VI
