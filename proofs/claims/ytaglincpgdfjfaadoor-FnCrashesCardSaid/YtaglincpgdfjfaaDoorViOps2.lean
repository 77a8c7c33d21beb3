/- VI, part 13: addresses, parts, conversions. -/
import Derived.Test.YtaglincpgdfjfaaDoorViOps
import Derived.Laws.BytesString
namespace Go.VI
open Go.RowKit

section
variable {A : Fix} {X : Ctx} {γ : Gh} {Fr : Nat → Prop} {env : Env} {a : Act} {w w' : World} {vn : Nat} {o : Oper} {us : List Upd} {lg : List Slot}

theorem fieldPlace_run {ad : Addr} {f : Field} {tf : TI} (ht : TIOK A.P f.type tf) (hz : tf.ty.size ≠ 0) : (fieldPlace ad f).run A.P w = .ok (ad.add f.offset) w := by
  obtain ⟨i, hi, hs, _, _⟩ := ht.info'
  have : ¬ (i.size = 0) := by rw [hs]; exact hz
  simp only [fieldPlace, sizeOf, typeInfo, program, Sem.run_bind, Sem.run, hi, Sem.run_pure, Result.andThen_ok, this, if_false]

theorem addrPlus_good {n : Nat} {c c' : Cell} {v : Value} (hg : GoodR A γ w Fr c v) (hc : addrPlus n c = some c') : ∃ ad, v = .pointer (some ad) ∧ GoodR A γ w Fr c' (.pointer (some (ad.add n))) := by
  cases c <;> simp [addrPlus] at hc
  · subst hc
    exact ⟨_, hg.1, by rw [add_plain]; exact ⟨rfl, rfl, hg.2.2.1, rfl⟩⟩
  · subst hc
    exact ⟨_, hg.1, by rw [add_plain]; exact ⟨rfl, rfl, hg.2.2.1, rfl⟩⟩
  · subst hc
    obtain ⟨ad, us0, hv, hz, hr, hcell⟩ := hg.1
    exact ⟨_, hv, ⟨ad, us0, by rw [add_add], hz, hr, hcell⟩, rfl, by simp [refs], rfl⟩
  · subst hc
    obtain ⟨g, m, cc, h1, h2, hv⟩ := hg.1
    exact ⟨_, hv, ⟨g, m, cc, h1, h2, by rw [add_plain, Nat.add_assoc]⟩, rfl, hg.2.2.1, rfl⟩
  · subst hc
    obtain ⟨h0, ad, cc, h1, hv⟩ := hg.1
    exact ⟨_, hv, ⟨h0, ad, cc, h1, by rw [add_add, Nat.add_assoc]⟩, rfl, by simp [refs], rfl⟩

theorem op_fieldAddr (h : Core A X γ Fr env a w) (hty : TyOK A.P X) (hd : dstOk X o) {T : TypeId} {x : Operand} {f : Nat} (ho : o.op = .fieldAddr T x f) (he : (opRd X vn o).eval env.get [] = some (us, lg)) : OpOK A X Fr o us env a w := by
  simp only [opRd, ho, Rd.eval_bind, Option.bind_eq_some_iff, Ctx.ti, Rd.eval_ofOpt, Option.map_eq_some_iff] at he
  obtain ⟨_, ⟨ti, k1, rfl⟩, _, ⟨p, k2, rfl⟩, _, ⟨tf, k3, rfl⟩, he⟩ := he
  have ht := hty T ti k1
  have htf := hty _ tf k3
  simp only at k2 he
  cases hz : Nat.beq tf.ty.size 0 with
  | true => rw [hz] at he; simp [Rd.eval] at he
  | false =>
    rw [hz] at he
    have hz : tf.ty.size ≠ 0 := fun e => by rw [e] at hz; cases hz
    simp only [cond_false, Rd.eval_bind, Option.bind_eq_some_iff, Rd.eval_ofOpt, Option.map_eq_some_iff] at he
    obtain ⟨⟨c, l1⟩, h1, _, ⟨c', h2, rfl⟩, h3⟩ := he
    rw [retOne_eval h3]
    obtain ⟨ad, hv, hg⟩ := addrPlus_good (rdCell_sound h h1) h2
    have hu := run_underlying (P := A.P) ht.und w
    unfold structOff at k2
    split at k2
    · rename_i fs hdesc
      simp only [Option.map_eq_some_iff] at k2
      obtain ⟨fd, hfd, rfl⟩ := k2
      rw [hdesc] at hu
      refine OpOK.value (v := .pointer (some (ad.add fd.offset))) ?_ (h.putCell hd hg)
      simp only [execOp, ho, Instr.fieldAt, Sem.run_bind, hu, Result.andThen_ok, hfd, hv, Instr.sureAddr, Sem.run_pure, fieldPlace_run htf hz]
    · cases k2

theorem op_field (h : Core A X γ Fr env a w) (hty : TyOK A.P X) (hd : dstOk X o) {T : TypeId} {x : Operand} {f : Nat} (ho : o.op = .field T x f) (he : (opRd X vn o).eval env.get [] = some (us, lg)) : OpOK A X Fr o us env a w := by
  simp only [opRd, ho, Rd.eval_bind, Option.bind_eq_some_iff, Ctx.ti, Rd.eval_ofOpt, Option.map_eq_some_iff] at he
  obtain ⟨_, ⟨ti, k1, rfl⟩, _, ⟨p, k2, rfl⟩, _, ⟨tf, k3, rfl⟩, he⟩ := he
  simp only at he
  cases hz : Nat.beq tf.ty.size 0 with
  | true => rw [hz] at he; simp [Rd.eval] at he
  | false =>
  rw [hz] at he
  have hz : tf.ty.size ≠ 0 := fun e => by rw [e] at hz; cases hz
  simp only [cond_false, Rd.eval_bind, Option.bind_eq_some_iff, Rd.eval_ofOpt, Option.map_eq_some_iff] at he
  obtain ⟨⟨av, l1⟩, h1, ⟨cs, l2⟩, h2, _, ⟨cs', h3, rfl⟩, h4⟩ := he
  simp only [Rd.eval, Option.some.injEq, Prod.mk.injEq] at h4
  obtain ⟨rfl, _⟩ := h4
  have ht := hty T ti k1
  have htf := hty _ tf k3
  simp only at k2 h3
  obtain ⟨vs, hv, r0, _⟩ := avCells_sound (rdOp_sound h h1) h2
  have hu := run_underlying (P := A.P) ht.und w
  unfold structOff at k2
  split at k2
  · rename_i fs hdesc
    simp only [Option.map_eq_some_iff] at k2
    obtain ⟨fd, hfd, rfl⟩ := k2
    rw [hdesc] at hu
    have hr := (r0.drop fd.offset).takeN h3
    obtain ⟨e1, e2⟩ := takeN_eq h3
    have hlen := r0.length
    have hfit : fd.offset + tf.ty.size ≤ vs.length := by
      simp only [List.length_drop] at e2
      omega
    · refine OpOK.value (v := mkVal tf.agg ((vs.drop fd.offset).take tf.ty.size)) ?_ (h.put hd (av := .val tf.agg cs') ⟨_, rfl, fun hg => by rw [← hr.length, List.length_take, List.length_drop, Nat.min_eq_left (by omega)]; exact htf.one hg, hr⟩ (.inl ⟨_, _, rfl⟩))
      simp only [execOp, ho, Instr.field, Sem.run_bind, hu, Result.andThen_ok, hfd, hv, asAgg, Sem.run_pure, run_part_at htf hfit]
  · cases k2

theorem RepI.cutI {Z : Nat → Prop} {t : Ty} {l : List t.den} {B : Option Addr} {n c : Nat} (h : RepI Z w (.sl t) l [.slice B n c]) {lo hi : Int} (h0 : 0 ≤ lo) (h1 : lo ≤ hi) (h2 : hi ≤ (n : Int)) :
    RepI Z w (.sl t) (cut l lo hi) [.slice (if c = lo.toNat then B else B.map (·.add (lo.toNat * t.size))) (hi.toNat - lo.toNat) (c - lo.toNat)] := by
  obtain ⟨B', c', hB, hlc, hel⟩ := h
  simp only [List.cons.injEq, Value.slice.injEq, and_true] at hB
  obtain ⟨rfl, rfl, rfl⟩ := hB
  have hl : (cut l lo hi).length = hi.toNat - lo.toNat := by simp [cut]; omega
  refine ⟨_, _, by rw [hl], by rw [hl]; omega, fun i x hx => ?_⟩
  have hi' : i < hi.toNat - lo.toNat := by rw [← hl]; exact (List.getElem?_eq_some_iff.1 hx).1
  have hx' : l[lo.toNat + i]? = some x := by
    simp only [cut, List.getElem?_drop, List.getElem?_take] at hx
    rwa [if_pos (by omega)] at hx
  obtain ⟨ad, rfl, hz, xs, hr, hc⟩ := hel _ _ hx'
  have hne : ¬ (c = lo.toNat) := by omega
  refine ⟨ad.add (lo.toNat * t.size), by simp [hne], by rw [add_zero_block]; exact hz, xs, hr, fun j v hv => ?_⟩
  rw [add_add, ← hc j v hv]
  congr 2
  rw [Nat.add_mul]; omega

theorem implodeN_rel (t : Ty) : ∀ (n : Nat) (cs : List Cell) (us : List Value) (l : List t.den), implodeN t n cs = some l → RelCs A γ w Fr cs us → ∃ u1 u2, us = u1 ++ u2 ∧ RepsL γ.Z w t l u1 ∧ l.length = n
  | 0, cs, us, l, h, hr => by simp [implodeN] at h; subst h; exact ⟨[], us, rfl, rfl, rfl⟩
  | n + 1, cs, us, l, h, hr => by
    simp only [implodeN] at h
    split at h
    · rename_i x r h1
      simp only [Option.map_eq_some_iff] at h
      obtain ⟨l', h2, rfl⟩ := h
      obtain ⟨u1, u2, rfl, r1, r2⟩ := implode_rel t cs us x r h1 hr
      obtain ⟨u3, u4, rfl, r3, r4⟩ := implodeN_rel t n r u2 l' h2 r2
      exact ⟨u1 ++ u3, u4, by rw [List.append_assoc], ⟨u1, u3, rfl, r1, r3⟩, by simp [r4]⟩
    · cases h

def srcBlock (γ : Gh) (g : Nat) : Src → Prop
  | .row x => (γ.φ x).ownBlock = some g
  | .arr b bv => γ.σ b bv = g

/-- The zone with what some sources lead to. -/
def zoneOf (γ : Gh) (ss : List Src) : Nat → Prop := fun g => γ.Z g ∨ ∃ s ∈ ss, srcBlock γ g s

theorem Core.barr_reads (h : Core A X γ Fr env a w) {b bv off n : Nat} {fz : Bool} {cs0 : List Cell} {t : Ty} {l : List t.den} (hb : env.get (.box b) = .box bv fz cs0)
    (hl : implodeN t n (VI.readCells (.box b) 0 off (cs0.drop off)) = some l) (Z' : Nat → Prop) (hZ : ∀ g, γ.Z g → Z' g) (hz : Z' (γ.σ b bv)) : RepI Z' w (.sl t) l [.slice (some ⟨γ.σ b bv, off, none⟩) n n] := by
  obtain ⟨k1, k2⟩ := h.boxCells hb off
  obtain ⟨u1, u2, hu, r1, r2⟩ := implodeN_rel t n _ _ l hl k1
  refine ⟨_, _, by rw [r2], by rw [r2]; exact Nat.le_refl _, fun i x hx => ?_⟩
  obtain ⟨xs, hr, hc⟩ := r1.at l u1 i x hx
  refine ⟨_, rfl, hz, xs, RepI.mono hZ (fun _ _ => rfl) _ _ _ hr, fun j v hv => ?_⟩
  rw [add_plain]
  refine k2 _ v ?_
  have := hc j v hv
  have hlt := (List.getElem?_eq_some_iff.1 this).1
  have : ((cellVals γ (.box b) 0 cs0.length).drop off)[i * t.size + j]? = some v := by rw [hu, List.getElem?_append_left hlt]; exact this
  rwa [List.getElem?_drop] at this

/-- What a slice's cell has, read in the zone of its sources. -/
theorem slice_reads (h : Core A X γ Fr env a w) {c : Cell} {v : Value} (hg : GoodR A γ w Fr c v) {c' : Cell} {ss : List Src} {l0 l1 : List Slot} (hs : (solid c).eval env.get l0 = some ((c', ss), l1)) :
    ∀ (Z' : Nat → Prop), (∀ g, zoneOf γ ss g → Z' g) → RelCell A { γ with Z := Z' } w c' v ∧ (∀ t l p, c' = .imm t l p → RepI Z' w (.sl t) l [v]) := by
  intro Z' hZ'
  have hZ : ∀ g, γ.Z g → Z' g := fun g hz => hZ' g (.inl hz)
  have same : c' = c → RelCell A { γ with Z := Z' } w c' v ∧ (∀ t l p, c' = .imm t l p → RepI Z' w (.sl t) l [v]) := by
    intro e
    subst e
    have hm := hg.1.move (γ' := { γ with Z := Z' }) (w' := w) (fun _ _ _ => rfl) (fun _ _ _ => rfl) hZ (fun _ _ => rfl) (Nat.le_refl _) (fun _ _ _ => rfl)
    exact ⟨hm, fun t l p e => by subst e; exact hm.1⟩
  cases c with
  | view x ver =>
    simp only [solid, Rd.eval_bind, Option.bind_eq_some_iff] at hs
    obtain ⟨⟨⟨e, t, l⟩, l2⟩, h1, h2⟩ := hs
    simp only [Rd.eval, Option.some.injEq, Prod.mk.injEq] at h2
    obtain ⟨⟨rfl, rfl⟩, _⟩ := h2
    have hx := ownerAt_eval h1
    have hv : v = γ.φ x := hg.1.trans (h.own x e t ver l hx).1
    have hr : RepI Z' w (.sl t) l [v] := by
      rw [hv]
      exact (h.cell x _ hx).1.reads Z' hZ (fun g hgb => hZ' g (.inr ⟨_, List.mem_singleton.2 rfl, hgb⟩))
    exact ⟨⟨hr, by simp⟩, fun t' l' p e => by injection e with e1 e2 e3; subst e1; rw [← eq_of_heq e2]; exact hr⟩
  | sub x ver sz lo hi =>
    simp only [solid, Rd.eval_bind, Option.bind_eq_some_iff] at hs
    obtain ⟨⟨⟨e, t, l⟩, l2⟩, h1, h2⟩ := hs
    simp only at h2
    cases hsz : Nat.beq sz t.size with
    | false => rw [hsz] at h2; simp [Rd.eval] at h2
    | true =>
      rw [hsz] at h2
      have hsz := Nat.eq_of_beq_eq_true hsz
      subst hsz
      simp only [cond_true, Rd.eval, Option.some.injEq, Prod.mk.injEq] at h2
      obtain ⟨⟨rfl, rfl⟩, _⟩ := h2
      have hx := ownerAt_eval h1
      obtain ⟨B, n, c, hψ, k0, k1, k2, hv⟩ := hg.1
      have hφ : γ.φ x = .slice B n c := by rw [← (h.own x e t ver l hx).1]; exact hψ
      have hr0 : RepI Z' w (.sl t) l [γ.φ x] := (h.cell x _ hx).1.reads Z' hZ (fun g hgb => hZ' g (.inr ⟨_, List.mem_singleton.2 rfl, hgb⟩))
      rw [hφ] at hr0
      have hr : RepI Z' w (.sl t) (cut l lo hi) [v] := by rw [hv]; exact hr0.cutI k0 k1 k2
      exact ⟨⟨hr, by simp⟩, fun t' l' p e => by injection e with e1 e2 e3; subst e1; rw [← eq_of_heq e2]; exact hr⟩
  | barr b bv off n t =>
    simp only [solid, Rd.eval_bind, Option.bind_eq_some_iff, Rd.eval_ofOpt, Option.map_eq_some_iff] at hs
    obtain ⟨⟨⟨fz, cs0⟩, l2⟩, h1, _, ⟨l, h2, rfl⟩, h3⟩ := hs
    simp only [Rd.eval, Option.some.injEq, Prod.mk.injEq] at h3
    obtain ⟨⟨rfl, rfl⟩, _⟩ := h3
    have hb := boxAt_eval h1
    have hr : RepI Z' w (.sl t) l [v] := by
      rw [show v = _ from hg.1]
      exact h.barr_reads hb h2 Z' hZ (hZ' _ (.inr ⟨_, List.mem_singleton.2 rfl, rfl⟩))
    exact ⟨⟨hr, by simp⟩, fun t' l' p e => by injection e with e1 e2 e3; subst e1; rw [← eq_of_heq e2]; exact hr⟩
  | _ =>
    simp only [solid, Rd.eval, Option.some.injEq, Prod.mk.injEq] at hs
    exact same hs.1.1.symm

theorem listOf_sound (h : Core A X γ Fr env a w) {c : Cell} {v : Value} (hg : GoodR A γ w Fr c v) {p : Σ t : Ty, List t.den} {l0 l1 : List Slot} (hs : (listOf c).eval env.get l0 = some (p, l1)) :
    ∃ Z', (∀ g, γ.Z g → Z' g) ∧ RepI Z' w (.sl p.1) p.2 [v] := by
  cases c with
  | imm t l par =>
    simp only [listOf, Rd.eval, Option.some.injEq, Prod.mk.injEq] at hs
    obtain ⟨rfl, _⟩ := hs
    exact ⟨γ.Z, fun _ hz => hz, hg.1.1⟩
  | nil e t =>
    simp only [listOf, Rd.eval, Option.some.injEq, Prod.mk.injEq] at hs
    obtain ⟨rfl, _⟩ := hs
    refine ⟨γ.Z, fun _ hz => hz, none, 0, by rw [show v = _ from hg.1]; rfl, Nat.le_refl _, fun i x hx => by simp at hx⟩
  | view x ver =>
    simp only [listOf, Rd.eval_bind, Option.bind_eq_some_iff] at hs
    obtain ⟨⟨⟨e, t, l⟩, l2⟩, h1, h2⟩ := hs
    simp only [Rd.eval, Option.some.injEq, Prod.mk.injEq] at h2
    obtain ⟨rfl, _⟩ := h2
    have := (slice_reads h hg (c' := .imm t l none) (ss := [.row x]) (l0 := l0) (by simp only [solid, Rd.eval_bind, h1, Option.bind_some]; rfl) _ (fun _ hz => hz)).2 t l none rfl
    exact ⟨_, fun g hz => .inl hz, this⟩
  | sub x ver sz lo hi =>
    simp only [listOf, Rd.eval_bind, Option.bind_eq_some_iff] at hs
    obtain ⟨⟨⟨e, t, l⟩, l2⟩, h1, h2⟩ := hs
    simp only at h2
    cases hsz : Nat.beq sz t.size with
    | false => rw [hsz] at h2; simp [Rd.eval] at h2
    | true =>
      rw [hsz] at h2
      simp only [cond_true, Rd.eval, Option.some.injEq, Prod.mk.injEq] at h2
      obtain ⟨rfl, _⟩ := h2
      have := (slice_reads h hg (c' := .imm t (cut l lo hi) none) (ss := [.row x]) (l0 := l0) (by simp only [solid, Rd.eval_bind, h1, Option.bind_some, hsz, cond_true]; rfl) _ (fun _ hz => hz)).2 t _ none rfl
      exact ⟨_, fun g hz => .inl hz, this⟩
  | barr b bv off n t =>
    simp only [listOf, Rd.eval_bind, Option.bind_eq_some_iff, Rd.eval_ofOpt, Option.map_eq_some_iff] at hs
    obtain ⟨⟨⟨fz, cs0⟩, l2⟩, h1, _, ⟨l, h2, rfl⟩, h3⟩ := hs
    simp only [Rd.eval, Option.some.injEq, Prod.mk.injEq] at h3
    obtain ⟨rfl, _⟩ := h3
    have := (slice_reads h hg (c' := .imm t l none) (ss := [.arr b bv]) (l0 := l0) (by simp only [solid, Rd.eval_bind, h1, Option.bind_some, Rd.eval_ofOpt, h2, Option.map_some]; rfl) _ (fun _ hz => hz)).2 t l none rfl
    exact ⟨_, fun g hz => .inl hz, this⟩
  | _ => simp [listOf, Rd.eval] at hs

theorem foldl_push_aux : ∀ (l : List Int) (s : ByteArray), (l.foldl (fun r n => r.push (UInt8.ofNat n.toNat)) s).data.toList = s.data.toList ++ l.map (fun (n : Int) => n.toNat.toUInt8)
  | [], s => by simp
  | n :: r, s => by
    rw [List.foldl_cons, foldl_push_aux r]
    simp [ByteArray.push]

theorem foldl_push (l : List Int) : l.foldl (fun r n => r.push (UInt8.ofNat n.toNat)) ByteArray.empty = ⟨(l.map fun (n : Int) => n.toNat.toUInt8).toArray⟩ := by
  have := foldl_push_aux l ByteArray.empty
  apply ByteArray.ext
  apply Array.ext'
  rw [this]
  simp [ByteArray.empty, ByteArray.emptyWithCapacity]
  rfl

end
end Go.VI
