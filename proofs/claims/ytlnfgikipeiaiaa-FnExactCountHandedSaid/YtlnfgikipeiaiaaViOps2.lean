/- VI, part 13: addresses, parts, conversions. -/
import Derived.Test.YtlnfgikipeiaiaaViOps
import Derived.Laws.BytesString
namespace Go.VI
open Go.RowKit
section
variable {A : Fix} {X : Ctx} {γ : Gh} {Fr : Nat → Prop} {env : Env} {a : Act} {w w' : World} {vn : Nat} {o : Oper} {us : List Upd} {lg : List Slot}
theorem fieldPlace_run {ad : Addr} {f : Field} {tf : TI} (ht : TIOK A.P f.type tf) (hz : tf.ty.size ≠ 0) : (fieldPlace ad f).run A.P w = .ok (ad.add f.offset) w := by
  obtain ⟨i, hi, hs, _, _⟩ := ht.info'
  have : ¬ (i.size = 0) := by rw [hs]; exact hz
  simp only [fieldPlace, sizeOf, typeInfo, program, Sem.run_bind, Sem.run, hi, Sem.run_pure, Result.andThen_ok, this, if_false]
theorem addrPlus_good {n : Nat} {c c' : Cell} {v : Value} (hg : GoodR A γ w Fr c v) (hc : addrPlus n c = some c') : ∃ ad, v = .pointer (some ad) ∧ GoodR A γ w Fr c' (.pointer (some (ad.add n))) := by
  cases c <;> simp [addrPlus] at hc
  · subst hc
    exact ⟨_, hg.1, by rw [add_plain]; exact ⟨rfl, rfl, hg.2.2.1, rfl⟩⟩
  · subst hc
    exact ⟨_, hg.1, by rw [add_plain]; exact ⟨rfl, rfl, hg.2.2.1, rfl⟩⟩
  · subst hc
    obtain ⟨ad, us0, hv, hz, hr, hcell⟩ := hg.1
    exact ⟨_, hv, ⟨ad, us0, by rw [add_add], hz, hr, hcell⟩, rfl, by simp [refs], rfl⟩
  · subst hc
    obtain ⟨g, m, cc, h1, h2, hv⟩ := hg.1
    exact ⟨_, hv, ⟨g, m, cc, h1, h2, by rw [add_plain, Nat.add_assoc]⟩, rfl, hg.2.2.1, rfl⟩
  · subst hc
    obtain ⟨h0, ad, cc, h1, hv⟩ := hg.1
    exact ⟨_, hv, ⟨h0, ad, cc, h1, by rw [add_add, Nat.add_assoc]⟩, rfl, by simp [refs], rfl⟩
theorem op_fieldAddr (h : Core A X γ Fr env a w) (hty : TyOK A.P X) (hd : dstOk X o) {T : TypeId} {x : Operand} {f : Nat} (ho : o.op = .fieldAddr T x f) (he : (opRd X vn o).eval env.get [] = some (us, lg)) : OpOK A X Fr o us env a w := by
  simp only [opRd, ho, Rd.eval_bind, Option.bind_eq_some_iff, Ctx.ti, Rd.eval_ofOpt, Option.map_eq_some_iff] at he
  obtain ⟨_, ⟨ti, k1, rfl⟩, _, ⟨p, k2, rfl⟩, _, ⟨tf, k3, rfl⟩, he⟩ := he
  have ht := hty T ti k1
  have htf := hty _ tf k3
  simp only at k2 he
  cases hz : Nat.beq tf.ty.size 0 with
  | true => rw [hz] at he; simp [Rd.eval] at he
  | false =>
    rw [hz] at he
    have hz : tf.ty.size ≠ 0 := fun e => by rw [e] at hz; cases hz
    simp only [cond_false, Rd.eval_bind, Option.bind_eq_some_iff, Rd.eval_ofOpt, Option.map_eq_some_iff] at he
    obtain ⟨⟨c, l1⟩, h1, _, ⟨c', h2, rfl⟩, h3⟩ := he
    rw [retOne_eval h3]
    obtain ⟨ad, hv, hg⟩ := addrPlus_good (rdCell_sound h h1) h2
    have hu := run_underlying (P := A.P) ht.und w
    unfold structOff at k2
    split at k2
    · rename_i fs hdesc
      simp only [Option.map_eq_some_iff] at k2
      obtain ⟨fd, hfd, rfl⟩ := k2
      rw [hdesc] at hu
      refine OpOK.value (v := .pointer (some (ad.add fd.offset))) ?_ (h.putCell hd hg)
      simp only [execOp, ho, Instr.fieldAt, Sem.run_bind, hu, Result.andThen_ok, hfd, hv, Instr.sureAddr, Sem.run_pure, fieldPlace_run htf hz]
    · cases k2
theorem op_field (h : Core A X γ Fr env a w) (hty : TyOK A.P X) (hd : dstOk X o) {T : TypeId} {x : Operand} {f : Nat} (ho : o.op = .field T x f) (he : (opRd X vn o).eval env.get [] = some (us, lg)) : OpOK A X Fr o us env a w := by
  simp only [opRd, ho, Rd.eval_bind, Option.bind_eq_some_iff, Ctx.ti, Rd.eval_ofOpt, Option.map_eq_some_iff] at he
  obtain ⟨_, ⟨ti, k1, rfl⟩, _, ⟨p, k2, rfl⟩, _, ⟨tf, k3, rfl⟩, he⟩ := he
  simp only at he
  cases hz : Nat.beq tf.ty.size 0 with
  | true => rw [hz] at he; simp [Rd.eval] at he
  | false =>
  rw [hz] at he
  have hz : tf.ty.size ≠ 0 := fun e => by rw [e] at hz; cases hz
  simp only [cond_false, Rd.eval_bind, Option.bind_eq_some_iff, Rd.eval_ofOpt, Option.map_eq_some_iff] at he
  obtain ⟨⟨av, l1⟩, h1, ⟨cs, l2⟩, h2, _, ⟨cs', h3, rfl⟩, h4⟩ := he
  simp only [Rd.eval, Option.some.injEq, Prod.mk.injEq] at h4
  obtain ⟨rfl, _⟩ := h4
  have ht := hty T ti k1
  have htf := hty _ tf k3
  simp only at k2 h3
  obtain ⟨vs, hv, r0, _⟩ := avCells_sound (rdOp_sound h h1) h2
  have hu := run_underlying (P := A.P) ht.und w
  unfold structOff at k2
  split at k2
  · rename_i fs hdesc
    simp only [Option.map_eq_some_iff] at k2
    obtain ⟨fd, hfd, rfl⟩ := k2
    rw [hdesc] at hu
    have hr := (r0.drop fd.offset).takeN h3
    obtain ⟨e1, e2⟩ := takeN_eq h3
    have hlen := r0.length
    have hfit : fd.offset + tf.ty.size ≤ vs.length := by
      simp only [List.length_drop] at e2
      omega
    · refine OpOK.value (v := mkVal tf.agg ((vs.drop fd.offset).take tf.ty.size)) ?_ (h.put hd (av := .val tf.agg cs') ⟨_, rfl, fun hg => by rw [← hr.length, List.length_take, List.length_drop, Nat.min_eq_left (by omega)]; exact htf.one hg, hr⟩ (.inl ⟨_, _, rfl⟩))
      simp only [execOp, ho, Instr.field, Sem.run_bind, hu, Result.andThen_ok, hfd, hv, asAgg, Sem.run_pure, run_part_at htf hfit]
  · cases k2
theorem RepI.cutI {Z : Nat → Prop} {t : Ty} {l : List t.den} {B : Option Addr} {n c : Nat} (h : RepI Z w (.sl t) l [.slice B n c]) {lo hi : Int} (h0 : 0 ≤ lo) (h1 : lo ≤ hi) (h2 : hi ≤ (n : Int)) :
    RepI Z w (.sl t) (cut l lo hi) [.slice (if c = lo.toNat then B else B.map (·.add (lo.toNat * t.size))) (hi.toNat - lo.toNat) (c - lo.toNat)] := by
  obtain ⟨B', c', hB, hlc, hel⟩ := h
  simp only [List.cons.injEq, Value.slice.injEq, and_true] at hB
  obtain ⟨rfl, rfl, rfl⟩ := hB
  have hl : (cut l lo hi).length = hi.toNat - lo.toNat := by simp [cut]; omega
  refine ⟨_, _, by rw [hl], by rw [hl]; omega, fun i x hx => ?_⟩
  have hi' : i < hi.toNat - lo.toNat := by rw [← hl]; exact (List.getElem?_eq_some_iff.1 hx).1
  have hx' : l[lo.toNat + i]? = some x := by
    simp only [cut, List.getElem?_drop, List.getElem?_take] at hx
    rwa [if_pos (by omega)] at hx
  obtain ⟨ad, rfl, hz, xs, hr, hc⟩ := hel _ _ hx'
  have hne : ¬ (c = lo.toNat) := by omega
  refine ⟨ad.add (lo.toNat * t.size), by simp [hne], by rw [add_zero_block]; exact hz, xs, hr, fun j v hv => ?_⟩
  rw [add_add, ← hc j v hv]
  congr 2
  rw [Nat.add_mul]; omega
theorem implodeN_rel (t : Ty) : ∀ (n : Nat) (cs : List Cell) (us : List Value) (l : List t.den), implodeN t n cs = some l → RelCs A γ w Fr cs us → ∃ u1 u2, us = u1 ++ u2 ∧ RepsL γ.Z w t l u1 ∧ l.length = n
  | 0, cs, us, l, h, hr => by simp [implodeN] at h; subst h; exact ⟨[], us, rfl, rfl, rfl⟩
  | n + 1, cs, us, l, h, hr => by
    simp only [implodeN] at h
    split at h
    · rename_i x r h1
      simp only [Option.map_eq_some_iff] at h
      obtain ⟨l', h2, rfl⟩ := h
      obtain ⟨u1, u2, rfl, r1, r2⟩ := implode_rel t cs us x r h1 hr
      obtain ⟨u3, u4, rfl, r3, r4⟩ := implodeN_rel t n r u2 l' h2 r2
      exact ⟨u1 ++ u3, u4, by rw [List.append_assoc], ⟨u1, u3, rfl, r1, r3⟩, by simp [r4]⟩
    · cases h
def srcBlock (γ : Gh) (g : Nat) : Src → Prop
  | .row x => (γ.φ x).ownBlock = some g
  | .arr b bv => γ.σ b bv = g
def zoneOf (γ : Gh) (ss : List Src) : Nat → Prop := fun g => γ.Z g ∨ ∃ s ∈ ss, srcBlock γ g s
theorem Core.barr_reads (h : Core A X γ Fr env a w) {b bv off n : Nat} {fz : Bool} {cs0 : List Cell} {t : Ty} {l : List t.den} (hb : env.get (.box b) = .box bv fz cs0)
    (hl : implodeN t n (VI.readCells (.box b) 0 off (cs0.drop off)) = some l) (Z' : Nat → Prop) (hZ : ∀ g, γ.Z g → Z' g) (hz : Z' (γ.σ b bv)) : RepI Z' w (.sl t) l [.slice (some ⟨γ.σ b bv, off, none⟩) n n] := by
  obtain ⟨k1, k2⟩ := h.boxCells hb off
  obtain ⟨u1, u2, hu, r1, r2⟩ := implodeN_rel t n _ _ l hl k1
  refine ⟨_, _, by rw [r2], by rw [r2]; exact Nat.le_refl _, fun i x hx => ?_⟩
  obtain ⟨xs, hr, hc⟩ := r1.at l u1 i x hx
  refine ⟨_, rfl, hz, xs, RepI.mono hZ (fun _ _ => rfl) _ _ _ hr, fun j v hv => ?_⟩
  rw [add_plain]
  refine k2 _ v ?_
  have := hc j v hv
  have hlt := (List.getElem?_eq_some_iff.1 this).1
  have : ((cellVals γ (.box b) 0 cs0.length).drop off)[i * t.size + j]? = some v := by rw [hu, List.getElem?_append_left hlt]; exact this
  rwa [List.getElem?_drop] at this
theorem slice_reads (h : Core A X γ Fr env a w) {c : Cell} {v : Value} (hg : GoodR A γ w Fr c v) {c' : Cell} {ss : List Src} {l0 l1 : List Slot} (hs : (solid c).eval env.get l0 = some ((c', ss), l1)) :
    ∀ (Z' : Nat → Prop), (∀ g, zoneOf γ ss g → Z' g) → RelCell A { γ with Z := Z' } w c' v ∧ (∀ t l p, c' = .imm t l p → RepI Z' w (.sl t) l [v]) := by
  intro Z' hZ'
  have hZ : ∀ g, γ.Z g → Z' g := fun g hz => hZ' g (.inl hz)
  have same : c' = c → RelCell A { γ with Z := Z' } w c' v ∧ (∀ t l p, c' = .imm t l p → RepI Z' w (.sl t) l [v]) := by
    intro e
    subst e
    have hm := hg.1.move (γ' := { γ with Z := Z' }) (w' := w) (fun _ _ _ => rfl) (fun _ _ _ => rfl) hZ (fun _ _ => rfl) (Nat.le_refl _) (fun _ _ _ => rfl)
    exact ⟨hm, fun t l p e => by subst e; exact hm.1⟩
  cases c with
  | view x ver =>
    simp only [solid, Rd.eval_bind, Option.bind_eq_some_iff] at hs
    obtain ⟨⟨⟨e, t, l⟩, l2⟩, h1, h2⟩ := hs
    simp only [Rd.eval, Option.some.injEq, Prod.mk.injEq] at h2
    obtain ⟨⟨rfl, rfl⟩, _⟩ := h2
    have hx := ownerAt_eval h1
    have hv : v = γ.φ x := hg.1.trans (h.own x e t ver l hx).1
    have hr : RepI Z' w (.sl t) l [v] := by
      rw [hv]
      exact (h.cell x _ hx).1.reads Z' hZ (fun g hgb => hZ' g (.inr ⟨_, List.mem_singleton.2 rfl, hgb⟩))
    exact ⟨⟨hr, by simp⟩, fun t' l' p e => by injection e with e1 e2 e3; subst e1; rw [← eq_of_heq e2]; exact hr⟩
  | sub x ver sz lo hi =>
    simp only [solid, Rd.eval_bind, Option.bind_eq_some_iff] at hs
    obtain ⟨⟨⟨e, t, l⟩, l2⟩, h1, h2⟩ := hs
    simp only at h2
    cases hsz : Nat.beq sz t.size with
    | false => rw [hsz] at h2; simp [Rd.eval] at h2
    | true =>
      rw [hsz] at h2
      have hsz := Nat.eq_of_beq_eq_true hsz
      subst hsz
      simp only [cond_true, Rd.eval, Option.some.injEq, Prod.mk.injEq] at h2
      obtain ⟨⟨rfl, rfl⟩, _⟩ := h2
      have hx := ownerAt_eval h1
      obtain ⟨B, n, c, hψ, k0, k1, k2, hv⟩ := hg.1
      have hφ : γ.φ x = .slice B n c := by rw [← (h.own x e t ver l hx).1]; exact hψ
      have hr0 : RepI Z' w (.sl t) l [γ.φ x] := (h.cell x _ hx).1.reads Z' hZ (fun g hgb => hZ' g (.inr ⟨_, List.mem_singleton.2 rfl, hgb⟩))
      rw [hφ] at hr0
      have hr : RepI Z' w (.sl t) (cut l lo hi) [v] := by rw [hv]; exact hr0.cutI k0 k1 k2
      exact ⟨⟨hr, by simp⟩, fun t' l' p e => by injection e with e1 e2 e3; subst e1; rw [← eq_of_heq e2]; exact hr⟩
  | barr b bv off n t =>
    simp only [solid, Rd.eval_bind, Option.bind_eq_some_iff, Rd.eval_ofOpt, Option.map_eq_some_iff] at hs
    obtain ⟨⟨⟨fz, cs0⟩, l2⟩, h1, _, ⟨l, h2, rfl⟩, h3⟩ := hs
    simp only [Rd.eval, Option.some.injEq, Prod.mk.injEq] at h3
    obtain ⟨⟨rfl, rfl⟩, _⟩ := h3
    have hb := boxAt_eval h1
    have hr : RepI Z' w (.sl t) l [v] := by
      rw [show v = _ from hg.1]
      exact h.barr_reads hb h2 Z' hZ (hZ' _ (.inr ⟨_, List.mem_singleton.2 rfl, rfl⟩))
    exact ⟨⟨hr, by simp⟩, fun t' l' p e => by injection e with e1 e2 e3; subst e1; rw [← eq_of_heq e2]; exact hr⟩
  | _ =>
    simp only [solid, Rd.eval, Option.some.injEq, Prod.mk.injEq] at hs
    exact same hs.1.1.symm
theorem listOf_sound (h : Core A X γ Fr env a w) {c : Cell} {v : Value} (hg : GoodR A γ w Fr c v) {p : Σ t : Ty, List t.den} {l0 l1 : List Slot} (hs : (listOf c).eval env.get l0 = some (p, l1)) :
    ∃ Z', (∀ g, γ.Z g → Z' g) ∧ RepI Z' w (.sl p.1) p.2 [v] := by
  cases c with
  | imm t l par =>
    simp only [listOf, Rd.eval, Option.some.injEq, Prod.mk.injEq] at hs
    obtain ⟨rfl, _⟩ := hs
    exact ⟨γ.Z, fun _ hz => hz, hg.1.1⟩
  | nil e t =>
    simp only [listOf, Rd.eval, Option.some.injEq, Prod.mk.injEq] at hs
    obtain ⟨rfl, _⟩ := hs
    refine ⟨γ.Z, fun _ hz => hz, none, 0, by rw [show v = _ from hg.1]; rfl, Nat.le_refl _, fun i x hx => by simp at hx⟩
  | view x ver =>
    simp only [listOf, Rd.eval_bind, Option.bind_eq_some_iff] at hs
    obtain ⟨⟨⟨e, t, l⟩, l2⟩, h1, h2⟩ := hs
    simp only [Rd.eval, Option.some.injEq, Prod.mk.injEq] at h2
    obtain ⟨rfl, _⟩ := h2
    have := (slice_reads h hg (c' := .imm t l none) (ss := [.row x]) (l0 := l0) (by simp only [solid, Rd.eval_bind, h1, Option.bind_some]; rfl) _ (fun _ hz => hz)).2 t l none rfl
    exact ⟨_, fun g hz => .inl hz, this⟩
  | sub x ver sz lo hi =>
    simp only [listOf, Rd.eval_bind, Option.bind_eq_some_iff] at hs
    obtain ⟨⟨⟨e, t, l⟩, l2⟩, h1, h2⟩ := hs
    simp only at h2
    cases hsz : Nat.beq sz t.size with
    | false => rw [hsz] at h2; simp [Rd.eval] at h2
    | true =>
      rw [hsz] at h2
      simp only [cond_true, Rd.eval, Option.some.injEq, Prod.mk.injEq] at h2
      obtain ⟨rfl, _⟩ := h2
      have := (slice_reads h hg (c' := .imm t (cut l lo hi) none) (ss := [.row x]) (l0 := l0) (by simp only [solid, Rd.eval_bind, h1, Option.bind_some, hsz, cond_true]; rfl) _ (fun _ hz => hz)).2 t _ none rfl
      exact ⟨_, fun g hz => .inl hz, this⟩
  | barr b bv off n t =>
    simp only [listOf, Rd.eval_bind, Option.bind_eq_some_iff, Rd.eval_ofOpt, Option.map_eq_some_iff] at hs
    obtain ⟨⟨⟨fz, cs0⟩, l2⟩, h1, _, ⟨l, h2, rfl⟩, h3⟩ := hs
    simp only [Rd.eval, Option.some.injEq, Prod.mk.injEq] at h3
    obtain ⟨rfl, _⟩ := h3
    have := (slice_reads h hg (c' := .imm t l none) (ss := [.arr b bv]) (l0 := l0) (by simp only [solid, Rd.eval_bind, h1, Option.bind_some, Rd.eval_ofOpt, h2, Option.map_some]; rfl) _ (fun _ hz => hz)).2 t l none rfl
    exact ⟨_, fun g hz => .inl hz, this⟩
  | _ => simp [listOf, Rd.eval] at hs
theorem foldl_push_aux : ∀ (l : List Int) (s : ByteArray), (l.foldl (fun r n => r.push (UInt8.ofNat n.toNat)) s).data.toList = s.data.toList ++ l.map (fun (n : Int) => n.toNat.toUInt8)
  | [], s => by simp
  | n :: r, s => by
    rw [List.foldl_cons, foldl_push_aux r]
    simp [ByteArray.push]
theorem foldl_push (l : List Int) : l.foldl (fun r n => r.push (UInt8.ofNat n.toNat)) ByteArray.empty = ⟨(l.map fun (n : Int) => n.toNat.toUInt8).toArray⟩ := by
  have := foldl_push_aux l ByteArray.empty
  apply ByteArray.ext
  apply Array.ext'
  rw [this]
  simp [ByteArray.empty, ByteArray.emptyWithCapacity]
  rfl
end
end Go.VI
/- VI, part 14: elements' addresses, cuts, what is built. -/
namespace Go.VI
open Go.RowKit
section
variable {A : Fix} {X : Ctx} {γ : Gh} {Fr : Nat → Prop} {env : Env} {a : Act} {w w' : World} {vn : Nat} {o : Oper} {us : List Upd} {lg : List Slot}
theorem run_sizeOf_ti {T : TypeId} {ti : TI} (ht : TIOK A.P T ti) : (sizeOf T).run A.P w = .ok ti.ty.size w := by
  obtain ⟨i, hi, hs, _, _⟩ := ht.info'
  simp only [sizeOf, typeInfo, program, Sem.run_bind, Sem.run, hi, Sem.run_pure, Result.andThen_ok, hs]
theorem addrIdx_good {m sz : Nat} {i : Int} {c c' : Cell} {v : Value} (hg : GoodR A γ w Fr c v) (hi : inB i m = true) (hc : addrIdx m sz i c = some c') :
    ∃ ad, v = .pointer (some ad) ∧ GoodR A γ w Fr c' (.pointer (some (ad.add (i.toNat * sz)))) := by
  cases c <;> simp [addrIdx] at hc
  · subst hc
    exact ⟨_, hg.1, by rw [add_plain]; exact ⟨⟨hi, rfl⟩, rfl, hg.2.2.1, rfl⟩⟩
  · subst hc
    exact ⟨_, hg.1, by rw [add_plain]; exact ⟨⟨hi, rfl⟩, rfl, by simp [refs], rfl⟩⟩
  · subst hc
    obtain ⟨ad, us0, hv, hz, hr, hcell⟩ := hg.1
    exact ⟨_, hv, ⟨hi, ad, us0, by rw [add_add], hz, hr, hcell⟩, rfl, by simp [refs], rfl⟩
  · subst hc
    obtain ⟨g, n, cc, h1, h2, h3⟩ := hg.1
    exact ⟨_, h3, ⟨g, n, cc, h1, h2, hi, by rw [add_plain]⟩, rfl, hg.2.2.1, rfl⟩
  · subst hc
    obtain ⟨h0, ad, cc, h1, h2⟩ := hg.1
    exact ⟨_, h2, ⟨h0, hi, ad, cc, h1, by rw [add_add]⟩, rfl, by simp [refs], rfl⟩
theorem splitAddr_good {b bv off sz : Nat} {i : Int} {v : Value} (hg : GoodR A γ w Fr (.addr b bv off) v) : ∀ (n k : Nat) {l l' : List Slot} {c' : Cell}, (k : Int) ≤ i → i < (k : Int) + (n : Int) → (splitAddr b bv off sz i k n).eval env.get l = some (c', l') →
    ∃ ad, v = .pointer (some ad) ∧ GoodR A γ w Fr c' (.pointer (some (ad.add (i.toNat * sz))))
  | 0, k, l, l', c', h0, h1, h => by simp [splitAddr, Rd.eval] at h
  | 1, k, l, l', c', h0, h1, h => by
    simp only [splitAddr, Rd.eval, Option.some.injEq, Prod.mk.injEq] at h
    obtain ⟨rfl, _⟩ := h
    have e : i.toNat = k := by omega
    rw [e]
    exact ⟨_, hg.1, by rw [add_plain]; exact ⟨rfl, rfl, hg.2.2.1, rfl⟩⟩
  | n + 2, k, l, l', c', h0, h1, h => by
    simp only [splitAddr, Rd.eval] at h
    by_cases hi : i = (k : Int)
    · rw [decide_eq_true hi] at h
      simp only [cond_true, Option.some.injEq, Prod.mk.injEq] at h
      obtain ⟨rfl, _⟩ := h
      have e : i.toNat = k := by omega
      rw [e]
      exact ⟨_, hg.1, by rw [add_plain]; exact ⟨rfl, rfl, hg.2.2.1, rfl⟩⟩
    · rw [decide_eq_false hi] at h
      simp only [cond_false] at h
      exact splitAddr_good hg (n + 1) (k + 1) (by omega) (by omega) h
theorem addrIdxRd_good {rows : Bool} {m sz : Nat} {i : Int} {c c' : Cell} {v : Value} {l l' : List Slot} (hg : GoodR A γ w Fr c v) (hi : inB i m = true) (hc : (addrIdxRd rows m sz i c).eval env.get l = some (c', l')) :
    ∃ ad, v = .pointer (some ad) ∧ GoodR A γ w Fr c' (.pointer (some (ad.add (i.toNat * sz)))) := by
  have hin : 0 ≤ i ∧ i < (m : Int) := by have := inB_iff.1 hi; omega
  cases rows with
  | false =>
    simp only [addrIdxRd, Rd.eval_ofOpt, Option.map_eq_some_iff, Prod.mk.injEq] at hc
    obtain ⟨c1, h1, rfl, _⟩ := hc
    exact addrIdx_good hg hi h1
  | true =>
    cases c with
    | addr b bv off => exact splitAddr_good hg m 0 (by omega) (by omega) hc
    | _ => simp [addrIdxRd, Rd.eval] at hc
theorem op_indexAddr (h : Core A X γ Fr env a w) (hty : TyOK A.P X) (hd : dstOk X o) {T : TypeId} {x ix : Operand} (ho : o.op = .indexAddr T x ix) (he : (opRd X vn o).eval env.get [] = some (us, lg)) : OpOK A X Fr o us env a w := by
  simp only [opRd, ho, Rd.eval_bind, Option.bind_eq_some_iff, Ctx.ti, Rd.eval_ofOpt, Option.map_eq_some_iff] at he
  obtain ⟨_, ⟨ti, k1, rfl⟩, ⟨⟨k, i⟩, l1⟩, h1, h2⟩ := he
  have ht := hty T ti k1
  have hi := rdInt_sound h h1
  simp only at hi h2
  have hu := run_underlying (P := A.P) ht.und w
  split at h2
  ·
    rename_i n e hdesc
    simp only [Rd.eval_bind, Option.bind_eq_some_iff, Rd.eval_ofOpt, Option.map_eq_some_iff] at h2
    obtain ⟨_, ⟨te, k2, rfl⟩, ⟨c, l2⟩, h3, h4⟩ := h2
    have hte := hty e te k2
    simp only [Rd.eval] at h4
    cases hin : inB i n with
    | false => rw [hin] at h4; simp at h4
    | true =>
      rw [hin] at h4
      simp only [cond_true, Rd.eval_bind, Option.bind_eq_some_iff] at h4
      obtain ⟨⟨c', l4⟩, h5, h6⟩ := h4
      rw [retOne_eval h6]
      obtain ⟨ad, hv, hg⟩ := addrIdxRd_good (rdCell_sound h h3) hin h5
      rw [hdesc] at hu
      have hin' : 0 ≤ i ∧ i < (n : Int) := by have := inB_iff.1 hin; omega
      refine OpOK.value (v := .pointer (some (ad.add (i.toNat * te.ty.size)))) ?_ (h.putCell hd hg)
      simp only [execOp, ho, Instr.indexAt, hi, hv, asIntOf, Sem.run_bind, Sem.run_pure, Result.andThen_ok, hu, Instr.sureAddr, hin', and_self, if_true, run_sizeOf_ti hte]
  · rename_i e hdesc
    simp only [Rd.eval_bind, Option.bind_eq_some_iff, Rd.eval_ofOpt, Option.map_eq_some_iff] at h2
    obtain ⟨_, ⟨te, k2, rfl⟩, ⟨c, l2⟩, h3, h4⟩ := h2
    have hte := hty e te k2
    have hgc := rdCell_sound h h3
    rw [hdesc] at hu
    simp only at h4
    have fin : ∀ (B : Addr) (n cap : Nat) (c' : Cell), a.eval x = .slice (some B) n cap → inB i n = true → GoodR A γ w Fr c' (.pointer (some (B.add (i.toNat * te.ty.size)))) → OpOK A X Fr o (dstSet o (.val false [c'])) env a w := by
      intro B n cap c' hx hin hg
      have hin' : 0 ≤ i ∧ i < (n : Int) := by have := inB_iff.1 hin; omega
      refine OpOK.value (v := .pointer (some (B.add (i.toNat * te.ty.size)))) ?_ (h.putCell hd hg)
      simp only [execOp, ho, Instr.indexAt, hi, hx, asIntOf, Sem.run_bind, Sem.run_pure, Result.andThen_ok, hu, hin', and_self, if_true, run_sizeOf_ti hte]
    split at h4
    · rename_i y ver
      simp only [Rd.eval_bind, Option.bind_eq_some_iff] at h4
      obtain ⟨⟨⟨e', t, l⟩, l3⟩, h5, h6⟩ := h4
      have hx := ownerAt_eval h5
      simp only at h6 hx
      cases hs : Nat.beq te.ty.size t.size with
      | false => rw [hs] at h6; simp [Rd.eval] at h6
      | true =>
        rw [hs] at h6
        have hs := Nat.eq_of_beq_eq_true hs
        simp only [cond_true, Rd.eval] at h6
        cases hin : inB i l.length with
        | false => rw [hin] at h6; simp at h6
        | true =>
          rw [hin] at h6
          simp only [cond_true] at h6
          rw [retOne_eval h6]
          have hv : a.eval x = γ.ψ y ver := hgc.1
          have hψ : γ.ψ y ver = γ.φ y := (h.own y _ _ _ _ hx).1
          obtain ⟨_, xs, ho', _⟩ := (h.cell y _ hx).1
          rcases ho'.2 with ⟨_, hn⟩ | ⟨g, cap, cur, fz, hsl, _⟩
          · have := inB_iff.1 hin; omega
          · have hvs : γ.ψ y ver = .slice (some ⟨g, 0, none⟩) l.length cap := hψ.trans hsl
            refine fin _ _ _ _ (hv.trans hvs) hin ⟨⟨g, l.length, cap, hvs, hin, ?_⟩, rfl, hgc.2.2.1, rfl⟩
            rw [add_plain, hs]; simp
    · rename_i t l p
      cases hs : Nat.beq te.ty.size t.size with
      | false => rw [hs] at h4; simp [Rd.eval] at h4
      | true =>
        rw [hs] at h4
        have hs := Nat.eq_of_beq_eq_true hs
        simp only [cond_true, Rd.eval] at h4
        cases hin : inB i l.length with
        | false => rw [hin] at h4; simp at h4
        | true =>
          rw [hin] at h4
          simp only [cond_true] at h4
          rw [retOne_eval h4]
          have hr := hgc.1.1
          obtain ⟨B, c', hB, hlc, hel⟩ := hr
          simp only [List.cons.injEq, and_true] at hB
          obtain ⟨ad, rfl, _⟩ := hel _ _ (nth_get hin)
          have hr := hgc.1.1
          rw [hB] at hr
          refine fin _ _ _ _ hB hin ⟨⟨hin, ad, c', hr, ?_⟩, rfl, by simp [refs], rfl⟩
          rw [hs]; simp
    · simp [Rd.eval] at h4
  · simp [Rd.eval] at h2
end
end Go.VI
/- VI, part 15: cuts. -/
namespace Go.VI
open Go.RowKit
section
variable {A : Fix} {X : Ctx} {γ : Gh} {Fr : Nat → Prop} {env : Env} {a : Act} {w w' : World} {vn : Nat} {o : Oper} {us : List Upd} {lg : List Slot}
def BoundIs (a : Act) (x : Option Operand) (d n : Int) : Prop :=
  match x with
  | some l => ∃ k, a.eval l = .int k n
  | none => n = d
theorem rdBound_sound (h : Core A X γ Fr env a w) {x : Option Operand} {d n : Int} {l0 l1 : List Slot} (he : (rdBound X x d).eval env.get l0 = some (n, l1)) : BoundIs a x d n := by
  unfold rdBound at he
  split at he
  · simp only [Rd.eval_bind, Option.bind_eq_some_iff] at he
    obtain ⟨⟨p, l2⟩, h1, h2⟩ := he
    simp only [Rd.eval, Option.some.injEq, Prod.mk.injEq] at h2
    obtain ⟨rfl, _⟩ := h2
    exact ⟨_, rdInt_sound h h1⟩
  · simp only [Rd.eval, Option.some.injEq, Prod.mk.injEq] at he
    exact he.1.symm
theorem run_bounds {isSlice : Bool} {len cap : Nat} {lo hi : Option Operand} {l h : Int} (h1 : BoundIs a lo 0 l) (h2 : BoundIs a hi len h) (k0 : 0 ≤ l) (k1 : l ≤ h) (k2 : h ≤ (cap : Int)) :
    (Instr.sliceBounds isSlice len cap (lo.map a.eval) (hi.map a.eval) none).run A.P w = .ok (l.toNat, h.toNat, cap) w := by
  have hh : ∀ (y : Nat) (k : IntKind) (i : Int) (code : BoundsCode), 0 ≤ i → i ≤ (y : Int) → (Instr.sliceBound (.int k i) y code).run A.P w = .ok i.toNat w := fun y k i code a b => by simp [Instr.sliceBound, asIntOf, a, b]
  have hlh : l ≤ ((h.toNat : Nat) : Int) := by omega
  cases lo with
  | none =>
    have h1 : l = 0 := h1
    subst h1
    cases hi with
    | none =>
      have h2 : h = len := h2
      subst h2
      simp [Instr.sliceBounds]
    | some x =>
      obtain ⟨k, hk⟩ := h2
      simp [Instr.sliceBounds, hk, hh cap k h _ (by omega) k2, Result.andThen_ok]
  | some y =>
    obtain ⟨k', hk'⟩ := h1
    cases hi with
    | none =>
      have h2 : h = len := h2
      subst h2
      simp [Instr.sliceBounds, hk', hh len k' l _ k0 k1, Result.andThen_ok]
    | some x =>
      obtain ⟨k, hk⟩ := h2
      simp [Instr.sliceBounds, hk, hk', Sem.run_bind, hh cap k h _ (by omega) k2, hh h.toNat k' l _ k0 hlh, Result.andThen_ok]
theorem extract_str (s : List UInt8) (l h : Nat) : (⟨s.toArray⟩ : ByteArray).extract l h = ⟨((s.take h).drop l).toArray⟩ := by
  apply ByteArray.ext
  simp only [ByteArray.data_extract, List.extract_toArray, List.extract_eq_take_drop]
  rw [List.drop_take]
theorem op_slice (h : Core A X γ Fr env a w) (hty : TyOK A.P X) (hd : dstOk X o) {T : TypeId} {x : Operand} {lo hi mx : Option Operand} (ho : o.op = .slice T x lo hi mx) (he : (opRd X vn o).eval env.get [] = some (us, lg)) : OpOK A X Fr o us env a w := by
  simp only [opRd, ho, Rd.eval_bind, Option.bind_eq_some_iff, Ctx.ti, Rd.eval_ofOpt, Option.map_eq_some_iff] at he
  obtain ⟨_, ⟨ti, k1, rfl⟩, he⟩ := he
  have ht := hty T ti k1
  have hu := run_underlying (P := A.P) ht.und w
  cases mx with
  | some m => simp [Rd.eval] at he
  | none =>
  simp only [Rd.eval_bind, Option.bind_eq_some_iff] at he
  obtain ⟨⟨c, l1⟩, h1, ⟨l, l2⟩, h2, h3⟩ := he
  have hg := rdCell_sound h h1
  have hl := rdBound_sound h h2
  simp only at h3
  split at h3
  · rename_i s hdesc
    simp only [Rd.eval_bind, Option.bind_eq_some_iff] at h3
    obtain ⟨⟨r, l3⟩, h4, h5⟩ := h3
    have hr := rdBound_sound h h4
    simp only [Rd.eval] at h5
    cases hb : (decide (0 ≤ l) && decide (l ≤ r) && decide (r ≤ (s.length : Int))) with
    | false => rw [hb] at h5; simp at h5
    | true =>
      rw [hb] at h5
      simp only [cond_true] at h5
      simp only [Bool.and_eq_true, decide_eq_true_eq] at hb
      rw [retOne_eval h5]
      rw [hdesc] at hu
      have hx : a.eval x = .string ⟨s.toArray⟩ := hg.1
      refine OpOK.value (v := .string ⟨(cut s l r).toArray⟩) ?_ (h.putCell hd (good_str _))
      have hbd := run_bounds (A := A) (w := w) (isSlice := false) (len := s.length) (cap := s.length) hl hr hb.1.1 hb.1.2 hb.2
      simp only [execOp, ho, Instr.sliceAt, Instr.slice, Sem.run_bind, hu, Result.andThen_ok, hx, Option.map_none, Option.isSome_none, Bool.false_eq_true, if_false, size_str, hbd, Sem.run_pure, extract_str, cut]
  · rename_i n e b bv off hdesc
    split at h3
    · simp only [Rd.eval_bind, Option.bind_eq_some_iff, Rd.eval_ofOpt, Option.map_eq_some_iff] at h3
      obtain ⟨_, ⟨te, k2, rfl⟩, h4⟩ := h3
      have hte := hty e te k2
      rw [retOne_eval h4]
      rw [hdesc] at hu
      have hx : a.eval x = .pointer (some ⟨γ.σ b bv, off, none⟩) := hg.1
      have hbd := run_bounds (A := A) (w := w) (a := a) (isSlice := false) (len := n) (cap := n) (lo := none) (hi := none) (l := 0) (h := n) rfl rfl (Int.le_refl _) (by omega) (Int.le_refl _)
      simp only [Option.map_none, Int.toNat_zero, Int.toNat_natCast] at hbd
      refine OpOK.value (v := .slice (some ⟨γ.σ b bv, off, none⟩) n n) ?_ (h.putCell hd ⟨rfl, rfl, fun r hr => hg.2.2.1 r hr, rfl⟩)
      simp only [execOp, ho, Instr.sliceAt, Sem.run_bind, hu, Result.andThen_ok, hx, Option.map_none, Instr.sureAddr, Sem.run_pure, hbd, run_sizeOf_ti hte, Nat.sub_zero, Nat.zero_mul, add_plain, Nat.add_zero, ite_self]
    · simp [Rd.eval] at h3
  · rename_i e y ver hdesc
    simp only [Rd.eval_bind, Option.bind_eq_some_iff, Rd.eval_ofOpt, Option.map_eq_some_iff] at h3
    obtain ⟨_, ⟨te, k2, rfl⟩, ⟨⟨e', t, s⟩, l3⟩, h4, h5⟩ := h3
    have hte := hty e te k2
    have hy := ownerAt_eval h4
    simp only at h5 hy
    cases hs : Nat.beq te.ty.size t.size with
    | false => rw [hs] at h5; simp [Rd.eval] at h5
    | true =>
      rw [hs] at h5
      have hs := Nat.eq_of_beq_eq_true hs
      simp only [cond_true, Rd.eval_bind, Option.bind_eq_some_iff] at h5
      obtain ⟨⟨r, l4⟩, h6, h7⟩ := h5
      have hr := rdBound_sound h h6
      simp only [Rd.eval] at h7
      cases hb : (decide (0 ≤ l) && decide (l ≤ r) && decide (r ≤ (s.length : Int))) with
      | false => rw [hb] at h7; simp at h7
      | true =>
        rw [hb] at h7
        simp only [cond_true] at h7
        simp only [Bool.and_eq_true, decide_eq_true_eq] at hb
        rw [retOne_eval h7]
        rw [hdesc] at hu
        obtain ⟨B, c', hsl, hlc⟩ := OwnV.slice (h.cell y _ hy).1
        have hψ : γ.ψ y ver = .slice B s.length c' := (h.own y _ _ _ _ hy).1.trans hsl
        have hx : a.eval x = .slice B s.length c' := (show a.eval x = γ.ψ y ver from hg.1).trans hψ
        have hbd := run_bounds (A := A) (w := w) (isSlice := true) (len := s.length) (cap := c') hl hr hb.1.1 hb.1.2 (by omega)
        refine OpOK.value (v := .slice (if c' = l.toNat then B else B.map (·.add (l.toNat * t.size))) (r.toNat - l.toNat) (c' - l.toNat)) ?_ (h.putCell hd ⟨⟨B, _, c', hψ, hb.1.1, hb.1.2, hb.2, rfl⟩, rfl, fun r hr => hg.2.2.1 r hr, rfl⟩)
        simp only [execOp, ho, Instr.sliceAt, Instr.slice, Sem.run_bind, hu, Result.andThen_ok, hx, Option.map_none, hbd, Sem.run_pure, run_sizeOf_ti hte, hs]
  · rename_i e t s p hdesc
    simp only [Rd.eval_bind, Option.bind_eq_some_iff, Rd.eval_ofOpt, Option.map_eq_some_iff] at h3
    obtain ⟨_, ⟨te, k2, rfl⟩, h5⟩ := h3
    have hte := hty e te k2
    simp only at h5
    cases hs : Nat.beq te.ty.size t.size with
    | false => rw [hs] at h5; simp [Rd.eval] at h5
    | true =>
      rw [hs] at h5
      have hs := Nat.eq_of_beq_eq_true hs
      simp only [cond_true, Rd.eval_bind, Option.bind_eq_some_iff] at h5
      obtain ⟨⟨r, l4⟩, h6, h7⟩ := h5
      have hr := rdBound_sound h h6
      simp only [Rd.eval] at h7
      cases hb : (decide (0 ≤ l) && decide (l ≤ r) && decide (r ≤ (s.length : Int))) with
      | false => rw [hb] at h7; simp at h7
      | true =>
        rw [hb] at h7
        simp only [cond_true] at h7
        simp only [Bool.and_eq_true, decide_eq_true_eq] at hb
        rw [retOne_eval h7]
        rw [hdesc] at hu
        have hrep := hg.1.1
        obtain ⟨B, c', hB, hlc, hel⟩ := hrep
        simp only [List.cons.injEq, and_true] at hB
        have hrep := hg.1.1
        rw [hB] at hrep
        have hbd := run_bounds (A := A) (w := w) (isSlice := true) (len := s.length) (cap := c') hl hr hb.1.1 hb.1.2 (by omega)
        refine OpOK.value (v := .slice (if c' = l.toNat then B else B.map (·.add (l.toNat * t.size))) (r.toNat - l.toNat) (c' - l.toNat)) ?_ (h.putCell hd ⟨⟨hrep.cutI hb.1.1 hb.1.2 hb.2, by simp⟩, rfl, by simp [refs], rfl⟩)
        simp only [execOp, ho, Instr.sliceAt, Instr.slice, Sem.run_bind, hu, Result.andThen_ok, hB, Option.map_none, hbd, Sem.run_pure, run_sizeOf_ti hte, hs]
  · simp [Rd.eval] at h3
end
end Go.VI
