/- VI, part 28: what the generated texts lean on. -/
import Derived.Test.YtlnfgikipeiaiaaViRun
namespace Go.VI
noncomputable section
open Go.RowKit
theorem hid_ex {α : Type} (a : α) : ∃ x : α, x = a := ⟨a, rfl⟩
noncomputable def hid {α : Type} (a : α) : α := Classical.choose (hid_ex a)
theorem hid_eq {α : Type} (a : α) : hid a = a := Classical.choose_spec (hid_ex a)
theorem manyRounds : ∃ n : Nat, 4194304 ≤ n := ⟨_, Nat.le_refl _⟩
noncomputable def N : Nat := Classical.choose manyRounds
theorem N_ge : 4194304 ≤ N := Classical.choose_spec manyRounds
theorem look_mem {α : Type} : ∀ (l : List (Nat × α)) (k : Nat) (x : α), look l k = some x → (k, x) ∈ l
  | [], k, x, h => by simp [look] at h
  | p :: r, k, x, h => by
    simp only [look] at h
    cases hb : Nat.beq p.1 k with
    | true =>
      rw [hb] at h
      have hb := Nat.eq_of_beq_eq_true hb
      simp only [cond_true, Option.some.injEq] at h
      subst h; subst hb
      simp
    | false =>
      rw [hb] at h
      exact List.mem_cons_of_mem _ (look_mem r k x h)
def tiB (P : Program) (T : TypeId) (ti : TI) : Prop :=
  P.underlying T = some ti.desc ∧ (P.info? T).map (fun i => (i.size, i.bytes, i.zero)) = some (ti.ty.size, ti.bytes, some (mkVal ti.agg (ti.zero.map cellV))) ∧ zmatch ti.ty ti.zero = some [] ∧ (ti.agg || Nat.beq ti.ty.size 1) = true ∧
    ti.agg = (match ti.desc with | .struct _ | .array .. => true | _ => false) ∧ (!ti.eqs || (!P.stoodInHeld T && (match ti.desc with | .struct fs => fs.toList.all fun f => f.name != "_" | _ => true))) = true
theorem tiB_ok {P : Program} {T : TypeId} {ti : TI} (h : tiB P T ti) : TIOK P T ti :=
  ⟨h.1, h.2.1, h.2.2.1, fun hg => by
    have := h.2.2.2.1
    rw [hg] at this
    exact Nat.eq_of_beq_eq_true (by simpa using this), h.2.2.2.2.1, fun he => by
    have := h.2.2.2.2.2
    rw [he] at this
    simp only [Bool.not_true, Bool.false_or, Bool.and_eq_true, Bool.not_eq_true'] at this
    refine ⟨this.1, fun fs hfs f hf => ?_⟩
    have h2 := this.2
    rw [hfs] at h2
    simpa using List.all_eq_true.1 h2 f hf⟩
def allP {α : Type} (p : α → Prop) : List α → Prop
  | [] => True
  | a :: r => p a ∧ allP p r
theorem allP_mem {α : Type} {p : α → Prop} : ∀ {l : List α}, allP p l → ∀ a ∈ l, p a
  | [], _, a, h => by cases h
  | b :: r, h, a, ha => by
    rcases List.mem_cons.1 ha with rfl | ha
    · exact h.1
    · exact allP_mem h.2 a ha
theorem looks_mem {α : Type} : ∀ (l : List (Nat × α)) (k : Nat) (x : α), x ∈ looks l k → (k, x) ∈ l
  | [], k, x, h => by simp [looks] at h
  | p :: r, k, x, h => by
    simp only [looks] at h
    cases hb : Nat.beq p.1 k with
    | true =>
      rw [hb] at h
      have hb := Nat.eq_of_beq_eq_true hb
      simp only [cond_true, List.mem_cons] at h
      rcases h with rfl | h
      · subst hb; simp
      · exact List.mem_cons_of_mem _ (looks_mem r k x h)
    | false =>
      rw [hb] at h
      exact List.mem_cons_of_mem _ (looks_mem r k x h)
theorem tyOK_of {P : Program} {X : Ctx} (h : allP (fun p => tiB P p.1 p.2) X.types) : TyOK P X := fun _ _ hl => tiB_ok (allP_mem h _ (look_mem _ _ _ hl))
theorem conOK_of {P : Program} {G : World → Prop} {X : Ctx} (h : allP (fun p => Sound P G p.1 p.2) X.con) : ConOK P G X := fun _ _ hl => allP_mem h _ (looks_mem _ _ _ hl)
theorem mconOK_of {P : Program} {n0 : Nat} {G : World → Prop} {X : Ctx} (h : allP (fun p => SoundM P n0 G p.1 p.2) X.mcon) : MConOK P n0 G X := fun _ _ hl => allP_mem h _ (look_mem _ _ _ hl)
theorem globOK_none {X : Ctx} (h : X.globals = []) (A : Fix) : GlobOK A X := fun w _ g p hp => by rw [h] at hp; simp [look] at hp
theorem stable_true : Stable 0 fun _ => True := ⟨fun _ _ => Nat.zero_le _, fun _ _ _ _ _ => trivial⟩
end
end Go.VI
