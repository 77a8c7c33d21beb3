/- VI, part 30: a statement's arguments, opened. -/
import Derived.Test.YtlnfgikipeiaiaaViOpen
namespace Go.VI
noncomputable section
open Go.RowKit

def isAggT (P : Program) (T : TypeId) : Bool :=
  match P.underlying T with
  | some (.struct _) | some (.array _ _) => true
  | _ => false

def dataAs (P : Program) (n : Nat) : List TypeId → List ATy → Bool
  | [], [] => true
  | T :: Ts, .data g t :: As => (g == isAggT P T) && hasTy P n T t && dataAs P n Ts As
  | _, _ => false

def WfA : (As : List ATy) → denA As → Prop
  | [], _ => True
  | .data _ t :: r, x => Wf t x.1 ∧ WfA r x.2
  | .ptr t :: r, x => Wf t x.1 ∧ WfA r x.2
  | .clo _ _ :: r, x => WfA r x.2
  | .lrow _ t _ :: r, x => Wf t x.1 ∧ WfA r x.2
  | .lptr t :: r, x => Wf t x.1 ∧ WfA r x.2

section
variable {H : Type} {enc : TypeId × Value → H} {P : Program} {w : World} {base base' : Nat} {spare : Nat → Bool} {held : Bool} {r : Reach}

theorem val_form {n : Nat} {T : TypeId} {t : Ty} {v : Value} (ht : hasTy P n T t = true) (hok : Value.okWide P w r base T v) : v = mkVal (isAggT P T) v.cells.toList ∧ (isAggT P T = false → v.cells.toList.length = 1) := by
  cases n with
  | zero => simp [hasTy] at ht
  | succ n =>
    have one : isAggT P T = false → Cell.okWide P w r base T v → v.cells = #[v] := by
      intro hg hc
      cases v <;> first | rfl | skip
      all_goals
        exfalso
        unfold Cell.okWide Cell.ok at hc
        simp only [hasTy] at ht
        cases hu : P.underlying T with
        | none => rw [hu] at hc; simp at hc
        | some d => rw [hu] at hc ht; cases d <;> simp_all
    unfold Value.okWide at hok
    cases hu : P.underlying T with
    | none => simp [hasTy, hu] at ht
    | some d =>
      rw [hu] at hok
      have hg : isAggT P T = match (some d : Option TypeDesc) with | some (.struct _) | some (.array _ _) => true | _ => false := by unfold isAggT; rw [hu]
      cases d
      case struct fs =>
        obtain ⟨cs, rfl, _, _⟩ := hok
        rw [hg]
        exact ⟨rfl, fun hh => by cases hh⟩
      case array m e =>
        obtain ⟨cs, rfl, _, _⟩ := hok
        rw [hg]
        exact ⟨rfl, fun hh => by cases hh⟩
      all_goals
        have hf : isAggT P T = false := hg
        have := one hf hok
        rw [this, hf]
        exact ⟨rfl, fun _ => rfl⟩

theorem open_args {G : World → Prop} {n : Nat} : ∀ (Ts : List TypeId) (As : List ATy) (vs : List Value) (ds : List (DataW H)) (ps : List MemPlace), dataAs P n Ts As = true → DataW.TrodAll enc P w base spare held Ts vs ds ps →
    (∀ (j : Nat) T v, Ts[j]? = some T → vs[j]? = some v → Value.okWide P w r base' T v) → ∃ xs : denA As, RelArgs P G (InW w) w As xs vs ∧ WfA As xs
  | [], [], vs, ds, ps, _, h, _ => by
    cases vs with
    | nil => exact ⟨(), rfl, trivial⟩
    | cons v vs => cases ds <;> exact h.elim
  | [], _ :: _, vs, ds, ps, hd, _, _ => by simp [dataAs] at hd
  | T :: Ts, [], vs, ds, ps, hd, _, _ => by simp [dataAs] at hd
  | T :: Ts, .ptr t :: As, vs, ds, ps, hd, _, _ => by simp [dataAs] at hd
  | T :: Ts, .clo a b :: As, vs, ds, ps, hd, _, _ => by simp [dataAs] at hd
  | T :: Ts, .lrow g t es :: As, vs, ds, ps, hd, _, _ => by simp [dataAs] at hd
  | T :: Ts, .lptr t :: As, vs, ds, ps, hd, _, _ => by simp [dataAs] at hd
  | T :: Ts, .data g t :: As, vs, ds, ps, hd, h, hok => by
    simp only [dataAs, Bool.and_eq_true, beq_iff_eq] at hd
    obtain ⟨⟨hg, ht⟩, hd⟩ := hd
    cases vs with
    | nil => cases ds <;> exact h.elim
    | cons v vs =>
      cases ds with
      | nil => exact h.elim
      | cons d ds =>
        obtain ⟨p, q, ⟨fuel, h1⟩, h2, _⟩ := h
        obtain ⟨x, hx, wx⟩ := trod_rep n fuel T t _ d p ht h1
        obtain ⟨xs, hxs, wxs⟩ := open_args (G := G) Ts As vs ds q hd h2 fun j T' v' hj hv => hok (j + 1) T' v' (by simpa using hj) (by simpa using hv)
        obtain ⟨e1, e2⟩ := val_form ht (hok 0 T v rfl rfl)
        subst hg
        exact ⟨(x, xs), ⟨v.cells.toList, vs, by rw [← e1], e2, hx, hxs⟩, wx, wxs⟩
end
end
end Go.VI
