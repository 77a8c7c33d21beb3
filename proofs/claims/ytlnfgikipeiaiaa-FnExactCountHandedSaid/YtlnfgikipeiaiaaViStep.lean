/- VI, part 22: one operation, whichever. -/
import Derived.Test.YtlnfgikipeiaiaaViClo
import Derived.Orders
namespace Go.VI
open Go.RowKit
theorem Rd.eval_log {α : Type} (env : Slot → AV) : ∀ (m : Rd α) (lg : List Slot), m.eval env lg = (m.eval env []).map fun p => (p.1, p.2 ++ lg)
  | .pure a, lg => rfl
  | .opt _ o k, lg => by
    simp only [Rd.eval]
    cases o with
    | none => rfl
    | some x => simp only [Option.bind_some]; exact Rd.eval_log env (k x) lg
  | .get s k, lg => by
    simp only [Rd.eval]
    rw [Rd.eval_log env (k (env s)) (s :: lg), Rd.eval_log env (k (env s)) [s]]
    simp [Option.map_map, Function.comp_def]
  | .guard b k, lg => by
    simp only [Rd.eval]
    cases b
    · rfl
    · exact Rd.eval_log env k lg
  | .br b k1 k2, lg => by
    simp only [Rd.eval]
    cases b
    · exact Rd.eval_log env k2 lg
    · exact Rd.eval_log env k1 lg
  | .fail, lg => rfl
theorem Rd.eval_local {α : Type} (e e' : Slot → AV) : ∀ (m : Rd α) (lg : List Slot) (x : α) (lg' : List Slot), m.eval e lg = some (x, lg') → (∀ s ∈ lg', e' s = e s) → m.eval e' lg = some (x, lg')
  | .pure a, lg, x, lg', h, _ => h
  | .opt _ o k, lg, x, lg', h, hl => by
    simp only [Rd.eval, Option.bind_eq_some_iff] at h ⊢
    obtain ⟨y, rfl, h⟩ := h
    exact ⟨y, rfl, Rd.eval_local e e' (k y) lg x lg' h hl⟩
  | .get s k, lg, x, lg', h, hl => by
    simp only [Rd.eval] at h ⊢
    have hs : s ∈ lg' := by
      rw [Rd.eval_log] at h
      simp only [Option.map_eq_some_iff, Prod.mk.injEq] at h
      obtain ⟨p, _, _, rfl⟩ := h
      simp
    rw [hl s hs]
    exact Rd.eval_local e e' (k (e s)) (s :: lg) x lg' h hl
  | .guard b k, lg, x, lg', h, hl => by
    simp only [Rd.eval] at h ⊢
    cases b
    · cases h
    · exact Rd.eval_local e e' k lg x lg' h hl
  | .br b k1 k2, lg, x, lg', h, hl => by
    simp only [Rd.eval] at h ⊢
    cases b
    · exact Rd.eval_local e e' k2 lg x lg' h hl
    · exact Rd.eval_local e e' k1 lg x lg' h hl
  | .fail, lg, x, lg', h, _ => by cases h
structure Known (A : Fix) (X : Ctx) : Prop where
  stable : Stable A.n0 A.G
  g0 : BaseOK A
  types : TyOK A.P X
  globals : GlobOK A X
  con : ConOK A.P A.G X
  mcon : MConOK A.P A.n0 A.G X
section
variable {A : Fix} {X : Ctx} {γ : Gh} {Fr : Nat → Prop} {env : Env} {a : Act} {w w' : World} {vn : Nat} {o : Oper} {us : List Upd} {lg : List Slot}
theorem op_builtin (h : Core A X γ Fr env a w) (K : Known A X) (hv : Fr vn) (hd : dstOk X o) {c : Call} {b : Builtin} (ho : o.op = .call c) (hc : c.callee = .builtin b) (he : (opRd X vn o).eval env.get [] = some (us, lg)) :
    OpOK A X (FrD Fr vn) o us env a w := by
  have he0 := he
  simp only [opRd, ho, hc] at he
  unfold builtinRd at he
  split at he
  · rename_i h1 h2
    exact (op_len h K.types hd ho hc h1 h2 he0).weaken vn
  · rename_i h1 h2
    exact op_append h K.stable K.g0 K.types hv hd ho hc h1 h2 he0
  · rename_i h1
    exact (op_max h hd ho hc h1 he0).weaken vn
  · rename_i h1
    exact (op_min h hd ho hc h1 he0).weaken vn
  · simp [Rd.eval] at he
theorem opRd_sound (h : Core A X γ Fr env a w) (K : Known A X) (hv : Fr vn) (hd : dstOk X o) (he : (opRd X vn o).eval env.get [] = some (us, lg)) : OpOK A X (FrD Fr vn) o us env a w := by
  cases ho : o.op with
  | move x => exact (op_move h hd ho he).weaken vn
  | assign x => exact op_assign h hv hd ho he
  | pick c x y => exact (op_pick h hd ho he).weaken vn
  | alloc T => exact op_alloc h K.stable K.types hv hd ho he
  | box T x => exact op_box h K.stable hv hd ho he
  | load T x => exact (op_load h K.globals K.types hd ho he).weaken vn
  | store T x y => exact op_store h K.stable K.g0 K.types hv ho he
  | nilCheck x => exact (op_nilCheck h hd ho he).weaken vn
  | build T ps => exact (op_build h K.types hd ho he).weaken vn
  | buildSlice T n ps => exact op_buildSlice h K.stable K.types hv hd ho he
  | makeSlice T n m => exact op_makeSlice h K.stable K.types hv hd ho he
  | binOp op T x y T' => exact (op_binOp h K.types hd ho he).weaken vn
  | unOp op T x => exact (op_unOp h hd ho he).weaken vn
  | convert S D x => exact op_convert h K.stable K.types hv hd ho he
  | slice T x lo hi mx => exact (op_slice h K.types hd ho he).weaken vn
  | fieldAddr T x f => exact (op_fieldAddr h K.types hd ho he).weaken vn
  | field T x f => exact (op_field h K.types hd ho he).weaken vn
  | indexAddr T x ix => exact (op_indexAddr h K.types hd ho he).weaken vn
  | index T x ix => exact (op_index h K.types hd ho he).weaken vn
  | extract x i => exact (op_extract h hd ho he).weaken vn
  | call c =>
    cases hc : c.callee with
    | builtin b => exact op_builtin h K hv hd ho hc he
    | value x =>
      cases x with
      | func f => exact op_callf h K.stable K.g0 K.con K.mcon hv hd ho hc he
      | tmp t => exact op_callv h K.stable K.con hv hd ho hc (by intro f hh; cases hh) he
      | const k => exact op_callv h K.stable K.con hv hd ho hc (by intro f hh; cases hh) he
      | global g => exact op_callv h K.stable K.con hv hd ho hc (by intro f hh; cases hh) he
    | invoke r n => simp [opRd, ho, hc, Rd.eval] at he
  | makeFunc fn first caps => exact (op_makeFunc h K.con hd ho he).weaken vn
  | _ => simp [opRd, ho, Rd.eval] at he
theorem step_sound {ops : Array Oper} {i : Nat} (h : Core A X γ Fr env a w) (K : Known A X) (hv : Fr vn) (hoi : ops[i]? = some o) (he : (stepRd X ops.toList vn o).eval env.get [] = some (us, lg))
    {Q : Exit → Act → World → Prop} {N : Act → World → Prop} (hn : ∀ a' w', Holds A X (FrD Fr vn) (appAll env us) a' w' → N a' w') : wpOp A.P ops Q i N a w := by
  unfold wpOp
  rw [hoi]
  simp only
  have stp : ∀ (t : Bool) (l0 : List Slot) (l1 : List Slot), (opStep X vn o t).eval env.get l0 = some (us, l1) → Region.wanted o (yielded ops a.tmps) = t →
      (if Region.wanted o (yielded ops a.tmps) = true then o.wp A.P a w N Q ∨ (o.asks A.P a w ∧ LetsOut Q) else N (a.put o.dst undef) w) := by
    intro t l0 l1 hs hw
    rw [hw]
    simp only [opStep, Rd.eval] at hs
    cases hd0 : dstB X o with
    | false => rw [hd0] at hs; simp at hs
    | true =>
      rw [hd0] at hs
      simp only [cond_true] at hs
      have hd : dstOk X o := by
        intro d hdd
        simp only [dstB, hdd] at hd0
        exact Nat.le_of_ble_eq_true hd0
      cases t with
      | true =>
        simp only [cond_true] at hs
        rw [Rd.eval_log] at hs
        simp only [Option.map_eq_some_iff, Prod.mk.injEq] at hs
        obtain ⟨⟨us', l2⟩, hs, rfl, _⟩ := hs
        exact Or.inl (opRd_sound h K hv hd hs N Q hn)
      | false =>
        simp only [cond_false, Rd.eval, Option.some.injEq, Prod.mk.injEq] at hs
        obtain ⟨rfl, _⟩ := hs
        simp only [Bool.false_eq_true, if_false]
        refine hn _ _ ((h.put hd (av := .skip) (v := undef) rfl (.inr (.inr rfl))).weaken vn)
  unfold stepRd at he
  split at he
  · simp [Rd.eval] at he
  · rename_i hg
    refine stp true _ _ he ?_
    unfold guardTmp at hg
    unfold Region.wanted
    split at hg
    · rename_i hgg; rw [hgg]
    · split at hg <;> cases hg
  · rename_i d want hg
    simp only [Rd.eval] at he
    unfold guardTmp at hg
    split at hg
    · cases hg
    · rename_i j want' hgg
      split at hg
      · rename_i d' hdj
        simp only [Option.some.injEq, Prod.mk.injEq] at hg
        obtain ⟨rfl, rfl⟩ := hg
        have hdj' : (ops[j]?).bind (·.dst) = some d' := by simpa using hdj
        have hr := h.asRead d'
        have hwant : Region.wanted o (yielded ops a.tmps) = (yielded ops a.tmps j == some want') := by unfold Region.wanted; rw [hgg]
        have hy : yielded ops a.tmps j = match a.tmps[d']? with | some (.bool b) => some b | _ => none := by
          unfold yielded
          rw [hdj']
          rfl
        split at he
        · rename_i hsk
          rw [hsk] at hr
          have hr : a.tmps.getD d' undef = undef := hr
          refine stp false _ _ he ?_
          rw [hwant, hy]
          cases ht : a.tmps[d']? with
          | none => rfl
          | some v =>
            rw [Array.getD_eq_getD_getElem?, ht] at hr
            have hr : v = undef := hr
            subst hr
            rfl
        · rename_i b hb
          rw [hb] at hr
          have hr := (relR_one hr).1
          have hr : a.tmps.getD d' undef = .bool b := hr
          refine stp _ _ _ he ?_
          rw [hwant, hy]
          cases ht : a.tmps[d']? with
          | none =>
            rw [Array.getD_eq_getD_getElem?, ht] at hr
            cases hr
          | some v =>
            rw [Array.getD_eq_getD_getElem?, ht] at hr
            have hr : v = .bool b := hr
            subst hr
            cases b <;> cases want' <;> rfl
        · simp [Rd.eval] at he
      · cases hg
end
end Go.VI
