/- VI, part 6: what was read is put into a temporary; operations that only read. -/
import Derived.Test.YtlnfgikipeiaiaaViRead
namespace Go.VI
open Go.RowKit
def Holds (A : Fix) (X : Ctx) (Fr : Nat → Prop) (env : Env) (a : Act) (w : World) : Prop := ∃ γ, Core A X γ Fr env a w
theorem range_map_getD (us : List Value) (n : Nat) (h : us.length = n) : ((List.range n).map fun j => us.getD j undef) = us := by
  subst h
  apply List.ext_getElem?
  intro j
  by_cases hj : j < us.length
  · simp [hj, List.getD]
  · simp [hj]
def dstOk (X : Ctx) (o : Oper) : Prop := ∀ d, o.dst = some d → d < X.ntmps
section
variable {A : Fix} {X : Ctx} {γ : Gh} {Fr : Nat → Prop} {env : Env} {a : Act} {w w' : World}
theorem RelComps.lists : ∀ {l : List (Bool × List Cell)} {vs : List Value}, RelComps A γ w Fr l vs →
    ∃ uss : List (List Value), vs.length = l.length ∧ ∀ (i : Nat) (p : Bool × List Cell), l[i]? = some p → vs[i]? = some (mkVal p.1 (uss.getD i [])) ∧ (p.1 = false → p.2.length = 1) ∧ RelCs A γ w Fr p.2 (uss.getD i [])
  | [], vs, h => ⟨[], by rw [show vs = [] from h]; rfl, fun i p hp => by simp at hp⟩
  | q :: r, vs, ⟨v, vs', h1, ⟨us, h2, h3, h4⟩, h5⟩ => by
    obtain ⟨uss, k1, k2⟩ := RelComps.lists h5
    refine ⟨us :: uss, by rw [h1]; simp [k1], fun i p hp => ?_⟩
    cases i with
    | zero => simp at hp; subst hp; exact ⟨by rw [h1, h2]; rfl, h3, h4⟩
    | succ i => simp at hp; obtain ⟨e1, e2, e3⟩ := k2 i p hp; exact ⟨by rw [h1]; simpa using e1, e2, by simpa using e3⟩
theorem Core.putVal (h : Core A X γ Fr env a w) {d : Nat} (hd : d < X.ntmps) {g : Bool} {cs : List Cell} {v : Value} (hr : RelComp A γ w Fr g cs v) :
    Holds A X Fr ((.tmp d, .val g cs) :: env) (a.put (some d) v) w := by
  obtain ⟨us, hv, h1, hc⟩ := hr
  have hl := hc.length
  refine ⟨_, h.setTmpG hd (.val g cs) (fun i j => us.getD j undef) v γ.ψ (fun _ hh => hh) (fun _ _ _ => rfl) ?_ ?_ ?_⟩
  · intro γ' hφ
    refine ⟨?_, h1⟩
    rw [hv]
    congr 1
    rw [← range_map_getD us cs.length hl]
    simp [cellVals, hφ]
  · intro i j c hcj
    cases i with
    | succ i => simp [AV.cell?] at hcj
    | zero =>
      obtain ⟨u, hu, g1, g2, g3, _⟩ := hc.get (by simpa [AV.cell?] using hcj)
      have : us.getD j undef = u := by simp [List.getD, hu]
      simp only [this]
      exact ⟨g1, g2, g3⟩
  · intro i j e t ver l hcj
    cases i with
    | succ i => simp [AV.cell?] at hcj
    | zero =>
      obtain ⟨u, hu, _, _, _, g4⟩ := hc.get (by simpa [AV.cell?] using hcj)
      simp [Cell.isOwn] at g4
theorem Core.putTup (h : Core A X γ Fr env a w) {d : Nat} (hd : d < X.ntmps) {l : List (Bool × List Cell)} {vs : List Value} (hr : RelComps A γ w Fr l vs) :
    Holds A X Fr ((.tmp d, .tup l) :: env) (a.put (some d) (.tuple vs.toArray)) w := by
  obtain ⟨uss, hl, hc⟩ := hr.lists
  refine ⟨_, h.setTmpG hd (.tup l) (fun i j => (uss.getD i []).getD j undef) (.tuple vs.toArray) γ.ψ (fun _ hh => hh) (fun _ _ _ => rfl) ?_ ?_ ?_⟩
  · intro γ' hφ
    refine ⟨?_, fun p hp hg => ?_⟩
    · congr 2
      apply List.ext_getElem?
      intro i
      simp only [tupVals, List.getElem?_map, List.getElem?_zipIdx]
      cases hp : l[i]? with
      | none =>
        have : l.length ≤ i := by
          rcases Nat.lt_or_ge i l.length with hlt | hge
          · simp [List.getElem?_eq_getElem hlt] at hp
          · exact hge
        simp [List.getElem?_eq_none (show vs.length ≤ i by omega)]
      | some p =>
        obtain ⟨e1, _, e3⟩ := hc i p hp
        simp only [Option.map_some, e1]
        congr 2
        rw [← range_map_getD _ p.2.length e3.length]
        simp [cellVals, hφ]
    · obtain ⟨i, hi⟩ := List.mem_iff_getElem?.1 hp
      exact (hc i p hi).2.1 hg
  · intro i j c hcj
    simp only [AV.cell?, Option.bind_eq_some_iff] at hcj
    obtain ⟨p, hp, hpj⟩ := hcj
    obtain ⟨_, _, e3⟩ := hc i p hp
    obtain ⟨u, hu, g1, g2, g3, _⟩ := e3.get hpj
    have : (uss.getD i []).getD j undef = u := by
      rw [List.getD_eq_getElem?_getD (l := uss.getD i []), hu]; rfl
    simp only [this]
    exact ⟨g1, g2, g3⟩
  · intro i j e t ver l' hcj
    simp only [AV.cell?, Option.bind_eq_some_iff] at hcj
    obtain ⟨p, hp, hpj⟩ := hcj
    obtain ⟨_, _, e3⟩ := hc i p hp
    obtain ⟨u, hu, _, _, _, g4⟩ := e3.get hpj
    simp [Cell.isOwn] at g4
theorem Core.putSkip (h : Core A X γ Fr env a w) {d : Nat} (hd : d < X.ntmps) : Holds A X Fr ((.tmp d, .skip) :: env) (a.put (some d) undef) w := by
  refine ⟨_, h.setTmpG hd .skip (fun _ _ => undef) undef γ.ψ (fun _ hh => hh) (fun _ _ _ => rfl) (fun _ _ => rfl) ?_ ?_⟩
  · intro i j c hc; simp [AV.cell?] at hc
  · intro i j e t ver l hc; simp [AV.cell?] at hc
theorem Core.put (h : Core A X γ Fr env a w) {o : Oper} (hd : dstOk X o) {av : AV} {v : Value} (hr : RelR A γ w Fr av v) (hs : (∃ g cs, av = .val g cs) ∨ (∃ l, av = .tup l) ∨ av = .skip) :
    Holds A X Fr (appAll env (dstSet o av)) (a.put o.dst v) w := by
  unfold dstSet
  cases ho : o.dst with
  | none => exact ⟨γ, h⟩
  | some d =>
    have hd' := hd d ho
    rcases hs with ⟨g, cs, rfl⟩ | ⟨l, rfl⟩ | rfl
    · exact h.putVal hd' hr
    · obtain ⟨vs, rfl, hc⟩ := hr
      exact h.putTup hd' hc
    · rw [show v = undef from hr]
      exact h.putSkip hd'
theorem Core.putCell (h : Core A X γ Fr env a w) {o : Oper} (hd : dstOk X o) {c : Cell} {v : Value} (hr : GoodR A γ w Fr c v) :
    Holds A X Fr (appAll env (dstSet o (.val false [c]))) (a.put o.dst v) w :=
  h.put hd (av := .val false [c]) ⟨[v], rfl, fun _ => rfl, v, [], rfl, hr, rfl⟩ (.inl ⟨_, _, rfl⟩)
end
def OpOK (A : Fix) (X : Ctx) (Fr : Nat → Prop) (o : Oper) (us : List Upd) (env : Env) (a : Act) (w : World) : Prop :=
  ∀ (next : Act → World → Prop) (Q : Exit → Act → World → Prop), (∀ a' w', Holds A X Fr (appAll env us) a' w' → next a' w') → o.wp A.P a w next Q
theorem OpOK.value {A : Fix} {X : Ctx} {Fr : Nat → Prop} {o : Oper} {us : List Upd} {env : Env} {a : Act} {w w' : World} {v : Value}
    (hrun : (execOp a.eval o).run A.P w = .ok (.value v) w') (h : Holds A X Fr (appAll env us) (a.put o.dst v) w') : OpOK A X Fr o us env a w := by
  intro next Q hn
  unfold Oper.wp
  rw [hrun]
  exact hn _ _ h
theorem OpOK.skip {A : Fix} {X : Ctx} {Fr : Nat → Prop} {o : Oper} {us : List Upd} {env : Env} {a : Act} {w w' : World}
    (hrun : (execOp a.eval o).run A.P w = .ok .skip w') (h : Holds A X Fr (appAll env us) (a.put o.dst undef) w') : OpOK A X Fr o us env a w := by
  intro next Q hn
  unfold Oper.wp
  rw [hrun]
  exact hn _ _ h
section
variable {A : Fix} {X : Ctx} {γ : Gh} {Fr : Nat → Prop} {env : Env} {a : Act} {w w' : World} {o : Oper} {us : List Upd} {lg : List Slot} {vn : Nat}
theorem retOne_eval {e : Slot → AV} {c : Cell} {l0 : List Slot} (h : (retOne o c).eval e l0 = some (us, lg)) : us = dstSet o (.val false [c]) := by
  simp [retOne, Rd.eval] at h; exact h.1.symm
theorem good_int (k : IntKind) (n : Int) : GoodR A γ w Fr (.int k n) (.int k n) := ⟨rfl, rfl, by simp [refs], rfl⟩
theorem good_bool (b : Bool) : GoodR A γ w Fr (.bool b) (.bool b) := ⟨rfl, rfl, by simp [refs], rfl⟩
theorem good_str (s : List UInt8) : GoodR A γ w Fr (.str s) (.string ⟨s.toArray⟩) := ⟨rfl, rfl, by simp [refs], rfl⟩
theorem putAV_eval {e : Slot → AV} {av : AV} {l0 : List Slot} (h : (putAV o av).eval e l0 = some (us, lg)) : us = dstSet o av ∧ ((∃ g cs, av = .val g cs) ∨ (∃ l, av = .tup l) ∨ av = .skip) := by
  unfold putAV at h
  split at h
  · simp [Rd.eval] at h; exact ⟨h.1.symm, .inl ⟨_, _, rfl⟩⟩
  · simp [Rd.eval] at h; exact ⟨h.1.symm, .inr (.inl ⟨_, rfl⟩)⟩
  · simp [Rd.eval] at h; exact ⟨h.1.symm, .inr (.inr rfl)⟩
  · simp [Rd.eval] at h
theorem op_move (h : Core A X γ Fr env a w) (hd : dstOk X o) {x : Operand} (ho : o.op = .move x) (he : (opRd X vn o).eval env.get [] = some (us, lg)) : OpOK A X Fr o us env a w := by
  simp only [opRd, ho, Rd.eval_bind, Option.bind_eq_some_iff] at he
  obtain ⟨⟨av, l1⟩, h1, h2⟩ := he
  obtain ⟨rfl, hs⟩ := putAV_eval h2
  exact OpOK.value (by simp [execOp, ho]) (h.put hd (rdOp_sound h h1) hs)
theorem pickCell_good {t : Bool} {ca cb c : Cell} {va vb : Value} (h : pickCell t ca cb = some c) (ha : GoodR A γ w Fr ca va) (hb : GoodR A γ w Fr cb vb) : GoodR A γ w Fr c (if t then va else vb) := by
  unfold pickCell at h
  split at h
  · split at h
    · rename_i hk; subst hk
      injection h with h; subst h
      obtain ⟨rfl, _⟩ := ha; obtain ⟨rfl, _⟩ := hb
      cases t <;> exact good_int _ _
    · cases h
  · injection h with h; subst h
    obtain ⟨rfl, _⟩ := ha; obtain ⟨rfl, _⟩ := hb
    cases t <;> exact good_bool _
  · injection h with h; subst h
    obtain ⟨rfl, _⟩ := ha; obtain ⟨rfl, _⟩ := hb
    cases t <;> exact good_str _
  · cases h
theorem relR_one {c : Cell} {v : Value} (h : RelR A γ w Fr (.val false [c]) v) : GoodR A γ w Fr c v := by
  obtain ⟨us, hv, _, u, us', rfl, hg, hus⟩ := h
  simp only [mkVal, List.headD_cons] at hv
  rw [hv]; exact hg
theorem op_pick (h : Core A X γ Fr env a w) (hd : dstOk X o) {c x y : Operand} (ho : o.op = .pick c x y) (he : (opRd X vn o).eval env.get [] = some (us, lg)) : OpOK A X Fr o us env a w := by
  simp only [opRd, ho, Rd.eval_bind, Option.bind_eq_some_iff] at he
  obtain ⟨⟨t, l1⟩, h1, ⟨va, l2⟩, h2, ⟨vb, l3⟩, h3, h4⟩ := he
  have hb := rdBool_sound h h1
  have ra := rdOp_sound h h2
  have rb := rdOp_sound h h3
  have hrun : (execOp a.eval o).run A.P w = .ok (.value (if t then a.eval x else a.eval y)) w := by simp [execOp, ho, hb, asBool]
  refine OpOK.value hrun ?_
  have hbr : ∀ l, (Rd.br t (putAV o va) (putAV o vb)).eval env.get l = some (us, lg) → Holds A X Fr (appAll env us) (a.put o.dst (if t then a.eval x else a.eval y)) w := by
    intro l hh
    simp only [Rd.eval] at hh
    cases t
    · obtain ⟨rfl, hs⟩ := putAV_eval hh
      exact h.put hd rb hs
    · obtain ⟨rfl, hs⟩ := putAV_eval hh
      exact h.put hd ra hs
  simp only at h4
  split at h4
  · split at h4
    · rename_i hp
      rw [retOne_eval h4]
      exact h.putCell hd (pickCell_good hp (relR_one ra) (relR_one rb))
    · exact hbr _ h4
  · exact hbr _ h4
end
end Go.VI
