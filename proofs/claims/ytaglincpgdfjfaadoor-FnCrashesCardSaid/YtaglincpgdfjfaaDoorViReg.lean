/- VI, part 23: regions. -/
import Derived.Test.YtaglincpgdfjfaaDoorViStep
namespace Go.VI
noncomputable section
open Go.RowKit

/-! ### Updates of one slot -/
theorem Upd.app_get (u : Upd) (env : Env) (s : Slot) (h : u.slot ≠ s) : (u.app env).get s = env.get s := by
  cases u with
  | set s' v => exact Env.get_cons_ne env v h
  | cell x c => rw [get_app_cell, if_neg (show ¬ x.s = s from h)]

theorem Upd.app_congr (u : Upd) {e e' : Env} (h : e.get = e'.get) : (u.app e).get = (u.app e').get := by
  funext s
  cases u with
  | set s' v => simp only [Upd.app, Env.get_cons, h]
  | cell x c => simp only [get_app_cell, h]

theorem appAll_congr : ∀ (us : List Upd) {e e' : Env}, e.get = e'.get → (appAll e us).get = (appAll e' us).get
  | [], _, _, h => h
  | u :: r, _, _, h => appAll_congr r (u.app_congr h)

theorem appAll_get : ∀ (us : List Upd) (env : Env) (s : Slot), (∀ u ∈ us, u.slot ≠ s) → (appAll env us).get s = env.get s
  | [], _, _, _ => rfl
  | u :: r, env, s, h => by
    rw [appAll, appAll_get r _ s fun v hv => h v (by simp [hv]), u.app_get env s (h u (by simp))]

theorem app_get_local (u : Upd) {e e' : Env} {s : Slot} (h : e.get s = e'.get s) : (u.app e).get s = (u.app e').get s := by
  cases u with
  | set s' v => simp only [Upd.app, Env.get_cons, h]
  | cell x c => simp only [get_app_cell, h]

theorem appAll_local : ∀ (us : List Upd) {e e' : Env} {s : Slot}, e.get s = e'.get s → (appAll e us).get s = (appAll e' us).get s
  | [], _, _, _, h => h
  | u :: r, _, _, _, h => appAll_local r (app_get_local u h)

theorem appAll_comm (us vs : List Upd) (e : Env) (h : ∀ u ∈ us, ∀ v ∈ vs, u.slot ≠ v.slot) : (appAll (appAll e us) vs).get = (appAll (appAll e vs) us).get := by
  funext s
  by_cases hs : ∃ u ∈ us, u.slot = s
  · obtain ⟨u, hu, rfl⟩ := hs
    have hv : ∀ v ∈ vs, v.slot ≠ u.slot := fun v hv e => h u hu v hv e.symm
    rw [appAll_get vs _ _ hv]
    exact appAll_local us (appAll_get vs e _ hv).symm
  · have hu : ∀ u ∈ us, u.slot ≠ s := fun u hu e => hs ⟨u, hu, e⟩
    rw [appAll_get us (appAll e vs) s hu]
    exact appAll_local vs (appAll_get us e s hu)

/-! ### Traces -/
structure Rec where
  i : Nat
  us : List Upd
  lg : List Slot

def Indep (p q : Rec) : Prop :=
  (∀ u ∈ p.us, ∀ s ∈ q.lg, u.slot ≠ s) ∧ (∀ u ∈ q.us, ∀ s ∈ p.lg, u.slot ≠ s) ∧ ∀ u ∈ p.us, ∀ v ∈ q.us, u.slot ≠ v.slot

def Tr (S : Nat → Rd (List Upd)) : Env → List Rec → Env → Prop
  | e, [], e' => e.get = e'.get
  | e, r :: rs, e' => (S r.i).eval e.get [] = some (r.us, r.lg) ∧ Tr S (appAll e r.us) rs e'

theorem Tr.congr {S : Nat → Rd (List Upd)} : ∀ (rs : List Rec) {e e1 e' : Env}, e.get = e1.get → Tr S e rs e' → Tr S e1 rs e'
  | [], _, _, _, h, ht => h.symm.trans ht
  | r :: rs, _, _, _, h, ht => ⟨by rw [← h]; exact ht.1, Tr.congr rs (appAll_congr r.us h) ht.2⟩

theorem Tr.swap {S : Nat → Rd (List Upd)} {e e' : Env} {p q : Rec} {rs : List Rec} (h : Tr S e (p :: q :: rs) e') (hi : Indep p q) : Tr S e (q :: p :: rs) e' := by
  obtain ⟨h1, h2, h3⟩ := h
  refine ⟨Rd.eval_local _ _ _ _ _ _ h2 fun s hs => (appAll_get p.us e s fun u hu => hi.1 u hu s hs).symm, Rd.eval_local _ _ _ _ _ _ h1 fun s hs => appAll_get q.us e s fun u hu => hi.2.1 u hu s hs, ?_⟩
  exact Tr.congr rs (appAll_comm p.us q.us e hi.2.2) h3

theorem Tr.front {S : Nat → Rd (List Upd)} {r : Rec} {post : List Rec} {e' : Env} : ∀ (pre : List Rec) {e : Env}, Tr S e (pre ++ r :: post) e' → (∀ p ∈ pre, Indep p r) → Tr S e (r :: (pre ++ post)) e'
  | [], _, h, _ => h
  | p :: pre, _, h, hi => by
    have ih := Tr.front pre h.2 fun q hq => hi q (by simp [hq])
    exact Tr.swap (rs := pre ++ post) ⟨h.1, ih⟩ (hi p (by simp))

/-! ### From the run to a trace -/
theorem memSlot_iff (s : Slot) (l : List Slot) : memSlot s l = true ↔ s ∈ l := by
  induction l with
  | nil => simp [memSlot]
  | cons x r ih =>
    simp only [memSlot, Bool.or_eq_true, Slot.beq_iff, ih, List.mem_cons]
    exact ⟨fun h => h.imp Eq.symm id, fun h => h.imp Eq.symm id⟩

theorem apart_iff (xs ys : List Slot) : apart xs ys = true ↔ ∀ x ∈ xs, ∀ y ∈ ys, x ≠ y := by
  simp only [apart, List.all_eq_true, Bool.not_eq_true']
  constructor
  · intro h x hx y hy e
    have := h x hx
    rw [e, (memSlot_iff y ys).2 hy] at this
    cases this
  · intro h x hx
    cases hm : memSlot x ys with
    | false => rfl
    | true => exact absurd rfl (h x hx x ((memSlot_iff x ys).1 hm))

theorem footOk_get {ws : Nat} {f : Foot} : ∀ {n : Nat} {fs : List Foot}, footOk ws f n fs = true → ∀ k g, fs[k]? = some g → ws.testBit (n + k) = true ∨ (apart f.w g.r = true ∧ apart f.w g.w = true ∧ apart f.r g.w = true)
  | n, [], _, k, g, hg => by simp at hg
  | n, g0 :: r, h, k, g, hg => by
    simp only [footOk, Bool.and_eq_true, Bool.or_eq_true] at h
    cases k with
    | zero =>
      simp at hg
      subst hg
      rcases h.1 with hb | hb
      · exact .inl (by simpa using hb)
      · exact .inr ⟨hb.1.1, hb.1.2, hb.2⟩
    | succ k =>
      have := footOk_get h.2 k g (by simpa using hg)
      rwa [show n + 1 + k = n + (k + 1) by omega] at this

def waitsList : List Oper → List Nat → List Nat
  | [], bs => bs
  | o :: r, bs => waitsList r (bs ++ [waitsOf bs o])

theorem waitsList_pre : ∀ (os : List Oper) (bs : List Nat) (i : Nat), i < bs.length → (waitsList os bs)[i]? = bs[i]?
  | [], _, _, _ => rfl
  | o :: r, bs, i, h => by rw [waitsList, waitsList_pre r _ i (by simp; omega), List.getElem?_append_left h]

section
variable {X : Ctx} {all : List Oper} {vn : Nat} {draw : Bool}

/-- The steps of a region. -/
def stepsOf (X : Ctx) (all : List Oper) (vn : Nat) (i : Nat) : Rd (List Upd) :=
  match all[i]? with
  | some o => stepRd X all (vn + i) o
  | none => .fail

structure Done (W : List Nat) (done : List Rec) (feet : List Foot) : Prop where
  len : done.length = feet.length
  foot : ∀ k (r : Rec) (f : Foot), done[k]? = some r → feet[k]? = some f → r.i = k ∧ (∀ s ∈ r.lg, s ∈ f.r) ∧ ∀ u ∈ r.us, u.slot ∈ f.w
  pw : done.Pairwise fun p q => (W.getD q.i 0).testBit p.i = true ∨ Indep p q

theorem runOps_trace {ρ : Type} : ∀ (os : List Oper) (st : RegSt) (env : Env) (K : Env → Option ρ) (out : ρ) (done : List Rec) (pre : List Oper), all = pre ++ os → st.waits.length = pre.length →
    (draw = true → st.feet.length = pre.length ∧ Done (waitsList os st.waits) done st.feet) →
    runOps X draw all vn os st env K = some out →
    ∃ recs env', Tr (stepsOf X all vn) env recs env' ∧ K env' = some out ∧ (∀ k r, recs[k]? = some r → r.i = pre.length + k) ∧ recs.length = os.length ∧
      (draw = true → (∀ j o, os[j]? = some o → edgesOk (pre.length + j) o = true) ∧ (done ++ recs).Pairwise fun p q => ((waitsList os st.waits).getD q.i 0).testBit p.i = true ∨ Indep p q)
  | [], st, env, K, out, done, pre, hall, hw, hd, h => by
    refine ⟨[], env, rfl, h, by simp, rfl, fun hdr => ⟨by simp, ?_⟩⟩
    rw [List.append_nil]
    exact (hd hdr).2.pw
  | o :: r, st, env, K, out, done, pre, hall, hw, hd, h => by
    have hio : all[pre.length]? = some o := by rw [hall]; simp
    -- one operation behind us
    have go : ∀ (env1 : Env) (wanted : Bool) (g : List Slot), env1.get = env.get →
        (∀ us lg, (opStep X (vn + st.waits.length) o wanted).eval env.get g = some (us, lg) → (stepRd X all (vn + st.waits.length) o).eval env.get [] = some (us, lg)) →
        ((opStep X (vn + st.waits.length) o wanted).cps env1.get g fun us lg =>
          bif draw then
            let f : Foot := ⟨g ++ lg, us.map Upd.slot⟩
            let ws := waitsOf st.waits o
            bif footOk ws f 0 st.feet && edgesOk st.waits.length o then runOps X draw all vn r ⟨st.feet ++ [f], st.waits ++ [ws]⟩ (appAll env1 us) K else none
          else runOps X draw all vn r ⟨[], st.waits ++ [0]⟩ (appAll env1 us) K) = some out →
        ∃ recs env', Tr (stepsOf X all vn) env recs env' ∧ K env' = some out ∧ (∀ k r, recs[k]? = some r → r.i = pre.length + k) ∧ recs.length = (o :: r).length ∧
          (draw = true → (∀ j o', (o :: r)[j]? = some o' → edgesOk (pre.length + j) o' = true) ∧ (done ++ recs).Pairwise fun p q => ((waitsList (o :: r) st.waits).getD q.i 0).testBit p.i = true ∨ Indep p q) := by
      intro env1 wanted g henv hst hh
      obtain ⟨us, lg, hev, hK⟩ := Rd.cps_some _ _ _ _ _ hh
      rw [henv] at hev
      have hS := hst us lg hev
      have hSt : (stepsOf X all vn pre.length).eval env.get [] = some (us, lg) := by
        unfold stepsOf
        rw [hio]
        simp only
        rw [← hw]; exact hS
      cases hdr : draw with
      | false =>
        rw [hdr] at hK
        simp only [cond_false] at hK
        obtain ⟨recs, env', k1, k2, k3, k4, _⟩ := runOps_trace r ⟨[], st.waits ++ [0]⟩ (appAll env1 us) K out [] (pre ++ [o]) (by rw [hall]; simp) (by simp [hw]) (by rw [hdr]; simp) (by rw [hdr]; exact hK)
        refine ⟨⟨pre.length, us, lg⟩ :: recs, env', ⟨hSt, Tr.congr recs (appAll_congr us henv) k1⟩, k2, fun k rc hk => ?_, by simp [k4], by simp⟩
        cases k with
        | zero => simp at hk; subst hk; rfl
        | succ k => have := k3 k rc (by simpa using hk); rw [this]; simp; omega
      | true =>
        rw [hdr] at hK
        simp only [cond_true] at hK
        obtain ⟨hfl, hdone⟩ := hd hdr
        cases hf : (footOk (waitsOf st.waits o) ⟨g ++ lg, us.map Upd.slot⟩ 0 st.feet && edgesOk st.waits.length o) with
        | false => rw [hf] at hK; simp at hK
        | true =>
          rw [hf] at hK
          simp only [cond_true] at hK
          simp only [Bool.and_eq_true] at hf
          have hW : (waitsList (o :: r) st.waits).getD pre.length 0 = waitsOf st.waits o := by
            rw [List.getD_eq_getElem?_getD, waitsList, waitsList_pre r _ _ (by simp [hw])]
            simp [← hw]
          have hdone' : Done (waitsList r (st.waits ++ [waitsOf st.waits o])) (done ++ [⟨pre.length, us, lg⟩]) (st.feet ++ [⟨g ++ lg, us.map Upd.slot⟩]) := by
            refine ⟨by simp [hdone.len], fun k rc f hk hkf => ?_, ?_⟩
            · by_cases hlt : k < done.length
              · rw [List.getElem?_append_left hlt] at hk
                rw [List.getElem?_append_left (by rw [← hdone.len]; exact hlt)] at hkf
                exact hdone.foot k rc f hk hkf
              · have hkeq : k = done.length := by
                  have := (List.getElem?_eq_some_iff.1 hk).1
                  simp at this; omega
                subst hkeq
                simp at hk
                rw [hdone.len] at hkf
                simp at hkf
                subst hk; subst hkf
                refine ⟨by rw [hdone.len, hfl], fun s hs => by simp [hs], fun u hu => List.mem_map_of_mem hu⟩
            · rw [List.pairwise_append]
              refine ⟨hdone.pw, by simp, fun p hp q hq => ?_⟩
              simp at hq
              subst hq
              obtain ⟨k, hk⟩ := List.mem_iff_getElem?.1 hp
              have hlt : k < st.feet.length := by rw [← hdone.len]; exact (List.getElem?_eq_some_iff.1 hk).1
              obtain ⟨e1, e2, e3⟩ := hdone.foot k p _ hk (List.getElem?_eq_getElem hlt)
              rcases footOk_get hf.1 k _ (List.getElem?_eq_getElem hlt) with hb | ⟨a1, a2, a3⟩
              · left
                have : (waitsList r (st.waits ++ [waitsOf st.waits o])).getD pre.length 0 = waitsOf st.waits o := hW
                rw [this, e1]
                simpa using hb
              · right
                rw [apart_iff] at a1 a2 a3
                refine ⟨fun u hu s hs e => a3 s (by simp [hs]) _ (e3 u hu) e.symm, fun u hu s hs e => a1 _ (List.mem_map_of_mem hu) s (e2 s hs) e, fun u hu v hv e => a2 _ (List.mem_map_of_mem hv) _ (e3 u hu) e.symm⟩
          obtain ⟨recs, env', k1, k2, k3, k4, k5⟩ := runOps_trace r ⟨st.feet ++ [⟨g ++ lg, us.map Upd.slot⟩], st.waits ++ [waitsOf st.waits o]⟩ (appAll env1 us) K out (done ++ [⟨pre.length, us, lg⟩]) (pre ++ [o]) (by rw [hall]; simp) (by simp [hw])
            (fun _ => ⟨by simp [hfl], hdone'⟩) (by rw [hdr]; exact hK)
          obtain ⟨k6, k7⟩ := k5 hdr
          refine ⟨⟨pre.length, us, lg⟩ :: recs, env', ⟨hSt, Tr.congr recs (appAll_congr us henv) k1⟩, k2, fun k rc hk => ?_, by simp [k4], fun _ => ⟨fun j o' hj => ?_, ?_⟩⟩
          · cases k with
            | zero => simp at hk; subst hk; rfl
            | succ k => have := k3 k rc (by simpa using hk); rw [this]; simp; omega
          · cases j with
            | zero => simp at hj; subst hj; rw [← hw]; exact hf.2
            | succ j =>
              have := k6 j o' (by simpa using hj)
              simp only [List.length_append, List.length_cons, List.length_nil] at this
              rwa [show pre.length + (0 + 1) + j = pre.length + (j + 1) by omega] at this
          · have e : done ++ [⟨pre.length, us, lg⟩] ++ recs = done ++ ⟨pre.length, us, lg⟩ :: recs := by simp
            rw [e] at k7
            exact k7
    unfold runOps at h
    simp only [forceSlots_eq, forceNat_eq] at h
    split at h
    · cases h
    · rename_i hg
      refine go env true [] rfl (fun us lg hev => ?_) h
      unfold stepRd; rw [hg]; exact hev
    · rename_i d want hg
      split at h
      · rename_i hsk
        refine go env false [.tmp d] rfl (fun us lg hev => ?_) h
        unfold stepRd; rw [hg]; simp only [Rd.eval, hsk]; exact hev
      · rename_i b hb
        have hlit : ∀ t : Bool, b = t → Env.get ((.tmp d, .val false [.bool t]) :: env) = env.get := by
          intro t ht
          funext s
          rw [Env.get_cons]
          split
          · rename_i hs; rw [← hs, hb, ht]
          · rfl
        cases b with
        | true =>
          simp only [cond_true] at h
          refine go _ want [.tmp d] (hlit true rfl) (fun us lg hev => ?_) h
          unfold stepRd; rw [hg]; simp only [Rd.eval, hb, cond_true]; exact hev
        | false =>
          simp only [cond_false] at h
          refine go _ (!want) [.tmp d] (hlit false rfl) (fun us lg hev => ?_) h
          unfold stepRd; rw [hg]; simp only [Rd.eval, hb, cond_false]; exact hev
      · cases h
end
end
end Go.VI
