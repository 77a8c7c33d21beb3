/- VI, part 23: regions. -/
import Derived.Test.YtlnfgikipeiaiaaViStep
namespace Go.VI
noncomputable section
open Go.RowKit
theorem Upd.app_get (u : Upd) (env : Env) (s : Slot) (h : u.slot ≠ s) : (u.app env).get s = env.get s := by
  cases u with
  | set s' v => exact Env.get_cons_ne env v h
  | cell x c => rw [get_app_cell, if_neg (show ¬ x.s = s from h)]
theorem Upd.app_congr (u : Upd) {e e' : Env} (h : e.get = e'.get) : (u.app e).get = (u.app e').get := by
  funext s
  cases u with
  | set s' v => simp only [Upd.app, Env.get_cons, h]
  | cell x c => simp only [get_app_cell, h]
theorem appAll_congr : ∀ (us : List Upd) {e e' : Env}, e.get = e'.get → (appAll e us).get = (appAll e' us).get
  | [], _, _, h => h
  | u :: r, _, _, h => appAll_congr r (u.app_congr h)
theorem appAll_get : ∀ (us : List Upd) (env : Env) (s : Slot), (∀ u ∈ us, u.slot ≠ s) → (appAll env us).get s = env.get s
  | [], _, _, _ => rfl
  | u :: r, env, s, h => by
    rw [appAll, appAll_get r _ s fun v hv => h v (by simp [hv]), u.app_get env s (h u (by simp))]
theorem app_get_local (u : Upd) {e e' : Env} {s : Slot} (h : e.get s = e'.get s) : (u.app e).get s = (u.app e').get s := by
  cases u with
  | set s' v => simp only [Upd.app, Env.get_cons, h]
  | cell x c => simp only [get_app_cell, h]
theorem appAll_local : ∀ (us : List Upd) {e e' : Env} {s : Slot}, e.get s = e'.get s → (appAll e us).get s = (appAll e' us).get s
  | [], _, _, _, h => h
  | u :: r, _, _, _, h => appAll_local r (app_get_local u h)
theorem appAll_comm (us vs : List Upd) (e : Env) (h : ∀ u ∈ us, ∀ v ∈ vs, u.slot ≠ v.slot) : (appAll (appAll e us) vs).get = (appAll (appAll e vs) us).get := by
  funext s
  by_cases hs : ∃ u ∈ us, u.slot = s
  · obtain ⟨u, hu, rfl⟩ := hs
    have hv : ∀ v ∈ vs, v.slot ≠ u.slot := fun v hv e => h u hu v hv e.symm
    rw [appAll_get vs _ _ hv]
    exact appAll_local us (appAll_get vs e _ hv).symm
  · have hu : ∀ u ∈ us, u.slot ≠ s := fun u hu e => hs ⟨u, hu, e⟩
    rw [appAll_get us (appAll e vs) s hu]
    exact appAll_local vs (appAll_get us e s hu)
structure Rec where
  i : Nat
  us : List Upd
  lg : List Slot
def Indep (p q : Rec) : Prop :=
  (∀ u ∈ p.us, ∀ s ∈ q.lg, u.slot ≠ s) ∧ (∀ u ∈ q.us, ∀ s ∈ p.lg, u.slot ≠ s) ∧ ∀ u ∈ p.us, ∀ v ∈ q.us, u.slot ≠ v.slot
def Tr (S : Nat → Rd (List Upd)) : Env → List Rec → Env → Prop
  | e, [], e' => e.get = e'.get
  | e, r :: rs, e' => (S r.i).eval e.get [] = some (r.us, r.lg) ∧ Tr S (appAll e r.us) rs e'
theorem Tr.congr {S : Nat → Rd (List Upd)} : ∀ (rs : List Rec) {e e1 e' : Env}, e.get = e1.get → Tr S e rs e' → Tr S e1 rs e'
  | [], _, _, _, h, ht => h.symm.trans ht
  | r :: rs, _, _, _, h, ht => ⟨by rw [← h]; exact ht.1, Tr.congr rs (appAll_congr r.us h) ht.2⟩
theorem Tr.swap {S : Nat → Rd (List Upd)} {e e' : Env} {p q : Rec} {rs : List Rec} (h : Tr S e (p :: q :: rs) e') (hi : Indep p q) : Tr S e (q :: p :: rs) e' := by
  obtain ⟨h1, h2, h3⟩ := h
  refine ⟨Rd.eval_local _ _ _ _ _ _ h2 fun s hs => (appAll_get p.us e s fun u hu => hi.1 u hu s hs).symm, Rd.eval_local _ _ _ _ _ _ h1 fun s hs => appAll_get q.us e s fun u hu => hi.2.1 u hu s hs, ?_⟩
  exact Tr.congr rs (appAll_comm p.us q.us e hi.2.2) h3
theorem Tr.front {S : Nat → Rd (List Upd)} {r : Rec} {post : List Rec} {e' : Env} : ∀ (pre : List Rec) {e : Env}, Tr S e (pre ++ r :: post) e' → (∀ p ∈ pre, Indep p r) → Tr S e (r :: (pre ++ post)) e'
  | [], _, h, _ => h
  | p :: pre, _, h, hi => by
    have ih := Tr.front pre h.2 fun q hq => hi q (by simp [hq])
    exact Tr.swap (rs := pre ++ post) ⟨h.1, ih⟩ (hi p (by simp))
theorem memSlot_iff (s : Slot) (l : List Slot) : memSlot s l = true ↔ s ∈ l := by
  induction l with
  | nil => simp [memSlot]
  | cons x r ih =>
    simp only [memSlot, Bool.or_eq_true, Slot.beq_iff, ih, List.mem_cons]
    exact ⟨fun h => h.imp Eq.symm id, fun h => h.imp Eq.symm id⟩
theorem apart_iff (xs ys : List Slot) : apart xs ys = true ↔ ∀ x ∈ xs, ∀ y ∈ ys, x ≠ y := by
  simp only [apart, List.all_eq_true, Bool.not_eq_true']
  constructor
  · intro h x hx y hy e
    have := h x hx
    rw [e, (memSlot_iff y ys).2 hy] at this
    cases this
  · intro h x hx
    cases hm : memSlot x ys with
    | false => rfl
    | true => exact absurd rfl (h x hx x ((memSlot_iff x ys).1 hm))
theorem footOk_get {ws : Nat} {f : Foot} : ∀ {n : Nat} {fs : List Foot}, footOk ws f n fs = true → ∀ k g, fs[k]? = some g → ws.testBit (n + k) = true ∨ (apart f.w g.r = true ∧ apart f.w g.w = true ∧ apart f.r g.w = true)
  | n, [], _, k, g, hg => by simp at hg
  | n, g0 :: r, h, k, g, hg => by
    simp only [footOk, Bool.and_eq_true, Bool.or_eq_true] at h
    cases k with
    | zero =>
      simp at hg
      subst hg
      rcases h.1 with hb | hb
      · exact .inl (by simpa using hb)
      · exact .inr ⟨hb.1.1, hb.1.2, hb.2⟩
    | succ k =>
      have := footOk_get h.2 k g (by simpa using hg)
      rwa [show n + 1 + k = n + (k + 1) by omega] at this
def waitsList : List Oper → List Nat → List Nat
  | [], bs => bs
  | o :: r, bs => waitsList r (bs ++ [waitsOf bs o])
theorem waitsList_pre : ∀ (os : List Oper) (bs : List Nat) (i : Nat), i < bs.length → (waitsList os bs)[i]? = bs[i]?
  | [], _, _, _ => rfl
  | o :: r, bs, i, h => by rw [waitsList, waitsList_pre r _ i (by simp; omega), List.getElem?_append_left h]
section
variable {X : Ctx} {all : List Oper} {vn : Nat} {draw : Bool}
def stepsOf (X : Ctx) (all : List Oper) (vn : Nat) (i : Nat) : Rd (List Upd) :=
  match all[i]? with
  | some o => stepRd X all (vn + i) o
  | none => .fail
structure Done (W : List Nat) (done : List Rec) (feet : List Foot) : Prop where
  len : done.length = feet.length
  foot : ∀ k (r : Rec) (f : Foot), done[k]? = some r → feet[k]? = some f → r.i = k ∧ (∀ s ∈ r.lg, s ∈ f.r) ∧ ∀ u ∈ r.us, u.slot ∈ f.w
  pw : done.Pairwise fun p q => (W.getD q.i 0).testBit p.i = true ∨ Indep p q
theorem runOps_trace {ρ : Type} : ∀ (os : List Oper) (st : RegSt) (env : Env) (K : Env → Option ρ) (out : ρ) (done : List Rec) (pre : List Oper), all = pre ++ os → st.waits.length = pre.length →
    (draw = true → st.feet.length = pre.length ∧ Done (waitsList os st.waits) done st.feet) →
    runOps X draw all vn os st env K = some out →
    ∃ recs env', Tr (stepsOf X all vn) env recs env' ∧ K env' = some out ∧ (∀ k r, recs[k]? = some r → r.i = pre.length + k) ∧ recs.length = os.length ∧
      (draw = true → (∀ j o, os[j]? = some o → edgesOk (pre.length + j) o = true) ∧ (done ++ recs).Pairwise fun p q => ((waitsList os st.waits).getD q.i 0).testBit p.i = true ∨ Indep p q)
  | [], st, env, K, out, done, pre, hall, hw, hd, h => by
    refine ⟨[], env, rfl, h, by simp, rfl, fun hdr => ⟨by simp, ?_⟩⟩
    rw [List.append_nil]
    exact (hd hdr).2.pw
  | o :: r, st, env, K, out, done, pre, hall, hw, hd, h => by
    have hio : all[pre.length]? = some o := by rw [hall]; simp
    have go : ∀ (env1 : Env) (wanted : Bool) (g : List Slot), env1.get = env.get →
        (∀ us lg, (opStep X (vn + st.waits.length) o wanted).eval env.get g = some (us, lg) → (stepRd X all (vn + st.waits.length) o).eval env.get [] = some (us, lg)) →
        ((opStep X (vn + st.waits.length) o wanted).cps env1.get g fun us lg =>
          bif draw then
            let f : Foot := ⟨g ++ lg, us.map Upd.slot⟩
            let ws := waitsOf st.waits o
            bif footOk ws f 0 st.feet && edgesOk st.waits.length o then runOps X draw all vn r ⟨st.feet ++ [f], st.waits ++ [ws]⟩ (appAll env1 us) K else none
          else runOps X draw all vn r ⟨[], st.waits ++ [0]⟩ (appAll env1 us) K) = some out →
        ∃ recs env', Tr (stepsOf X all vn) env recs env' ∧ K env' = some out ∧ (∀ k r, recs[k]? = some r → r.i = pre.length + k) ∧ recs.length = (o :: r).length ∧
          (draw = true → (∀ j o', (o :: r)[j]? = some o' → edgesOk (pre.length + j) o' = true) ∧ (done ++ recs).Pairwise fun p q => ((waitsList (o :: r) st.waits).getD q.i 0).testBit p.i = true ∨ Indep p q) := by
      intro env1 wanted g henv hst hh
      obtain ⟨us, lg, hev, hK⟩ := Rd.cps_some _ _ _ _ _ hh
      rw [henv] at hev
      have hS := hst us lg hev
      have hSt : (stepsOf X all vn pre.length).eval env.get [] = some (us, lg) := by
        unfold stepsOf
        rw [hio]
        simp only
        rw [← hw]; exact hS
      cases hdr : draw with
      | false =>
        rw [hdr] at hK
        simp only [cond_false] at hK
        obtain ⟨recs, env', k1, k2, k3, k4, _⟩ := runOps_trace r ⟨[], st.waits ++ [0]⟩ (appAll env1 us) K out [] (pre ++ [o]) (by rw [hall]; simp) (by simp [hw]) (by rw [hdr]; simp) (by rw [hdr]; exact hK)
        refine ⟨⟨pre.length, us, lg⟩ :: recs, env', ⟨hSt, Tr.congr recs (appAll_congr us henv) k1⟩, k2, fun k rc hk => ?_, by simp [k4], by simp⟩
        cases k with
        | zero => simp at hk; subst hk; rfl
        | succ k => have := k3 k rc (by simpa using hk); rw [this]; simp; omega
      | true =>
        rw [hdr] at hK
        simp only [cond_true] at hK
        obtain ⟨hfl, hdone⟩ := hd hdr
        cases hf : (footOk (waitsOf st.waits o) ⟨g ++ lg, us.map Upd.slot⟩ 0 st.feet && edgesOk st.waits.length o) with
        | false => rw [hf] at hK; simp at hK
        | true =>
          rw [hf] at hK
          simp only [cond_true] at hK
          simp only [Bool.and_eq_true] at hf
          have hW : (waitsList (o :: r) st.waits).getD pre.length 0 = waitsOf st.waits o := by
            rw [List.getD_eq_getElem?_getD, waitsList, waitsList_pre r _ _ (by simp [hw])]
            simp [← hw]
          have hdone' : Done (waitsList r (st.waits ++ [waitsOf st.waits o])) (done ++ [⟨pre.length, us, lg⟩]) (st.feet ++ [⟨g ++ lg, us.map Upd.slot⟩]) := by
            refine ⟨by simp [hdone.len], fun k rc f hk hkf => ?_, ?_⟩
            · by_cases hlt : k < done.length
              · rw [List.getElem?_append_left hlt] at hk
                rw [List.getElem?_append_left (by rw [← hdone.len]; exact hlt)] at hkf
                exact hdone.foot k rc f hk hkf
              · have hkeq : k = done.length := by
                  have := (List.getElem?_eq_some_iff.1 hk).1
                  simp at this; omega
                subst hkeq
                simp at hk
                rw [hdone.len] at hkf
                simp at hkf
                subst hk; subst hkf
                refine ⟨by rw [hdone.len, hfl], fun s hs => by simp [hs], fun u hu => List.mem_map_of_mem hu⟩
            · rw [List.pairwise_append]
              refine ⟨hdone.pw, by simp, fun p hp q hq => ?_⟩
              simp at hq
              subst hq
              obtain ⟨k, hk⟩ := List.mem_iff_getElem?.1 hp
              have hlt : k < st.feet.length := by rw [← hdone.len]; exact (List.getElem?_eq_some_iff.1 hk).1
              obtain ⟨e1, e2, e3⟩ := hdone.foot k p _ hk (List.getElem?_eq_getElem hlt)
              rcases footOk_get hf.1 k _ (List.getElem?_eq_getElem hlt) with hb | ⟨a1, a2, a3⟩
              · left
                have : (waitsList r (st.waits ++ [waitsOf st.waits o])).getD pre.length 0 = waitsOf st.waits o := hW
                rw [this, e1]
                simpa using hb
              · right
                rw [apart_iff] at a1 a2 a3
                refine ⟨fun u hu s hs e => a3 s (by simp [hs]) _ (e3 u hu) e.symm, fun u hu s hs e => a1 _ (List.mem_map_of_mem hu) s (e2 s hs) e, fun u hu v hv e => a2 _ (List.mem_map_of_mem hv) _ (e3 u hu) e.symm⟩
          obtain ⟨recs, env', k1, k2, k3, k4, k5⟩ := runOps_trace r ⟨st.feet ++ [⟨g ++ lg, us.map Upd.slot⟩], st.waits ++ [waitsOf st.waits o]⟩ (appAll env1 us) K out (done ++ [⟨pre.length, us, lg⟩]) (pre ++ [o]) (by rw [hall]; simp) (by simp [hw])
            (fun _ => ⟨by simp [hfl], hdone'⟩) (by rw [hdr]; exact hK)
          obtain ⟨k6, k7⟩ := k5 hdr
          refine ⟨⟨pre.length, us, lg⟩ :: recs, env', ⟨hSt, Tr.congr recs (appAll_congr us henv) k1⟩, k2, fun k rc hk => ?_, by simp [k4], fun _ => ⟨fun j o' hj => ?_, ?_⟩⟩
          · cases k with
            | zero => simp at hk; subst hk; rfl
            | succ k => have := k3 k rc (by simpa using hk); rw [this]; simp; omega
          · cases j with
            | zero => simp at hj; subst hj; rw [← hw]; exact hf.2
            | succ j =>
              have := k6 j o' (by simpa using hj)
              simp only [List.length_append, List.length_cons, List.length_nil] at this
              rwa [show pre.length + (0 + 1) + j = pre.length + (j + 1) by omega] at this
          · have e : done ++ [⟨pre.length, us, lg⟩] ++ recs = done ++ ⟨pre.length, us, lg⟩ :: recs := by simp
            rw [e] at k7
            exact k7
    unfold runOps at h
    simp only [forceSlots_eq, forceNat_eq] at h
    split at h
    · cases h
    · rename_i hg
      refine go env true [] rfl (fun us lg hev => ?_) h
      unfold stepRd; rw [hg]; exact hev
    · rename_i d want hg
      split at h
      · rename_i hsk
        refine go env false [.tmp d] rfl (fun us lg hev => ?_) h
        unfold stepRd; rw [hg]; simp only [Rd.eval, hsk]; exact hev
      · rename_i b hb
        have hlit : ∀ t : Bool, b = t → Env.get ((.tmp d, .val false [.bool t]) :: env) = env.get := by
          intro t ht
          funext s
          rw [Env.get_cons]
          split
          · rename_i hs; rw [← hs, hb, ht]
          · rfl
        cases b with
        | true =>
          simp only [cond_true] at h
          refine go _ want [.tmp d] (hlit true rfl) (fun us lg hev => ?_) h
          unfold stepRd; rw [hg]; simp only [Rd.eval, hb, cond_true]; exact hev
        | false =>
          simp only [cond_false] at h
          refine go _ (!want) [.tmp d] (hlit false rfl) (fun us lg hev => ?_) h
          unfold stepRd; rw [hg]; simp only [Rd.eval, hb, cond_false]; exact hev
      · cases h
end
end
end Go.VI
/- VI, part 24: regions: every order. -/
namespace Go.VI
noncomputable section
open Go.RowKit
theorem waits_fold (bs : List Nat) (k : Nat) : ∀ (es : List Edge) (s : Nat), (es.foldl (fun s e => if Region.binds .any e then s ||| 2 ^ e.on ||| bs.getD e.on 0 else s) s).testBit k = true →
    s.testBit k = true ∨ ∃ e ∈ es, Region.binds .any e = true ∧ (k = e.on ∨ (bs.getD e.on 0).testBit k = true)
  | [], s, h => .inl h
  | e :: r, s, h => by
    rw [List.foldl_cons] at h
    rcases waits_fold bs k r _ h with h1 | ⟨e', he', hh⟩
    · by_cases hb : Region.binds .any e = true
      · rw [if_pos hb] at h1
        simp only [Nat.testBit_or, Bool.or_eq_true, Nat.testBit_two_pow, decide_eq_true_eq] at h1
        rcases h1 with (h1 | h1) | h1
        · exact .inl h1
        · exact .inr ⟨e, by simp, hb, .inl h1.symm⟩
        · exact .inr ⟨e, by simp, hb, .inr h1⟩
      · rw [if_neg hb] at h1; exact .inl h1
    · exact .inr ⟨e', by simp [he'], hh⟩
theorem waitsList_get : ∀ (os : List Oper) (bs : List Nat) (j : Nat) (o : Oper), os[j]? = some o → (waitsList os bs)[bs.length + j]? = some (waitsOf ((waitsList os bs).take (bs.length + j)) o)
  | [], bs, j, o, h => by simp at h
  | o' :: r, bs, 0, o, h => by
    simp at h
    subst h
    rw [waitsList, Nat.add_zero, waitsList_pre r _ _ (by simp)]
    have : (waitsList r (bs ++ [waitsOf bs o'])).take bs.length = bs := by
      apply List.ext_getElem?
      intro i
      rw [List.getElem?_take]
      split
      · rename_i hi
        rw [waitsList_pre r _ _ (by simp; omega), List.getElem?_append_left hi]
      · rename_i hi
        rw [List.getElem?_eq_none (by omega)]
    rw [this]; simp
  | o' :: r, bs, j + 1, o, h => by
    have := waitsList_get r (bs ++ [waitsOf bs o']) j o (by simpa using h)
    simp only [List.length_append, List.length_cons, List.length_nil] at this
    rw [waitsList, show bs.length + (j + 1) = bs.length + (0 + 1) + j by omega]
    exact this
section
variable {A : Fix} {X : Ctx} {γ : Gh} {Fr : Nat → Prop} {env env' : Env} {a : Act} {w w' : World} {vn n : Nat} {ops : Array Oper} {Q : Exit → Act → World → Prop}
def FrOf (vn n : Nat) (recs : List Rec) : Nat → Prop := fun v => (∃ r ∈ recs, v = vn + r.i) ∨ vn + n ≤ v
theorem Holds.fr {Fr' : Nat → Prop} (h : Holds A X Fr env a w) (hf : ∀ v, Fr' v → Fr v) : Holds A X Fr' env a w :=
  let ⟨γ, hc⟩ := h; ⟨γ, hc.fr hf⟩
theorem Holds.ext (h : Holds A X Fr env a w) (he : env'.get = env.get) : Holds A X Fr env' a w :=
  let ⟨γ, hc⟩ := h; ⟨γ, hc.ext fun s => by rw [he]⟩
theorem rec_step (K : Known A X) {r : Rec} {pre post : List Rec} {o : Oper} (h : Holds A X (FrOf vn n (pre ++ r :: post)) env a w) (hoi : ops[r.i]? = some o) (hs : (stepsOf X ops.toList vn r.i).eval env.get [] = some (r.us, r.lg))
    (hlt : r.i < n) (hne : ∀ p ∈ pre ++ post, p.i ≠ r.i) {N : Act → World → Prop} (hn : ∀ a' w', Holds A X (FrOf vn n (pre ++ post)) (appAll env r.us) a' w' → N a' w') : wpOp A.P ops Q r.i N a w := by
  obtain ⟨γ, hc⟩ := h
  have hs' : (stepRd X ops.toList (vn + r.i) o).eval env.get [] = some (r.us, r.lg) := by
    unfold stepsOf at hs
    have : ops.toList[r.i]? = some o := by simpa using hoi
    rw [this] at hs
    exact hs
  refine step_sound hc K (.inl ⟨r, by simp, rfl⟩) hoi hs' fun a' w' hh => hn a' w' (hh.fr ?_)
  rintro v (⟨p, hp, rfl⟩ | hv)
  · refine ⟨.inl ⟨p, ?_, rfl⟩, fun e => hne p hp (by omega)⟩
    rcases List.mem_append.1 hp with hp | hp
    · simp [hp]
    · simp [hp]
  · exact ⟨.inr hv, by omega⟩
theorem wpOps_trace (K : Known A X) : ∀ (recs : List Rec) (k : Nat) (env : Env) (a : Act) (w : World), Tr (stepsOf X ops.toList vn) env recs env' → (∀ j r, recs[j]? = some r → r.i = k + j) → k + recs.length = n → n = ops.size →
    Holds A X (FrOf vn n recs) env a w → (∀ a' w', Holds A X (fun v => vn + n ≤ v) env' a' w' → Q .normal a' w') → wpOps A.P ops Q (List.range' k recs.length) a w
  | [], k, env, a, w, ht, hi, hk, hn, h, hQ => by
    refine hQ a w ((h.ext (show env'.get = env.get from (show env.get = env'.get from ht).symm)).fr fun v hv => .inr hv)
  | r :: rs, k, env, a, w, ht, hi, hk, hn, h, hQ => by
    have hri : r.i = k := by simpa using hi 0 r rfl
    have hlt : k < ops.size := by simp only [List.length_cons] at hk; omega
    rw [List.length_cons, List.range'_succ, wpOps_cons]
    rw [← hri]
    refine rec_step (n := n) (pre := []) (post := rs) K h (o := ops[k]) (by rw [hri]; exact Array.getElem?_eq_getElem hlt) ht.1 (by omega) (fun p hp => ?_) fun a' w' hh => ?_
    · obtain ⟨j, hj⟩ := List.mem_iff_getElem?.1 (by simpa using hp)
      have := hi (j + 1) p (by simpa using hj)
      omega
    · rw [hri]
      exact wpOps_trace K rs (k + 1) _ a' w' ht.2 (fun j p hj => by have := hi (j + 1) p (by simpa using hj); omega) (by simp only [List.length_cons] at hk; omega) hn hh hQ
theorem wpAny_trace (K : Known A X) (W : List Nat) (hn : n = ops.size)
    (hW : ∀ i o k, ops[i]? = some o → (W.getD i 0).testBit k = true → ∃ e ∈ o.after, Region.binds .any e = true ∧ e.on < i ∧ (k = e.on ∨ (W.getD e.on 0).testBit k = true))
    (hE : ∀ (i : Nat) (o : Oper), ops[i]? = some o → ∀ e ∈ o.after, Region.binds .any e = true → e.on < i) (hQ : ∀ a' w', Holds A X (fun v => vn + n ≤ v) env' a' w' → Q .normal a' w') :
    ∀ (m : Nat) (recs : List Rec) (listed : Array Bool) (env : Env) (a : Act) (w : World), recs.length = m → Tr (stepsOf X ops.toList vn) env recs env' →
    recs.Pairwise (fun p q => (W.getD q.i 0).testBit p.i = true ∨ Indep p q) → recs.Pairwise (fun p q => p.i < q.i) → (∀ r ∈ recs, r.i < n) → listed.size = n →
    (∀ k, k < n → (listed.getD k true = false ↔ ∃ r ∈ recs, r.i = k)) → (∀ j k, j < n → listed.getD j true = true → (W.getD j 0).testBit k = true → k < n ∧ listed.getD k true = true) →
    Holds A X (FrOf vn n recs) env a w → wpAny A.P .any ops Q m listed a w := by
  have ready_iff : ∀ (listed : Array Bool) (i : Nat), i ∈ Region.ready .any ops listed → ∃ o, ops[i]? = some o ∧ i < n ∧ listed.getD i true = false ∧ ∀ e ∈ o.after, Region.binds .any e = true → listed.getD e.on false = true := by
    intro listed i hi
    simp only [Region.ready, List.mem_filter, List.mem_range, Bool.and_eq_true, Bool.not_eq_true'] at hi
    obtain ⟨h1, h2, h3⟩ := hi
    have ho : ops[i]? = some ops[i] := Array.getElem?_eq_getElem h1
    rw [ho] at h3
    simp only [Option.map_some, Option.getD_some, Array.all_eq_true_iff_forall_mem, Bool.or_eq_true, Bool.not_eq_true'] at h3
    refine ⟨ops[i], ho, by omega, h2, fun e he hb => ?_⟩
    rcases h3 e he with h3 | h3
    · rw [hb] at h3; cases h3
    · exact h3
  intro m
  induction m with
  | zero =>
    intro recs listed env a w hl ht _ _ _ hsz hun _ h
    have hnil : recs = [] := List.eq_nil_of_length_eq_zero hl
    subst hnil
    refine ⟨?_, hQ a w ((h.ext (show env'.get = env.get from (show env.get = env'.get from ht).symm)).fr fun v hv => .inr hv)⟩
    rw [List.eq_nil_iff_forall_not_mem]
    intro i hi
    obtain ⟨o, _, h2, h3, _⟩ := ready_iff listed i hi
    obtain ⟨r, hr, _⟩ := (hun i h2).1 h3
    cases hr
  | succ m ih =>
    intro recs listed env a w hl ht hpw hso hlt hsz hun hcl h
    refine ⟨fun hemp => ?_, fun i hi => ?_⟩
    · exfalso
      cases recs with
      | nil => simp at hl
      | cons r rs =>
        have hri := hlt r (by simp)
        have hrs : r.i < ops.size := by omega
        have : r.i ∈ Region.ready .any ops listed := by
          simp only [Region.ready, List.mem_filter, List.mem_range, Bool.and_eq_true, Bool.not_eq_true']
          refine ⟨hrs, (hun r.i hri).2 ⟨r, by simp, rfl⟩, ?_⟩
          have ho : ops[r.i]? = some ops[r.i] := Array.getElem?_eq_getElem hrs
          rw [ho]
          simp only [Option.map_some, Option.getD_some, Array.all_eq_true_iff_forall_mem, Bool.or_eq_true, Bool.not_eq_true']
          intro e he
          cases hbe : Region.binds .any e with
          | false => exact .inl rfl
          | true =>
          right
          have hel := hE r.i _ ho e he hbe
          have hen : e.on < n := by omega
          cases hle : listed.getD e.on true with
          | true =>
            have : e.on < listed.size := by omega
            simp [Array.getD_eq_getD_getElem?, this] at hle ⊢
            exact hle
          | false =>
            obtain ⟨p, hp, hpi⟩ := (hun e.on hen).1 hle
            rcases List.mem_cons.1 hp with rfl | hp
            · omega
            · have := (List.pairwise_cons.1 hso).1 p hp
              omega
        rw [hemp] at this
        cases this
    · obtain ⟨o, ho, hin, hul, hedge⟩ := ready_iff listed i hi
      obtain ⟨r, hr, hri⟩ := (hun i hin).1 hul
      obtain ⟨pre, post, rfl⟩ := List.append_of_mem hr
      have edge_listed : ∀ e ∈ o.after, Region.binds .any e = true → listed.getD e.on true = true := by
        intro e he hb
        have := hedge e he hb
        have hel : e.on < listed.size := by have := hE i o ho e he hb; omega
        simp [Array.getD_eq_getD_getElem?, hel] at this ⊢
        exact this
      have hwl : ∀ k, (W.getD i 0).testBit k = true → k < n ∧ listed.getD k true = true := by
        intro k hk
        obtain ⟨e, he, hb, hlt', hor⟩ := hW i o k ho hk
        rcases hor with rfl | hor
        · exact ⟨by omega, edge_listed e he hb⟩
        · exact hcl e.on k (by omega) (edge_listed e he hb) hor
      have hind : ∀ p ∈ pre, Indep p r := by
        intro p hp
        rcases (List.pairwise_append.1 hpw).2.2 p hp r (by simp) with hb | hind
        · rw [hri] at hb
          have h1 := (hwl _ hb).2
          have h2 := (hun p.i (hlt p (by simp [hp]))).2 ⟨p, by simp [hp], rfl⟩
          rw [h1] at h2; cases h2
        · exact hind
      have hf := Tr.front pre ht hind
      have hne : ∀ p ∈ pre ++ post, p.i ≠ r.i := by
        intro p hp
        rcases List.mem_append.1 hp with hp | hp
        · have := (List.pairwise_append.1 hso).2.2 p hp r (by simp); omega
        · have := (List.pairwise_cons.1 (List.pairwise_append.1 hso).2.1).1 p hp; omega
      have sub : List.Sublist (pre ++ post) (pre ++ r :: post) := (List.Sublist.refl pre).append (List.sublist_cons_self r post)
      rw [← hri]
      refine rec_step (n := n) K h (by rw [hri]; exact ho) hf.1 (by omega) hne fun a' w' hh => ?_
      refine ih (pre ++ post) _ _ a' w' (by simp only [List.length_append, List.length_cons] at hl ⊢; omega) hf.2 (hpw.sublist sub) (hso.sublist sub) (fun p hp => hlt p (sub.subset hp)) (by simp [hsz]) ?_ ?_ hh
      · intro k hk
        have hg : (listed.setIfInBounds r.i true).getD k true = if r.i = k then true else listed.getD k true := by
          have hks : k < listed.size := by omega
          by_cases hk2 : r.i = k
          · subst hk2; simp [Array.getD_eq_getD_getElem?, hks]
          · simp [Array.getD_eq_getD_getElem?, hk2]
        rw [hg]
        by_cases hk' : r.i = k
        · simp only [hk', if_true]
          constructor
          · intro hh; cases hh
          · rintro ⟨p, hp, hpk⟩
            exact absurd (hpk.trans hk'.symm) (hne p hp)
        · simp only [hk', if_false]
          rw [hun k hk]
          constructor
          · rintro ⟨p, hp, hpk⟩
            refine ⟨p, ?_, hpk⟩
            simp only [List.mem_append, List.mem_cons] at hp ⊢
            rcases hp with hp | rfl | hp
            · exact .inl hp
            · exact absurd hpk hk'
            · exact .inr hp
          · rintro ⟨p, hp, hpk⟩
            exact ⟨p, sub.subset hp, hpk⟩
      · intro j k hj hlj hb
        have hg : ∀ k, k < n → (listed.setIfInBounds r.i true).getD k true = if r.i = k then true else listed.getD k true := by
          intro k hk
          have hks : k < listed.size := by omega
          by_cases hk2 : r.i = k
          · subst hk2; simp [Array.getD_eq_getD_getElem?, hks]
          · simp [Array.getD_eq_getD_getElem?, hk2]
        have key : k < n ∧ listed.getD k true = true := by
          by_cases hjr : r.i = j
          · exact hwl k (by rw [← hri, hjr]; exact hb)
          · rw [hg j hj, if_neg hjr] at hlj
            exact hcl j k hj hlj hb
        refine ⟨key.1, ?_⟩
        rw [hg k key.1]
        split
        · rfl
        · exact key.2
theorem region_sound {ρ : Type} (K : Known A X) (hm : A.P.follows .mixedOrders = true) {id : Nat} {draw : Bool} {K0 : Env → Option ρ} {out : ρ} (h : Holds A X (fun v => vn ≤ v) env a w)
    (hr : runOps X draw ops.toList vn ops.toList ⟨[], []⟩ env K0 = some out)
    (hQ : ∀ env' a' w', K0 env' = some out → Holds A X (fun v => vn + ops.size ≤ v) env' a' w' → Q .normal a' w') : (Code.region id ops draw).wp A.P Q a w := by
  obtain ⟨recs, env', ht, hK, hi, hlen, hdraw⟩ := runOps_trace (draw := draw) ops.toList ⟨[], []⟩ env K0 out [] [] rfl rfl (fun _ => ⟨rfl, rfl, by simp, List.Pairwise.nil⟩) hr
  simp only [List.length_nil, Nat.zero_add, Array.length_toList] at hi hlen
  have h0 : ∀ {v : Nat}, FrOf vn ops.size recs v → vn ≤ v := by
    rintro v (⟨r, _, rfl⟩ | hv) <;> omega
  cases draw with
  | false =>
    refine wp_region ?_
    rw [List.range_eq_range', ← hlen]
    exact wpOps_trace K recs 0 env a w ht (fun j r hj => by rw [hi j r hj]; omega) (by omega) hlen (h.fr fun v hv => h0 (by rw [← hlen]; exact hv)) fun a' w' hh => hQ env' a' w' hK (by rw [← hlen]; exact hh)
  | true =>
    obtain ⟨hedge, hpw⟩ := hdraw rfl
    have hget : ∀ i o, ops[i]? = some o → ops.toList[i]? = some o := fun i o ho => by rw [Array.getElem?_toList]; exact ho
    have hw' : Holds A X (FrOf vn ops.size recs) env a { w with drawn := w.drawn + 1 } := by
      obtain ⟨γ, hc⟩ := h
      have hb : Below w.heap.size w { w with drawn := w.drawn + 1 } := ⟨rfl, rfl, rfl, Nat.le_refl _, fun _ _ => rfl, Nat.le_succ _⟩
      exact ⟨γ, ((hc.world (w' := { w with drawn := w.drawn + 1 }) (row := none) ⟨rfl, rfl, rfl, Nat.le_refl _, fun _ _ _ => rfl, Nat.le_succ _⟩ (fun g hg => by cases hg) (K.stable.below hc.glob hb))).fr fun v hv => h0 hv⟩
    refine wp_region_any hm (wpAny_trace K (waitsList ops.toList []) rfl ?_ ?_ (fun a' w' hh => hQ env' a' w' hK hh) ops.size recs _ env a _ hlen ht ?_ ?_ ?_ (by simp) ?_ ?_ hw')
    · intro i o k ho hb
      have hWi := waitsList_get ops.toList [] i o (hget i o ho)
      simp only [List.length_nil, Nat.zero_add] at hWi
      rw [List.getD_eq_getElem?_getD, hWi, Option.getD_some] at hb
      rcases waits_fold _ k _ 0 hb with hb | ⟨e, he, hbi, hor⟩
      · simp at hb
      · have hel : e.on < i := by
          have := hedge i o (hget i o ho)
          simp only [edgesOk, List.all_eq_true, List.length_nil, Nat.zero_add] at this
          have := this e he
          rw [hbi] at this
          exact (by simpa using this)
        refine ⟨e, by simpa using he, hbi, hel, hor.imp (fun h => h) fun hh => ?_⟩
        rw [List.getD_eq_getElem?_getD, List.getElem?_take, if_pos hel] at hh
        rw [List.getD_eq_getElem?_getD]; exact hh
    · intro i o ho e he hbe
      have := hedge i o (hget i o ho)
      simp only [edgesOk, List.all_eq_true, List.length_nil, Nat.zero_add] at this
      have := this e (by simpa using he)
      rw [hbe] at this
      exact (by simpa using this)
    · simpa using hpw
    · rw [List.pairwise_iff_getElem]
      intro i j hi' hj' hij
      rw [hi i _ (List.getElem?_eq_getElem hi'), hi j _ (List.getElem?_eq_getElem hj')]
      exact hij
    · intro r hr'
      obtain ⟨k, hk⟩ := List.mem_iff_getElem?.1 hr'
      rw [hi k r hk, ← hlen]
      exact (List.getElem?_eq_some_iff.1 hk).1
    · intro k hk
      have : (Array.replicate ops.size false).getD k true = false := by simp [Array.getD_eq_getD_getElem?, hk]
      simp only [this, true_iff]
      have hk' : k < recs.length := by omega
      exact ⟨recs[k], List.getElem_mem hk', hi k _ (List.getElem?_eq_getElem hk')⟩
    · intro j k hj hl
      have : (Array.replicate ops.size false).getD j true = false := by simp [Array.getD_eq_getD_getElem?, hj]
      rw [this] at hl; cases hl
end
end
end Go.VI
