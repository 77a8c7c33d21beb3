/- VI, part 23: regions. -/
import Derived.Test.YtdejhienahdoiaaGreatViM3
namespace Go.VI
noncomputable section
open Go.RowKit
theorem Upd.app_get (u : Upd) (env : Env) (s : Slot) (h : u.slot ≠ s) : (u.app env).get s = env.get s := by
  cases u with
  | set s' v => exact Env.get_cons_ne env v h
  | cell x c => rw [get_app_cell, if_neg (show ¬ x.s = s from h)]
theorem Upd.app_congr (u : Upd) {e e' : Env} (h : e.get = e'.get) : (u.app e).get = (u.app e').get := by
  funext s
  cases u with
  | set s' v => simp only [Upd.app, Env.get_cons, h]
  | cell x c => simp only [get_app_cell, h]
theorem appAll_congr : ∀ (us : List Upd) {e e' : Env}, e.get = e'.get → (appAll e us).get = (appAll e' us).get
  | [], _, _, h => h
  | u :: r, _, _, h => appAll_congr r (u.app_congr h)
theorem appAll_get : ∀ (us : List Upd) (env : Env) (s : Slot), (∀ u ∈ us, u.slot ≠ s) → (appAll env us).get s = env.get s
  | [], _, _, _ => rfl
  | u :: r, env, s, h => by
    rw [appAll, appAll_get r _ s fun v hv => h v (by simp [hv]), u.app_get env s (h u (by simp))]
theorem app_get_local (u : Upd) {e e' : Env} {s : Slot} (h : e.get s = e'.get s) : (u.app e).get s = (u.app e').get s := by
  cases u with
  | set s' v => simp only [Upd.app, Env.get_cons, h]
  | cell x c => simp only [get_app_cell, h]
theorem appAll_local : ∀ (us : List Upd) {e e' : Env} {s : Slot}, e.get s = e'.get s → (appAll e us).get s = (appAll e' us).get s
  | [], _, _, _, h => h
  | u :: r, _, _, _, h => appAll_local r (app_get_local u h)
theorem appAll_comm (us vs : List Upd) (e : Env) (h : ∀ u ∈ us, ∀ v ∈ vs, u.slot ≠ v.slot) : (appAll (appAll e us) vs).get = (appAll (appAll e vs) us).get := by
  funext s
  by_cases hs : ∃ u ∈ us, u.slot = s
  · obtain ⟨u, hu, rfl⟩ := hs
    have hv : ∀ v ∈ vs, v.slot ≠ u.slot := fun v hv e => h u hu v hv e.symm
    rw [appAll_get vs _ _ hv]
    exact appAll_local us (appAll_get vs e _ hv).symm
  · have hu : ∀ u ∈ us, u.slot ≠ s := fun u hu e => hs ⟨u, hu, e⟩
    rw [appAll_get us (appAll e vs) s hu]
    exact appAll_local vs (appAll_get us e s hu)
structure Rec where
  i : Nat
  us : List Upd
  lg : List Slot
def Indep (p q : Rec) : Prop :=
  (∀ u ∈ p.us, ∀ s ∈ q.lg, u.slot ≠ s) ∧ (∀ u ∈ q.us, ∀ s ∈ p.lg, u.slot ≠ s) ∧ ∀ u ∈ p.us, ∀ v ∈ q.us, u.slot ≠ v.slot
def Tr (S : Nat → Rd (List Upd)) : Env → List Rec → Env → Prop
  | e, [], e' => e.get = e'.get
  | e, r :: rs, e' => (S r.i).eval e.get [] = some (r.us, r.lg) ∧ Tr S (appAll e r.us) rs e'
theorem Tr.congr {S : Nat → Rd (List Upd)} : ∀ (rs : List Rec) {e e1 e' : Env}, e.get = e1.get → Tr S e rs e' → Tr S e1 rs e'
  | [], _, _, _, h, ht => h.symm.trans ht
  | r :: rs, _, _, _, h, ht => ⟨by rw [← h]; exact ht.1, Tr.congr rs (appAll_congr r.us h) ht.2⟩
theorem Tr.swap {S : Nat → Rd (List Upd)} {e e' : Env} {p q : Rec} {rs : List Rec} (h : Tr S e (p :: q :: rs) e') (hi : Indep p q) : Tr S e (q :: p :: rs) e' := by
  obtain ⟨h1, h2, h3⟩ := h
  refine ⟨Rd.eval_local _ _ _ _ _ _ h2 fun s hs => (appAll_get p.us e s fun u hu => hi.1 u hu s hs).symm, Rd.eval_local _ _ _ _ _ _ h1 fun s hs => appAll_get q.us e s fun u hu => hi.2.1 u hu s hs, ?_⟩
  exact Tr.congr rs (appAll_comm p.us q.us e hi.2.2) h3
theorem Tr.front {S : Nat → Rd (List Upd)} {r : Rec} {post : List Rec} {e' : Env} : ∀ (pre : List Rec) {e : Env}, Tr S e (pre ++ r :: post) e' → (∀ p ∈ pre, Indep p r) → Tr S e (r :: (pre ++ post)) e'
  | [], _, h, _ => h
  | p :: pre, _, h, hi => by
    have ih := Tr.front pre h.2 fun q hq => hi q (by simp [hq])
    exact Tr.swap (rs := pre ++ post) ⟨h.1, ih⟩ (hi p (by simp))
theorem memSlot_iff (s : Slot) (l : List Slot) : memSlot s l = true ↔ s ∈ l := by
  induction l with
  | nil => simp [memSlot]
  | cons x r ih =>
    simp only [memSlot, Bool.or_eq_true, Slot.beq_iff, ih, List.mem_cons]
    exact ⟨fun h => h.imp Eq.symm id, fun h => h.imp Eq.symm id⟩
theorem apart_iff (xs ys : List Slot) : apart xs ys = true ↔ ∀ x ∈ xs, ∀ y ∈ ys, x ≠ y := by
  simp only [apart, List.all_eq_true, Bool.not_eq_true']
  constructor
  · intro h x hx y hy e
    have := h x hx
    rw [e, (memSlot_iff y ys).2 hy] at this
    cases this
  · intro h x hx
    cases hm : memSlot x ys with
    | false => rfl
    | true => exact absurd rfl (h x hx x ((memSlot_iff x ys).1 hm))
theorem footOk_get {ws : Nat} {f : Foot} : ∀ {n : Nat} {fs : List Foot}, footOk ws f n fs = true → ∀ k g, fs[k]? = some g → ws.testBit (n + k) = true ∨ (apart f.w g.r = true ∧ apart f.w g.w = true ∧ apart f.r g.w = true)
  | n, [], _, k, g, hg => by simp at hg
  | n, g0 :: r, h, k, g, hg => by
    simp only [footOk, Bool.and_eq_true, Bool.or_eq_true] at h
    cases k with
    | zero =>
      simp at hg
      subst hg
      rcases h.1 with hb | hb
      · exact .inl (by simpa using hb)
      · exact .inr ⟨hb.1.1, hb.1.2, hb.2⟩
    | succ k =>
      have := footOk_get h.2 k g (by simpa using hg)
      rwa [show n + 1 + k = n + (k + 1) by omega] at this
def waitsList : List Oper → List Nat → List Nat
  | [], bs => bs
  | o :: r, bs => waitsList r (bs ++ [waitsOf bs o])
theorem waitsList_pre : ∀ (os : List Oper) (bs : List Nat) (i : Nat), i < bs.length → (waitsList os bs)[i]? = bs[i]?
  | [], _, _, _ => rfl
  | o :: r, bs, i, h => by rw [waitsList, waitsList_pre r _ i (by simp; omega), List.getElem?_append_left h]
section
variable {X : Ctx} {all : List Oper} {vn : Nat} {draw : Bool}
def stepsOf (X : Ctx) (all : List Oper) (vn : Nat) (i : Nat) : Rd (List Upd) :=
  match all[i]? with
  | some o => stepRd X all (vn + i) o
  | none => .fail
structure Done (W : List Nat) (done : List Rec) (feet : List Foot) : Prop where
  len : done.length = feet.length
  foot : ∀ k (r : Rec) (f : Foot), done[k]? = some r → feet[k]? = some f → r.i = k ∧ (∀ s ∈ r.lg, s ∈ f.r) ∧ ∀ u ∈ r.us, u.slot ∈ f.w
  pw : done.Pairwise fun p q => (W.getD q.i 0).testBit p.i = true ∨ Indep p q
theorem runOps_trace {ρ : Type} : ∀ (os : List Oper) (st : RegSt) (env : Env) (K : Env → Option ρ) (out : ρ) (done : List Rec) (pre : List Oper), all = pre ++ os → st.waits.length = pre.length →
    (draw = true → st.feet.length = pre.length ∧ Done (waitsList os st.waits) done st.feet) →
    runOps X draw all vn os st env K = some out →
    ∃ recs env', Tr (stepsOf X all vn) env recs env' ∧ K env' = some out ∧ (∀ k r, recs[k]? = some r → r.i = pre.length + k) ∧ recs.length = os.length ∧
      (draw = true → (∀ j o, os[j]? = some o → edgesOk (pre.length + j) o = true) ∧ (done ++ recs).Pairwise fun p q => ((waitsList os st.waits).getD q.i 0).testBit p.i = true ∨ Indep p q)
  | [], st, env, K, out, done, pre, hall, hw, hd, h => by
    refine ⟨[], env, rfl, h, by simp, rfl, fun hdr => ⟨by simp, ?_⟩⟩
    rw [List.append_nil]
    exact (hd hdr).2.pw
  | o :: r, st, env, K, out, done, pre, hall, hw, hd, h => by
    have hio : all[pre.length]? = some o := by rw [hall]; simp
    have go : ∀ (env1 : Env) (wanted : Bool) (g : List Slot), env1.get = env.get →
        (∀ us lg, (opStep X (vn + st.waits.length) o wanted).eval env.get g = some (us, lg) → (stepRd X all (vn + st.waits.length) o).eval env.get [] = some (us, lg)) →
        ((opStep X (vn + st.waits.length) o wanted).cps env1.get g fun us lg =>
          bif draw then
            let f : Foot := ⟨g ++ lg, us.map Upd.slot⟩
            let ws := waitsOf st.waits o
            bif footOk ws f 0 st.feet && edgesOk st.waits.length o then runOps X draw all vn r ⟨st.feet ++ [f], st.waits ++ [ws]⟩ (appAll env1 us) K else none
          else runOps X draw all vn r ⟨[], st.waits ++ [0]⟩ (appAll env1 us) K) = some out →
        ∃ recs env', Tr (stepsOf X all vn) env recs env' ∧ K env' = some out ∧ (∀ k r, recs[k]? = some r → r.i = pre.length + k) ∧ recs.length = (o :: r).length ∧
          (draw = true → (∀ j o', (o :: r)[j]? = some o' → edgesOk (pre.length + j) o' = true) ∧ (done ++ recs).Pairwise fun p q => ((waitsList (o :: r) st.waits).getD q.i 0).testBit p.i = true ∨ Indep p q) := by
      intro env1 wanted g henv hst hh
      obtain ⟨us, lg, hev, hK⟩ := Rd.cps_some _ _ _ _ _ hh
      rw [henv] at hev
      have hS := hst us lg hev
      have hSt : (stepsOf X all vn pre.length).eval env.get [] = some (us, lg) := by
        unfold stepsOf
        rw [hio]
        simp only
        rw [← hw]; exact hS
      cases hdr : draw with
      | false =>
        rw [hdr] at hK
        simp only [cond_false] at hK
        obtain ⟨recs, env', k1, k2, k3, k4, _⟩ := runOps_trace r ⟨[], st.waits ++ [0]⟩ (appAll env1 us) K out [] (pre ++ [o]) (by rw [hall]; simp) (by simp [hw]) (by rw [hdr]; simp) (by rw [hdr]; exact hK)
        refine ⟨⟨pre.length, us, lg⟩ :: recs, env', ⟨hSt, Tr.congr recs (appAll_congr us henv) k1⟩, k2, fun k rc hk => ?_, by simp [k4], by simp⟩
        cases k with
        | zero => simp at hk; subst hk; rfl
        | succ k => have := k3 k rc (by simpa using hk); rw [this]; simp; omega
      | true =>
        rw [hdr] at hK
        simp only [cond_true] at hK
        obtain ⟨hfl, hdone⟩ := hd hdr
        cases hf : (footOk (waitsOf st.waits o) ⟨g ++ lg, us.map Upd.slot⟩ 0 st.feet && edgesOk st.waits.length o) with
        | false => rw [hf] at hK; simp at hK
        | true =>
          rw [hf] at hK
          simp only [cond_true] at hK
          simp only [Bool.and_eq_true] at hf
          have hW : (waitsList (o :: r) st.waits).getD pre.length 0 = waitsOf st.waits o := by
            rw [List.getD_eq_getElem?_getD, waitsList, waitsList_pre r _ _ (by simp [hw])]
            simp [← hw]
          have hdone' : Done (waitsList r (st.waits ++ [waitsOf st.waits o])) (done ++ [⟨pre.length, us, lg⟩]) (st.feet ++ [⟨g ++ lg, us.map Upd.slot⟩]) := by
            refine ⟨by simp [hdone.len], fun k rc f hk hkf => ?_, ?_⟩
            · by_cases hlt : k < done.length
              · rw [List.getElem?_append_left hlt] at hk
                rw [List.getElem?_append_left (by rw [← hdone.len]; exact hlt)] at hkf
                exact hdone.foot k rc f hk hkf
              · have hkeq : k = done.length := by
                  have := (List.getElem?_eq_some_iff.1 hk).1
                  simp at this; omega
                subst hkeq
                simp at hk
                rw [hdone.len] at hkf
                simp at hkf
                subst hk; subst hkf
                refine ⟨by rw [hdone.len, hfl], fun s hs => by simp [hs], fun u hu => List.mem_map_of_mem hu⟩
            · rw [List.pairwise_append]
              refine ⟨hdone.pw, by simp, fun p hp q hq => ?_⟩
              simp at hq
              subst hq
              obtain ⟨k, hk⟩ := List.mem_iff_getElem?.1 hp
              have hlt : k < st.feet.length := by rw [← hdone.len]; exact (List.getElem?_eq_some_iff.1 hk).1
              obtain ⟨e1, e2, e3⟩ := hdone.foot k p _ hk (List.getElem?_eq_getElem hlt)
              rcases footOk_get hf.1 k _ (List.getElem?_eq_getElem hlt) with hb | ⟨a1, a2, a3⟩
              · left
                have : (waitsList r (st.waits ++ [waitsOf st.waits o])).getD pre.length 0 = waitsOf st.waits o := hW
                rw [this, e1]
                simpa using hb
              · right
                rw [apart_iff] at a1 a2 a3
                refine ⟨fun u hu s hs e => a3 s (by simp [hs]) _ (e3 u hu) e.symm, fun u hu s hs e => a1 _ (List.mem_map_of_mem hu) s (e2 s hs) e, fun u hu v hv e => a2 _ (List.mem_map_of_mem hv) _ (e3 u hu) e.symm⟩
          obtain ⟨recs, env', k1, k2, k3, k4, k5⟩ := runOps_trace r ⟨st.feet ++ [⟨g ++ lg, us.map Upd.slot⟩], st.waits ++ [waitsOf st.waits o]⟩ (appAll env1 us) K out (done ++ [⟨pre.length, us, lg⟩]) (pre ++ [o]) (by rw [hall]; simp) (by simp [hw])
            (fun _ => ⟨by simp [hfl], hdone'⟩) (by rw [hdr]; exact hK)
          obtain ⟨k6, k7⟩ := k5 hdr
          refine ⟨⟨pre.length, us, lg⟩ :: recs, env', ⟨hSt, Tr.congr recs (appAll_congr us henv) k1⟩, k2, fun k rc hk => ?_, by simp [k4], fun _ => ⟨fun j o' hj => ?_, ?_⟩⟩
          · cases k with
            | zero => simp at hk; subst hk; rfl
            | succ k => have := k3 k rc (by simpa using hk); rw [this]; simp; omega
          · cases j with
            | zero => simp at hj; subst hj; rw [← hw]; exact hf.2
            | succ j =>
              have := k6 j o' (by simpa using hj)
              simp only [List.length_append, List.length_cons, List.length_nil] at this
              rwa [show pre.length + (0 + 1) + j = pre.length + (j + 1) by omega] at this
          · have e : done ++ [⟨pre.length, us, lg⟩] ++ recs = done ++ ⟨pre.length, us, lg⟩ :: recs := by simp
            rw [e] at k7
            exact k7
    unfold runOps at h
    simp only [forceSlots_eq, forceNat_eq] at h
    split at h
    · cases h
    · rename_i hg
      refine go env true [] rfl (fun us lg hev => ?_) h
      unfold stepRd; rw [hg]; exact hev
    · rename_i d want hg
      split at h
      · rename_i hsk
        refine go env false [.tmp d] rfl (fun us lg hev => ?_) h
        unfold stepRd; rw [hg]; simp only [Rd.eval, hsk]; exact hev
      · rename_i b hb
        have hlit : ∀ t : Bool, b = t → Env.get ((.tmp d, .val false [.bool t]) :: env) = env.get := by
          intro t ht
          funext s
          rw [Env.get_cons]
          split
          · rename_i hs; rw [← hs, hb, ht]
          · rfl
        cases b with
        | true =>
          simp only [cond_true] at h
          refine go _ want [.tmp d] (hlit true rfl) (fun us lg hev => ?_) h
          unfold stepRd; rw [hg]; simp only [Rd.eval, hb, cond_true]; exact hev
        | false =>
          simp only [cond_false] at h
          refine go _ (!want) [.tmp d] (hlit false rfl) (fun us lg hev => ?_) h
          unfold stepRd; rw [hg]; simp only [Rd.eval, hb, cond_false]; exact hev
      · cases h
end
end
end Go.VI
namespace Go.VI
noncomputable section
open Go.RowKit
theorem waits_fold (bs : List Nat) (k : Nat) : ∀ (es : List Edge) (s : Nat), (es.foldl (fun s e => if Region.binds .any e then s ||| 2 ^ e.on ||| bs.getD e.on 0 else s) s).testBit k = true →
    s.testBit k = true ∨ ∃ e ∈ es, Region.binds .any e = true ∧ (k = e.on ∨ (bs.getD e.on 0).testBit k = true)
  | [], s, h => .inl h
  | e :: r, s, h => by
    rw [List.foldl_cons] at h
    rcases waits_fold bs k r _ h with h1 | ⟨e', he', hh⟩
    · by_cases hb : Region.binds .any e = true
      · rw [if_pos hb] at h1
        simp only [Nat.testBit_or, Bool.or_eq_true, Nat.testBit_two_pow, decide_eq_true_eq] at h1
        rcases h1 with (h1 | h1) | h1
        · exact .inl h1
        · exact .inr ⟨e, by simp, hb, .inl h1.symm⟩
        · exact .inr ⟨e, by simp, hb, .inr h1⟩
      · rw [if_neg hb] at h1; exact .inl h1
    · exact .inr ⟨e', by simp [he'], hh⟩
theorem waitsList_get : ∀ (os : List Oper) (bs : List Nat) (j : Nat) (o : Oper), os[j]? = some o → (waitsList os bs)[bs.length + j]? = some (waitsOf ((waitsList os bs).take (bs.length + j)) o)
  | [], bs, j, o, h => by simp at h
  | o' :: r, bs, 0, o, h => by
    simp at h
    subst h
    rw [waitsList, Nat.add_zero, waitsList_pre r _ _ (by simp)]
    have : (waitsList r (bs ++ [waitsOf bs o'])).take bs.length = bs := by
      apply List.ext_getElem?
      intro i
      rw [List.getElem?_take]
      split
      · rename_i hi
        rw [waitsList_pre r _ _ (by simp; omega), List.getElem?_append_left hi]
      · rename_i hi
        rw [List.getElem?_eq_none (by omega)]
    rw [this]; simp
  | o' :: r, bs, j + 1, o, h => by
    have := waitsList_get r (bs ++ [waitsOf bs o']) j o (by simpa using h)
    simp only [List.length_append, List.length_cons, List.length_nil] at this
    rw [waitsList, show bs.length + (j + 1) = bs.length + (0 + 1) + j by omega]
    exact this
section
variable {A : Fix} {X : Ctx} {γ : Gh} {Fr : Nat → Prop} {env env' : Env} {a : Act} {w w' : World} {vn n : Nat} {ops : Array Oper} {Q : Exit → Act → World → Prop}
def FrOf (vn n : Nat) (recs : List Rec) : Nat → Prop := fun v => (∃ r ∈ recs, v = vn + r.i) ∨ vn + n ≤ v
theorem Holds.fr {Fr' : Nat → Prop} (h : Holds A X Fr env a w) (hf : ∀ v, Fr' v → Fr v) : Holds A X Fr' env a w :=
  let ⟨γ, hc⟩ := h; ⟨γ, hc.fr hf⟩
theorem Holds.ext (h : Holds A X Fr env a w) (he : env'.get = env.get) : Holds A X Fr env' a w :=
  let ⟨γ, hc⟩ := h; ⟨γ, hc.ext fun s => by rw [he]⟩
theorem rec_step (K : Known A X) {r : Rec} {pre post : List Rec} {o : Oper} (h : Holds A X (FrOf vn n (pre ++ r :: post)) env a w) (hoi : ops[r.i]? = some o) (hs : (stepsOf X ops.toList vn r.i).eval env.get [] = some (r.us, r.lg))
    (hlt : r.i < n) (hne : ∀ p ∈ pre ++ post, p.i ≠ r.i) {N : Act → World → Prop} (hn : ∀ a' w', Holds A X (FrOf vn n (pre ++ post)) (appAll env r.us) a' w' → N a' w') : wpOp A.P ops Q r.i N a w := by
  obtain ⟨γ, hc⟩ := h
  have hs' : (stepRd X ops.toList (vn + r.i) o).eval env.get [] = some (r.us, r.lg) := by
    unfold stepsOf at hs
    have : ops.toList[r.i]? = some o := by simpa using hoi
    rw [this] at hs
    exact hs
  refine step_sound hc K (.inl ⟨r, by simp, rfl⟩) hoi hs' fun a' w' hh => hn a' w' (hh.fr ?_)
  rintro v (⟨p, hp, rfl⟩ | hv)
  · refine ⟨.inl ⟨p, ?_, rfl⟩, fun e => hne p hp (by omega)⟩
    rcases List.mem_append.1 hp with hp | hp
    · simp [hp]
    · simp [hp]
  · exact ⟨.inr hv, by omega⟩
theorem wpOps_trace (K : Known A X) : ∀ (recs : List Rec) (k : Nat) (env : Env) (a : Act) (w : World), Tr (stepsOf X ops.toList vn) env recs env' → (∀ j r, recs[j]? = some r → r.i = k + j) → k + recs.length = n → n = ops.size →
    Holds A X (FrOf vn n recs) env a w → (∀ a' w', Holds A X (fun v => vn + n ≤ v) env' a' w' → Q .normal a' w') → wpOps A.P ops Q (List.range' k recs.length) a w
  | [], k, env, a, w, ht, hi, hk, hn, h, hQ => by
    refine hQ a w ((h.ext (show env'.get = env.get from (show env.get = env'.get from ht).symm)).fr fun v hv => .inr hv)
  | r :: rs, k, env, a, w, ht, hi, hk, hn, h, hQ => by
    have hri : r.i = k := by simpa using hi 0 r rfl
    have hlt : k < ops.size := by simp only [List.length_cons] at hk; omega
    rw [List.length_cons, List.range'_succ, wpOps_cons]
    rw [← hri]
    refine rec_step (n := n) (pre := []) (post := rs) K h (o := ops[k]) (by rw [hri]; exact Array.getElem?_eq_getElem hlt) ht.1 (by omega) (fun p hp => ?_) fun a' w' hh => ?_
    · obtain ⟨j, hj⟩ := List.mem_iff_getElem?.1 (by simpa using hp)
      have := hi (j + 1) p (by simpa using hj)
      omega
    · rw [hri]
      exact wpOps_trace K rs (k + 1) _ a' w' ht.2 (fun j p hj => by have := hi (j + 1) p (by simpa using hj); omega) (by simp only [List.length_cons] at hk; omega) hn hh hQ
theorem wpAny_trace (K : Known A X) (W : List Nat) (hn : n = ops.size)
    (hW : ∀ i o k, ops[i]? = some o → (W.getD i 0).testBit k = true → ∃ e ∈ o.after, Region.binds .any e = true ∧ e.on < i ∧ (k = e.on ∨ (W.getD e.on 0).testBit k = true))
    (hE : ∀ (i : Nat) (o : Oper), ops[i]? = some o → ∀ e ∈ o.after, Region.binds .any e = true → e.on < i) (hQ : ∀ a' w', Holds A X (fun v => vn + n ≤ v) env' a' w' → Q .normal a' w') :
    ∀ (m : Nat) (recs : List Rec) (listed : Array Bool) (env : Env) (a : Act) (w : World), recs.length = m → Tr (stepsOf X ops.toList vn) env recs env' →
    recs.Pairwise (fun p q => (W.getD q.i 0).testBit p.i = true ∨ Indep p q) → recs.Pairwise (fun p q => p.i < q.i) → (∀ r ∈ recs, r.i < n) → listed.size = n →
    (∀ k, k < n → (listed.getD k true = false ↔ ∃ r ∈ recs, r.i = k)) → (∀ j k, j < n → listed.getD j true = true → (W.getD j 0).testBit k = true → k < n ∧ listed.getD k true = true) →
    Holds A X (FrOf vn n recs) env a w → wpAny A.P .any ops Q m listed a w := by
  have ready_iff : ∀ (listed : Array Bool) (i : Nat), i ∈ Region.ready .any ops listed → ∃ o, ops[i]? = some o ∧ i < n ∧ listed.getD i true = false ∧ ∀ e ∈ o.after, Region.binds .any e = true → listed.getD e.on false = true := by
    intro listed i hi
    simp only [Region.ready, List.mem_filter, List.mem_range, Bool.and_eq_true, Bool.not_eq_true'] at hi
    obtain ⟨h1, h2, h3⟩ := hi
    have ho : ops[i]? = some ops[i] := Array.getElem?_eq_getElem h1
    rw [ho] at h3
    simp only [Option.map_some, Option.getD_some, Array.all_eq_true_iff_forall_mem, Bool.or_eq_true, Bool.not_eq_true'] at h3
    refine ⟨ops[i], ho, by omega, h2, fun e he hb => ?_⟩
    rcases h3 e he with h3 | h3
    · rw [hb] at h3; cases h3
    · exact h3
  intro m
  induction m with
  | zero =>
    intro recs listed env a w hl ht _ _ _ hsz hun _ h
    have hnil : recs = [] := List.eq_nil_of_length_eq_zero hl
    subst hnil
    refine ⟨?_, hQ a w ((h.ext (show env'.get = env.get from (show env.get = env'.get from ht).symm)).fr fun v hv => .inr hv)⟩
    rw [List.eq_nil_iff_forall_not_mem]
    intro i hi
    obtain ⟨o, _, h2, h3, _⟩ := ready_iff listed i hi
    obtain ⟨r, hr, _⟩ := (hun i h2).1 h3
    cases hr
  | succ m ih =>
    intro recs listed env a w hl ht hpw hso hlt hsz hun hcl h
    refine ⟨fun hemp => ?_, fun i hi => ?_⟩
    · exfalso
      cases recs with
      | nil => simp at hl
      | cons r rs =>
        have hri := hlt r (by simp)
        have hrs : r.i < ops.size := by omega
        have : r.i ∈ Region.ready .any ops listed := by
          simp only [Region.ready, List.mem_filter, List.mem_range, Bool.and_eq_true, Bool.not_eq_true']
          refine ⟨hrs, (hun r.i hri).2 ⟨r, by simp, rfl⟩, ?_⟩
          have ho : ops[r.i]? = some ops[r.i] := Array.getElem?_eq_getElem hrs
          rw [ho]
          simp only [Option.map_some, Option.getD_some, Array.all_eq_true_iff_forall_mem, Bool.or_eq_true, Bool.not_eq_true']
          intro e he
          cases hbe : Region.binds .any e with
          | false => exact .inl rfl
          | true =>
          right
          have hel := hE r.i _ ho e he hbe
          have hen : e.on < n := by omega
          cases hle : listed.getD e.on true with
          | true =>
            have : e.on < listed.size := by omega
            simp [Array.getD_eq_getD_getElem?, this] at hle ⊢
            exact hle
          | false =>
            obtain ⟨p, hp, hpi⟩ := (hun e.on hen).1 hle
            rcases List.mem_cons.1 hp with rfl | hp
            · omega
            · have := (List.pairwise_cons.1 hso).1 p hp
              omega
        rw [hemp] at this
        cases this
    · obtain ⟨o, ho, hin, hul, hedge⟩ := ready_iff listed i hi
      obtain ⟨r, hr, hri⟩ := (hun i hin).1 hul
      obtain ⟨pre, post, rfl⟩ := List.append_of_mem hr
      have edge_listed : ∀ e ∈ o.after, Region.binds .any e = true → listed.getD e.on true = true := by
        intro e he hb
        have := hedge e he hb
        have hel : e.on < listed.size := by have := hE i o ho e he hb; omega
        simp [Array.getD_eq_getD_getElem?, hel] at this ⊢
        exact this
      have hwl : ∀ k, (W.getD i 0).testBit k = true → k < n ∧ listed.getD k true = true := by
        intro k hk
        obtain ⟨e, he, hb, hlt', hor⟩ := hW i o k ho hk
        rcases hor with rfl | hor
        · exact ⟨by omega, edge_listed e he hb⟩
        · exact hcl e.on k (by omega) (edge_listed e he hb) hor
      have hind : ∀ p ∈ pre, Indep p r := by
        intro p hp
        rcases (List.pairwise_append.1 hpw).2.2 p hp r (by simp) with hb | hind
        · rw [hri] at hb
          have h1 := (hwl _ hb).2
          have h2 := (hun p.i (hlt p (by simp [hp]))).2 ⟨p, by simp [hp], rfl⟩
          rw [h1] at h2; cases h2
        · exact hind
      have hf := Tr.front pre ht hind
      have hne : ∀ p ∈ pre ++ post, p.i ≠ r.i := by
        intro p hp
        rcases List.mem_append.1 hp with hp | hp
        · have := (List.pairwise_append.1 hso).2.2 p hp r (by simp); omega
        · have := (List.pairwise_cons.1 (List.pairwise_append.1 hso).2.1).1 p hp; omega
      have sub : List.Sublist (pre ++ post) (pre ++ r :: post) := (List.Sublist.refl pre).append (List.sublist_cons_self r post)
      rw [← hri]
      refine rec_step (n := n) K h (by rw [hri]; exact ho) hf.1 (by omega) hne fun a' w' hh => ?_
      refine ih (pre ++ post) _ _ a' w' (by simp only [List.length_append, List.length_cons] at hl ⊢; omega) hf.2 (hpw.sublist sub) (hso.sublist sub) (fun p hp => hlt p (sub.subset hp)) (by simp [hsz]) ?_ ?_ hh
      · intro k hk
        have hg : (listed.setIfInBounds r.i true).getD k true = if r.i = k then true else listed.getD k true := by
          have hks : k < listed.size := by omega
          by_cases hk2 : r.i = k
          · subst hk2; simp [Array.getD_eq_getD_getElem?, hks]
          · simp [Array.getD_eq_getD_getElem?, hk2]
        rw [hg]
        by_cases hk' : r.i = k
        · simp only [hk', if_true]
          constructor
          · intro hh; cases hh
          · rintro ⟨p, hp, hpk⟩
            exact absurd (hpk.trans hk'.symm) (hne p hp)
        · simp only [hk', if_false]
          rw [hun k hk]
          constructor
          · rintro ⟨p, hp, hpk⟩
            refine ⟨p, ?_, hpk⟩
            simp only [List.mem_append, List.mem_cons] at hp ⊢
            rcases hp with hp | rfl | hp
            · exact .inl hp
            · exact absurd hpk hk'
            · exact .inr hp
          · rintro ⟨p, hp, hpk⟩
            exact ⟨p, sub.subset hp, hpk⟩
      · intro j k hj hlj hb
        have hg : ∀ k, k < n → (listed.setIfInBounds r.i true).getD k true = if r.i = k then true else listed.getD k true := by
          intro k hk
          have hks : k < listed.size := by omega
          by_cases hk2 : r.i = k
          · subst hk2; simp [Array.getD_eq_getD_getElem?, hks]
          · simp [Array.getD_eq_getD_getElem?, hk2]
        have key : k < n ∧ listed.getD k true = true := by
          by_cases hjr : r.i = j
          · exact hwl k (by rw [← hri, hjr]; exact hb)
          · rw [hg j hj, if_neg hjr] at hlj
            exact hcl j k hj hlj hb
        refine ⟨key.1, ?_⟩
        rw [hg k key.1]
        split
        · rfl
        · exact key.2
theorem region_sound {ρ : Type} (K : Known A X) (hm : A.P.follows .mixedOrders = true) {id : Nat} {draw : Bool} {K0 : Env → Option ρ} {out : ρ} (h : Holds A X (fun v => vn ≤ v) env a w)
    (hr : runOps X draw ops.toList vn ops.toList ⟨[], []⟩ env K0 = some out)
    (hQ : ∀ env' a' w', K0 env' = some out → Holds A X (fun v => vn + ops.size ≤ v) env' a' w' → Q .normal a' w') : (Code.region id ops draw).wp A.P Q a w := by
  obtain ⟨recs, env', ht, hK, hi, hlen, hdraw⟩ := runOps_trace (draw := draw) ops.toList ⟨[], []⟩ env K0 out [] [] rfl rfl (fun _ => ⟨rfl, rfl, by simp, List.Pairwise.nil⟩) hr
  simp only [List.length_nil, Nat.zero_add, Array.length_toList] at hi hlen
  have h0 : ∀ {v : Nat}, FrOf vn ops.size recs v → vn ≤ v := by
    rintro v (⟨r, _, rfl⟩ | hv) <;> omega
  cases draw with
  | false =>
    refine wp_region ?_
    rw [List.range_eq_range', ← hlen]
    exact wpOps_trace K recs 0 env a w ht (fun j r hj => by rw [hi j r hj]; omega) (by omega) hlen (h.fr fun v hv => h0 (by rw [← hlen]; exact hv)) fun a' w' hh => hQ env' a' w' hK (by rw [← hlen]; exact hh)
  | true =>
    obtain ⟨hedge, hpw⟩ := hdraw rfl
    have hget : ∀ i o, ops[i]? = some o → ops.toList[i]? = some o := fun i o ho => by rw [Array.getElem?_toList]; exact ho
    have hw' : Holds A X (FrOf vn ops.size recs) env a { w with drawn := w.drawn + 1 } := by
      obtain ⟨γ, hc⟩ := h
      have hb : Below w.heap.size w { w with drawn := w.drawn + 1 } := ⟨rfl, rfl, rfl, Nat.le_refl _, fun _ _ => rfl, Nat.le_succ _⟩
      exact ⟨γ, ((hc.world (w' := { w with drawn := w.drawn + 1 }) (row := none) ⟨rfl, rfl, rfl, Nat.le_refl _, fun _ _ _ => rfl, Nat.le_succ _⟩ (fun g hg => by cases hg) (K.stable.below hc.glob hb))).fr fun v hv => h0 hv⟩
    refine wp_region_any hm (wpAny_trace K (waitsList ops.toList []) rfl ?_ ?_ (fun a' w' hh => hQ env' a' w' hK hh) ops.size recs _ env a _ hlen ht ?_ ?_ ?_ (by simp) ?_ ?_ hw')
    · intro i o k ho hb
      have hWi := waitsList_get ops.toList [] i o (hget i o ho)
      simp only [List.length_nil, Nat.zero_add] at hWi
      rw [List.getD_eq_getElem?_getD, hWi, Option.getD_some] at hb
      rcases waits_fold _ k _ 0 hb with hb | ⟨e, he, hbi, hor⟩
      · simp at hb
      · have hel : e.on < i := by
          have := hedge i o (hget i o ho)
          simp only [edgesOk, List.all_eq_true, List.length_nil, Nat.zero_add] at this
          have := this e he
          rw [hbi] at this
          exact (by simpa using this)
        refine ⟨e, by simpa using he, hbi, hel, hor.imp (fun h => h) fun hh => ?_⟩
        rw [List.getD_eq_getElem?_getD, List.getElem?_take, if_pos hel] at hh
        rw [List.getD_eq_getElem?_getD]; exact hh
    · intro i o ho e he hbe
      have := hedge i o (hget i o ho)
      simp only [edgesOk, List.all_eq_true, List.length_nil, Nat.zero_add] at this
      have := this e (by simpa using he)
      rw [hbe] at this
      exact (by simpa using this)
    · simpa using hpw
    · rw [List.pairwise_iff_getElem]
      intro i j hi' hj' hij
      rw [hi i _ (List.getElem?_eq_getElem hi'), hi j _ (List.getElem?_eq_getElem hj')]
      exact hij
    · intro r hr'
      obtain ⟨k, hk⟩ := List.mem_iff_getElem?.1 hr'
      rw [hi k r hk, ← hlen]
      exact (List.getElem?_eq_some_iff.1 hk).1
    · intro k hk
      have : (Array.replicate ops.size false).getD k true = false := by simp [Array.getD_eq_getD_getElem?, hk]
      simp only [this, true_iff]
      have hk' : k < recs.length := by omega
      exact ⟨recs[k], List.getElem_mem hk', hi k _ (List.getElem?_eq_getElem hk')⟩
    · intro j k hj hl
      have : (Array.replicate ops.size false).getD j true = false := by simp [Array.getD_eq_getD_getElem?, hj]
      rw [this] at hl; cases hl
end
end
end Go.VI
namespace Go.VI
noncomputable section
open Go.RowKit
theorem wp_loop_fuel {P : Program} {Q : Exit → Act → World → Prop} {c : Code} (I : Nat → Act → World → Prop) {m : Nat} {a : Act} {w : World} (h₀ : I m a w)
    (round : ∀ m a w, I m a w → c.wp P (Exit.then (fun a' w' => ∃ m' < m, I m' a' w') Q) a w) : (Code.loop c).wp P Q a w := by
  intro b k cs
  have key : ∀ n a w, I n a w →
      ∃ e a' w', Q e a' w' ∧ Arrives P (lone (b.at a (.code c :: .inLoop c :: k)) cs w) b k cs e a' w' := by
    intro n
    induction n using Nat.strongRecOn with
    | _ n ih =>
      intro a w hI
      obtain ⟨e, a₁, w₁, hq, harr⟩ := round n a w hI b (.inLoop c :: k) cs
      cases e with
      | normal =>
        obtain ⟨m', hlt, hI₁⟩ := hq
        obtain ⟨e₂, a₂, w₂, hq₂, harr₂⟩ := ih m' hlt a₁ w₁ hI₁
        exact ⟨e₂, a₂, w₂, hq₂, .of_steps (Steps.trans harr (.one step_inLoop)) harr₂⟩
      | exit id => exact ⟨_, a₁, w₁, hq, .pass (x := .inLoop c) rfl (fun _ _ => .inl (by simp)) harr⟩
      | goto l => exact ⟨_, a₁, w₁, hq, .pass (x := .inLoop c) rfl (fun _ _ => .inl (by simp)) harr⟩
      | ret => exact ⟨_, a₁, w₁, hq, .pass (x := .inLoop c) rfl (fun _ _ => .inl (by simp)) harr⟩
      | panic ch => exact ⟨_, a₁, w₁, hq, .pass (x := .inLoop c) rfl (fun _ _ => .inl (by simp)) harr⟩
      | outgrown => exact ⟨_, a₁, w₁, hq, .pass (x := .inLoop c) rfl (fun _ _ => .inl (by simp)) harr⟩
  obtain ⟨e, a', w', hq, harr⟩ := key _ a w h₀
  exact ⟨e, a', w', hq, .of_steps (.one step_loop) harr⟩
section
variable {A : Fix} {X : Ctx} {γ : Gh} {Fr : Nat → Prop} {env env' : Env} {a : Act} {w w' : World}
def St (A : Fix) (X : Ctx) (env : Env) (a : Act) (w : World) : Prop := Holds A X (fun v => env.ver ≤ v) env a w
def exOf : Ex → Exit
  | .normal => .normal
  | .exit id => .exit id
  | .goto l => .goto l
  | .ret => .ret
theorem get_map (f : Slot → AV) (s : Slot) : ∀ (ks : List Slot), Env.get (ks.map fun s => (s, f s)) s = if s ∈ ks then f s else .undef
  | [] => rfl
  | k :: r => by
    rw [List.map_cons, Env.get_cons, get_map f s r]
    by_cases h : k = s
    · subst h; simp
    · simp [h, Ne.symm h]
theorem restrict_get (ks : List Slot) (env : Env) (s : Slot) : (restrict ks env).get s = if s = .ver then .num 1 else if s ∈ ks then canon env (env.get s) else .undef := by
  unfold restrict
  rw [Env.get_cons]
  by_cases h : s = .ver
  · subst h; simp
  · simp [h, Ne.symm h, get_map fun s => canon env (env.get s)]
theorem restrict_ver (ks : List Slot) (env : Env) : (restrict ks env).ver = 1 := by
  unfold Env.ver
  rw [restrict_get]
  simp
theorem canon_cell {av : AV} {i j : Nat} {c : Cell} (h : (canon env av).cell? i j = some c) : ∃ c0, av.cell? i j = some c0 ∧ c = canonCell env c0 := by
  cases av with
  | val g cs =>
    cases i with
    | succ i => simp [canon, AV.cell?] at h
    | zero =>
      simp only [canon, AV.cell?, List.getElem?_map, Option.map_eq_some_iff] at h ⊢
      obtain ⟨c0, h1, h2⟩ := h
      exact ⟨c0, h1, h2.symm⟩
  | box v fz cs =>
    cases i with
    | succ i => simp [canon, AV.cell?] at h
    | zero =>
      simp only [canon, AV.cell?, List.getElem?_map, Option.map_eq_some_iff] at h ⊢
      obtain ⟨c0, h1, h2⟩ := h
      exact ⟨c0, h1, h2.symm⟩
  | skip => simp [canon, AV.cell?] at h
  | undef => simp [canon, AV.cell?] at h
  | tup l => simp [canon, AV.cell?] at h
  | num n => simp [canon, AV.cell?] at h
theorem restrict_cell {ks : List Slot} {x : Loc} {c : Cell} (h : envCell (restrict ks env) x = some c) : ∃ c0, envCell env x = some c0 ∧ c = canonCell env c0 := by
  unfold envCell at h
  rw [restrict_get] at h
  split at h
  · simp [AV.cell?] at h
  · split at h
    · exact canon_cell h
    · simp [AV.cell?] at h
theorem canon_own {env : Env} {c : Cell} {e : TypeId} {t : Ty} {ver : Nat} {l : List t.den} (h : canonCell env c = .own e t ver l) : ver = 0 ∧ ((∃ v, c = .own e t v l) ∨ (c = .nil e t ∧ l = [] ∧ 0 < t.size)) := by
  cases c with
  | own e' t' v' l' =>
    simp only [canonCell, Cell.own.injEq] at h
    obtain ⟨rfl, rfl, rfl, h4⟩ := h
    have h4 := eq_of_heq h4
    subst h4
    exact ⟨rfl, .inl ⟨v', rfl⟩⟩
  | nil e' t' =>
    simp only [canonCell] at h
    cases hs : Nat.blt 0 t'.size with
    | false => rw [hs] at h; cases h
    | true =>
      rw [hs] at h
      simp only [cond_true, Cell.own.injEq] at h
      obtain ⟨rfl, rfl, rfl, h4⟩ := h
      have h4 := eq_of_heq h4
      exact ⟨rfl, .inr ⟨rfl, h4.symm, Nat.le_of_ble_eq_true hs⟩⟩
  | addr b bv off =>
    simp only [canonCell] at h
    split at h
    · rename_i v _ _ _
      cases hb : Nat.beq v bv <;> rw [hb] at h <;> cases h
    · cases h
  | view x v =>
    simp only [canonCell] at h
    split at h
    · rename_i v' _ _
      cases hb : Nat.beq v' v <;> rw [hb] at h <;> cases h
    · cases h
  | _ => simp [canonCell] at h
theorem restrict_sound (h : Holds A X Fr env a w) (ks : List Slot) : St A X (restrict ks env) a w := by
  obtain ⟨γ, h⟩ := h
  unfold St
  rw [restrict_ver]
  let cur : Nat → Nat := fun b => match env.get (.box b) with | .box v _ _ => v | _ => 0
  let γ' : Gh := { γ with σ := fun b v => if v = 0 then γ.σ b (cur b) else γ.σ b v, ψ := fun x v => if v = 0 then γ.φ x else γ.ψ x v }
  have hcv : ∀ s i n, cellVals γ' s i n = cellVals γ s i n := fun _ _ _ => rfl
  have hbox : ∀ b ver fz cs, (restrict ks env).get (.box b) = .box ver fz cs → ver = 0 ∧ ∃ v cs0, env.get (.box b) = .box v fz cs0 ∧ cs0.length = cs.length ∧ γ'.σ b 0 = γ.σ b v := by
    intro b ver fz cs hb
    rw [restrict_get] at hb
    simp only [reduceCtorEq, if_false] at hb
    split at hb
    · cases hg : env.get (.box b) with
      | box v f cs0 =>
        rw [hg] at hb
        simp only [canon, AV.box.injEq] at hb
        obtain ⟨rfl, rfl, rfl⟩ := hb
        exact ⟨rfl, v, cs0, rfl, by simp, by simp [γ', cur, hg]⟩
      | val g cs => rw [hg] at hb; simp [canon] at hb
      | skip => rw [hg] at hb; simp [canon] at hb
      | undef => rw [hg] at hb; simp [canon] at hb
      | tup l => rw [hg] at hb; simp [canon] at hb
      | num n => rw [hg] at hb; simp [canon] at hb
    · cases hb
  refine ⟨γ', { frame := h.frame, glob := h.glob, zone := h.zone, zone0 := h.zone0, defers := h.defers, size := h.size, ntl := h.ntl, baseB := h.baseB, tmp := ?_, box := ?_, cell := ?_, own := ?_, inj := ?_, fresh := ?_, lent := h.lent, lentloc := ?_ }⟩
  · intro t
    rw [restrict_get]
    simp only [reduceCtorEq, if_false]
    split
    · have := h.tmp t
      revert this
      cases env.get (.tmp t) with
      | val g cs => simp only [canon, RelTmp, hcv, List.length_map]; exact id
      | skip => exact id
      | undef => exact id
      | tup l => exact fun _ => trivial
      | box _ _ _ => exact id
      | num _ => exact id
    · exact trivial
  · intro b ver fz cs hb
    obtain ⟨rfl, v, cs0, h1, h2, h3⟩ := hbox b ver fz cs hb
    obtain ⟨b1, b2, b3, _⟩ := h.box b v fz cs0 h1
    rw [h3, hcv, ← h2]
    exact ⟨b1, b2, b3, by omega⟩
  · intro x c hc
    obtain ⟨c0, h0, rfl⟩ := restrict_cell hc
    obtain ⟨h1, h2, h3⟩ := h.cell x c0 h0
    have mv : ∀ {c : Cell} {v : Value}, refs c = none → RelCell A γ w c v → RelCell A γ' w c v := fun hr hc =>
      hc.move (fun r hh => by rw [hr] at hh; cases hh) (fun r hh => by rw [hr] at hh; cases hh) (fun _ hz => hz) (fun _ _ => rfl) (Nat.le_refl _) (fun _ _ _ => rfl)
    show RelCell A γ' w (canonCell env c0) (γ.φ x) ∧ (γ.φ x).oneCell' = true ∧ ∀ r, refs (canonCell env c0) = some r → ¬ (1 ≤ r)
    cases c0 with
    | own e t v l => exact ⟨h1, h2, by simp [canonCell, refs]⟩
    | nil e t =>
      refine ⟨?_, h2, ?_⟩
      · simp only [canonCell]
        cases hs : Nat.blt 0 t.size with
        | false => exact h1
        | true =>
          have h1 : γ.φ x = .slice none 0 0 := h1
          rw [h1]
          exact OwnV.nil (Nat.le_of_ble_eq_true hs)
      · simp only [canonCell]
        cases Nat.blt 0 t.size <;> simp [refs]
    | addr b bv off =>
      refine ⟨?_, h2, ?_⟩
      · simp only [canonCell]
        split
        · rename_i v fz cs hb
          cases hv : Nat.beq v bv with
          | false => exact trivial
          | true =>
            have hv := Nat.eq_of_beq_eq_true hv
            subst hv
            have : γ'.σ b 0 = γ.σ b v := by simp [γ', cur, hb]
            simp only [cond_true, RelCell, this]
            exact h1
        · exact trivial
      · simp only [canonCell]
        split
        · rename_i v fz cs hb
          cases Nat.beq v bv <;> simp [refs]
        · simp [refs]
    | view y v =>
      refine ⟨?_, h2, ?_⟩
      · simp only [canonCell]
        split
        · rename_i e t v' l hy
          cases hv : Nat.beq v' v with
          | false => exact trivial
          | true =>
            have hv := Nat.eq_of_beq_eq_true hv
            subst hv
            have h1 : γ.φ x = γ.ψ y v' := h1
            simp only [cond_true, RelCell, h1, (h.own y e t v' l hy).1]
            simp [γ']
        · exact trivial
      · simp only [canonCell]
        split
        · rename_i v' _ _
          cases Nat.beq v' v <;> simp [refs]
        · simp [refs]
    | sub x v s lo hi => exact ⟨trivial, h2, by simp [canonCell, refs]⟩
    | barr b bv o n t => exact ⟨trivial, h2, by simp [canonCell, refs]⟩
    | eview x v s i o => exact ⟨trivial, h2, by simp [canonCell, refs]⟩
    | eviewI x v s i o m s2 j => exact ⟨trivial, h2, by simp [canonCell, refs]⟩
    | addrI b bv o n s i => exact ⟨trivial, h2, by simp [canonCell, refs]⟩
    | undef => exact ⟨trivial, h2, by simp [canonCell, refs]⟩
    | int k n => exact ⟨mv rfl h1, h2, by simp [canonCell, refs]⟩
    | bool b => exact ⟨mv rfl h1, h2, by simp [canonCell, refs]⟩
    | str s => exact ⟨mv rfl h1, h2, by simp [canonCell, refs]⟩
    | imm t l p => exact ⟨mv rfl h1, h2, by simp [canonCell, refs]⟩
    | gptr g o => exact ⟨mv rfl h1, h2, by simp [canonCell, refs]⟩
    | gptrI g o n s i => exact ⟨mv rfl h1, h2, by simp [canonCell, refs]⟩
    | iptr t x o => exact ⟨mv rfl h1, h2, by simp [canonCell, refs]⟩
    | iptrI t x o n s i => exact ⟨mv rfl h1, h2, by simp [canonCell, refs]⟩
    | eimm t l i o => exact ⟨mv rfl h1, h2, by simp [canonCell, refs]⟩
    | eimmI t l i o m s2 j => exact ⟨mv rfl h1, h2, by simp [canonCell, refs]⟩
    | func f => exact ⟨mv rfl h1, h2, by simp [canonCell, refs]⟩
    | clo as rs F => exact ⟨mv rfl h1, h2, by simp [canonCell, refs]⟩
  · intro x e t ver l hc
    obtain ⟨c0, h0, hc0⟩ := restrict_cell hc
    obtain ⟨rfl, hor⟩ := canon_own hc0.symm
    refine ⟨by simp [γ'], by omega, fun g hg => ?_⟩
    rcases hor with ⟨v, rfl⟩ | ⟨rfl, _, _⟩
    · obtain ⟨k1, k2, k3⟩ := h.own x e t v l h0
      obtain ⟨a1, a2, a3⟩ := k3 g hg
      refine ⟨a1, fun b bv fz cs hb => ?_, fun y e' t' ver' l' hy hyg => ?_⟩
      · obtain ⟨rfl, v', cs0, h1, _, h3⟩ := hbox b bv fz cs hb
        rw [h3]; exact a2 b v' fz cs0 h1
      · obtain ⟨c1, h1, hc1⟩ := restrict_cell hy
        obtain ⟨_, hor⟩ := canon_own hc1.symm
        rcases hor with ⟨v1, rfl⟩ | ⟨rfl, _, _⟩
        · exact a3 y e' t' v1 l' h1 hyg
        · have : γ.φ y = .slice none 0 0 := (h.cell y _ h1).1
          have hyg : (γ.φ y).ownBlock = some g := hyg
          rw [this] at hyg
          simp [Value.ownBlock] at hyg
    · have : γ.φ x = .slice none 0 0 := (h.cell x _ h0).1
      have hg : (γ.φ x).ownBlock = some g := hg
      rw [this] at hg
      simp [Value.ownBlock] at hg
  · intro b b' bv bv' fz fz' cs cs' hb hb' he
    obtain ⟨rfl, v, cs0, h1, _, h3⟩ := hbox b bv fz cs hb
    obtain ⟨rfl, v', cs0', h1', _, h3'⟩ := hbox b' bv' fz' cs' hb'
    rw [h3, h3'] at he
    exact h.inj b b' v v' fz fz' cs0 cs0' h1 h1' he
  · intro x e t ver l hc hnl g hg
    obtain ⟨c0, h0, hc0⟩ := restrict_cell hc
    obtain ⟨_, hor⟩ := canon_own hc0.symm
    rcases hor with ⟨v, rfl⟩ | ⟨rfl, _, _⟩
    · exact h.fresh x e t v l h0 hnl g hg
    · have : γ.φ x = .slice none 0 0 := (h.cell x _ h0).1
      have hg : (γ.φ x).ownBlock = some g := hg
      rw [this] at hg
      simp [Value.ownBlock] at hg
  · intro k c j cl hc
    obtain ⟨c0, h0, _⟩ := restrict_cell hc
    exact h.lentloc k c j c0 h0
theorem setVer_sound {n : Nat} (h : Holds A X Fr env a w) : Holds A X Fr ((.ver, .num n) :: env) a w := by
  obtain ⟨γ, h⟩ := h
  have hb : ∀ b, Env.get ((.ver, .num n) :: env) (.box b) = env.get (.box b) := fun b => Env.get_cons_ne _ _ (by simp)
  have ht : ∀ t, Env.get ((.ver, .num n) :: env) (.tmp t) = env.get (.tmp t) := fun t => Env.get_cons_ne _ _ (by simp)
  have hc : ∀ x c, envCell ((.ver, .num n) :: env) x = some c → envCell env x = some c := by
    intro x c hx
    rw [envCell_cons] at hx
    split at hx
    · simp [AV.cell?] at hx
    · exact hx
  refine ⟨γ, { frame := h.frame, glob := h.glob, zone := h.zone, zone0 := h.zone0, defers := h.defers, size := h.size, ntl := h.ntl, baseB := h.baseB, tmp := fun t => by rw [ht]; exact h.tmp t, box := fun b ver fz cs hh => h.box b ver fz cs (by rwa [hb] at hh), cell := fun x c hx => h.cell x c (hc x c hx), own := ?_, inj := ?_, fresh := fun x e t ver l hx => h.fresh x e t ver l (hc x _ hx), lent := h.lent, lentloc := fun k c j cl hx => h.lentloc k c j cl (hc _ _ hx) }⟩
  · intro x e t ver l hx
    obtain ⟨k1, k2, k3⟩ := h.own x e t ver l (hc x _ hx)
    refine ⟨k1, k2, fun g hg => ?_⟩
    obtain ⟨a1, a2, a3⟩ := k3 g hg
    exact ⟨a1, fun b bv fz cs hh => a2 b bv fz cs (by rwa [hb] at hh), fun y e' t' v' l' hy => a3 y e' t' v' l' (hc y _ hy)⟩
  · intro b b' bv bv' fz fz' cs cs' h1 h2
    exact h.inj b b' bv bv' fz fz' cs cs' (by rwa [hb] at h1) (by rwa [hb] at h2)
theorem freezeCell_own {c : Cell} {e : TypeId} {t : Ty} {v : Nat} {l : List t.den} : freezeCell c ≠ .own e t v l := by cases c <;> simp [freezeCell]
def freezeTo : Nat → List Cell → List Cell
  | _, [] => []
  | 0, c :: r => c :: r
  | m + 1, c :: r => freezeCell c :: freezeTo m r
theorem freezeTo_all : ∀ (cs : List Cell), freezeTo cs.length cs = cs.map freezeCell
  | [] => rfl
  | c :: r => by simp [freezeTo, freezeTo_all r]
theorem freezeTo_zero : ∀ (cs : List Cell), freezeTo 0 cs = cs
  | [] => rfl
  | _ :: _ => rfl
theorem freezeTo_step : ∀ (m : Nat) (cs : List Cell) (c : Cell), cs[m]? = some c → freezeTo (m + 1) cs = setNth (freezeTo m cs) m (freezeCell c) ∧ (freezeTo m cs)[m]? = some c
  | m, [], c, h => by simp at h
  | 0, a :: r, c, h => by
    simp at h
    subst h
    simp [freezeTo, setNth, freezeTo_zero]
  | m + 1, a :: r, c, h => by
    obtain ⟨h1, h2⟩ := freezeTo_step m r c (by simpa using h)
    exact ⟨by simp [freezeTo, setNth] at h1 ⊢; exact h1, by simp [freezeTo, h2]⟩
theorem freeze_one (h : Holds A X Fr env a w) {x : Loc} {c : Cell} (hx : envCell env x = some c) (hnl : x.s.isLent = false) : Holds A X Fr (Upd.app env (.cell x (freezeCell c))) a w := by
  obtain ⟨γ, h⟩ := h
  have same : freezeCell c = c → Holds A X Fr (Upd.app env (.cell x (freezeCell c))) a w := by
    intro hs
    refine ⟨γ, h.flat x hx (by rw [hs]) ?_ ?_⟩
    · intro e t v l
      exact freezeCell_own
    · intro _
      rw [hs]
      exact (h.cell x c hx).1
  cases c with
  | own e t v l => exact ⟨_, h.freeze hx hnl⟩
  | nil e t =>
    refine ⟨γ, h.flat x hx (by simp [freezeCell, refs]) (fun _ _ _ _ => freezeCell_own) fun hr => ?_⟩
    have hr : γ.φ x = .slice none 0 0 := hr
    rw [hr]
    exact ⟨⟨none, 0, rfl, Nat.le_refl _, fun i x hx => by simp at hx⟩, by simp⟩
  | imm t l p =>
    refine ⟨γ, h.flat x hx (by simp [freezeCell, refs]) (fun _ _ _ _ => freezeCell_own) fun hr => ?_⟩
    exact ⟨hr.1, by simp⟩
  | _ => exact same rfl
theorem freezeAV_cells {s : Slot} (hnl : s.isLent = false) {cs : List Cell} (mk : List Cell → AV) (hmk : ∀ cs i, (mk cs).setCell 0 i = fun c => mk (setNth cs i c)) (hmc : ∀ cs i, (mk cs).cell? 0 i = cs[i]?)
    (h : Holds A X Fr env a w) (hs : env.get s = mk cs) : Holds A X Fr ((s, mk (cs.map freezeCell)) :: env) a w := by
  have key : ∀ m, m ≤ cs.length → Holds A X Fr ((s, mk (freezeTo m cs)) :: env) a w := by
    intro m
    induction m with
    | zero =>
      intro _
      rw [freezeTo_zero]
      obtain ⟨γ, h⟩ := h
      refine ⟨γ, h.ext fun s' => ?_⟩
      rw [Env.get_cons]
      split
      · rename_i hh; rw [← hh, hs]
      · rfl
    | succ m ih =>
      intro hm
      have h0 := ih (by omega)
      have hc : cs[m]? = some cs[m] := List.getElem?_eq_getElem (by omega)
      obtain ⟨h1, h2⟩ := freezeTo_step m cs _ hc
      have hx : envCell ((s, mk (freezeTo m cs)) :: env) ⟨s, 0, m⟩ = some cs[m] := by
        rw [envCell_cons, if_pos rfl, hmc, h2]
      obtain ⟨γ, h3⟩ := freeze_one h0 hx hnl
      refine ⟨γ, h3.ext fun s' => ?_⟩
      rw [get_app_cell, Env.get_cons, Env.get_cons]
      split
      · rename_i hh
        simp only [hmk]
        rw [h1]
      · rfl
  have := key cs.length (Nat.le_refl _)
  rwa [freezeTo_all] at this
theorem sealSlot_sound (h : Holds A X Fr env a w) (s : Slot) : Holds A X Fr (sealSlot s env) a w := by
  unfold sealSlot
  split
  · split
    · rename_i b _ v cs hb
      cases hok : (Nat.blt b lentBase && cs.all flatCell) with
      | false => exact h
      | true =>
        simp only [Bool.and_eq_true] at hok
        obtain ⟨γ, hc⟩ := h
        exact ⟨_, hc.freezeBox hb (Nat.le_of_ble_eq_true hok.1)⟩
    · exact h
  · exact h
theorem freezeSlots_sound : ∀ (ks : List Slot) {env : Env}, Holds A X Fr env a w → Holds A X Fr (freezeSlots ks env) a w
  | [], env, h => h
  | s :: r, env, h => by
    simp only [freezeSlots]
    refine freezeSlots_sound r (sealSlot_sound ?_ s)
    cases hnl : s.isLent with
    | true => exact h
    | false =>
      simp only [cond_false]
      have same : freezeAV (env.get s) = env.get s → Holds A X Fr ((s, freezeAV (env.get s)) :: env) a w := by
        intro hs
        rw [hs]
        obtain ⟨γ, h⟩ := h
        refine ⟨γ, h.ext fun s' => ?_⟩
        rw [Env.get_cons]
        split
        · rename_i hh; rw [hh]
        · rfl
      cases hg : env.get s with
      | val g cs => exact freezeAV_cells hnl (.val g) (fun _ _ => rfl) (fun _ _ => rfl) h hg
      | box v fz cs => exact freezeAV_cells hnl (.box v fz) (fun _ _ => rfl) (fun _ _ => rfl) h hg
      | tup l => rw [hg] at same; exact same rfl
      | undef => rw [hg] at same; exact same rfl
      | skip => rw [hg] at same; exact same rfl
      | num n => rw [hg] at same; exact same rfl
theorem solidSlot_sound (h : Holds A X Fr env a w) (s : Slot) : Holds A X Fr (solidSlot s env) a w := by
  unfold solidSlot
  split
  · rename_i x ver sz lo hi hs
    split
    · rename_i e t v l hx
      cases hok : (Nat.beq v ver && (Nat.beq sz t.size && (!x.s.isLent && (!s.isLent && !Slot.beq x.s s)))) with
      | false => exact h
      | true =>
        simp only [Bool.and_eq_true, Bool.not_eq_true'] at hok
        obtain ⟨hv, hsz, hnl, hsl, hne⟩ := hok
        obtain rfl : v = ver := Nat.eq_of_beq_eq_true hv
        have hne' : x.s ≠ s := fun e => by rw [e, Slot.beq_self] at hne; cases hne
        obtain ⟨γ, hc⟩ := h
        have hf := hc.freeze (x := x) hx hnl
        have hcs : envCell env ⟨s, 0, 0⟩ = some (.sub x v sz lo hi) := by unfold envCell; rw [hs]; rfl
        obtain ⟨r1, r2, r3⟩ := hc.cell ⟨s, 0, 0⟩ _ hcs
        have hsol : (solid (.sub x v sz lo hi)).eval env.get [] = some ((.imm t (cut l lo hi) none, [.row x]), [x.s]) := by
          simp only [solid, ownerAt, Rd.eval_bind, Rd.eval]
          rw [hx]
          simp [Rd.eval, hsz, Nat.beq_refl]
        have hrd := (slice_reads hc (c := .sub x v sz lo hi) ⟨r1, r2, r3, rfl⟩ hsol (fun g => γ.Z g ∨ (γ.φ x).ownBlock = some g) (by
          rintro g (hg | ⟨s', hs', hg⟩)
          · exact .inl hg
          · rw [List.mem_singleton.1 hs'] at hg; exact .inr hg)).1
        have hget : (Upd.app env (.cell x (.imm t l none))).get s = env.get s := by
          rw [get_app_cell, if_neg hne']
        have hcs2 : envCell (Upd.app env (.cell x (.imm t l none))) ⟨s, 0, 0⟩ = some (.sub x v sz lo hi) := by
          unfold envCell; rw [hget, hs]; rfl
        have hfl := hf.flat' ⟨s, 0, 0⟩ (c' := .imm t (cut l lo hi) none) hcs2 (fun r hr => by simp [refs] at hr) (fun _ _ _ _ hh => by cases hh) (fun _ => hrd)
        refine ⟨_, hfl.ext fun s' => ?_⟩
        simp only [cond_true]
        rw [get_app_cell, Env.get_cons]
        split
        · rename_i hh
          rw [← hh, hget, hs]
          rfl
        · rfl
    · exact h
  · exact h
theorem solidSlots_sound : ∀ (ks : List Slot) {env : Env}, Holds A X Fr env a w → Holds A X Fr (solidSlots ks env) a w
  | [], _, h => h
  | s :: r, _, h => solidSlots_sound r (solidSlot_sound h s)
theorem head_sound (h : Holds A X Fr env a w) (k : Keep) : St A X (k.head env) a w := restrict_sound (freezeSlots_sound k.froz (solidSlots_sound k.froz h)) k.slots
theorem run_sound {ρ : Type} (K : Known A X) (hm : A.P.follows .mixedOrders = true) : ∀ (c : Code) (env : Env) (k : Ex → Env → Option ρ) (out : ρ) (Q : Exit → Act → World → Prop) (a : Act) (w : World), run X c env k = some out → St A X env a w →
    (∀ e env' a' w', k e env' = some out → St A X env' a' w' → Q (exOf e) a' w') → c.wp A.P Q a w := by
  intro c
  induction c with
  | skip => intro env k out Q a w hr hs hk; exact wp_skip (hk .normal env a w hr hs)
  | label l => intro env k out Q a w hr hs hk; exact wp_label (hk .normal env a w hr hs)
  | exit id => intro env k out Q a w hr hs hk; exact wp_exit (hk (.exit id) env a w hr hs)
  | ret => intro env k out Q a w hr hs hk; exact wp_ret (hk .ret env a w hr hs)
  | region id ops draw =>
    intro env k out Q a w hr hs hk
    have hp : Holds A X (fun v => env.ver ≤ v) (X.pre id env) a w := by
      unfold Ctx.pre
      split
      · exact freezeSlots_sound _ hs
      · exact hs
    have hs' : Holds A X (fun v => env.ver ≤ v) (bif draw then preSeal ops.toList (X.pre id env) else X.pre id env) a w := by
      cases draw with
      | false => exact hp
      | true => exact preSeal_sound _ hp
    refine region_sound K hm (vn := env.ver) hs' hr fun env' a' w' hK hh => hk .normal _ a' w' hK ?_
    have hv : Env.ver ((.ver, .num (env.ver + ops.size)) :: env') = env.ver + ops.size := by simp [Env.ver, Env.get_cons_self]
    unfold St
    rw [hv]
    exact setVer_sound hh
  | seq x y ihx ihy =>
    intro env k out Q a w hr hs hk
    refine wp_seq (ihx env _ out _ a w hr hs fun e env' a' w' hK hh => ?_)
    cases e with
    | normal => exact ihy env' k out Q a' w' hK hh hk
    | exit id => exact hk (.exit id) env' a' w' hK hh
    | goto l => exact hk (.goto l) env' a' w' hK hh
    | ret => exact hk .ret env' a' w' hK hh
  | cond c x y ihx ihy =>
    intro env k out Q a w hr hs hk
    obtain ⟨t, lg, he, hr⟩ := Rd.cps_some _ _ _ _ _ hr
    obtain ⟨γ, hc⟩ := hs
    have hb := rdBool_sound hc he
    refine wp_cond hb ?_
    cases t with
    | true => exact ihx env k out Q a w hr ⟨γ, hc⟩ hk
    | false => exact ihy env k out Q a w hr ⟨γ, hc⟩ hk
  | block id x ih =>
    intro env k out Q a w hr hs hk
    refine wp_block (ih env _ out _ a w hr hs fun e env' a' w' hK hh => ?_)
    cases e with
    | normal => exact hk .normal env' a' w' hK hh
    | exit j =>
      simp only [exOf, Exit.inBlock]
      simp only at hK
      cases hj : Nat.beq j id with
      | true =>
        rw [hj] at hK
        rw [if_pos (Nat.eq_of_beq_eq_true hj)]
        exact hk .normal env' a' w' hK hh
      | false =>
        rw [hj] at hK
        rw [if_neg (fun e => by rw [e, Nat.beq_refl] at hj; cases hj)]
        exact hk (.exit j) env' a' w' hK hh
    | goto l => exact hk (.goto l) env' a' w' hK hh
    | ret => exact hk .ret env' a' w' hK hh
  | loop x ih =>
    intro env k out Q a w hr hs hk
    simp only [run] at hr
    split at hr
    · rename_i kp _
      refine wp_loop_fuel (fun m a w => ∃ env, lrun (run X x) kp m env k = some out ∧ St A X env a w) (m := X.n) ⟨_, hr, head_sound hs kp⟩ ?_
      rintro m a w ⟨env, hr, hs⟩
      cases m with
      | zero => simp [lrun] at hr
      | succ m =>
        refine ih env _ out _ a w hr hs fun e env' a' w' hK hh => ?_
        cases e with
        | normal => exact ⟨m, Nat.lt_succ_self m, _, hK, head_sound hh kp⟩
        | exit id => exact hk (.exit id) env' a' w' hK hh
        | goto l => exact hk (.goto l) env' a' w' hK hh
        | ret => exact hk .ret env' a' w' hK hh
    · cases hr
  | rangeFunc f ps x y ihx ihy => intro env k out Q a w hr; simp [run] at hr
  | scope x ih => intro env k out Q a w hr; simp [run] at hr
  | goto l => intro env k out Q a w hr; simp [run] at hr
  | refuse s => intro env k out Q a w hr; simp [run] at hr
end
end
end Go.VI
namespace Go.VI
noncomputable section
open Go.RowKit
section
variable {A : Fix} {X : Ctx} {γ : Gh} {Fr : Nat → Prop} {env env' : Env} {a : Act} {w w' : World}
def OCell (A : Fix) (γ : Gh) (Fr : Nat → Prop) (env : Env) (w : World) (c : Cell) (u : Value) (o : Option Loc) : Prop :=
  match c with
  | .own e t _ l => (∃ x ver, o = some x ∧ envCell env x = some (.own e t ver l) ∧ u = γ.φ x ∧ x.s.isLent = false) ∨ (o = none ∧ u = .slice none 0 0 ∧ l = [] ∧ 0 < t.size)
  | c => GoodR A γ w Fr c u ∧ o = none
def OCells (A : Fix) (γ : Gh) (Fr : Nat → Prop) (env : Env) (w : World) (xs xs' : List Loc) (cs : List Cell) (us : List Value) (os : List (Option Loc)) : Prop :=
  us.length = cs.length ∧ os.length = cs.length ∧ (∀ (j : Nat) (c : Cell) (u : Value) (o : Option Loc), cs[j]? = some c → us[j]? = some u → os[j]? = some o → OCell A γ Fr env w c u o ∧ ∀ x, o = some x → x ∈ xs' ∧ x ∉ xs) ∧
  (∀ (j j' : Nat) (x : Loc), os[j]? = some (some x) → os[j']? = some (some x) → j = j') ∧ ∀ x ∈ xs, x ∈ xs'
theorem outCells_sound (h : Core A X γ Fr env a w) : ∀ (cs : List Cell) (xs : List Loc) (us : List Value) (cs' : List Cell) (xs' : List Loc) (l0 l1 : List Slot), RelCs A γ w Fr cs us →
    (outCells xs cs).eval env.get l0 = some ((cs', xs'), l1) → ∃ os, OCells A γ Fr env w xs xs' cs' us os
  | [], xs, us, cs', xs', l0, l1, hr, he => by
    simp only [outCells, Rd.eval, Option.some.injEq, Prod.mk.injEq] at he
    obtain ⟨⟨rfl, rfl⟩, _⟩ := he
    rw [show us = [] from hr]
    exact ⟨[], rfl, rfl, by simp, by simp, fun x hx => hx⟩
  | c :: r, xs, us0, cs', xs', l0, l1, hr0, he => by
    obtain ⟨u, us', rfl, hg, hr⟩ := hr0
    have cons : ∀ (c' : Cell) (o : Option Loc) (xs1 : List Loc) (q1 : List Cell) (os : List (Option Loc)), OCell A γ Fr env w c' u o → (∀ x, o = some x → x ∈ xs1 ∧ x ∉ xs) → (∀ x ∈ xs, x ∈ xs1) → OCells A γ Fr env w xs1 xs' q1 us' os →
        OCells A γ Fr env w xs xs' (c' :: q1) (u :: us') (o :: os) := by
      intro c' o xs1 q1 os k1 k2 k3 ⟨m1, m2, m3, m4, m5⟩
      refine ⟨by simp [m1], by simp [m2], fun j c u' o' hc hu ho => ?_, fun j j' x hj hj' => ?_, fun x hx => m5 x (k3 x hx)⟩
      · cases j with
        | zero =>
          simp at hc hu ho
          subst hc; subst hu; subst ho
          exact ⟨k1, fun x hx => ⟨m5 x (k2 x hx).1, (k2 x hx).2⟩⟩
        | succ j =>
          obtain ⟨n1, n2⟩ := m3 j c u' o' (by simpa using hc) (by simpa using hu) (by simpa using ho)
          exact ⟨n1, fun x hx => ⟨(n2 x hx).1, fun hm => (n2 x hx).2 (k3 x hm)⟩⟩
      · have far : ∀ (k : Nat) (x : Loc), o = some x → os[k]? = some (some x) → False := by
          intro k x ho hk
          have hlt : k < q1.length := by rw [← m2]; exact (List.getElem?_eq_some_iff.1 hk).1
          have := (m3 k _ _ _ (List.getElem?_eq_getElem hlt) (List.getElem?_eq_getElem (by omega)) hk).2 x rfl
          exact this.2 (k2 x ho).1
        cases j with
        | zero => cases j' with
          | zero => rfl
          | succ j' => simp at hj hj'; exact (far j' x hj hj').elim
        | succ j => cases j' with
          | zero => simp at hj hj'; exact (far j x hj' hj).elim
          | succ j' => rw [m4 j j' x (by simpa using hj) (by simpa using hj')]
    have plain : (∀ e t v l, c ≠ .own e t v l) → ((outCells xs r).bind fun q => Rd.pure (c :: q.1, q.2)).eval env.get l0 = some ((cs', xs'), l1) → ∃ os, OCells A γ Fr env w xs xs' cs' (u :: us') os := by
      intro hno he
      simp only [Rd.eval_bind, Option.bind_eq_some_iff] at he
      obtain ⟨⟨⟨q1, q2⟩, l2⟩, h1, h2⟩ := he
      simp only [Rd.eval, Option.some.injEq, Prod.mk.injEq] at h2
      obtain ⟨⟨rfl, rfl⟩, _⟩ := h2
      obtain ⟨os, ho⟩ := outCells_sound h r xs us' q1 _ l0 l2 hr h1
      refine ⟨none :: os, cons c none xs q1 os ?_ (by simp) (fun x hx => hx) ho⟩
      unfold OCell
      split
      · exact absurd rfl (hno _ _ _ _)
      · exact ⟨hg, rfl⟩
    cases c with
    | view x ver =>
      simp only [outCells] at he
      cases hmm : (memLoc x xs || x.s.isLent) with
      | true => rw [hmm] at he; simp [Rd.eval] at he
      | false =>
        rw [hmm] at he
        simp only [Bool.or_eq_false_iff] at hmm
        obtain ⟨hm, hnl⟩ := hmm
        simp only [cond_false, Rd.eval_bind, Option.bind_eq_some_iff] at he
        obtain ⟨⟨⟨e, t, l⟩, l2⟩, h1, ⟨⟨q1, q2⟩, l3⟩, h2, h3⟩ := he
        simp only [Rd.eval, Option.some.injEq, Prod.mk.injEq] at h3
        obtain ⟨⟨rfl, rfl⟩, _⟩ := h3
        have hx := ownerAt_eval h1
        obtain ⟨os, ho⟩ := outCells_sound h r (x :: xs) us' q1 _ l2 l3 hr h2
        have hnx : x ∉ xs := fun hh => by rw [(memLoc_iff x xs).2 hh] at hm; cases hm
        refine ⟨some x :: os, cons _ (some x) (x :: xs) q1 os (.inl ⟨x, ver, rfl, hx, hg.1.trans (h.own x e t ver l hx).1, hnl⟩) (fun y hy => ?_) (fun y hy => by simp [hy]) ho⟩
        injection hy with hy
        subst hy
        exact ⟨by simp, hnx⟩
    | nil e t =>
      simp only [outCells] at he
      cases hs : Nat.blt 0 t.size with
      | false => rw [hs] at he; simp [Rd.eval] at he
      | true =>
        rw [hs] at he
        simp only [cond_true, Rd.eval_bind, Option.bind_eq_some_iff] at he
        obtain ⟨⟨⟨q1, q2⟩, l2⟩, h1, h2⟩ := he
        simp only [Rd.eval, Option.some.injEq, Prod.mk.injEq] at h2
        obtain ⟨⟨rfl, rfl⟩, _⟩ := h2
        obtain ⟨os, ho⟩ := outCells_sound h r xs us' q1 _ l0 l2 hr h1
        exact ⟨none :: os, cons _ none xs q1 os (.inr ⟨rfl, hg.1, rfl, Nat.le_of_ble_eq_true hs⟩) (by simp) (fun x hx => hx) ho⟩
    | int k n => exact plain (by simp) he
    | bool b => exact plain (by simp) he
    | str s => exact plain (by simp) he
    | imm t l p => exact plain (by simp) he
    | _ => simp [outCells, Rd.eval] at he
def Outs (A : Fix) (γ : Gh) (Fr : Nat → Prop) (env : Env) (w : World) : List Loc → Out → List Value → Prop
  | _, [], vs => vs = []
  | xs, p :: r, vs => ∃ us os vs' xs', vs = mkVal p.1 us :: vs' ∧ (p.1 = false → us.length = 1) ∧ OCells A γ Fr env w xs xs' p.2 us os ∧ Outs A γ Fr env w xs' r vs'
theorem outOf_sound (h : Core A X γ Fr env a w) (K : Known A X) : ∀ (rs : List ResultVar) (xs : List Loc) (out : Out) (l0 l1 : List Slot), (outOf X xs rs).eval env.get l0 = some (out, l1) →
    ∃ vs, (rs.mapM fun | .tmp t => pure (a.tmps.getD t undef) | .cell b t => do loadVar t (← asAddr (a.tmps.getD b undef)) : Sem (List Value)).run A.P w = .ok vs w ∧ Outs A γ Fr env w xs out vs
  | [], xs, out, l0, l1, he => by
    simp only [outOf, Rd.eval, Option.some.injEq, Prod.mk.injEq] at he
    obtain ⟨rfl, _⟩ := he
    exact ⟨[], rfl, rfl⟩
  | .tmp t :: r, xs, out, l0, l1, he => by
    simp only [outOf, Rd.eval] at he
    have hr := h.asRead t
    revert he hr
    generalize asRead (.tmp t) (env.get (.tmp t)) = av
    intro he hr
    cases av with
    | val g cs =>
      simp only [Rd.eval_bind, Option.bind_eq_some_iff] at he
      obtain ⟨⟨⟨cs', xs'⟩, l2⟩, h1, ⟨q, l3⟩, h2, h3⟩ := he
      simp only [Rd.eval, Option.some.injEq, Prod.mk.injEq] at h3
      obtain ⟨rfl, _⟩ := h3
      obtain ⟨us, hv, hg, hcs⟩ := hr
      obtain ⟨os, ho⟩ := outCells_sound h cs xs us cs' xs' _ _ hcs h1
      obtain ⟨vs, k1, k2⟩ := outOf_sound h K r xs' q _ _ h2
      refine ⟨mkVal g us :: vs, ?_, us, os, vs, xs', rfl, fun hgf => by rw [hcs.length]; exact hg hgf, ho, k2⟩
      simp only [List.mapM_cons, Sem.run_bind, Sem.run_pure, Result.andThen_ok, k1, hv]
    | skip => simp [Rd.eval] at he
    | undef => simp [Rd.eval] at he
    | tup l => simp [Rd.eval] at he
    | box _ _ _ => simp [Rd.eval] at he
    | num _ => simp [Rd.eval] at he
  | .cell b T :: r, xs, out, l0, l1, he => by
    simp only [outOf, Rd.eval_bind, Option.bind_eq_some_iff, Ctx.ti, Rd.eval_ofOpt, Option.map_eq_some_iff] at he
    obtain ⟨_, ⟨ti, m1, rfl⟩, ⟨c, l2⟩, m2, ⟨cs, l3⟩, m3, ⟨⟨cs', xs'⟩, l4⟩, m4, ⟨q, l5⟩, m5, m6⟩ := he
    simp only [Rd.eval, Option.some.injEq, Prod.mk.injEq] at m6
    obtain ⟨rfl, _⟩ := m6
    have ht := K.types T ti m1
    obtain ⟨ad, us, hv, hr, hl, hc⟩ := cellsAt_sound h K.globals (rdCell_sound h m2) m3
    obtain ⟨os, ho⟩ := outCells_sound h cs xs us cs' xs' _ _ hr m4
    obtain ⟨vs, k1, k2⟩ := outOf_sound h K r xs' q _ _ m5
    have hv : a.tmps.getD b undef = .pointer (some ad) := hv
    refine ⟨mkVal ti.agg us :: vs, ?_, us, os, vs, xs', rfl, fun hg => by rw [hl]; exact ht.one hg, ho, k2⟩
    have hasA : (asAddr (a.tmps.getD b undef)).run A.P w = .ok ad w := by rw [hv]; rfl
    simp only [List.mapM_cons, Sem.run_bind, hasA, Sem.run_pure, Result.andThen_ok, run_loadVar_at ht hl hc, k1]
theorem Outs.all : ∀ (out : Out) (xs : List Loc) (vs : List Value), Outs A γ Fr env w xs out vs → ∃ (f : Nat → Nat → Value) (loc : Nat → Nat → Option Loc), vs.length = out.length ∧
    (∀ i p, out[i]? = some p → vs[i]? = some (mkVal p.1 ((List.range p.2.length).map (f i))) ∧ (p.1 = false → p.2.length = 1) ∧ ∀ j c, p.2[j]? = some c → OCell A γ Fr env w c (f i j) (loc i j)) ∧
    (∀ i j x, loc i j = some x → x ∉ xs) ∧ ∀ i j i' j' x, loc i j = some x → loc i' j' = some x → i = i' ∧ j = j'
  | [], xs, vs, h => ⟨fun _ _ => undef, fun _ _ => none, by rw [show vs = [] from h]; rfl, by simp, by simp, by simp⟩
  | p :: r, xs, vs, ⟨us, os, vs', xs', h1, h2, ⟨m1, m2, m3, m4, m5⟩, h4⟩ => by
    obtain ⟨f, loc, k1, k2, k3, k4⟩ := Outs.all r xs' vs' h4
    have hos : ∀ j x, os.getD j none = some x → os[j]? = some (some x) := by
      intro j x hj
      rw [List.getD_eq_getElem?_getD] at hj
      cases ho : os[j]? with
      | none => rw [ho] at hj; cases hj
      | some o => rw [ho] at hj; rw [show o = some x from hj]
    have hin : ∀ j x, os.getD j none = some x → x ∈ xs' ∧ x ∉ xs := by
      intro j x hj
      have ho := hos j x hj
      have hlt : j < p.2.length := by rw [← m2]; exact (List.getElem?_eq_some_iff.1 ho).1
      exact (m3 j _ _ _ (List.getElem?_eq_getElem hlt) (List.getElem?_eq_getElem (by omega)) ho).2 x rfl
    refine ⟨fun i j => match i with | 0 => us.getD j undef | i + 1 => f i j, fun i j => match i with | 0 => os.getD j none | i + 1 => loc i j, by rw [h1]; simp [k1], fun i q hq => ?_, fun i j x hx => ?_, fun i j i' j' x hx hx' => ?_⟩
    · cases i with
      | zero =>
        simp only [List.getElem?_cons_zero, Option.some.injEq] at hq
        subst hq
        refine ⟨by rw [h1, range_map_getD us _ m1]; rfl, fun hg => by rw [← m1]; exact h2 hg, fun j c hc => ?_⟩
        have hlt : j < p.2.length := (List.getElem?_eq_some_iff.1 hc).1
        have hu : us[j]? = some us[j] := List.getElem?_eq_getElem (by omega)
        have ho : os[j]? = some os[j] := List.getElem?_eq_getElem (by omega)
        have := (m3 j c _ _ hc hu ho).1
        have e2 : os.getD j none = os[j] := by simp [List.getD, ho]
        simp only [getD_of hu, e2]
        exact this
      | succ i =>
        obtain ⟨g1, g2, g3⟩ := k2 i q (by simpa using hq)
        exact ⟨by rw [h1]; simpa using g1, g2, g3⟩
    · cases i with
      | zero => exact (hin j x hx).2
      | succ i => exact fun hm => k3 i j x hx (m5 x hm)
    · cases i with
      | zero => cases i' with
        | zero => exact ⟨rfl, m4 j j' x (hos j x hx) (hos j' x hx')⟩
        | succ i' => exact (k3 i' j' x hx' (hin j x hx).1).elim
      | succ i => cases i' with
        | zero => exact (k3 i j x hx (hin j' x hx').1).elim
        | succ i' => obtain ⟨e1, e2⟩ := k4 i j i' j' x hx hx'; exact ⟨by rw [e1], e2⟩
inductive Dec : Cell → RCell → Prop where
  | flat (c : Cell) (h : zcell c = true) (ho : ∀ e t v l, c ≠ .own e t v l) : Dec c (.flat c)
  | own (e : TypeId) (t : Ty) (v : Nat) (l : List t.den) : Dec (.own e t v l) (.own e t l)
  | froze (e : TypeId) (t : Ty) (v : Nat) (l : List t.den) : Dec (.own e t v l) (.imm t l)
  | imm (t : Ty) (l : List t.den) (p : Option Nat) : Dec (.imm t l p) (.imm t l)
  | pass (t : Ty) (l : List t.den) (j : Nat) : Dec (.imm t l (some j)) (.pass j)
def Decs (cs : List Cell) (rs : List RCell) : Prop := cs.length = rs.length ∧ ∀ (j : Nat) (c : Cell) (rc : RCell), cs[j]? = some c → rs[j]? = some rc → Dec c rc
theorem Decs.append {cs cs' : List Cell} {rs rs' : List RCell} (h : Decs cs rs) (h' : Decs cs' rs') : Decs (cs ++ cs') (rs ++ rs') := by
  refine ⟨by simp [h.1, h'.1], fun j c rc hc hr => ?_⟩
  by_cases hj : j < cs.length
  · rw [List.getElem?_append_left hj] at hc
    rw [List.getElem?_append_left (by rw [← h.1]; exact hj)] at hr
    exact h.2 j c rc hc hr
  · rw [List.getElem?_append_right (by omega)] at hc
    rw [List.getElem?_append_right (by rw [← h.1]; omega), ← h.1] at hr
    exact h'.2 _ c rc hc hr
theorem Decs.one {c : Cell} {rc : RCell} (h : Dec c rc) : Decs [c] [rc] := ⟨rfl, fun j c' rc' hc hr => by
  cases j <;> simp at hc hr
  subst hc; subst hr; exact h⟩
theorem decodeM_sound : ∀ (t : Ty) (ms : List RMode) (cs : List Cell) (x : t.den) (r : List Cell) (ms' : List RMode), decodeM t ms cs = some (x, r, ms') → ∃ c1, cs = c1 ++ r ∧ Decs c1 (resM t x ms).1 ∧ (resM t x ms).2 = ms'
  | .int k, ms, cs, x, r, ms', h => by
    cases cs with
    | nil => simp [decodeM] at h
    | cons c cs =>
      cases c <;> simp [decodeM] at h
      obtain ⟨rfl, rfl, rfl, rfl⟩ := h
      exact ⟨_, rfl, Decs.one (.flat _ rfl (by simp)), rfl⟩
  | .bool, ms, cs, x, r, ms', h => by
    cases cs with
    | nil => simp [decodeM] at h
    | cons c cs =>
      cases c <;> simp [decodeM] at h
      obtain ⟨rfl, rfl, rfl⟩ := h
      exact ⟨_, rfl, Decs.one (.flat _ rfl (by simp)), rfl⟩
  | .str, ms, cs, x, r, ms', h => by
    cases cs with
    | nil => simp [decodeM] at h
    | cons c cs =>
      cases c <;> simp [decodeM] at h
      obtain ⟨rfl, rfl, rfl⟩ := h
      exact ⟨_, rfl, Decs.one (.flat _ rfl (by simp)), rfl⟩
  | .unit, ms, cs, x, r, ms', h => by
    simp [decodeM] at h
    obtain ⟨rfl, rfl⟩ := h
    exact ⟨[], rfl, ⟨rfl, by simp⟩, rfl⟩
  | .pair a b, ms, cs, x, r, ms', h => by
    simp only [decodeM, Option.bind_eq_some_iff] at h
    obtain ⟨⟨x1, r1, m1⟩, h1, ⟨x2, r2, m2⟩, h2, h3⟩ := h
    simp only [Option.some.injEq, Prod.mk.injEq] at h3
    obtain ⟨rfl, rfl, rfl⟩ := h3
    obtain ⟨c1, rfl, d1, e1⟩ := decodeM_sound a ms cs x1 r1 m1 h1
    obtain ⟨c2, e0, d2, e2⟩ := decodeM_sound b m1 r1 x2 r2 m2 h2
    refine ⟨c1 ++ c2, by rw [e0, List.append_assoc], ?_, ?_⟩
    · simp only [resM, e1]; exact d1.append d2
    · simp only [resM, e1]; exact e2
  | .sl t, ms, cs, x, r, ms', h => by
    cases ms with
    | nil => simp [decodeM] at h
    | cons m ms =>
      cases cs with
      | nil => cases m <;> simp [decodeM] at h
      | cons c cs =>
        cases m with
        | own e =>
          cases c <;> simp only [decodeM, reduceCtorEq] at h
          split at h
          · rename_i hh
            obtain ⟨rfl, rfl⟩ := hh
            simp only [Option.some.injEq, Prod.mk.injEq] at h
            obtain ⟨rfl, rfl, rfl⟩ := h
            exact ⟨_, rfl, Decs.one (.own _ _ _ _), rfl⟩
          · cases h
        | imm =>
          cases c <;> simp only [decodeM, reduceCtorEq] at h
          · split at h
            · rename_i hh
              subst hh
              simp only [Option.some.injEq, Prod.mk.injEq] at h
              obtain ⟨rfl, rfl, rfl⟩ := h
              exact ⟨_, rfl, Decs.one (.froze _ _ _ _), rfl⟩
            · cases h
          · split at h
            · rename_i hh
              subst hh
              simp only [Option.some.injEq, Prod.mk.injEq] at h
              obtain ⟨rfl, rfl, rfl⟩ := h
              exact ⟨_, rfl, Decs.one (.imm _ _ _), rfl⟩
            · cases h
        | pass j =>
          cases c <;> try (simp [decodeM] at h; done)
          rename_i t' l p
          cases p with
          | none => simp [decodeM] at h
          | some j' =>
            simp only [decodeM] at h
            split at h
            · rename_i hh
              obtain ⟨rfl, rfl⟩ := hh
              simp only [Option.some.injEq, Prod.mk.injEq] at h
              obtain ⟨rfl, rfl, rfl⟩ := h
              exact ⟨_, rfl, Decs.one (.pass _ _ _), rfl⟩
            · cases h
theorem decodeL_sound : ∀ (R : List (Bool × Ty)) (ms : List RMode) (out : Out) (r : denL R), decodeL R ms out = some r →
    out.length = (resL R r ms).length ∧ ∀ (i : Nat) (p : Bool × List RCell) (q : Bool × List Cell), (resL R r ms)[i]? = some p → out[i]? = some q → q.1 = p.1 ∧ Decs q.2 p.2
  | [], ms, out, r, h => by
    cases out with
    | nil => exact ⟨rfl, by simp⟩
    | cons p q => simp [decodeL] at h
  | p :: R, ms, out, r, h => by
    cases out with
    | nil => simp [decodeL] at h
    | cons q out =>
      obtain ⟨g, cs⟩ := q
      simp only [decodeL] at h
      cases hg : (p.1 == g) with
      | false => rw [hg] at h; simp at h
      | true =>
        rw [hg] at h
        have hg : p.1 = g := by simpa using hg
        simp only [cond_true] at h
        split at h
        · rename_i x ms' hx
          simp only [Option.map_eq_some_iff] at h
          obtain ⟨y, h1, rfl⟩ := h
          obtain ⟨c1, e1, d1, e2⟩ := decodeM_sound p.2 ms cs x [] ms' hx
          rw [List.append_nil] at e1
          subst e1
          obtain ⟨k1, k2⟩ := decodeL_sound R ms' out y h1
          simp only [resL, e2]
          refine ⟨by simp [k1], fun i p' q' hp hq => ?_⟩
          cases i with
          | zero =>
            simp at hp hq
            subst hp; subst hq
            exact ⟨hg.symm, d1⟩
          | succ i => exact k2 i p' q' (by simpa using hp) (by simpa using hq)
        · cases h
theorem OwnV.rebase {Z : Nat → Prop} {w : World} {B B' : Nat} {e : TypeId} {t : Ty} {v : Value} {l : List t.den} (h : OwnV Z w B e t v l) (hB : ∀ g, v.ownBlock = some g → B' ≤ g) : OwnV Z w B' e t v l := by
  obtain ⟨h0, xs, ho, hr⟩ := h
  refine ⟨h0, xs, ⟨ho.1, ?_⟩, hr⟩
  rcases ho.2 with hn | ⟨g, cap, cur, fz, h1, h2, rest⟩
  · exact .inl hn
  · exact .inr ⟨g, cap, cur, fz, h1, hB g (by rw [h1]; rfl), rest⟩
theorem fin_rel (h : Core A X γ Fr env a w) {R : List (Bool × Ty)} {ms : List RMode} {out : Out} {r : denL R} {vs : List Value} (hd : decodeL R ms out = some r) (ho : Outs A γ Fr env w [] out vs) :
    ∃ Z', (∀ g, γ.Z g → Z' g) ∧ (∀ g, Z' g → γ.Z g ∨ (A.w0.heap.size ≤ g ∧ g < w.heap.size)) ∧ ResRel Z' w A.w0.heap.size A.pars (resL R r ms) vs := by
  obtain ⟨f, loc, k1, k2, _, k4⟩ := ho.all
  obtain ⟨d1, d2⟩ := decodeL_sound R ms out r hd
  have hout : ∀ (i : Nat) (p : Bool × List RCell), (resL R r ms)[i]? = some p → ∃ q, out[i]? = some q ∧ q.1 = p.1 ∧ Decs q.2 p.2 := by
    intro i p hp
    have hlt : i < out.length := by rw [d1]; exact (List.getElem?_eq_some_iff.1 hp).1
    exact ⟨_, List.getElem?_eq_getElem hlt, d2 i p _ hp (List.getElem?_eq_getElem hlt)⟩
  have hcell : ∀ (i j : Nat) (p : Bool × List RCell) (rc : RCell), (resL R r ms)[i]? = some p → p.2[j]? = some rc → ∃ c, Dec c rc ∧ OCell A γ Fr env w c (f i j) (loc i j) := by
    intro i j p rc hp hj
    obtain ⟨q, hq, _, hdec⟩ := hout i p hp
    have hlt : j < q.2.length := by rw [hdec.1]; exact (List.getElem?_eq_some_iff.1 hj).1
    exact ⟨_, hdec.2 j _ rc (List.getElem?_eq_getElem hlt) hj, (k2 i q hq).2.2 j _ (List.getElem?_eq_getElem hlt)⟩
  refine ⟨fun g => γ.Z g ∨ ∃ (i j : Nat) (p : Bool × List RCell) (t : Ty) (l : List t.den) (x : Loc) (e : TypeId) (ver : Nat) (l' : List t.den), (resL R r ms)[i]? = some p ∧ p.2[j]? = some (.imm t l) ∧ loc i j = some x ∧ envCell env x = some (.own e t ver l') ∧ x.s.isLent = false ∧ (γ.φ x).ownBlock = some g,
    fun g hg => .inl hg, ?_, f, by rw [k1, d1], fun i p hp => ?_, ?_⟩
  · rintro g (hg | ⟨i, j, p, t, l, x, e, ver, l', _, _, _, hx, hnl, hb⟩)
    · exact .inl hg
    · exact .inr ⟨h.fresh x _ _ _ _ hx hnl g hb, ((h.cell x _ hx).1.lt g hb).2⟩
  · obtain ⟨q, hq, hq1, hdec⟩ := hout i p hp
    obtain ⟨g1, g2, _⟩ := k2 i q hq
    rw [hq1, hdec.1] at g1 g2
    refine ⟨g1, g2, fun j rc hrc => ?_⟩
    obtain ⟨c, hdc, hoc⟩ := hcell i j p rc hp hrc
    cases hdc with
    | flat c hz hno =>
      have hg : GoodR A γ w Fr c (f i j) := by
        unfold OCell at hoc
        split at hoc
        · exact absurd rfl (hno _ _ _ _)
        · exact hoc.1
      refine ⟨hz, ?_⟩
      cases c <;> simp [zcell] at hz
      all_goals exact hg.1
    | own e t v l =>
      rcases hoc with ⟨x, ver, hlx, hx, hu, hnl⟩ | ⟨_, hu, rfl, hs⟩
      · refine ⟨by rw [hu]; exact OwnV.rebase ((h.cell x _ hx).1.mono (fun g hg => .inl hg) (fun _ _ => rfl) (fun _ _ => rfl)) (fun g hg => h.fresh x _ _ _ _ hx hnl g hg), fun g hg => ?_⟩
        rw [hu] at hg
        obtain ⟨a1, a2, a3⟩ := (h.own x e t ver l hx).2.2 g hg
        rintro (hz | ⟨i', j', p', t', l1, x', e', ver', l', hp', hj', hlx', hx', _, hb⟩)
        · exact a1 hz
        · have hxx := a3 x' e' t' ver' l' hx' hb
          subst hxx
          obtain ⟨rfl, rfl⟩ := k4 i j i' j' x' hlx hlx'
          rw [hp] at hp'
          injection hp' with hp'
          subst hp'
          rw [hrc] at hj'
          cases hj'
      · rw [hu]
        exact ⟨OwnV.nil hs, fun g hg => by simp [Value.ownBlock] at hg⟩
    | froze e t v l =>
      rcases hoc with ⟨x, ver, hlx, hx, hu, hnl⟩ | ⟨_, hu, rfl, hs⟩
      · simp only [RRel]
        rw [hu]
        exact (h.cell x _ hx).1.reads _ (fun g hg => .inl hg) (fun g hg => .inr ⟨i, j, p, t, l, x, e, ver, l, hp, hrc, hlx, hx, hnl, hg⟩)
      · simp only [RRel]
        rw [hu]
        exact ⟨none, 0, rfl, Nat.le_refl _, fun i x hx => by simp at hx⟩
    | imm t l pr =>
      have hg : GoodR A γ w Fr (.imm t l pr) (f i j) := hoc.1
      exact RepI.mono (fun g hg => .inl hg) (fun _ _ => rfl) _ _ _ hg.1.1
    | pass t l k =>
      have hg : GoodR A γ w Fr (.imm t l (some k)) (f i j) := hoc.1
      exact hg.1.2 k rfl
  · intro i j i' j' p p' rc rc' g hp hj hr hp' hj' hr' hg hg'
    obtain ⟨c, hdc, hoc⟩ := hcell i j p rc hp hj
    obtain ⟨c', hdc', hoc'⟩ := hcell i' j' p' rc' hp' hj'
    cases hdc <;> simp [RCell.isOwn] at hr
    cases hdc' <;> simp [RCell.isOwn] at hr'
    rcases hoc with ⟨x, ver, hlx, hx, hu, _⟩ | ⟨_, hu, _, _⟩
    · rcases hoc' with ⟨x', ver', hlx', hx', hu', _⟩ | ⟨_, hu', _, _⟩
      · rw [hu] at hg
        rw [hu'] at hg'
        have := ((h.own x _ _ _ _ hx).2.2 g hg).2.2 x' _ _ _ _ hx' hg'
        subst this
        exact k4 i j i' j' x' hlx hlx'
      · rw [hu'] at hg'; simp [Value.ownBlock] at hg'
    · rw [hu] at hg; simp [Value.ownBlock] at hg
end
end
end Go.VI
namespace Go.VI
noncomputable section
open Go.RowKit
theorem argEnv_other : ∀ (As : List ATy) (xs : denA As) (i j : Nat) (s : Slot), (∀ t, s ≠ .tmp t) → (argEnv As xs i j).get s = .undef
  | [], _, _, _, _, _ => rfl
  | a :: r, xs, i, j, s, h => by
    simp only [argEnv]
    rw [Env.get_cons_ne _ _ (fun e => h i e.symm)]
    exact argEnv_other r xs.2 _ _ s h
section
variable {A : Fix} {γ : Gh} {w : World}
def ArgRel (P : Program) (G : World → Prop) (Z : Nat → Prop) (w : World) : (a : ATy) → a.den → Value → Prop
  | .data g t, x, v => ∃ us, v = mkVal g us ∧ (g = false → us.length = 1) ∧ RepI Z w t x us
  | .ptr t, x, v => ∃ (ad : Addr) (us : List Value), v = .pointer (some ad) ∧ Z ad.block ∧ RepI Z w t x us ∧ ∀ j u, us[j]? = some u → w.cell? (ad.add j) = some u
  | .clo a b, F, v => CloOK P G Z w a b F v
  | .lrow .., _, _ => False
  | .lptr _, _, _ => False
theorem argCells_rel (a : ATy) (x : a.den) (j : Nat) (v : Value) (vs : List Value) (hp : ∀ (m : Nat) (u : Value), (avsOf (v :: vs))[m]? = some u → A.pars[j + m]? = some u)
    (h : ArgRel A.P A.G γ.Z w a x v) :
    ∃ us, v = mkVal (argCells a x j).1 us ∧ v.cells.toList = us ∧ us.length = (argCells a x j).2.length ∧ ((argCells a x j).1 = false → (argCells a x j).2.length = 1) ∧
      ∀ (m : Nat) (c : Cell) (u : Value), (argCells a x j).2[m]? = some c → us[m]? = some u → RelCell A γ w c u ∧ u.oneCell' = true ∧ refs c = none ∧ c.isOwn = false := by
  cases a with
  | data g t =>
    obtain ⟨us, hv, hg, hr⟩ := h
    have he := explode_rel (A := A) (γ := γ) (w := w) (Fr := fun _ => False) t x us hr
    have hc : v.cells = us.toArray := by rw [hv]; exact mkVal_cells he.one hg
    have hlen : us.length = (argCells (.data g t) x j).2.length := by simp [argCells, he.length]
    have hnr : ∀ (t : Ty) (x : t.den), ∀ c ∈ explode t x, refs c = none := by
      intro t
      induction t with
      | int k => intro x c hc; simp [explode] at hc; subst hc; rfl
      | bool => intro x c hc; simp [explode] at hc; subst hc; rfl
      | str => intro x c hc; simp [explode] at hc; subst hc; rfl
      | unit => intro x c hc; simp [explode] at hc
      | pair a b iha ihb =>
        intro x c hc
        simp only [explode, List.mem_append] at hc
        rcases hc with hc | hc
        · exact iha x.1 c hc
        · exact ihb x.2 c hc
      | sl t _ => intro x c hc; simp [explode] at hc; subst hc; rfl
    refine ⟨us, hv, by rw [hc], hlen, fun hgf => by rw [← hlen]; exact hg hgf, fun m c u hcm hu => ?_⟩
    simp only [argCells, List.getElem?_map, List.getElem?_zipIdx, Option.map_map, Option.map_eq_some_iff, Function.comp_apply] at hcm
    obtain ⟨c0, hc0, rfl⟩ := hcm
    obtain ⟨u', hu', g1, g2, g3, g4⟩ := he.get hc0
    rw [hu] at hu'
    injection hu' with hu'
    subst hu'
    have hn := hnr t x c0 (List.mem_of_getElem? hc0)
    cases c0 with
    | imm t' l' p' =>
      refine ⟨⟨g1.1, fun k hk => ?_⟩, g2, rfl, rfl⟩
      injection hk with hk
      rw [← hk, Nat.zero_add]
      have : avsOf (v :: vs) = us ++ avsOf vs := by simp [avsOf, hc]
      refine hp m u ?_
      rw [this, List.getElem?_append_left (List.getElem?_eq_some_iff.1 hu).1]
      exact hu
    | _ => exact ⟨g1, g2, hn, g4⟩
  | ptr t =>
    obtain ⟨ad, us, rfl, hz, hr, hc⟩ := h
    have had : ad.add 0 = ad := by simp [Addr.add]
    refine ⟨[.pointer (some ad)], rfl, rfl, rfl, fun _ => rfl, fun m c u hcm hu => ?_⟩
    cases m <;> simp [argCells] at hcm hu
    subst hcm; subst hu
    exact ⟨⟨ad, us, by rw [had], hz, hr, hc⟩, rfl, rfl, rfl⟩
  | clo as rs =>
    have hv : ∃ f caps, v = .func (.func f) #[] caps := by obtain ⟨f, caps, hv, _⟩ := h; exact ⟨f, caps, hv⟩
    obtain ⟨f, caps, rfl⟩ := hv
    refine ⟨[.func (.func f) #[] caps], rfl, rfl, rfl, fun _ => rfl, fun m c u hcm hu => ?_⟩
    cases m <;> simp [argCells] at hcm hu
    subst hcm; subst hu
    exact ⟨h, rfl, rfl, rfl⟩
  | lrow g t es => exact h.elim
  | lptr t => exact h.elim
theorem RelArgs.head {P : Program} {G : World → Prop} {Z : Nat → Prop} {a : ATy} {r : List ATy} {xs : denA (a :: r)} {vs : List Value} (h : RelArgs P G Z w (a :: r) xs vs) : ∃ v vs', vs = v :: vs' ∧ RelArgs P G Z w r xs.2 vs' ∧
    ArgRel P G Z w a xs.1 v := by
  cases a with
  | data g t =>
    obtain ⟨us, vs', h1, h2, h3, h4⟩ := h
    exact ⟨_, _, h1, h4, us, rfl, h2, h3⟩
  | ptr t =>
    obtain ⟨ad, us, vs', h1, h2, h3, h4, h5⟩ := h
    exact ⟨_, _, h1, h5, ad, us, rfl, h2, h3, h4⟩
  | clo a b =>
    obtain ⟨v, vs', h1, h2, h3⟩ := h
    exact ⟨_, _, h1, h3, h2⟩
  | lrow g t es => exact h.elim
  | lptr t => exact h.elim
theorem args_rel : ∀ (As : List ATy) (xs : denA As) (vs : List Value) (i j : Nat), RelArgs A.P A.G γ.Z w As xs vs → (∀ (m : Nat) (u : Value), (avsOf vs)[m]? = some u → A.pars[j + m]? = some u) → vs.length = As.length ∧
    ∀ t, (argEnv As xs i j).get (.tmp t) = .undef ∨ ∃ k v g cs us, t = i + k ∧ vs[k]? = some v ∧ (argEnv As xs i j).get (.tmp t) = .val g cs ∧ v = mkVal g us ∧ v.cells.toList = us ∧ us.length = cs.length ∧ (g = false → cs.length = 1) ∧
      ∀ (m : Nat) (c : Cell) (u : Value), cs[m]? = some c → us[m]? = some u → RelCell A γ w c u ∧ u.oneCell' = true ∧ refs c = none ∧ c.isOwn = false
  | [], xs, vs, i, j, h, _ => ⟨by rw [show vs = [] from h]; rfl, fun t => .inl rfl⟩
  | a :: r, xs, vs, i, j, h, hp => by
    obtain ⟨v, vs', rfl, h2, h3⟩ := h.head
    obtain ⟨us, k1, k2, k3, k4, k5⟩ := argCells_rel a xs.1 j v vs' hp h3
    have hav : avsOf (v :: vs') = us ++ avsOf vs' := by simp [avsOf, k2]
    obtain ⟨m1, m2⟩ := args_rel r xs.2 vs' (i + 1) (j + (argCells a xs.1 j).2.length) h2 (fun m u hu => by
      have := hp (us.length + m) u (by rw [hav, List.getElem?_append_right (by omega)]; rwa [Nat.add_sub_cancel_left])
      rwa [k3, ← Nat.add_assoc] at this)
    refine ⟨by simp [m1], fun t => ?_⟩
    simp only [argEnv]
    rw [Env.get_cons]
    by_cases ht : i = t
    · subst ht
      rw [if_pos rfl]
      exact .inr ⟨0, v, _, _, us, by simp, rfl, rfl, k1, k2, k3, k4, k5⟩
    · rw [if_neg (by simpa using ht)]
      rcases m2 t with hu | ⟨k, v', g, cs, us', e1, e2, rest⟩
      · exact .inl hu
      · exact .inr ⟨k + 1, v', g, cs, us', by omega, by simpa using e2, rest⟩
end
theorem sound_of_run {P : Program} {G : World → Prop} {f : FuncId} {fn : Func} {c : Code} {X : Ctx} {As : List ATy} {R : List (Bool × Ty)} {ms : List RMode} {n0 : Nat} (hm : P.follows .mixedOrders = true) (hst : Stable n0 G) (hty : TyOK P X)
    (hgl : ∀ A : Fix, A.P = P → A.G = G → GlobOK A X) (hcon : ConOK P G X) (hmcon : MConOK P n0 G X) (hf : P.funcs[f]? = some fn) (hb : fn.body = some c) (hn : (fn.name == "runtime.NumGoroutine") = false) (hres : X.results = fn.results.toList) (hnt : X.ntmps = fn.ntmps)
    (hAs : As.length ≤ X.ntmps ∧ X.ntmps ≤ lentBase) : Sound P G f (ofRun X c As R ms) := by
  show ∀ (w : World) (Z : Nat → Prop) (vs : List Value) (xs : denA As) (r : denL R), G w → (∀ g, Z g → g < w.heap.size) → RelArgs P G Z w As xs vs → runF X c As R ms xs = some r →
    FCalls P f vs.toArray w fun v w' => ∃ Z' us, v = mkRes us ∧ Below w.heap.size w w' ∧ (∀ g, Z g → Z' g) ∧ (∀ g, Z' g → Z g ∨ (w.heap.size ≤ g ∧ g < w'.heap.size)) ∧
      ResRel Z' w' w.heap.size (avsOf vs) (resL R r ms) us
  intro w Z vs xs r hG hZ hargs hF
  have hrun := hF
  have hn' : ¬ fn.name = "runtime.NumGoroutine" := by simpa using hn
  refine .inr ⟨by simp [callFunc, program, Sem.run, hf, hb, hn'], calls_of_wp hf hb ?_⟩
  let A : Fix := ⟨P, G, w, avsOf vs, Z, w.heap.size, fun _ => undef, fun _ => none, n0⟩
  have hL : ∀ g, ¬ A.L g := by
    rintro g (⟨k, hk⟩ | ⟨b, hb⟩)
    · exact absurd hk (by simp [A, undef, Value.ownBlock])
    · cases hb
  let γ : Gh := { σ := fun _ _ => 0, ψ := fun _ _ => undef, φ := fun x => match x.s with | .tmp t => ((vs.getD t undef).cells.toList).getD x.j undef | _ => undef, Z := Z }
  have K : Known A X := ⟨hst, ⟨hG, fun g hg => absurd hg (hL g)⟩, hty, hgl A rfl rfl, hcon, hmcon⟩
  obtain ⟨hvl, hav⟩ := args_rel (A := A) (γ := γ) (w := w) As xs vs 0 0 hargs (fun m u hu => by rwa [Nat.zero_add])
  have hcell : ∀ x c, envCell (argEnv As xs 0 0) x = some c → RelCell A γ w c (γ.φ x) ∧ (γ.φ x).oneCell' = true ∧ refs c = none ∧ c.isOwn = false := by
    rintro ⟨s, i, j⟩ c hc
    unfold envCell at hc
    cases s with
    | tmp t =>
      rcases hav t with hu | ⟨k, v, g, cs, us, e1, e2, e3, e4, e5, e6, e7, e8⟩
      · simp only [hu, AV.cell?] at hc; cases hc
      · simp only [e3] at hc
        cases i with
        | succ i => simp [AV.cell?] at hc
        | zero =>
          have hc : cs[j]? = some c := hc
          have hlt : j < us.length := by rw [e6]; exact (List.getElem?_eq_some_iff.1 hc).1
          have hk : t = k := by omega
          subst hk
          have hφ : γ.φ ⟨.tmp t, 0, j⟩ = us[j] := by
            show ((vs.getD t undef).cells.toList).getD j undef = _
            rw [getD_of e2, e5, getD_of (List.getElem?_eq_getElem hlt)]
          rw [hφ]
          exact e8 j c _ hc (List.getElem?_eq_getElem hlt)
    | box b => simp only [argEnv_other As xs 0 0 (.box b) (by simp), AV.cell?] at hc; cases hc
    | ver => simp only [argEnv_other As xs 0 0 .ver (by simp), AV.cell?] at hc; cases hc
    | lent k => simp only [argEnv_other As xs 0 0 (.lent k) (by simp), AV.cell?] at hc; cases hc
  have hbox : ∀ b bv fz cs, (argEnv As xs 0 0).get (.box b) ≠ .box bv fz cs := by
    intro b bv fz cs
    rw [argEnv_other As xs 0 0 (.box b) (by simp)]
    simp
  have hown : ∀ x e t ver l, envCell (argEnv As xs 0 0) x ≠ some (.own e t ver l) := by
    intro x e t ver l hx
    have := (hcell x _ hx).2.2.2
    simp [Cell.isOwn] at this
  have hcore : Core A X γ (fun v => (argEnv As xs 0 0).ver ≤ v) (argEnv As xs 0 0) { tmps := vs.toArray ++ Array.replicate (fn.ntmps - vs.toArray.size) undef, defers := [] } w := by
    refine { frame := ⟨rfl, rfl, rfl, Nat.le_refl _, fun _ _ _ => rfl, Nat.le_refl _⟩, glob := hG, zone := hZ, zone0 := ⟨fun g hg => hg, fun g hg => .inl hg⟩, defers := rfl, size := ?_, ntl := hAs.2, baseB := Nat.le_refl _, tmp := fun t => ?_, box := fun b bv fz cs hb => absurd hb (hbox b bv fz cs), cell := fun x c hc => ?_, own := fun x e t ver l hx => absurd hx (hown x e t ver l), inj := fun b b' bv bv' fz fz' cs cs' hb => absurd hb (hbox b bv fz cs), fresh := fun x e t ver l hx => absurd hx (hown x e t ver l), lent := fun _ => rfl, lentloc := fun k c j cl hx => ?_ }
    · simp only [Array.size_append, List.size_toArray, Array.size_replicate, hvl]
      have := hAs.1
      omega
    · rcases hav t with hu | ⟨k, v, g, cs, us, e1, e2, e3, e4, e5, e6, e7, e8⟩
      · rw [hu]; exact trivial
      · rw [e3]
        have hk : t = k := by omega
        subst hk
        refine ⟨?_, e7⟩
        have hlt : t < vs.length := (List.getElem?_eq_some_iff.1 e2).1
        have hv : (vs.toArray ++ Array.replicate (fn.ntmps - vs.toArray.size) undef).getD t undef = v := by
          rw [Array.getD_eq_getD_getElem?, Array.getElem?_append_left (by simpa using hlt), List.getElem?_toArray, e2]
          rfl
        rw [hv, e4]
        congr 1
        have hφ : ∀ j, γ.φ ⟨.tmp t, 0, j⟩ = us.getD j undef := fun j => by
          show ((vs.getD t undef).cells.toList).getD j undef = _
          rw [getD_of e2, e5]
        rw [← range_map_getD us cs.length e6]
        simp [cellVals, hφ]
    · obtain ⟨h1, h2, h3, _⟩ := hcell x c hc
      exact ⟨h1, h2, fun r hr => by rw [h3] at hr; cases hr⟩
    · unfold envCell at hx
      simp only [argEnv_other As xs 0 0 (.lent k) (by simp), AV.cell?] at hx
      cases hx
  refine run_sound K hm c (argEnv As xs 0 0) (finD X R ms) r _ _ w hrun ⟨γ, hcore⟩ fun e env' a' w' hfinD hst' => ?_
  obtain ⟨out, hfin, hdec⟩ := Option.bind_eq_some_iff.1 hfinD
  obtain ⟨γ', hc'⟩ := hst'
  have done : ((outOf X [] X.results).cps env'.get [] fun o _ => some o) = some out → a'.defers = [] ∧ ∃ v, (results fn a'.tmps).run P w' = .ok v w' ∧
      ∃ v0, Ending.returned v = .returned v0 ∧ ∃ Z' us, v0 = mkRes us ∧ Below w.heap.size w w' ∧ (∀ g, Z g → Z' g) ∧ (∀ g, Z' g → Z g ∨ (w.heap.size ≤ g ∧ g < w'.heap.size)) ∧
      ResRel Z' w' w.heap.size (avsOf vs) (resL R r ms) us := by
    intro hfin
    obtain ⟨o, lg, he, ho⟩ := Rd.cps_some _ _ _ _ _ hfin
    injection ho with ho
    subst ho
    obtain ⟨us, m1, m2⟩ := outOf_sound hc' K X.results [] o [] lg he
    obtain ⟨Z', z1, z2, z3⟩ := fin_rel hc' hdec m2
    refine ⟨hc'.defers, mkRes us, ?_, _, rfl, Z', us, rfl, ⟨hc'.frame.os, hc'.frame.tape, hc'.frame.output, hc'.frame.size, fun k hk => hc'.frame.block k hk (hL k), hc'.frame.drawn⟩, fun g hg => z1 g (hc'.zone0.1 g hg), fun g hg => ?_, z3⟩
    · rw [hres] at m1
      change Sem.run P _ w' = _ at m1
      have hmap : (fn.results.mapM (fun | .tmp t => pure (a'.tmps.getD t undef) | .cell b t => do loadVar t (← asAddr (a'.tmps.getD b undef)) : ResultVar → Sem Value)).run P w' = .ok us.toArray w' := by
        rw [Array.mapM_eq_mapM_toList, Sem.run_map]
        exact congrArg (fun r => Result.andThen r fun l w => Result.ok (List.toArray l) w) m1
      have hbind : (results fn a'.tmps).run P w' = (((fn.results.mapM (fun | .tmp t => pure (a'.tmps.getD t undef) | .cell b t => do loadVar t (← asAddr (a'.tmps.getD b undef)) : ResultVar → Sem Value)).run P w').andThen
          fun vs w => (pure (if h : vs.size = 1 then vs[0] else .tuple vs) : Sem Value).run P w) := by
        rw [← Sem.run_bind]; rfl
      rw [hbind, hmap, Result.andThen_ok]
      match us with
      | [] => rfl
      | [v] => rfl
      | _ :: _ :: _ => rfl
    · rcases z2 g hg with hg | hg
      · rcases hc'.zone0.2 g hg with h0 | h0
        · exact .inl h0
        · exact .inr ⟨h0, hc'.zone g hg⟩
      · exact .inr hg
  cases e with
  | normal => exact done hfin
  | ret => exact done hfin
  | exit id => simp [fin] at hfin
  | goto l => simp [fin] at hfin
end
end Go.VI
