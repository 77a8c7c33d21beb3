/- VI, part 28: a function to which rows and variables are lent keeps the contract that the run tells. -/
import Derived.Test.YtdejhienahdoiaaGreatViReg
namespace Go.VI
noncomputable section
open Go.RowKit
section
variable {A : Fix} {X : Ctx} {γ : Gh} {Fr : Nat → Prop} {env : Env} {a : Act} {w w' : World}
def busOf : List Item → List Value
  | [] => []
  | .row _ _ _ :: r => busOf r
  | .box _ us :: r => us ++ busOf r
def StartC (A : Fix) (γ : Gh) (w : World) (c : Cell) (u : Value) : Prop := RelCell A γ w c u ∧ u.oneCell' = true ∧ (∀ r, refs c = some r → r = 0) ∧ c.isOwn = false
def StartT (A : Fix) (γ : Gh) (w : World) (v : Value) : AV → Prop
  | .val g cs => ∃ us, v = mkVal g us ∧ v.cells.toList = us ∧ us.length = cs.length ∧ (g = false → cs.length = 1) ∧ ∀ (m : Nat) (c : Cell) (u : Value), cs[m]? = some c → us[m]? = some u → StartC A γ w c u
  | _ => False
def StartB (A : Fix) (γ : Gh) (w : World) : Item → AV → Prop
  | .box g us, .box ver fz cs => ver = 0 ∧ fz = false ∧ us.length = cs.length ∧ (∃ T, w.heap[g]? = some (.cells us.toArray T (0, 0))) ∧ ∀ (m : Nat) (c : Cell) (u : Value), cs[m]? = some c → us[m]? = some u → StartC A γ w c u
  | _, _ => False
def StartR (Z : Nat → Prop) (w : World) : Item → AV → Prop
  | .row v e t, .val g cs => ∃ l, g = false ∧ cs = [.own e t 0 l] ∧ OwnV Z w 0 e t v l
  | _, _ => False
theorem refs_explode : ∀ (t : Ty) (x : t.den), ∀ c ∈ explode t x, refs c = none := by
  intro t
  induction t with
  | int k => intro x c hc; simp [explode] at hc; subst hc; rfl
  | bool => intro x c hc; simp [explode] at hc; subst hc; rfl
  | str => intro x c hc; simp [explode] at hc; subst hc; rfl
  | unit => intro x c hc; simp [explode] at hc
  | pair a b iha ihb =>
    intro x c hc
    simp only [explode, List.mem_append] at hc
    rcases hc with hc | hc
    · exact iha x.1 c hc
    · exact ihb x.2 c hc
  | sl t _ => intro x c hc; simp [explode] at hc; subst hc; rfl
theorem explode_len : ∀ (t : Ty) (x : t.den), (explode t x).length = t.size
  | .int _, _ => rfl
  | .bool, _ => rfl
  | .str, _ => rfl
  | .unit, _ => rfl
  | .pair a b, x => by simp [explode, explode_len a, explode_len b, Ty.size]
  | .sl _, _ => rfl
theorem lent_rel {is0 : List Item} (hψ : ∀ k v e t, is0[k]? = some (.row v e t) → γ.ψ ⟨.lent k, 0, 0⟩ 0 = v) : ∀ (t : Ty) (es : List TypeId) (x : t.den) (us : List Value) (is : List Item) (es' : List TypeId) (k : Nat), RepL γ.Z w t es x us is es' →
    (∀ n it, is[n]? = some it → is0[k + n]? = some it) → (lentCells t x k).2 = k + is.length ∧ (lentSlots t x k es).k = k + is.length ∧ (lentSlots t x k es).es = es' ∧ (lentCells t x k).1.length = us.length ∧
    (∀ (m : Nat) (c : Cell) (u : Value), (lentCells t x k).1[m]? = some c → us[m]? = some u → StartC A γ w c u) ∧
    (∀ s, (lentSlots t x k es).env.get s = .undef ∨ ∃ n it, s = .lent (k + n) ∧ is[n]? = some it ∧ StartR γ.Z w it ((lentSlots t x k es).env.get s)) ∧ (∀ s, (∀ n, n < is.length → s ≠ .lent (k + n)) → ∀ p ∈ (lentSlots t x k es).env, p.1 ≠ s) ∧
    us.length = t.size ∧ (∀ n, n < is.length → ∃ p ∈ (lentSlots t x k es).env, p.1 = .lent (k + n))
  | .int kd, es, n, us, is, es', k, h, hs => by
    obtain ⟨rfl, rfl, rfl⟩ := h
    refine ⟨rfl, rfl, rfl, rfl, fun m c u h1 h2 => ?_, fun s => .inl rfl, by simp [lentSlots], rfl, by simp⟩
    cases m <;> simp [lentCells] at h1 h2
    subst h1; subst h2
    exact ⟨rfl, rfl, by simp [refs], rfl⟩
  | .bool, es, n, us, is, es', k, h, hs => by
    obtain ⟨rfl, rfl, rfl⟩ := h
    refine ⟨rfl, rfl, rfl, rfl, fun m c u h1 h2 => ?_, fun s => .inl rfl, by simp [lentSlots], rfl, by simp⟩
    cases m <;> simp [lentCells] at h1 h2
    subst h1; subst h2
    exact ⟨rfl, rfl, by simp [refs], rfl⟩
  | .str, es, n, us, is, es', k, h, hs => by
    obtain ⟨rfl, rfl, rfl⟩ := h
    refine ⟨rfl, rfl, rfl, rfl, fun m c u h1 h2 => ?_, fun s => .inl rfl, by simp [lentSlots], rfl, by simp⟩
    cases m <;> simp [lentCells] at h1 h2
    subst h1; subst h2
    exact ⟨rfl, rfl, by simp [refs], rfl⟩
  | .unit, es, n, us, is, es', k, h, hs => by
    obtain ⟨rfl, rfl, rfl⟩ := h
    exact ⟨rfl, rfl, rfl, rfl, fun m c u h1 h2 => by simp [lentCells] at h1, fun s => .inl rfl, by simp [lentSlots], rfl, by simp⟩
  | .sl t, es, l, us, is, es', k, h, hs => by
    obtain ⟨e, v, rfl, rfl, rfl, hown⟩ := h
    have h0 := hs 0 _ rfl
    refine ⟨rfl, rfl, rfl, rfl, fun m c u h1 h2 => ?_, fun s => ?_, fun s hn p hp => ?_, rfl, fun n hn => ?_⟩
    · cases m <;> simp [lentCells] at h1 h2
      subst h1; subst h2
      refine ⟨(hψ k v e t (by simpa using h0)).symm, ?_, by simp [refs], rfl⟩
      obtain ⟨B, c, hh, _⟩ := OwnV.slice hown
      rw [hh]; rfl
    · by_cases hk : s = .lent k
      · subst hk
        refine .inr ⟨0, .row v e t, rfl, rfl, ?_⟩
        simp only [lentSlots, Env.get_cons_self]
        exact ⟨l, rfl, rfl, hown⟩
      · left
        simp only [lentSlots]
        rw [Env.get_cons_ne _ _ (fun e => hk e.symm)]
        rfl
    · simp only [lentSlots, List.mem_singleton] at hp
      rw [hp]
      exact fun e => hn 0 (by simp) (by simpa using e.symm)
    · simp only [List.length_singleton] at hn
      have : n = 0 := by omega
      subst this
      exact ⟨(.lent k, .val false [.own e t 0 l]), by simp [lentSlots], by simp⟩
  | .pair x y, es, p, us, is, es', k, ⟨c1, c2, i1, i2, em, hus, his, r1, r2⟩, hs => by
    subst hus; subst his
    obtain ⟨a1, a2, a3, a4, a5, a6, a7, a8, a9⟩ := lent_rel hψ x es p.1 c1 i1 em k r1 fun n it hn => hs n it (by rw [List.getElem?_append_left (List.getElem?_eq_some_iff.1 hn).1]; exact hn)
    obtain ⟨b1, b2, b3, b4, b5, b6, b7, b8, b9⟩ := lent_rel hψ y em p.2 c2 i2 es' (k + i1.length) r2 fun n it hn => by
      rw [Nat.add_assoc]
      exact hs _ it (by rw [List.getElem?_append_right (by omega), Nat.add_sub_cancel_left]; exact hn)
    have gapp : ∀ (e1 e2 : Env) (s : Slot), (∀ p ∈ e1, p.1 ≠ s) → Env.get (e1 ++ e2) s = e2.get s := by
      intro e1 e2 s hn
      induction e1 with
      | nil => rfl
      | cons q r ih =>
        rw [List.cons_append, show q = (q.1, q.2) from rfl, Env.get_cons_ne _ _ (hn q (by simp))]
        exact ih fun p hp => hn p (by simp [hp])
    have gapp2 : ∀ (e1 e2 : Env) (s : Slot), (∃ p ∈ e1, p.1 = s) → Env.get (e1 ++ e2) s = e1.get s := by
      intro e1 e2 s hn
      induction e1 with
      | nil => obtain ⟨p, hp, _⟩ := hn; cases hp
      | cons q r ih =>
        rw [List.cons_append, show q = (q.1, q.2) from rfl, Env.get_cons, Env.get_cons]
        split
        · rfl
        · rename_i hh
          obtain ⟨p, hp, he⟩ := hn
          rcases List.mem_cons.1 hp with rfl | hp
          · exact absurd he hh
          · exact ih ⟨p, hp, he⟩
    simp only [lentCells, lentSlots, a1, a2, a3]
    refine ⟨by rw [b1, List.length_append]; omega, by rw [b2, List.length_append]; omega, b3, by simp [a4, b4], fun m c u h1 h2 => ?_, fun s => ?_, fun s hn q hq => ?_, by simp [a8, b8, Ty.size], fun n hn => ?_⟩
    · by_cases hm : m < c1.length
      · rw [List.getElem?_append_left (by omega)] at h1
        rw [List.getElem?_append_left hm] at h2
        exact a5 m c u h1 h2
      · rw [List.getElem?_append_right (by omega)] at h1
        rw [List.getElem?_append_right (by omega)] at h2
        rw [a4] at h1
        exact b5 _ c u h1 h2
    · by_cases hin : ∃ n, n < i1.length ∧ s = .lent (k + n)
      · obtain ⟨n, hn, hsn⟩ := hin
        have hmem : ∃ p' ∈ (lentSlots x p.1 k es).env, p'.1 = s := by rw [hsn]; exact a9 n hn
        rw [gapp2 _ _ _ hmem]
        rcases a6 s with h | ⟨n', it, h1, h2, h3⟩
        · exact .inl h
        · exact .inr ⟨n', it, h1, by rw [List.getElem?_append_left (List.getElem?_eq_some_iff.1 h2).1]; exact h2, h3⟩
      · rw [gapp _ _ _ (a7 s fun n hn e => hin ⟨n, hn, e⟩)]
        rcases b6 s with h | ⟨n', it, h1, h2, h3⟩
        · exact .inl h
        · exact .inr ⟨i1.length + n', it, by rw [h1]; congr 1; omega, by rw [List.getElem?_append_right (by omega), Nat.add_sub_cancel_left]; exact h2, h3⟩
    · rcases List.mem_append.1 hq with hq | hq
      · exact a7 s (fun n hn' => hn n (by simp; omega)) q hq
      · exact b7 s (fun n hn' => by rw [Nat.add_assoc]; exact hn (i1.length + n) (by simp; omega)) q hq
    · by_cases hm : n < i1.length
      · obtain ⟨p, hp, he⟩ := a9 n hm
        exact ⟨p, List.mem_append_left _ hp, he⟩
      · obtain ⟨p, hp, he⟩ := b9 (n - i1.length) (by simp at hn; omega)
        exact ⟨p, List.mem_append_right _ hp, by rw [he]; congr 1; omega⟩
theorem tag_get (q : Nat) (cs : List Cell) (m : Nat) : (tagCells q cs)[m]? = (cs[m]?).map fun c => match c with | .imm t l _ => .imm t l (some (q + m)) | c => c := by
  simp only [tagCells, List.getElem?_map, List.getElem?_zipIdx, Option.map_map]
  cases cs[m]? with
  | none => rfl
  | some c => cases c <;> simp
theorem RepL.lens {Z : Nat → Prop} : ∀ (t : Ty) (es : List TypeId) (x : t.den) (us : List Value) (is : List Item) (es' : List TypeId), RepL Z w t es x us is es' → us.length = t.size ∧ ∀ u ∈ us, u.oneCell' = true
  | .int k, es, x, us, is, es', h => by rw [h.1]; exact ⟨rfl, by simp [Value.oneCell']⟩
  | .bool, es, x, us, is, es', h => by rw [h.1]; exact ⟨rfl, by simp [Value.oneCell']⟩
  | .str, es, x, us, is, es', h => by rw [h.1]; exact ⟨rfl, by simp [Value.oneCell']⟩
  | .unit, es, x, us, is, es', h => by rw [h.1]; exact ⟨rfl, by simp⟩
  | .sl t, es, x, us, is, es', ⟨e, v, _, h2, _, h4⟩ => by
    rw [h2]
    obtain ⟨B, c, hh, _⟩ := OwnV.slice h4
    exact ⟨rfl, by simp [hh, Value.oneCell']⟩
  | .pair a b, es, x, us, is, es', ⟨c1, c2, i1, i2, em, h0, _, h1, h2⟩ => by
    obtain ⟨a1, a2⟩ := RepL.lens a _ _ _ _ _ h1
    obtain ⟨b1, b2⟩ := RepL.lens b _ _ _ _ _ h2
    rw [h0]
    refine ⟨by simp [a1, b1, Ty.size], fun u hu => ?_⟩
    rcases List.mem_append.1 hu with hu | hu
    · exact a2 u hu
    · exact b2 u hu
theorem argsM_len (Z : Nat → Prop) (w : World) : ∀ (As : List ATy) (xs : denA As) (vs : List Value) (is : List Item), RelArgsM Z w As xs vs is → (avsOf vs).length = parLen As
  | [], xs, vs, is, h => by rw [h.1]; rfl
  | .ptr t :: r, xs, vs, is, h => h.elim
  | .clo t b :: r, xs, vs, is, h => h.elim
  | .data g t :: r, xs, vs, is, ⟨us, vs', h1, h2, h3, h4⟩ => by
    have hav : avsOf (mkVal g us :: vs') = us ++ avsOf vs' := by simp [avsOf, mkVal_cells (RepI.one _ _ _ h3) h2]
    rw [h1, hav, List.length_append, argsM_len Z w r _ _ _ h4, RepI.length _ _ _ h3]; rfl
  | .lptr t :: r, xs, vs, is, ⟨g, us, vs', i2, h1, h2, h3, h4, h5⟩ => by
    have hav : avsOf (.pointer (some ⟨g, 0, none⟩) :: vs') = .pointer (some ⟨g, 0, none⟩) :: avsOf vs' := rfl
    rw [h1, hav, List.length_cons, argsM_len Z w r _ _ _ h5]; simp [parLen, ATy.cells, Nat.add_comm]
  | .lrow g t es :: r, xs, vs, is, ⟨us, vs', i1, i2, h1, h2, h3, h4, h5⟩ => by
    obtain ⟨k1, k2⟩ := RepL.lens _ _ _ _ _ _ h4
    have hav : avsOf (mkVal g us :: vs') = us ++ avsOf vs' := by simp [avsOf, mkVal_cells k2 h2]
    rw [h1, hav, List.length_append, argsM_len Z w r _ _ _ h5, k1]; rfl
theorem argsM_rel {is0 : List Item} (hψ : ∀ k v e t, is0[k]? = some (.row v e t) → γ.ψ ⟨.lent k, 0, 0⟩ 0 = v) (hσ : ∀ k g us, is0[k]? = some (.box g us) → γ.σ (lentBase + k) 0 = g) : ∀ (As : List ATy) (xs : denA As) (vs : List Value) (is : List Item) (i j k q : Nat),
    RelArgsM γ.Z w As xs vs is → (∀ n it, is[n]? = some it → is0[k + n]? = some it) → (∀ (m : Nat) (u : Value), (avsOf vs)[m]? = some u → A.pars[j + m]? = some u) → (∀ (m : Nat) (u : Value), (busOf is)[m]? = some u → A.pars[q + m]? = some u) →
    vs.length = As.length ∧ (avsOf vs).length = parLen As ∧
    (∀ t, (argEnvM As xs i j k q).get (.tmp t) = .undef ∨ ∃ n v, t = i + n ∧ vs[n]? = some v ∧ StartT A γ w v ((argEnvM As xs i j k q).get (.tmp t))) ∧
    (∀ b, (argEnvM As xs i j k q).get (.box b) = .undef ∨ ∃ n it, b = lentBase + (k + n) ∧ is[n]? = some it ∧ StartB A γ w it ((argEnvM As xs i j k q).get (.box b))) ∧
    (∀ m, (argEnvM As xs i j k q).get (.lent m) = .undef ∨ ∃ n it, m = k + n ∧ is[n]? = some it ∧ StartR γ.Z w it ((argEnvM As xs i j k q).get (.lent m))) ∧
    (argEnvM As xs i j k q).get .ver = .undef
  | [], xs, vs, is, i, j, k, q, ⟨h1, h2⟩, _, _, _ => by
    subst h1
    exact ⟨rfl, rfl, fun t => .inl rfl, fun b => .inl rfl, fun m => .inl rfl, rfl⟩
  | .ptr t :: r, xs, vs, is, i, j, k, q, h, _, _, _ => h.elim
  | .clo t b :: r, xs, vs, is, i, j, k, q, h, _, _, _ => h.elim
  | .data g t :: r, xs, vs, is, i, j, k, q, ⟨us, vs', h1, h2, h3, h4⟩, hs, hp, hq => by
    subst h1
    obtain ⟨us', k1, k2, k3, k4, k5⟩ := argCells_rel (A := A) (γ := γ) (w := w) (.data g t) xs.1 j (mkVal g us) vs' hp ⟨us, rfl, h2, h3⟩
    have hav : avsOf (mkVal g us :: vs') = us' ++ avsOf vs' := by simp [avsOf, k2]
    have hlen : (argCells (.data g t) xs.1 j).2.length = t.size := by simp [argCells, explode_len]
    obtain ⟨m1, m0, m2, m3, m4, m5⟩ := argsM_rel hψ hσ r xs.2 vs' is (i + 1) (j + (argCells (.data g t) xs.1 j).2.length) k q h4 hs (fun m u hu => by
      have := hp (us'.length + m) u (by rw [hav, List.getElem?_append_right (by omega)]; rwa [Nat.add_sub_cancel_left])
      rwa [k3, ← Nat.add_assoc] at this) hq
    refine ⟨by simp [m1], by rw [hav, List.length_append, m0, k3, hlen]; rfl, fun t' => ?_, fun b => ?_, fun m => ?_, ?_⟩
    · simp only [argEnvM]
      rw [Env.get_cons]
      by_cases ht : i = t'
      · subst ht
        rw [if_pos rfl]
        exact .inr ⟨0, _, by simp, rfl, us', k1, k2, k3, k4, fun m c u hc hu => let ⟨a1, a2, a3, a4⟩ := k5 m c u hc hu; ⟨a1, a2, by simp [a3], a4⟩⟩
      · rw [if_neg (by simpa using ht)]
        rcases m2 t' with hu | ⟨n, v, e1, e2, e3⟩
        · exact .inl hu
        · exact .inr ⟨n + 1, v, by omega, by simpa using e2, e3⟩
    · simp only [argEnvM]; rw [Env.get_cons_ne _ _ (by simp)]; exact m3 b
    · simp only [argEnvM]; rw [Env.get_cons_ne _ _ (by simp)]; exact m4 m
    · simp only [argEnvM]; rw [Env.get_cons_ne _ _ (by simp)]; exact m5
  | .lptr t :: r, xs, vs, is, i, j, k, q, ⟨g, us, vs', i2, h1, h2, h3, ⟨T, h4⟩, h5⟩, hs, hp, hq => by
    subst h1; subst h2
    have h0 := hs 0 _ rfl
    have he := explode_rel (A := A) (γ := γ) (w := w) (Fr := fun _ => False) t xs.1 us h3
    have hul : us.length = t.size := RepI.length _ _ _ h3
    have hav : avsOf (.pointer (some ⟨g, 0, none⟩) :: vs') = .pointer (some ⟨g, 0, none⟩) :: avsOf vs' := rfl
    obtain ⟨m1, m0, m2, m3, m4, m5⟩ := argsM_rel hψ hσ r xs.2 vs' i2 (i + 1) (j + 1) (k + 1) (q + t.size) h5 (fun n it hn => by
        have := hs (n + 1) it (by simpa using hn)
        rwa [show k + (n + 1) = k + 1 + n by omega] at this)
      (fun m u hu => by
        have := hp (m + 1) u (by rw [hav]; simpa using hu)
        rwa [show j + (m + 1) = j + 1 + m by omega] at this)
      (fun m u hu => by
        have := hq (us.length + m) u (by simp only [busOf]; rw [List.getElem?_append_right (by omega), Nat.add_sub_cancel_left]; exact hu)
        rwa [hul, ← Nat.add_assoc] at this)
    refine ⟨by simp [m1], by rw [hav, List.length_cons, m0]; simp [parLen, ATy.cells, Nat.add_comm], fun t' => ?_, fun b => ?_, fun m => ?_, ?_⟩
    · simp only [argEnvM]
      rw [Env.get_cons]
      by_cases ht : i = t'
      · subst ht
        rw [if_pos rfl]
        refine .inr ⟨0, _, by simp, rfl, [.pointer (some ⟨g, 0, none⟩)], rfl, rfl, rfl, fun _ => rfl, fun m c u hc hu => ?_⟩
        cases m <;> simp at hc hu
        subst hc; subst hu
        exact ⟨by simp only [RelCell]; rw [hσ k g us (by simpa using h0)], rfl, by simp [refs], rfl⟩
      · rw [if_neg (by simpa using ht), Env.get_cons_ne _ _ (by simp)]
        rcases m2 t' with hu | ⟨n, v, e1, e2, e3⟩
        · exact .inl hu
        · exact .inr ⟨n + 1, v, by omega, by simpa using e2, e3⟩
    · simp only [argEnvM]
      rw [Env.get_cons_ne _ _ (by simp), Env.get_cons]
      by_cases hb : lentBase + k = b
      · subst hb
        rw [if_pos rfl]
        refine .inr ⟨0, _, rfl, rfl, rfl, rfl, by simp [tagCells, he.length], ⟨T, h4⟩, fun m c u hc hu => ?_⟩
        rw [tag_get, Option.map_eq_some_iff] at hc
        obtain ⟨c0, hc0, hcc⟩ := hc
        obtain ⟨u', hu', g1, g2, g3, g4⟩ := he.get hc0
        rw [hu] at hu'
        injection hu' with hu'
        subst hu'
        have hn := refs_explode t xs.1 c0 (List.mem_of_getElem? hc0)
        have hpar := hq m u (by simp only [busOf]; rw [List.getElem?_append_left (List.getElem?_eq_some_iff.1 hu).1]; exact hu)
        subst hcc
        cases c0 with
        | imm t' l' p' => exact ⟨⟨g1.1, fun k hk => by injection hk with hk; rw [← hk]; exact hpar⟩, g2, by simp [refs], rfl⟩
        | _ => exact ⟨g1, g2, by simp [hn], g4⟩
      · rw [if_neg (by simpa using hb)]
        rcases m3 b with hu | ⟨n, it, e1, e2, e3⟩
        · exact .inl hu
        · exact .inr ⟨n + 1, it, by omega, by simpa using e2, e3⟩
    · simp only [argEnvM]
      rw [Env.get_cons_ne _ _ (by simp), Env.get_cons_ne _ _ (by simp)]
      rcases m4 m with hu | ⟨n, it, e1, e2, e3⟩
      · exact .inl hu
      · exact .inr ⟨n + 1, it, by omega, by simpa using e2, e3⟩
    · simp only [argEnvM]; rw [Env.get_cons_ne _ _ (by simp), Env.get_cons_ne _ _ (by simp)]; exact m5
  | .lrow g t es :: r, xs, vs, is, i, j, k, q, ⟨us, vs', i1, i2, h1, h2, h3, h4, h5⟩, hs, hp, hq => by
    subst h1; subst h3
    obtain ⟨a1, a2, a3, a4, a5, a6, a7, a8, a9⟩ := lent_rel (A := A) hψ t es xs.1 us i1 [] k h4 fun n it hn => hs n it (by rw [List.getElem?_append_left (List.getElem?_eq_some_iff.1 hn).1]; exact hn)
    have hone : ∀ u ∈ us, u.oneCell' = true := fun u hu => by
      obtain ⟨m, hm⟩ := List.mem_iff_getElem?.1 hu
      have hlt : m < (lentCells t xs.1 k).1.length := by rw [a4]; exact (List.getElem?_eq_some_iff.1 hm).1
      exact (a5 m _ u (List.getElem?_eq_getElem hlt) hm).2.1
    have hcl : (mkVal g us).cells = us.toArray := mkVal_cells hone h2
    have hav : avsOf (mkVal g us :: vs') = us ++ avsOf vs' := by simp [avsOf, hcl]
    have hbus : ∀ (i1 i2 : List Item), (∀ it ∈ i1, ∃ v e t, it = .row v e t) → busOf (i1 ++ i2) = busOf i2 := by
      intro i1 i2 hh
      induction i1 with
      | nil => rfl
      | cons it r ih =>
        obtain ⟨v, e, t, rfl⟩ := hh it (by simp)
        exact ih fun it hit => hh it (by simp [hit])
    have hrows : ∀ (t : Ty) (es : List TypeId) (x : t.den) (us : List Value) (is : List Item) (es' : List TypeId), RepL γ.Z w t es x us is es' → ∀ it ∈ is, ∃ v e t, it = .row v e t := by
      intro t
      induction t with
      | int k => intro es x us is es' h; rw [h.2.1]; simp
      | bool => intro es x us is es' h; rw [h.2.1]; simp
      | str => intro es x us is es' h; rw [h.2.1]; simp
      | unit => intro es x us is es' h; rw [h.2.1]; simp
      | sl t _ => intro es x us is es' h; obtain ⟨e, v, _, _, hi, _⟩ := h; rw [hi]; simp
      | pair a b iha ihb =>
        intro es x us is es' h
        obtain ⟨c1, c2, i1, i2, em, _, hi, r1, r2⟩ := h
        rw [hi]
        intro it hit
        rcases List.mem_append.1 hit with hit | hit
        · exact iha _ _ _ _ _ r1 it hit
        · exact ihb _ _ _ _ _ r2 it hit
    obtain ⟨m1, m0, m2, m3, m4, m5⟩ := argsM_rel hψ hσ r xs.2 vs' i2 (i + 1) (j + t.size) (lentCells t xs.1 k).2 q h5 (fun n it hn => by
        rw [a1, Nat.add_assoc]
        exact hs _ it (by rw [List.getElem?_append_right (by omega), Nat.add_sub_cancel_left]; exact hn))
      (fun m u hu => by
        have := hp (us.length + m) u (by rw [hav, List.getElem?_append_right (by omega), Nat.add_sub_cancel_left]; exact hu)
        rwa [a8, ← Nat.add_assoc] at this)
      (fun m u hu => hq m u (by rw [hbus i1 i2 (hrows _ _ _ _ _ _ h4)]; exact hu))
    have gapp : ∀ (e1 e2 : Env) (s : Slot), (∀ p ∈ e1, p.1 ≠ s) → Env.get (e1 ++ e2) s = e2.get s := by
      intro e1 e2 s hn
      induction e1 with
      | nil => rfl
      | cons q r ih =>
        rw [List.cons_append, show q = (q.1, q.2) from rfl, Env.get_cons_ne _ _ (hn q (by simp))]
        exact ih fun p hp => hn p (by simp [hp])
    have gapp2 : ∀ (e1 e2 : Env) (s : Slot), (∃ p ∈ e1, p.1 = s) → Env.get (e1 ++ e2) s = e1.get s := by
      intro e1 e2 s hn
      induction e1 with
      | nil => obtain ⟨p, hp, _⟩ := hn; cases hp
      | cons q r ih =>
        rw [List.cons_append, show q = (q.1, q.2) from rfl, Env.get_cons, Env.get_cons]
        split
        · rfl
        · rename_i hh
          obtain ⟨p, hp, he⟩ := hn
          rcases List.mem_cons.1 hp with rfl | hp
          · exact absurd he hh
          · exact ih ⟨p, hp, he⟩
    refine ⟨by simp [m1], by rw [hav, List.length_append, m0, a8]; rfl, fun t' => ?_, fun b => ?_, fun m => ?_, ?_⟩
    · simp only [argEnvM]
      rw [Env.get_cons]
      by_cases ht : i = t'
      · subst ht
        rw [if_pos rfl]
        exact .inr ⟨0, _, by simp, rfl, us, rfl, by rw [hcl], a4.symm, fun hg => by rw [a4]; exact h2 hg, a5⟩
      · rw [if_neg (by simpa using ht), gapp _ _ _ (a7 _ (by simp))]
        rcases m2 t' with hu | ⟨n, v, e1, e2, e3⟩
        · exact .inl hu
        · exact .inr ⟨n + 1, v, by omega, by simpa using e2, e3⟩
    · simp only [argEnvM]
      rw [Env.get_cons_ne _ _ (by simp), gapp _ _ _ (a7 _ (by simp))]
      rcases m3 b with hu | ⟨n, it, e1, e2, e3⟩
      · exact .inl hu
      · exact .inr ⟨i1.length + n, it, by rw [e1, a1]; omega, by rw [List.getElem?_append_right (by omega), Nat.add_sub_cancel_left]; exact e2, e3⟩
    · simp only [argEnvM]
      rw [Env.get_cons_ne _ _ (by simp)]
      by_cases hin : ∃ n, n < i1.length ∧ m = k + n
      · obtain ⟨n, hn, hm⟩ := hin
        rw [gapp2 _ _ _ (by rw [hm]; exact a9 n hn)]
        rcases a6 (.lent m) with h | ⟨n', it, e1, e2, e3⟩
        · exact .inl h
        · injection e1 with e1
          exact .inr ⟨n', it, e1, by rw [List.getElem?_append_left (List.getElem?_eq_some_iff.1 e2).1]; exact e2, e3⟩
      · rw [gapp _ _ _ (a7 _ fun n hn e => hin ⟨n, hn, by injection e⟩)]
        rcases m4 m with hu | ⟨n, it, e1, e2, e3⟩
        · exact .inl hu
        · exact .inr ⟨i1.length + n, it, by rw [e1, a1]; omega, by rw [List.getElem?_append_right (by omega), Nat.add_sub_cancel_left]; exact e2, e3⟩
    · simp only [argEnvM]; rw [Env.get_cons_ne _ _ (by simp), gapp _ _ _ (a7 _ (by simp))]; exact m5
theorem outOf_length : ∀ (rs : List ResultVar) (xs : List Loc) (out : Out) (e : Slot → AV) (l0 l1 : List Slot), (outOf X xs rs).eval e l0 = some (out, l1) → out.length = rs.length
  | [], xs, out, e, l0, l1, h => by
    simp only [outOf, Rd.eval, Option.some.injEq, Prod.mk.injEq] at h
    rw [← h.1]; rfl
  | .tmp t :: r, xs, out, e, l0, l1, h => by
    simp only [outOf, Rd.eval] at h
    split at h
    · simp only [Rd.eval_bind, Option.bind_eq_some_iff] at h
      obtain ⟨⟨p, l2⟩, h1, ⟨q, l3⟩, h2, h3⟩ := h
      simp only [Rd.eval, Option.some.injEq, Prod.mk.injEq] at h3
      rw [← h3.1]
      simp [outOf_length r _ q e _ _ h2]
    · simp [Rd.eval] at h
  | .cell b T :: r, xs, out, e, l0, l1, h => by
    simp only [outOf, Rd.eval_bind, Option.bind_eq_some_iff] at h
    obtain ⟨_, _, ⟨c, l2⟩, m2, ⟨cs, l3⟩, m3, ⟨⟨cs', xs'⟩, l4⟩, m4, ⟨q, l5⟩, m5, m6⟩ := h
    simp only [Rd.eval, Option.some.injEq, Prod.mk.injEq] at m6
    rw [← m6.1]
    simp [outOf_length r _ q e _ _ m5]
theorem outRows_sound (h : Core A X γ Fr env a w) (hB : A.B = 0) {Z0 Z : Nat → Prop} {w0 : World} (hZ : ∀ g, γ.Z g → Z g) {is0 : List Item} (hlv : ∀ k v e t, is0[k]? = some (.row v e t) → A.lv k = v) : ∀ (t : Ty) (es : List TypeId) (x y : t.den) (us : List Value) (is : List Item) (es' es2 : List TypeId) (k k' : Nat) (cs rest : List Cell) (l0 l1 : List Slot),
    RepL Z0 w0 t es x us is es' → (∀ n it, is[n]? = some it → is0[k + n]? = some it) → (outRows t k).eval env.get l0 = some ((cs, k'), l1) → rowsIn t es (cs ++ rest) = some ⟨y, rest, es2⟩ →
    k' = k + is.length ∧ es2 = es' ∧ ∀ is' ns', OutN Z w is' ns' → OutN Z w (is ++ is') (newRows t y ++ ns')
  | .int kd, es, x, y, us, is, es', es2, k, k', cs, rest, l0, l1, hr, _, he, hi => by
    obtain ⟨_, rfl, rfl⟩ := hr
    simp only [outRows, Rd.eval, Option.some.injEq, Prod.mk.injEq] at he
    simp only [rowsIn, Option.some.injEq, RowP.mk.injEq] at hi
    exact ⟨by rw [← he.1.2]; rfl, hi.2.2.symm, fun is' ns' h => h⟩
  | .bool, es, x, y, us, is, es', es2, k, k', cs, rest, l0, l1, hr, _, he, hi => by
    obtain ⟨_, rfl, rfl⟩ := hr
    simp only [outRows, Rd.eval, Option.some.injEq, Prod.mk.injEq] at he
    simp only [rowsIn, Option.some.injEq, RowP.mk.injEq] at hi
    exact ⟨by rw [← he.1.2]; rfl, hi.2.2.symm, fun is' ns' h => h⟩
  | .str, es, x, y, us, is, es', es2, k, k', cs, rest, l0, l1, hr, _, he, hi => by
    obtain ⟨_, rfl, rfl⟩ := hr
    simp only [outRows, Rd.eval, Option.some.injEq, Prod.mk.injEq] at he
    simp only [rowsIn, Option.some.injEq, RowP.mk.injEq] at hi
    exact ⟨by rw [← he.1.2]; rfl, hi.2.2.symm, fun is' ns' h => h⟩
  | .unit, es, x, y, us, is, es', es2, k, k', cs, rest, l0, l1, hr, _, he, hi => by
    obtain ⟨_, rfl, rfl⟩ := hr
    simp only [outRows, Rd.eval, Option.some.injEq, Prod.mk.injEq] at he
    simp only [rowsIn, Option.some.injEq, RowP.mk.injEq] at hi
    exact ⟨by rw [← he.1.2]; rfl, hi.2.2.symm, fun is' ns' h => h⟩
  | .sl t, es, x, y, us, is, es', es2, k, k', cs, rest, l0, l1, hr, hs, he, hi => by
    obtain ⟨e, v, rfl, rfl, rfl, _⟩ := hr
    have h0 := hs 0 _ rfl
    simp only [outRows, Rd.eval] at he
    split at he
    · rename_i e1 t1 ver l1' hg
      simp only [Rd.eval, Option.some.injEq, Prod.mk.injEq] at he
      obtain ⟨⟨rfl, rfl⟩, _⟩ := he
      simp only [List.cons_append, List.nil_append, rowsIn] at hi
      split at hi
      · rename_i hh
        obtain ⟨rfl, rfl⟩ := hh
        simp only [Option.some.injEq, RowP.mk.injEq] at hi
        obtain ⟨rfl, _, rfl⟩ := hi
        have hx : envCell env ⟨.lent k, 0, 0⟩ = some (.own e1 t1 ver l1') := by
          show (env.get (.lent k)).cell? 0 0 = _
          rw [hg]; rfl
        have hown := (h.cell _ _ hx).1
        have hv : γ.φ ⟨.lent k, 0, 0⟩ = v := (h.lent k).trans (hlv k v e1 t1 (by simpa using h0))
        simp only [RelCell, hB, hv] at hown
        refine ⟨rfl, rfl, fun is' ns' ho => ⟨l1', ns', rfl, hown.mono hZ (fun _ _ => rfl) (fun _ _ => rfl), ho⟩⟩
      · cases hi
    · simp [Rd.eval] at he
  | .pair a b, es, x, y, us, is, es', es2, k, k', cs, rest, l0, l1, ⟨c1, c2, i1, i2, em, _, his, r1, r2⟩, hs, he, hi => by
    subst his
    simp only [outRows, Rd.eval_bind, Option.bind_eq_some_iff] at he
    obtain ⟨⟨⟨d1, k1⟩, l2⟩, e1, ⟨⟨d2, k2⟩, l3⟩, e2, e3⟩ := he
    simp only [Rd.eval, Option.some.injEq, Prod.mk.injEq] at e3
    obtain ⟨⟨rfl, rfl⟩, _⟩ := e3
    simp only [rowsIn, Option.bind_eq_some_iff, Option.map_eq_some_iff] at hi
    obtain ⟨⟨y1, s1, f1⟩, m1, ⟨y2, s2, f2⟩, m2, m3⟩ := hi
    simp only [RowP.mk.injEq] at m3
    obtain ⟨rfl, rfl, rfl⟩ := m3
    have rowsRest : ∀ (t : Ty) (es : List TypeId) (k k' : Nat) (cs rest : List Cell) (l0 l1 : List Slot) (p : RowP t), (outRows t k).eval env.get l0 = some ((cs, k'), l1) → rowsIn t es (cs ++ rest) = some p → p.cs = rest := by
      intro t
      induction t with
      | int kd => intro es k k' cs rest l0 l1 p h1 h2; simp only [outRows, Rd.eval, Option.some.injEq, Prod.mk.injEq] at h1; simp only [rowsIn, Option.some.injEq] at h2; rw [← h2, ← h1.1.1]; rfl
      | bool => intro es k k' cs rest l0 l1 p h1 h2; simp only [outRows, Rd.eval, Option.some.injEq, Prod.mk.injEq] at h1; simp only [rowsIn, Option.some.injEq] at h2; rw [← h2, ← h1.1.1]; rfl
      | str => intro es k k' cs rest l0 l1 p h1 h2; simp only [outRows, Rd.eval, Option.some.injEq, Prod.mk.injEq] at h1; simp only [rowsIn, Option.some.injEq] at h2; rw [← h2, ← h1.1.1]; rfl
      | unit => intro es k k' cs rest l0 l1 p h1 h2; simp only [outRows, Rd.eval, Option.some.injEq, Prod.mk.injEq] at h1; simp only [rowsIn, Option.some.injEq] at h2; rw [← h2, ← h1.1.1]; rfl
      | sl t _ =>
        intro es k k' cs rest l0 l1 p h1 h2
        simp only [outRows, Rd.eval] at h1
        split at h1
        · simp only [Rd.eval, Option.some.injEq, Prod.mk.injEq] at h1
          rw [← h1.1.1] at h2
          cases es with
          | nil => simp [rowsIn] at h2
          | cons e es =>
            simp only [List.cons_append, List.nil_append, rowsIn] at h2
            split at h2
            · injection h2 with h2; rw [← h2]
            · cases h2
        · simp [Rd.eval] at h1
      | pair a b iha ihb =>
        intro es k k' cs rest l0 l1 p h1 h2
        simp only [outRows, Rd.eval_bind, Option.bind_eq_some_iff] at h1
        obtain ⟨⟨⟨d1, k1⟩, l2⟩, e1, ⟨⟨d2, k2⟩, l3⟩, e2, e3⟩ := h1
        simp only [Rd.eval, Option.some.injEq, Prod.mk.injEq] at e3
        obtain ⟨⟨rfl, rfl⟩, _⟩ := e3
        simp only [rowsIn, Option.bind_eq_some_iff, Option.map_eq_some_iff, List.append_assoc] at h2
        obtain ⟨p1, m1, p2, m2, rfl⟩ := h2
        have r1 := iha es k k1 d1 (d2 ++ rest) _ _ p1 e1 m1
        rw [r1] at m2
        exact ihb p1.es k1 k2 d2 rest _ _ p2 e2 m2
    rw [List.append_assoc] at m1
    have hs1 : s1 = d2 ++ s2 := rowsRest a es k k1 d1 (d2 ++ s2) _ _ _ e1 m1
    subst hs1
    simp only at m2 e2
    obtain ⟨q1, q2, q3⟩ := outRows_sound h hB hZ hlv a es x.1 y1 c1 i1 em f1 k k1 d1 (d2 ++ s2) _ _ r1 (fun n it hn => hs n it (by rw [List.getElem?_append_left (List.getElem?_eq_some_iff.1 hn).1]; exact hn)) e1 m1
    subst q2
    obtain ⟨p1, p2, p3⟩ := outRows_sound h hB hZ hlv b f1 x.2 y2 c2 i2 es' f2 k1 k2 d2 s2 _ _ r2 (fun n it hn => by
      rw [q1, Nat.add_assoc]
      exact hs _ it (by rw [List.getElem?_append_right (by omega), Nat.add_sub_cancel_left]; exact hn)) e2 m2
    refine ⟨by rw [p1, q1, List.length_append]; omega, p2, fun is' ns' ho => ?_⟩
    have := q3 _ _ (p3 is' ns' ho)
    simpa [newRows] using this
theorem boxIn_sound : ∀ (t : Ty) (q : Nat) (cs : List Cell) (p : BoxP t), boxIn t q cs = some p → ∃ c1, cs = c1 ++ p.cs ∧ p.q = q + c1.length ∧ c1.length = t.size ∧
    ∀ (us us' : List Value), us.length = c1.length → us'.length = c1.length → (∀ (m : Nat) (u : Value), us[m]? = some u → A.pars[q + m]? = some u) → (∀ (m : Nat) (c : Cell) (u : Value), c1[m]? = some c → us'[m]? = some u → RelCell A γ w c u) →
      ∀ (cs' : List Cell) (vs vs' : List Value), BoxOut cs' vs vs' → BoxOut (explode t p.x ++ cs') (us ++ vs) (us' ++ vs')
  | .int k, q, cs, p, h => by
    cases cs with
    | nil => simp [boxIn] at h
    | cons c cs =>
      cases c <;> simp [boxIn] at h
      obtain ⟨rfl, rfl⟩ := h
      refine ⟨[_], rfl, rfl, rfl, fun us us' h1 h2 _ hr cs' vs vs' hb => ?_⟩
      match us, us', h1, h2 with
      | [u], [u'], _, _ => exact ⟨u, u', vs, vs', rfl, rfl, .inl ⟨rfl, hr 0 _ u' rfl rfl⟩, hb⟩
  | .bool, q, cs, p, h => by
    cases cs with
    | nil => simp [boxIn] at h
    | cons c cs =>
      cases c <;> simp [boxIn] at h
      subst h
      refine ⟨[_], rfl, rfl, rfl, fun us us' h1 h2 _ hr cs' vs vs' hb => ?_⟩
      match us, us', h1, h2 with
      | [u], [u'], _, _ => exact ⟨u, u', vs, vs', rfl, rfl, .inl ⟨rfl, hr 0 _ u' rfl rfl⟩, hb⟩
  | .str, q, cs, p, h => by
    cases cs with
    | nil => simp [boxIn] at h
    | cons c cs =>
      cases c <;> simp [boxIn] at h
      subst h
      refine ⟨[_], rfl, rfl, rfl, fun us us' h1 h2 _ hr cs' vs vs' hb => ?_⟩
      match us, us', h1, h2 with
      | [u], [u'], _, _ => exact ⟨u, u', vs, vs', rfl, rfl, .inl ⟨rfl, hr 0 _ u' rfl rfl⟩, hb⟩
  | .unit, q, cs, p, h => by
    simp [boxIn] at h
    subst h
    refine ⟨[], rfl, rfl, rfl, fun us us' h1 h2 _ hr cs' vs vs' hb => ?_⟩
    rw [List.eq_nil_of_length_eq_zero h1, List.eq_nil_of_length_eq_zero h2]
    exact hb
  | .sl t, q, cs, p, h => by
    cases cs with
    | nil => simp [boxIn] at h
    | cons c cs =>
      cases c <;> try (simp [boxIn] at h; done)
      rename_i t' l par
      cases par with
      | none => simp [boxIn] at h
      | some j =>
        simp only [boxIn] at h
        split at h
        · rename_i hh
          obtain ⟨rfl, rfl⟩ := hh
          injection h with h
          subst h
          refine ⟨[_], rfl, rfl, rfl, fun us us' h1 h2 hp hr cs' vs vs' hb => ?_⟩
          match us, us', h1, h2 with
          | [u], [u'], _, _ =>
            have hu := hp 0 u rfl
            have hu' := (hr 0 _ u' rfl rfl).2 j rfl
            rw [Nat.add_zero] at hu
            rw [hu] at hu'
            injection hu' with hu'
            exact ⟨u, u', vs, vs', rfl, rfl, .inr ⟨_, _, _, rfl, hu'.symm⟩, hb⟩
        · cases h
  | .pair x y, q, cs, p, h => by
    simp only [boxIn, Option.bind_eq_some_iff, Option.map_eq_some_iff] at h
    obtain ⟨p1, h1, p2, h2, rfl⟩ := h
    obtain ⟨c1, a1, a2, a3, a4⟩ := boxIn_sound x q cs p1 h1
    obtain ⟨c2, b1, b2, b3, b4⟩ := boxIn_sound y p1.q p1.cs p2 h2
    refine ⟨c1 ++ c2, by rw [a1, b1, List.append_assoc], by rw [b2, a2, List.length_append]; omega, by simp [a3, b3, Ty.size], fun us us' e1 e2 hp hr cs' vs vs' hb => ?_⟩
    rw [List.length_append] at e1 e2
    have k2 := b4 (us.drop c1.length) (us'.drop c1.length) (by simp; omega) (by simp; omega) (fun m u hu => by
      rw [List.getElem?_drop] at hu
      rw [a2, Nat.add_assoc]; exact hp _ u hu) (fun m c u hc hu => by
      rw [List.getElem?_drop] at hu
      exact hr (c1.length + m) c u (by rw [List.getElem?_append_right (by omega), Nat.add_sub_cancel_left]; exact hc) hu) cs' vs vs' hb
    have k1 := a4 (us.take c1.length) (us'.take c1.length) (by simp; omega) (by simp; omega) (fun m u hu => by
      rw [List.getElem?_take] at hu
      split at hu
      · exact hp m u hu
      · cases hu) (fun m c u hc hu => by
      have hlt := (List.getElem?_eq_some_iff.1 hc).1
      rw [List.getElem?_take, if_pos hlt] at hu
      exact hr m c u (by rw [List.getElem?_append_left hlt]; exact hc) hu) _ _ _ k2
    rw [← List.append_assoc, ← List.append_assoc, ← List.append_assoc, List.take_append_drop, List.take_append_drop] at k1
    exact k1
theorem outM_sound (h : Core A X γ Fr env a w) (hB : A.B = 0) {Z0 Z : Nat → Prop} {w0 : World} (hZ : ∀ g, γ.Z g → Z g) {is0 : List Item} (hlv : ∀ k v e t, is0[k]? = some (.row v e t) → A.lv k = v) (hlb : ∀ k g us, is0[k]? = some (.box g us) → A.lb k = some g) :
    ∀ (As : List ATy) (xs : denA As) (vs : List Value) (is : List Item) (k q : Nat) (o : Out) (m : denM As) (l0 l1 : List Slot), RelArgsM Z0 w0 As xs vs is → (∀ n it, is[n]? = some it → is0[k + n]? = some it) → (∀ (m : Nat) (u : Value), (busOf is)[m]? = some u → A.pars[q + m]? = some u) →
    (outM As k).eval env.get l0 = some (o, l1) → decodeM' As q o = some m → OutN Z w is (newsOf As m)
  | [], xs, vs, is, k, q, o, m, l0, l1, hr, _, _, _, _ => by
    rw [hr.2]; rfl
  | .ptr t :: r, xs, vs, is, k, q, o, m, l0, l1, hr, _, _, _, _ => hr.elim
  | .clo t b :: r, xs, vs, is, k, q, o, m, l0, l1, hr, _, _, _, _ => hr.elim
  | .data g t :: r, xs, vs, is, k, q, o, m, l0, l1, ⟨us, vs', h1, h2, h3, h4⟩, hs, hq, he, hd => by
    simp only [outM] at he
    simp only [decodeM'] at hd
    exact outM_sound h hB hZ hlv hlb r xs.2 vs' is k q o m l0 l1 h4 hs hq he hd
  | .lrow g t es :: r, xs, vs, is, k, q, o, m, l0, l1, ⟨us, vs', i1, i2, h1, h2, h3, h4, h5⟩, hs, hq, he, hd => by
    subst h3
    simp only [outM, Rd.eval_bind, Option.bind_eq_some_iff] at he
    obtain ⟨⟨⟨cs, k1⟩, l2⟩, e1, ⟨o1, l3⟩, e2, e3⟩ := he
    simp only [Rd.eval, Option.some.injEq, Prod.mk.injEq] at e3
    obtain ⟨rfl, _⟩ := e3
    simp only [decodeM'] at hd
    split at hd
    · rename_i y hy
      simp only [Option.map_eq_some_iff] at hd
      obtain ⟨m', hd, rfl⟩ := hd
      have hrows : ∀ (t : Ty) (es : List TypeId) (x : t.den) (us : List Value) (is : List Item) (es' : List TypeId), RepL Z0 w0 t es x us is es' → busOf is = [] := by
        intro t
        induction t with
        | int k => intro es x us is es' h; rw [h.2.1]; rfl
        | bool => intro es x us is es' h; rw [h.2.1]; rfl
        | str => intro es x us is es' h; rw [h.2.1]; rfl
        | unit => intro es x us is es' h; rw [h.2.1]; rfl
        | sl t _ => intro es x us is es' h; obtain ⟨e, v, _, _, hi, _⟩ := h; rw [hi]; rfl
        | pair a b iha ihb =>
          intro es x us is es' h
          obtain ⟨c1, c2, i1, i2, em, _, hi, r1, r2⟩ := h
          have happ : ∀ (i1 i2 : List Item), busOf (i1 ++ i2) = busOf i1 ++ busOf i2 := by
            intro i1 i2
            induction i1 with
            | nil => rfl
            | cons it r ih => cases it <;> simp [busOf, ih]
          rw [hi, happ, iha _ _ _ _ _ r1, ihb _ _ _ _ _ r2]; rfl
      have happ : ∀ (i1 i2 : List Item), busOf (i1 ++ i2) = busOf i1 ++ busOf i2 := by
        intro i1 i2
        induction i1 with
        | nil => rfl
        | cons it r ih => cases it <;> simp [busOf, ih]
      obtain ⟨q1, q2, q3⟩ := outRows_sound h hB hZ hlv t es xs.1 y us i1 [] [] k k1 cs [] _ _ h4 (fun n it hn => hs n it (by rw [List.getElem?_append_left (List.getElem?_eq_some_iff.1 hn).1]; exact hn)) e1 (by rw [List.append_nil]; exact hy)
      simp only [newsOf]
      refine q3 i2 _ (outM_sound h hB hZ hlv hlb r xs.2 vs' i2 k1 q o1 m' _ _ h5 (fun n it hn => ?_) (fun m u hu => hq m u (by rw [happ, hrows _ _ _ _ _ _ h4]; exact hu)) e2 hd)
      rw [q1, Nat.add_assoc]
      exact hs _ it (by rw [List.getElem?_append_right (by omega), Nat.add_sub_cancel_left]; exact hn)
    · cases hd
  | .lptr t :: r, xs, vs, is, k, q, o, m, l0, l1, ⟨g, us, vs', i2, h1, h2, h3, ⟨T, h4⟩, h5⟩, hs, hq, he, hd => by
    subst h2
    have h0 := hs 0 _ rfl
    have hul : us.length = t.size := RepI.length _ _ _ h3
    simp only [outM, Rd.eval] at he
    split at he
    · rename_i ver cs hg
      cases hp : cs.all plainCell with
      | false => rw [hp] at he; simp [Rd.eval] at he
      | true =>
        rw [hp] at he
        simp only [cond_true, Rd.eval_bind, Option.bind_eq_some_iff] at he
        obtain ⟨⟨o1, l3⟩, e2, e3⟩ := he
        simp only [Rd.eval, Option.some.injEq, Prod.mk.injEq] at e3
        obtain ⟨rfl, _⟩ := e3
        simp only [decodeM'] at hd
        split at hd
        · rename_i y q' hy
          simp only [Option.map_eq_some_iff] at hd
          obtain ⟨m', hd, rfl⟩ := hd
          obtain ⟨c1, a1, a2, a3, a4⟩ := boxIn_sound (A := A) (γ := γ) (w := w) t q cs _ hy
          simp only [List.append_nil] at a1
          subst a1
          obtain ⟨⟨T', hT'⟩, ⟨_, hσ⟩, _⟩ := h.box _ ver false cs hg
          have hσg : γ.σ (lentBase + k) ver = g := by
            have := hσ (by omega)
            rw [Nat.add_sub_cancel_left, hlb k g us (by simpa using h0)] at this
            injection this with this
            exact this.symm
          rw [hσg] at hT'
          have hbo := a4 us (cellVals γ (.box (lentBase + k)) 0 cs.length) (by rw [hul, a3]) (by simp [cellVals_length]) (fun m u hu => hq m u (by simp only [busOf]; rw [List.getElem?_append_left (List.getElem?_eq_some_iff.1 hu).1]; exact hu)) (fun m c u hc hu => by
            have hlt := (List.getElem?_eq_some_iff.1 hc).1
            rw [cellVals_get _ _ _ _ _ hlt] at hu
            injection hu with hu
            subst hu
            exact (h.cell ⟨.box (lentBase + k), 0, m⟩ c (by show (env.get (.box (lentBase + k))).cell? 0 m = _; rw [hg]; exact hc)).1) [] [] [] ⟨rfl, rfl⟩
          simp only [List.append_nil] at hbo
          refine ⟨explode t y, newsOf r m', _, rfl, hbo, ⟨T', hT'⟩, ?_⟩
          simp only at a2
          refine outM_sound h hB hZ hlv hlb r xs.2 vs' i2 (k + 1) q' o1 m' _ _ h5 (fun n it hn => ?_) (fun m u hu => ?_) e2 hd
          · have := hs (n + 1) it (by simpa using hn)
            rwa [show k + (n + 1) = k + 1 + n by omega] at this
          · have := hq (us.length + m) u (by simp only [busOf]; rw [List.getElem?_append_right (by omega), Nat.add_sub_cancel_left]; exact hu)
            rwa [a2, a3, ← hul, Nat.add_assoc]
        · cases hd
    · simp [Rd.eval] at he
end
theorem resM_nopass : ∀ (t : Ty) (x : t.den) (ms : List RMode), (ms.all fun | .pass _ => false | _ => true) = true → (∀ rc ∈ (resM t x ms).1, ∀ j, rc ≠ .pass j) ∧ ((resM t x ms).2.all fun | .pass _ => false | _ => true) = true
  | .int k, x, ms, hm => ⟨by simp [resM], hm⟩
  | .bool, x, ms, hm => ⟨by simp [resM], hm⟩
  | .str, x, ms, hm => ⟨by simp [resM], hm⟩
  | .unit, x, ms, hm => ⟨by simp [resM], hm⟩
  | .sl t, l, ms, hm => by
    cases ms with
    | nil => exact ⟨by simp [resM], rfl⟩
    | cons m r =>
      simp only [List.all_cons, Bool.and_eq_true] at hm
      cases m with
      | own e => exact ⟨by simp [resM], hm.2⟩
      | imm => exact ⟨by simp [resM], hm.2⟩
      | pass j => simp at hm
  | .pair a b, x, ms, hm => by
    obtain ⟨k1, k2⟩ := resM_nopass a x.1 ms hm
    obtain ⟨k3, k4⟩ := resM_nopass b x.2 _ k2
    refine ⟨fun rc hrc => ?_, k4⟩
    simp only [resM, List.mem_append] at hrc
    rcases hrc with hrc | hrc
    · exact k1 rc hrc
    · exact k3 rc hrc
theorem resL_nopass : ∀ (R : List (Bool × Ty)) (x : denL R) (ms : List RMode), (ms.all fun | .pass _ => false | _ => true) = true → ∀ p ∈ resL R x ms, ∀ rc ∈ p.2, ∀ j, rc ≠ .pass j
  | [], _, ms, _ => by simp [resL]
  | q :: r, x, ms, hm => by
    obtain ⟨k1, k2⟩ := resM_nopass q.2 x.1 ms hm
    intro p hp
    simp only [resL, List.mem_cons] at hp
    rcases hp with rfl | hp
    · exact k1
    · exact resL_nopass r x.2 _ k2 p hp
theorem sound_of_runM {P : Program} {G : World → Prop} {f : FuncId} {fn : Func} {c : Code} {X : Ctx} {As : List ATy} {R : List (Bool × Ty)} {ms : List RMode} {n0 : Nat} (hm : P.follows .mixedOrders = true) (hst : Stable n0 G) (hty : TyOK P X)
    (hgl : ∀ A : Fix, A.P = P → A.G = G → GlobOK A X) (hcon : ConOK P G X) (hmcon : MConOK P n0 G X) (hf : P.funcs[f]? = some fn) (hb : fn.body = some c) (hn : (fn.name == "runtime.NumGoroutine") = false) (hres : X.results = fn.results.toList) (hnt : X.ntmps = fn.ntmps)
    (hAs : As.length ≤ X.ntmps ∧ X.ntmps ≤ lentBase) (hR : R.length = X.results.length) (hms : (ms.all fun | .pass _ => false | _ => true) = true) : SoundM P n0 G f (ofRunM X c As R ms) := by
  show ∀ (w : World) (Z : Nat → Prop) (vs : List Value) (xs : denA As) (r : denL R) (m : denM As) (is : List Item), G w → (∀ g, Z g → g < w.heap.size) → RelArgsM Z w As xs vs is → Aside Z w n0 is → runFM X c As R ms xs = some (r, m) →
    FCalls P f vs.toArray w fun v w' => ∃ Z' us, v = mkRes us ∧ FrameL (Lof is) w w' ∧ (∀ g, Z g → Z' g) ∧ (∀ g, Z' g → Z g ∨ (w.heap.size ≤ g ∧ g < w'.heap.size)) ∧
      ResRel Z' w' w.heap.size [] (resL R r ms) us ∧ OutN Z' w' is (newsOf As m)
  intro w Z vs xs r m is hG hZ hargs hsep hF
  have hrun := hF
  have hn' : ¬ fn.name = "runtime.NumGoroutine" := by simpa using hn
  refine .inr ⟨by simp [callFunc, program, Sem.run, hf, hb, hn'], calls_of_wp hf hb ?_⟩
  let lv : Nat → Value := fun k => match is[k]? with | some (.row v _ _) => v | _ => undef
  let lb : Nat → Option Nat := fun k => match is[k]? with | some (.box g _) => some g | _ => none
  let A : Fix := ⟨P, G, w, avsOf vs ++ busOf is, Z, 0, lv, lb, n0⟩
  let φ : Loc → Value := fun x => match x.s with
    | .tmp t => ((vs.getD t undef).cells.toList).getD x.j undef
    | .box b => match is[b - lentBase]? with | some (.box _ us) => us.getD x.j undef | _ => undef
    | .lent k => lv k
    | .ver => undef
  let γ : Gh := { σ := fun b _ => (lb (b - lentBase)).getD 0, ψ := fun x _ => φ x, φ := φ, Z := Z }
  have hlv : ∀ k v e t, is[k]? = some (.row v e t) → A.lv k = v := fun k v e t h => by show lv k = v; simp only [lv, h]
  have hlb : ∀ k g us, is[k]? = some (.box g us) → A.lb k = some g := fun k g us h => by show lb k = some g; simp only [lb, h]
  have hL : ∀ g, A.L g ↔ Lof is g := by
    intro g
    constructor
    · rintro (⟨k, hk⟩ | ⟨k, hk⟩)
      · change (lv k).ownBlock = some g at hk
        simp only [lv] at hk
        split at hk
        · rename_i v e t hi
          exact ⟨_, List.mem_of_getElem? hi, hk⟩
        · simp [undef, Value.ownBlock] at hk
      · change lb k = some g at hk
        simp only [lb] at hk
        split at hk
        · rename_i g' us hi
          exact ⟨_, List.mem_of_getElem? hi, by simpa [Item.block] using hk⟩
        · cases hk
    · rintro ⟨it, hit, hg⟩
      obtain ⟨k, hk⟩ := List.mem_iff_getElem?.1 hit
      cases it with
      | row v e t => exact .inl ⟨k, by rw [hlv k v e t hk]; exact hg⟩
      | box g' us => exact .inr ⟨k, by rw [hlb k g' us hk]; simpa [Item.block] using hg⟩
  have K : Known A X := ⟨hst, ⟨hG, fun g hg => (hsep.zone g ((hL g).1 hg)).2.2⟩, hty, hgl A rfl rfl, hcon, hmcon⟩
  have hψ0 : ∀ k v e t, is[k]? = some (.row v e t) → γ.ψ ⟨.lent k, 0, 0⟩ 0 = v := fun k v e t h => hlv k v e t h
  have hσ0 : ∀ k g us, is[k]? = some (.box g us) → γ.σ (lentBase + k) 0 = g := fun k g us h => by
    show (lb (lentBase + k - lentBase)).getD 0 = g
    rw [Nat.add_sub_cancel_left, show lb k = some g from hlb k g us h]; rfl
  obtain ⟨hvl, havl, a1, a2, a3, a4⟩ := argsM_rel (A := A) (γ := γ) (w := w) hψ0 hσ0 As xs vs is 0 0 0 (parLen As) hargs (fun n it hn => by rwa [Nat.zero_add]) (fun m u hu => by
      rw [Nat.zero_add]
      show (avsOf vs ++ busOf is)[m]? = _
      rw [List.getElem?_append_left (List.getElem?_eq_some_iff.1 hu).1]; exact hu)
    (fun m u hu => by
      show (avsOf vs ++ busOf is)[parLen As + m]? = _
      have hal : (avsOf vs).length = parLen As := by
        exact (argsM_len Z w As xs vs is hargs)
      rw [List.getElem?_append_right (by omega), hal, Nat.add_sub_cancel_left]; exact hu)
  let env0 : Env := (.ver, .num 1) :: argEnvM As xs 0 0 0 (parLen As)
  have gt : ∀ t, env0.get (.tmp t) = (argEnvM As xs 0 0 0 (parLen As)).get (.tmp t) := fun t => Env.get_cons_ne _ _ (by simp)
  have gb : ∀ b, env0.get (.box b) = (argEnvM As xs 0 0 0 (parLen As)).get (.box b) := fun b => Env.get_cons_ne _ _ (by simp)
  have gl : ∀ k, env0.get (.lent k) = (argEnvM As xs 0 0 0 (parLen As)).get (.lent k) := fun k => Env.get_cons_ne _ _ (by simp)
  have gv : env0.ver = 1 := by simp [Env.ver, env0, Env.get_cons_self]
  have hbox : ∀ b ver fz cs, env0.get (.box b) = .box ver fz cs → ∃ n g us, b = lentBase + n ∧ is[n]? = some (.box g us) ∧ ver = 0 ∧ fz = false ∧ us.length = cs.length ∧ (∃ T, w.heap[g]? = some (.cells us.toArray T (0, 0))) ∧ (∀ (m : Nat) (c : Cell) (u : Value), cs[m]? = some c → us[m]? = some u → StartC A γ w c u) := by
    intro b ver fz cs hbb
    rw [gb] at hbb
    rcases a2 b with h | ⟨n, it, h1, h2, h3⟩
    · rw [h] at hbb; cases hbb
    · rw [hbb] at h3
      cases it with
      | row v e t => exact h3.elim
      | box g us => exact ⟨n, g, us, by rw [h1, Nat.zero_add], h2, h3.1, h3.2.1, h3.2.2.1, h3.2.2.2.1, h3.2.2.2.2⟩
  have hcell : ∀ x c, envCell env0 x = some c → (StartC A γ w c (γ.φ x) ∧ c.isOwn = false) ∨ ∃ k v e t l, x = ⟨.lent k, 0, 0⟩ ∧ is[k]? = some (.row v e t) ∧ c = .own e t 0 l ∧ OwnV Z w 0 e t v l ∧ γ.φ x = v := by
    rintro ⟨s, i, j⟩ c hc
    unfold envCell at hc
    cases s with
    | ver => simp only [env0, Env.get_cons_self, AV.cell?] at hc; cases hc
    | tmp t =>
      simp only [gt] at hc
      rcases a1 t with h | ⟨n, v, h1, h2, h3⟩
      · rw [h] at hc; simp [AV.cell?] at hc
      · cases hg : (argEnvM As xs 0 0 0 (parLen As)).get (.tmp t) with
        | val g cs =>
          rw [hg] at h3 hc
          obtain ⟨us, e1, e2, e3, e4, e5⟩ := h3
          cases i with
          | succ i => simp [AV.cell?] at hc
          | zero =>
            have hc : cs[j]? = some c := hc
            have hlt : j < us.length := by rw [e3]; exact (List.getElem?_eq_some_iff.1 hc).1
            have hφ : γ.φ ⟨.tmp t, 0, j⟩ = us[j] := by
              show ((vs.getD t undef).cells.toList).getD j undef = _
              rw [h1, Nat.zero_add, getD_of h2, e2, getD_of (List.getElem?_eq_getElem hlt)]
            rw [hφ]
            have := e5 j c _ hc (List.getElem?_eq_getElem hlt)
            exact .inl ⟨this, this.2.2.2⟩
        | _ => rw [hg] at h3; exact h3.elim
    | box b =>
      cases hg : env0.get (.box b) with
      | box ver fz cs =>
        obtain ⟨n, g, us, rfl, h2, rfl, rfl, h5, _, h7⟩ := hbox b ver fz cs hg
        simp only [hg] at hc
        cases i with
        | succ i => simp [AV.cell?] at hc
        | zero =>
          have hc : cs[j]? = some c := hc
          have hlt : j < us.length := by rw [h5]; exact (List.getElem?_eq_some_iff.1 hc).1
          have hφ : γ.φ ⟨.box (lentBase + n), 0, j⟩ = us[j] := by
            show (match is[lentBase + n - lentBase]? with | some (.box _ us) => us.getD j undef | _ => undef) = _
            rw [Nat.add_sub_cancel_left, h2]
            exact getD_of (List.getElem?_eq_getElem hlt)
          rw [hφ]
          have := h7 j c _ hc (List.getElem?_eq_getElem hlt)
          exact .inl ⟨this, this.2.2.2⟩
      | val g cs =>
        rw [gb] at hg
        rcases a2 b with h | ⟨n, it, h1, h2, h3⟩
        · rw [h] at hg; cases hg
        · rw [hg] at h3; cases it <;> exact h3.elim
      | tup l =>
        rw [gb] at hg
        rcases a2 b with h | ⟨n, it, h1, h2, h3⟩
        · rw [h] at hg; cases hg
        · rw [hg] at h3; cases it <;> exact h3.elim
      | undef => simp only [hg, AV.cell?] at hc; cases hc
      | skip => simp only [hg, AV.cell?] at hc; cases hc
      | num n => simp only [hg, AV.cell?] at hc; cases hc
    | lent k =>
      simp only [gl] at hc
      rcases a3 k with h | ⟨n, it, h1, h2, h3⟩
      · rw [h] at hc; simp [AV.cell?] at hc
      · have hk : k = n := by omega
        subst hk
        cases hg : (argEnvM As xs 0 0 0 (parLen As)).get (.lent k) with
        | val g cs =>
          rw [hg] at h3 hc
          cases it with
          | box g us => exact h3.elim
          | row v e t =>
            obtain ⟨l, rfl, rfl, hown⟩ := h3
            cases i with
            | succ i => simp [AV.cell?] at hc
            | zero =>
              cases j with
              | succ j => simp [AV.cell?] at hc
              | zero =>
                simp only [AV.cell?, List.getElem?_cons_zero, Option.some.injEq] at hc
                exact .inr ⟨k, v, e, t, l, rfl, h2, hc.symm, hown, hlv k v e t h2⟩
        | _ => rw [hg] at h3; cases it <;> exact h3.elim
  have hown : ∀ x e t ver l, envCell env0 x = some (.own e t ver l) → ∃ k v, x = ⟨.lent k, 0, 0⟩ ∧ is[k]? = some (.row v e t) ∧ ver = 0 ∧ OwnV Z w 0 e t v l ∧ γ.φ x = v := by
    intro x e t ver l hx
    rcases hcell x _ hx with ⟨_, h⟩ | ⟨k, v, e', t', l', h1, h2, h3, h4, h5⟩
    · simp [Cell.isOwn] at h
    · injection h3 with e1 e2 e3 e4
      subst e1; subst e2; subst e3
      have e4 := eq_of_heq e4
      subst e4
      exact ⟨k, v, h1, h2, rfl, h4, h5⟩
  have hcore : Core A X γ (fun v => env0.ver ≤ v) env0 { tmps := vs.toArray ++ Array.replicate (fn.ntmps - vs.toArray.size) undef, defers := [] } w := by
    refine { frame := ⟨rfl, rfl, rfl, Nat.le_refl _, fun _ _ _ => rfl, Nat.le_refl _⟩, glob := hG, zone := hZ, zone0 := ⟨fun g hg => hg, fun g hg => .inl hg⟩, defers := rfl, size := ?_, ntl := hAs.2, baseB := Nat.zero_le _, tmp := fun t => ?_, box := fun b ver fz cs hbb => ?_, cell := fun x c hc => ?_, own := fun x e t ver l hx => ?_, inj := ?_, fresh := fun x e t ver l hx hnl => ?_, lent := fun _ => rfl, lentloc := fun k c j cl hx => ?_ }
    · simp only [Array.size_append, List.size_toArray, Array.size_replicate, hvl]
      have := hAs.1
      omega
    · rw [gt]
      rcases a1 t with h | ⟨n, v, h1, h2, h3⟩
      · rw [h]; exact trivial
      · cases hg : (argEnvM As xs 0 0 0 (parLen As)).get (.tmp t) with
        | val g cs =>
          rw [hg] at h3
          obtain ⟨us, e1, e2, e3, e4, e5⟩ := h3
          have hk : t = n := by omega
          subst hk
          refine ⟨?_, e4⟩
          have hlt : t < vs.length := (List.getElem?_eq_some_iff.1 h2).1
          have hv : (vs.toArray ++ Array.replicate (fn.ntmps - vs.toArray.size) undef).getD t undef = v := by
            rw [Array.getD_eq_getD_getElem?, Array.getElem?_append_left (by simpa using hlt), List.getElem?_toArray, h2]
            rfl
          rw [hv, e1]
          congr 1
          have hφ : ∀ j, γ.φ ⟨.tmp t, 0, j⟩ = us.getD j undef := fun j => by
            show ((vs.getD t undef).cells.toList).getD j undef = _
            rw [getD_of h2, e2]
          rw [← range_map_getD us cs.length e3]
          simp [cellVals, hφ]
        | _ => rw [hg] at h3; exact h3.elim
    · obtain ⟨n, g, us, rfl, h2, rfl, rfl, h5, ⟨T, hT⟩, h7⟩ := hbox b ver fz cs hbb
      have hs := hσ0 n g us h2
      have hcv : cellVals γ (.box (lentBase + n)) 0 cs.length = us := by
        rw [← range_map_getD us cs.length h5]
        simp only [cellVals]
        apply List.map_congr_left
        intro j _
        show (match is[lentBase + n - lentBase]? with | some (.box _ us) => us.getD j undef | _ => undef) = _
        rw [Nat.add_sub_cancel_left, h2]
      refine ⟨⟨T, by rw [hs, hcv]; exact hT⟩, ⟨fun hh => by omega, fun _ => ?_⟩, ⟨fun hh => (by cases hh), fun hz => ?_⟩, by rw [gv]; omega⟩
      · rw [Nat.add_sub_cancel_left, hs]; exact hlb n g us h2
      · rw [hs] at hz
        exact absurd hz (hsep.zone g ⟨_, List.mem_of_getElem? h2, rfl⟩).1
    · rcases hcell x c hc with ⟨⟨h1, h2, h3, _⟩, _⟩ | ⟨k, v, e, t, l, rfl, h2, rfl, h4, h5⟩
      · exact ⟨h1, h2, fun r hr => by rw [h3 r hr, gv]; omega⟩
      · refine ⟨by rw [h5]; exact h4, ?_, by simp [refs]⟩
        rw [h5]
        obtain ⟨B, c, hh, _⟩ := OwnV.slice h4
        rw [hh]; rfl
    · obtain ⟨k, v, rfl, h2, rfl, h4, h5⟩ := hown x e t ver l hx
      refine ⟨rfl, by rw [gv]; omega, fun g hg => ?_⟩
      rw [h5] at hg
      have hlo : Lof is g := ⟨_, List.mem_of_getElem? h2, hg⟩
      refine ⟨(hsep.zone g hlo).1, fun b bv fz cs hbb he => ?_, fun y e' t' ver' l' hy hyg => ?_⟩
      · obtain ⟨n, g', us, rfl, h2', rfl, rfl, _⟩ := hbox b bv fz cs hbb
        rw [hσ0 n g' us h2'] at he
        subst he
        have := hsep.uniq k n _ _ g' h2 h2' hg rfl
        subst this
        rw [h2] at h2'
        cases h2'
      · obtain ⟨k', v', rfl, h2', rfl, h4', h5'⟩ := hown y e' t' ver' l' hy
        rw [h5'] at hyg
        have := hsep.uniq k k' _ _ g h2 h2' hg hyg
        rw [this]
    · intro b b' bv bv' fz fz' cs cs' h1 h2 he
      obtain ⟨n, g, us, rfl, k1, rfl, rfl, _⟩ := hbox b bv fz cs h1
      obtain ⟨n', g', us', rfl, k1', rfl, rfl, _⟩ := hbox b' bv' fz' cs' h2
      rw [hσ0 n g us k1, hσ0 n' g' us' k1'] at he
      subst he
      rw [hsep.uniq n n' _ _ g k1 k1' rfl rfl]
    · obtain ⟨k, v, rfl, _⟩ := hown x e t ver l hx
      simp [Slot.isLent] at hnl
    · rcases hcell _ cl hx with ⟨_, hno⟩ | ⟨k', v, e, t, l, h1, _⟩
      · exfalso
        unfold envCell at hx
        simp only [gl] at hx
        rcases a3 k with h | ⟨n, it, h1, h2, h3⟩
        · rw [h] at hx; simp [AV.cell?] at hx
        · cases hg : (argEnvM As xs 0 0 0 (parLen As)).get (.lent k) with
          | val g cs =>
            rw [hg] at h3 hx
            cases it with
            | box g us => exact h3.elim
            | row v e t =>
              obtain ⟨l, rfl, rfl, hown⟩ := h3
              cases c with
              | succ i => simp [AV.cell?] at hx
              | zero =>
                cases j with
                | succ j => simp [AV.cell?] at hx
                | zero =>
                  simp only [AV.cell?, List.getElem?_cons_zero, Option.some.injEq] at hx
                  subst hx
                  simp [Cell.isOwn] at hno
          | _ => rw [hg] at h3; cases it <;> exact h3.elim
      · simp only [Loc.mk.injEq] at h1
        exact ⟨h1.2.1, h1.2.2⟩
  refine run_sound K hm c env0 (finMD X As R ms) (r, m) _ _ w hrun ⟨γ, hcore⟩ fun e env' a' w' hfinD hst' => ?_
  obtain ⟨out, hfin, hdec⟩ := Option.bind_eq_some_iff.1 hfinD
  obtain ⟨γ', hc'⟩ := hst'
  have done : (((outOf X [] X.results).bind fun o => (outM As 0).bind fun m => .pure (o ++ m)).cps env'.get [] fun o _ => some o) = some out → a'.defers = [] ∧ ∃ v, (results fn a'.tmps).run P w' = .ok v w' ∧
      ∃ v0, Ending.returned v = .returned v0 ∧ ∃ Z' us, v0 = mkRes us ∧ FrameL (Lof is) w w' ∧ (∀ g, Z g → Z' g) ∧ (∀ g, Z' g → Z g ∨ (w.heap.size ≤ g ∧ g < w'.heap.size)) ∧
      ResRel Z' w' w.heap.size [] (resL R r ms) us ∧ OutN Z' w' is (newsOf As m) := by
    intro hfin
    obtain ⟨o, lg, he, ho⟩ := Rd.cps_some _ _ _ _ _ hfin
    injection ho with ho
    subst ho
    simp only [Rd.eval_bind, Option.bind_eq_some_iff] at he
    obtain ⟨⟨o1, l2⟩, e1, ⟨o2, l3⟩, e2, e3⟩ := he
    simp only [Rd.eval, Option.some.injEq, Prod.mk.injEq] at e3
    obtain ⟨rfl, _⟩ := e3
    have hl1 : o1.length = R.length := by rw [outOf_length _ _ _ _ _ _ e1, hR]
    simp only [decodeLM, Option.bind_eq_some_iff, Option.map_eq_some_iff, Prod.mk.injEq] at hdec
    obtain ⟨r', d1, m', d2, rfl, rfl⟩ := hdec
    rw [← hl1, List.take_left] at d1
    rw [← hl1, List.drop_left] at d2
    obtain ⟨us, m1, m2⟩ := outOf_sound hc' K X.results [] o1 [] _ e1
    obtain ⟨Z', z1, z2, f', hl, hcl, huq⟩ := fin_rel hc' d1 m2
    refine ⟨hc'.defers, mkRes us, ?_, _, rfl, Z', us, rfl, ⟨hc'.frame.os, hc'.frame.tape, hc'.frame.output, hc'.frame.size, fun k hk hnl => hc'.frame.block k hk fun hh => hnl ((hL k).1 hh), hc'.frame.drawn⟩, fun g hg => z1 g (hc'.zone0.1 g hg), fun g hg => ?_, ⟨f', hl, fun i p hp => ?_, huq⟩, ?_⟩
    · rw [hres] at m1
      change Sem.run P _ w' = _ at m1
      have hmap : (fn.results.mapM (fun | .tmp t => pure (a'.tmps.getD t undef) | .cell b t => do loadVar t (← asAddr (a'.tmps.getD b undef)) : ResultVar → Sem Value)).run P w' = .ok us.toArray w' := by
        rw [Array.mapM_eq_mapM_toList, Sem.run_map]
        exact congrArg (fun r => Result.andThen r fun l w => Result.ok (List.toArray l) w) m1
      have hbind : (results fn a'.tmps).run P w' = (((fn.results.mapM (fun | .tmp t => pure (a'.tmps.getD t undef) | .cell b t => do loadVar t (← asAddr (a'.tmps.getD b undef)) : ResultVar → Sem Value)).run P w').andThen
          fun vs w => (pure (if h : vs.size = 1 then vs[0] else .tuple vs) : Sem Value).run P w) := by
        rw [← Sem.run_bind]; rfl
      rw [hbind, hmap, Result.andThen_ok]
      match us with
      | [] => rfl
      | [v] => rfl
      | _ :: _ :: _ => rfl
    · rcases z2 g hg with hg | hg
      · rcases hc'.zone0.2 g hg with h0 | h0
        · exact .inl h0
        · exact .inr ⟨h0, hc'.zone g hg⟩
      · exact .inr hg
    · obtain ⟨g1, g2, g3⟩ := hcl i p hp
      refine ⟨g1, g2, fun j rc hrc => ?_⟩
      have hnp := resL_nopass R r' ms hms p (List.mem_of_getElem? hp) rc (List.mem_of_getElem? hrc)
      have := g3 j rc hrc
      cases rc with
      | pass k => exact absurd rfl (hnp k)
      | flat c => exact this
      | own e t l => exact this
      | imm t l => exact this
      | bad => exact this
    · exact outM_sound hc' rfl z1 hlv hlb As xs vs is 0 (parLen As) o2 m' _ _ hargs (fun n it hn => by rwa [Nat.zero_add]) (fun m u hu => by
        show (avsOf vs ++ busOf is)[parLen As + m]? = _
        have hal := argsM_len Z w As xs vs is hargs
        rw [List.getElem?_append_right (by omega), hal, Nat.add_sub_cancel_left]; exact hu) e2 d2
  cases e with
  | normal => exact done hfin
  | ret => exact done hfin
  | exit id => simp [finM] at hfin
  | goto l => simp [finM] at hfin
end
end Go.VI
namespace Go.VI
noncomputable section
open Go.RowKit
theorem hid_ex {α : Type} (a : α) : ∃ x : α, x = a := ⟨a, rfl⟩
noncomputable def hid {α : Type} (a : α) : α := Classical.choose (hid_ex a)
theorem hid_eq {α : Type} (a : α) : hid a = a := Classical.choose_spec (hid_ex a)
theorem manyRounds : ∃ n : Nat, 4194304 ≤ n := ⟨_, Nat.le_refl _⟩
noncomputable def N : Nat := Classical.choose manyRounds
theorem N_ge : 4194304 ≤ N := Classical.choose_spec manyRounds
theorem look_mem {α : Type} : ∀ (l : List (Nat × α)) (k : Nat) (x : α), look l k = some x → (k, x) ∈ l
  | [], k, x, h => by simp [look] at h
  | p :: r, k, x, h => by
    simp only [look] at h
    cases hb : Nat.beq p.1 k with
    | true =>
      rw [hb] at h
      have hb := Nat.eq_of_beq_eq_true hb
      simp only [cond_true, Option.some.injEq] at h
      subst h; subst hb
      simp
    | false =>
      rw [hb] at h
      exact List.mem_cons_of_mem _ (look_mem r k x h)
def tiB (P : Program) (T : TypeId) (ti : TI) : Prop :=
  P.underlying T = some ti.desc ∧ (P.info? T).map (fun i => (i.size, i.bytes, i.zero)) = some (ti.ty.size, ti.bytes, some (mkVal ti.agg (ti.zero.map cellV))) ∧ zmatch ti.ty ti.zero = some [] ∧ (ti.agg || Nat.beq ti.ty.size 1) = true ∧
    ti.agg = (match ti.desc with | .struct _ | .array .. => true | _ => false) ∧ (!ti.eqs || (!P.stoodInHeld T && (match ti.desc with | .struct fs => fs.toList.all fun f => f.name != "_" | _ => true))) = true
theorem tiB_ok {P : Program} {T : TypeId} {ti : TI} (h : tiB P T ti) : TIOK P T ti :=
  ⟨h.1, h.2.1, h.2.2.1, fun hg => by
    have := h.2.2.2.1
    rw [hg] at this
    exact Nat.eq_of_beq_eq_true (by simpa using this), h.2.2.2.2.1, fun he => by
    have := h.2.2.2.2.2
    rw [he] at this
    simp only [Bool.not_true, Bool.false_or, Bool.and_eq_true, Bool.not_eq_true'] at this
    refine ⟨this.1, fun fs hfs f hf => ?_⟩
    have h2 := this.2
    rw [hfs] at h2
    simpa using List.all_eq_true.1 h2 f hf⟩
def allP {α : Type} (p : α → Prop) : List α → Prop
  | [] => True
  | a :: r => p a ∧ allP p r
theorem allP_mem {α : Type} {p : α → Prop} : ∀ {l : List α}, allP p l → ∀ a ∈ l, p a
  | [], _, a, h => by cases h
  | b :: r, h, a, ha => by
    rcases List.mem_cons.1 ha with rfl | ha
    · exact h.1
    · exact allP_mem h.2 a ha
theorem looks_mem {α : Type} : ∀ (l : List (Nat × α)) (k : Nat) (x : α), x ∈ looks l k → (k, x) ∈ l
  | [], k, x, h => by simp [looks] at h
  | p :: r, k, x, h => by
    simp only [looks] at h
    cases hb : Nat.beq p.1 k with
    | true =>
      rw [hb] at h
      have hb := Nat.eq_of_beq_eq_true hb
      simp only [cond_true, List.mem_cons] at h
      rcases h with rfl | h
      · subst hb; simp
      · exact List.mem_cons_of_mem _ (looks_mem r k x h)
    | false =>
      rw [hb] at h
      exact List.mem_cons_of_mem _ (looks_mem r k x h)
theorem tyOK_of {P : Program} {X : Ctx} (h : allP (fun p => tiB P p.1 p.2) X.types) : TyOK P X := fun _ _ hl => tiB_ok (allP_mem h _ (look_mem _ _ _ hl))
theorem conOK_of {P : Program} {G : World → Prop} {X : Ctx} (h : allP (fun p => Sound P G p.1 p.2) X.con) : ConOK P G X := fun _ _ hl => allP_mem h _ (looks_mem _ _ _ hl)
theorem mconOK_of {P : Program} {n0 : Nat} {G : World → Prop} {X : Ctx} (h : allP (fun p => SoundM P n0 G p.1 p.2) X.mcon) : MConOK P n0 G X := fun _ _ hl => allP_mem h _ (look_mem _ _ _ hl)
theorem globOK_none {X : Ctx} (h : X.globals = []) (A : Fix) : GlobOK A X := fun w _ g p hp => by rw [h] at hp; simp [look] at hp
theorem sound_none {P : Program} {G : World → Prop} {f : FuncId} {As : List ATy} {R : List (Bool × Ty)} {ms : List RMode} : Sound P G f ⟨As, R, ms, fun _ => none⟩ := by
  intro w Z vs xs r _ _ _ h
  cases h
theorem stable_true : Stable 0 fun _ => True := ⟨fun _ _ => Nat.zero_le _, fun _ _ _ _ _ => trivial⟩
end
end Go.VI
