/- VI, part 29: what a statement's reading gives: plain values. -/
import Derived.Test.YtdejhienahdoiaaGreatViFunM
import Derived.ProofKit
import Derived.OpenShut
namespace Go.VI
noncomputable section
open Go.RowKit
def fieldsTy (P : Program) (rec : TypeId → Ty → Bool) : Nat → List Field → Ty → Bool
  | _, [], .unit => true
  | off, f :: r, .pair a b => Nat.beq f.offset off && Nat.beq (P.cellsOf f.type) a.size && rec f.type a && fieldsTy P rec (off + a.size) r b
  | _, _, _ => false
def arrTy (P : Program) (rec : TypeId → Ty → Bool) (e : TypeId) : Nat → Ty → Bool
  | 0, .unit => true
  | n + 1, .pair a b => Nat.beq (P.cellsOf e) a.size && rec e a && arrTy P rec e n b
  | _, _ => false
def hasTy (P : Program) : Nat → TypeId → Ty → Bool
  | 0, _, _ => false
  | n + 1, T, t => match P.underlying T with
    | some (.int k) => match t with | .int k' => decide (k = k') | _ => false
    | some .bool => match t with | .bool => true | _ => false
    | some .string => match t with | .str => true | _ => false
    | some (.slice e) => match t with | .sl t' => Nat.blt 0 t'.size && Nat.beq (P.cellsOf e) t'.size && hasTy P n e t' | _ => false
    | some (.struct fs) => fieldsTy P (hasTy P n) 0 fs.toList t && Nat.beq (P.cellsOf T) t.size
    | some (.array m e) => arrTy P (hasTy P n) e m t && Nat.beq (P.cellsOf T) t.size
    | _ => false
def Wf : (t : Ty) → t.den → Prop
  | .int k, n => k.min ≤ n ∧ n ≤ k.max
  | .bool, _ => True
  | .str, s => s.length ≤ maxLen
  | .unit, _ => True
  | .pair a b, x => Wf a x.1 ∧ Wf b x.2
  | .sl t, l => l.length ≤ maxLen ∧ ∀ x ∈ l, Wf t x
theorem choose_list {α : Type} (p : Nat → α → Prop) : ∀ (n : Nat), (∀ i, i < n → ∃ x, p i x) → ∃ l : List α, l.length = n ∧ ∀ i x, l[i]? = some x → p i x
  | 0, _ => ⟨[], rfl, by simp⟩
  | n + 1, h => by
    obtain ⟨l, h1, h2⟩ := choose_list p n fun i hi => h i (by omega)
    obtain ⟨x, hx⟩ := h n (by omega)
    refine ⟨l ++ [x], by simp [h1], fun i y hy => ?_⟩
    by_cases hi : i < l.length
    · rw [List.getElem?_append_left hi] at hy; exact h2 i y hy
    · have : i = n := by
        have := (List.getElem?_eq_some_iff.1 hy).1
        simp at this; omega
      subst this
      rw [← h1] at hy
      simp at hy
      subst hy; exact hx
section
variable {H : Type} {enc : TypeId × Value → H} {P : Program} {w : World} {base : Nat} {spare : Nat → Bool} {held : Bool}
def InW (w : World) : Nat → Prop := fun g => g < w.heap.size
theorem fields_rep (n fuel : Nat) (ih : ∀ (T : TypeId) (t : Ty) (cs : List Value) (d : DataW H) (ps : List MemPlace), hasTy P n T t = true → DataW.trod enc P w base spare held fuel T cs = some (d, ps) → ∃ x, RepI (InW w) w t x cs ∧ Wf t x)
    (cs : List Value) : ∀ (fs : List Field) (off : Nat) (t : Ty), fieldsTy P (hasTy P n) off fs t = true → cs.length = off + t.size →
    (∀ f ∈ fs, ∃ y, DataW.trod enc P w base spare held fuel f.type ((cs.drop f.offset).take (P.cellsOf f.type)) = some y) → ∃ x, RepI (InW w) w t x (cs.drop off) ∧ Wf t x
  | [], off, t, h, hl, _ => by
    cases t <;> simp [fieldsTy] at h
    refine ⟨(), ?_, trivial⟩
    exact List.drop_eq_nil_of_le (by simp [Ty.size] at hl; omega)
  | f :: r, off, t, h, hl, hm => by
    cases t <;> simp [fieldsTy] at h
    rename_i a b
    obtain ⟨⟨⟨h1, h2⟩, h3⟩, h4⟩ := h
    obtain ⟨⟨d, ps⟩, hy⟩ := hm f (by simp)
    rw [h1, h2] at hy
    obtain ⟨x, hx, wx⟩ := ih _ _ _ _ _ h3 hy
    obtain ⟨y, hy2, wy⟩ := fields_rep n fuel ih cs r (off + a.size) b h4 (by simp [Ty.size] at hl; omega) fun f' hf' => hm f' (by simp [hf'])
    refine ⟨(x, y), ⟨_, _, ?_, hx, hy2⟩, wx, wy⟩
    rw [← List.drop_drop, List.take_append_drop]
theorem arr_rep (n fuel : Nat) (ih : ∀ (T : TypeId) (t : Ty) (cs : List Value) (d : DataW H) (ps : List MemPlace), hasTy P n T t = true → DataW.trod enc P w base spare held fuel T cs = some (d, ps) → ∃ x, RepI (InW w) w t x cs ∧ Wf t x)
    (cs : List Value) (e : TypeId) : ∀ (m i : Nat) (t : Ty), arrTy P (hasTy P n) e m t = true → cs.length = i * P.cellsOf e + t.size →
    (∀ k, i ≤ k → k < i + m → ∃ y, DataW.trod enc P w base spare held fuel e ((cs.drop (k * P.cellsOf e)).take (P.cellsOf e)) = some y) → ∃ x, RepI (InW w) w t x (cs.drop (i * P.cellsOf e)) ∧ Wf t x
  | 0, i, t, h, hl, _ => by
    cases t <;> simp [arrTy] at h
    refine ⟨(), ?_, trivial⟩
    exact List.drop_eq_nil_of_le (by simp [Ty.size] at hl; omega)
  | m + 1, i, t, h, hl, hm => by
    cases t <;> simp [arrTy] at h
    rename_i a b
    obtain ⟨⟨h2, h3⟩, h4⟩ := h
    obtain ⟨⟨d, ps⟩, hy⟩ := hm i (Nat.le_refl _) (by omega)
    obtain ⟨x, hx, wx⟩ := ih _ _ _ _ _ h3 hy
    obtain ⟨y, hy2, wy⟩ := arr_rep n fuel ih cs e m (i + 1) b h4 (by rw [Nat.succ_mul]; simp [Ty.size] at hl; omega) fun k hk hk' => hm k (by omega) (by omega)
    refine ⟨(x, y), ⟨_, _, ?_, hx, hy2⟩, wx, wy⟩
    rw [Nat.succ_mul, ← List.drop_drop, List.take_append_drop]
theorem trod_rep : ∀ (n fuel : Nat) (T : TypeId) (t : Ty) (cs : List Value) (d : DataW H) (ps : List MemPlace), hasTy P n T t = true → DataW.trod enc P w base spare held fuel T cs = some (d, ps) → ∃ x, RepI (InW w) w t x cs ∧ Wf t x
  | 0, fuel, T, t, cs, d, ps, ht, _ => by simp [hasTy] at ht
  | n + 1, fuel, T, t, cs, d, ps, ht, h => by
    simp only [hasTy] at ht
    split at ht
    · rename_i k hu
      cases t <;> simp at ht
      subst ht
      obtain ⟨v, rfl, _, hw⟩ := DataW.trod_int hu h
      simp only [Lit.wf, Bool.and_eq_true, decide_eq_true_eq] at hw
      exact ⟨v, rfl, hw⟩
    · rename_i hu
      cases t <;> simp at ht
      obtain ⟨v, rfl, _⟩ := DataW.trod_bool hu h
      exact ⟨v, rfl, trivial⟩
    · rename_i hu
      cases t <;> simp at ht
      obtain ⟨s, rfl, _, hs⟩ := DataW.trod_string hu h
      exact ⟨s.data.toList, rfl, (show s.data.toList.length ≤ maxLen by rw [Array.length_toList]; exact hs)⟩
    · rename_i e hu
      cases t <;> simp at ht
      rename_i t'
      obtain ⟨⟨h0, h1⟩, h2⟩ := ht
      rcases DataW.trod_slice hu h with ⟨rfl, _⟩ | ⟨a, len, cap, elems, rest, m, rfl, rfl, _, hb, hlc, hcm, hel, hget, _, _⟩
      · exact ⟨[], ⟨none, 0, rfl, Nat.le_refl _, fun i x hx => by simp at hx⟩, by simp, by simp⟩
      · have hone : ∀ i, i < len → ∃ x, (∃ us, RepI (InW w) w t' x us ∧ ∀ j u, us[j]? = some u → w.cell? (a.add (i * t'.size + j)) = some u) ∧ Wf t' x ∧ a.block < w.heap.size := by
          intro i hi
          have he := hget i hi
          rw [List.getElem?_eq_getElem (by omega), Option.bind_eq_some_iff] at he
          obtain ⟨cs', hc', ht'⟩ := he
          obtain ⟨x, hx, wx⟩ := trod_rep n m e t' cs' elems[i].1 elems[i].2 h2 ht'
          obtain ⟨_, hl', hcell⟩ := World.cells?_some hc'
          have hblk := World.cells?_block hc' (by rw [h1]; exact h0)
          rw [add_zero_block] at hblk
          refine ⟨x, ⟨cs', hx, fun j u hu' => ?_⟩, wx, hblk⟩
          have hj : j < P.cellsOf e := by rw [← hl']; exact (List.getElem?_eq_some_iff.1 hu').1
          have := hcell j hj
          rw [add_add, hu', h1] at this
          exact this
        obtain ⟨l, hl, hall⟩ := choose_list _ len hone
        refine ⟨l, ⟨some a, cap, by rw [hl], by rw [hl]; exact hlc, fun i x hx => ?_⟩, by rw [hl]; exact Nat.le_trans hlc hcm, fun x hx => ?_⟩
        · obtain ⟨⟨us, k1, k2⟩, _, k3⟩ := hall i x hx
          exact ⟨a, rfl, k3, us, k1, k2⟩
        · obtain ⟨i, hi⟩ := List.mem_iff_getElem?.1 hx
          exact (hall i x hi).2.1
    · rename_i fs hu
      simp only [Bool.and_eq_true] at ht
      have hsz := Nat.eq_of_beq_eq_true ht.2
      obtain ⟨xs, m, rfl, _, hl, hxl, hx⟩ := DataW.trod_struct hu h
      have := fields_rep (enc := enc) (base := base) (spare := spare) (held := held) n m (fun T t cs d ps h1 h2 => trod_rep n m T t cs d ps h1 h2) cs fs.toList 0 t ht.1 (by rw [hl, hsz]; simp) fun f hf => by
        obtain ⟨i, hi⟩ := List.mem_iff_getElem?.1 hf
        have hi' : fs[i]? = some f := by simpa using hi
        have hlt : i < xs.length := by rw [hxl]; exact (Array.getElem?_eq_some_iff.1 hi').1
        exact ⟨xs[i], by rw [hx i f hi']; exact List.getElem?_eq_getElem hlt⟩
      simpa using this
    · rename_i m e hu
      simp only [Bool.and_eq_true] at ht
      have hsz := Nat.eq_of_beq_eq_true ht.2
      obtain ⟨xs, f', rfl, _, hl, hxl, hx⟩ := DataW.trod_array hu h
      have := arr_rep (enc := enc) (base := base) (spare := spare) (held := held) n f' (fun T t cs d ps h1 h2 => trod_rep n f' T t cs d ps h1 h2) cs e m 0 t ht.1 (by rw [hl, hsz]; simp) fun k _ hk => by
        have hk' : k < xs.length := by omega
        exact ⟨xs[k], by rw [hx k (by omega)]; exact List.getElem?_eq_getElem hk'⟩
      simpa using this
    · simp at ht
end
end
end Go.VI
namespace Go.VI
noncomputable section
open Go.RowKit
def isAggT (P : Program) (T : TypeId) : Bool :=
  match P.underlying T with
  | some (.struct _) | some (.array _ _) => true
  | _ => false
def dataAs (P : Program) (n : Nat) : List TypeId → List ATy → Bool
  | [], [] => true
  | T :: Ts, .data g t :: As => (g == isAggT P T) && hasTy P n T t && dataAs P n Ts As
  | _, _ => false
def WfA : (As : List ATy) → denA As → Prop
  | [], _ => True
  | .data _ t :: r, x => Wf t x.1 ∧ WfA r x.2
  | .ptr t :: r, x => Wf t x.1 ∧ WfA r x.2
  | .clo _ _ :: r, x => WfA r x.2
  | .lrow _ t _ :: r, x => Wf t x.1 ∧ WfA r x.2
  | .lptr t :: r, x => Wf t x.1 ∧ WfA r x.2
section
variable {H : Type} {enc : TypeId × Value → H} {P : Program} {w : World} {base base' : Nat} {spare : Nat → Bool} {held : Bool} {r : Reach}
theorem val_form {n : Nat} {T : TypeId} {t : Ty} {v : Value} (ht : hasTy P n T t = true) (hok : Value.okWide P w r base T v) : v = mkVal (isAggT P T) v.cells.toList ∧ (isAggT P T = false → v.cells.toList.length = 1) := by
  cases n with
  | zero => simp [hasTy] at ht
  | succ n =>
    have one : isAggT P T = false → Cell.okWide P w r base T v → v.cells = #[v] := by
      intro hg hc
      cases v <;> first | rfl | skip
      all_goals
        exfalso
        unfold Cell.okWide Cell.ok at hc
        simp only [hasTy] at ht
        cases hu : P.underlying T with
        | none => rw [hu] at hc; simp at hc
        | some d => rw [hu] at hc ht; cases d <;> simp_all
    unfold Value.okWide at hok
    cases hu : P.underlying T with
    | none => simp [hasTy, hu] at ht
    | some d =>
      rw [hu] at hok
      have hg : isAggT P T = match (some d : Option TypeDesc) with | some (.struct _) | some (.array _ _) => true | _ => false := by unfold isAggT; rw [hu]
      cases d
      case struct fs =>
        obtain ⟨cs, rfl, _, _⟩ := hok
        rw [hg]
        exact ⟨rfl, fun hh => by cases hh⟩
      case array m e =>
        obtain ⟨cs, rfl, _, _⟩ := hok
        rw [hg]
        exact ⟨rfl, fun hh => by cases hh⟩
      all_goals
        have hf : isAggT P T = false := hg
        have := one hf hok
        rw [this, hf]
        exact ⟨rfl, fun _ => rfl⟩
theorem open_args {G : World → Prop} {n : Nat} : ∀ (Ts : List TypeId) (As : List ATy) (vs : List Value) (ds : List (DataW H)) (ps : List MemPlace), dataAs P n Ts As = true → DataW.TrodAll enc P w base spare held Ts vs ds ps →
    (∀ (j : Nat) T v, Ts[j]? = some T → vs[j]? = some v → Value.okWide P w r base' T v) → ∃ xs : denA As, RelArgs P G (InW w) w As xs vs ∧ WfA As xs
  | [], [], vs, ds, ps, _, h, _ => by
    cases vs with
    | nil => exact ⟨(), rfl, trivial⟩
    | cons v vs => cases ds <;> exact h.elim
  | [], _ :: _, vs, ds, ps, hd, _, _ => by simp [dataAs] at hd
  | T :: Ts, [], vs, ds, ps, hd, _, _ => by simp [dataAs] at hd
  | T :: Ts, .ptr t :: As, vs, ds, ps, hd, _, _ => by simp [dataAs] at hd
  | T :: Ts, .clo a b :: As, vs, ds, ps, hd, _, _ => by simp [dataAs] at hd
  | T :: Ts, .lrow g t es :: As, vs, ds, ps, hd, _, _ => by simp [dataAs] at hd
  | T :: Ts, .lptr t :: As, vs, ds, ps, hd, _, _ => by simp [dataAs] at hd
  | T :: Ts, .data g t :: As, vs, ds, ps, hd, h, hok => by
    simp only [dataAs, Bool.and_eq_true, beq_iff_eq] at hd
    obtain ⟨⟨hg, ht⟩, hd⟩ := hd
    cases vs with
    | nil => cases ds <;> exact h.elim
    | cons v vs =>
      cases ds with
      | nil => exact h.elim
      | cons d ds =>
        obtain ⟨p, q, ⟨fuel, h1⟩, h2, _⟩ := h
        obtain ⟨x, hx, wx⟩ := trod_rep n fuel T t _ d p ht h1
        obtain ⟨xs, hxs, wxs⟩ := open_args (G := G) Ts As vs ds q hd h2 fun j T' v' hj hv => hok (j + 1) T' v' (by simpa using hj) (by simpa using hv)
        obtain ⟨e1, e2⟩ := val_form ht (hok 0 T v rfl rfl)
        subst hg
        exact ⟨(x, xs), ⟨v.cells.toList, vs, by rw [← e1], e2, hx, hxs⟩, wx, wxs⟩
end
end
end Go.VI
namespace Go.VI
open Go.RowKit
theorem law_calls {H : Type} {enc : TypeId × Value → H} {P : Program} {G : World → Prop} {f : FuncId} {fn : Func} {c : Code} {As : List ATy} {F : denA As → Option (denL [(false, .bool)])} {W : World} {spare : Nat → Bool} {held : Bool} {base base' n : Nat} {r : Reach}
    {args : Array Value} {ds : List (DataW H)} {ps : List MemPlace} (hs : Sound P G f ⟨As, [(false, .bool)], [], F⟩) (hf : P.funcs[f]? = some fn) (hb : fn.body = some c) (hn : (fn.name == "runtime.NumGoroutine") = false)
    (hd : dataAs P n fn.params.toList As = true) (hG : G W) (hA : DataW.TrodAll enc P W base spare held fn.params.toList args.toList ds ps)
    (hok : ∀ (j : Nat) t v, fn.params[j]? = some t → args[j]? = some v → Value.okWide P W r base' t v)
    (hF : ∀ xs, WfA As xs → F xs = some (true, ())) : Calls P f args W fun e W' => e = .returned (.bool true) ∧ Go.RowKit.Below W.heap.size W W' := by
  obtain ⟨xs, hxs, wxs⟩ := open_args (G := G) (n := n) fn.params.toList As args.toList ds ps hd hA (fun j T v hj hv => hok j T v (by simpa using hj) (by simpa using hv))
  have h := hs W (InW W) args.toList xs (true, ()) hG (fun g hg => hg) hxs (hF xs wxs)
  have hn' : ¬ fn.name = "runtime.NumGoroutine" := by simpa using hn
  have hrun : (callFunc f args).run P W = .ok (.enter f args) W := by simp [callFunc, program, Sem.run, hf, hb, hn']
  rcases h with ⟨v, w', h1, _⟩ | ⟨_, h2⟩
  · simp only [Array.toArray_toList] at h1
    rw [hrun] at h1
    cases h1
  · simp only [Array.toArray_toList] at h2
    refine h2.mono ?_
    rintro e W' ⟨v, rfl, Z', us, rfl, hbel, _, _, ⟨g, hl, hcell, _⟩⟩
    refine ⟨?_, hbel.toRow⟩
    have hc := (hcell 0 (false, [.flat (.bool true)]) rfl)
    obtain ⟨k1, _, k3⟩ := hc
    have k3 := k3 0 _ rfl
    have hl : us.length = 1 := hl
    match us, hl with
    | [u], _ =>
      simp only [List.getElem?_cons_zero, Option.some.injEq] at k1
      have hu : g 0 0 = .bool true := k3.2
      rw [k1]
      simp [mkRes, mkVal, List.range_succ, hu]
theorem trodAll_below {H : Type} {enc : TypeId × Value → H} {P : Program} {W W' : World} (hl : laidOutB P = true) (hb : Go.RowKit.Below W.heap.size W W') : ∀ (Ts : List TypeId) (vs : List Value) (ds : List (DataW H)) (ps : List MemPlace),
    (Ts.all fun T => P.readableRec T && decide (T < P.types.size)) = true → DataW.TrodAll enc P W 0 (fun _ => true) true Ts vs ds ps → (∀ x ∈ ps, x.block < W.heap.size) →
    DataW.TrodAll enc P W' 0 (fun b => decide (b < W.heap.size)) true Ts vs ds ps
  | [], [], [], ps, _, h, _ => h
  | [], _ :: _, _, ps, _, h, _ => by cases h
  | [], [], _ :: _, ps, _, h, _ => by cases h
  | T :: Ts, [], ds, ps, _, h, _ => by cases ds <;> cases h
  | T :: Ts, v :: vs, [], ps, _, h, _ => by cases h
  | T :: Ts, v :: vs, d :: ds, ps, hT, h, hlt => by
    simp only [List.all_cons, Bool.and_eq_true, decide_eq_true_eq] at hT
    obtain ⟨p, q, h1, h2, rfl⟩ := h
    exact ⟨p, q, Below.trod hl hT.1.1 hT.1.2 h1 hb fun x hx => hlt x (by simp [hx]), trodAll_below hl hb Ts vs ds q hT.2 h2 fun x hx => hlt x (by simp [hx]), rfl⟩
end Go.VI
