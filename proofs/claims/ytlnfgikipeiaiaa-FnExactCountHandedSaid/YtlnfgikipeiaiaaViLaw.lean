/- VI, part 31: a law's call. -/
import Derived.Test.YtlnfgikipeiaiaaViOpen
namespace Go.VI
open Go.RowKit
theorem law_calls {H : Type} {enc : TypeId × Value → H} {P : Program} {G : World → Prop} {f : FuncId} {fn : Func} {c : Code} {As : List ATy} {F : denA As → Option (denL [(false, .bool)])} {W : World} {spare : Nat → Bool} {held : Bool} {base base' n : Nat} {r : Reach}
    {args : Array Value} {ds : List (DataW H)} {ps : List MemPlace} (hs : Sound P G f ⟨As, [(false, .bool)], [], F⟩) (hf : P.funcs[f]? = some fn) (hb : fn.body = some c) (hn : (fn.name == "runtime.NumGoroutine") = false)
    (hd : dataAs P n fn.params.toList As = true) (hG : G W) (hA : DataW.TrodAll enc P W base spare held fn.params.toList args.toList ds ps)
    (hok : ∀ (j : Nat) t v, fn.params[j]? = some t → args[j]? = some v → Value.okWide P W r base' t v)
    (hF : ∀ xs, WfA As xs → F xs = some (true, ())) : Calls P f args W fun e W' => e = .returned (.bool true) ∧ Go.RowKit.Below W.heap.size W W' := by
  obtain ⟨xs, hxs, wxs⟩ := open_args (G := G) (n := n) fn.params.toList As args.toList ds ps hd hA (fun j T v hj hv => hok j T v (by simpa using hj) (by simpa using hv))
  have h := hs W (InW W) args.toList xs (true, ()) hG (fun g hg => hg) hxs (hF xs wxs)
  have hn' : ¬ fn.name = "runtime.NumGoroutine" := by simpa using hn
  have hrun : (callFunc f args).run P W = .ok (.enter f args) W := by simp [callFunc, program, Sem.run, hf, hb, hn']
  rcases h with ⟨v, w', h1, _⟩ | ⟨_, h2⟩
  · simp only [Array.toArray_toList] at h1
    rw [hrun] at h1
    cases h1
  · simp only [Array.toArray_toList] at h2
    refine h2.mono ?_
    rintro e W' ⟨v, rfl, Z', us, rfl, hbel, _, _, ⟨g, hl, hcell, _⟩⟩
    refine ⟨?_, hbel.toRow⟩
    have hc := (hcell 0 (false, [.flat (.bool true)]) rfl)
    obtain ⟨k1, _, k3⟩ := hc
    have k3 := k3 0 _ rfl
    have hl : us.length = 1 := hl
    match us, hl with
    | [u], _ =>
      simp only [List.getElem?_cons_zero, Option.some.injEq] at k1
      have hu : g 0 0 = .bool true := k3.2
      rw [k1]
      simp [mkRes, mkVal, List.range_succ, hu]
theorem trodAll_below {H : Type} {enc : TypeId × Value → H} {P : Program} {W W' : World} (hl : laidOutB P = true) (hb : Go.RowKit.Below W.heap.size W W') : ∀ (Ts : List TypeId) (vs : List Value) (ds : List (DataW H)) (ps : List MemPlace),
    (Ts.all fun T => P.readableRec T && decide (T < P.types.size)) = true → DataW.TrodAll enc P W 0 (fun _ => true) true Ts vs ds ps → (∀ x ∈ ps, x.block < W.heap.size) →
    DataW.TrodAll enc P W' 0 (fun b => decide (b < W.heap.size)) true Ts vs ds ps
  | [], [], [], ps, _, h, _ => h
  | [], _ :: _, _, ps, _, h, _ => by cases h
  | [], [], _ :: _, ps, _, h, _ => by cases h
  | T :: Ts, [], ds, ps, _, h, _ => by cases ds <;> cases h
  | T :: Ts, v :: vs, [], ps, _, h, _ => by cases h
  | T :: Ts, v :: vs, d :: ds, ps, hT, h, hlt => by
    simp only [List.all_cons, Bool.and_eq_true, decide_eq_true_eq] at hT
    obtain ⟨p, q, h1, h2, rfl⟩ := h
    exact ⟨p, q, Below.trod hl hT.1.1 hT.1.2 h1 hb fun x hx => hlt x (by simp [hx]), trodAll_below hl hb Ts vs ds q hT.2 h2 fun x hx => hlt x (by simp [hx]), rfl⟩
end Go.VI
