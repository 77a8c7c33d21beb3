/- VI, part 38: a piece of code by VI, in a walk by hand. -/
import Derived.Test.YtkiiaoekkppghaaViGen
namespace Go.VI
open Go.RowKit

theorem vi_code {P : Program} {G : World → Prop} {X : Ctx} {As : List ATy} {n0 : Nat} (hm : P.follows .mixedOrders = true) (hst : Stable n0 G) (hty : TyOK P X)
    (hgl : ∀ A : Fix, A.P = P → A.G = G → GlobOK A X) (hcon : ConOK P G X) (hmcon : MConOK P n0 G X) (hnt : X.ntmps ≤ lentBase) {w : World} {Z : Nat → Prop} {vs : List Value} {xs : denA As} (i : Nat) (hG : G w) (hZ : ∀ g, Z g → g < w.heap.size)
    (hargs : RelArgs P G Z w As xs vs) {a : Act} (hsz : a.tmps.size = X.ntmps) (hd : a.defers = []) (htm : ∀ k v, vs[k]? = some v → a.tmps.getD (i + k) undef = v) {ρ : Type} {c : Code} {k : Ex → Env → Option ρ} {out : ρ} {Q : Exit → Act → World → Prop}
    (hrun : run X c (argEnv As xs i 0) k = some out)
    (hQ : ∀ e env' a' w' γ, k e env' = some out → Core ⟨P, G, w, avsOf vs, Z, w.heap.size, fun _ => undef, fun _ => none, n0⟩ X γ (fun v => env'.ver ≤ v) env' a' w' → Q (exOf e) a' w') : c.wp P Q a w := by
  let A : Fix := ⟨P, G, w, avsOf vs, Z, w.heap.size, fun _ => undef, fun _ => none, n0⟩
  have hL : ∀ g, ¬ A.L g := by
    rintro g (⟨k, hk⟩ | ⟨b, hb⟩)
    · exact absurd hk (by simp [A, undef, Value.ownBlock])
    · cases hb
  let γ : Gh := { σ := fun _ _ => 0, ψ := fun _ _ => undef, φ := fun x => match x.s with | .tmp t => ((vs.getD (t - i) undef).cells.toList).getD x.j undef | _ => undef, Z := Z }
  have K : Known A X := ⟨hst, ⟨hG, fun g hg => absurd hg (hL g)⟩, hty, hgl A rfl rfl, hcon, hmcon⟩
  obtain ⟨hvl, hav⟩ := args_rel (A := A) (γ := γ) (w := w) As xs vs i 0 hargs (fun m u hu => by rwa [Nat.zero_add])
  have hcell : ∀ x c, envCell (argEnv As xs i 0) x = some c → RelCell A γ w c (γ.φ x) ∧ (γ.φ x).oneCell' = true ∧ refs c = none ∧ c.isOwn = false := by
    rintro ⟨s, i', j⟩ c hc
    unfold envCell at hc
    cases s with
    | tmp t =>
      rcases hav t with hu | ⟨k, v, g, cs, us, e1, e2, e3, e4, e5, e6, e7, e8⟩
      · simp only [hu, AV.cell?] at hc; cases hc
      · simp only [e3] at hc
        cases i' with
        | succ i' => simp [AV.cell?] at hc
        | zero =>
          have hc : cs[j]? = some c := hc
          have hlt : j < us.length := by rw [e6]; exact (List.getElem?_eq_some_iff.1 hc).1
          have hk : t - i = k := by omega
          have hφ : γ.φ ⟨.tmp t, 0, j⟩ = us[j] := by
            show ((vs.getD (t - i) undef).cells.toList).getD j undef = _
            rw [hk, getD_of e2, e5, getD_of (List.getElem?_eq_getElem hlt)]
          rw [hφ]
          exact e8 j c _ hc (List.getElem?_eq_getElem hlt)
    | box b => simp only [argEnv_other As xs i 0 (.box b) (by simp), AV.cell?] at hc; cases hc
    | ver => simp only [argEnv_other As xs i 0 .ver (by simp), AV.cell?] at hc; cases hc
    | lent k => simp only [argEnv_other As xs i 0 (.lent k) (by simp), AV.cell?] at hc; cases hc
  have hbox : ∀ b bv fz cs, (argEnv As xs i 0).get (.box b) ≠ .box bv fz cs := by
    intro b bv fz cs
    rw [argEnv_other As xs i 0 (.box b) (by simp)]
    simp
  have hown : ∀ x e t ver l, envCell (argEnv As xs i 0) x ≠ some (.own e t ver l) := by
    intro x e t ver l hx
    have := (hcell x _ hx).2.2.2
    simp [Cell.isOwn] at this
  have hcore : Core A X γ (fun v => (argEnv As xs i 0).ver ≤ v) (argEnv As xs i 0) a w := by
    refine { frame := ⟨rfl, rfl, rfl, Nat.le_refl _, fun _ _ _ => rfl⟩, glob := hG, zone := hZ, zone0 := ⟨fun g hg => hg, fun g hg => .inl hg⟩, defers := hd, size := hsz, ntl := hnt, baseB := Nat.le_refl _, tmp := fun t => ?_, box := fun b bv fz cs hb => absurd hb (hbox b bv fz cs), cell := fun x c hc => ?_, own := fun x e t ver l hx => absurd hx (hown x e t ver l), inj := fun b b' bv bv' fz fz' cs cs' hb => absurd hb (hbox b bv fz cs), fresh := fun x e t ver l hx => absurd hx (hown x e t ver l), lent := fun _ => rfl, lentloc := fun k c j cl hx => ?_ }
    · rcases hav t with hu | ⟨k, v, g, cs, us, e1, e2, e3, e4, e5, e6, e7, e8⟩
      · rw [hu]; exact trivial
      · rw [e3]
        have hk : t - i = k := by omega
        refine ⟨?_, e7⟩
        have hv : a.tmps.getD t undef = v := by rw [e1]; exact htm k v e2
        rw [hv, e4]
        congr 1
        have hφ : ∀ j, γ.φ ⟨.tmp t, 0, j⟩ = us.getD j undef := fun j => by
          show ((vs.getD (t - i) undef).cells.toList).getD j undef = _
          rw [hk, getD_of e2, e5]
        rw [← range_map_getD us cs.length e6]
        simp [cellVals, hφ]
    · obtain ⟨h1, h2, h3, _⟩ := hcell x c hc
      exact ⟨h1, h2, fun r hr => by rw [h3] at hr; cases hr⟩
    · unfold envCell at hx
      simp only [argEnv_other As xs i 0 (.lent k) (by simp), AV.cell?] at hx
      cases hx
  exact run_sound K hm c (argEnv As xs i 0) k out Q a w hrun ⟨γ, hcore⟩ fun e env' a' w' hk ⟨γ', hc'⟩ => hQ e env' a' w' γ' hk hc'
end Go.VI
