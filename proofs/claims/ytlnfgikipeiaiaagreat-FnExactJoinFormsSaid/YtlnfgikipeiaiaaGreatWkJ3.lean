/- impl.JoinForms where it says no, by a walk. -/
import Derived.Test.YtlnfgikipeiaiaaGreatPlJj
import Derived.Test.YtlnfgikipeiaiaaGreatWjComp
import Derived.Test.YtlnfgikipeiaiaaGreatViFunM
import Derived.ProofKit
import Derived.OpenShut
namespace Go.VI
open Go.Proofs Go.RowKit
set_option maxRecDepth 100000
set_option maxHeartbeats 2000000 in
theorem join_no {Z Zh : Nat → Prop} {W : World} {g h : DHeap} {ga ha : Option Addr} {gc hc : Nat} {b1 b2 : Bool} (ag : ArgH Z W g (.slice ga g.2.2.2.1.length gc)) (ah : ArgH Zh W h (.slice ha h.2.2.2.1.length hc))
 (hg1 : P_impl_isSingle (g, ()) = some (b1, ())) (hh1 : P_impl_isSingle (h, ()) = some (b2, ())) (hsm : g.2.2.2.1.length ≤ 1048576 ∧ h.2.2.2.1.length ≤ 1048576) (hno : ¬ (b1 = true ∧ b2 = true ∧ g.2.2.2.1.length + h.2.2.2.1.length ≤ 4)) :
 Calls Tryz.prog 8 #[hpV g (.slice ga g.2.2.2.1.length gc), hpV h (.slice ha h.2.2.2.1.length hc)] W fun e w' => e = .returned (.tuple #[.slice none 0 0, .bool false]) ∧ Below W.heap.size W w' := by
  have e0 := belowAlloc W (.cells #[.int .i64 g.1, .int .i64 g.2.1, .int .i64 g.2.2.1, .slice ga g.2.2.2.1.length gc] 29)
  have B0 := alloc_at W (.cells #[.int .i64 g.1, .int .i64 g.2.1, .int .i64 g.2.2.1, .slice ga g.2.2.2.1.length gc] 29)
  have e1 := belowA e0 (.cells #[.int .i64 h.1, .int .i64 h.2.1, .int .i64 h.2.2.1, .slice ha h.2.2.2.1.length hc] 29)
  have sA := alloc_size W (.cells #[.int .i64 g.1, .int .i64 g.2.1, .int .i64 g.2.2.1, .slice ga g.2.2.2.1.length gc] 29)
  have B1 := alloc_at (W.alloc (.cells #[.int .i64 g.1, .int .i64 g.2.1, .int .i64 g.2.2.1, .slice ga g.2.2.2.1.length gc] 29)) (.cells #[.int .i64 h.1, .int .i64 h.2.1, .int .i64 h.2.2.1, .slice ha h.2.2.2.1.length hc] 29)
  rw [sA] at B1
  have hs1 : ∀ U, Below W.heap.size W U → _ := fun U hU => c_single (W := U) (ag.at hU) hg1
  have hs2 : ∀ U, Below W.heap.size W U → _ := fun U hU => c_single (W := U) (ah.at hU) hh1
  unfold hpV at *
  obtain ⟨k0, k1, k2, k3⟩ := box4 B1
  obtain ⟨j0, j1, j2, j3⟩ := box4A B0
  cases b1
  · go_enter Tryz.func8, Tryz.ntmps8
    go_wp2_with (go_at_call 35; refine (hs1 _ e1).mono ?_; rintro e w2 ⟨rfl, hb2⟩; clear hs1; obtain ⟨_, _, _, _⟩ := box4 (belowBlock B1 hb2); obtain ⟨_, _, _, _⟩ := box4 (belowBlock (blockA B0 _) hb2))
    go_ret2
    exact ⟨rfl, bThen e1 hb2⟩
  · cases b2
    · go_enter Tryz.func8, Tryz.ntmps8
      go_wp2_with (first
        | (go_at_call 35; refine (hs1 _ e1).mono ?_; rintro e w2 ⟨rfl, hb2⟩; clear hs1; obtain ⟨_, _, _, _⟩ := box4 (belowBlock B1 hb2); obtain ⟨_, _, _, _⟩ := box4 (belowBlock (blockA B0 _) hb2))
        | (go_at_call 35; refine (hs2 _ (bThen e1 hb2)).mono ?_; rintro e w3 ⟨rfl, hb3⟩; clear hs2; have hb4 := bThen hb2 hb3; obtain ⟨_, _, _, _⟩ := box4 (belowBlock B1 hb4); obtain ⟨_, _, _, _⟩ := box4 (belowBlock (blockA B0 _) hb4)))
      go_ret2
      exact ⟨rfl, bThen e1 hb4⟩
    · have hgt : (g.2.2.2.1.length : Int) + (h.2.2.2.1.length : Int) > 4 := by
        have : ¬ (g.2.2.2.1.length + h.2.2.2.1.length ≤ 4) := fun h => hno ⟨rfl, rfl, h⟩
        omega
      clear hno
      go_enter Tryz.func8, Tryz.ntmps8
      go_wp2_with (first
        | (go_at_call 35; refine (hs1 _ e1).mono ?_; rintro e w2 ⟨rfl, hb2⟩; clear hs1; obtain ⟨_, _, _, _⟩ := box4 (belowBlock B1 hb2); obtain ⟨_, _, _, _⟩ := box4 (belowBlock (blockA B0 _) hb2))
        | (go_at_call 35; refine (hs2 _ (bThen e1 hb2)).mono ?_; rintro e w3 ⟨rfl, hb3⟩; clear hs2; have hb4 := bThen hb2 hb3; obtain ⟨_, _, _, _⟩ := box4 (belowBlock B1 hb4); obtain ⟨_, _, _, _⟩ := box4 (belowBlock (blockA B0 _) hb4)))
      go_ret2
      exact ⟨rfl, bThen e1 hb4⟩
end Go.VI
namespace Go.VI
open Go.Proofs Go.RowKit
set_option maxRecDepth 100000
theorem ord_cmpH : OrdOK (fun h => Small h.2.2.2.1) cmpH sameB := by
  refine ⟨fun g h hg hh => f_cmpH hg hh, fun g _ => ?_, fun f g h _ _ _ a b => ?_, fun f g h _ _ _ a b => ?_, fun g h hg _ => f_sameI hg⟩
  · rw [cmpH_neg, lessH_irr]; decide
  · rw [cmpH_neg] at *; exact lessH_tr a b
  · rw [cmpH_neg] at *
    intro c
    cases hgf : lessH g f with
    | true => exact b (lessH_tr hgf c)
    | false =>
      have : f = g := lessH_tot (by simpa using a) hgf
      rw [this] at c
      exact b c
theorem ddF_strict : ∀ (l : List HE) (p : HE), (p :: l).Pairwise (fun a b => ¬ cmpH b.heap a.heap < 0) → Strict (p.heap :: (ddF sameB p l).map HE.heap) ∧ ∀ x, x ∈ p.heap :: (ddF sameB p l).map HE.heap ↔ x ∈ (p :: l).map HE.heap
  | [], p, _ => ⟨by simp [ddF, Strict], fun x => by simp [ddF]⟩
  | y :: l, p, hs => by
    have hs' := (List.pairwise_cons.1 hs).2
    obtain ⟨i1, i2⟩ := ddF_strict l y hs'
    simp only [ddF]
    cases hb : sameB y.heap p.heap with
    | true =>
      have e := sameB_iff.1 hb
      rw [if_pos rfl, ← e]
      exact ⟨i1, fun x => by rw [i2 x]; simp [e]⟩
    | false =>
      rw [if_neg (by simp)]
      have hyp := (List.pairwise_cons.1 hs).1 y (by simp)
      rw [cmpH_neg] at hyp
      have hlt : lessH p.heap y.heap = true := by
        cases h : lessH p.heap y.heap with
        | true => rfl
        | false =>
          have : y.heap = p.heap := lessH_tot (by simpa using hyp) h
          rw [sameB_of this] at hb
          cases hb
      refine ⟨?_, fun x => ?_⟩
      · refine List.pairwise_cons.2 ⟨fun x hx => ?_, i1⟩
        rw [List.map_cons] at hx
        rcases List.mem_cons.1 hx with rfl | hx'
        · exact hlt
        · exact lessH_tr hlt ((List.pairwise_cons.1 i1).1 x hx')
      · rw [List.map_cons, List.mem_cons, i2 x, List.map_cons (f := HE.heap) (a := p), List.mem_cons]
theorem sorted_strict {hs hs2 : List HE} (h : SortedOf cmpH sameB hs hs2) : Strict (hs2.map HE.heap) ∧ ∀ x, x ∈ hs2.map HE.heap ↔ x ∈ hs.map HE.heap := by
  obtain ⟨hs', hp, hso, rfl⟩ := h
  have hmem : ∀ x, x ∈ hs'.map HE.heap ↔ x ∈ hs.map HE.heap := fun x => (hp.map HE.heap).mem_iff
  have hsp : hs'.Pairwise (fun a b => ¬ cmpH b.heap a.heap < 0) := by
    rw [List.pairwise_iff_getElem]
    intro i j hi hj hij
    exact hso i j _ _ hij (List.getElem?_eq_getElem hi) (List.getElem?_eq_getElem hj)
  cases hs' with
  | nil => exact ⟨by simp [dd, Strict], fun x => by rw [← hmem]; simp [dd]⟩
  | cons p l =>
    obtain ⟨s1, s2⟩ := ddF_strict l p hsp
    exact ⟨s1, fun x => (s2 x).trans (hmem x)⟩
def GivesJ (g h : D_Heap) (R : List D_Heap) (b : Bool) : Prop := ∀ (Z Zh : Nat → Prop) (W : World) (ga ha : Option Addr) (gc hc : Nat), ArgH Z W g (.slice ga g.2.2.2.1.length gc) → ArgH Zh W h (.slice ha h.2.2.2.1.length hc) →
  Calls Tryz.prog 8 #[hpV g (.slice ga g.2.2.2.1.length gc), hpV h (.slice ha h.2.2.2.1.length hc)] W fun e w' => ∃ v gs, e = .returned (.tuple #[v, .bool b]) ∧ Below W.heap.size W w' ∧ DeepH w' W.heap.size 29 55 v gs ∧ gs.map HE.heap = R
def MayJ (g h : D_Heap) : Prop := One g ∧ One h ∧ g.2.2.2.1.length + h.2.2.2.1.length ≤ 4
theorem join_all (g h : D_Heap) (hg : Small g.2.2.2.1) (hh : Small h.2.2.2.1) : ∃ R b, P_spec_JoinForms (g, h, ()) = some (R, b, ()) ∧ SmallA R ∧ R.length ≤ 17496 ∧ GivesJ g h R b ∧ (b = true ↔ MayJ g h) ∧
 (b = true → Strict R ∧ ∀ x, x ∈ R ↔ ∃ t ∈ T24, ∃ v, Nine v ∧ Hit (nrmV g.2.2.2.1).2.2.2.1 (posV t h.2.2.2.1).2.2.2.1 v x) ∧ (b = false → R = []) := by
  have hg' := hg
  have hh' := hh
  unfold Small at hg' hh'
  by_cases hc : MayJ g h
  · obtain ⟨og, oh, h4⟩ := hc
    obtain ⟨X, Y, Z, lg, ⟨⟩⟩ := g
    obtain ⟨X', Y', Z', lh, ⟨⟩⟩ := h
    obtain ⟨R, e, sr⟩ := f_sjoin og oh h4
    have og' := og
    have oh' := oh
    obtain ⟨ok1, ng, wg⟩ := og
    obtain ⟨ok2, nh, wh⟩ := oh
    obtain ⟨sg, ig, rg⟩ := okHeap_iff.1 ok1
    obtain ⟨sh, ih, rh⟩ := okHeap_iff.1 ok2
    simp only at sg ig rg sh ih rh ng nh wg wh h4
    have gg : GoodH X Y Z lg := ⟨sg, ig, rg, ng⟩
    have gh : GoodH X' Y' Z' lh := ⟨sh, ih, rh, nh⟩
    have pg : 0 < lg.length := List.length_pos_iff.2 ng
    have ph : 0 < lh.length := List.length_pos_iff.2 nh
    obtain ⟨K, c1, c2⟩ := f_crop (X := X) (Y := Y) (Z := Z) (l := lg) hg ok1 sg ig ng
    have eK : nrmV lg = K := nrmV_is c2
    have hF := cor_nrm c2 (ins_close sg ig) (by omega)
    have wF := whole_nrm c2 wg
    have hFl := nrm_len c2
    obtain ⟨b1, f1, k1⟩ := f_single (X, Y, Z, lg, ()) hg
    obtain ⟨b2, f2, k2⟩ := f_single (X', Y', Z', lh, ()) hh
    have t1 : b1 = true := k1.2 og'
    have t2 : b2 = true := k2.2 oh'
    subst t1; subst t2
    obtain ⟨J, jm⟩ := join_ok gh hF wF wh (by omega) (by omega)
    have hcm : ∀ x, x ∈ (VJ K.2.2.2.1).cands K.2.2.2.1 ((List.range T24.length).map fun i => posV (tAt i) lh) ↔ x ∈ R := fun x => by rw [jm, sr.mem, eK]
    have hne : (VJ K.2.2.2.1).cands K.2.2.2.1 ((List.range T24.length).map fun i => posV (tAt i) lh) ≠ [] := fun h0 => by
      obtain ⟨x, hx⟩ := join_ne gh hF wF wh (by omega)
      have := (jm x).2 hx
      rw [h0] at this
      cases this
    refine ⟨R, true, e, sr.small, sr.len, fun Za Zb W ga ha gc hc aa ab => ?_, ⟨fun _ => ⟨og', oh', h4⟩, fun _ => rfl⟩, fun _ => ⟨sr.strict, sr.mem⟩, (fun h => by cases h)⟩
    refine (join_walk (F0 := K) (bF := true) aa ab f1 f2 h4 c1 turns24 (by decide) (gf := fun i => gfV (tAt i) (X', Y', Z', lh, ())) (cf := fun i => posV (tAt i) lh) (bf := fun _ => true) (fun i t ht => by
      simp only [tAt_is ht]
      exact pos_facts gh (ok24 t (List.mem_of_getElem? ht))) J hne ord_cmpH (fun x hx => sr.small x ((hcm x).1 hx))).mono ?_
    rintro e w' ⟨v, hs, hs2, rfl, hb, hd, hq, hso⟩
    obtain ⟨s1, s2⟩ := sorted_strict hso
    exact ⟨v, hs2, rfl, hb, hd, strict_one _ _ s1 sr.strict fun x => by rw [s2, hq, hcm]⟩
  · obtain ⟨b1, e1, k1⟩ := f_part g hg
    obtain ⟨b2, e2, k2⟩ := f_part h hh
    obtain ⟨c1, f1, l1⟩ := f_single g hg
    obtain ⟨c2, f2, l2⟩ := f_single h hh
    have hno : ¬ (c1 = true ∧ c2 = true ∧ g.2.2.2.1.length + h.2.2.2.1.length ≤ 4) := fun ⟨a, b, c⟩ => hc ⟨l1.1 a, l2.1 b, c⟩
    have hno' : ¬ (b1 = true ∧ b2 = true ∧ g.2.2.2.1.length + h.2.2.2.1.length ≤ 4) := fun ⟨a, b, c⟩ => hc ⟨k1.1 a, k2.1 b, c⟩
    have e : P_spec_JoinForms (g, h, ()) = some ([], false, ()) := by
      rw [p_spec_JoinForms, e1]
      simp only [Option.bind_some]
      cases b1 with
      | false => rfl
      | true =>
        simp only [Bool.not_true, cond_false]
        rw [e2]
        simp only [Option.bind_some]
        cases b2 with
        | false => rfl
        | true =>
          simp only [Bool.not_true, cond_false]
          have : ¬ (g.2.2.2.1.length + h.2.2.2.1.length ≤ 4) := fun h => hno' ⟨rfl, rfl, h⟩
          rw [w64 (by omega) (by omega), decide_eq_true (by omega)]
          rfl
    refine ⟨[], false, e, (fun a ha => by cases ha), by simp, fun Za Zb W ga ha gc hc' aa ab => ?_, ⟨(fun h => by cases h), fun h => absurd h hc⟩, (fun h => by cases h), fun _ => rfl⟩
    refine (join_no aa ab f1 f2 ⟨hg', hh'⟩ hno).mono ?_
    rintro e w' ⟨rfl, hb⟩
    exact ⟨_, [], rfl, hb, DeepH.nil ⟨rfl, .inl ⟨rfl, rfl⟩⟩, rfl⟩
end Go.VI
namespace Go.VI
open Go.Proofs Go.RowKit
set_option maxRecDepth 100000
section
variable {Z : Nat → Prop} {W : World} {h : DHeap} {lv : Value}
theorem j_sz (a0 : ArgH Z W h lv) {n z : Int} (e : P_laws_szHeap (h, n, ()) = some (z, ())) : Calls Tryz.prog 5 #[hpV h lv, .int .i64 n] W fun e w' => e = .returned (.int .i64 z) ∧ Below W.heap.size W w' :=
  flatH_calls (As := As_laws_szHeap) (fn := Tryz.f5) (r := (z, ())) s_laws_szHeap rfl Tryz.func5 rfl (by kernel_rfl) trivial a0.zone (xs := (h, n, ())) (vs := [hpV h lv, .int .i64 n]) ⟨_, _, rfl, (fun h => by cases h), a0.arg, [.int .i64 n], _, rfl, (fun _ => rfl), rfl, rfl⟩ e
theorem j_to (a0 : ArgH Z W h lv) (e : P_laws_toHeap (h, ()) = some (h, ())) : Calls Tryz.prog 7 #[hpV h lv] W fun e w' => ∃ x y, e = .returned (hpV h (.slice x h.2.2.2.1.length y)) ∧ Below W.heap.size W w' ∧ OwnV (fun _ => False) w' W.heap.size 55 A3ty (.slice x h.2.2.2.1.length y) h.2.2.2.1 := by
  refine (heapH_calls (fn := Tryz.f7) s_laws_toHeap Tryz.func7 rfl (by kernel_rfl) trivial a0.zone (xs := (h, ())) (vs := [hpV h lv]) ⟨_, _, rfl, (fun h => by cases h), a0.arg, rfl⟩ e).mono ?_
  rintro e w' ⟨u, rfl, hb, hu⟩
  obtain ⟨x, y, rfl⟩ := hu.slice1
  exact ⟨x, y, rfl, hb, hu⟩
theorem j_eq {Z2 : Nat → Prop} {lv2 : Value} (a : ArgH Z W h lv) (b : ArgH Z2 W h lv2) (e : P_laws_eqHeap (h, h, ()) = some (true, ())) : Calls Tryz.prog 10 #[hpV h lv, hpV h lv2] W fun e w' => e = .returned (.bool true) ∧ Below W.heap.size W w' :=
  flatH_calls (As := As_laws_eqHeap) (fn := Tryz.f10) (r := (true, ())) s_laws_eqHeap rfl Tryz.func10 rfl (by kernel_rfl) (Z := fun g => Z g ∨ Z2 g) trivial (fun g hg => by rcases hg with hg | hg; exact a.zone g hg; exact b.zone g hg)
    (xs := (h, h, ())) (vs := [hpV h lv, hpV h lv2]) ⟨_, _, rfl, (fun h => by cases h), repHeap (RepI.mono (fun _ h => .inl h) (fun _ _ => rfl) _ _ _ a.cells), _, _, rfl, (fun h => by cases h), repHeap (RepI.mono (fun _ h => .inr h) (fun _ _ => rfl) _ _ _ b.cells), rfl⟩ e
end
theorem j_spec {Za Zb : Nat → Prop} {W : World} {g h : DHeap} {gv hv : Value} {R : List DHeap} {b : Bool} (a : ArgH Za W g gv) (c : ArgH Zb W h hv) (hF : P_spec_JoinForms (g, h, ()) = some (R, b, ())) :
 Calls Tryz.prog 6 #[hpV g gv, hpV h hv] W fun e w' => ∃ v Z1, e = .returned (.tuple #[v, .bool b]) ∧ Below W.heap.size W w' ∧ RepI Z1 w' (.sl HeapTy) R [v] ∧ ∀ q, Z1 q → q < w'.heap.size := by
  refine (FCalls.calls (enter_run (fn := Tryz.f6) Tryz.func6 rfl (by kernel_rfl)) (s_spec_JoinForms W (fun q => Za q ∨ Zb q) [hpV g gv, hpV h hv] (g, h, ()) (R, b, ()) trivial (fun q hq => by rcases hq with hq | hq; exact a.zone q hq; exact c.zone q hq)
    ⟨_, _, rfl, (fun h => by cases h), repHeap (RepI.mono (fun _ h => .inl h) (fun _ _ => rfl) _ _ _ a.cells), _, _, rfl, (fun h => by cases h), repHeap (RepI.mono (fun _ h => .inr h) (fun _ _ => rfl) _ _ _ c.cells), rfl⟩ hF)).mono ?_
  rintro e' w' ⟨v, rfl, Z', us, rfl, hbel, _, hz, g', h1, h2, _⟩
  obtain ⟨k1, _, k3⟩ := h2 0 (false, [RCell.imm HeapTy R]) rfl
  obtain ⟨m1, _, m3⟩ := h2 1 (false, [RCell.flat (.bool b)]) rfl
  have a0 : RepI Z' w' (.sl HeapTy) R [g' 0 0] := k3 0 _ rfl
  have a1 := (m3 0 _ rfl).2
  match us, h1, k1, m1 with
  | [x, y], _, k1, m1 =>
    have hx : x = g' 0 0 := by have : x = mkVal false ((List.range 1).map (g' 0)) := by simpa using k1
                               rw [this]; rfl
    have hy : y = g' 1 0 := by have : y = mkVal false ((List.range 1).map (g' 1)) := by simpa using m1
                               rw [this]; rfl
    refine ⟨g' 0 0, Z', ?_, hbel, a0, fun j hj => ?_⟩
    · rw [hx, hy, a1]; rfl
    · rcases hz j hj with h | h
      · rcases h with h | h
        · exact Nat.lt_of_lt_of_le (a.zone j h) hbel.size
        · exact Nat.lt_of_lt_of_le (c.zone j h) hbel.size
      · exact h.2
  | [], h1, _, _ => cases h1
  | [_], h1, _, _ => cases h1
  | _ :: _ :: _ :: _, h1, _, _ => cases h1
theorem j_eqS {W : World} {Z1 Z2 : Nat → Prop} {L : List DHeap} {v v' : Value} (hz1 : ∀ g, Z1 g → g < W.heap.size) (hz2 : ∀ g, Z2 g → g < W.heap.size) (h1 : RepI Z1 W (.sl HeapTy) L [v]) (h2 : RepI Z2 W (.sl HeapTy) L [v']) (e : P_laws_eqHeapS (L, L, ()) = some (true, ())) :
 Calls Tryz.prog 9 #[v, v'] W fun e w' => e = .returned (.bool true) ∧ Below W.heap.size W w' :=
  flatH_calls (fn := Tryz.f9) (r := (true, ())) s_laws_eqHeapS rfl Tryz.func9 rfl (by kernel_rfl) (Z := fun g => Z1 g ∨ Z2 g) trivial (fun g hg => by rcases hg with hg | hg; exact hz1 g hg; exact hz2 g hg)
    (xs := (L, L, ())) (vs := [v, v'])
    ⟨[v], _, rfl, (fun _ => rfl), RepI.mono (fun _ h => .inl h) (fun _ _ => rfl) _ _ _ h1, [v'], _, rfl, (fun _ => rfl), RepI.mono (fun _ h => .inr h) (fun _ _ => rfl) _ _ _ h2, rfl⟩ e
theorem j_heldS {W : World} {Z1 : Nat → Prop} {L : List DHeap} {v : Value} {k k2 : Int} (hz1 : ∀ g, Z1 g → g < W.heap.size) (h1 : RepI Z1 W (.sl HeapTy) L [v]) (e : P_laws_heldHeapS (L, k, ()) = some (k2, ())) :
 Calls Tryz.prog 13 #[v, .int .i64 k] W fun e w' => e = .returned (.int .i64 k2) ∧ Below W.heap.size W w' :=
  flatH_calls (As := As_laws_heldHeapS) (fn := Tryz.f13) (r := (k2, ())) s_laws_heldHeapS rfl Tryz.func13 rfl (by kernel_rfl) (Z := Z1) trivial hz1
    (xs := (L, k, ())) (vs := [v, .int .i64 k]) ⟨[v], _, rfl, (fun _ => rfl), h1, [.int .i64 k], _, rfl, (fun _ => rfl), rfl, rfl⟩ e
theorem j_markHeap {W : World} {B : Nat} {h h' : DHeap} {u : Value} {k k2 : Int} (hu : OwnV (fun _ => False) W B 55 A3ty u h.2.2.2.1) (hF : P_laws_markHeap (h, k, ()) = some ((k2, ()), (h', ()))) :
 Calls Tryz.prog 11 #[hpV h u, .int .i64 k] W fun e w' => e = .returned (.int .i64 k2) ∧ FrameL (fun g => u.ownBlock = some g) W w' := by
  have hs := s_laws_markHeap W (fun _ => False) [hpV h u, .int .i64 k] (h, k, ()) (k2, ()) (h', ()) [.row u 55 T_A3] trivial (fun _ h => h.elim)
    ⟨[.int .i64 h.1, .int .i64 h.2.1, .int .i64 h.2.2.1, u], [.int .i64 k], [.row u 55 T_A3], [], rfl, (fun h => by cases h), rfl,
      ⟨[.int .i64 h.1], [.int .i64 h.2.1, .int .i64 h.2.2.1, u], [], [.row u 55 T_A3], [55], rfl, rfl, ⟨rfl, rfl, rfl⟩, ⟨[.int .i64 h.2.1], [.int .i64 h.2.2.1, u], [], [.row u 55 T_A3], [55], rfl, rfl, ⟨rfl, rfl, rfl⟩,
        ⟨[.int .i64 h.2.2.1], [u], [], [.row u 55 T_A3], [55], rfl, rfl, ⟨rfl, rfl, rfl⟩, ⟨[u], [], [.row u 55 T_A3], [], [], rfl, rfl, ⟨55, u, rfl, rfl, rfl, OwnV.rebaseM hu fun g _ => Nat.zero_le g⟩, ⟨rfl, rfl, rfl⟩⟩⟩⟩⟩,
      [.int .i64 k], [], rfl, (fun _ => rfl), rfl, rfl, rfl⟩
    ⟨fun g hg => by
      obtain ⟨it, hit, hb⟩ := hg
      obtain rfl : it = .row u 55 T_A3 := by simpa using hit
      exact ⟨fun hz => hz, (hu.lt g hb).2, Nat.zero_le _⟩, fun i j p q g hp hq _ _ => by
      match i, j, hp, hq with
      | 0, 0, _, _ => rfl⟩ hF
  refine (FCalls.calls (enter_run (fn := Tryz.f11) Tryz.func11 rfl (by kernel_rfl)) hs).mono ?_
  rintro e w' ⟨v, rfl, Z', us, rfl, hfr, _, _, hres, _⟩
  have hus := resRel_flatH (R := [(false, .int .i64)]) rfl hres
  refine ⟨by rw [hus]; rfl, ⟨hfr.os, hfr.tape, hfr.output, hfr.size, fun g hg hn => hfr.block g hg fun ⟨it, hit, hb⟩ => ?_, hfr.drawn⟩⟩
  obtain rfl : it = .row u 55 T_A3 := by simpa using hit
  exact hn hb
end Go.VI
namespace Go.VI
open Go.Proofs Go.RowKit
set_option maxRecDepth 100000
structure LawJR (g h : DHeap) (R : List DHeap) (b : Bool) (k1 k2 : Int) (kf : Nat → Int) (lf : Nat → List DA3) : Prop where
  tg : P_laws_toHeap (g, ()) = some (g, ())
  th : P_laws_toHeap (h, ()) = some (h, ())
  sp : P_spec_JoinForms (g, h, ()) = some (R, b, ())
  im : GivesJ g h R b
  es : P_laws_eqHeapS (R, R, ()) = some (true, ())
  eg : P_laws_eqHeap (g, g, ()) = some (true, ())
  eh : P_laws_eqHeap (h, h, ()) = some (true, ())
  mg : ∃ h', P_laws_markHeap (g, 1, ()) = some ((k1, ()), (h', ()))
  mh : ∃ h', P_laws_markHeap (h, k1, ()) = some ((k2, ()), (h', ()))
  k2 : ¬ k2 < 0
  k0 : kf 0 = 1
  mrk : ∀ i h, R[i]? = some h → P_laws_markIntA3S (h.2.2.2.1, up1 (up1 (up1 (kf i))), ()) = some ((kf (i + 1), ()), (lf i, ()))
  hd : P_laws_heldHeapS (markedH kf lf R R.length, 1, ()) = some (kf R.length, ())
  pos : ¬ kf R.length < 0
  len : R.length ≤ 100000
theorem repJ_below {Z : Nat → Prop} {w w' : World} {t : Ty} {x : t.den} {cs : List Value} (hz : ∀ g, Z g → g < w.heap.size) (h : RepI Z w t x cs) (hb : Below w.heap.size w w') : RepI Z w' t x cs :=
  RepI.mono (fun _ h => h) (fun g hg => hb.block g (hz g hg)) _ _ _ h
theorem belowFrame {T : Nat → Prop} {w0 w w' : World} (hy : Below w0.heap.size w0 w) (f : FrameL T w w') (hT : ∀ q, T q → w0.heap.size ≤ q) : Below w0.heap.size w0 w' :=
  ⟨f.os.trans hy.os, f.tape.trans hy.tape, f.output.trans hy.output, Nat.le_trans hy.size f.size, fun q hq => (f.block q (Nat.lt_of_lt_of_le hq hy.size) fun e => by have := hT q e; omega).trans (hy.block q hq), Nat.le_trans hy.drawn f.drawn⟩
set_option maxHeartbeats 4000000 in
theorem law_joinR {Za Zb : Nat → Prop} {w0 : World} {g h : DHeap} {ga ha : Option Addr} {gc hc : Nat} {z1 z2 k1 k2 : Int} {R : List DHeap} {b : Bool} {kf : Nat → Int} {lf : Nat → List DA3}
 (ag : ArgH Za w0 g (.slice ga g.2.2.2.1.length gc)) (ah : ArgH Zb w0 h (.slice ha h.2.2.2.1.length hc))
 (s1 : P_laws_szHeap (g, 1048576, ()) = some (z1, ())) (s2 : P_laws_szHeap (h, z1, ()) = some (z2, ())) (n1 : ¬ z1 < 0) (n2 : ¬ z2 < 0) (F : LawJR g h R b k1 k2 kf lf) :
 Calls Tryz.prog 3 #[hpV g (.slice ga g.2.2.2.1.length gc), hpV h (.slice ha h.2.2.2.1.length hc)] w0 fun e w' => e = .returned (.bool true) ∧ Below w0.heap.size w0 w' := by
  have e0 := belowAlloc w0 (.cells #[.int .i64 g.1, .int .i64 g.2.1, .int .i64 g.2.2.1, .slice ga g.2.2.2.1.length gc] 24)
  have B0 := alloc_at w0 (.cells #[.int .i64 g.1, .int .i64 g.2.1, .int .i64 g.2.2.1, .slice ga g.2.2.2.1.length gc] 24)
  have e1 := belowA e0 (.cells #[.int .i64 h.1, .int .i64 h.2.1, .int .i64 h.2.2.1, .slice ha h.2.2.2.1.length hc] 24)
  have sA := alloc_size w0 (.cells #[.int .i64 g.1, .int .i64 g.2.1, .int .i64 g.2.2.1, .slice ga g.2.2.2.1.length gc] 24)
  have B1 := alloc_at (w0.alloc (.cells #[.int .i64 g.1, .int .i64 g.2.1, .int .i64 g.2.2.1, .slice ga g.2.2.2.1.length gc] 24)) (.cells #[.int .i64 h.1, .int .i64 h.2.1, .int .i64 h.2.2.1, .slice ha h.2.2.2.1.length hc] 24)
  rw [sA] at B1
  have B0' := blockA B0 (.cells #[.int .i64 h.1, .int .i64 h.2.1, .int .i64 h.2.2.1, .slice ha h.2.2.2.1.length hc] 24)
  obtain ⟨W2, hW2⟩ : ∃ x, x = (w0.alloc (.cells #[.int .i64 g.1, .int .i64 g.2.1, .int .i64 g.2.2.1, .slice ga g.2.2.2.1.length gc] 24)).alloc (.cells #[.int .i64 h.1, .int .i64 h.2.1, .int .i64 h.2.2.1, .slice ha h.2.2.2.1.length hc] 24) := ⟨_, rfl⟩
  rw [← hW2] at e1 B1 B0'
  have S0 : ∀ w', Below W2.heap.size W2 w' → w'.cell? ⟨w0.heap.size, 0, none⟩ = some (.int .i64 g.1) ∧ w'.cell? ⟨w0.heap.size, 1, none⟩ = some (.int .i64 g.2.1) ∧ w'.cell? ⟨w0.heap.size, 2, none⟩ = some (.int .i64 g.2.2.1) ∧ w'.cell? ⟨w0.heap.size, 3, none⟩ = some (.slice ga g.2.2.2.1.length gc) ∧ w'.cell? ⟨w0.heap.size + 1, 0, none⟩ = some (.int .i64 h.1) ∧ w'.cell? ⟨w0.heap.size + 1, 1, none⟩ = some (.int .i64 h.2.1) ∧ w'.cell? ⟨w0.heap.size + 1, 2, none⟩ = some (.int .i64 h.2.2.1) ∧ w'.cell? ⟨w0.heap.size + 1, 3, none⟩ = some (.slice ha h.2.2.2.1.length hc) ∧ Below W2.heap.size W2 w' := fun w' hw => by
    obtain ⟨a0, a1, a2, a3⟩ := box4 (belowBlock B0' hw)
    obtain ⟨b0, b1, b2, b3⟩ := box4 (belowBlock B1 hw)
    exact ⟨a0, a1, a2, a3, b0, b1, b2, b3, hw⟩
  have hz1 : ∀ U, Below W2.heap.size W2 U → _ := fun U hU => j_sz (W := U) (ag.at (bThen e1 hU)) s1
  have hz2 : ∀ U, Below W2.heap.size W2 U → _ := fun U hU => j_sz (W := U) (ah.at (bThen e1 hU)) s2
  have hTG : ∀ U, Below W2.heap.size W2 U → Calls Tryz.prog 7 #[hpV g (.slice ga g.2.2.2.1.length gc)] U fun e w' => ∃ x y, e = .returned (hpV g (.slice x g.2.2.2.1.length y)) ∧ (w'.cell? ⟨w0.heap.size, 0, none⟩ = some (.int .i64 g.1) ∧ w'.cell? ⟨w0.heap.size, 1, none⟩ = some (.int .i64 g.2.1) ∧ w'.cell? ⟨w0.heap.size, 2, none⟩ = some (.int .i64 g.2.2.1) ∧ w'.cell? ⟨w0.heap.size, 3, none⟩ = some (.slice ga g.2.2.2.1.length gc) ∧ w'.cell? ⟨w0.heap.size + 1, 0, none⟩ = some (.int .i64 h.1) ∧ w'.cell? ⟨w0.heap.size + 1, 1, none⟩ = some (.int .i64 h.2.1) ∧ w'.cell? ⟨w0.heap.size + 1, 2, none⟩ = some (.int .i64 h.2.2.1) ∧ w'.cell? ⟨w0.heap.size + 1, 3, none⟩ = some (.slice ha h.2.2.2.1.length hc) ∧ Below W2.heap.size W2 w') ∧ Below U.heap.size U w' ∧ OwnV (fun _ => False) w' U.heap.size 55 A3ty (.slice x g.2.2.2.1.length y) g.2.2.2.1 := fun U hU => by
    refine (j_to (W := U) (ag.at (bThen e1 hU)) F.tg).mono ?_
    rintro e w' ⟨x, y, rfl, hb, hu⟩
    exact ⟨x, y, rfl, S0 _ (bThen hU hb), hb, hu⟩
  have hTH : ∀ U, Below W2.heap.size W2 U → Calls Tryz.prog 7 #[hpV h (.slice ha h.2.2.2.1.length hc)] U fun e w' => ∃ x y, e = .returned (hpV h (.slice x h.2.2.2.1.length y)) ∧ (w'.cell? ⟨w0.heap.size, 0, none⟩ = some (.int .i64 g.1) ∧ w'.cell? ⟨w0.heap.size, 1, none⟩ = some (.int .i64 g.2.1) ∧ w'.cell? ⟨w0.heap.size, 2, none⟩ = some (.int .i64 g.2.2.1) ∧ w'.cell? ⟨w0.heap.size, 3, none⟩ = some (.slice ga g.2.2.2.1.length gc) ∧ w'.cell? ⟨w0.heap.size + 1, 0, none⟩ = some (.int .i64 h.1) ∧ w'.cell? ⟨w0.heap.size + 1, 1, none⟩ = some (.int .i64 h.2.1) ∧ w'.cell? ⟨w0.heap.size + 1, 2, none⟩ = some (.int .i64 h.2.2.1) ∧ w'.cell? ⟨w0.heap.size + 1, 3, none⟩ = some (.slice ha h.2.2.2.1.length hc) ∧ Below W2.heap.size W2 w') ∧ Below U.heap.size U w' ∧ OwnV (fun _ => False) w' U.heap.size 55 A3ty (.slice x h.2.2.2.1.length y) h.2.2.2.1 := fun U hU => by
    refine (j_to (W := U) (ah.at (bThen e1 hU)) F.th).mono ?_
    rintro e w' ⟨x, y, rfl, hb, hu⟩
    exact ⟨x, y, rfl, S0 _ (bThen hU hb), hb, hu⟩
  have hSp : ∀ (U : World) (B1 B2 : Nat) (u1 u2 : Value), Below W2.heap.size W2 U → OwnV (fun _ => False) U B1 55 A3ty u1 g.2.2.2.1 → OwnV (fun _ => False) U B2 55 A3ty u2 h.2.2.2.1 → Calls Tryz.prog 6 #[hpV g u1, hpV h u2] U fun e w' => ∃ v Z1, e = .returned (.tuple #[v, .bool b]) ∧ (w'.cell? ⟨w0.heap.size, 0, none⟩ = some (.int .i64 g.1) ∧ w'.cell? ⟨w0.heap.size, 1, none⟩ = some (.int .i64 g.2.1) ∧ w'.cell? ⟨w0.heap.size, 2, none⟩ = some (.int .i64 g.2.2.1) ∧ w'.cell? ⟨w0.heap.size, 3, none⟩ = some (.slice ga g.2.2.2.1.length gc) ∧ w'.cell? ⟨w0.heap.size + 1, 0, none⟩ = some (.int .i64 h.1) ∧ w'.cell? ⟨w0.heap.size + 1, 1, none⟩ = some (.int .i64 h.2.1) ∧ w'.cell? ⟨w0.heap.size + 1, 2, none⟩ = some (.int .i64 h.2.2.1) ∧ w'.cell? ⟨w0.heap.size + 1, 3, none⟩ = some (.slice ha h.2.2.2.1.length hc) ∧ Below W2.heap.size W2 w') ∧ RepI Z1 w' (.sl HeapTy) R [v] ∧ ∀ q, Z1 q → q < w'.heap.size := fun U B1 B2 u1 u2 hU h1 h2 => by
    refine (j_spec (W := U) (ArgH.own h1) (ArgH.own h2) F.sp).mono ?_
    rintro e w' ⟨v, Z1, rfl, hb, hr, hz⟩
    exact ⟨v, Z1, rfl, S0 _ (bThen hU hb), hr, hz⟩
  have R0 := Below.refl W2.heap.size W2
  unfold hpV at *
  obtain ⟨_, _, _, _⟩ := box4 B1
  obtain ⟨_, _, _, _⟩ := box4 B0'
  go_enter Tryz.func3, Tryz.ntmps3
  go_upto_region 1 with fail
  rw [← hW2]
  have hHW := Lib.hid hW2
  clear hW2
  have HS := Lib.hid S0
  have HTG := Lib.hid hTG
  have HTH := Lib.hid hTH
  have HSp := Lib.hid hSp
  have HF := Lib.hid F
  clear S0 hTG hTH hSp F e0 sA
  go_upto_region 8 with (first
    | (go_at_call 5; refine (hz1 _ R0).mono ?_; rintro e w2 ⟨rfl, hb2⟩; clear hz1; obtain ⟨_, _, _, _, _, _, _, _, hB2⟩ := HS.out _ hb2)
    | (go_at_call 5; refine (hz2 _ hB2).mono ?_; rintro e w3 ⟨rfl, hb3⟩; clear hz2; obtain ⟨_, _, _, _, _, _, _, _, hB3⟩ := HS.out _ (bThen hB2 hb3)))
  have HTGa := HTG
  go_region_held3 (fun w' => w'.cell? ⟨w0.heap.size, 0, none⟩ = some (.int .i64 g.1) ∧ w'.cell? ⟨w0.heap.size, 1, none⟩ = some (.int .i64 g.2.1) ∧ w'.cell? ⟨w0.heap.size, 2, none⟩ = some (.int .i64 g.2.2.1) ∧ w'.cell? ⟨w0.heap.size, 3, none⟩ = some (.slice ga g.2.2.2.1.length gc) ∧ w'.cell? ⟨w0.heap.size + 1, 0, none⟩ = some (.int .i64 h.1) ∧ w'.cell? ⟨w0.heap.size + 1, 1, none⟩ = some (.int .i64 h.2.1) ∧ w'.cell? ⟨w0.heap.size + 1, 2, none⟩ = some (.int .i64 h.2.2.1) ∧ w'.cell? ⟨w0.heap.size + 1, 3, none⟩ = some (.slice ha h.2.2.2.1.length hc) ∧ Below W2.heap.size W2 w')
    (first | (refine ⟨?_, ?_, ?_, ?_, ?_, ?_, ?_, ?_, ?_⟩ <;> first | assumption | (apply belowD; assumption) | (rw [World.cell?_drew]; assumption) | (go_keep; done)) | (go_keep; done))
    (first
      | (go_at_call 7; refine (HTGa.out _ ?_).mono ?_; (first | assumption | (apply belowD; assumption) | (apply belowD; apply belowD; assumption)); rintro e w4 ⟨xa, ya, rfl, ⟨_, _, _, _, _, _, _, _, hB4⟩, hb4, hu4⟩; clear HTGa)
      | (go_at_call 7; refine (HTH.out _ ?_).mono ?_; (first | assumption | (apply belowD; assumption) | (apply belowD; apply belowD; assumption)); rintro e w5 ⟨xb, yb, rfl, ⟨_, _, _, _, _, _, _, _, hB5⟩, hb5, hu5⟩)
      | (go_at_call 6; refine (HSp.out _ _ _ _ _ ?_ (ownBH hu4 ?_) hu5).mono ?_; (first | assumption | (apply belowD; assumption) | (apply belowD; apply belowD; assumption)); (first | assumption | (apply belowD; assumption) | (apply belowD; apply belowD; assumption)); rintro e w6 ⟨wv, Z1, rfl, ⟨_, _, _, _, _, _, _, _, hB6⟩, rw6, zw6⟩))
  have hs26 := hB6.size
  have HTGb := HTG
  have HTHb := HTH
  go_upto_region 14 with (first
    | (go_at_call 7; refine (HTGb.out _ hB6).mono ?_; rintro e w7 ⟨x0, y0, rfl, ⟨_, _, _, _, _, _, _, _, hB7⟩, hb7, hu7⟩; clear HTGb; obtain ⟨_, _, _, _, _, _, _, _, hB7a⟩ := HS.out _ (belowA hB7 (.cells #[.int .i64 g.1, .int .i64 g.2.1, .int .i64 g.2.2.1, .slice x0 g.2.2.2.1.length y0] 29)))
    | (go_at_call 7; refine (HTHb.out _ hB7a).mono ?_; rintro e w8 ⟨x1, y1, rfl, ⟨_, _, _, _, _, _, _, _, hB8⟩, hb8, hu8⟩; clear HTHb; have BX0 := belowBlock (alloc_at w7 (.cells #[.int .i64 g.1, .int .i64 g.2.1, .int .i64 g.2.2.1, .slice x0 g.2.2.2.1.length y0] 29)) hb8; obtain ⟨_, _, _, _⟩ := box4A BX0; have BX1 := alloc_at w8 (.cells #[.int .i64 h.1, .int .i64 h.2.1, .int .i64 h.2.2.1, .slice x1 h.2.2.2.1.length y1] 29); obtain ⟨_, _, _, _⟩ := box4 BX1)
    | (go_at_call 8; refine (HF.out.im _ _ (w8.alloc (.cells #[.int .i64 h.1, .int .i64 h.2.1, .int .i64 h.2.2.1, .slice x1 h.2.2.2.1.length y1] 29)) _ _ _ _ (ArgH.own (ownBH (ownBH (ownBH hu7 (belowAlloc _ _)) hb8) (belowAlloc _ _))) (ArgH.own (ownBH hu8 (belowAlloc _ _)))).mono ?_; rintro e w9 ⟨g0, gs, rfl, hb9, hd9, hm9⟩; obtain ⟨A9, c9, rfl⟩ := hd9.slice; have hHm9 := Lib.hid hm9; clear hm9)
    | (go_at_call 9; refine (j_eqS (fun q hq => ((ZH.lt hd9) q hq).2) (fun q hq => by have := zw6 q hq; have := (bThen (belowA (bThen (belowA hb7 (.cells #[.int .i64 g.1, .int .i64 g.2.1, .int .i64 g.2.2.1, .slice x0 g.2.2.2.1.length y0] 29)) hb8) (.cells #[.int .i64 h.1, .int .i64 h.2.1, .int .i64 h.2.2.1, .slice x1 h.2.2.2.1.length y1] 29)) hb9).size; omega) (hHm9.out ▸ hd9.rep) (repJ_below zw6 rw6 (bThen (belowA (bThen (belowA hb7 (.cells #[.int .i64 g.1, .int .i64 g.2.1, .int .i64 g.2.2.1, .slice x0 g.2.2.2.1.length y0] 29)) hb8) (.cells #[.int .i64 h.1, .int .i64 h.2.1, .int .i64 h.2.2.1, .slice x1 h.2.2.2.1.length y1] 29)) hb9)) HF.out.es).mono ?_; rintro e w10 ⟨rfl, hb10⟩))
  have cX := alloc_at w8 (.cells #[.int .i64 h.1, .int .i64 h.2.1, .int .i64 h.2.2.1, .slice x1 h.2.2.2.1.length y1] 29)
  have h710 := bThen (bThen (belowA hb8 (.cells #[.int .i64 h.1, .int .i64 h.2.1, .int .i64 h.2.2.1, .slice x1 h.2.2.2.1.length y1] 29)) hb9) hb10
  have h610 := bThen (belowA hb7 (.cells #[.int .i64 g.1, .int .i64 g.2.1, .int .i64 g.2.2.1, .slice x0 g.2.2.2.1.length y0] 29)) h710
  have bx0 := belowBlock (alloc_at w7 (.cells #[.int .i64 g.1, .int .i64 g.2.1, .int .i64 g.2.2.1, .slice x0 g.2.2.2.1.length y0] 29)) h710
  have bx1 := belowBlock (belowBlock cX hb9) hb10
  have own0 := ownBH (ownBH hu7 (belowAlloc _ (.cells #[.int .i64 g.1, .int .i64 g.2.1, .int .i64 g.2.2.1, .slice x0 g.2.2.2.1.length y0] 29))) h710
  have own1 := ownBH (ownBH (ownBH hu8 (belowAlloc _ (.cells #[.int .i64 h.1, .int .i64 h.2.1, .int .i64 h.2.2.1, .slice x1 h.2.2.2.1.length y1] 29))) hb9) hb10
  have d10 := hd9.below hb10
  have rw10 := repJ_below zw6 rw6 h610
  have hBW14 := bThen hB6 h610
  have l0 := hu7.lt
  have l1 := hu8.lt
  have sz7 := hb7.size
  have sz8 := hb8.size
  have sz9 := hb9.size
  have sz10 := hb10.size
  rw [alloc_size] at sz8 sz9
  clear BX0 BX1 cX hu7 hu8 hb7 hb8 hb9 hb10 hd9 rw6 h710
  have hSS14 : ∀ w', Below w10.heap.size w10 w' → w'.cell? ⟨w7.heap.size, 0, none⟩ = some (.int .i64 g.1) ∧ w'.cell? ⟨w7.heap.size, 1, none⟩ = some (.int .i64 g.2.1) ∧ w'.cell? ⟨w7.heap.size, 2, none⟩ = some (.int .i64 g.2.2.1) ∧ w'.cell? ⟨w7.heap.size, 3, none⟩ = some (.slice x0 g.2.2.2.1.length y0) ∧ w'.cell? ⟨w0.heap.size, 0, none⟩ = some (.int .i64 g.1) ∧ w'.cell? ⟨w0.heap.size, 1, none⟩ = some (.int .i64 g.2.1) ∧ w'.cell? ⟨w0.heap.size, 2, none⟩ = some (.int .i64 g.2.2.1) ∧ w'.cell? ⟨w0.heap.size, 3, none⟩ = some (.slice ga g.2.2.2.1.length gc) ∧ Below w10.heap.size w10 w' := fun w' hw => by
    obtain ⟨a0, a1, a2, a3⟩ := box4 (belowBlock bx0 hw)
    obtain ⟨b0, b1, b2, b3, _⟩ := HS.out _ (bThen hBW14 hw)
    exact ⟨a0, a1, a2, a3, b0, b1, b2, b3, hw⟩
  have hT14 : ∀ U, Below w10.heap.size w10 U → Calls Tryz.prog 7 #[.agg #[.int .i64 g.1, .int .i64 g.2.1, .int .i64 g.2.2.1, .slice ga g.2.2.2.1.length gc]] U fun e w' => ∃ x y, e = .returned (.agg #[.int .i64 g.1, .int .i64 g.2.1, .int .i64 g.2.2.1, .slice x g.2.2.2.1.length y]) ∧ (w'.cell? ⟨w7.heap.size, 0, none⟩ = some (.int .i64 g.1) ∧ w'.cell? ⟨w7.heap.size, 1, none⟩ = some (.int .i64 g.2.1) ∧ w'.cell? ⟨w7.heap.size, 2, none⟩ = some (.int .i64 g.2.2.1) ∧ w'.cell? ⟨w7.heap.size, 3, none⟩ = some (.slice x0 g.2.2.2.1.length y0) ∧ w'.cell? ⟨w0.heap.size, 0, none⟩ = some (.int .i64 g.1) ∧ w'.cell? ⟨w0.heap.size, 1, none⟩ = some (.int .i64 g.2.1) ∧ w'.cell? ⟨w0.heap.size, 2, none⟩ = some (.int .i64 g.2.2.1) ∧ w'.cell? ⟨w0.heap.size, 3, none⟩ = some (.slice ga g.2.2.2.1.length gc) ∧ Below w10.heap.size w10 w') ∧ Below U.heap.size U w' ∧ OwnV (fun _ => False) w' U.heap.size 55 A3ty (.slice x g.2.2.2.1.length y) g.2.2.2.1 := fun U hU => by
    refine ((HTG).out U (bThen hBW14 hU)).mono ?_
    rintro e w' ⟨x, y, rfl, _, hb, hu⟩
    exact ⟨x, y, rfl, hSS14 _ (bThen hU hb), hb, hu⟩
  have hE14 : ∀ (U : World) (B2 : Nat) (x : Option Addr) (y : Nat), Below w10.heap.size w10 U → OwnV (fun _ => False) U B2 55 A3ty (.slice x g.2.2.2.1.length y) g.2.2.2.1 → Calls Tryz.prog 10 #[.agg #[.int .i64 g.1, .int .i64 g.2.1, .int .i64 g.2.2.1, .slice x0 g.2.2.2.1.length y0], .agg #[.int .i64 g.1, .int .i64 g.2.1, .int .i64 g.2.2.1, .slice x g.2.2.2.1.length y]] U fun e w' => e = .returned (.bool true) ∧ (w'.cell? ⟨w7.heap.size, 0, none⟩ = some (.int .i64 g.1) ∧ w'.cell? ⟨w7.heap.size, 1, none⟩ = some (.int .i64 g.2.1) ∧ w'.cell? ⟨w7.heap.size, 2, none⟩ = some (.int .i64 g.2.2.1) ∧ w'.cell? ⟨w7.heap.size, 3, none⟩ = some (.slice x0 g.2.2.2.1.length y0) ∧ w'.cell? ⟨w0.heap.size, 0, none⟩ = some (.int .i64 g.1) ∧ w'.cell? ⟨w0.heap.size, 1, none⟩ = some (.int .i64 g.2.1) ∧ w'.cell? ⟨w0.heap.size, 2, none⟩ = some (.int .i64 g.2.2.1) ∧ w'.cell? ⟨w0.heap.size, 3, none⟩ = some (.slice ga g.2.2.2.1.length gc) ∧ Below w10.heap.size w10 w') := fun U B2 x y hU h2 => by
    refine (j_eq (W := U) (ArgH.own (ownBH own0 hU)) (ArgH.own h2) HF.out.eg).mono ?_
    rintro e w' ⟨rfl, hb⟩
    exact ⟨rfl, hSS14 _ (bThen hU hb)⟩
  have HT14 := Lib.hid hT14
  have HE14 := Lib.hid hE14
  have R14 := Below.refl w10.heap.size w10
  obtain ⟨_, _, _, _, _, _, _, _, _⟩ := hSS14 _ R14
  have HSS14 := Lib.hid hSS14
  clear hT14 hE14 hSS14
  go_region_held3 (fun w' => w'.cell? ⟨w7.heap.size, 0, none⟩ = some (.int .i64 g.1) ∧ w'.cell? ⟨w7.heap.size, 1, none⟩ = some (.int .i64 g.2.1) ∧ w'.cell? ⟨w7.heap.size, 2, none⟩ = some (.int .i64 g.2.2.1) ∧ w'.cell? ⟨w7.heap.size, 3, none⟩ = some (.slice x0 g.2.2.2.1.length y0) ∧ w'.cell? ⟨w0.heap.size, 0, none⟩ = some (.int .i64 g.1) ∧ w'.cell? ⟨w0.heap.size, 1, none⟩ = some (.int .i64 g.2.1) ∧ w'.cell? ⟨w0.heap.size, 2, none⟩ = some (.int .i64 g.2.2.1) ∧ w'.cell? ⟨w0.heap.size, 3, none⟩ = some (.slice ga g.2.2.2.1.length gc) ∧ Below w10.heap.size w10 w')
    (first | (refine ⟨?_, ?_, ?_, ?_, ?_, ?_, ?_, ?_, ?_⟩ <;> first | assumption | (apply belowD; assumption) | (rw [World.cell?_drew]; assumption) | (go_keep; done)) | (go_keep; done))
    (first
      | (go_at_call 7; refine (HT14.out _ ?_).mono ?_; (first | assumption | (apply belowD; assumption) | (apply belowD; apply belowD; assumption)); rintro e wx14 ⟨xc, yc, rfl, ⟨_, _, _, _, _, _, _, _, hBx14⟩, hbx14, hux14⟩)
      | (go_at_call 10; refine (HE14.out _ _ _ _ ?_ hux14).mono ?_; (first | assumption | (apply belowD; assumption) | (apply belowD; apply belowD; assumption)); rintro e w12 ⟨rfl, _, _, _, _, _, _, _, _, hB14w⟩))
  have bx1' := belowBlock bx1 hB14w
  have bxx0 := belowBlock bx0 hB14w
  have own1' := ownBH own1 hB14w
  have own0' := ownBH own0 hB14w
  have hBW16 := bThen hBW14 hB14w
  have hSS16 : ∀ w', Below w12.heap.size w12 w' → w'.cell? ⟨w8.heap.size, 0, none⟩ = some (.int .i64 h.1) ∧ w'.cell? ⟨w8.heap.size, 1, none⟩ = some (.int .i64 h.2.1) ∧ w'.cell? ⟨w8.heap.size, 2, none⟩ = some (.int .i64 h.2.2.1) ∧ w'.cell? ⟨w8.heap.size, 3, none⟩ = some (.slice x1 h.2.2.2.1.length y1) ∧ w'.cell? ⟨w0.heap.size + 1, 0, none⟩ = some (.int .i64 h.1) ∧ w'.cell? ⟨w0.heap.size + 1, 1, none⟩ = some (.int .i64 h.2.1) ∧ w'.cell? ⟨w0.heap.size + 1, 2, none⟩ = some (.int .i64 h.2.2.1) ∧ w'.cell? ⟨w0.heap.size + 1, 3, none⟩ = some (.slice ha h.2.2.2.1.length hc) ∧ Below w12.heap.size w12 w' := fun w' hw => by
    obtain ⟨a0, a1, a2, a3⟩ := box4 (belowBlock bx1' hw)
    obtain ⟨_, _, _, _, b0, b1, b2, b3, _⟩ := HS.out _ (bThen hBW16 hw)
    exact ⟨a0, a1, a2, a3, b0, b1, b2, b3, hw⟩
  go_upto_region 16 with fail
  have hT16 : ∀ U, Below w12.heap.size w12 U → Calls Tryz.prog 7 #[.agg #[.int .i64 h.1, .int .i64 h.2.1, .int .i64 h.2.2.1, .slice ha h.2.2.2.1.length hc]] U fun e w' => ∃ x y, e = .returned (.agg #[.int .i64 h.1, .int .i64 h.2.1, .int .i64 h.2.2.1, .slice x h.2.2.2.1.length y]) ∧ (w'.cell? ⟨w8.heap.size, 0, none⟩ = some (.int .i64 h.1) ∧ w'.cell? ⟨w8.heap.size, 1, none⟩ = some (.int .i64 h.2.1) ∧ w'.cell? ⟨w8.heap.size, 2, none⟩ = some (.int .i64 h.2.2.1) ∧ w'.cell? ⟨w8.heap.size, 3, none⟩ = some (.slice x1 h.2.2.2.1.length y1) ∧ w'.cell? ⟨w0.heap.size + 1, 0, none⟩ = some (.int .i64 h.1) ∧ w'.cell? ⟨w0.heap.size + 1, 1, none⟩ = some (.int .i64 h.2.1) ∧ w'.cell? ⟨w0.heap.size + 1, 2, none⟩ = some (.int .i64 h.2.2.1) ∧ w'.cell? ⟨w0.heap.size + 1, 3, none⟩ = some (.slice ha h.2.2.2.1.length hc) ∧ Below w12.heap.size w12 w') ∧ Below U.heap.size U w' ∧ OwnV (fun _ => False) w' U.heap.size 55 A3ty (.slice x h.2.2.2.1.length y) h.2.2.2.1 := fun U hU => by
    refine ((HTH).out U (bThen hBW16 hU)).mono ?_
    rintro e w' ⟨x, y, rfl, _, hb, hu⟩
    exact ⟨x, y, rfl, hSS16 _ (bThen hU hb), hb, hu⟩
  have hE16 : ∀ (U : World) (B2 : Nat) (x : Option Addr) (y : Nat), Below w12.heap.size w12 U → OwnV (fun _ => False) U B2 55 A3ty (.slice x h.2.2.2.1.length y) h.2.2.2.1 → Calls Tryz.prog 10 #[.agg #[.int .i64 h.1, .int .i64 h.2.1, .int .i64 h.2.2.1, .slice x1 h.2.2.2.1.length y1], .agg #[.int .i64 h.1, .int .i64 h.2.1, .int .i64 h.2.2.1, .slice x h.2.2.2.1.length y]] U fun e w' => e = .returned (.bool true) ∧ (w'.cell? ⟨w8.heap.size, 0, none⟩ = some (.int .i64 h.1) ∧ w'.cell? ⟨w8.heap.size, 1, none⟩ = some (.int .i64 h.2.1) ∧ w'.cell? ⟨w8.heap.size, 2, none⟩ = some (.int .i64 h.2.2.1) ∧ w'.cell? ⟨w8.heap.size, 3, none⟩ = some (.slice x1 h.2.2.2.1.length y1) ∧ w'.cell? ⟨w0.heap.size + 1, 0, none⟩ = some (.int .i64 h.1) ∧ w'.cell? ⟨w0.heap.size + 1, 1, none⟩ = some (.int .i64 h.2.1) ∧ w'.cell? ⟨w0.heap.size + 1, 2, none⟩ = some (.int .i64 h.2.2.1) ∧ w'.cell? ⟨w0.heap.size + 1, 3, none⟩ = some (.slice ha h.2.2.2.1.length hc) ∧ Below w12.heap.size w12 w') := fun U B2 x y hU h2 => by
    refine (j_eq (W := U) (ArgH.own (ownBH own1' hU)) (ArgH.own h2) HF.out.eh).mono ?_
    rintro e w' ⟨rfl, hb⟩
    exact ⟨rfl, hSS16 _ (bThen hU hb)⟩
  have HT16 := Lib.hid hT16
  have HE16 := Lib.hid hE16
  have R16 := Below.refl w12.heap.size w12
  obtain ⟨_, _, _, _, _, _, _, _, _⟩ := hSS16 _ R16
  have HSS16 := Lib.hid hSS16
  clear hT16 hE16 hSS16
  go_region_held3 (fun w' => w'.cell? ⟨w8.heap.size, 0, none⟩ = some (.int .i64 h.1) ∧ w'.cell? ⟨w8.heap.size, 1, none⟩ = some (.int .i64 h.2.1) ∧ w'.cell? ⟨w8.heap.size, 2, none⟩ = some (.int .i64 h.2.2.1) ∧ w'.cell? ⟨w8.heap.size, 3, none⟩ = some (.slice x1 h.2.2.2.1.length y1) ∧ w'.cell? ⟨w0.heap.size + 1, 0, none⟩ = some (.int .i64 h.1) ∧ w'.cell? ⟨w0.heap.size + 1, 1, none⟩ = some (.int .i64 h.2.1) ∧ w'.cell? ⟨w0.heap.size + 1, 2, none⟩ = some (.int .i64 h.2.2.1) ∧ w'.cell? ⟨w0.heap.size + 1, 3, none⟩ = some (.slice ha h.2.2.2.1.length hc) ∧ Below w12.heap.size w12 w')
    (first | (refine ⟨?_, ?_, ?_, ?_, ?_, ?_, ?_, ?_, ?_⟩ <;> first | assumption | (apply belowD; assumption) | (rw [World.cell?_drew]; assumption) | (go_keep; done)) | (go_keep; done))
    (first
      | (go_at_call 7; refine (HT16.out _ ?_).mono ?_; (first | assumption | (apply belowD; assumption) | (apply belowD; apply belowD; assumption)); rintro e wx16 ⟨xc, yc, rfl, ⟨_, _, _, _, _, _, _, _, hBx16⟩, hbx16, hux16⟩)
      | (go_at_call 10; refine (HE16.out _ _ _ _ ?_ hux16).mono ?_; (first | assumption | (apply belowD; assumption) | (apply belowD; apply belowD; assumption)); rintro e w14 ⟨rfl, _, _, _, _, _, _, _, _, hB16w⟩))
  have bx14 := belowBlock bx1' hB16w
  have p0 := ownBH own0' hB16w
  have p1 := ownBH own1' hB16w
  have d14 := (d10.below hB14w).below hB16w
  have h1014 := bThen hB14w hB16w
  have s14 := h1014.size
  have rw14 := repJ_below (fun q hq => by have := zw6 q hq; omega) rw10 h1014
  have hBW14b := bThen hBW14 h1014
  obtain ⟨hg', mg⟩ := HF.out.mg
  obtain ⟨hh', mh⟩ := HF.out.mh
  have hk2 := HF.out.k2
  have hm0 := j_markHeap p0 mg
  have hm1 : ∀ w15, FrameL (fun q => (Value.slice x0 g.2.2.2.1.length y0).ownBlock = some q) w14 w15 → _ := fun w15 f15 => j_markHeap (W := w15) (p1.mono (w' := w15) (fun _ hz => hz) (fun _ hz => hz.elim) fun q hq => f15.block q (p1.lt q hq).2 fun e => by have := l0 q e; have := l1 q hq; rw [alloc_size] at this; omega) mh
  unfold hpV at hm0 hm1
  clear own0 own1 own0' own1' d10 rw10 bx0 bx1 bx1' hBW14 hBW16 mg mh
  have l1' : ∀ q, (Value.slice x1 h.2.2.2.1.length y1).ownBlock = some q → w7.heap.size + 1 ≤ q ∧ q < w8.heap.size := fun q hq => by have := l1 q hq; rw [alloc_size] at this; exact this
  clear l1
  obtain ⟨_, _, _, _⟩ := box4 bx14
  have bx0' := belowBlock bxx0 hB16w
  obtain ⟨_, _, _, _⟩ := box4 bx0'
  go_upto_region 20 with (go_at_call 11; refine hm0.mono ?_; rintro e w15 ⟨rfl, f15⟩; clear hm0; have hm1' := hm1 _ f15; clear hm1; obtain ⟨_, _, _, _⟩ := box4 ((f15.block _ (lt_of_block bx14) fun e => by have := l0 _ e; omega).trans bx14))
  go_upto_region 21 with (go_at_call 11; refine hm1'.mono ?_; rintro e w16 ⟨rfl, f16⟩; clear hm1'; have d16 : DeepH w16 (w8.alloc (.cells #[.int .i64 h.1, .int .i64 h.2.1, .int .i64 h.2.2.1, .slice x1 h.2.2.2.1.length y1] 29)).heap.size 29 55 (.slice A9 gs.length c9) gs := d14.same (fun q q1 q2 => by rw [alloc_size] at q1; exact (f16.block q (Nat.lt_of_lt_of_le q2 f15.size) fun e => by have := l1' q e; omega).trans (f15.block q q2 fun e => by have := l0 q e; omega)); have rw16 : RepI Z1 w16 (.sl HeapTy) R [wv] := RepI.mono (fun _ h => h) (fun q hq => (f16.block q (by have := zw6 q hq; have := f15.size; omega) fun e => by have := l1' q e; have := zw6 q hq; omega).trans (f15.block q (by have := zw6 q hq; omega) fun e => by have := l0 q e; have := zw6 q hq; omega)) _ _ _ rw14; have hBW16b := belowFrame (belowFrame hBW14b f15 (fun q hq => by have := l0 q hq; omega)) f16 (fun q hq => by have := l1' q hq; omega); have hs16 := f16.size; have hs15 := f15.size)
  go_upto_region 24 with (go_at_call 9; refine (j_eqS (fun q hq => ((ZH.lt d16) q hq).2) (fun q hq => by have := zw6 q hq; omega) (hHm9.out ▸ d16.rep) rw16 HF.out.es).mono ?_; rintro e w17 ⟨rfl, hb17⟩)
  have d17 := d16.below hb17
  have rw17 := repJ_below (fun q hq => by have := zw6 q hq; omega) rw16 hb17
  have hBW17 := bThen hBW16b hb17
  have hs17 := hb17.size
  have hlr : gs.length = R.length := by have := congrArg List.length hHm9.out; simpa using this
  have hmk := markS_calls d17 (by rw [hlr]; exact HF.out.len) kf lf fun i a ha => HF.out.mrk i a.heap (by rw [← hHm9.out]; simp [ha])
  rw [HF.out.k0] at hmk
  have hkf : kf gs.length = kf R.length := by rw [hlr]
  have hmm : (markedE kf lf gs gs.length).map HE.heap = markedH kf lf R R.length := by rw [markedE_heap kf lf gs _ (Nat.le_refl _), hHm9.out, hlr]
  have hHmm := Lib.hid hmm
  have hpos := HF.out.pos
  rw [hkf] at hmk
  have hzh := ZH.lt d17
  clear hmm hkf hlr d14 d16 rw14 rw16 hb17 p0 p1
  go_upto_region 31 with (first
    | (go_at_call 12; refine hmk.mono ?_; rintro e w18 ⟨rfl, f18, d18⟩; clear hmk; have rw18 : RepI Z1 w18 (.sl HeapTy) R [wv] := RepI.mono (fun _ h => h) (fun q hq => f18.block q (by have := zw6 q hq; omega) fun e => by have := (hzh q e).1; rw [alloc_size] at this; have := zw6 q hq; omega) _ _ _ rw17; have hBW18 := belowFrame hBW17 f18 (fun q hq => by have := (hzh q hq).1; rw [alloc_size] at this; omega); have hs18 := f18.size)
    | (go_at_call 13; refine (j_heldS (fun q hq => ((ZH.lt d18) q hq).2) (hHmm.out ▸ d18.rep) HF.out.hd).mono ?_; rintro e w19 ⟨rfl, hb19⟩))
  have d19 := d18.below hb19
  have rw19 := repJ_below (fun q hq => by have := zw6 q hq; omega) rw18 hb19
  have hBW19 := bThen hBW18 hb19
  have hs19 := hb19.size
  have hS31 : ∀ w', Below w19.heap.size w19 w' → w'.cell? ⟨w0.heap.size, 0, none⟩ = some (.int .i64 g.1) ∧ w'.cell? ⟨w0.heap.size, 1, none⟩ = some (.int .i64 g.2.1) ∧ w'.cell? ⟨w0.heap.size, 2, none⟩ = some (.int .i64 g.2.2.1) ∧ w'.cell? ⟨w0.heap.size, 3, none⟩ = some (.slice ga g.2.2.2.1.length gc) ∧ w'.cell? ⟨w0.heap.size + 1, 0, none⟩ = some (.int .i64 h.1) ∧ w'.cell? ⟨w0.heap.size + 1, 1, none⟩ = some (.int .i64 h.2.1) ∧ w'.cell? ⟨w0.heap.size + 1, 2, none⟩ = some (.int .i64 h.2.2.1) ∧ w'.cell? ⟨w0.heap.size + 1, 3, none⟩ = some (.slice ha h.2.2.2.1.length hc) ∧ Below w19.heap.size w19 w' := fun w' hw => by
    obtain ⟨a0, a1, a2, a3, b0, b1, b2, b3, _⟩ := HS.out _ (bThen hBW19 hw)
    exact ⟨a0, a1, a2, a3, b0, b1, b2, b3, hw⟩
  have hG31 : ∀ U, Below w19.heap.size w19 U → Calls Tryz.prog 7 #[.agg #[.int .i64 g.1, .int .i64 g.2.1, .int .i64 g.2.2.1, .slice ga g.2.2.2.1.length gc]] U fun e w' => ∃ x y, e = .returned (.agg #[.int .i64 g.1, .int .i64 g.2.1, .int .i64 g.2.2.1, .slice x g.2.2.2.1.length y]) ∧ (w'.cell? ⟨w0.heap.size, 0, none⟩ = some (.int .i64 g.1) ∧ w'.cell? ⟨w0.heap.size, 1, none⟩ = some (.int .i64 g.2.1) ∧ w'.cell? ⟨w0.heap.size, 2, none⟩ = some (.int .i64 g.2.2.1) ∧ w'.cell? ⟨w0.heap.size, 3, none⟩ = some (.slice ga g.2.2.2.1.length gc) ∧ w'.cell? ⟨w0.heap.size + 1, 0, none⟩ = some (.int .i64 h.1) ∧ w'.cell? ⟨w0.heap.size + 1, 1, none⟩ = some (.int .i64 h.2.1) ∧ w'.cell? ⟨w0.heap.size + 1, 2, none⟩ = some (.int .i64 h.2.2.1) ∧ w'.cell? ⟨w0.heap.size + 1, 3, none⟩ = some (.slice ha h.2.2.2.1.length hc) ∧ Below w19.heap.size w19 w') ∧ Below U.heap.size U w' ∧ OwnV (fun _ => False) w' U.heap.size 55 A3ty (.slice x g.2.2.2.1.length y) g.2.2.2.1 := fun U hU => by
    refine (HTG.out U (bThen hBW19 hU)).mono ?_
    rintro e w' ⟨x, y, rfl, _, hb, hu⟩
    exact ⟨x, y, rfl, hS31 _ (bThen hU hb), hb, hu⟩
  have hH31 : ∀ U, Below w19.heap.size w19 U → Calls Tryz.prog 7 #[.agg #[.int .i64 h.1, .int .i64 h.2.1, .int .i64 h.2.2.1, .slice ha h.2.2.2.1.length hc]] U fun e w' => ∃ x y, e = .returned (.agg #[.int .i64 h.1, .int .i64 h.2.1, .int .i64 h.2.2.1, .slice x h.2.2.2.1.length y]) ∧ (w'.cell? ⟨w0.heap.size, 0, none⟩ = some (.int .i64 g.1) ∧ w'.cell? ⟨w0.heap.size, 1, none⟩ = some (.int .i64 g.2.1) ∧ w'.cell? ⟨w0.heap.size, 2, none⟩ = some (.int .i64 g.2.2.1) ∧ w'.cell? ⟨w0.heap.size, 3, none⟩ = some (.slice ga g.2.2.2.1.length gc) ∧ w'.cell? ⟨w0.heap.size + 1, 0, none⟩ = some (.int .i64 h.1) ∧ w'.cell? ⟨w0.heap.size + 1, 1, none⟩ = some (.int .i64 h.2.1) ∧ w'.cell? ⟨w0.heap.size + 1, 2, none⟩ = some (.int .i64 h.2.2.1) ∧ w'.cell? ⟨w0.heap.size + 1, 3, none⟩ = some (.slice ha h.2.2.2.1.length hc) ∧ Below w19.heap.size w19 w') ∧ Below U.heap.size U w' ∧ OwnV (fun _ => False) w' U.heap.size 55 A3ty (.slice x h.2.2.2.1.length y) h.2.2.2.1 := fun U hU => by
    refine (HTH.out U (bThen hBW19 hU)).mono ?_
    rintro e w' ⟨x, y, rfl, _, hb, hu⟩
    exact ⟨x, y, rfl, hS31 _ (bThen hU hb), hb, hu⟩
  have hJ31 : ∀ (U : World) (b1 b2 : Nat) (xa xb : Option Addr) (ya yb : Nat), Below w19.heap.size w19 U → OwnV (fun _ => False) U b1 55 A3ty (.slice xa g.2.2.2.1.length ya) g.2.2.2.1 → OwnV (fun _ => False) U b2 55 A3ty (.slice xb h.2.2.2.1.length yb) h.2.2.2.1 → Calls Tryz.prog 8 #[.agg #[.int .i64 g.1, .int .i64 g.2.1, .int .i64 g.2.2.1, .slice xa g.2.2.2.1.length ya], .agg #[.int .i64 h.1, .int .i64 h.2.1, .int .i64 h.2.2.1, .slice xb h.2.2.2.1.length yb]] U fun e w' => ∃ h0 gs2, e = .returned (.tuple #[h0, .bool b]) ∧ (w'.cell? ⟨w0.heap.size, 0, none⟩ = some (.int .i64 g.1) ∧ w'.cell? ⟨w0.heap.size, 1, none⟩ = some (.int .i64 g.2.1) ∧ w'.cell? ⟨w0.heap.size, 2, none⟩ = some (.int .i64 g.2.2.1) ∧ w'.cell? ⟨w0.heap.size, 3, none⟩ = some (.slice ga g.2.2.2.1.length gc) ∧ w'.cell? ⟨w0.heap.size + 1, 0, none⟩ = some (.int .i64 h.1) ∧ w'.cell? ⟨w0.heap.size + 1, 1, none⟩ = some (.int .i64 h.2.1) ∧ w'.cell? ⟨w0.heap.size + 1, 2, none⟩ = some (.int .i64 h.2.2.1) ∧ w'.cell? ⟨w0.heap.size + 1, 3, none⟩ = some (.slice ha h.2.2.2.1.length hc) ∧ Below w19.heap.size w19 w') ∧ DeepH w' U.heap.size 29 55 h0 gs2 ∧ Hid (gs2.map HE.heap = R) := fun U b1 b2 xa xb ya yb hU o1 o2 => by
    refine (HF.out.im _ _ U _ _ _ _ (ArgH.own o1) (ArgH.own o2)).mono ?_
    rintro e w' ⟨v, gs2, rfl, hb, hd, hm⟩
    exact ⟨v, gs2, rfl, hS31 _ (bThen hU hb), hd, Lib.hid hm⟩
  have HG31 := Lib.hid hG31
  have HH31 := Lib.hid hH31
  have HJ31 := Lib.hid hJ31
  have R31 := Below.refl w19.heap.size w19
  obtain ⟨_, _, _, _, _, _, _, _, _⟩ := hS31 _ R31
  clear hS31 hG31 hH31 hJ31
  go_region_held3 (fun w' => w'.cell? ⟨w0.heap.size, 0, none⟩ = some (.int .i64 g.1) ∧ w'.cell? ⟨w0.heap.size, 1, none⟩ = some (.int .i64 g.2.1) ∧ w'.cell? ⟨w0.heap.size, 2, none⟩ = some (.int .i64 g.2.2.1) ∧ w'.cell? ⟨w0.heap.size, 3, none⟩ = some (.slice ga g.2.2.2.1.length gc) ∧ w'.cell? ⟨w0.heap.size + 1, 0, none⟩ = some (.int .i64 h.1) ∧ w'.cell? ⟨w0.heap.size + 1, 1, none⟩ = some (.int .i64 h.2.1) ∧ w'.cell? ⟨w0.heap.size + 1, 2, none⟩ = some (.int .i64 h.2.2.1) ∧ w'.cell? ⟨w0.heap.size + 1, 3, none⟩ = some (.slice ha h.2.2.2.1.length hc) ∧ Below w19.heap.size w19 w')
    (first | (refine ⟨?_, ?_, ?_, ?_, ?_, ?_, ?_, ?_, ?_⟩ <;> first | assumption | (apply belowD; assumption) | (rw [World.cell?_drew]; assumption) | (go_keep; done)) | (go_keep; done))
    (first
      | (go_at_call 7; refine (HG31.out _ ?_).mono ?_; (first | assumption | (apply belowD; assumption) | (apply belowD; apply belowD; assumption)); rintro e w20 ⟨xd, yd, rfl, ⟨_, _, _, _, _, _, _, _, hB20⟩, hb20, hu20⟩; clear HG31)
      | (go_at_call 7; refine (HH31.out _ ?_).mono ?_; (first | assumption | (apply belowD; assumption) | (apply belowD; apply belowD; assumption)); rintro e w21 ⟨xe, ye, rfl, ⟨_, _, _, _, _, _, _, _, hB21⟩, hb21, hu21⟩; clear HH31)
      | (go_at_call 8; refine (HJ31.out _ _ _ _ _ _ _ ?_ (ownBH hu20 ?_) hu21).mono ?_; (first | assumption | (apply belowD; assumption) | (apply belowD; apply belowD; assumption)); (first | assumption | (apply belowD; assumption) | (apply belowD; apply belowD; assumption)); rintro e w22 ⟨h0, gs2, rfl, ⟨_, _, _, _, _, _, _, _, hB22⟩, hd22, hm22⟩))
  have d22 := d19.below hB22
  have rw22 := repJ_below (fun q hq => by have := zw6 q hq; omega) rw19 hB22
  have hs22 := hB22.size
  have hBW22 := bThen hBW19 hB22
  go_wp2_with (first
    | (go_at_call 9; refine (j_eqS (fun q hq => ((ZH.lt hd22) q hq).2) (fun q hq => by have := zw6 q hq; omega) (hm22.out ▸ hd22.rep) rw22 HF.out.es).mono ?_; rintro e w23 ⟨rfl, hb23⟩; have d23 := d22.below hb23)
    | (go_at_call 13; refine (j_heldS (fun q hq => ((ZH.lt d23) q hq).2) (hHmm.out ▸ d23.rep) HF.out.hd).mono ?_; rintro e w24 ⟨rfl, hb24⟩))
  go_ret
  exact ⟨rfl, bThen e1 (bThen (bThen hBW22 hb23) hb24)⟩
end Go.VI
namespace Go.VI
open Go.Proofs Go.RowKit
set_option maxRecDepth 100000
set_option maxHeartbeats 4000000 in
theorem law_join1 {Za Zb : Nat → Prop} {w0 : World} {g h : DHeap} {ga ha : Option Addr} {gc hc : Nat} {z1 : Int}
 (ag : ArgH Za w0 g (.slice ga g.2.2.2.1.length gc)) (_ah : ArgH Zb w0 h (.slice ha h.2.2.2.1.length hc))
 (s1 : P_laws_szHeap (g, 1048576, ()) = some (z1, ())) (n1 : z1 < 0) :
 Calls Tryz.prog 3 #[hpV g (.slice ga g.2.2.2.1.length gc), hpV h (.slice ha h.2.2.2.1.length hc)] w0 fun e w' => e = .returned (.bool true) ∧ Below w0.heap.size w0 w' := by
  have e0 := belowAlloc w0 (.cells #[.int .i64 g.1, .int .i64 g.2.1, .int .i64 g.2.2.1, .slice ga g.2.2.2.1.length gc] 24)
  have B0 := alloc_at w0 (.cells #[.int .i64 g.1, .int .i64 g.2.1, .int .i64 g.2.2.1, .slice ga g.2.2.2.1.length gc] 24)
  have e1 := belowA e0 (.cells #[.int .i64 h.1, .int .i64 h.2.1, .int .i64 h.2.2.1, .slice ha h.2.2.2.1.length hc] 24)
  have sA := alloc_size w0 (.cells #[.int .i64 g.1, .int .i64 g.2.1, .int .i64 g.2.2.1, .slice ga g.2.2.2.1.length gc] 24)
  have B1 := alloc_at (w0.alloc (.cells #[.int .i64 g.1, .int .i64 g.2.1, .int .i64 g.2.2.1, .slice ga g.2.2.2.1.length gc] 24)) (.cells #[.int .i64 h.1, .int .i64 h.2.1, .int .i64 h.2.2.1, .slice ha h.2.2.2.1.length hc] 24)
  rw [sA] at B1
  have B0' := blockA B0 (.cells #[.int .i64 h.1, .int .i64 h.2.1, .int .i64 h.2.2.1, .slice ha h.2.2.2.1.length hc] 24)
  obtain ⟨W2, hW2⟩ : ∃ x, x = (w0.alloc (.cells #[.int .i64 g.1, .int .i64 g.2.1, .int .i64 g.2.2.1, .slice ga g.2.2.2.1.length gc] 24)).alloc (.cells #[.int .i64 h.1, .int .i64 h.2.1, .int .i64 h.2.2.1, .slice ha h.2.2.2.1.length hc] 24) := ⟨_, rfl⟩
  rw [← hW2] at e1 B1 B0'
  have S0 : ∀ w', Below W2.heap.size W2 w' → w'.cell? ⟨w0.heap.size, 0, none⟩ = some (.int .i64 g.1) ∧ w'.cell? ⟨w0.heap.size, 1, none⟩ = some (.int .i64 g.2.1) ∧ w'.cell? ⟨w0.heap.size, 2, none⟩ = some (.int .i64 g.2.2.1) ∧ w'.cell? ⟨w0.heap.size, 3, none⟩ = some (.slice ga g.2.2.2.1.length gc) ∧ w'.cell? ⟨w0.heap.size + 1, 0, none⟩ = some (.int .i64 h.1) ∧ w'.cell? ⟨w0.heap.size + 1, 1, none⟩ = some (.int .i64 h.2.1) ∧ w'.cell? ⟨w0.heap.size + 1, 2, none⟩ = some (.int .i64 h.2.2.1) ∧ w'.cell? ⟨w0.heap.size + 1, 3, none⟩ = some (.slice ha h.2.2.2.1.length hc) ∧ Below W2.heap.size W2 w' := fun w' hw => by
    obtain ⟨a0, a1, a2, a3⟩ := box4 (belowBlock B0' hw)
    obtain ⟨b0, b1, b2, b3⟩ := box4 (belowBlock B1 hw)
    exact ⟨a0, a1, a2, a3, b0, b1, b2, b3, hw⟩
  have hz1 : ∀ U, Below W2.heap.size W2 U → _ := fun U hU => j_sz (W := U) (ag.at (bThen e1 hU)) s1
  have R0 := Below.refl W2.heap.size W2
  unfold hpV at *
  obtain ⟨_, _, _, _⟩ := box4 B1
  obtain ⟨_, _, _, _⟩ := box4 B0'
  go_enter Tryz.func3, Tryz.ntmps3
  go_upto_region 1 with fail
  rw [← hW2]
  clear hW2
  have HS := Lib.hid S0
  clear S0 e0 sA
  go_wp2_with (first
    | (go_at_call 5; refine (hz1 _ R0).mono ?_; rintro e w2 ⟨rfl, hb2⟩; clear hz1; obtain ⟨_, _, _, _, _, _, _, _, hB2⟩ := HS.out _ hb2))
  go_ret
  exact ⟨rfl, bThen e1 hB2⟩
set_option maxHeartbeats 4000000 in
theorem law_join2 {Za Zb : Nat → Prop} {w0 : World} {g h : DHeap} {ga ha : Option Addr} {gc hc : Nat} {z1 z2 : Int}
 (ag : ArgH Za w0 g (.slice ga g.2.2.2.1.length gc)) (ah : ArgH Zb w0 h (.slice ha h.2.2.2.1.length hc))
 (s1 : P_laws_szHeap (g, 1048576, ()) = some (z1, ())) (s2 : P_laws_szHeap (h, z1, ()) = some (z2, ())) (n1 : ¬ z1 < 0) (n2 : z2 < 0) :
 Calls Tryz.prog 3 #[hpV g (.slice ga g.2.2.2.1.length gc), hpV h (.slice ha h.2.2.2.1.length hc)] w0 fun e w' => e = .returned (.bool true) ∧ Below w0.heap.size w0 w' := by
  have e0 := belowAlloc w0 (.cells #[.int .i64 g.1, .int .i64 g.2.1, .int .i64 g.2.2.1, .slice ga g.2.2.2.1.length gc] 24)
  have B0 := alloc_at w0 (.cells #[.int .i64 g.1, .int .i64 g.2.1, .int .i64 g.2.2.1, .slice ga g.2.2.2.1.length gc] 24)
  have e1 := belowA e0 (.cells #[.int .i64 h.1, .int .i64 h.2.1, .int .i64 h.2.2.1, .slice ha h.2.2.2.1.length hc] 24)
  have sA := alloc_size w0 (.cells #[.int .i64 g.1, .int .i64 g.2.1, .int .i64 g.2.2.1, .slice ga g.2.2.2.1.length gc] 24)
  have B1 := alloc_at (w0.alloc (.cells #[.int .i64 g.1, .int .i64 g.2.1, .int .i64 g.2.2.1, .slice ga g.2.2.2.1.length gc] 24)) (.cells #[.int .i64 h.1, .int .i64 h.2.1, .int .i64 h.2.2.1, .slice ha h.2.2.2.1.length hc] 24)
  rw [sA] at B1
  have B0' := blockA B0 (.cells #[.int .i64 h.1, .int .i64 h.2.1, .int .i64 h.2.2.1, .slice ha h.2.2.2.1.length hc] 24)
  obtain ⟨W2, hW2⟩ : ∃ x, x = (w0.alloc (.cells #[.int .i64 g.1, .int .i64 g.2.1, .int .i64 g.2.2.1, .slice ga g.2.2.2.1.length gc] 24)).alloc (.cells #[.int .i64 h.1, .int .i64 h.2.1, .int .i64 h.2.2.1, .slice ha h.2.2.2.1.length hc] 24) := ⟨_, rfl⟩
  rw [← hW2] at e1 B1 B0'
  have S0 : ∀ w', Below W2.heap.size W2 w' → w'.cell? ⟨w0.heap.size, 0, none⟩ = some (.int .i64 g.1) ∧ w'.cell? ⟨w0.heap.size, 1, none⟩ = some (.int .i64 g.2.1) ∧ w'.cell? ⟨w0.heap.size, 2, none⟩ = some (.int .i64 g.2.2.1) ∧ w'.cell? ⟨w0.heap.size, 3, none⟩ = some (.slice ga g.2.2.2.1.length gc) ∧ w'.cell? ⟨w0.heap.size + 1, 0, none⟩ = some (.int .i64 h.1) ∧ w'.cell? ⟨w0.heap.size + 1, 1, none⟩ = some (.int .i64 h.2.1) ∧ w'.cell? ⟨w0.heap.size + 1, 2, none⟩ = some (.int .i64 h.2.2.1) ∧ w'.cell? ⟨w0.heap.size + 1, 3, none⟩ = some (.slice ha h.2.2.2.1.length hc) ∧ Below W2.heap.size W2 w' := fun w' hw => by
    obtain ⟨a0, a1, a2, a3⟩ := box4 (belowBlock B0' hw)
    obtain ⟨b0, b1, b2, b3⟩ := box4 (belowBlock B1 hw)
    exact ⟨a0, a1, a2, a3, b0, b1, b2, b3, hw⟩
  have hz1 : ∀ U, Below W2.heap.size W2 U → _ := fun U hU => j_sz (W := U) (ag.at (bThen e1 hU)) s1
  have hz2 : ∀ U, Below W2.heap.size W2 U → _ := fun U hU => j_sz (W := U) (ah.at (bThen e1 hU)) s2
  have R0 := Below.refl W2.heap.size W2
  unfold hpV at *
  obtain ⟨_, _, _, _⟩ := box4 B1
  obtain ⟨_, _, _, _⟩ := box4 B0'
  go_enter Tryz.func3, Tryz.ntmps3
  go_upto_region 1 with fail
  rw [← hW2]
  clear hW2
  have HS := Lib.hid S0
  clear S0 e0 sA
  go_wp2_with (first
    | (go_at_call 5; refine (hz1 _ R0).mono ?_; rintro e w2 ⟨rfl, hb2⟩; clear hz1; obtain ⟨_, _, _, _, _, _, _, _, hB2⟩ := HS.out _ hb2)
    | (go_at_call 5; refine (hz2 _ hB2).mono ?_; rintro e w3 ⟨rfl, hb3⟩; clear hz2; obtain ⟨_, _, _, _, _, _, _, _, hB3⟩ := HS.out _ (bThen hB2 hb3)))
  go_ret
  exact ⟨rfl, bThen e1 hB3⟩
end Go.VI
namespace Go.VI
open Go.Proofs Go.RowKit
set_option maxRecDepth 100000
theorem nrmV_len (l : List D_A3) : (nrmV l).2.2.2.1.length ≤ l.length := by
  by_cases he : ∃ k, Nrm l k
  · obtain ⟨k, hk⟩ := he
    rw [nrmV_is hk]; exact nrm_len hk
  · unfold nrmV; rw [dif_neg he]; simp
theorem posV_len (t : D_l8Turn) (l : List D_A3) : (posV t l).2.2.2.1.length ≤ l.length := by
  have := nrmV_len (l.map (tl t)); rw [List.length_map] at this; exact this
theorem minT_len (l : List D_A3) : ∀ (T : List D_l8Turn) (b : D_Heap), b.2.2.2.1.length ≤ l.length → (minT l T b).2.2.2.1.length ≤ l.length
  | [], b, h => h
  | t :: T, b, h => by
    show (minT l T (if lessH (posV t l) b = true then posV t l else b)).2.2.2.1.length ≤ _
    refine minT_len l T _ ?_
    split
    · exact posV_len t l
    · exact h
theorem frmV_len (l : List D_A3) : (frmV l).2.2.2.1.length ≤ l.length := by rw [frmV_T]; exact minT_len l _ _ (posV_len _ _)
theorem l_eqHeapS (R : List D_Heap) (hR : SmallA R) (hl : R.length ≤ 1000000) : ∀ (d k m : Nat), R.length = k + d → d < m → l_laws_eqHeapS_4 m R R (k : Int) = some (true, ())
  | d, k, 0, _, h => by omega
  | d, k, m + 1, hk, hm => by
    rw [q_laws_eqHeapS_4]
    by_cases hlt : k < R.length
    · rw [ltT hlt, inB_at hlt, nthA (t := T_Heap) hlt, f_eqHeap _ (hR _ (List.getElem_mem hlt)), succI k (by omega)]
      simp only [cond_true, Option.bind_some, Bool.not_true, cond_false]
      exact l_eqHeapS R hR hl (d - 1) (k + 1) m (by omega) (by omega)
    · rw [ltF hlt]; rfl
theorem f_eqHeapS (R : List D_Heap) (hR : SmallA R) (hl : R.length ≤ 1000000) : P_laws_eqHeapS (R, R, ()) = some (true, ()) := by
  rw [p_laws_eqHeapS, decide_eq_true rfl]
  simp only [Bool.not_true, cond_false]
  exact l_eqHeapS R hR hl R.length 0 N (by simp) (by have := N_ge; omega)
theorem f_markK3 (l : List D_A3) (k : Int) (hl : Small l) (h0 : 0 ≤ k) (h1 : k ≤ 10000000) : P_laws_markIntA3S (l, k, ()) = some ((k + 3 * (l.length : Int), ()), (marked l k, ())) := by
  have := l_mark2 l k hl h0 h1 l.length 0 N l (by simp) (by unfold Small at hl; have := N_ge; omega) rfl (by simp)
  rw [p_laws_markIntA3S]
  simpa using this
theorem f_heldK3 (l : List D_A3) (k : Int) (hl : Small l) (h0 : 0 ≤ k) (h1 : k ≤ 10000000) : P_laws_heldIntA3S (marked l k, k, ()) = some (k + 3 * (l.length : Int), ()) := by
  have := l_held2 l k hl h0 h1 l.length 0 N (by simp) (by unfold Small at hl; have := N_ge; omega)
  rw [p_laws_heldIntA3S]
  simpa using this
theorem up1_eq {k : Int} (h0 : 0 ≤ k) (h1 : k ≤ 1000000000) : up1 k = k + 1 := by
  show RowKit.wrap64 (k + 1) = k + 1
  rw [← IntWalk.i64_left, w64 (by omega) (by omega)]
def dJ : D_Heap := (0, 0, 0, [], ())
def kJ (R : List D_Heap) : Nat → Int
  | 0 => 1
  | i + 1 => kJ R i + 3 + 3 * ((R.getD i dJ).2.2.2.1.length : Int)
def lJ (R : List D_Heap) (i : Nat) : List D_A3 := marked (R.getD i dJ).2.2.2.1 (kJ R i + 3)
theorem getD_4 {R : List D_Heap} (h4 : ∀ x ∈ R, x.2.2.2.1.length ≤ 4) (i : Nat) : (R.getD i dJ).2.2.2.1.length ≤ 4 := by
  rw [List.getD_eq_getElem?_getD]
  rcases Nat.lt_or_ge i R.length with h | h
  · rw [List.getElem?_eq_getElem h]; exact h4 _ (List.getElem_mem h)
  · rw [List.getElem?_eq_none h]; exact Nat.zero_le _
theorem kJ_bd {R : List D_Heap} (h4 : ∀ x ∈ R, x.2.2.2.1.length ≤ 4) : ∀ i : Nat, 1 ≤ kJ R i ∧ kJ R i ≤ 1 + 15 * (i : Int)
  | 0 => ⟨Int.le_refl 1, Int.le_refl 1⟩
  | i + 1 => by
    have h := kJ_bd h4 i
    have h2 := getD_4 h4 i
    unfold kJ
    omega
theorem markedH_len (kf : Nat → Int) (lf : Nat → List DA3) (R : List D_Heap) : ∀ i, (markedH kf lf R i).length = R.length
  | 0 => rfl
  | i + 1 => by rw [markedH, List.length_set]; exact markedH_len kf lf R i
theorem markedH_get (kf : Nat → Int) (lf : Nat → List DA3) (R : List D_Heap) : ∀ i j : Nat, j < i → i ≤ R.length → (markedH kf lf R i)[j]? = some (kf j, up1 (kf j), up1 (up1 (kf j)), lf j, ())
  | 0, j, h, _ => by omega
  | i + 1, j, h, hi => by
    rw [markedH]
    by_cases e : i = j
    · subst e; rw [List.getElem?_set_self (by rw [markedH_len]; omega)]
    · rw [List.getElem?_set_ne e]; exact markedH_get kf lf R i j (by omega) (by omega)
theorem l_heldHeapS {R : List D_Heap} (h4 : ∀ x ∈ R, x.2.2.2.1.length ≤ 4) (hl : R.length ≤ 17496) {L : List D_Heap} (hL : L.length = R.length) (hg : ∀ j, j < R.length → L[j]? = some (kJ R j, kJ R j + 1, kJ R j + 1 + 1, lJ R j, ())) :
 ∀ (d k m : Nat), R.length = k + d → d < m → l_laws_heldHeapS_2 m L (kJ R k) (k : Int) = some (kJ R R.length, ())
  | d, k, 0, _, h => by omega
  | d, k, m + 1, hk, hm => by
    have hb := kJ_bd h4 k
    have h5 := getD_4 h4 k
    rw [q_laws_heldHeapS_2]
    by_cases hlt : k < R.length
    · have hlt' : k < L.length := by omega
      have hv : L[k] = (kJ R k, kJ R k + 1, kJ R k + 1 + 1, lJ R k, ()) := by
        have := hg k hlt
        rw [List.getElem?_eq_getElem hlt'] at this
        exact Option.some.inj this
      rw [ltT hlt', inB_at hlt', nthA (t := T_Heap) hlt', hv, w64 (x := kJ R k + 1) (by omega) (by omega), w64 (x := kJ R k + 1 + 1) (by omega) (by omega), w64 (x := kJ R k + 1 + 1 + 1) (by omega) (by omega)]
      simp only [cond_true, decide_true, Bool.not_true, cond_false]
      have e : kJ R k + 1 + 1 + 1 = kJ R k + 3 := by omega
      rw [e, show lJ R k = marked (R.getD k dJ).2.2.2.1 (kJ R k + 3) from rfl, f_heldK3 _ _ (by unfold Small; omega) (by omega) (by omega)]
      simp only [Option.bind_some]
      rw [decide_eq_false (by omega), cond_false, succI k (by omega)]
      exact l_heldHeapS h4 hl hL hg (d - 1) (k + 1) m (by omega) (by omega)
    · rw [ltF (show ¬ k < L.length by omega), show k = R.length by omega]; rfl
theorem join4 {g h : D_Heap} {R : List D_Heap} {b : Bool} (hb : b = true ↔ MayJ g h) (hT : b = true → Strict R ∧ ∀ x, x ∈ R ↔ ∃ t ∈ T24, ∃ v, Nine v ∧ Hit (nrmV g.2.2.2.1).2.2.2.1 (posV t h.2.2.2.1).2.2.2.1 v x) (hF : b = false → R = []) : ∀ x ∈ R, x.2.2.2.1.length ≤ 4 := fun x hx => by
  cases b with
  | false => rw [hF rfl] at hx; cases hx
  | true =>
    obtain ⟨_, _, h4⟩ := hb.1 rfl
    obtain ⟨t, _, v, _, _, rfl⟩ := ((hT rfl).2 x).1 hx
    have h1 := frmV_len ((nrmV g.2.2.2.1).2.2.2.1 ++ mv (posV t h.2.2.2.1).2.2.2.1 v)
    rw [List.length_append, List.length_map] at h1
    have h2 := nrmV_len g.2.2.2.1
    have h3 := posV_len t h.2.2.2.1
    omega
theorem joinR_facts (g h : D_Heap) (hg : Small g.2.2.2.1) (hh : Small h.2.2.2.1) : ∃ R b, LawJR g h R b (1 + 3 * (g.2.2.2.1.length : Int)) (1 + 3 * (g.2.2.2.1.length : Int) + 3 * (h.2.2.2.1.length : Int)) (kJ R) (lJ R) := by
  obtain ⟨R, b, hs, hA, hl, hG, hb, hT, hF⟩ := join_all g h hg hh
  have h4 := join4 hb hT hF
  have hg' := hg
  have hh' := hh
  unfold Small at hg' hh'
  refine ⟨R, b, f_toHeap g hg, f_toHeap h hh, hs, hG, f_eqHeapS R hA (by omega), f_eqHeap g hg, f_eqHeap h hh, ⟨_, f_markK g 1 hg (by decide) (by decide)⟩, ⟨_, f_markK h _ hh (by omega) (by omega)⟩, by omega, rfl, fun i x hx => ?_, ?_, ?_, by omega⟩
  · have hi : i < R.length := by
      rcases Nat.lt_or_ge i R.length with h | h
      · exact h
      · rw [List.getElem?_eq_none h] at hx; cases hx
    have e : R.getD i dJ = x := by rw [List.getD_eq_getElem?_getD, hx]; rfl
    have hk := kJ_bd h4 i
    have hx4 := getD_4 h4 i
    rw [up1_eq (k := kJ R i) (by omega) (by omega), up1_eq (k := kJ R i + 1) (by omega) (by omega), up1_eq (k := kJ R i + 1 + 1) (by omega) (by omega), show kJ R i + 1 + 1 + 1 = kJ R i + 3 by omega, f_markK3 x.2.2.2.1 _ (by rw [← e]; unfold Small; omega) (by omega) (by omega)]
    unfold lJ
    rw [show kJ R (i + 1) = kJ R i + 3 + 3 * ((R.getD i dJ).2.2.2.1.length : Int) from rfl, e]
  · rw [p_laws_heldHeapS]
    refine l_heldHeapS h4 hl (markedH_len _ _ R _) (fun j hj => ?_) R.length 0 N (by simp) (by have := N_ge; omega)
    have hk := kJ_bd h4 j
    rw [markedH_get _ _ R _ j hj (Nat.le_refl _), up1_eq (k := kJ R j) (by omega) (by omega), up1_eq (k := kJ R j + 1) (by omega) (by omega)]
  · have hk := kJ_bd h4 R.length
    omega
theorem law_join {Za Zb : Nat → Prop} {w0 : World} {g h : DHeap} {ga ha : Option Addr} {gc hc : Nat} (ag : ArgH Za w0 g (.slice ga g.2.2.2.1.length gc)) (ah : ArgH Zb w0 h (.slice ha h.2.2.2.1.length hc))
 (lg : g.2.2.2.1.length ≤ 9223372036854775807) (lh : h.2.2.2.1.length ≤ 9223372036854775807) :
 Calls Tryz.prog 3 #[hpV g (.slice ga g.2.2.2.1.length gc), hpV h (.slice ha h.2.2.2.1.length hc)] w0 fun e w' => e = .returned (.bool true) ∧ Below w0.heap.size w0 w' := by
  obtain ⟨z1, e1, l1, o1⟩ := f_szHeap2 g 1048576 (by decide) (by decide) lg
  by_cases n1 : z1 < 0
  · exact law_join1 ag ah e1 n1
  · obtain ⟨z2, e2, l2, o2⟩ := f_szHeap2 h z1 (by omega) (by omega) lh
    by_cases n2 : z2 < 0
    · exact law_join2 ag ah e1 e2 n1 n2
    · obtain ⟨R, b, F⟩ := joinR_facts g h (by unfold Small; omega) (by unfold Small; omega)
      exact law_joinR ag ah e1 e2 n1 n2 F
end Go.VI
namespace Go.VI
open Go.Proofs Go.RowKit
set_option maxRecDepth 100000
theorem heap_arg {Z : Nat → Prop} {w : World} {h : D_Heap} {us : List Value} (hz : ∀ g, Z g → g < w.heap.size) (hr : RepI Z w T_Heap h us) : ∃ A c, us = [.int .i64 h.1, .int .i64 h.2.1, .int .i64 h.2.2.1, .slice A h.2.2.2.1.length c] ∧ ArgH Z w h (.slice A h.2.2.2.1.length c) := by
  obtain ⟨c1, c2, rfl, h1, c3, c4, rfl, h2, c5, c6, rfl, h3, c7, c8, rfl, h4, h5⟩ := hr
  obtain rfl : c1 = [.int .i64 h.1] := h1
  obtain rfl : c3 = [.int .i64 h.2.1] := h2
  obtain rfl : c5 = [.int .i64 h.2.2.1] := h3
  obtain rfl : c8 = [] := h5
  have h4' := h4
  obtain ⟨A, c, rfl, _, _⟩ := h4
  exact ⟨A, c, rfl, hz, h4'⟩
open Classical in
noncomputable def P_laws_FnExactJoinForms (x : D_Heap × D_Heap × Unit) : Option (Bool × Unit) := if x.1.2.2.2.1.length ≤ 9223372036854775807 ∧ x.2.1.2.2.2.1.length ≤ 9223372036854775807 then some (true, ()) else none
noncomputable def B_laws_FnExactJoinForms : Code := (Tryz.f3.body).getD .skip
theorem law_JoinForms (g h : D_Heap) (lg : g.2.2.2.1.length ≤ 9223372036854775807) (lh : h.2.2.2.1.length ≤ 9223372036854775807) : P_laws_FnExactJoinForms (g, h, ()) = some (true, ()) := if_pos ⟨lg, lh⟩
theorem s_laws_FnExactJoinForms : Sound Tryz.prog GG 3 ⟨[.data true T_Heap, .data true T_Heap], [(false, .bool)], [], P_laws_FnExactJoinForms⟩ := by
  intro w Z vs xs r _ hz hrel hF
  obtain ⟨g, h, ⟨⟩⟩ := xs
  obtain ⟨us, vs', rfl, _, hrep, us2, vs2, rfl, _, hrep2, hn⟩ := hrel
  obtain rfl : vs2 = [] := hn
  have hl : g.2.2.2.1.length ≤ 9223372036854775807 ∧ h.2.2.2.1.length ≤ 9223372036854775807 := by
    by_cases hl : g.2.2.2.1.length ≤ 9223372036854775807 ∧ h.2.2.2.1.length ≤ 9223372036854775807
    · exact hl
    · have e : P_laws_FnExactJoinForms (g, h, ()) = none := if_neg hl
      have hF' : P_laws_FnExactJoinForms (g, h, ()) = some r := hF
      rw [e] at hF'; cases hF'
  have e : P_laws_FnExactJoinForms (g, h, ()) = some r := hF
  rw [law_JoinForms g h hl.1 hl.2] at e
  obtain rfl := Option.some.inj e
  obtain ⟨A, c, rfl, ag⟩ := heap_arg hz hrep
  obtain ⟨A2, c2, rfl, ah⟩ := heap_arg hz hrep2
  refine Calls.fcalls (fn := Tryz.f3) Tryz.func3 rfl (by kernel_rfl) (Calls.mono (law_join ag ah hl.1 hl.2) ?_)
  rintro e w' ⟨rfl, hb⟩
  refine ⟨_, rfl, Z, [.bool true], rfl, hb, fun g hg => hg, fun g hg => .inl hg, fun _ _ => .bool true, rfl, ?_, ?_⟩
  · intro i p hp
    match i, hp with
    | 0, hp =>
      obtain rfl := Option.some.inj hp
      refine ⟨rfl, fun _ => rfl, fun j rc hj => ?_⟩
      match j, hj with
      | 0, hj =>
        obtain rfl := Option.some.inj hj
        exact ⟨rfl, rfl⟩
  · intro i j i' j' p p' rc rc' g hp hj ho hp' hj' ho' hg hg'
    simp [Value.ownBlock] at hg
end Go.VI
namespace Go.VI
noncomputable section
open Go.RowKit
def fieldsTy (P : Program) (rec : TypeId → Ty → Bool) : Nat → List Field → Ty → Bool
  | _, [], .unit => true
  | off, f :: r, .pair a b => Nat.beq f.offset off && Nat.beq (P.cellsOf f.type) a.size && rec f.type a && fieldsTy P rec (off + a.size) r b
  | _, _, _ => false
def arrTy (P : Program) (rec : TypeId → Ty → Bool) (e : TypeId) : Nat → Ty → Bool
  | 0, .unit => true
  | n + 1, .pair a b => Nat.beq (P.cellsOf e) a.size && rec e a && arrTy P rec e n b
  | _, _ => false
def hasTy (P : Program) : Nat → TypeId → Ty → Bool
  | 0, _, _ => false
  | n + 1, T, t => match P.underlying T with
    | some (.int k) => match t with | .int k' => decide (k = k') | _ => false
    | some .bool => match t with | .bool => true | _ => false
    | some .string => match t with | .str => true | _ => false
    | some (.slice e) => match t with | .sl t' => Nat.blt 0 t'.size && Nat.beq (P.cellsOf e) t'.size && hasTy P n e t' | _ => false
    | some (.struct fs) => fieldsTy P (hasTy P n) 0 fs.toList t && Nat.beq (P.cellsOf T) t.size
    | some (.array m e) => arrTy P (hasTy P n) e m t && Nat.beq (P.cellsOf T) t.size
    | _ => false
def Wf : (t : Ty) → t.den → Prop
  | .int k, n => k.min ≤ n ∧ n ≤ k.max
  | .bool, _ => True
  | .str, s => s.length ≤ maxLen
  | .unit, _ => True
  | .pair a b, x => Wf a x.1 ∧ Wf b x.2
  | .sl t, l => l.length ≤ maxLen ∧ ∀ x ∈ l, Wf t x
theorem choose_list {α : Type} (p : Nat → α → Prop) : ∀ (n : Nat), (∀ i, i < n → ∃ x, p i x) → ∃ l : List α, l.length = n ∧ ∀ i x, l[i]? = some x → p i x
  | 0, _ => ⟨[], rfl, by simp⟩
  | n + 1, h => by
    obtain ⟨l, h1, h2⟩ := choose_list p n fun i hi => h i (by omega)
    obtain ⟨x, hx⟩ := h n (by omega)
    refine ⟨l ++ [x], by simp [h1], fun i y hy => ?_⟩
    by_cases hi : i < l.length
    · rw [List.getElem?_append_left hi] at hy; exact h2 i y hy
    · have : i = n := by
        have := (List.getElem?_eq_some_iff.1 hy).1
        simp at this; omega
      subst this
      rw [← h1] at hy
      simp at hy
      subst hy; exact hx
section
variable {H : Type} {enc : TypeId × Value → H} {P : Program} {w : World} {base : Nat} {spare : Nat → Bool} {held : Bool}
def InW (w : World) : Nat → Prop := fun g => g < w.heap.size
theorem fields_rep (n fuel : Nat) (ih : ∀ (T : TypeId) (t : Ty) (cs : List Value) (d : DataW H) (ps : List MemPlace), hasTy P n T t = true → DataW.trod enc P w base spare held fuel T cs = some (d, ps) → ∃ x, RepI (InW w) w t x cs ∧ Wf t x)
 (cs : List Value) : ∀ (fs : List Field) (off : Nat) (t : Ty), fieldsTy P (hasTy P n) off fs t = true → cs.length = off + t.size →
 (∀ f ∈ fs, ∃ y, DataW.trod enc P w base spare held fuel f.type ((cs.drop f.offset).take (P.cellsOf f.type)) = some y) → ∃ x, RepI (InW w) w t x (cs.drop off) ∧ Wf t x
  | [], off, t, h, hl, _ => by
    cases t <;> simp [fieldsTy] at h
    refine ⟨(), ?_, trivial⟩
    exact List.drop_eq_nil_of_le (by simp [Ty.size] at hl; omega)
  | f :: r, off, t, h, hl, hm => by
    cases t <;> simp [fieldsTy] at h
    rename_i a b
    obtain ⟨⟨⟨h1, h2⟩, h3⟩, h4⟩ := h
    obtain ⟨⟨d, ps⟩, hy⟩ := hm f (by simp)
    rw [h1, h2] at hy
    obtain ⟨x, hx, wx⟩ := ih _ _ _ _ _ h3 hy
    obtain ⟨y, hy2, wy⟩ := fields_rep n fuel ih cs r (off + a.size) b h4 (by simp [Ty.size] at hl; omega) fun f' hf' => hm f' (by simp [hf'])
    refine ⟨(x, y), ⟨_, _, ?_, hx, hy2⟩, wx, wy⟩
    rw [← List.drop_drop, List.take_append_drop]
theorem arr_rep (n fuel : Nat) (ih : ∀ (T : TypeId) (t : Ty) (cs : List Value) (d : DataW H) (ps : List MemPlace), hasTy P n T t = true → DataW.trod enc P w base spare held fuel T cs = some (d, ps) → ∃ x, RepI (InW w) w t x cs ∧ Wf t x)
 (cs : List Value) (e : TypeId) : ∀ (m i : Nat) (t : Ty), arrTy P (hasTy P n) e m t = true → cs.length = i * P.cellsOf e + t.size →
 (∀ k, i ≤ k → k < i + m → ∃ y, DataW.trod enc P w base spare held fuel e ((cs.drop (k * P.cellsOf e)).take (P.cellsOf e)) = some y) → ∃ x, RepI (InW w) w t x (cs.drop (i * P.cellsOf e)) ∧ Wf t x
  | 0, i, t, h, hl, _ => by
    cases t <;> simp [arrTy] at h
    refine ⟨(), ?_, trivial⟩
    exact List.drop_eq_nil_of_le (by simp [Ty.size] at hl; omega)
  | m + 1, i, t, h, hl, hm => by
    cases t <;> simp [arrTy] at h
    rename_i a b
    obtain ⟨⟨h2, h3⟩, h4⟩ := h
    obtain ⟨⟨d, ps⟩, hy⟩ := hm i (Nat.le_refl _) (by omega)
    obtain ⟨x, hx, wx⟩ := ih _ _ _ _ _ h3 hy
    obtain ⟨y, hy2, wy⟩ := arr_rep n fuel ih cs e m (i + 1) b h4 (by rw [Nat.succ_mul]; simp [Ty.size] at hl; omega) fun k hk hk' => hm k (by omega) (by omega)
    refine ⟨(x, y), ⟨_, _, ?_, hx, hy2⟩, wx, wy⟩
    rw [Nat.succ_mul, ← List.drop_drop, List.take_append_drop]
theorem trod_rep : ∀ (n fuel : Nat) (T : TypeId) (t : Ty) (cs : List Value) (d : DataW H) (ps : List MemPlace), hasTy P n T t = true → DataW.trod enc P w base spare held fuel T cs = some (d, ps) → ∃ x, RepI (InW w) w t x cs ∧ Wf t x
  | 0, fuel, T, t, cs, d, ps, ht, _ => by simp [hasTy] at ht
  | n + 1, fuel, T, t, cs, d, ps, ht, h => by
    simp only [hasTy] at ht
    split at ht
    · rename_i k hu
      cases t <;> simp at ht
      subst ht
      obtain ⟨v, rfl, _, hw⟩ := DataW.trod_int hu h
      simp only [Lit.wf, Bool.and_eq_true, decide_eq_true_eq] at hw
      exact ⟨v, rfl, hw⟩
    · rename_i hu
      cases t <;> simp at ht
      obtain ⟨v, rfl, _⟩ := DataW.trod_bool hu h
      exact ⟨v, rfl, trivial⟩
    · rename_i hu
      cases t <;> simp at ht
      obtain ⟨s, rfl, _, hs⟩ := DataW.trod_string hu h
      exact ⟨s.data.toList, rfl, (show s.data.toList.length ≤ maxLen by rw [Array.length_toList]; exact hs)⟩
    · rename_i e hu
      cases t <;> simp at ht
      rename_i t'
      obtain ⟨⟨h0, h1⟩, h2⟩ := ht
      rcases DataW.trod_slice hu h with ⟨rfl, _⟩ | ⟨a, len, cap, elems, rest, m, rfl, rfl, _, hb, hlc, hcm, hel, hget, _, _⟩
      · exact ⟨[], ⟨none, 0, rfl, Nat.le_refl _, fun i x hx => by simp at hx⟩, by simp, by simp⟩
      · have hone : ∀ i, i < len → ∃ x, (∃ us, RepI (InW w) w t' x us ∧ ∀ j u, us[j]? = some u → w.cell? (a.add (i * t'.size + j)) = some u) ∧ Wf t' x ∧ a.block < w.heap.size := by
          intro i hi
          have he := hget i hi
          rw [List.getElem?_eq_getElem (by omega), Option.bind_eq_some_iff] at he
          obtain ⟨cs', hc', ht'⟩ := he
          obtain ⟨x, hx, wx⟩ := trod_rep n m e t' cs' elems[i].1 elems[i].2 h2 ht'
          obtain ⟨_, hl', hcell⟩ := World.cells?_some hc'
          have hblk := World.cells?_block hc' (by rw [h1]; exact h0)
          rw [add_zero_block] at hblk
          refine ⟨x, ⟨cs', hx, fun j u hu' => ?_⟩, wx, hblk⟩
          have hj : j < P.cellsOf e := by rw [← hl']; exact (List.getElem?_eq_some_iff.1 hu').1
          have := hcell j hj
          rw [add_add, hu', h1] at this
          exact this
        obtain ⟨l, hl, hall⟩ := choose_list _ len hone
        refine ⟨l, ⟨some a, cap, by rw [hl], by rw [hl]; exact hlc, fun i x hx => ?_⟩, by rw [hl]; exact Nat.le_trans hlc hcm, fun x hx => ?_⟩
        · obtain ⟨⟨us, k1, k2⟩, _, k3⟩ := hall i x hx
          exact ⟨a, rfl, k3, us, k1, k2⟩
        · obtain ⟨i, hi⟩ := List.mem_iff_getElem?.1 hx
          exact (hall i x hi).2.1
    · rename_i fs hu
      simp only [Bool.and_eq_true] at ht
      have hsz := Nat.eq_of_beq_eq_true ht.2
      obtain ⟨xs, m, rfl, _, hl, hxl, hx⟩ := DataW.trod_struct hu h
      have := fields_rep (enc := enc) (base := base) (spare := spare) (held := held) n m (fun T t cs d ps h1 h2 => trod_rep n m T t cs d ps h1 h2) cs fs.toList 0 t ht.1 (by rw [hl, hsz]; simp) fun f hf => by
        obtain ⟨i, hi⟩ := List.mem_iff_getElem?.1 hf
        have hi' : fs[i]? = some f := by simpa using hi
        have hlt : i < xs.length := by rw [hxl]; exact (Array.getElem?_eq_some_iff.1 hi').1
        exact ⟨xs[i], by rw [hx i f hi']; exact List.getElem?_eq_getElem hlt⟩
      simpa using this
    · rename_i m e hu
      simp only [Bool.and_eq_true] at ht
      have hsz := Nat.eq_of_beq_eq_true ht.2
      obtain ⟨xs, f', rfl, _, hl, hxl, hx⟩ := DataW.trod_array hu h
      have := arr_rep (enc := enc) (base := base) (spare := spare) (held := held) n f' (fun T t cs d ps h1 h2 => trod_rep n f' T t cs d ps h1 h2) cs e m 0 t ht.1 (by rw [hl, hsz]; simp) fun k _ hk => by
        have hk' : k < xs.length := by omega
        exact ⟨xs[k], by rw [hx k (by omega)]; exact List.getElem?_eq_getElem hk'⟩
      simpa using this
    · simp at ht
end
end
end Go.VI
namespace Go.VI
noncomputable section
open Go.RowKit
def isAggT (P : Program) (T : TypeId) : Bool :=
  match P.underlying T with
  | some (.struct _) | some (.array _ _) => true
  | _ => false
def dataAs (P : Program) (n : Nat) : List TypeId → List ATy → Bool
  | [], [] => true
  | T :: Ts, .data g t :: As => (g == isAggT P T) && hasTy P n T t && dataAs P n Ts As
  | _, _ => false
def WfA : (As : List ATy) → denA As → Prop
  | [], _ => True
  | .data _ t :: r, x => Wf t x.1 ∧ WfA r x.2
  | .ptr t :: r, x => Wf t x.1 ∧ WfA r x.2
  | .clo _ _ :: r, x => WfA r x.2
  | .lrow _ t _ :: r, x => Wf t x.1 ∧ WfA r x.2
  | .lptr t :: r, x => Wf t x.1 ∧ WfA r x.2
section
variable {H : Type} {enc : TypeId × Value → H} {P : Program} {w : World} {base base' : Nat} {spare : Nat → Bool} {held : Bool} {r : Reach}
theorem val_form {n : Nat} {T : TypeId} {t : Ty} {v : Value} (ht : hasTy P n T t = true) (hok : Value.okWide P w r base T v) : v = mkVal (isAggT P T) v.cells.toList ∧ (isAggT P T = false → v.cells.toList.length = 1) := by
  cases n with
  | zero => simp [hasTy] at ht
  | succ n =>
    have one : isAggT P T = false → Cell.okWide P w r base T v → v.cells = #[v] := by
      intro hg hc
      cases v <;> first | rfl | skip
      all_goals
        exfalso
        unfold Cell.okWide Cell.ok at hc
        simp only [hasTy] at ht
        cases hu : P.underlying T with
        | none => rw [hu] at hc; simp at hc
        | some d => rw [hu] at hc ht; cases d <;> simp_all
    unfold Value.okWide at hok
    cases hu : P.underlying T with
    | none => simp [hasTy, hu] at ht
    | some d =>
      rw [hu] at hok
      have hg : isAggT P T = match (some d : Option TypeDesc) with | some (.struct _) | some (.array _ _) => true | _ => false := by unfold isAggT; rw [hu]
      cases d
      case struct fs =>
        obtain ⟨cs, rfl, _, _⟩ := hok
        rw [hg]
        exact ⟨rfl, fun hh => by cases hh⟩
      case array m e =>
        obtain ⟨cs, rfl, _, _⟩ := hok
        rw [hg]
        exact ⟨rfl, fun hh => by cases hh⟩
      all_goals
        have hf : isAggT P T = false := hg
        have := one hf hok
        rw [this, hf]
        exact ⟨rfl, fun _ => rfl⟩
theorem open_args {G : World → Prop} {n : Nat} : ∀ (Ts : List TypeId) (As : List ATy) (vs : List Value) (ds : List (DataW H)) (ps : List MemPlace), dataAs P n Ts As = true → DataW.TrodAll enc P w base spare held Ts vs ds ps →
 (∀ (j : Nat) T v, Ts[j]? = some T → vs[j]? = some v → Value.okWide P w r base' T v) → ∃ xs : denA As, RelArgs P G (InW w) w As xs vs ∧ WfA As xs
  | [], [], vs, ds, ps, _, h, _ => by
    cases vs with
    | nil => exact ⟨(), rfl, trivial⟩
    | cons v vs => cases ds <;> exact h.elim
  | [], _ :: _, vs, ds, ps, hd, _, _ => by simp [dataAs] at hd
  | T :: Ts, [], vs, ds, ps, hd, _, _ => by simp [dataAs] at hd
  | T :: Ts, .ptr t :: As, vs, ds, ps, hd, _, _ => by simp [dataAs] at hd
  | T :: Ts, .clo a b :: As, vs, ds, ps, hd, _, _ => by simp [dataAs] at hd
  | T :: Ts, .lrow g t es :: As, vs, ds, ps, hd, _, _ => by simp [dataAs] at hd
  | T :: Ts, .lptr t :: As, vs, ds, ps, hd, _, _ => by simp [dataAs] at hd
  | T :: Ts, .data g t :: As, vs, ds, ps, hd, h, hok => by
    simp only [dataAs, Bool.and_eq_true, beq_iff_eq] at hd
    obtain ⟨⟨hg, ht⟩, hd⟩ := hd
    cases vs with
    | nil => cases ds <;> exact h.elim
    | cons v vs =>
      cases ds with
      | nil => exact h.elim
      | cons d ds =>
        obtain ⟨p, q, ⟨fuel, h1⟩, h2, _⟩ := h
        obtain ⟨x, hx, wx⟩ := trod_rep n fuel T t _ d p ht h1
        obtain ⟨xs, hxs, wxs⟩ := open_args (G := G) Ts As vs ds q hd h2 fun j T' v' hj hv => hok (j + 1) T' v' (by simpa using hj) (by simpa using hv)
        obtain ⟨e1, e2⟩ := val_form ht (hok 0 T v rfl rfl)
        subst hg
        exact ⟨(x, xs), ⟨v.cells.toList, vs, by rw [← e1], e2, hx, hxs⟩, wx, wxs⟩
end
end
end Go.VI
namespace Go.VI
open Go.RowKit
theorem law_calls {H : Type} {enc : TypeId × Value → H} {P : Program} {G : World → Prop} {f : FuncId} {fn : Func} {c : Code} {As : List ATy} {F : denA As → Option (denL [(false, .bool)])} {W : World} {spare : Nat → Bool} {held : Bool} {base base' n : Nat} {r : Reach}
 {args : Array Value} {ds : List (DataW H)} {ps : List MemPlace} (hs : Sound P G f ⟨As, [(false, .bool)], [], F⟩) (hf : P.funcs[f]? = some fn) (hb : fn.body = some c) (hn : (fn.name == "runtime.NumGoroutine") = false)
 (hd : dataAs P n fn.params.toList As = true) (hG : G W) (hA : DataW.TrodAll enc P W base spare held fn.params.toList args.toList ds ps)
 (hok : ∀ (j : Nat) t v, fn.params[j]? = some t → args[j]? = some v → Value.okWide P W r base' t v)
 (hF : ∀ xs, WfA As xs → F xs = some (true, ())) : Calls P f args W fun e W' => e = .returned (.bool true) ∧ Go.RowKit.Below W.heap.size W W' := by
  obtain ⟨xs, hxs, wxs⟩ := open_args (G := G) (n := n) fn.params.toList As args.toList ds ps hd hA (fun j T v hj hv => hok j T v (by simpa using hj) (by simpa using hv))
  have h := hs W (InW W) args.toList xs (true, ()) hG (fun g hg => hg) hxs (hF xs wxs)
  have hn' : ¬ fn.name = "runtime.NumGoroutine" := by simpa using hn
  have hrun : (callFunc f args).run P W = .ok (.enter f args) W := by simp [callFunc, program, Sem.run, hf, hb, hn']
  rcases h with ⟨v, w', h1, _⟩ | ⟨_, h2⟩
  · simp only [Array.toArray_toList] at h1
    rw [hrun] at h1
    cases h1
  · simp only [Array.toArray_toList] at h2
    refine h2.mono ?_
    rintro e W' ⟨v, rfl, Z', us, rfl, hbel, _, _, ⟨g, hl, hcell, _⟩⟩
    refine ⟨?_, hbel.toRow⟩
    have hc := (hcell 0 (false, [.flat (.bool true)]) rfl)
    obtain ⟨k1, _, k3⟩ := hc
    have k3 := k3 0 _ rfl
    have hl : us.length = 1 := hl
    match us, hl with
    | [u], _ =>
      simp only [List.getElem?_cons_zero, Option.some.injEq] at k1
      have hu : g 0 0 = .bool true := k3.2
      rw [k1]
      simp [mkRes, mkVal, List.range_succ, hu]
theorem trodAll_below {H : Type} {enc : TypeId × Value → H} {P : Program} {W W' : World} (hl : laidOutB P = true) (hb : Go.RowKit.Below W.heap.size W W') : ∀ (Ts : List TypeId) (vs : List Value) (ds : List (DataW H)) (ps : List MemPlace),
 (Ts.all fun T => P.readableRec T && decide (T < P.types.size)) = true → DataW.TrodAll enc P W 0 (fun _ => true) true Ts vs ds ps → (∀ x ∈ ps, x.block < W.heap.size) →
 DataW.TrodAll enc P W' 0 (fun b => decide (b < W.heap.size)) true Ts vs ds ps
  | [], [], [], ps, _, h, _ => h
  | [], _ :: _, _, ps, _, h, _ => by cases h
  | [], [], _ :: _, ps, _, h, _ => by cases h
  | T :: Ts, [], ds, ps, _, h, _ => by cases ds <;> cases h
  | T :: Ts, v :: vs, [], ps, _, h, _ => by cases h
  | T :: Ts, v :: vs, d :: ds, ps, hT, h, hlt => by
    simp only [List.all_cons, Bool.and_eq_true, decide_eq_true_eq] at hT
    obtain ⟨p, q, h1, h2, rfl⟩ := h
    exact ⟨p, q, Below.trod hl hT.1.1 hT.1.2 h1 hb fun x hx => hlt x (by simp [hx]), trodAll_below hl hb Ts vs ds q hT.2 h2 fun x hx => hlt x (by simp [hx]), rfl⟩
end Go.VI
