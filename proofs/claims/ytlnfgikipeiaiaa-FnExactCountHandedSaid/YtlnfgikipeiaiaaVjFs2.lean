/- The forms of n parts, by a walk: the walk of the step. -/
import Derived.Test.YtlnfgikipeiaiaaVjDd
namespace Go.VI
open Go.Proofs Go.RowKit
set_option maxRecDepth 100000
theorem box3 {w : World} {b t : Nat} {a0 a1 a2 : Value} (h : w.heap[b]? = some (.cells #[a0, a1, a2] t (0, 0))) :
    (w.cell? ⟨b, 0, none⟩ = some a0 ∧ w.cell? ⟨b, 1, none⟩ = some a1 ∧ w.cell? ⟨b, 2, none⟩ = some a2) := by
  refine ⟨?_, ?_, ?_⟩ <;> simp [World.cell?, h]
theorem row_cells {w : World} {B : Nat} {A : Option Addr} {n c : Nat} {l : List DA3} (h : OwnV (fun _ => False) w B 42 A3ty (.slice A n c) l) {i : Nat} {d : DA3} (hi : l[i]? = some d) : ∃ g, A = some ⟨g, 0, none⟩ ∧
    w.cell? ⟨g, i * 3, none⟩ = some (.int .i64 d.1) ∧ w.cell? ⟨g, i * 3 + 1, none⟩ = some (.int .i64 d.2.1) ∧ w.cell? ⟨g, i * 3 + 2, none⟩ = some (.int .i64 d.2.2.1) := by
  have hr : RepI (fun _ => True) w (.sl A3ty) l [.slice A n c] := h.reads _ (fun _ h => h.elim) fun _ _ => trivial
  obtain ⟨_, xs, ho, _⟩ := h
  rcases ho.2 with ⟨e, h0⟩ | ⟨g, cap, cur, fz, e, _⟩
  · have : l = [] := List.length_eq_zero_iff.1 h0
    subst this
    simp at hi
  · obtain ⟨rfl, _⟩ : A = some ⟨g, 0, none⟩ ∧ n = l.length ∧ c = cap := by simpa using e
    have hc := read3 hr
    have e0 := hc (i * 3 + 0) _ (by rw [enc3_at hi 0 (by decide)]; rfl)
    have e1 := hc (i * 3 + 1) _ (by rw [enc3_at hi 1 (by decide)]; rfl)
    have e2 := hc (i * 3 + 2) _ (by rw [enc3_at hi 2 (by decide)]; rfl)
    rw [Addr.add_lit, Nat.zero_add] at e0 e1 e2
    exact ⟨g, rfl, e0, e1, e2⟩
theorem keepB {w5 U w6 : World} {o : Obj} (hb : Below U.heap.size U w6) (hU : U.heap = w5.heap.push o) : w6.heap[w5.heap.size]? = some o := by
  rw [hb.block _ (by rw [hU]; simp), hU]
  simp
set_option maxHeartbeats 4000000 in
theorem forms_step {n : Nat} (hn : 1 ≤ n ∧ n ≤ 100) {V : FormV} {L : List DHeap} (hrec : ∀ U : World, Calls Try.prog 17 #[.int .i64 n] U fun e w' => ∃ v gs, e = .returned v ∧ Below U.heap.size U w' ∧ DeepH w' U.heap.size 35 42 v gs ∧ gs.map HE.heap = L)
    (S : StepOK V L) (hne : V.cands L ≠ []) {Pc : DHeap → Prop} {cmp : DHeap → DHeap → Int} {sm : DHeap → DHeap → Bool} (O : OrdOK Pc cmp sm) (hP : ∀ h ∈ V.cands L, Pc h) (W : World) :
    Calls Try.prog 17 #[.int .i64 ((n + 1 : Nat) : Int)] W fun e w' => ∃ v hs hs2, e = .returned v ∧ Below W.heap.size W w' ∧ DeepH w' W.heap.size 35 42 v hs2 ∧ hs.map HE.heap = V.cands L ∧ SortedOf cmp sm hs hs2 := by
  have h1 : ¬ (((n + 1 : Nat) : Int) = 1) := by omega
  have hsub : IntKind.i64.wrap (((n + 1 : Nat) : Int) - 1) = (n : Int) := by rw [show ((n + 1 : Nat) : Int) - 1 = (n : Int) by omega]; exact IntWalk.i64_in _ (by omega)
  have hrec0 := hrec (W.alloc (.cells #[] 35))
  have hpost : ∀ (w2 : World) (v : Value) (gs : List HE), Below (W.alloc (.cells #[] 35)).heap.size (W.alloc (.cells #[] 35)) w2 → DeepH w2 (W.alloc (.cells #[] 35)).heap.size 35 42 v gs → gs.map HE.heap = L →
      ∃ A c, v = .slice A L.length c ∧ LoopF W w2 (.slice (some ⟨W.heap.size, 0, none⟩) 0 0) [] (.slice A L.length c) gs [] := fun w2 v gs hb hd hm => by
    have hl : gs.length = L.length := by have := congrArg List.length hm; simpa using this
    have sA := alloc_size W (.cells #[] 35)
    obtain ⟨A, c, hv⟩ : ∃ A c, v = .slice A L.length c := by
      rw [← hl]
      rcases hd.outer.2 with ⟨rfl, h0⟩ | ⟨g, c, cur, rfl, _⟩
      · exact ⟨none, 0, by rw [h0]⟩
      · exact ⟨_, _, rfl⟩
    subst hv
    refine ⟨A, c, rfl, belowThen (belowAlloc W _) hb, DeepH.nil ⟨rfl, .inr ⟨W.heap.size, 0, #[], rfl, Nat.le_refl _, belowBlock (alloc_at _ _) hb, Nat.le_refl _, by decide, rfl, rfl⟩⟩, hd.rebase (by omega), fun g hg hZ => ?_, fun b o hm => by cases hm⟩
    have := (ZH.lt hd g hZ).1
    have e : W.heap.size = g := Option.some.inj hg
    omega
  clear hrec
  go_enter Try.func17, Try.ntmps17
  go_wp2_with (go_at_call 17; refine hrec0.mono ?_; rintro e w2 ⟨v, gs, rfl, hb2, hd2, hm⟩; obtain ⟨A, c, rfl, hl0⟩ := hpost w2 v gs hb2 hd2 hm)
  clear hrec0 hpost hsub h1
  go_loopg [3, 21] L.length (fun m v3 v21 wr => ∃ (i : Nat) (hs : List HE), i ≤ L.length ∧ m = L.length - i ∧ v21 = .int .i64 i ∧ LoopF W wr v3 hs (.slice A L.length c) gs [] ∧ hs.map HE.heap = V.cands (L.take i) ∧ hs.length ≤ i * 60)
  case atStart => exact ⟨0, [], Nat.zero_le _, rfl, rfl, hl0, rfl, Nat.le_refl _⟩
  case round =>
    obtain ⟨i, hs, hi, rfl, rfl, hl, hq, hlen⟩ := hrel
    clear hl0 hb2 hd2
    obtain ⟨wA, hwA⟩ : ∃ x, x = wr := ⟨wr, rfl⟩
    subst hwA
    by_cases hin : i < L.length
    · have hgl : gs.length = L.length := by have := congrArg List.length hm; simpa using this
      obtain ⟨a, ha⟩ : ∃ a, gs[i]? = some a := ⟨gs[i], List.getElem?_eq_getElem (by omega)⟩
      have hLi : L[i]? = some a.heap := by rw [← hm]; simp [ha]
      have hmem : a.heap ∈ L := List.mem_of_getElem? hLi
      have hc10 : a.cells.length ≤ 10 := S.small.2 _ hmem
      have hi10 : L.length ≤ 10 := S.small.1
      obtain ⟨g, c', hv, x0, x1, x2, x3⟩ := heap_cells hl.list ha
      obtain rfl : A = some ⟨g, 0, none⟩ := by simp only [Value.slice.injEq] at hv; exact hv.1
      obtain ⟨ra, rc, hav⟩ : ∃ ra rc, a.v = .slice ra a.cells.length rc := by
        obtain ⟨x, y, e⟩ := (hl.list.inner i a ha).slice1
        exact ⟨x, y, e⟩
      rw [hav] at x3
      have hltI : (i : Int) < (L.length : Int) := by omega
      have hl1 := hl.alloc (.cells #[.int .i64 a.x, .int .i64 a.y, .int .i64 a.z, .slice ra a.cells.length rc] 35)
      clear hv
      go_wp2
      clear x0 x1 x2 x3
      go_loopg [3, 28] a.cells.length (fun m v3 v28 wr2 => ∃ (j : Nat) (hs2 : List HE), j ≤ a.cells.length ∧ m = a.cells.length - j ∧ v28 = .int .i64 j ∧ LoopF W wr2 v3 hs2 (.slice (some ⟨g, 0, none⟩) L.length c) gs [(wA.heap.size, .cells #[.int .i64 a.x, .int .i64 a.y, .int .i64 a.z, .slice ra a.cells.length rc] 35)] ∧ hs2.map HE.heap = V.cands (L.take i) ++ V.candH a.cells j ∧ hs2.length ≤ i * 60 + j * 6)
      case atStart => exact ⟨0, hs, Nat.zero_le _, rfl, rfl, hl1, by rw [hq]; simp [FormV.candH], by omega⟩
      case round =>
        obtain ⟨j, hs2, hj, rfl, rfl, hl2, hq2, hlen2⟩ := hrel
        clear hl1
        obtain ⟨wB, hwB⟩ : ∃ x, x = wr := ⟨wr, rfl⟩
        subst hwB
        by_cases hjn : j < a.cells.length
        · obtain ⟨d, hd⟩ : ∃ d, a.cells[j]? = some d := ⟨a.cells[j], List.getElem?_eq_getElem hjn⟩
          have hdm : d ∈ a.cells := List.mem_of_getElem? hd
          obtain ⟨gr, hra, y0, y1, y2⟩ := row_cells (hav ▸ hl2.list.inner i a ha) hd
          subst hra
          have hltJ : (j : Int) < (a.cells.length : Int) := by omega
          have hl3 := hl2.alloc (.cells #[.int .i64 d.1, .int .i64 d.2.1, .int .i64 d.2.2.1] 42)
          go_wp2
          clear y0 y1 y2
          go_loopg [3, 32] 6 (fun m v3 v32 wr3 => ∃ (f : Nat) (hs3 : List HE), f ≤ 6 ∧ m = 6 - f ∧ v32 = .int .i64 f ∧ LoopF W wr3 v3 hs3 (.slice (some ⟨g, 0, none⟩) L.length c) gs [(wB.heap.size, .cells #[.int .i64 d.1, .int .i64 d.2.1, .int .i64 d.2.2.1] 42), (wA.heap.size, .cells #[.int .i64 a.x, .int .i64 a.y, .int .i64 a.z, .slice (some ⟨gr, 0, none⟩) a.cells.length rc] 35)] ∧ hs3.map HE.heap = V.cands (L.take i) ++ V.candH a.cells j ++ V.candC a.cells d f ∧ hs3.length ≤ i * 60 + j * 6 + f)
          case atStart => exact ⟨0, hs2, Nat.zero_le _, rfl, rfl, hl3, by rw [hq2]; simp [FormV.candC], by omega⟩
          case round =>
            obtain ⟨f, hs3, hf, rfl, rfl, hl4, hq3, hlen3⟩ := hrel
            clear hl3
            obtain ⟨wC, hwC⟩ : ∃ x, x = wr := ⟨wr, rfl⟩
            subst hwC
            by_cases hf6 : f < 6
            · have hltF : (f : Int) < 6 := by omega
              obtain ⟨z0, z1, z2⟩ := box3 (hl4.boxes _ _ (List.mem_cons_self ..)).2.1
              have B5 := (hl4.boxes _ _ (List.mem_cons_of_mem _ (List.mem_cons_self ..))).2.1
              have hbe := c_beyond (W := wC) (S.bey _ hmem d hdm f hf6)
              have hhas : ∀ U, Below wC.heap.size wC U → Calls Try.prog 34 #[.slice (some ⟨gr, 0, none⟩) a.cells.length rc, a3V (V.bey d f)] U fun e' w' => e' = .returned (.bool (V.has a.cells (V.bey d f))) ∧ Below U.heap.size U w' := fun U hU => by
                have hin := (hl4.call hU).list.inner i a ha
                rw [hav] at hin
                exact c_has (Z := fun q => (Value.slice (some ⟨gr, 0, none⟩) a.cells.length rc).ownBlock = some q) (fun q hq => (hin.lt q hq).2) (hin.reads _ (fun _ hz => hz.elim) fun q hq => hq) (S.has _ hmem d hdm f hf6)
              obtain ⟨d2, hd2⟩ : ∃ d2, V.bey d f = d2 := ⟨_, rfl⟩
              obtain ⟨b, hb⟩ : ∃ b, V.has a.cells (V.bey d f) = b := ⟨_, rfl⟩
              rw [hb, hd2] at hhas
              rw [hd2] at hbe
              unfold a3V at hbe hhas
              go_wp2_with (first
                | (go_at_call 33; refine hbe.mono ?_; rintro e w4 ⟨rfl, hb4⟩; have k3 := fun o => (box4 (blockA (belowBlock B5 hb4) o)).2.2.2)
                | (go_at_call 34; refine (hhas _ (belowA hb4 _)).mono ?_; rintro e w5 ⟨rfl, hb5⟩))
              · have hb' : V.has a.cells (V.bey d f) = false := by rw [hb]; cases b <;> simp_all
                have hl5 := (((hl4.call hb4).alloc _).less).call hb5
                have B9 := belowBlock (alloc_at w4 _) hb5
                have B5' := (hl5.boxes _ _ (List.mem_cons_of_mem _ (List.mem_cons_self ..))).2.1
                have hhof := S.hof _ hmem d hdm f hf6 hb'
                obtain ⟨T, gf, cf, bf, cm, hform, hformv⟩ := S.frm _ hmem d hdm f hf6 hb'
                change P_impl_heapOf (a.cells ++ [V.bey d f], ()) = some (V.hof (a.cells ++ [V.bey d f]), ()) at hhof
                change FormOK (V.hof (a.cells ++ [V.bey d f])) T gf cf bf cm at hform
                change formOf T.length cf cm = V.frm (V.hof (a.cells ++ [V.bey d f])) at hformv
                rw [hd2] at hhof hform hformv
                obtain ⟨G, hG⟩ : ∃ G, V.hof (a.cells ++ [d2]) = G := ⟨_, rfl⟩
                obtain ⟨F, hF⟩ : ∃ F, V.frm G = F := ⟨_, rfl⟩
                rw [hG] at hhof hform hformv
                rw [hF] at hformv
                obtain ⟨i0, hi0, hz0, hz1, hz2⟩ := info_parts info35
                obtain ⟨i3, hi3, hz30, hz31, hz32⟩ := info_parts info42
                have hin := hl5.list.inner i a ha
                rw [hav] at hin
                have hrr : RepI (fun q => (Value.slice (some ⟨gr, 0, none⟩) a.cells.length rc).ownBlock = some q) w5 (.sl A3ty) a.cells [.slice (some ⟨gr, 0, none⟩) a.cells.length rc] := hin.reads _ (fun _ hz => hz.elim) fun q hq => hq
                have hzr : ∀ q, (Value.slice (some ⟨gr, 0, none⟩) a.cells.length rc).ownBlock = some q → q < w5.heap.size := fun q hq => (hin.lt q hq).2
                have hln : a.cells.length ≤ 1000 := by omega
                obtain ⟨m0, m1, m2⟩ := box3 B9
                have n3 := (box4 B5').2.2.2
                have n3' := fun o => (box4 (blockA B5' o)).2.2.2
                have szW := hl5.below.size
                clear hin hhas hbe hb4 hb5 k3 z0 z1 z2 B5 hl4
                go_wp2
                go_region_law (first
                  | (refine step_is rfl (wp_call2 (run_callf (f := 35) rfl) (f_clone (w5 := w5) hzr hrr hln (by (repeat (first | exact Below.refl _ _ | apply belowD | apply belowA)))) ?_); rintro v46 w6 ⟨vx, vy, rfl, hb6, hB6, ho6⟩; obtain ⟨r0, r1, r2⟩ := box3 (belowBlock B9 hB6))
                  | (refine step_is rfl (wp_append_own2 _ (.tmp 46) (.tmp 48) 33 33 rfl w5.heap.size 42 i3 (.agg #[.int .i64 0, .int .i64 0, .int .i64 0]) 3 24 Try.underlying33 hi3 hz30 hz31 hz32 rfl (.slice vx a.cells.length vy) a.cells.length (enc3 a.cells) rfl (by first | exact ho6 | exact World.ownsRow.alloc ho6 _) (.slice (some ⟨_, 0, none⟩) 1 1) 1 [.int .i64 d2.1, .int .i64 d2.2.1, .int .i64 d2.2.2.1] rfl (src3 (by first | exact alloc_at _ _ | exact keepB hb6 rfl)) (by unfold maxLen; omega) (by omega) (by first | exact hB6.size | exact (belowA hB6 _).size) ?_); intro v49 w7 hv7 hgr7 _; have hB7 := after_app (w5 := w5) (v := .slice vx a.cells.length vy) (e := 42) (s := 3) (n := a.cells.length) (xs := enc3 a.cells) (by first | exact hB6 | exact belowA hB6 _) (by first | exact ho6 | exact World.ownsRow.alloc ho6 _) hgr7; have hv8 : w7.ownsRow w5.heap.size 42 3 v49 (a.cells ++ [d2]).length (enc3 (a.cells ++ [d2])) := by (rw [List.length_append, enc3_append]; exact hv7))
                  | (refine step_is rfl (wp_call2 (run_callf (f := 32) rfl) (f_hof hB7 hv8 hhof) ?_); rintro v50 w8 ⟨gx, gn, gy, rfl, hB8, hu8⟩)
                  | (refine step_is rfl (wp_call2 (run_callf (f := 30) rfl) (f_form hB8 hu8 hform hformv) ?_); rintro v51 w9 ⟨fx, fn, fy, rfl, hB9, hu9⟩)
                  | (refine step_is rfl (wp_append_own2 _ (.tmp 43) (.tmp 52) 25 25 rfl W.heap.size 35 i0 (.agg #[.int .i64 0, .int .i64 0, .int .i64 0, .slice none 0 0]) 4 48 Try.underlying25 hi0 hz0 hz1 hz2 rfl u3 hs3.length (encs hs3) rfl ((hl5.call hB9).deep.outer.alloc _) (.slice (some ⟨_, 0, none⟩) 1 1) 1 [.int .i64 F.1, .int .i64 F.2.1, .int .i64 F.2.2.1, .slice fx fn fy] rfl (heap_src w9 _ rfl _ _ _ _ rfl rfl rfl rfl) (by unfold maxLen; omega) (by omega) (by have := hB9.size; rw [alloc_size]; omega) ?_); intro v53 w10 hv10 hgr10 hp10))
                all_goals go_wp2
                all_goals go_roundg (6 - (f + 1))
                all_goals first
                  | omega
                  | (have hmap : (hs3 ++ [(⟨F.1, F.2.1, F.2.2.1, F.2.2.2.1, .slice fx fn fy⟩ : HE)]).map HE.heap = V.cands (L.take i) ++ V.candH a.cells j ++ V.candC a.cells d (f + 1) := by
                      rw [List.map_append, hq3, candC_succ, FormV.cand, if_neg (by rw [hb']; decide), hd2, hG, hF, ← List.append_assoc]
                      rfl
                     have hlen4 : (hs3 ++ [(⟨F.1, F.2.1, F.2.2.1, F.2.2.2.1, .slice fx fn fy⟩ : HE)]).length ≤ i * 60 + j * 6 + (f + 1) := by
                      rw [List.length_append]
                      exact Nat.succ_le_succ hlen3
                     have hpu := hl5.push (a := ⟨F.1, F.2.1, F.2.2.1, F.2.2.2.1, .slice fx fn fy⟩) hB9 hu9 hv10 hgr10 hp10
                     exact ⟨f + 1, _, by omega, rfl, by go_num, hpu, hmap, hlen4⟩)
              · have hb' : V.has a.cells (V.bey d f) = true := by rw [hb]; cases b <;> simp_all
                have hl5 := (((hl4.call hb4).alloc _).less).call hb5
                go_roundg (6 - (f + 1))
                case measure => omega
                case rel => exact ⟨f + 1, hs3, by omega, rfl, by go_num, hl5, by rw [hq3, candC_succ, FormV.cand, if_pos hb']; simp, by omega⟩
            · obtain rfl : f = 6 := by omega
              go_wp2
              go_roundg (a.cells.length - (j + 1))
              case measure => omega
              case rel => exact ⟨j + 1, hs3, by omega, rfl, by go_num, hl4.less, by rw [hq3, candH_succ V _ _ _ hd, List.append_assoc], by omega⟩
        · obtain rfl : j = a.cells.length := by omega
          have hltJ : ¬ ((a.cells.length : Int) < (a.cells.length : Int)) := by omega
          go_wp2
          go_roundg (L.length - (i + 1))
          case measure => omega
          case rel => exact ⟨i + 1, hs2, by omega, rfl, by go_num, hl2.less, hq2.trans (cands_succ V _ _ _ hLi).symm, by omega⟩
    · obtain rfl : i = L.length := by omega
      have hltI : ¬ ((L.length : Int) < (L.length : Int)) := by omega
      have hq' : hs.map HE.heap = V.cands L := by rw [hq, List.take_length]
      obtain ⟨a0, h0⟩ : ∃ a0, a0 ∈ hs := by
        cases hs with
        | nil => exact absurd hq'.symm hne
        | cons x r => exact ⟨x, List.mem_cons_self ..⟩
      have hL10 := S.small.1
      have hso := sorted_calls hl.deep h0 (by omega) (Pc := Pc) (fun x hx => hP _ (hq' ▸ List.mem_map_of_mem hx)) O
      go_wp2_with (go_at_call 36; refine hso.mono ?_; rintro e w3 ⟨v3, hs2, rfl, hf3, hsd, hd3⟩)
      go_ret
      exact ⟨_, hs, hs2, rfl, ⟨hf3.os.trans hl.below.os, hf3.tape.trans hl.below.tape, hf3.output.trans hl.below.output, Nat.le_trans hl.below.size hf3.size, fun k hk => (hf3.block k (Nat.lt_of_lt_of_le hk hl.below.size) fun e => by have := (hl.deep.outer.lt k e).1; omega).trans (hl.below.block k hk), Nat.le_trans hl.below.drawn hf3.drawn⟩, hd3, hq', hsd⟩
end Go.VI
