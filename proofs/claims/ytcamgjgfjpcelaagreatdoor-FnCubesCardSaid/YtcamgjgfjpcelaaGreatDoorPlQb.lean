/- Plain: the law of cubes. -/
import Derived.Test.YtcamgjgfjpcelaaGreatDoorPlDa
namespace Go.VI
open Go.Proofs

/-! ### The neighbors of a part's cells -/
theorem q71 (m0 m1 m2 : Nat) (X Y Z : Int) (l : List D_A3) (ps : List (List D_A3)) (i : Nat) (hi : i < ps.length) (k : Int) (near : List D_A3) (n : Nat) (hn : n < near.length) (hp : ps[i].length ≤ 1000) : ∀ (d j m : Nat) (b : Bool), ps[i].length = j + d → d < m → (b = true ∨ near[n] ∈ ps[i].drop j) →
    l_laws_FnCubes_71 m0 m1 m2 m X Y Z l ps (i : Int) k near (n : Int) b (j : Int) = l_laws_FnCubes_67 m0 m1 m2 X Y Z l ps (i : Int) k near (IntKind.wrap .i64 ((n : Int) + 1))
  | d, j, 0, b, _, h, _ => by omega
  | d, j, m + 1, b, hk, hm, hb => by
    have e : nth ((.sl T_A3) : Ty) ps (i : Int) = ps[i] := nthA (t := .sl T_A3) hi
    rw [q_laws_FnCubes_71, inB_at hi, e]
    simp only [cond_true]
    by_cases hlt : j < ps[i].length
    · rw [ltT hlt]
      simp only [cond_true]
      cases b with
      | true =>
        simp only [cond_true]
        rw [succI j (by omega)]
        exact q71 m0 m1 m2 X Y Z l ps i hi k near n hn hp (d - 1) (j + 1) m true (by omega) (by omega) (.inl rfl)
      | false =>
        simp only [cond_false]
        have en : nth T_A3 near (n : Int) = near[n] := nthA (t := T_A3) hn
        have ep : nth T_A3 ps[i] (j : Int) = ps[i][j] := nthA (t := T_A3) hlt
        rw [inB_at hlt, inB_at hn, en, ep, cell_eq, succI j (by omega)]
        simp only [cond_true]
        refine q71 m0 m1 m2 X Y Z l ps i hi k near n hn hp (d - 1) (j + 1) m _ (by omega) (by omega) ?_
        rcases hb with hb | hb
        · cases hb
        · rw [drop_at _ j hlt] at hb
          rcases List.mem_cons.1 hb with hb | hb
          · exact .inl (decide_eq_true hb.symm)
          · exact .inr hb
    · rw [ltF hlt]
      rcases hb with rfl | hb
      · rfl
      · rw [List.drop_eq_nil_of_le (by omega)] at hb
        cases hb

theorem q67 (m0 m1 : Nat) (X Y Z : Int) (l : List D_A3) (ps : List (List D_A3)) (i : Nat) (hi : i < ps.length) (k : Int) (near : List D_A3) (hp : ps[i].length ≤ 1000) (hl : near.length ≤ 1000) (hin : ∀ x ∈ near, x ∈ ps[i]) : ∀ (d n m : Nat), near.length = n + d → d < m →
    l_laws_FnCubes_67 m0 m1 m X Y Z l ps (i : Int) k near (n : Int) = l_laws_FnCubes_61 m0 m1 X Y Z l ps (i : Int) (IntKind.wrap .i64 (k + 1))
  | d, n, 0, _, h => by omega
  | d, n, m + 1, hk, hm => by
    rw [q_laws_FnCubes_67]
    by_cases hlt : n < near.length
    · rw [ltT hlt]
      simp only [cond_true]
      have := q71 m0 m1 m X Y Z l ps i hi k near n hlt hp ps[i].length 0 N false (by simp) (by have := N_ge; omega) (.inr (by rw [List.drop_zero]; exact hin _ (List.getElem_mem hlt)))
      have this' : l_laws_FnCubes_71 m0 m1 m N X Y Z l ps (i : Int) k near (n : Int) false 0 = _ := this
      rw [this', succI n (by omega)]
      exact q67 m0 m1 X Y Z l ps i hi k near hp hl hin (d - 1) (n + 1) m (by omega) (by omega)
    · rw [ltF hlt]
      rfl

theorem near_ne {l : List D_A3} {c0 : D_A3} {p : List D_A3} (h0 : c0 ∈ l) (hp : ∀ c, c ∈ p ↔ Conn l c0 c) (hr : Srt p) (hlen : 1 < p.length) {c : D_A3} (hc : c ∈ p) : l.filter (nbB c) ≠ [] := by
  intro he
  have hno : ∀ x ∈ l, ¬ nb c x := fun x hx hn => by
    have : x ∈ l.filter (nbB c) := List.mem_filter.2 ⟨hx, (nbB_iff _ _).2 hn⟩
    rw [he] at this
    cases this
  have hc0 := (hp c).1 hc
  have hall : ∀ d, d ∈ p → d = c := fun d hd => by
    have hcd : Conn l c d := Conn.trans (Conn.symm h0 hc0) ((hp d).1 hd)
    exact Rch.of (r := fun d => d = c) (fun x hx => hx) (fun x y hx hn hy => absurd (by rw [← hx]; exact hn) (hno y hy)) hcd
  match p, hlen, hall, hr with
  | a :: b :: r, _, hall, hr =>
    have ha := hall a (by simp)
    have hb := hall b (by simp)
    have := (List.pairwise_cons.1 hr).1 b (by simp)
    rw [ha, hb, ltC_irrefl] at this
    cases this

theorem q61 (m0 : Nat) {h : D_Heap} (hl : Small h.2.2.2.1) (ho : okHeap h = true) (ps : List (List D_A3)) (i : Nat) (hi : i < ps.length) (hp1 : ps[i].length ≤ 1000) (hr : Srt ps[i]) {c0 : D_A3} (h0 : c0 ∈ h.2.2.2.1) (hp : ∀ c, c ∈ ps[i] ↔ Conn h.2.2.2.1 c0 c) : ∀ (d k m : Nat), ps[i].length = k + d → d < m →
    l_laws_FnCubes_61 m0 m h.1 h.2.1 h.2.2.1 h.2.2.2.1 ps (i : Int) (k : Int) = l_laws_FnCubes_58 m0 h.1 h.2.1 h.2.2.1 h.2.2.2.1 ps (IntKind.wrap .i64 ((i : Int) + 1))
  | d, k, 0, _, hh => by omega
  | d, k, m + 1, hk, hm => by
    have e : nth ((.sl T_A3) : Ty) ps (i : Int) = ps[i] := nthA (t := .sl T_A3) hi
    obtain ⟨hs, hin, hrl⟩ := okHeap_iff.1 ho
    have h64 := srt_small64 hs hin hrl
    rw [q_laws_FnCubes_61, inB_at hi, e]
    simp only [cond_true]
    by_cases hlt : k < ps[i].length
    · have hck : ps[i][k] ∈ ps[i] := List.getElem_mem hlt
      have hcl : ps[i][k] ∈ h.2.2.2.1 := Conn.mem h0 ((hp _).1 hck)
      have ep : nth T_A3 ps[i] (k : Int) = ps[i][k] := nthA (t := T_A3) hlt
      have hoc : okCell h ps[i][k] = true := by unfold okCell; rw [ho, hin _ hcl]; rfl
      have hn : P_impl_NearCubes ((h.1, (h.2.1, (h.2.2.1, (h.2.2.2.1, ())))), ps[i][k], ()) = _ := near_impl hl hoc
      rw [ltT hlt, inB_at hlt, ep, hn]
      simp only [cond_true, Option.bind_some, Bool.not_true, cond_false]
      have hnl : (h.2.2.2.1.filter (nbB ps[i][k])).length ≤ 1000 := Nat.le_trans (List.length_filter_le _ _) (by omega)
      have step : l_laws_FnCubes_67 m0 m N h.1 h.2.1 h.2.2.1 h.2.2.2.1 ps (i : Int) (k : Int) (h.2.2.2.1.filter (nbB ps[i][k])) 0 = _ := q67 m0 m h.1 h.2.1 h.2.2.1 h.2.2.2.1 ps i hi (k : Int) _ hp1 hnl (fun x hx => by
        obtain ⟨a, b⟩ := List.mem_filter.1 hx
        exact (hp x).2 (.step ((hp _).1 hck) ((nbB_iff _ _).1 b) a)) (h.2.2.2.1.filter (nbB ps[i][k])).length 0 N (by simp) (by have := N_ge; omega)
      have fin := q61 m0 hl ho ps i hi hp1 hr h0 hp (d - 1) (k + 1) m (by omega) (by omega)
      rw [step, succI k (by omega), fin]
      by_cases h1 : 1 < ps[i].length
      · have hne := near_ne h0 hp hr h1 hck
        have : (h.2.2.2.1.filter (nbB ps[i][k])).length ≠ 0 := fun e0 => hne (List.length_eq_zero_iff.1 e0)
        rw [decide_eq_true (p := ((ps[i].length : Nat) : Int) > 1) (by omega), decide_eq_false (p := (((h.2.2.2.1.filter (nbB ps[i][k])).length : Nat) : Int) = 0) (by omega)]
        rfl
      · rw [decide_eq_false (p := ((ps[i].length : Nat) : Int) > 1) (by omega)]
        rfl
    · rw [ltF hlt]
      rfl

theorem q58 {h : D_Heap} (hl : Small h.2.2.2.1) (ho : okHeap h = true) (ps : List (List D_A3)) (hps : ps.length ≤ 1000) (hg : ∀ p ∈ ps, p.length ≤ 1000 ∧ Srt p ∧ ∃ c0 ∈ h.2.2.2.1, ∀ c, c ∈ p ↔ Conn h.2.2.2.1 c0 c) : ∀ (d i m : Nat), ps.length = i + d → d < m →
    l_laws_FnCubes_58 m h.1 h.2.1 h.2.2.1 h.2.2.2.1 ps (i : Int) = some (true, ())
  | d, i, 0, _, hh => by omega
  | d, i, m + 1, hk, hm => by
    rw [q_laws_FnCubes_58]
    by_cases hlt : i < ps.length
    · obtain ⟨g1, g2, c0, g3, g4⟩ := hg _ (List.getElem_mem hlt)
      have step : l_laws_FnCubes_61 m N h.1 h.2.1 h.2.2.1 h.2.2.2.1 ps (i : Int) 0 = _ := q61 m hl ho ps i hlt g1 g2 g3 g4 ps[i].length 0 N (by simp) (by have := N_ge; omega)
      rw [ltT hlt, step, succI i (by omega)]
      exact q58 hl ho ps hps hg (d - 1) (i + 1) m (by omega) (by omega)
    · rw [ltF hlt]
      rfl

/-! ### The law, from its end -/
theorem t3 (r2 : D_Heap × D_A3 × Unit) (r26 : List (List D_A3) × Bool × Unit) (r33 : List UInt8 × Bool × Unit) (hl : Small r2.1.2.2.2.1) (h26 : r26.2.1 = okHeap r2.1)
    (hg : okHeap r2.1 = true → Pts r2.1.2.2.2.1 r2.1.2.2.2.1 r26.1 ∧ r33.1 = txt r2.1) :
  (bif !r26.2.1 then
    some (true, ())
  else
    Option.bind (P_impl_ParseHeap (r33.1, ())) fun r69 =>
    bif !r69.2.1 then
      some (false, ())
    else
      Option.bind (P_laws_rHeap (r69.1, r2.1, ())) fun r71 =>
      bif !r71.1 then
        some (false, ())
      else
        Option.bind (P_laws_rAll (r26.1, ())) fun r73 =>
        bif !decide (r73.1 = (List.length r2.1.2.2.2.1 : Int)) then
          some (false, ())
        else
          l_laws_FnCubes_58 N r2.1.1 r2.1.2.1 r2.1.2.2.1 r2.1.2.2.2.1 r26.1 0) = some (true, ()) := by
  cases ho : okHeap r2.1 with
  | false =>
    rw [h26, ho]
    rfl
  | true =>
    obtain ⟨hP, ht⟩ := hg ho
    obtain ⟨hs, hin, hr⟩ := okHeap_iff.1 ho
    have h64 := srt_small64 hs hin hr
    have hlen := hP.len 64 h64 hr
    have hsum := hP.sum hr (fun c hc => hc) (fun c _ d hd _ => hd)
    have hgood := hP.good (fun c hc => hc)
    obtain ⟨r, e1, _, e3⟩ := parse_both (txt r2.1) (by unfold Small; have := txt_len ho; omega)
    have e4 := e3.2 r2.1 ho rfl
    have e5 := f_rHeapC r2.1 hl
    have e6 := f_rAll r26.1 (by omega) (by omega)
    have e7 : l_laws_FnCubes_58 N r2.1.1 r2.1.2.1 r2.1.2.2.1 r2.1.2.2.2.1 r26.1 0 = some (true, ()) := q58 hl ho r26.1 (by omega) (fun p hp => by
      obtain ⟨a, c0, b, c⟩ := hgood p hp
      refine ⟨?_, a, c0, b, c⟩
      have := srt_small64 hs (fun x hx => hin x (Conn.mem b ((c x).1 hx))) a
      omega) r26.1.length 0 N (by simp) (by have := N_ge; omega)
    rw [h26, ho, ht, e1, e4]
    simp only [Bool.not_true, cond_false, Option.bind_some]
    rw [e5]
    simp only [Bool.not_true, cond_false, Option.bind_some]
    rw [e6, e7, hsum]
    simp

theorem t2 (r2 r20 : D_Heap × D_A3 × Unit) (r21 : D_Heap × Bool × Unit) (r26 : List (List D_A3) × Bool × Unit) (r33 : List UInt8 × Bool × Unit) (hl : Small r2.1.2.2.2.1) (h26 : r26.2.1 = okHeap r2.1)
    (hg : okHeap r2.1 = true → Pts r2.1.2.2.2.1 r2.1.2.2.2.1 r26.1 ∧ r33.1 = txt r2.1) (hl20 : Small r20.1.2.2.2.1) (h21 : r21.2.1 = true → P_impl_PutCube (r21.1, r20.2.1, ()) = some (r20.1, true, ())) :
  (bif r21.2.1 then
    Option.bind (P_impl_PutCube (r21.1, r20.2.1, ())) fun r64 =>
    bif !r64.2.1 then
      some (false, ())
    else
      Option.bind (P_laws_rHeap (r64.1, r20.1, ())) fun r66 =>
      bif !r66.1 then
        some (false, ())
      else
        bif !r26.2.1 then
          some (true, ())
        else
          Option.bind (P_impl_ParseHeap (r33.1, ())) fun r69 =>
          bif !r69.2.1 then
            some (false, ())
          else
            Option.bind (P_laws_rHeap (r69.1, r2.1, ())) fun r71 =>
            bif !r71.1 then
              some (false, ())
            else
              Option.bind (P_laws_rAll (r26.1, ())) fun r73 =>
              bif !decide (r73.1 = (List.length r2.1.2.2.2.1 : Int)) then
                some (false, ())
              else
                l_laws_FnCubes_58 N r2.1.1 r2.1.2.1 r2.1.2.2.1 r2.1.2.2.2.1 r26.1 0
  else
    bif !r26.2.1 then
      some (true, ())
    else
      Option.bind (P_impl_ParseHeap (r33.1, ())) fun r65 =>
      bif !r65.2.1 then
        some (false, ())
      else
        Option.bind (P_laws_rHeap (r65.1, r2.1, ())) fun r67 =>
        bif !r67.1 then
          some (false, ())
        else
          Option.bind (P_laws_rAll (r26.1, ())) fun r69 =>
          bif !decide (r69.1 = (List.length r2.1.2.2.2.1 : Int)) then
            some (false, ())
          else
            l_laws_FnCubes_58 N r2.1.1 r2.1.2.1 r2.1.2.2.1 r2.1.2.2.2.1 r26.1 0) = some (true, ()) := by
  have e3 := t3 r2 r26 r33 hl h26 hg
  cases hb : r21.2.1 with
  | false => exact e3
  | true =>
    rw [h21 hb]
    simp only [cond_true, Option.bind_some, Bool.not_true, cond_false]
    rw [f_rHeapC r20.1 hl20]
    exact e3

theorem t1 (r2 r20 : D_Heap × D_A3 × Unit) (r7 r21 : D_Heap × Bool × Unit) (r26 : List (List D_A3) × Bool × Unit) (r33 : List UInt8 × Bool × Unit) (hl : Small r2.1.2.2.2.1) (h26 : r26.2.1 = okHeap r2.1)
    (hg : okHeap r2.1 = true → Pts r2.1.2.2.2.1 r2.1.2.2.2.1 r26.1 ∧ r33.1 = txt r2.1) (hl20 : Small r20.1.2.2.2.1) (h21 : r21.2.1 = true → P_impl_PutCube (r21.1, r20.2.1, ()) = some (r20.1, true, ())) (h7 : r7.2.1 = true → P_impl_TakeCube (r7.1, r2.2.1, ()) = some (r2.1, true, ())) :
  (bif r7.2.1 then
    Option.bind (P_impl_TakeCube (r7.1, r2.2.1, ())) fun r59 =>
    bif !r59.2.1 then
      some (false, ())
    else
      Option.bind (P_laws_rHeap (r59.1, r2.1, ())) fun r61 =>
      bif !r61.1 then
        some (false, ())
      else
        bif r21.2.1 then
          Option.bind (P_impl_PutCube (r21.1, r20.2.1, ())) fun r64 =>
          bif !r64.2.1 then
            some (false, ())
          else
            Option.bind (P_laws_rHeap (r64.1, r20.1, ())) fun r66 =>
            bif !r66.1 then
              some (false, ())
            else
              bif !r26.2.1 then
                some (true, ())
              else
                Option.bind (P_impl_ParseHeap (r33.1, ())) fun r69 =>
                bif !r69.2.1 then
                  some (false, ())
                else
                  Option.bind (P_laws_rHeap (r69.1, r2.1, ())) fun r71 =>
                  bif !r71.1 then
                    some (false, ())
                  else
                    Option.bind (P_laws_rAll (r26.1, ())) fun r73 =>
                    bif !decide (r73.1 = (List.length r2.1.2.2.2.1 : Int)) then
                      some (false, ())
                    else
                      l_laws_FnCubes_58 N r2.1.1 r2.1.2.1 r2.1.2.2.1 r2.1.2.2.2.1 r26.1 0
        else
          bif !r26.2.1 then
            some (true, ())
          else
            Option.bind (P_impl_ParseHeap (r33.1, ())) fun r65 =>
            bif !r65.2.1 then
              some (false, ())
            else
              Option.bind (P_laws_rHeap (r65.1, r2.1, ())) fun r67 =>
              bif !r67.1 then
                some (false, ())
              else
                Option.bind (P_laws_rAll (r26.1, ())) fun r69 =>
                bif !decide (r69.1 = (List.length r2.1.2.2.2.1 : Int)) then
                  some (false, ())
                else
                  l_laws_FnCubes_58 N r2.1.1 r2.1.2.1 r2.1.2.2.1 r2.1.2.2.2.1 r26.1 0
  else
    bif r21.2.1 then
      Option.bind (P_impl_PutCube (r21.1, r20.2.1, ())) fun r60 =>
      bif !r60.2.1 then
        some (false, ())
      else
        Option.bind (P_laws_rHeap (r60.1, r20.1, ())) fun r62 =>
        bif !r62.1 then
          some (false, ())
        else
          bif !r26.2.1 then
            some (true, ())
          else
            Option.bind (P_impl_ParseHeap (r33.1, ())) fun r65 =>
            bif !r65.2.1 then
              some (false, ())
            else
              Option.bind (P_laws_rHeap (r65.1, r2.1, ())) fun r67 =>
              bif !r67.1 then
                some (false, ())
              else
                Option.bind (P_laws_rAll (r26.1, ())) fun r69 =>
                bif !decide (r69.1 = (List.length r2.1.2.2.2.1 : Int)) then
                  some (false, ())
                else
                  l_laws_FnCubes_58 N r2.1.1 r2.1.2.1 r2.1.2.2.1 r2.1.2.2.2.1 r26.1 0
    else
      bif !r26.2.1 then
        some (true, ())
      else
        Option.bind (P_impl_ParseHeap (r33.1, ())) fun r61 =>
        bif !r61.2.1 then
          some (false, ())
        else
          Option.bind (P_laws_rHeap (r61.1, r2.1, ())) fun r63 =>
          bif !r63.1 then
            some (false, ())
          else
            Option.bind (P_laws_rAll (r26.1, ())) fun r65 =>
            bif !decide (r65.1 = (List.length r2.1.2.2.2.1 : Int)) then
              some (false, ())
            else
              l_laws_FnCubes_58 N r2.1.1 r2.1.2.1 r2.1.2.2.1 r2.1.2.2.2.1 r26.1 0) = some (true, ()) := by
  have e2 := t2 r2 r20 r21 r26 r33 hl h26 hg hl20 h21
  cases hb : r7.2.1 with
  | false => exact e2
  | true =>
    rw [h7 hb]
    simp only [cond_true, Option.bind_some, Bool.not_true, cond_false]
    rw [f_rHeapC r2.1 hl]
    exact e2

theorem t0 (a0 : List Int) (hC : Bts a0) (r2 r20 : D_Heap × D_A3 × Unit) (r7 r21 : D_Heap × Bool × Unit) (r26 : List (List D_A3) × Bool × Unit) (r33 : List UInt8 × Bool × Unit) (hl : Small r2.1.2.2.2.1) (h26 : r26.2.1 = okHeap r2.1)
    (hg : okHeap r2.1 = true → Pts r2.1.2.2.2.1 r2.1.2.2.2.1 r26.1 ∧ r33.1 = txt r2.1) (hl20 : Small r20.1.2.2.2.1) (h21 : r21.2.1 = true → P_impl_PutCube (r21.1, r20.2.1, ()) = some (r20.1, true, ())) (h7 : r7.2.1 = true → P_impl_TakeCube (r7.1, r2.2.1, ()) = some (r2.1, true, ())) :
  (Option.bind (P_spec_DrawFullHeap (a0, ())) fun r44 =>
  Option.bind (P_impl_FullHeap (r44.1, r44.2.1, r44.2.2.1, ())) fun r45 =>
  Option.bind (P_impl_EmptyHeap (r44.1, r44.2.1, r44.2.2.1, ())) fun r46 =>
  Option.bind (P_spec_FullHeap (r44.1, r44.2.1, r44.2.2.1, ())) fun r47 =>
  bif !(r45.2.1 == r47.2.1) then
    some (false, ())
  else
    bif !(r45.2.1 == r46.2.1) then
      some (false, ())
    else
      Option.bind (P_laws_rHeap (r45.1, r47.1, ())) fun r50 =>
      bif !r50.1 then
        some (false, ())
      else
        bif r45.2.1 then
          Option.bind (P_impl_OtherCells (r45.1, ())) fun r53 =>
          bif !r53.2.1 then
            some (false, ())
          else
            Option.bind (P_laws_rHeap (r53.1, r46.1, ())) fun r55 =>
            bif !r55.1 then
              some (false, ())
            else
              bif !decide ((List.length r45.1.2.2.2.1 : Int) = (IntKind.wrap .i64 ((IntKind.wrap .i64 (r44.1 * r44.2.1)) * r44.2.2.1))) then
                some (false, ())
              else
                bif r7.2.1 then
                  Option.bind (P_impl_TakeCube (r7.1, r2.2.1, ())) fun r59 =>
                  bif !r59.2.1 then
                    some (false, ())
                  else
                    Option.bind (P_laws_rHeap (r59.1, r2.1, ())) fun r61 =>
                    bif !r61.1 then
                      some (false, ())
                    else
                      bif r21.2.1 then
                        Option.bind (P_impl_PutCube (r21.1, r20.2.1, ())) fun r64 =>
                        bif !r64.2.1 then
                          some (false, ())
                        else
                          Option.bind (P_laws_rHeap (r64.1, r20.1, ())) fun r66 =>
                          bif !r66.1 then
                            some (false, ())
                          else
                            bif !r26.2.1 then
                              some (true, ())
                            else
                              Option.bind (P_impl_ParseHeap (r33.1, ())) fun r69 =>
                              bif !r69.2.1 then
                                some (false, ())
                              else
                                Option.bind (P_laws_rHeap (r69.1, r2.1, ())) fun r71 =>
                                bif !r71.1 then
                                  some (false, ())
                                else
                                  Option.bind (P_laws_rAll (r26.1, ())) fun r73 =>
                                  bif !decide (r73.1 = (List.length r2.1.2.2.2.1 : Int)) then
                                    some (false, ())
                                  else
                                    l_laws_FnCubes_58 N r2.1.1 r2.1.2.1 r2.1.2.2.1 r2.1.2.2.2.1 r26.1 0
                      else
                        bif !r26.2.1 then
                          some (true, ())
                        else
                          Option.bind (P_impl_ParseHeap (r33.1, ())) fun r65 =>
                          bif !r65.2.1 then
                            some (false, ())
                          else
                            Option.bind (P_laws_rHeap (r65.1, r2.1, ())) fun r67 =>
                            bif !r67.1 then
                              some (false, ())
                            else
                              Option.bind (P_laws_rAll (r26.1, ())) fun r69 =>
                              bif !decide (r69.1 = (List.length r2.1.2.2.2.1 : Int)) then
                                some (false, ())
                              else
                                l_laws_FnCubes_58 N r2.1.1 r2.1.2.1 r2.1.2.2.1 r2.1.2.2.2.1 r26.1 0
                else
                  bif r21.2.1 then
                    Option.bind (P_impl_PutCube (r21.1, r20.2.1, ())) fun r60 =>
                    bif !r60.2.1 then
                      some (false, ())
                    else
                      Option.bind (P_laws_rHeap (r60.1, r20.1, ())) fun r62 =>
                      bif !r62.1 then
                        some (false, ())
                      else
                        bif !r26.2.1 then
                          some (true, ())
                        else
                          Option.bind (P_impl_ParseHeap (r33.1, ())) fun r65 =>
                          bif !r65.2.1 then
                            some (false, ())
                          else
                            Option.bind (P_laws_rHeap (r65.1, r2.1, ())) fun r67 =>
                            bif !r67.1 then
                              some (false, ())
                            else
                              Option.bind (P_laws_rAll (r26.1, ())) fun r69 =>
                              bif !decide (r69.1 = (List.length r2.1.2.2.2.1 : Int)) then
                                some (false, ())
                              else
                                l_laws_FnCubes_58 N r2.1.1 r2.1.2.1 r2.1.2.2.1 r2.1.2.2.2.1 r26.1 0
                  else
                    bif !r26.2.1 then
                      some (true, ())
                    else
                      Option.bind (P_impl_ParseHeap (r33.1, ())) fun r61 =>
                      bif !r61.2.1 then
                        some (false, ())
                      else
                        Option.bind (P_laws_rHeap (r61.1, r2.1, ())) fun r63 =>
                        bif !r63.1 then
                          some (false, ())
                        else
                          Option.bind (P_laws_rAll (r26.1, ())) fun r65 =>
                          bif !decide (r65.1 = (List.length r2.1.2.2.2.1 : Int)) then
                            some (false, ())
                          else
                            l_laws_FnCubes_58 N r2.1.1 r2.1.2.1 r2.1.2.2.1 r2.1.2.2.2.1 r26.1 0
        else
          bif r7.2.1 then
            Option.bind (P_impl_TakeCube (r7.1, r2.2.1, ())) fun r54 =>
            bif !r54.2.1 then
              some (false, ())
            else
              Option.bind (P_laws_rHeap (r54.1, r2.1, ())) fun r56 =>
              bif !r56.1 then
                some (false, ())
              else
                bif r21.2.1 then
                  Option.bind (P_impl_PutCube (r21.1, r20.2.1, ())) fun r59 =>
                  bif !r59.2.1 then
                    some (false, ())
                  else
                    Option.bind (P_laws_rHeap (r59.1, r20.1, ())) fun r61 =>
                    bif !r61.1 then
                      some (false, ())
                    else
                      bif !r26.2.1 then
                        some (true, ())
                      else
                        Option.bind (P_impl_ParseHeap (r33.1, ())) fun r64 =>
                        bif !r64.2.1 then
                          some (false, ())
                        else
                          Option.bind (P_laws_rHeap (r64.1, r2.1, ())) fun r66 =>
                          bif !r66.1 then
                            some (false, ())
                          else
                            Option.bind (P_laws_rAll (r26.1, ())) fun r68 =>
                            bif !decide (r68.1 = (List.length r2.1.2.2.2.1 : Int)) then
                              some (false, ())
                            else
                              l_laws_FnCubes_58 N r2.1.1 r2.1.2.1 r2.1.2.2.1 r2.1.2.2.2.1 r26.1 0
                else
                  bif !r26.2.1 then
                    some (true, ())
                  else
                    Option.bind (P_impl_ParseHeap (r33.1, ())) fun r60 =>
                    bif !r60.2.1 then
                      some (false, ())
                    else
                      Option.bind (P_laws_rHeap (r60.1, r2.1, ())) fun r62 =>
                      bif !r62.1 then
                        some (false, ())
                      else
                        Option.bind (P_laws_rAll (r26.1, ())) fun r64 =>
                        bif !decide (r64.1 = (List.length r2.1.2.2.2.1 : Int)) then
                          some (false, ())
                        else
                          l_laws_FnCubes_58 N r2.1.1 r2.1.2.1 r2.1.2.2.1 r2.1.2.2.2.1 r26.1 0
          else
            bif r21.2.1 then
              Option.bind (P_impl_PutCube (r21.1, r20.2.1, ())) fun r55 =>
              bif !r55.2.1 then
                some (false, ())
              else
                Option.bind (P_laws_rHeap (r55.1, r20.1, ())) fun r57 =>
                bif !r57.1 then
                  some (false, ())
                else
                  bif !r26.2.1 then
                    some (true, ())
                  else
                    Option.bind (P_impl_ParseHeap (r33.1, ())) fun r60 =>
                    bif !r60.2.1 then
                      some (false, ())
                    else
                      Option.bind (P_laws_rHeap (r60.1, r2.1, ())) fun r62 =>
                      bif !r62.1 then
                        some (false, ())
                      else
                        Option.bind (P_laws_rAll (r26.1, ())) fun r64 =>
                        bif !decide (r64.1 = (List.length r2.1.2.2.2.1 : Int)) then
                          some (false, ())
                        else
                          l_laws_FnCubes_58 N r2.1.1 r2.1.2.1 r2.1.2.2.1 r2.1.2.2.2.1 r26.1 0
            else
              bif !r26.2.1 then
                some (true, ())
              else
                Option.bind (P_impl_ParseHeap (r33.1, ())) fun r56 =>
                bif !r56.2.1 then
                  some (false, ())
                else
                  Option.bind (P_laws_rHeap (r56.1, r2.1, ())) fun r58 =>
                  bif !r58.1 then
                    some (false, ())
                  else
                    Option.bind (P_laws_rAll (r26.1, ())) fun r60 =>
                    bif !decide (r60.1 = (List.length r2.1.2.2.2.1 : Int)) then
                      some (false, ())
                    else
                      l_laws_FnCubes_58 N r2.1.1 r2.1.2.1 r2.1.2.2.1 r2.1.2.2.2.1 r26.1 0) = some (true, ()) := by
  have e1 := t1 r2 r20 r7 r21 r26 r33 hl h26 hg hl20 h21 h7
  obtain ⟨X, Y, Z, d1⟩ := d_FullHeap hC
  obtain ⟨f, e, f1, f2, f3, f4, f5, f6⟩ := full_three X Y Z
  rw [d1]
  simp only [Option.bind_some]
  rw [f1, f2, f3]
  simp only [Option.bind_some, beq_self_eq_true, Bool.not_true, cond_false]
  rw [f_rHeapC f f4]
  simp only [Option.bind_some, Bool.not_true, cond_false]
  cases hs : sides X Y Z with
  | false => exact e1
  | true =>
    obtain ⟨g1, g2⟩ := f6 hs
    rw [g1]
    simp only [cond_true, Option.bind_some, Bool.not_true, cond_false]
    rw [f_rHeapC e f5, decide_eq_true g2]
    exact e1

theorem tM (a0 : List Int) (hC : Bts a0) (r2 : D_Heap × D_A3 × Unit) (r3 : Bool × Bool × Unit) (r7 r8 : D_Heap × Bool × Unit) (hl : Small r2.1.2.2.2.1) (h78 : r7 = r8) (hl7 : Small r7.1.2.2.2.1) (h3 : r3.2.1 = okCell r2.1 r2.2.1) (h7 : r7.2.1 = true → P_impl_TakeCube (r7.1, r2.2.1, ()) = some (r2.1, true, ())) :
  (Option.bind (P_laws_rHeap (r7.1, r8.1, ())) fun r12 =>
  bif !r12.1 then
    some (false, ())
  else
    Option.bind (P_impl_NearCubes (r2.1, r2.2.1, ())) fun r14 =>
    Option.bind (P_spec_NearCubes (r2.1, r2.2.1, ())) fun r15 =>
    bif !(r14.2.1 == r15.2.1) then
      some (false, ())
    else
      bif !(r14.2.1 == r3.2.1) then
        some (false, ())
      else
        Option.bind (P_laws_rCells (r14.1, r15.1, ())) fun r18 =>
        bif !r18.1 then
          some (false, ())
        else
          Option.bind (P_spec_DrawTakeCube (a0, ())) fun r20 =>
          Option.bind (P_impl_TakeCube (r20.1, r20.2.1, ())) fun r21 =>
          Option.bind (P_spec_TakeCube (r20.1, r20.2.1, ())) fun r22 =>
          bif !(r21.2.1 == r22.2.1) then
            some (false, ())
          else
            Option.bind (P_laws_rHeap (r21.1, r22.1, ())) fun r24 =>
            bif !r24.1 then
              some (false, ())
            else
              Option.bind (P_impl_PartsOf (r2.1, ())) fun r26 =>
              Option.bind (P_spec_PartsOf (r2.1, ())) fun r27 =>
              bif !(r26.2.1 == r27.2.1) then
                some (false, ())
              else
                Option.bind (P_impl_IsHeap (r2.1, ())) fun r29 =>
                bif !(r26.2.1 == r29.1) then
                  some (false, ())
                else
                  Option.bind (P_laws_rLists (r26.1, r27.1, ())) fun r31 =>
                  bif !r31.1 then
                    some (false, ())
                  else
                    Option.bind (P_impl_HeapText (r2.1, ())) fun r33 =>
                    Option.bind (P_spec_HeapText (r2.1, ())) fun r34 =>
                    bif !(r33.1 == r34.1) then
                      some (false, ())
                    else
                      bif !(r33.2.1 == r34.2.1) then
                        some (false, ())
                      else
                        bif !(r33.2.1 == r26.2.1) then
                          some (false, ())
                        else
                          Option.bind (P_spec_DrawParseHeap (a0, ())) fun r38 =>
                          Option.bind (P_impl_ParseHeap (r38.1, ())) fun r39 =>
                          Option.bind (P_spec_ParseHeap (r38.1, ())) fun r40 =>
                          bif !(r39.2.1 == r40.2.1) then
                            some (false, ())
                          else
                            Option.bind (P_laws_rHeap (r39.1, r40.1, ())) fun r42 =>
                            bif !r42.1 then
                              some (false, ())
                            else
                              Option.bind (P_spec_DrawFullHeap (a0, ())) fun r44 =>
                              Option.bind (P_impl_FullHeap (r44.1, r44.2.1, r44.2.2.1, ())) fun r45 =>
                              Option.bind (P_impl_EmptyHeap (r44.1, r44.2.1, r44.2.2.1, ())) fun r46 =>
                              Option.bind (P_spec_FullHeap (r44.1, r44.2.1, r44.2.2.1, ())) fun r47 =>
                              bif !(r45.2.1 == r47.2.1) then
                                some (false, ())
                              else
                                bif !(r45.2.1 == r46.2.1) then
                                  some (false, ())
                                else
                                  Option.bind (P_laws_rHeap (r45.1, r47.1, ())) fun r50 =>
                                  bif !r50.1 then
                                    some (false, ())
                                  else
                                    bif r45.2.1 then
                                      Option.bind (P_impl_OtherCells (r45.1, ())) fun r53 =>
                                      bif !r53.2.1 then
                                        some (false, ())
                                      else
                                        Option.bind (P_laws_rHeap (r53.1, r46.1, ())) fun r55 =>
                                        bif !r55.1 then
                                          some (false, ())
                                        else
                                          bif !decide ((List.length r45.1.2.2.2.1 : Int) = (IntKind.wrap .i64 ((IntKind.wrap .i64 (r44.1 * r44.2.1)) * r44.2.2.1))) then
                                            some (false, ())
                                          else
                                            bif r7.2.1 then
                                              Option.bind (P_impl_TakeCube (r7.1, r2.2.1, ())) fun r59 =>
                                              bif !r59.2.1 then
                                                some (false, ())
                                              else
                                                Option.bind (P_laws_rHeap (r59.1, r2.1, ())) fun r61 =>
                                                bif !r61.1 then
                                                  some (false, ())
                                                else
                                                  bif r21.2.1 then
                                                    Option.bind (P_impl_PutCube (r21.1, r20.2.1, ())) fun r64 =>
                                                    bif !r64.2.1 then
                                                      some (false, ())
                                                    else
                                                      Option.bind (P_laws_rHeap (r64.1, r20.1, ())) fun r66 =>
                                                      bif !r66.1 then
                                                        some (false, ())
                                                      else
                                                        bif !r26.2.1 then
                                                          some (true, ())
                                                        else
                                                          Option.bind (P_impl_ParseHeap (r33.1, ())) fun r69 =>
                                                          bif !r69.2.1 then
                                                            some (false, ())
                                                          else
                                                            Option.bind (P_laws_rHeap (r69.1, r2.1, ())) fun r71 =>
                                                            bif !r71.1 then
                                                              some (false, ())
                                                            else
                                                              Option.bind (P_laws_rAll (r26.1, ())) fun r73 =>
                                                              bif !decide (r73.1 = (List.length r2.1.2.2.2.1 : Int)) then
                                                                some (false, ())
                                                              else
                                                                l_laws_FnCubes_58 N r2.1.1 r2.1.2.1 r2.1.2.2.1 r2.1.2.2.2.1 r26.1 0
                                                  else
                                                    bif !r26.2.1 then
                                                      some (true, ())
                                                    else
                                                      Option.bind (P_impl_ParseHeap (r33.1, ())) fun r65 =>
                                                      bif !r65.2.1 then
                                                        some (false, ())
                                                      else
                                                        Option.bind (P_laws_rHeap (r65.1, r2.1, ())) fun r67 =>
                                                        bif !r67.1 then
                                                          some (false, ())
                                                        else
                                                          Option.bind (P_laws_rAll (r26.1, ())) fun r69 =>
                                                          bif !decide (r69.1 = (List.length r2.1.2.2.2.1 : Int)) then
                                                            some (false, ())
                                                          else
                                                            l_laws_FnCubes_58 N r2.1.1 r2.1.2.1 r2.1.2.2.1 r2.1.2.2.2.1 r26.1 0
                                            else
                                              bif r21.2.1 then
                                                Option.bind (P_impl_PutCube (r21.1, r20.2.1, ())) fun r60 =>
                                                bif !r60.2.1 then
                                                  some (false, ())
                                                else
                                                  Option.bind (P_laws_rHeap (r60.1, r20.1, ())) fun r62 =>
                                                  bif !r62.1 then
                                                    some (false, ())
                                                  else
                                                    bif !r26.2.1 then
                                                      some (true, ())
                                                    else
                                                      Option.bind (P_impl_ParseHeap (r33.1, ())) fun r65 =>
                                                      bif !r65.2.1 then
                                                        some (false, ())
                                                      else
                                                        Option.bind (P_laws_rHeap (r65.1, r2.1, ())) fun r67 =>
                                                        bif !r67.1 then
                                                          some (false, ())
                                                        else
                                                          Option.bind (P_laws_rAll (r26.1, ())) fun r69 =>
                                                          bif !decide (r69.1 = (List.length r2.1.2.2.2.1 : Int)) then
                                                            some (false, ())
                                                          else
                                                            l_laws_FnCubes_58 N r2.1.1 r2.1.2.1 r2.1.2.2.1 r2.1.2.2.2.1 r26.1 0
                                              else
                                                bif !r26.2.1 then
                                                  some (true, ())
                                                else
                                                  Option.bind (P_impl_ParseHeap (r33.1, ())) fun r61 =>
                                                  bif !r61.2.1 then
                                                    some (false, ())
                                                  else
                                                    Option.bind (P_laws_rHeap (r61.1, r2.1, ())) fun r63 =>
                                                    bif !r63.1 then
                                                      some (false, ())
                                                    else
                                                      Option.bind (P_laws_rAll (r26.1, ())) fun r65 =>
                                                      bif !decide (r65.1 = (List.length r2.1.2.2.2.1 : Int)) then
                                                        some (false, ())
                                                      else
                                                        l_laws_FnCubes_58 N r2.1.1 r2.1.2.1 r2.1.2.2.1 r2.1.2.2.2.1 r26.1 0
                                    else
                                      bif r7.2.1 then
                                        Option.bind (P_impl_TakeCube (r7.1, r2.2.1, ())) fun r54 =>
                                        bif !r54.2.1 then
                                          some (false, ())
                                        else
                                          Option.bind (P_laws_rHeap (r54.1, r2.1, ())) fun r56 =>
                                          bif !r56.1 then
                                            some (false, ())
                                          else
                                            bif r21.2.1 then
                                              Option.bind (P_impl_PutCube (r21.1, r20.2.1, ())) fun r59 =>
                                              bif !r59.2.1 then
                                                some (false, ())
                                              else
                                                Option.bind (P_laws_rHeap (r59.1, r20.1, ())) fun r61 =>
                                                bif !r61.1 then
                                                  some (false, ())
                                                else
                                                  bif !r26.2.1 then
                                                    some (true, ())
                                                  else
                                                    Option.bind (P_impl_ParseHeap (r33.1, ())) fun r64 =>
                                                    bif !r64.2.1 then
                                                      some (false, ())
                                                    else
                                                      Option.bind (P_laws_rHeap (r64.1, r2.1, ())) fun r66 =>
                                                      bif !r66.1 then
                                                        some (false, ())
                                                      else
                                                        Option.bind (P_laws_rAll (r26.1, ())) fun r68 =>
                                                        bif !decide (r68.1 = (List.length r2.1.2.2.2.1 : Int)) then
                                                          some (false, ())
                                                        else
                                                          l_laws_FnCubes_58 N r2.1.1 r2.1.2.1 r2.1.2.2.1 r2.1.2.2.2.1 r26.1 0
                                            else
                                              bif !r26.2.1 then
                                                some (true, ())
                                              else
                                                Option.bind (P_impl_ParseHeap (r33.1, ())) fun r60 =>
                                                bif !r60.2.1 then
                                                  some (false, ())
                                                else
                                                  Option.bind (P_laws_rHeap (r60.1, r2.1, ())) fun r62 =>
                                                  bif !r62.1 then
                                                    some (false, ())
                                                  else
                                                    Option.bind (P_laws_rAll (r26.1, ())) fun r64 =>
                                                    bif !decide (r64.1 = (List.length r2.1.2.2.2.1 : Int)) then
                                                      some (false, ())
                                                    else
                                                      l_laws_FnCubes_58 N r2.1.1 r2.1.2.1 r2.1.2.2.1 r2.1.2.2.2.1 r26.1 0
                                      else
                                        bif r21.2.1 then
                                          Option.bind (P_impl_PutCube (r21.1, r20.2.1, ())) fun r55 =>
                                          bif !r55.2.1 then
                                            some (false, ())
                                          else
                                            Option.bind (P_laws_rHeap (r55.1, r20.1, ())) fun r57 =>
                                            bif !r57.1 then
                                              some (false, ())
                                            else
                                              bif !r26.2.1 then
                                                some (true, ())
                                              else
                                                Option.bind (P_impl_ParseHeap (r33.1, ())) fun r60 =>
                                                bif !r60.2.1 then
                                                  some (false, ())
                                                else
                                                  Option.bind (P_laws_rHeap (r60.1, r2.1, ())) fun r62 =>
                                                  bif !r62.1 then
                                                    some (false, ())
                                                  else
                                                    Option.bind (P_laws_rAll (r26.1, ())) fun r64 =>
                                                    bif !decide (r64.1 = (List.length r2.1.2.2.2.1 : Int)) then
                                                      some (false, ())
                                                    else
                                                      l_laws_FnCubes_58 N r2.1.1 r2.1.2.1 r2.1.2.2.1 r2.1.2.2.2.1 r26.1 0
                                        else
                                          bif !r26.2.1 then
                                            some (true, ())
                                          else
                                            Option.bind (P_impl_ParseHeap (r33.1, ())) fun r56 =>
                                            bif !r56.2.1 then
                                              some (false, ())
                                            else
                                              Option.bind (P_laws_rHeap (r56.1, r2.1, ())) fun r58 =>
                                              bif !r58.1 then
                                                some (false, ())
                                              else
                                                Option.bind (P_laws_rAll (r26.1, ())) fun r60 =>
                                                bif !decide (r60.1 = (List.length r2.1.2.2.2.1 : Int)) then
                                                  some (false, ())
                                                else
                                                  l_laws_FnCubes_58 N r2.1.1 r2.1.2.1 r2.1.2.2.1 r2.1.2.2.2.1 r26.1 0) = some (true, ()) := by
  subst h78
  rw [f_rHeapC r7.1 hl7]
  simp only [Option.bind_some, Bool.not_true, cond_false]
  obtain ⟨nl, n1, n2, n3⟩ := near_both r2.1 r2.2.1 hl
  rw [n1, n2]
  simp only [Option.bind_some, beq_self_eq_true, Bool.not_true, cond_false]
  rw [h3, f_rCellsC nl n3]
  simp only [Option.bind_some, beq_self_eq_true, Bool.not_true, cond_false]
  obtain ⟨g, cu, d1, d2⟩ := d_TakeCube hC
  rw [d1]
  simp only [Option.bind_some]
  obtain ⟨r21, k1, k2, k3⟩ := take_both g cu d2
  rw [k1, k2]
  simp only [Option.bind_some, beq_self_eq_true, Bool.not_true, cond_false]
  rw [f_rHeapC r21.1 k3]
  simp only [Option.bind_some, Bool.not_true, cond_false]
  have hparts : ∃ r26 : List (List D_A3) × Bool × Unit, P_impl_PartsOf (r2.1, ()) = some r26 ∧ P_spec_PartsOf (r2.1, ()) = some r26 ∧ r26.2.1 = okHeap r2.1 ∧ (okHeap r2.1 = true → Pts r2.1.2.2.2.1 r2.1.2.2.2.1 r26.1) ∧ P_laws_rLists (r26.1, r26.1, ()) = some (true, ()) := by
    cases ho : okHeap r2.1 with
    | false =>
      obtain ⟨a, b⟩ := parts_not r2.1 hl ho
      exact ⟨_, a, b, rfl, (fun hh => by cases hh), f_rLists [] (by simp) (fun p hp => by cases hp)⟩
    | true =>
      obtain ⟨R, a, b, c⟩ := parts_both r2.1 hl ho
      obtain ⟨hs, hin, hr⟩ := okHeap_iff.1 ho
      have h64 := srt_small64 hs hin hr
      have hlen := c.len 64 h64 hr
      refine ⟨_, a, b, rfl, fun _ => c, f_rLists R (by omega) (fun p hp => ?_)⟩
      obtain ⟨g1, c0, g2, g3⟩ := c.good (fun c hc => hc) p hp
      have := srt_small64 hs (fun x hx => hin x (Conn.mem g2 ((g3 x).1 hx))) g1
      unfold Small; omega
  obtain ⟨r26, p1, p2, p3, p4, p5⟩ := hparts
  have hI := f_impl_IsHeap r2.1 hl
  rw [p1, p2, hI]
  simp only [Option.bind_some, beq_self_eq_true, Bool.not_true, cond_false]
  rw [p3, p5]
  simp only [Option.bind_some, beq_self_eq_true, Bool.not_true, cond_false]
  obtain ⟨x1, x2⟩ := heapText_both r2.1 hl
  rw [x1, x2]
  simp only [Option.bind_some, beq_self_eq_true, Bool.not_true, cond_false]
  obtain ⟨s, s1, s2⟩ := d_ParseHeap hC
  rw [s1]
  simp only [Option.bind_some]
  obtain ⟨rp, y1, y2, y3⟩ := parse_both s s2
  rw [y1, y2]
  simp only [Option.bind_some, beq_self_eq_true, Bool.not_true, cond_false]
  have hsm : Small rp.1.2.2.2.1 := by
    rcases y3.1 with e | ⟨q, e, o, _⟩
    · rw [e]; exact small_nilQ
    · rw [e]
      obtain ⟨hs, hin, hr⟩ := okHeap_iff.1 o
      have := srt_small64 hs hin hr
      unfold Small; show q.2.2.2.1.length ≤ _; omega
  rw [f_rHeapC rp.1 hsm]
  simp only [Option.bind_some, Bool.not_true, cond_false]
  have := t0 a0 hC r2 (g, cu, ()) r7 r21 r26 ((if okHeap r2.1 then txt r2.1 else []), okHeap r2.1, ()) hl p3 (fun ho => ⟨p4 ho, by rw [ho]; rfl⟩) d2 (fun hb => take_back d2 k2 hb) h7
  rw [p3] at this
  exact this

theorem law_Cubes (a0 : List Int) (hb : ∀ b ∈ a0, 0 ≤ b ∧ b ≤ 255) : P_laws_FnCubes (a0, ()) = some (true, ()) := by
  rw [p_laws_FnCubes, p_laws_rBig]
  simp only [Option.bind_some]
  by_cases hbig : (a0.length : Int) > 65536
  · rw [decide_eq_true hbig]
    rfl
  · rw [decide_eq_false hbig]
    have hC : Bts a0 := ⟨by omega, hb⟩
    obtain ⟨h, c, d1, d2⟩ := d_HasCube hC
    obtain ⟨b, h1, h2, h3⟩ := has_both h c d2
    obtain ⟨r7, k1, k2, k3⟩ := put_both h c d2
    simp only [cond_false]
    rw [d1]
    simp only [Option.bind_some]
    rw [h1, h2]
    simp only [Option.bind_some, beq_self_eq_true, Bool.not_true, cond_false]
    rw [k1, k2]
    simp only [Option.bind_some, beq_self_eq_true, Bool.not_true, cond_false]
    have hM := tM a0 hC (h, c, ()) (b, okCell h c, ()) r7 r7 d2 rfl k3 rfl (fun hb => put_back d2 k2 hb)
    have hput : r7.2.1 = (okCell h c && !b) := by
      cases hr : r7.2.1 with
      | true =>
        obtain ⟨o1, o2, o3⟩ := put_ok d2 k2 hr
        have ho : okCell h c = true := by unfold okCell; rw [o1, o2]; rfl
        rw [ho, h3 ho, decide_eq_false o3]
        rfl
      | false =>
        cases ho : okCell h c with
        | false => rfl
        | true =>
          rw [h3 ho]
          by_cases hm : c ∈ h.2.2.2.1
          · rw [decide_eq_true hm]; rfl
          · exfalso
            have ho' := ho
            unfold okCell at ho'
            rw [Bool.and_eq_true] at ho'
            obtain ⟨hs, hi, hrr⟩ := okHeap_iff.1 ho'.1
            have h64 := srt_small64 hs hi hrr
            obtain ⟨l', g1, g2, g3, g4⟩ := f_l2With (X := h.1) (Y := h.2.1) (Z := h.2.2.1) hrr c (by omega)
            have e := put_is d2 ho'.1 ho'.2 hm g2 g3
            rw [k2] at e
            have e' := Option.some.inj e
            rw [e'] at hr
            cases hr
    rw [hput] at hM ⊢
    cases ho : okCell h c with
    | false =>
      rw [ho] at hM
      exact hM
    | true =>
      rw [ho] at hM
      cases b with
      | false => exact hM
      | true => exact hM
end Go.VI
