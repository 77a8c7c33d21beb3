/- Plain: parts of heaps, and what stands. -/
import Derived.Test.YtaopponjedombaaGreatPlT
namespace Go.VI
open Go.Proofs

/-! ### Near cubes -/
def ab (x y : Int) : Int := if x - y > y - x then x - y else y - x

theorem most_ab (x y : Int) : P_spec_l1Most (x - y, y - x, ()) = some (ab x y, ()) := by
  rw [p_spec_l1Most]
  unfold ab
  by_cases h : x - y > y - x <;> simp [h]

theorem f_apart (a b : D_A3) (ha : Near a) (hb : Near b) : P_spec_l2Apart (a, b, ()) = some (ab a.1 b.1 + ab a.2.1 b.2.1 + ab a.2.2.1 b.2.2.1, ()) := by
  obtain ⟨n, hn⟩ : ∃ n, N = n + 4 := ⟨N - 4, by have := N_ge; omega⟩
  unfold Near at ha hb
  have bd : ∀ x y : Int, -1000 ≤ x → x ≤ 1000 → -1000 ≤ y → y ≤ 1000 → 0 ≤ ab x y ∧ ab x y ≤ 2000 := fun x y h1 h2 h3 h4 => by unfold ab; split <;> omega
  obtain ⟨x0, x1⟩ := bd a.1 b.1 (by omega) (by omega) (by omega) (by omega)
  obtain ⟨y0, y1⟩ := bd a.2.1 b.2.1 (by omega) (by omega) (by omega) (by omega)
  obtain ⟨z0, z1⟩ := bd a.2.2.1 b.2.2.1 (by omega) (by omega) (by omega) (by omega)
  have wr : ∀ x y : Int, -1000 ≤ x → x ≤ 1000 → -1000 ≤ y → y ≤ 1000 → IntKind.wrap .i64 (x - y) = x - y := fun x y h1 h2 h3 h4 => w64 (by omega) (by omega)
  have s : ∀ (m : Nat) (v x y : Int) (k : Nat), k < 3 → (bif decide ((k : Int) = (0 : Int)) then a.1 else (bif decide ((k : Int) = (1 : Int)) then a.2.1 else a.2.2.1)) = x → (bif decide ((k : Int) = (0 : Int)) then b.1 else (bif decide ((k : Int) = (1 : Int)) then b.2.1 else b.2.2.1)) = y → -1000 ≤ x → x ≤ 1000 → -1000 ≤ y → y ≤ 1000 → 0 ≤ v → v ≤ 100000 →
      l_spec_l2Apart_3 (m + 1) a.1 a.2.1 a.2.2.1 b.1 b.2.1 b.2.2.1 v (k : Int) = l_spec_l2Apart_3 m a.1 a.2.1 a.2.2.1 b.1 b.2.1 b.2.2.1 (v + ab x y) ((k + 1 : Nat) : Int) := by
    intro m v x y k hk hx hy h1 h2 h3 h4 h5 h6
    obtain ⟨b0, b1⟩ := bd x y h1 h2 h3 h4
    rw [q_spec_l2Apart_3, decide_eq_true (p := (k : Int) < 3) (by omega), inB_at (k := k) (n := 3) hk, hx, hy, wr x y h1 h2 h3 h4, wr y x h3 h4 h1 h2, most_ab, succI k (by omega)]
    simp only [cond_true, Option.bind_some]
    rw [w64 (by omega) (by omega)]
  have fin : ∀ (m : Nat) (v : Int), l_spec_l2Apart_3 (m + 1) a.1 a.2.1 a.2.2.1 b.1 b.2.1 b.2.2.1 v ((3 : Nat) : Int) = some (v, ()) := by
    intro m v; rw [q_spec_l2Apart_3]; rfl
  rw [p_spec_l2Apart]
  show l_spec_l2Apart_3 N a.1 a.2.1 a.2.2.1 b.1 b.2.1 b.2.2.1 0 ((0 : Nat) : Int) = _
  rw [hn, s (n + 3) 0 a.1 b.1 0 (by omega) rfl rfl (by omega) (by omega) (by omega) (by omega) (by omega) (by omega), s (n + 2) _ a.2.1 b.2.1 1 (by omega) rfl rfl (by omega) (by omega) (by omega) (by omega) (by omega) (by omega), s (n + 1) _ a.2.2.1 b.2.2.1 2 (by omega) rfl rfl (by omega) (by omega) (by omega) (by omega) (by omega) (by omega), fin]
  congr 2
  omega

theorem apart_nb (a c : D_A3) : ab a.1 c.1 + ab a.2.1 c.2.1 + ab a.2.2.1 c.2.2.1 = 1 ↔ nb c a := by
  rw [nb_iff]
  unfold ab
  constructor
  · intro h
    split at h <;> split at h <;> split at h <;> omega
  · intro h
    split <;> split <;> split <;> omega

theorem l_near {X Y Z : Int} {l : List D_A3} (hl : l.length ≤ 1000000) (hn : ∀ c ∈ l, Near c) {c : D_A3} (hc : Near c) (p : D_A3 → Bool) (hp : ∀ x, p x = true ↔ nb c x) : ∀ (d i m : Nat) (out : List D_A3), l.length = i + d → d < m → out.length ≤ i →
    l_spec_l2Near_3 m X Y Z l c.1 c.2.1 c.2.2.1 out (i : Int) = some (out ++ (l.drop i).filter p, ())
  | d, i, 0, out, _, h, _ => by omega
  | d, i, m + 1, out, hk, hm, ho => by
    rw [q_spec_l2Near_3]
    by_cases hlt : i < l.length
    · have e := f_apart l[i] c (hn _ (List.getElem_mem hlt)) hc
      have e' : P_spec_l2Apart (l[i], (c.1, (c.2.1, (c.2.2.1, ()))), ()) = _ := e
      rw [ltT hlt, inB_at hlt, nthA (t := T_A3) hlt, e', app_len' (by omega), drop_at l i hlt, succI i (by omega)]
      simp only [cond_true, Option.bind_some, List.filter_cons]
      by_cases h : nb c l[i]
      · rw [decide_eq_true ((apart_nb l[i] c).2 h), (hp _).2 h]
        simp only [cond_true, if_true]
        rw [l_near hl hn hc p hp (d - 1) (i + 1) m _ (by omega) (by omega) (by simp; omega)]
        simp
      · have hpf : p l[i] = false := by
          cases hb : p l[i] with
          | false => rfl
          | true => exact absurd ((hp _).1 hb) h
        rw [decide_eq_false (fun hh => h ((apart_nb l[i] c).1 hh)), hpf]
        simp only [cond_false, Bool.false_eq_true, if_false]
        exact l_near hl hn hc p hp (d - 1) (i + 1) m out (by omega) (by omega) (by omega)
    · rw [ltF hlt, List.drop_eq_nil_of_le (by omega)]
      simp

open Classical in
/-- Is a cell a neighbor? -/
noncomputable def nbB (c x : D_A3) : Bool := decide (nb c x)
open Classical in
theorem nbB_iff (c x : D_A3) : nbB c x = true ↔ nb c x := by simp [nbB]

theorem f_nearL {X Y Z : Int} {l : List D_A3} (hl : l.length ≤ 1000000) (hn : ∀ c ∈ l, Near c) {c : D_A3} (hc : Near c) : P_spec_l2Near ((X, Y, Z, l, ()), c, ()) = some (l.filter (nbB c), ()) := by
  have := l_near (X := X) (Y := Y) (Z := Z) hl hn hc (nbB c) (nbB_iff c) l.length 0 N [] (by simp) (by have := N_ge; omega) (by simp)
  rw [p_spec_l2Near]
  exact this

/-! ### One part -/
def Conn (l : List D_A3) (c0 : D_A3) : D_A3 → Prop := Rch (fun c => c = c0) (fun c => c ∈ l)

theorem Conn.mem {l : List D_A3} {c0 c : D_A3} (h0 : c0 ∈ l) (h : Conn l c0 c) : c ∈ l := by
  cases h with
  | base h => rw [h]; exact h0
  | step _ _ h => exact h

theorem Conn.trans {l : List D_A3} {a b c : D_A3} (h : Conn l a b) (k : Conn l b c) : Conn l a c :=
  Rch.mono (p := fun x => x = b) (fun x hx => by rw [hx]; exact h) (fun _ h => h) k

theorem Conn.symm {l : List D_A3} {a b : D_A3} (ha : a ∈ l) (h : Conn l a b) : Conn l b a := by
  induction h with
  | base h => exact .base h.symm
  | step hr hn hd ih =>
    rename_i c d
    have hc : c ∈ l := Conn.mem ha hr
    exact Conn.trans (.step (.base rfl) (nb_symm hn) hc) ih

/-- A part is being gathered: what is left, the list, what is put together; n cells are done. -/
structure Part (l L0 : List D_A3) (c0 : D_A3) (n np : Nat) (ls lf pt : List D_A3) : Prop where
  srt : Srt lf
  sub : ∀ c ∈ lf, c ∈ L0
  lsub : ∀ c ∈ ls, c ∈ L0
  all : ∀ c ∈ L0, c ∈ ls ∨ c ∈ lf
  apart : ∀ c ∈ ls, c ∉ lf
  conn : ∀ c ∈ ls, Conn l c0 c
  done : ∀ i, i < n → ∀ c, ls[i]? = some c → ∀ d, nb c d → d ∉ lf
  psrt : Srt pt
  pmem : ∀ c, c ∈ pt ↔ c ∈ ls.take np
  nodup : ls.Nodup
  start : c0 ∈ ls

theorem Part.len {l L0 : List D_A3} {c0 : D_A3} {n np : Nat} {ls lf pt : List D_A3} (h : Part l L0 c0 n np ls lf pt) (hr : Srt L0) : ls.length + lf.length = L0.length := by
  have hp : L0.Perm (ls ++ lf) := by
    refine (List.perm_ext_iff_of_nodup hr.nodup ?_).2 fun c => ?_
    · rw [List.nodup_append]
      exact ⟨h.nodup, h.srt.nodup, fun a ha b hb e => h.apart a ha (e ▸ hb)⟩
    · rw [List.mem_append]
      exact ⟨h.all c, fun hc => hc.elim (h.lsub c) (h.sub c)⟩
  rw [hp.length_eq, List.length_append]

/-- One near cell is taken over. -/
theorem Part.take {l L0 : List D_A3} {c0 : D_A3} {n np : Nat} {ls lf pt : List D_A3} (hl : ∀ c ∈ L0, c ∈ l) (h : Part l L0 c0 n np ls lf pt) {c x : D_A3} (hcl : c ∈ ls) (hx : x ∈ lf) (hn : nb c x) (hnp : np ≤ ls.length) (hpt : n ≤ ls.length) :
    Part l L0 c0 n np (ls ++ [x]) (lf.filter fun y => !decide (y = x)) pt := by
  have hxl : x ∉ ls := fun hh => h.apart x hh hx
  refine ⟨h.srt.filter _, fun y hy => h.sub y (List.mem_filter.1 hy).1, fun y hy => ?_, fun y hy => ?_, fun y hy => ?_, fun y hy => ?_, fun i hi y hy d hd => ?_, h.psrt, fun y => ?_, ?_, List.mem_append_left _ h.start⟩
  · rcases List.mem_append.1 hy with hy | hy
    · exact h.lsub y hy
    · rw [List.mem_singleton.1 hy]; exact h.sub x hx
  · rcases h.all y hy with hy | hy
    · exact .inl (List.mem_append_left _ hy)
    · by_cases e : y = x
      · exact .inl (by rw [e]; simp)
      · exact .inr (List.mem_filter.2 ⟨hy, by simp [e]⟩)
  · intro hh
    have hh' := List.mem_filter.1 hh
    rcases List.mem_append.1 hy with hy | hy
    · exact h.apart y hy hh'.1
    · rw [List.mem_singleton.1 hy] at hh'
      simp at hh'
  · rcases List.mem_append.1 hy with hy | hy
    · exact h.conn y hy
    · rw [List.mem_singleton.1 hy]
      exact .step (h.conn c hcl) hn (hl x (h.sub x hx))
  · rw [List.getElem?_append_left (by omega)] at hy
    exact fun hh => h.done i hi y hy d hd (List.mem_filter.1 hh).1
  · rw [h.pmem, List.take_append_of_le_length (by omega)]
  · rw [List.nodup_append]
    exact ⟨h.nodup, (by simp), fun a ha b hb e => hxl (by rw [← List.mem_singleton.1 hb, ← e]; exact ha)⟩
end Go.VI
