/- VI, part 25: code. -/
import Derived.Test.YtlnfgikipeiaiaaViReg
namespace Go.VI
noncomputable section
open Go.RowKit
theorem wp_loop_fuel {P : Program} {Q : Exit → Act → World → Prop} {c : Code} (I : Nat → Act → World → Prop) {m : Nat} {a : Act} {w : World} (h₀ : I m a w)
    (round : ∀ m a w, I m a w → c.wp P (Exit.then (fun a' w' => ∃ m' < m, I m' a' w') Q) a w) : (Code.loop c).wp P Q a w := by
  intro b k cs
  have key : ∀ n a w, I n a w →
      ∃ e a' w', Q e a' w' ∧ Arrives P (lone (b.at a (.code c :: .inLoop c :: k)) cs w) b k cs e a' w' := by
    intro n
    induction n using Nat.strongRecOn with
    | _ n ih =>
      intro a w hI
      obtain ⟨e, a₁, w₁, hq, harr⟩ := round n a w hI b (.inLoop c :: k) cs
      cases e with
      | normal =>
        obtain ⟨m', hlt, hI₁⟩ := hq
        obtain ⟨e₂, a₂, w₂, hq₂, harr₂⟩ := ih m' hlt a₁ w₁ hI₁
        exact ⟨e₂, a₂, w₂, hq₂, .of_steps (Steps.trans harr (.one step_inLoop)) harr₂⟩
      | exit id => exact ⟨_, a₁, w₁, hq, .pass (x := .inLoop c) rfl (fun _ _ => .inl (by simp)) harr⟩
      | goto l => exact ⟨_, a₁, w₁, hq, .pass (x := .inLoop c) rfl (fun _ _ => .inl (by simp)) harr⟩
      | ret => exact ⟨_, a₁, w₁, hq, .pass (x := .inLoop c) rfl (fun _ _ => .inl (by simp)) harr⟩
      | panic ch => exact ⟨_, a₁, w₁, hq, .pass (x := .inLoop c) rfl (fun _ _ => .inl (by simp)) harr⟩
      | outgrown => exact ⟨_, a₁, w₁, hq, .pass (x := .inLoop c) rfl (fun _ _ => .inl (by simp)) harr⟩
  obtain ⟨e, a', w', hq, harr⟩ := key _ a w h₀
  exact ⟨e, a', w', hq, .of_steps (.one step_loop) harr⟩
section
variable {A : Fix} {X : Ctx} {γ : Gh} {Fr : Nat → Prop} {env env' : Env} {a : Act} {w w' : World}
def St (A : Fix) (X : Ctx) (env : Env) (a : Act) (w : World) : Prop := Holds A X (fun v => env.ver ≤ v) env a w
def exOf : Ex → Exit
  | .normal => .normal
  | .exit id => .exit id
  | .goto l => .goto l
  | .ret => .ret
theorem get_map (f : Slot → AV) (s : Slot) : ∀ (ks : List Slot), Env.get (ks.map fun s => (s, f s)) s = if s ∈ ks then f s else .undef
  | [] => rfl
  | k :: r => by
    rw [List.map_cons, Env.get_cons, get_map f s r]
    by_cases h : k = s
    · subst h; simp
    · simp [h, Ne.symm h]
theorem restrict_get (ks : List Slot) (env : Env) (s : Slot) : (restrict ks env).get s = if s = .ver then .num 1 else if s ∈ ks then canon env (env.get s) else .undef := by
  unfold restrict
  rw [Env.get_cons]
  by_cases h : s = .ver
  · subst h; simp
  · simp [h, Ne.symm h, get_map fun s => canon env (env.get s)]
theorem restrict_ver (ks : List Slot) (env : Env) : (restrict ks env).ver = 1 := by
  unfold Env.ver
  rw [restrict_get]
  simp
theorem canon_cell {av : AV} {i j : Nat} {c : Cell} (h : (canon env av).cell? i j = some c) : ∃ c0, av.cell? i j = some c0 ∧ c = canonCell env c0 := by
  cases av with
  | val g cs =>
    cases i with
    | succ i => simp [canon, AV.cell?] at h
    | zero =>
      simp only [canon, AV.cell?, List.getElem?_map, Option.map_eq_some_iff] at h ⊢
      obtain ⟨c0, h1, h2⟩ := h
      exact ⟨c0, h1, h2.symm⟩
  | box v fz cs =>
    cases i with
    | succ i => simp [canon, AV.cell?] at h
    | zero =>
      simp only [canon, AV.cell?, List.getElem?_map, Option.map_eq_some_iff] at h ⊢
      obtain ⟨c0, h1, h2⟩ := h
      exact ⟨c0, h1, h2.symm⟩
  | skip => simp [canon, AV.cell?] at h
  | undef => simp [canon, AV.cell?] at h
  | tup l => simp [canon, AV.cell?] at h
  | num n => simp [canon, AV.cell?] at h
theorem restrict_cell {ks : List Slot} {x : Loc} {c : Cell} (h : envCell (restrict ks env) x = some c) : ∃ c0, envCell env x = some c0 ∧ c = canonCell env c0 := by
  unfold envCell at h
  rw [restrict_get] at h
  split at h
  · simp [AV.cell?] at h
  · split at h
    · exact canon_cell h
    · simp [AV.cell?] at h
theorem canon_own {env : Env} {c : Cell} {e : TypeId} {t : Ty} {ver : Nat} {l : List t.den} (h : canonCell env c = .own e t ver l) : ver = 0 ∧ ((∃ v, c = .own e t v l) ∨ (c = .nil e t ∧ l = [] ∧ 0 < t.size)) := by
  cases c with
  | own e' t' v' l' =>
    simp only [canonCell, Cell.own.injEq] at h
    obtain ⟨rfl, rfl, rfl, h4⟩ := h
    have h4 := eq_of_heq h4
    subst h4
    exact ⟨rfl, .inl ⟨v', rfl⟩⟩
  | nil e' t' =>
    simp only [canonCell] at h
    cases hs : Nat.blt 0 t'.size with
    | false => rw [hs] at h; cases h
    | true =>
      rw [hs] at h
      simp only [cond_true, Cell.own.injEq] at h
      obtain ⟨rfl, rfl, rfl, h4⟩ := h
      have h4 := eq_of_heq h4
      exact ⟨rfl, .inr ⟨rfl, h4.symm, Nat.le_of_ble_eq_true hs⟩⟩
  | addr b bv off =>
    simp only [canonCell] at h
    split at h
    · rename_i v _ _ _
      cases hb : Nat.beq v bv <;> rw [hb] at h <;> cases h
    · cases h
  | view x v =>
    simp only [canonCell] at h
    split at h
    · rename_i v' _ _
      cases hb : Nat.beq v' v <;> rw [hb] at h <;> cases h
    · cases h
  | _ => simp [canonCell] at h
theorem restrict_sound (h : Holds A X Fr env a w) (ks : List Slot) : St A X (restrict ks env) a w := by
  obtain ⟨γ, h⟩ := h
  unfold St
  rw [restrict_ver]
  let cur : Nat → Nat := fun b => match env.get (.box b) with | .box v _ _ => v | _ => 0
  let γ' : Gh := { γ with σ := fun b v => if v = 0 then γ.σ b (cur b) else γ.σ b v, ψ := fun x v => if v = 0 then γ.φ x else γ.ψ x v }
  have hcv : ∀ s i n, cellVals γ' s i n = cellVals γ s i n := fun _ _ _ => rfl
  have hbox : ∀ b ver fz cs, (restrict ks env).get (.box b) = .box ver fz cs → ver = 0 ∧ ∃ v cs0, env.get (.box b) = .box v fz cs0 ∧ cs0.length = cs.length ∧ γ'.σ b 0 = γ.σ b v := by
    intro b ver fz cs hb
    rw [restrict_get] at hb
    simp only [reduceCtorEq, if_false] at hb
    split at hb
    · cases hg : env.get (.box b) with
      | box v f cs0 =>
        rw [hg] at hb
        simp only [canon, AV.box.injEq] at hb
        obtain ⟨rfl, rfl, rfl⟩ := hb
        exact ⟨rfl, v, cs0, rfl, by simp, by simp [γ', cur, hg]⟩
      | val g cs => rw [hg] at hb; simp [canon] at hb
      | skip => rw [hg] at hb; simp [canon] at hb
      | undef => rw [hg] at hb; simp [canon] at hb
      | tup l => rw [hg] at hb; simp [canon] at hb
      | num n => rw [hg] at hb; simp [canon] at hb
    · cases hb
  refine ⟨γ', { frame := h.frame, glob := h.glob, zone := h.zone, zone0 := h.zone0, defers := h.defers, size := h.size, ntl := h.ntl, baseB := h.baseB, tmp := ?_, box := ?_, cell := ?_, own := ?_, inj := ?_, fresh := ?_, lent := h.lent, lentloc := ?_ }⟩
  · intro t
    rw [restrict_get]
    simp only [reduceCtorEq, if_false]
    split
    · have := h.tmp t
      revert this
      cases env.get (.tmp t) with
      | val g cs => simp only [canon, RelTmp, hcv, List.length_map]; exact id
      | skip => exact id
      | undef => exact id
      | tup l => exact fun _ => trivial
      | box _ _ _ => exact id
      | num _ => exact id
    · exact trivial
  · intro b ver fz cs hb
    obtain ⟨rfl, v, cs0, h1, h2, h3⟩ := hbox b ver fz cs hb
    obtain ⟨b1, b2, b3, _⟩ := h.box b v fz cs0 h1
    rw [h3, hcv, ← h2]
    exact ⟨b1, b2, b3, by omega⟩
  · intro x c hc
    obtain ⟨c0, h0, rfl⟩ := restrict_cell hc
    obtain ⟨h1, h2, h3⟩ := h.cell x c0 h0
    have mv : ∀ {c : Cell} {v : Value}, refs c = none → RelCell A γ w c v → RelCell A γ' w c v := fun hr hc =>
      hc.move (fun r hh => by rw [hr] at hh; cases hh) (fun r hh => by rw [hr] at hh; cases hh) (fun _ hz => hz) (fun _ _ => rfl) (Nat.le_refl _) (fun _ _ _ => rfl)
    show RelCell A γ' w (canonCell env c0) (γ.φ x) ∧ (γ.φ x).oneCell' = true ∧ ∀ r, refs (canonCell env c0) = some r → ¬ (1 ≤ r)
    cases c0 with
    | own e t v l => exact ⟨h1, h2, by simp [canonCell, refs]⟩
    | nil e t =>
      refine ⟨?_, h2, ?_⟩
      · simp only [canonCell]
        cases hs : Nat.blt 0 t.size with
        | false => exact h1
        | true =>
          have h1 : γ.φ x = .slice none 0 0 := h1
          rw [h1]
          exact OwnV.nil (Nat.le_of_ble_eq_true hs)
      · simp only [canonCell]
        cases Nat.blt 0 t.size <;> simp [refs]
    | addr b bv off =>
      refine ⟨?_, h2, ?_⟩
      · simp only [canonCell]
        split
        · rename_i v fz cs hb
          cases hv : Nat.beq v bv with
          | false => exact trivial
          | true =>
            have hv := Nat.eq_of_beq_eq_true hv
            subst hv
            have : γ'.σ b 0 = γ.σ b v := by simp [γ', cur, hb]
            simp only [cond_true, RelCell, this]
            exact h1
        · exact trivial
      · simp only [canonCell]
        split
        · rename_i v fz cs hb
          cases Nat.beq v bv <;> simp [refs]
        · simp [refs]
    | view y v =>
      refine ⟨?_, h2, ?_⟩
      · simp only [canonCell]
        split
        · rename_i e t v' l hy
          cases hv : Nat.beq v' v with
          | false => exact trivial
          | true =>
            have hv := Nat.eq_of_beq_eq_true hv
            subst hv
            have h1 : γ.φ x = γ.ψ y v' := h1
            simp only [cond_true, RelCell, h1, (h.own y e t v' l hy).1]
            simp [γ']
        · exact trivial
      · simp only [canonCell]
        split
        · rename_i v' _ _
          cases Nat.beq v' v <;> simp [refs]
        · simp [refs]
    | sub x v s lo hi => exact ⟨trivial, h2, by simp [canonCell, refs]⟩
    | barr b bv o n t => exact ⟨trivial, h2, by simp [canonCell, refs]⟩
    | eview x v s i o => exact ⟨trivial, h2, by simp [canonCell, refs]⟩
    | eviewI x v s i o m s2 j => exact ⟨trivial, h2, by simp [canonCell, refs]⟩
    | addrI b bv o n s i => exact ⟨trivial, h2, by simp [canonCell, refs]⟩
    | undef => exact ⟨trivial, h2, by simp [canonCell, refs]⟩
    | int k n => exact ⟨mv rfl h1, h2, by simp [canonCell, refs]⟩
    | bool b => exact ⟨mv rfl h1, h2, by simp [canonCell, refs]⟩
    | str s => exact ⟨mv rfl h1, h2, by simp [canonCell, refs]⟩
    | imm t l p => exact ⟨mv rfl h1, h2, by simp [canonCell, refs]⟩
    | gptr g o => exact ⟨mv rfl h1, h2, by simp [canonCell, refs]⟩
    | gptrI g o n s i => exact ⟨mv rfl h1, h2, by simp [canonCell, refs]⟩
    | iptr t x o => exact ⟨mv rfl h1, h2, by simp [canonCell, refs]⟩
    | iptrI t x o n s i => exact ⟨mv rfl h1, h2, by simp [canonCell, refs]⟩
    | eimm t l i o => exact ⟨mv rfl h1, h2, by simp [canonCell, refs]⟩
    | eimmI t l i o m s2 j => exact ⟨mv rfl h1, h2, by simp [canonCell, refs]⟩
    | func f => exact ⟨mv rfl h1, h2, by simp [canonCell, refs]⟩
    | clo as rs F => exact ⟨mv rfl h1, h2, by simp [canonCell, refs]⟩
  · intro x e t ver l hc
    obtain ⟨c0, h0, hc0⟩ := restrict_cell hc
    obtain ⟨rfl, hor⟩ := canon_own hc0.symm
    refine ⟨by simp [γ'], by omega, fun g hg => ?_⟩
    rcases hor with ⟨v, rfl⟩ | ⟨rfl, _, _⟩
    · obtain ⟨k1, k2, k3⟩ := h.own x e t v l h0
      obtain ⟨a1, a2, a3⟩ := k3 g hg
      refine ⟨a1, fun b bv fz cs hb => ?_, fun y e' t' ver' l' hy hyg => ?_⟩
      · obtain ⟨rfl, v', cs0, h1, _, h3⟩ := hbox b bv fz cs hb
        rw [h3]; exact a2 b v' fz cs0 h1
      · obtain ⟨c1, h1, hc1⟩ := restrict_cell hy
        obtain ⟨_, hor⟩ := canon_own hc1.symm
        rcases hor with ⟨v1, rfl⟩ | ⟨rfl, _, _⟩
        · exact a3 y e' t' v1 l' h1 hyg
        · have : γ.φ y = .slice none 0 0 := (h.cell y _ h1).1
          have hyg : (γ.φ y).ownBlock = some g := hyg
          rw [this] at hyg
          simp [Value.ownBlock] at hyg
    · have : γ.φ x = .slice none 0 0 := (h.cell x _ h0).1
      have hg : (γ.φ x).ownBlock = some g := hg
      rw [this] at hg
      simp [Value.ownBlock] at hg
  · intro b b' bv bv' fz fz' cs cs' hb hb' he
    obtain ⟨rfl, v, cs0, h1, _, h3⟩ := hbox b bv fz cs hb
    obtain ⟨rfl, v', cs0', h1', _, h3'⟩ := hbox b' bv' fz' cs' hb'
    rw [h3, h3'] at he
    exact h.inj b b' v v' fz fz' cs0 cs0' h1 h1' he
  · intro x e t ver l hc hnl g hg
    obtain ⟨c0, h0, hc0⟩ := restrict_cell hc
    obtain ⟨_, hor⟩ := canon_own hc0.symm
    rcases hor with ⟨v, rfl⟩ | ⟨rfl, _, _⟩
    · exact h.fresh x e t v l h0 hnl g hg
    · have : γ.φ x = .slice none 0 0 := (h.cell x _ h0).1
      have hg : (γ.φ x).ownBlock = some g := hg
      rw [this] at hg
      simp [Value.ownBlock] at hg
  · intro k c j cl hc
    obtain ⟨c0, h0, _⟩ := restrict_cell hc
    exact h.lentloc k c j c0 h0
theorem setVer_sound {n : Nat} (h : Holds A X Fr env a w) : Holds A X Fr ((.ver, .num n) :: env) a w := by
  obtain ⟨γ, h⟩ := h
  have hb : ∀ b, Env.get ((.ver, .num n) :: env) (.box b) = env.get (.box b) := fun b => Env.get_cons_ne _ _ (by simp)
  have ht : ∀ t, Env.get ((.ver, .num n) :: env) (.tmp t) = env.get (.tmp t) := fun t => Env.get_cons_ne _ _ (by simp)
  have hc : ∀ x c, envCell ((.ver, .num n) :: env) x = some c → envCell env x = some c := by
    intro x c hx
    rw [envCell_cons] at hx
    split at hx
    · simp [AV.cell?] at hx
    · exact hx
  refine ⟨γ, { frame := h.frame, glob := h.glob, zone := h.zone, zone0 := h.zone0, defers := h.defers, size := h.size, ntl := h.ntl, baseB := h.baseB, tmp := fun t => by rw [ht]; exact h.tmp t, box := fun b ver fz cs hh => h.box b ver fz cs (by rwa [hb] at hh), cell := fun x c hx => h.cell x c (hc x c hx), own := ?_, inj := ?_, fresh := fun x e t ver l hx => h.fresh x e t ver l (hc x _ hx), lent := h.lent, lentloc := fun k c j cl hx => h.lentloc k c j cl (hc _ _ hx) }⟩
  · intro x e t ver l hx
    obtain ⟨k1, k2, k3⟩ := h.own x e t ver l (hc x _ hx)
    refine ⟨k1, k2, fun g hg => ?_⟩
    obtain ⟨a1, a2, a3⟩ := k3 g hg
    exact ⟨a1, fun b bv fz cs hh => a2 b bv fz cs (by rwa [hb] at hh), fun y e' t' v' l' hy => a3 y e' t' v' l' (hc y _ hy)⟩
  · intro b b' bv bv' fz fz' cs cs' h1 h2
    exact h.inj b b' bv bv' fz fz' cs cs' (by rwa [hb] at h1) (by rwa [hb] at h2)
theorem freezeCell_own {c : Cell} {e : TypeId} {t : Ty} {v : Nat} {l : List t.den} : freezeCell c ≠ .own e t v l := by cases c <;> simp [freezeCell]
def freezeTo : Nat → List Cell → List Cell
  | _, [] => []
  | 0, c :: r => c :: r
  | m + 1, c :: r => freezeCell c :: freezeTo m r
theorem freezeTo_all : ∀ (cs : List Cell), freezeTo cs.length cs = cs.map freezeCell
  | [] => rfl
  | c :: r => by simp [freezeTo, freezeTo_all r]
theorem freezeTo_zero : ∀ (cs : List Cell), freezeTo 0 cs = cs
  | [] => rfl
  | _ :: _ => rfl
theorem freezeTo_step : ∀ (m : Nat) (cs : List Cell) (c : Cell), cs[m]? = some c → freezeTo (m + 1) cs = setNth (freezeTo m cs) m (freezeCell c) ∧ (freezeTo m cs)[m]? = some c
  | m, [], c, h => by simp at h
  | 0, a :: r, c, h => by
    simp at h
    subst h
    simp [freezeTo, setNth, freezeTo_zero]
  | m + 1, a :: r, c, h => by
    obtain ⟨h1, h2⟩ := freezeTo_step m r c (by simpa using h)
    exact ⟨by simp [freezeTo, setNth] at h1 ⊢; exact h1, by simp [freezeTo, h2]⟩
theorem freeze_one (h : Holds A X Fr env a w) {x : Loc} {c : Cell} (hx : envCell env x = some c) (hnl : x.s.isLent = false) : Holds A X Fr (Upd.app env (.cell x (freezeCell c))) a w := by
  obtain ⟨γ, h⟩ := h
  have same : freezeCell c = c → Holds A X Fr (Upd.app env (.cell x (freezeCell c))) a w := by
    intro hs
    refine ⟨γ, h.flat x hx (by rw [hs]) ?_ ?_⟩
    · intro e t v l
      exact freezeCell_own
    · intro _
      rw [hs]
      exact (h.cell x c hx).1
  cases c with
  | own e t v l => exact ⟨_, h.freeze hx hnl⟩
  | nil e t =>
    refine ⟨γ, h.flat x hx (by simp [freezeCell, refs]) (fun _ _ _ _ => freezeCell_own) fun hr => ?_⟩
    have hr : γ.φ x = .slice none 0 0 := hr
    rw [hr]
    exact ⟨⟨none, 0, rfl, Nat.le_refl _, fun i x hx => by simp at hx⟩, by simp⟩
  | imm t l p =>
    refine ⟨γ, h.flat x hx (by simp [freezeCell, refs]) (fun _ _ _ _ => freezeCell_own) fun hr => ?_⟩
    exact ⟨hr.1, by simp⟩
  | _ => exact same rfl
theorem freezeAV_cells {s : Slot} (hnl : s.isLent = false) {cs : List Cell} (mk : List Cell → AV) (hmk : ∀ cs i, (mk cs).setCell 0 i = fun c => mk (setNth cs i c)) (hmc : ∀ cs i, (mk cs).cell? 0 i = cs[i]?)
    (h : Holds A X Fr env a w) (hs : env.get s = mk cs) : Holds A X Fr ((s, mk (cs.map freezeCell)) :: env) a w := by
  have key : ∀ m, m ≤ cs.length → Holds A X Fr ((s, mk (freezeTo m cs)) :: env) a w := by
    intro m
    induction m with
    | zero =>
      intro _
      rw [freezeTo_zero]
      obtain ⟨γ, h⟩ := h
      refine ⟨γ, h.ext fun s' => ?_⟩
      rw [Env.get_cons]
      split
      · rename_i hh; rw [← hh, hs]
      · rfl
    | succ m ih =>
      intro hm
      have h0 := ih (by omega)
      have hc : cs[m]? = some cs[m] := List.getElem?_eq_getElem (by omega)
      obtain ⟨h1, h2⟩ := freezeTo_step m cs _ hc
      have hx : envCell ((s, mk (freezeTo m cs)) :: env) ⟨s, 0, m⟩ = some cs[m] := by
        rw [envCell_cons, if_pos rfl, hmc, h2]
      obtain ⟨γ, h3⟩ := freeze_one h0 hx hnl
      refine ⟨γ, h3.ext fun s' => ?_⟩
      rw [get_app_cell, Env.get_cons, Env.get_cons]
      split
      · rename_i hh
        simp only [hmk]
        rw [h1]
      · rfl
  have := key cs.length (Nat.le_refl _)
  rwa [freezeTo_all] at this
theorem sealSlot_sound (h : Holds A X Fr env a w) (s : Slot) : Holds A X Fr (sealSlot s env) a w := by
  unfold sealSlot
  split
  · split
    · rename_i b _ v cs hb
      cases hok : (Nat.blt b lentBase && cs.all flatCell) with
      | false => exact h
      | true =>
        simp only [Bool.and_eq_true] at hok
        obtain ⟨γ, hc⟩ := h
        exact ⟨_, hc.freezeBox hb (Nat.le_of_ble_eq_true hok.1)⟩
    · exact h
  · exact h
theorem freezeSlots_sound : ∀ (ks : List Slot) {env : Env}, Holds A X Fr env a w → Holds A X Fr (freezeSlots ks env) a w
  | [], env, h => h
  | s :: r, env, h => by
    simp only [freezeSlots]
    refine freezeSlots_sound r (sealSlot_sound ?_ s)
    cases hnl : s.isLent with
    | true => exact h
    | false =>
      simp only [cond_false]
      have same : freezeAV (env.get s) = env.get s → Holds A X Fr ((s, freezeAV (env.get s)) :: env) a w := by
        intro hs
        rw [hs]
        obtain ⟨γ, h⟩ := h
        refine ⟨γ, h.ext fun s' => ?_⟩
        rw [Env.get_cons]
        split
        · rename_i hh; rw [hh]
        · rfl
      cases hg : env.get s with
      | val g cs => exact freezeAV_cells hnl (.val g) (fun _ _ => rfl) (fun _ _ => rfl) h hg
      | box v fz cs => exact freezeAV_cells hnl (.box v fz) (fun _ _ => rfl) (fun _ _ => rfl) h hg
      | tup l => rw [hg] at same; exact same rfl
      | undef => rw [hg] at same; exact same rfl
      | skip => rw [hg] at same; exact same rfl
      | num n => rw [hg] at same; exact same rfl
theorem solidSlot_sound (h : Holds A X Fr env a w) (s : Slot) : Holds A X Fr (solidSlot s env) a w := by
  unfold solidSlot
  split
  · rename_i x ver sz lo hi hs
    split
    · rename_i e t v l hx
      cases hok : (Nat.beq v ver && (Nat.beq sz t.size && (!x.s.isLent && (!s.isLent && !Slot.beq x.s s)))) with
      | false => exact h
      | true =>
        simp only [Bool.and_eq_true, Bool.not_eq_true'] at hok
        obtain ⟨hv, hsz, hnl, hsl, hne⟩ := hok
        obtain rfl : v = ver := Nat.eq_of_beq_eq_true hv
        have hne' : x.s ≠ s := fun e => by rw [e, Slot.beq_self] at hne; cases hne
        obtain ⟨γ, hc⟩ := h
        have hf := hc.freeze (x := x) hx hnl
        have hcs : envCell env ⟨s, 0, 0⟩ = some (.sub x v sz lo hi) := by unfold envCell; rw [hs]; rfl
        obtain ⟨r1, r2, r3⟩ := hc.cell ⟨s, 0, 0⟩ _ hcs
        have hsol : (solid (.sub x v sz lo hi)).eval env.get [] = some ((.imm t (cut l lo hi) none, [.row x]), [x.s]) := by
          simp only [solid, ownerAt, Rd.eval_bind, Rd.eval]
          rw [hx]
          simp [Rd.eval, hsz, Nat.beq_refl]
        have hrd := (slice_reads hc (c := .sub x v sz lo hi) ⟨r1, r2, r3, rfl⟩ hsol (fun g => γ.Z g ∨ (γ.φ x).ownBlock = some g) (by
          rintro g (hg | ⟨s', hs', hg⟩)
          · exact .inl hg
          · rw [List.mem_singleton.1 hs'] at hg; exact .inr hg)).1
        have hget : (Upd.app env (.cell x (.imm t l none))).get s = env.get s := by
          rw [get_app_cell, if_neg hne']
        have hcs2 : envCell (Upd.app env (.cell x (.imm t l none))) ⟨s, 0, 0⟩ = some (.sub x v sz lo hi) := by
          unfold envCell; rw [hget, hs]; rfl
        have hfl := hf.flat' ⟨s, 0, 0⟩ (c' := .imm t (cut l lo hi) none) hcs2 (fun r hr => by simp [refs] at hr) (fun _ _ _ _ hh => by cases hh) (fun _ => hrd)
        refine ⟨_, hfl.ext fun s' => ?_⟩
        simp only [cond_true]
        rw [get_app_cell, Env.get_cons]
        split
        · rename_i hh
          rw [← hh, hget, hs]
          rfl
        · rfl
    · exact h
  · exact h
theorem solidSlots_sound : ∀ (ks : List Slot) {env : Env}, Holds A X Fr env a w → Holds A X Fr (solidSlots ks env) a w
  | [], _, h => h
  | s :: r, _, h => solidSlots_sound r (solidSlot_sound h s)
theorem head_sound (h : Holds A X Fr env a w) (k : Keep) : St A X (k.head env) a w := restrict_sound (freezeSlots_sound k.froz (solidSlots_sound k.froz h)) k.slots
theorem run_sound {ρ : Type} (K : Known A X) (hm : A.P.follows .mixedOrders = true) : ∀ (c : Code) (env : Env) (k : Ex → Env → Option ρ) (out : ρ) (Q : Exit → Act → World → Prop) (a : Act) (w : World), run X c env k = some out → St A X env a w →
    (∀ e env' a' w', k e env' = some out → St A X env' a' w' → Q (exOf e) a' w') → c.wp A.P Q a w := by
  intro c
  induction c with
  | skip => intro env k out Q a w hr hs hk; exact wp_skip (hk .normal env a w hr hs)
  | label l => intro env k out Q a w hr hs hk; exact wp_label (hk .normal env a w hr hs)
  | exit id => intro env k out Q a w hr hs hk; exact wp_exit (hk (.exit id) env a w hr hs)
  | ret => intro env k out Q a w hr hs hk; exact wp_ret (hk .ret env a w hr hs)
  | region id ops draw =>
    intro env k out Q a w hr hs hk
    have hp : Holds A X (fun v => env.ver ≤ v) (X.pre id env) a w := by
      unfold Ctx.pre
      split
      · exact freezeSlots_sound _ hs
      · exact hs
    have hs' : Holds A X (fun v => env.ver ≤ v) (bif draw then preSeal ops.toList (X.pre id env) else X.pre id env) a w := by
      cases draw with
      | false => exact hp
      | true => exact preSeal_sound _ hp
    refine region_sound K hm (vn := env.ver) hs' hr fun env' a' w' hK hh => hk .normal _ a' w' hK ?_
    have hv : Env.ver ((.ver, .num (env.ver + ops.size)) :: env') = env.ver + ops.size := by simp [Env.ver, Env.get_cons_self]
    unfold St
    rw [hv]
    exact setVer_sound hh
  | seq x y ihx ihy =>
    intro env k out Q a w hr hs hk
    refine wp_seq (ihx env _ out _ a w hr hs fun e env' a' w' hK hh => ?_)
    cases e with
    | normal => exact ihy env' k out Q a' w' hK hh hk
    | exit id => exact hk (.exit id) env' a' w' hK hh
    | goto l => exact hk (.goto l) env' a' w' hK hh
    | ret => exact hk .ret env' a' w' hK hh
  | cond c x y ihx ihy =>
    intro env k out Q a w hr hs hk
    obtain ⟨t, lg, he, hr⟩ := Rd.cps_some _ _ _ _ _ hr
    obtain ⟨γ, hc⟩ := hs
    have hb := rdBool_sound hc he
    refine wp_cond hb ?_
    cases t with
    | true => exact ihx env k out Q a w hr ⟨γ, hc⟩ hk
    | false => exact ihy env k out Q a w hr ⟨γ, hc⟩ hk
  | block id x ih =>
    intro env k out Q a w hr hs hk
    refine wp_block (ih env _ out _ a w hr hs fun e env' a' w' hK hh => ?_)
    cases e with
    | normal => exact hk .normal env' a' w' hK hh
    | exit j =>
      simp only [exOf, Exit.inBlock]
      simp only at hK
      cases hj : Nat.beq j id with
      | true =>
        rw [hj] at hK
        rw [if_pos (Nat.eq_of_beq_eq_true hj)]
        exact hk .normal env' a' w' hK hh
      | false =>
        rw [hj] at hK
        rw [if_neg (fun e => by rw [e, Nat.beq_refl] at hj; cases hj)]
        exact hk (.exit j) env' a' w' hK hh
    | goto l => exact hk (.goto l) env' a' w' hK hh
    | ret => exact hk .ret env' a' w' hK hh
  | loop x ih =>
    intro env k out Q a w hr hs hk
    simp only [run] at hr
    split at hr
    · rename_i kp _
      refine wp_loop_fuel (fun m a w => ∃ env, lrun (run X x) kp m env k = some out ∧ St A X env a w) (m := X.n) ⟨_, hr, head_sound hs kp⟩ ?_
      rintro m a w ⟨env, hr, hs⟩
      cases m with
      | zero => simp [lrun] at hr
      | succ m =>
        refine ih env _ out _ a w hr hs fun e env' a' w' hK hh => ?_
        cases e with
        | normal => exact ⟨m, Nat.lt_succ_self m, _, hK, head_sound hh kp⟩
        | exit id => exact hk (.exit id) env' a' w' hK hh
        | goto l => exact hk (.goto l) env' a' w' hK hh
        | ret => exact hk .ret env' a' w' hK hh
    · cases hr
  | rangeFunc f ps x y ihx ihy => intro env k out Q a w hr; simp [run] at hr
  | scope x ih => intro env k out Q a w hr; simp [run] at hr
  | goto l => intro env k out Q a w hr; simp [run] at hr
  | refuse s => intro env k out Q a w hr; simp [run] at hr
end
end
end Go.VI
/- VI, part 26: a function's answer. -/
namespace Go.VI
noncomputable section
open Go.RowKit
section
variable {A : Fix} {X : Ctx} {γ : Gh} {Fr : Nat → Prop} {env env' : Env} {a : Act} {w w' : World}
def OCell (A : Fix) (γ : Gh) (Fr : Nat → Prop) (env : Env) (w : World) (c : Cell) (u : Value) (o : Option Loc) : Prop :=
  match c with
  | .own e t _ l => (∃ x ver, o = some x ∧ envCell env x = some (.own e t ver l) ∧ u = γ.φ x ∧ x.s.isLent = false) ∨ (o = none ∧ u = .slice none 0 0 ∧ l = [] ∧ 0 < t.size)
  | c => GoodR A γ w Fr c u ∧ o = none
def OCells (A : Fix) (γ : Gh) (Fr : Nat → Prop) (env : Env) (w : World) (xs xs' : List Loc) (cs : List Cell) (us : List Value) (os : List (Option Loc)) : Prop :=
  us.length = cs.length ∧ os.length = cs.length ∧ (∀ (j : Nat) (c : Cell) (u : Value) (o : Option Loc), cs[j]? = some c → us[j]? = some u → os[j]? = some o → OCell A γ Fr env w c u o ∧ ∀ x, o = some x → x ∈ xs' ∧ x ∉ xs) ∧
  (∀ (j j' : Nat) (x : Loc), os[j]? = some (some x) → os[j']? = some (some x) → j = j') ∧ ∀ x ∈ xs, x ∈ xs'
theorem outCells_sound (h : Core A X γ Fr env a w) : ∀ (cs : List Cell) (xs : List Loc) (us : List Value) (cs' : List Cell) (xs' : List Loc) (l0 l1 : List Slot), RelCs A γ w Fr cs us →
    (outCells xs cs).eval env.get l0 = some ((cs', xs'), l1) → ∃ os, OCells A γ Fr env w xs xs' cs' us os
  | [], xs, us, cs', xs', l0, l1, hr, he => by
    simp only [outCells, Rd.eval, Option.some.injEq, Prod.mk.injEq] at he
    obtain ⟨⟨rfl, rfl⟩, _⟩ := he
    rw [show us = [] from hr]
    exact ⟨[], rfl, rfl, by simp, by simp, fun x hx => hx⟩
  | c :: r, xs, us0, cs', xs', l0, l1, hr0, he => by
    obtain ⟨u, us', rfl, hg, hr⟩ := hr0
    have cons : ∀ (c' : Cell) (o : Option Loc) (xs1 : List Loc) (q1 : List Cell) (os : List (Option Loc)), OCell A γ Fr env w c' u o → (∀ x, o = some x → x ∈ xs1 ∧ x ∉ xs) → (∀ x ∈ xs, x ∈ xs1) → OCells A γ Fr env w xs1 xs' q1 us' os →
        OCells A γ Fr env w xs xs' (c' :: q1) (u :: us') (o :: os) := by
      intro c' o xs1 q1 os k1 k2 k3 ⟨m1, m2, m3, m4, m5⟩
      refine ⟨by simp [m1], by simp [m2], fun j c u' o' hc hu ho => ?_, fun j j' x hj hj' => ?_, fun x hx => m5 x (k3 x hx)⟩
      · cases j with
        | zero =>
          simp at hc hu ho
          subst hc; subst hu; subst ho
          exact ⟨k1, fun x hx => ⟨m5 x (k2 x hx).1, (k2 x hx).2⟩⟩
        | succ j =>
          obtain ⟨n1, n2⟩ := m3 j c u' o' (by simpa using hc) (by simpa using hu) (by simpa using ho)
          exact ⟨n1, fun x hx => ⟨(n2 x hx).1, fun hm => (n2 x hx).2 (k3 x hm)⟩⟩
      · have far : ∀ (k : Nat) (x : Loc), o = some x → os[k]? = some (some x) → False := by
          intro k x ho hk
          have hlt : k < q1.length := by rw [← m2]; exact (List.getElem?_eq_some_iff.1 hk).1
          have := (m3 k _ _ _ (List.getElem?_eq_getElem hlt) (List.getElem?_eq_getElem (by omega)) hk).2 x rfl
          exact this.2 (k2 x ho).1
        cases j with
        | zero => cases j' with
          | zero => rfl
          | succ j' => simp at hj hj'; exact (far j' x hj hj').elim
        | succ j => cases j' with
          | zero => simp at hj hj'; exact (far j x hj' hj).elim
          | succ j' => rw [m4 j j' x (by simpa using hj) (by simpa using hj')]
    have plain : (∀ e t v l, c ≠ .own e t v l) → ((outCells xs r).bind fun q => Rd.pure (c :: q.1, q.2)).eval env.get l0 = some ((cs', xs'), l1) → ∃ os, OCells A γ Fr env w xs xs' cs' (u :: us') os := by
      intro hno he
      simp only [Rd.eval_bind, Option.bind_eq_some_iff] at he
      obtain ⟨⟨⟨q1, q2⟩, l2⟩, h1, h2⟩ := he
      simp only [Rd.eval, Option.some.injEq, Prod.mk.injEq] at h2
      obtain ⟨⟨rfl, rfl⟩, _⟩ := h2
      obtain ⟨os, ho⟩ := outCells_sound h r xs us' q1 _ l0 l2 hr h1
      refine ⟨none :: os, cons c none xs q1 os ?_ (by simp) (fun x hx => hx) ho⟩
      unfold OCell
      split
      · exact absurd rfl (hno _ _ _ _)
      · exact ⟨hg, rfl⟩
    cases c with
    | view x ver =>
      simp only [outCells] at he
      cases hmm : (memLoc x xs || x.s.isLent) with
      | true => rw [hmm] at he; simp [Rd.eval] at he
      | false =>
        rw [hmm] at he
        simp only [Bool.or_eq_false_iff] at hmm
        obtain ⟨hm, hnl⟩ := hmm
        simp only [cond_false, Rd.eval_bind, Option.bind_eq_some_iff] at he
        obtain ⟨⟨⟨e, t, l⟩, l2⟩, h1, ⟨⟨q1, q2⟩, l3⟩, h2, h3⟩ := he
        simp only [Rd.eval, Option.some.injEq, Prod.mk.injEq] at h3
        obtain ⟨⟨rfl, rfl⟩, _⟩ := h3
        have hx := ownerAt_eval h1
        obtain ⟨os, ho⟩ := outCells_sound h r (x :: xs) us' q1 _ l2 l3 hr h2
        have hnx : x ∉ xs := fun hh => by rw [(memLoc_iff x xs).2 hh] at hm; cases hm
        refine ⟨some x :: os, cons _ (some x) (x :: xs) q1 os (.inl ⟨x, ver, rfl, hx, hg.1.trans (h.own x e t ver l hx).1, hnl⟩) (fun y hy => ?_) (fun y hy => by simp [hy]) ho⟩
        injection hy with hy
        subst hy
        exact ⟨by simp, hnx⟩
    | nil e t =>
      simp only [outCells] at he
      cases hs : Nat.blt 0 t.size with
      | false => rw [hs] at he; simp [Rd.eval] at he
      | true =>
        rw [hs] at he
        simp only [cond_true, Rd.eval_bind, Option.bind_eq_some_iff] at he
        obtain ⟨⟨⟨q1, q2⟩, l2⟩, h1, h2⟩ := he
        simp only [Rd.eval, Option.some.injEq, Prod.mk.injEq] at h2
        obtain ⟨⟨rfl, rfl⟩, _⟩ := h2
        obtain ⟨os, ho⟩ := outCells_sound h r xs us' q1 _ l0 l2 hr h1
        exact ⟨none :: os, cons _ none xs q1 os (.inr ⟨rfl, hg.1, rfl, Nat.le_of_ble_eq_true hs⟩) (by simp) (fun x hx => hx) ho⟩
    | int k n => exact plain (by simp) he
    | bool b => exact plain (by simp) he
    | str s => exact plain (by simp) he
    | imm t l p => exact plain (by simp) he
    | _ => simp [outCells, Rd.eval] at he
def Outs (A : Fix) (γ : Gh) (Fr : Nat → Prop) (env : Env) (w : World) : List Loc → Out → List Value → Prop
  | _, [], vs => vs = []
  | xs, p :: r, vs => ∃ us os vs' xs', vs = mkVal p.1 us :: vs' ∧ (p.1 = false → us.length = 1) ∧ OCells A γ Fr env w xs xs' p.2 us os ∧ Outs A γ Fr env w xs' r vs'
theorem outOf_sound (h : Core A X γ Fr env a w) (K : Known A X) : ∀ (rs : List ResultVar) (xs : List Loc) (out : Out) (l0 l1 : List Slot), (outOf X xs rs).eval env.get l0 = some (out, l1) →
    ∃ vs, (rs.mapM fun | .tmp t => pure (a.tmps.getD t undef) | .cell b t => do loadVar t (← asAddr (a.tmps.getD b undef)) : Sem (List Value)).run A.P w = .ok vs w ∧ Outs A γ Fr env w xs out vs
  | [], xs, out, l0, l1, he => by
    simp only [outOf, Rd.eval, Option.some.injEq, Prod.mk.injEq] at he
    obtain ⟨rfl, _⟩ := he
    exact ⟨[], rfl, rfl⟩
  | .tmp t :: r, xs, out, l0, l1, he => by
    simp only [outOf, Rd.eval] at he
    have hr := h.asRead t
    revert he hr
    generalize asRead (.tmp t) (env.get (.tmp t)) = av
    intro he hr
    cases av with
    | val g cs =>
      simp only [Rd.eval_bind, Option.bind_eq_some_iff] at he
      obtain ⟨⟨⟨cs', xs'⟩, l2⟩, h1, ⟨q, l3⟩, h2, h3⟩ := he
      simp only [Rd.eval, Option.some.injEq, Prod.mk.injEq] at h3
      obtain ⟨rfl, _⟩ := h3
      obtain ⟨us, hv, hg, hcs⟩ := hr
      obtain ⟨os, ho⟩ := outCells_sound h cs xs us cs' xs' _ _ hcs h1
      obtain ⟨vs, k1, k2⟩ := outOf_sound h K r xs' q _ _ h2
      refine ⟨mkVal g us :: vs, ?_, us, os, vs, xs', rfl, fun hgf => by rw [hcs.length]; exact hg hgf, ho, k2⟩
      simp only [List.mapM_cons, Sem.run_bind, Sem.run_pure, Result.andThen_ok, k1, hv]
    | skip => simp [Rd.eval] at he
    | undef => simp [Rd.eval] at he
    | tup l => simp [Rd.eval] at he
    | box _ _ _ => simp [Rd.eval] at he
    | num _ => simp [Rd.eval] at he
  | .cell b T :: r, xs, out, l0, l1, he => by
    simp only [outOf, Rd.eval_bind, Option.bind_eq_some_iff, Ctx.ti, Rd.eval_ofOpt, Option.map_eq_some_iff] at he
    obtain ⟨_, ⟨ti, m1, rfl⟩, ⟨c, l2⟩, m2, ⟨cs, l3⟩, m3, ⟨⟨cs', xs'⟩, l4⟩, m4, ⟨q, l5⟩, m5, m6⟩ := he
    simp only [Rd.eval, Option.some.injEq, Prod.mk.injEq] at m6
    obtain ⟨rfl, _⟩ := m6
    have ht := K.types T ti m1
    obtain ⟨ad, us, hv, hr, hl, hc⟩ := cellsAt_sound h K.globals (rdCell_sound h m2) m3
    obtain ⟨os, ho⟩ := outCells_sound h cs xs us cs' xs' _ _ hr m4
    obtain ⟨vs, k1, k2⟩ := outOf_sound h K r xs' q _ _ m5
    have hv : a.tmps.getD b undef = .pointer (some ad) := hv
    refine ⟨mkVal ti.agg us :: vs, ?_, us, os, vs, xs', rfl, fun hg => by rw [hl]; exact ht.one hg, ho, k2⟩
    have hasA : (asAddr (a.tmps.getD b undef)).run A.P w = .ok ad w := by rw [hv]; rfl
    simp only [List.mapM_cons, Sem.run_bind, hasA, Sem.run_pure, Result.andThen_ok, run_loadVar_at ht hl hc, k1]
theorem Outs.all : ∀ (out : Out) (xs : List Loc) (vs : List Value), Outs A γ Fr env w xs out vs → ∃ (f : Nat → Nat → Value) (loc : Nat → Nat → Option Loc), vs.length = out.length ∧
    (∀ i p, out[i]? = some p → vs[i]? = some (mkVal p.1 ((List.range p.2.length).map (f i))) ∧ (p.1 = false → p.2.length = 1) ∧ ∀ j c, p.2[j]? = some c → OCell A γ Fr env w c (f i j) (loc i j)) ∧
    (∀ i j x, loc i j = some x → x ∉ xs) ∧ ∀ i j i' j' x, loc i j = some x → loc i' j' = some x → i = i' ∧ j = j'
  | [], xs, vs, h => ⟨fun _ _ => undef, fun _ _ => none, by rw [show vs = [] from h]; rfl, by simp, by simp, by simp⟩
  | p :: r, xs, vs, ⟨us, os, vs', xs', h1, h2, ⟨m1, m2, m3, m4, m5⟩, h4⟩ => by
    obtain ⟨f, loc, k1, k2, k3, k4⟩ := Outs.all r xs' vs' h4
    have hos : ∀ j x, os.getD j none = some x → os[j]? = some (some x) := by
      intro j x hj
      rw [List.getD_eq_getElem?_getD] at hj
      cases ho : os[j]? with
      | none => rw [ho] at hj; cases hj
      | some o => rw [ho] at hj; rw [show o = some x from hj]
    have hin : ∀ j x, os.getD j none = some x → x ∈ xs' ∧ x ∉ xs := by
      intro j x hj
      have ho := hos j x hj
      have hlt : j < p.2.length := by rw [← m2]; exact (List.getElem?_eq_some_iff.1 ho).1
      exact (m3 j _ _ _ (List.getElem?_eq_getElem hlt) (List.getElem?_eq_getElem (by omega)) ho).2 x rfl
    refine ⟨fun i j => match i with | 0 => us.getD j undef | i + 1 => f i j, fun i j => match i with | 0 => os.getD j none | i + 1 => loc i j, by rw [h1]; simp [k1], fun i q hq => ?_, fun i j x hx => ?_, fun i j i' j' x hx hx' => ?_⟩
    · cases i with
      | zero =>
        simp only [List.getElem?_cons_zero, Option.some.injEq] at hq
        subst hq
        refine ⟨by rw [h1, range_map_getD us _ m1]; rfl, fun hg => by rw [← m1]; exact h2 hg, fun j c hc => ?_⟩
        have hlt : j < p.2.length := (List.getElem?_eq_some_iff.1 hc).1
        have hu : us[j]? = some us[j] := List.getElem?_eq_getElem (by omega)
        have ho : os[j]? = some os[j] := List.getElem?_eq_getElem (by omega)
        have := (m3 j c _ _ hc hu ho).1
        have e2 : os.getD j none = os[j] := by simp [List.getD, ho]
        simp only [getD_of hu, e2]
        exact this
      | succ i =>
        obtain ⟨g1, g2, g3⟩ := k2 i q (by simpa using hq)
        exact ⟨by rw [h1]; simpa using g1, g2, g3⟩
    · cases i with
      | zero => exact (hin j x hx).2
      | succ i => exact fun hm => k3 i j x hx (m5 x hm)
    · cases i with
      | zero => cases i' with
        | zero => exact ⟨rfl, m4 j j' x (hos j x hx) (hos j' x hx')⟩
        | succ i' => exact (k3 i' j' x hx' (hin j x hx).1).elim
      | succ i => cases i' with
        | zero => exact (k3 i j x hx (hin j' x hx').1).elim
        | succ i' => obtain ⟨e1, e2⟩ := k4 i j i' j' x hx hx'; exact ⟨by rw [e1], e2⟩
inductive Dec : Cell → RCell → Prop where
  | flat (c : Cell) (h : zcell c = true) (ho : ∀ e t v l, c ≠ .own e t v l) : Dec c (.flat c)
  | own (e : TypeId) (t : Ty) (v : Nat) (l : List t.den) : Dec (.own e t v l) (.own e t l)
  | froze (e : TypeId) (t : Ty) (v : Nat) (l : List t.den) : Dec (.own e t v l) (.imm t l)
  | imm (t : Ty) (l : List t.den) (p : Option Nat) : Dec (.imm t l p) (.imm t l)
  | pass (t : Ty) (l : List t.den) (j : Nat) : Dec (.imm t l (some j)) (.pass j)
def Decs (cs : List Cell) (rs : List RCell) : Prop := cs.length = rs.length ∧ ∀ (j : Nat) (c : Cell) (rc : RCell), cs[j]? = some c → rs[j]? = some rc → Dec c rc
theorem Decs.append {cs cs' : List Cell} {rs rs' : List RCell} (h : Decs cs rs) (h' : Decs cs' rs') : Decs (cs ++ cs') (rs ++ rs') := by
  refine ⟨by simp [h.1, h'.1], fun j c rc hc hr => ?_⟩
  by_cases hj : j < cs.length
  · rw [List.getElem?_append_left hj] at hc
    rw [List.getElem?_append_left (by rw [← h.1]; exact hj)] at hr
    exact h.2 j c rc hc hr
  · rw [List.getElem?_append_right (by omega)] at hc
    rw [List.getElem?_append_right (by rw [← h.1]; omega), ← h.1] at hr
    exact h'.2 _ c rc hc hr
theorem Decs.one {c : Cell} {rc : RCell} (h : Dec c rc) : Decs [c] [rc] := ⟨rfl, fun j c' rc' hc hr => by
  cases j <;> simp at hc hr
  subst hc; subst hr; exact h⟩
theorem decodeM_sound : ∀ (t : Ty) (ms : List RMode) (cs : List Cell) (x : t.den) (r : List Cell) (ms' : List RMode), decodeM t ms cs = some (x, r, ms') → ∃ c1, cs = c1 ++ r ∧ Decs c1 (resM t x ms).1 ∧ (resM t x ms).2 = ms'
  | .int k, ms, cs, x, r, ms', h => by
    cases cs with
    | nil => simp [decodeM] at h
    | cons c cs =>
      cases c <;> simp [decodeM] at h
      obtain ⟨rfl, rfl, rfl, rfl⟩ := h
      exact ⟨_, rfl, Decs.one (.flat _ rfl (by simp)), rfl⟩
  | .bool, ms, cs, x, r, ms', h => by
    cases cs with
    | nil => simp [decodeM] at h
    | cons c cs =>
      cases c <;> simp [decodeM] at h
      obtain ⟨rfl, rfl, rfl⟩ := h
      exact ⟨_, rfl, Decs.one (.flat _ rfl (by simp)), rfl⟩
  | .str, ms, cs, x, r, ms', h => by
    cases cs with
    | nil => simp [decodeM] at h
    | cons c cs =>
      cases c <;> simp [decodeM] at h
      obtain ⟨rfl, rfl, rfl⟩ := h
      exact ⟨_, rfl, Decs.one (.flat _ rfl (by simp)), rfl⟩
  | .unit, ms, cs, x, r, ms', h => by
    simp [decodeM] at h
    obtain ⟨rfl, rfl⟩ := h
    exact ⟨[], rfl, ⟨rfl, by simp⟩, rfl⟩
  | .pair a b, ms, cs, x, r, ms', h => by
    simp only [decodeM, Option.bind_eq_some_iff] at h
    obtain ⟨⟨x1, r1, m1⟩, h1, ⟨x2, r2, m2⟩, h2, h3⟩ := h
    simp only [Option.some.injEq, Prod.mk.injEq] at h3
    obtain ⟨rfl, rfl, rfl⟩ := h3
    obtain ⟨c1, rfl, d1, e1⟩ := decodeM_sound a ms cs x1 r1 m1 h1
    obtain ⟨c2, e0, d2, e2⟩ := decodeM_sound b m1 r1 x2 r2 m2 h2
    refine ⟨c1 ++ c2, by rw [e0, List.append_assoc], ?_, ?_⟩
    · simp only [resM, e1]; exact d1.append d2
    · simp only [resM, e1]; exact e2
  | .sl t, ms, cs, x, r, ms', h => by
    cases ms with
    | nil => simp [decodeM] at h
    | cons m ms =>
      cases cs with
      | nil => cases m <;> simp [decodeM] at h
      | cons c cs =>
        cases m with
        | own e =>
          cases c <;> simp only [decodeM, reduceCtorEq] at h
          split at h
          · rename_i hh
            obtain ⟨rfl, rfl⟩ := hh
            simp only [Option.some.injEq, Prod.mk.injEq] at h
            obtain ⟨rfl, rfl, rfl⟩ := h
            exact ⟨_, rfl, Decs.one (.own _ _ _ _), rfl⟩
          · cases h
        | imm =>
          cases c <;> simp only [decodeM, reduceCtorEq] at h
          · split at h
            · rename_i hh
              subst hh
              simp only [Option.some.injEq, Prod.mk.injEq] at h
              obtain ⟨rfl, rfl, rfl⟩ := h
              exact ⟨_, rfl, Decs.one (.froze _ _ _ _), rfl⟩
            · cases h
          · split at h
            · rename_i hh
              subst hh
              simp only [Option.some.injEq, Prod.mk.injEq] at h
              obtain ⟨rfl, rfl, rfl⟩ := h
              exact ⟨_, rfl, Decs.one (.imm _ _ _), rfl⟩
            · cases h
        | pass j =>
          cases c <;> try (simp [decodeM] at h; done)
          rename_i t' l p
          cases p with
          | none => simp [decodeM] at h
          | some j' =>
            simp only [decodeM] at h
            split at h
            · rename_i hh
              obtain ⟨rfl, rfl⟩ := hh
              simp only [Option.some.injEq, Prod.mk.injEq] at h
              obtain ⟨rfl, rfl, rfl⟩ := h
              exact ⟨_, rfl, Decs.one (.pass _ _ _), rfl⟩
            · cases h
theorem decodeL_sound : ∀ (R : List (Bool × Ty)) (ms : List RMode) (out : Out) (r : denL R), decodeL R ms out = some r →
    out.length = (resL R r ms).length ∧ ∀ (i : Nat) (p : Bool × List RCell) (q : Bool × List Cell), (resL R r ms)[i]? = some p → out[i]? = some q → q.1 = p.1 ∧ Decs q.2 p.2
  | [], ms, out, r, h => by
    cases out with
    | nil => exact ⟨rfl, by simp⟩
    | cons p q => simp [decodeL] at h
  | p :: R, ms, out, r, h => by
    cases out with
    | nil => simp [decodeL] at h
    | cons q out =>
      obtain ⟨g, cs⟩ := q
      simp only [decodeL] at h
      cases hg : (p.1 == g) with
      | false => rw [hg] at h; simp at h
      | true =>
        rw [hg] at h
        have hg : p.1 = g := by simpa using hg
        simp only [cond_true] at h
        split at h
        · rename_i x ms' hx
          simp only [Option.map_eq_some_iff] at h
          obtain ⟨y, h1, rfl⟩ := h
          obtain ⟨c1, e1, d1, e2⟩ := decodeM_sound p.2 ms cs x [] ms' hx
          rw [List.append_nil] at e1
          subst e1
          obtain ⟨k1, k2⟩ := decodeL_sound R ms' out y h1
          simp only [resL, e2]
          refine ⟨by simp [k1], fun i p' q' hp hq => ?_⟩
          cases i with
          | zero =>
            simp at hp hq
            subst hp; subst hq
            exact ⟨hg.symm, d1⟩
          | succ i => exact k2 i p' q' (by simpa using hp) (by simpa using hq)
        · cases h
theorem OwnV.rebase {Z : Nat → Prop} {w : World} {B B' : Nat} {e : TypeId} {t : Ty} {v : Value} {l : List t.den} (h : OwnV Z w B e t v l) (hB : ∀ g, v.ownBlock = some g → B' ≤ g) : OwnV Z w B' e t v l := by
  obtain ⟨h0, xs, ho, hr⟩ := h
  refine ⟨h0, xs, ⟨ho.1, ?_⟩, hr⟩
  rcases ho.2 with hn | ⟨g, cap, cur, fz, h1, h2, rest⟩
  · exact .inl hn
  · exact .inr ⟨g, cap, cur, fz, h1, hB g (by rw [h1]; rfl), rest⟩
theorem fin_rel (h : Core A X γ Fr env a w) {R : List (Bool × Ty)} {ms : List RMode} {out : Out} {r : denL R} {vs : List Value} (hd : decodeL R ms out = some r) (ho : Outs A γ Fr env w [] out vs) :
    ∃ Z', (∀ g, γ.Z g → Z' g) ∧ (∀ g, Z' g → γ.Z g ∨ (A.w0.heap.size ≤ g ∧ g < w.heap.size)) ∧ ResRel Z' w A.w0.heap.size A.pars (resL R r ms) vs := by
  obtain ⟨f, loc, k1, k2, _, k4⟩ := ho.all
  obtain ⟨d1, d2⟩ := decodeL_sound R ms out r hd
  have hout : ∀ (i : Nat) (p : Bool × List RCell), (resL R r ms)[i]? = some p → ∃ q, out[i]? = some q ∧ q.1 = p.1 ∧ Decs q.2 p.2 := by
    intro i p hp
    have hlt : i < out.length := by rw [d1]; exact (List.getElem?_eq_some_iff.1 hp).1
    exact ⟨_, List.getElem?_eq_getElem hlt, d2 i p _ hp (List.getElem?_eq_getElem hlt)⟩
  have hcell : ∀ (i j : Nat) (p : Bool × List RCell) (rc : RCell), (resL R r ms)[i]? = some p → p.2[j]? = some rc → ∃ c, Dec c rc ∧ OCell A γ Fr env w c (f i j) (loc i j) := by
    intro i j p rc hp hj
    obtain ⟨q, hq, _, hdec⟩ := hout i p hp
    have hlt : j < q.2.length := by rw [hdec.1]; exact (List.getElem?_eq_some_iff.1 hj).1
    exact ⟨_, hdec.2 j _ rc (List.getElem?_eq_getElem hlt) hj, (k2 i q hq).2.2 j _ (List.getElem?_eq_getElem hlt)⟩
  refine ⟨fun g => γ.Z g ∨ ∃ (i j : Nat) (p : Bool × List RCell) (t : Ty) (l : List t.den) (x : Loc) (e : TypeId) (ver : Nat) (l' : List t.den), (resL R r ms)[i]? = some p ∧ p.2[j]? = some (.imm t l) ∧ loc i j = some x ∧ envCell env x = some (.own e t ver l') ∧ x.s.isLent = false ∧ (γ.φ x).ownBlock = some g,
    fun g hg => .inl hg, ?_, f, by rw [k1, d1], fun i p hp => ?_, ?_⟩
  · rintro g (hg | ⟨i, j, p, t, l, x, e, ver, l', _, _, _, hx, hnl, hb⟩)
    · exact .inl hg
    · exact .inr ⟨h.fresh x _ _ _ _ hx hnl g hb, ((h.cell x _ hx).1.lt g hb).2⟩
  · obtain ⟨q, hq, hq1, hdec⟩ := hout i p hp
    obtain ⟨g1, g2, _⟩ := k2 i q hq
    rw [hq1, hdec.1] at g1 g2
    refine ⟨g1, g2, fun j rc hrc => ?_⟩
    obtain ⟨c, hdc, hoc⟩ := hcell i j p rc hp hrc
    cases hdc with
    | flat c hz hno =>
      have hg : GoodR A γ w Fr c (f i j) := by
        unfold OCell at hoc
        split at hoc
        · exact absurd rfl (hno _ _ _ _)
        · exact hoc.1
      refine ⟨hz, ?_⟩
      cases c <;> simp [zcell] at hz
      all_goals exact hg.1
    | own e t v l =>
      rcases hoc with ⟨x, ver, hlx, hx, hu, hnl⟩ | ⟨_, hu, rfl, hs⟩
      · refine ⟨by rw [hu]; exact OwnV.rebase ((h.cell x _ hx).1.mono (fun g hg => .inl hg) (fun _ _ => rfl) (fun _ _ => rfl)) (fun g hg => h.fresh x _ _ _ _ hx hnl g hg), fun g hg => ?_⟩
        rw [hu] at hg
        obtain ⟨a1, a2, a3⟩ := (h.own x e t ver l hx).2.2 g hg
        rintro (hz | ⟨i', j', p', t', l1, x', e', ver', l', hp', hj', hlx', hx', _, hb⟩)
        · exact a1 hz
        · have hxx := a3 x' e' t' ver' l' hx' hb
          subst hxx
          obtain ⟨rfl, rfl⟩ := k4 i j i' j' x' hlx hlx'
          rw [hp] at hp'
          injection hp' with hp'
          subst hp'
          rw [hrc] at hj'
          cases hj'
      · rw [hu]
        exact ⟨OwnV.nil hs, fun g hg => by simp [Value.ownBlock] at hg⟩
    | froze e t v l =>
      rcases hoc with ⟨x, ver, hlx, hx, hu, hnl⟩ | ⟨_, hu, rfl, hs⟩
      · simp only [RRel]
        rw [hu]
        exact (h.cell x _ hx).1.reads _ (fun g hg => .inl hg) (fun g hg => .inr ⟨i, j, p, t, l, x, e, ver, l, hp, hrc, hlx, hx, hnl, hg⟩)
      · simp only [RRel]
        rw [hu]
        exact ⟨none, 0, rfl, Nat.le_refl _, fun i x hx => by simp at hx⟩
    | imm t l pr =>
      have hg : GoodR A γ w Fr (.imm t l pr) (f i j) := hoc.1
      exact RepI.mono (fun g hg => .inl hg) (fun _ _ => rfl) _ _ _ hg.1.1
    | pass t l k =>
      have hg : GoodR A γ w Fr (.imm t l (some k)) (f i j) := hoc.1
      exact hg.1.2 k rfl
  · intro i j i' j' p p' rc rc' g hp hj hr hp' hj' hr' hg hg'
    obtain ⟨c, hdc, hoc⟩ := hcell i j p rc hp hj
    obtain ⟨c', hdc', hoc'⟩ := hcell i' j' p' rc' hp' hj'
    cases hdc <;> simp [RCell.isOwn] at hr
    cases hdc' <;> simp [RCell.isOwn] at hr'
    rcases hoc with ⟨x, ver, hlx, hx, hu, _⟩ | ⟨_, hu, _, _⟩
    · rcases hoc' with ⟨x', ver', hlx', hx', hu', _⟩ | ⟨_, hu', _, _⟩
      · rw [hu] at hg
        rw [hu'] at hg'
        have := ((h.own x _ _ _ _ hx).2.2 g hg).2.2 x' _ _ _ _ hx' hg'
        subst this
        exact k4 i j i' j' x' hlx hlx'
      · rw [hu'] at hg'; simp [Value.ownBlock] at hg'
    · rw [hu] at hg; simp [Value.ownBlock] at hg
end
end
end Go.VI
/- VI, part 27: a function keeps the contract that the run tells. -/
namespace Go.VI
noncomputable section
open Go.RowKit
theorem argEnv_other : ∀ (As : List ATy) (xs : denA As) (i j : Nat) (s : Slot), (∀ t, s ≠ .tmp t) → (argEnv As xs i j).get s = .undef
  | [], _, _, _, _, _ => rfl
  | a :: r, xs, i, j, s, h => by
    simp only [argEnv]
    rw [Env.get_cons_ne _ _ (fun e => h i e.symm)]
    exact argEnv_other r xs.2 _ _ s h
section
variable {A : Fix} {γ : Gh} {w : World}
def ArgRel (P : Program) (G : World → Prop) (Z : Nat → Prop) (w : World) : (a : ATy) → a.den → Value → Prop
  | .data g t, x, v => ∃ us, v = mkVal g us ∧ (g = false → us.length = 1) ∧ RepI Z w t x us
  | .ptr t, x, v => ∃ (ad : Addr) (us : List Value), v = .pointer (some ad) ∧ Z ad.block ∧ RepI Z w t x us ∧ ∀ j u, us[j]? = some u → w.cell? (ad.add j) = some u
  | .clo a b, F, v => CloOK P G Z w a b F v
  | .lrow .., _, _ => False
  | .lptr _, _, _ => False
theorem argCells_rel (a : ATy) (x : a.den) (j : Nat) (v : Value) (vs : List Value) (hp : ∀ (m : Nat) (u : Value), (avsOf (v :: vs))[m]? = some u → A.pars[j + m]? = some u)
    (h : ArgRel A.P A.G γ.Z w a x v) :
    ∃ us, v = mkVal (argCells a x j).1 us ∧ v.cells.toList = us ∧ us.length = (argCells a x j).2.length ∧ ((argCells a x j).1 = false → (argCells a x j).2.length = 1) ∧
      ∀ (m : Nat) (c : Cell) (u : Value), (argCells a x j).2[m]? = some c → us[m]? = some u → RelCell A γ w c u ∧ u.oneCell' = true ∧ refs c = none ∧ c.isOwn = false := by
  cases a with
  | data g t =>
    obtain ⟨us, hv, hg, hr⟩ := h
    have he := explode_rel (A := A) (γ := γ) (w := w) (Fr := fun _ => False) t x us hr
    have hc : v.cells = us.toArray := by rw [hv]; exact mkVal_cells he.one hg
    have hlen : us.length = (argCells (.data g t) x j).2.length := by simp [argCells, he.length]
    have hnr : ∀ (t : Ty) (x : t.den), ∀ c ∈ explode t x, refs c = none := by
      intro t
      induction t with
      | int k => intro x c hc; simp [explode] at hc; subst hc; rfl
      | bool => intro x c hc; simp [explode] at hc; subst hc; rfl
      | str => intro x c hc; simp [explode] at hc; subst hc; rfl
      | unit => intro x c hc; simp [explode] at hc
      | pair a b iha ihb =>
        intro x c hc
        simp only [explode, List.mem_append] at hc
        rcases hc with hc | hc
        · exact iha x.1 c hc
        · exact ihb x.2 c hc
      | sl t _ => intro x c hc; simp [explode] at hc; subst hc; rfl
    refine ⟨us, hv, by rw [hc], hlen, fun hgf => by rw [← hlen]; exact hg hgf, fun m c u hcm hu => ?_⟩
    simp only [argCells, List.getElem?_map, List.getElem?_zipIdx, Option.map_map, Option.map_eq_some_iff, Function.comp_apply] at hcm
    obtain ⟨c0, hc0, rfl⟩ := hcm
    obtain ⟨u', hu', g1, g2, g3, g4⟩ := he.get hc0
    rw [hu] at hu'
    injection hu' with hu'
    subst hu'
    have hn := hnr t x c0 (List.mem_of_getElem? hc0)
    cases c0 with
    | imm t' l' p' =>
      refine ⟨⟨g1.1, fun k hk => ?_⟩, g2, rfl, rfl⟩
      injection hk with hk
      rw [← hk, Nat.zero_add]
      have : avsOf (v :: vs) = us ++ avsOf vs := by simp [avsOf, hc]
      refine hp m u ?_
      rw [this, List.getElem?_append_left (List.getElem?_eq_some_iff.1 hu).1]
      exact hu
    | _ => exact ⟨g1, g2, hn, g4⟩
  | ptr t =>
    obtain ⟨ad, us, rfl, hz, hr, hc⟩ := h
    have had : ad.add 0 = ad := by simp [Addr.add]
    refine ⟨[.pointer (some ad)], rfl, rfl, rfl, fun _ => rfl, fun m c u hcm hu => ?_⟩
    cases m <;> simp [argCells] at hcm hu
    subst hcm; subst hu
    exact ⟨⟨ad, us, by rw [had], hz, hr, hc⟩, rfl, rfl, rfl⟩
  | clo as rs =>
    have hv : ∃ f caps, v = .func (.func f) #[] caps := by obtain ⟨f, caps, hv, _⟩ := h; exact ⟨f, caps, hv⟩
    obtain ⟨f, caps, rfl⟩ := hv
    refine ⟨[.func (.func f) #[] caps], rfl, rfl, rfl, fun _ => rfl, fun m c u hcm hu => ?_⟩
    cases m <;> simp [argCells] at hcm hu
    subst hcm; subst hu
    exact ⟨h, rfl, rfl, rfl⟩
  | lrow g t es => exact h.elim
  | lptr t => exact h.elim
theorem RelArgs.head {P : Program} {G : World → Prop} {Z : Nat → Prop} {a : ATy} {r : List ATy} {xs : denA (a :: r)} {vs : List Value} (h : RelArgs P G Z w (a :: r) xs vs) : ∃ v vs', vs = v :: vs' ∧ RelArgs P G Z w r xs.2 vs' ∧
    ArgRel P G Z w a xs.1 v := by
  cases a with
  | data g t =>
    obtain ⟨us, vs', h1, h2, h3, h4⟩ := h
    exact ⟨_, _, h1, h4, us, rfl, h2, h3⟩
  | ptr t =>
    obtain ⟨ad, us, vs', h1, h2, h3, h4, h5⟩ := h
    exact ⟨_, _, h1, h5, ad, us, rfl, h2, h3, h4⟩
  | clo a b =>
    obtain ⟨v, vs', h1, h2, h3⟩ := h
    exact ⟨_, _, h1, h3, h2⟩
  | lrow g t es => exact h.elim
  | lptr t => exact h.elim
theorem args_rel : ∀ (As : List ATy) (xs : denA As) (vs : List Value) (i j : Nat), RelArgs A.P A.G γ.Z w As xs vs → (∀ (m : Nat) (u : Value), (avsOf vs)[m]? = some u → A.pars[j + m]? = some u) → vs.length = As.length ∧
    ∀ t, (argEnv As xs i j).get (.tmp t) = .undef ∨ ∃ k v g cs us, t = i + k ∧ vs[k]? = some v ∧ (argEnv As xs i j).get (.tmp t) = .val g cs ∧ v = mkVal g us ∧ v.cells.toList = us ∧ us.length = cs.length ∧ (g = false → cs.length = 1) ∧
      ∀ (m : Nat) (c : Cell) (u : Value), cs[m]? = some c → us[m]? = some u → RelCell A γ w c u ∧ u.oneCell' = true ∧ refs c = none ∧ c.isOwn = false
  | [], xs, vs, i, j, h, _ => ⟨by rw [show vs = [] from h]; rfl, fun t => .inl rfl⟩
  | a :: r, xs, vs, i, j, h, hp => by
    obtain ⟨v, vs', rfl, h2, h3⟩ := h.head
    obtain ⟨us, k1, k2, k3, k4, k5⟩ := argCells_rel a xs.1 j v vs' hp h3
    have hav : avsOf (v :: vs') = us ++ avsOf vs' := by simp [avsOf, k2]
    obtain ⟨m1, m2⟩ := args_rel r xs.2 vs' (i + 1) (j + (argCells a xs.1 j).2.length) h2 (fun m u hu => by
      have := hp (us.length + m) u (by rw [hav, List.getElem?_append_right (by omega)]; rwa [Nat.add_sub_cancel_left])
      rwa [k3, ← Nat.add_assoc] at this)
    refine ⟨by simp [m1], fun t => ?_⟩
    simp only [argEnv]
    rw [Env.get_cons]
    by_cases ht : i = t
    · subst ht
      rw [if_pos rfl]
      exact .inr ⟨0, v, _, _, us, by simp, rfl, rfl, k1, k2, k3, k4, k5⟩
    · rw [if_neg (by simpa using ht)]
      rcases m2 t with hu | ⟨k, v', g, cs, us', e1, e2, rest⟩
      · exact .inl hu
      · exact .inr ⟨k + 1, v', g, cs, us', by omega, by simpa using e2, rest⟩
end
theorem sound_of_run {P : Program} {G : World → Prop} {f : FuncId} {fn : Func} {c : Code} {X : Ctx} {As : List ATy} {R : List (Bool × Ty)} {ms : List RMode} {n0 : Nat} (hm : P.follows .mixedOrders = true) (hst : Stable n0 G) (hty : TyOK P X)
    (hgl : ∀ A : Fix, A.P = P → A.G = G → GlobOK A X) (hcon : ConOK P G X) (hmcon : MConOK P n0 G X) (hf : P.funcs[f]? = some fn) (hb : fn.body = some c) (hn : (fn.name == "runtime.NumGoroutine") = false) (hres : X.results = fn.results.toList) (hnt : X.ntmps = fn.ntmps)
    (hAs : As.length ≤ X.ntmps ∧ X.ntmps ≤ lentBase) : Sound P G f (ofRun X c As R ms) := by
  show ∀ (w : World) (Z : Nat → Prop) (vs : List Value) (xs : denA As) (r : denL R), G w → (∀ g, Z g → g < w.heap.size) → RelArgs P G Z w As xs vs → runF X c As R ms xs = some r →
    FCalls P f vs.toArray w fun v w' => ∃ Z' us, v = mkRes us ∧ Below w.heap.size w w' ∧ (∀ g, Z g → Z' g) ∧ (∀ g, Z' g → Z g ∨ (w.heap.size ≤ g ∧ g < w'.heap.size)) ∧
      ResRel Z' w' w.heap.size (avsOf vs) (resL R r ms) us
  intro w Z vs xs r hG hZ hargs hF
  have hrun := hF
  have hn' : ¬ fn.name = "runtime.NumGoroutine" := by simpa using hn
  refine .inr ⟨by simp [callFunc, program, Sem.run, hf, hb, hn'], calls_of_wp hf hb ?_⟩
  let A : Fix := ⟨P, G, w, avsOf vs, Z, w.heap.size, fun _ => undef, fun _ => none, n0⟩
  have hL : ∀ g, ¬ A.L g := by
    rintro g (⟨k, hk⟩ | ⟨b, hb⟩)
    · exact absurd hk (by simp [A, undef, Value.ownBlock])
    · cases hb
  let γ : Gh := { σ := fun _ _ => 0, ψ := fun _ _ => undef, φ := fun x => match x.s with | .tmp t => ((vs.getD t undef).cells.toList).getD x.j undef | _ => undef, Z := Z }
  have K : Known A X := ⟨hst, ⟨hG, fun g hg => absurd hg (hL g)⟩, hty, hgl A rfl rfl, hcon, hmcon⟩
  obtain ⟨hvl, hav⟩ := args_rel (A := A) (γ := γ) (w := w) As xs vs 0 0 hargs (fun m u hu => by rwa [Nat.zero_add])
  have hcell : ∀ x c, envCell (argEnv As xs 0 0) x = some c → RelCell A γ w c (γ.φ x) ∧ (γ.φ x).oneCell' = true ∧ refs c = none ∧ c.isOwn = false := by
    rintro ⟨s, i, j⟩ c hc
    unfold envCell at hc
    cases s with
    | tmp t =>
      rcases hav t with hu | ⟨k, v, g, cs, us, e1, e2, e3, e4, e5, e6, e7, e8⟩
      · simp only [hu, AV.cell?] at hc; cases hc
      · simp only [e3] at hc
        cases i with
        | succ i => simp [AV.cell?] at hc
        | zero =>
          have hc : cs[j]? = some c := hc
          have hlt : j < us.length := by rw [e6]; exact (List.getElem?_eq_some_iff.1 hc).1
          have hk : t = k := by omega
          subst hk
          have hφ : γ.φ ⟨.tmp t, 0, j⟩ = us[j] := by
            show ((vs.getD t undef).cells.toList).getD j undef = _
            rw [getD_of e2, e5, getD_of (List.getElem?_eq_getElem hlt)]
          rw [hφ]
          exact e8 j c _ hc (List.getElem?_eq_getElem hlt)
    | box b => simp only [argEnv_other As xs 0 0 (.box b) (by simp), AV.cell?] at hc; cases hc
    | ver => simp only [argEnv_other As xs 0 0 .ver (by simp), AV.cell?] at hc; cases hc
    | lent k => simp only [argEnv_other As xs 0 0 (.lent k) (by simp), AV.cell?] at hc; cases hc
  have hbox : ∀ b bv fz cs, (argEnv As xs 0 0).get (.box b) ≠ .box bv fz cs := by
    intro b bv fz cs
    rw [argEnv_other As xs 0 0 (.box b) (by simp)]
    simp
  have hown : ∀ x e t ver l, envCell (argEnv As xs 0 0) x ≠ some (.own e t ver l) := by
    intro x e t ver l hx
    have := (hcell x _ hx).2.2.2
    simp [Cell.isOwn] at this
  have hcore : Core A X γ (fun v => (argEnv As xs 0 0).ver ≤ v) (argEnv As xs 0 0) { tmps := vs.toArray ++ Array.replicate (fn.ntmps - vs.toArray.size) undef, defers := [] } w := by
    refine { frame := ⟨rfl, rfl, rfl, Nat.le_refl _, fun _ _ _ => rfl, Nat.le_refl _⟩, glob := hG, zone := hZ, zone0 := ⟨fun g hg => hg, fun g hg => .inl hg⟩, defers := rfl, size := ?_, ntl := hAs.2, baseB := Nat.le_refl _, tmp := fun t => ?_, box := fun b bv fz cs hb => absurd hb (hbox b bv fz cs), cell := fun x c hc => ?_, own := fun x e t ver l hx => absurd hx (hown x e t ver l), inj := fun b b' bv bv' fz fz' cs cs' hb => absurd hb (hbox b bv fz cs), fresh := fun x e t ver l hx => absurd hx (hown x e t ver l), lent := fun _ => rfl, lentloc := fun k c j cl hx => ?_ }
    · simp only [Array.size_append, List.size_toArray, Array.size_replicate, hvl]
      have := hAs.1
      omega
    · rcases hav t with hu | ⟨k, v, g, cs, us, e1, e2, e3, e4, e5, e6, e7, e8⟩
      · rw [hu]; exact trivial
      · rw [e3]
        have hk : t = k := by omega
        subst hk
        refine ⟨?_, e7⟩
        have hlt : t < vs.length := (List.getElem?_eq_some_iff.1 e2).1
        have hv : (vs.toArray ++ Array.replicate (fn.ntmps - vs.toArray.size) undef).getD t undef = v := by
          rw [Array.getD_eq_getD_getElem?, Array.getElem?_append_left (by simpa using hlt), List.getElem?_toArray, e2]
          rfl
        rw [hv, e4]
        congr 1
        have hφ : ∀ j, γ.φ ⟨.tmp t, 0, j⟩ = us.getD j undef := fun j => by
          show ((vs.getD t undef).cells.toList).getD j undef = _
          rw [getD_of e2, e5]
        rw [← range_map_getD us cs.length e6]
        simp [cellVals, hφ]
    · obtain ⟨h1, h2, h3, _⟩ := hcell x c hc
      exact ⟨h1, h2, fun r hr => by rw [h3] at hr; cases hr⟩
    · unfold envCell at hx
      simp only [argEnv_other As xs 0 0 (.lent k) (by simp), AV.cell?] at hx
      cases hx
  refine run_sound K hm c (argEnv As xs 0 0) (finD X R ms) r _ _ w hrun ⟨γ, hcore⟩ fun e env' a' w' hfinD hst' => ?_
  obtain ⟨out, hfin, hdec⟩ := Option.bind_eq_some_iff.1 hfinD
  obtain ⟨γ', hc'⟩ := hst'
  have done : ((outOf X [] X.results).cps env'.get [] fun o _ => some o) = some out → a'.defers = [] ∧ ∃ v, (results fn a'.tmps).run P w' = .ok v w' ∧
      ∃ v0, Ending.returned v = .returned v0 ∧ ∃ Z' us, v0 = mkRes us ∧ Below w.heap.size w w' ∧ (∀ g, Z g → Z' g) ∧ (∀ g, Z' g → Z g ∨ (w.heap.size ≤ g ∧ g < w'.heap.size)) ∧
      ResRel Z' w' w.heap.size (avsOf vs) (resL R r ms) us := by
    intro hfin
    obtain ⟨o, lg, he, ho⟩ := Rd.cps_some _ _ _ _ _ hfin
    injection ho with ho
    subst ho
    obtain ⟨us, m1, m2⟩ := outOf_sound hc' K X.results [] o [] lg he
    obtain ⟨Z', z1, z2, z3⟩ := fin_rel hc' hdec m2
    refine ⟨hc'.defers, mkRes us, ?_, _, rfl, Z', us, rfl, ⟨hc'.frame.os, hc'.frame.tape, hc'.frame.output, hc'.frame.size, fun k hk => hc'.frame.block k hk (hL k), hc'.frame.drawn⟩, fun g hg => z1 g (hc'.zone0.1 g hg), fun g hg => ?_, z3⟩
    · rw [hres] at m1
      change Sem.run P _ w' = _ at m1
      have hmap : (fn.results.mapM (fun | .tmp t => pure (a'.tmps.getD t undef) | .cell b t => do loadVar t (← asAddr (a'.tmps.getD b undef)) : ResultVar → Sem Value)).run P w' = .ok us.toArray w' := by
        rw [Array.mapM_eq_mapM_toList, Sem.run_map]
        exact congrArg (fun r => Result.andThen r fun l w => Result.ok (List.toArray l) w) m1
      have hbind : (results fn a'.tmps).run P w' = (((fn.results.mapM (fun | .tmp t => pure (a'.tmps.getD t undef) | .cell b t => do loadVar t (← asAddr (a'.tmps.getD b undef)) : ResultVar → Sem Value)).run P w').andThen
          fun vs w => (pure (if h : vs.size = 1 then vs[0] else .tuple vs) : Sem Value).run P w) := by
        rw [← Sem.run_bind]; rfl
      rw [hbind, hmap, Result.andThen_ok]
      match us with
      | [] => rfl
      | [v] => rfl
      | _ :: _ :: _ => rfl
    · rcases z2 g hg with hg | hg
      · rcases hc'.zone0.2 g hg with h0 | h0
        · exact .inl h0
        · exact .inr ⟨h0, hc'.zone g hg⟩
      · exact .inr hg
  cases e with
  | normal => exact done hfin
  | ret => exact done hfin
  | exit id => simp [fin] at hfin
  | goto l => simp [fin] at hfin
end
end Go.VI
/- VI, part 28: a function to which rows and variables are lent keeps the contract that the run tells. -/
namespace Go.VI
noncomputable section
open Go.RowKit
section
variable {A : Fix} {X : Ctx} {γ : Gh} {Fr : Nat → Prop} {env : Env} {a : Act} {w w' : World}
def busOf : List Item → List Value
  | [] => []
  | .row _ _ _ :: r => busOf r
  | .box _ us :: r => us ++ busOf r
def nocell (_ : Cell) : Prop := True
def StartC (A : Fix) (γ : Gh) (w : World) (c : Cell) (u : Value) : Prop := RelCell A γ w c u ∧ u.oneCell' = true ∧ (∀ r, refs c = some r → r = 0) ∧ c.isOwn = false
def StartT (A : Fix) (γ : Gh) (w : World) (v : Value) : AV → Prop
  | .val g cs => ∃ us, v = mkVal g us ∧ v.cells.toList = us ∧ us.length = cs.length ∧ (g = false → cs.length = 1) ∧ ∀ (m : Nat) (c : Cell) (u : Value), cs[m]? = some c → us[m]? = some u → StartC A γ w c u
  | _ => False
def StartB (A : Fix) (γ : Gh) (w : World) : Item → AV → Prop
  | .box g us, .box ver fz cs => ver = 0 ∧ fz = false ∧ us.length = cs.length ∧ (∃ T, w.heap[g]? = some (.cells us.toArray T (0, 0))) ∧ ∀ (m : Nat) (c : Cell) (u : Value), cs[m]? = some c → us[m]? = some u → StartC A γ w c u
  | _, _ => False
def StartR (Z : Nat → Prop) (w : World) : Item → AV → Prop
  | .row v e t, .val g cs => ∃ l, g = false ∧ cs = [.own e t 0 l] ∧ OwnV Z w 0 e t v l
  | _, _ => False
theorem refs_explode : ∀ (t : Ty) (x : t.den), ∀ c ∈ explode t x, refs c = none := by
  intro t
  induction t with
  | int k => intro x c hc; simp [explode] at hc; subst hc; rfl
  | bool => intro x c hc; simp [explode] at hc; subst hc; rfl
  | str => intro x c hc; simp [explode] at hc; subst hc; rfl
  | unit => intro x c hc; simp [explode] at hc
  | pair a b iha ihb =>
    intro x c hc
    simp only [explode, List.mem_append] at hc
    rcases hc with hc | hc
    · exact iha x.1 c hc
    · exact ihb x.2 c hc
  | sl t _ => intro x c hc; simp [explode] at hc; subst hc; rfl
theorem explode_len : ∀ (t : Ty) (x : t.den), (explode t x).length = t.size
  | .int _, _ => rfl
  | .bool, _ => rfl
  | .str, _ => rfl
  | .unit, _ => rfl
  | .pair a b, x => by simp [explode, explode_len a, explode_len b, Ty.size]
  | .sl _, _ => rfl
theorem lent_rel {is0 : List Item} (hψ : ∀ k v e t, is0[k]? = some (.row v e t) → γ.ψ ⟨.lent k, 0, 0⟩ 0 = v) : ∀ (t : Ty) (es : List TypeId) (x : t.den) (us : List Value) (is : List Item) (es' : List TypeId) (k : Nat), RepL γ.Z w t es x us is es' →
    (∀ n it, is[n]? = some it → is0[k + n]? = some it) → (lentCells t x k).2 = k + is.length ∧ (lentSlots t x k es).k = k + is.length ∧ (lentSlots t x k es).es = es' ∧ (lentCells t x k).1.length = us.length ∧
    (∀ (m : Nat) (c : Cell) (u : Value), (lentCells t x k).1[m]? = some c → us[m]? = some u → StartC A γ w c u) ∧
    (∀ s, (lentSlots t x k es).env.get s = .undef ∨ ∃ n it, s = .lent (k + n) ∧ is[n]? = some it ∧ StartR γ.Z w it ((lentSlots t x k es).env.get s)) ∧ (∀ s, (∀ n, n < is.length → s ≠ .lent (k + n)) → ∀ p ∈ (lentSlots t x k es).env, p.1 ≠ s) ∧
    us.length = t.size ∧ (∀ n, n < is.length → ∃ p ∈ (lentSlots t x k es).env, p.1 = .lent (k + n))
  | .int kd, es, n, us, is, es', k, h, hs => by
    obtain ⟨rfl, rfl, rfl⟩ := h
    refine ⟨rfl, rfl, rfl, rfl, fun m c u h1 h2 => ?_, fun s => .inl rfl, by simp [lentSlots], rfl, by simp⟩
    cases m <;> simp [lentCells] at h1 h2
    subst h1; subst h2
    exact ⟨rfl, rfl, by simp [refs], rfl⟩
  | .bool, es, n, us, is, es', k, h, hs => by
    obtain ⟨rfl, rfl, rfl⟩ := h
    refine ⟨rfl, rfl, rfl, rfl, fun m c u h1 h2 => ?_, fun s => .inl rfl, by simp [lentSlots], rfl, by simp⟩
    cases m <;> simp [lentCells] at h1 h2
    subst h1; subst h2
    exact ⟨rfl, rfl, by simp [refs], rfl⟩
  | .str, es, n, us, is, es', k, h, hs => by
    obtain ⟨rfl, rfl, rfl⟩ := h
    refine ⟨rfl, rfl, rfl, rfl, fun m c u h1 h2 => ?_, fun s => .inl rfl, by simp [lentSlots], rfl, by simp⟩
    cases m <;> simp [lentCells] at h1 h2
    subst h1; subst h2
    exact ⟨rfl, rfl, by simp [refs], rfl⟩
  | .unit, es, n, us, is, es', k, h, hs => by
    obtain ⟨rfl, rfl, rfl⟩ := h
    exact ⟨rfl, rfl, rfl, rfl, fun m c u h1 h2 => by simp [lentCells] at h1, fun s => .inl rfl, by simp [lentSlots], rfl, by simp⟩
  | .sl t, es, l, us, is, es', k, h, hs => by
    obtain ⟨e, v, rfl, rfl, rfl, hown⟩ := h
    have h0 := hs 0 _ rfl
    refine ⟨rfl, rfl, rfl, rfl, fun m c u h1 h2 => ?_, fun s => ?_, fun s hn p hp => ?_, rfl, fun n hn => ?_⟩
    · cases m <;> simp [lentCells] at h1 h2
      subst h1; subst h2
      refine ⟨(hψ k v e t (by simpa using h0)).symm, ?_, by simp [refs], rfl⟩
      obtain ⟨B, c, hh, _⟩ := OwnV.slice hown
      rw [hh]; rfl
    · by_cases hk : s = .lent k
      · subst hk
        refine .inr ⟨0, .row v e t, rfl, rfl, ?_⟩
        simp only [lentSlots, Env.get_cons_self]
        exact ⟨l, rfl, rfl, hown⟩
      · left
        simp only [lentSlots]
        rw [Env.get_cons_ne _ _ (fun e => hk e.symm)]
        rfl
    · simp only [lentSlots, List.mem_singleton] at hp
      rw [hp]
      exact fun e => hn 0 (by simp) (by simpa using e.symm)
    · simp only [List.length_singleton] at hn
      have : n = 0 := by omega
      subst this
      exact ⟨(.lent k, .val false [.own e t 0 l]), by simp [lentSlots], by simp⟩
  | .pair x y, es, p, us, is, es', k, ⟨c1, c2, i1, i2, em, hus, his, r1, r2⟩, hs => by
    subst hus; subst his
    obtain ⟨a1, a2, a3, a4, a5, a6, a7, a8, a9⟩ := lent_rel hψ x es p.1 c1 i1 em k r1 fun n it hn => hs n it (by rw [List.getElem?_append_left (List.getElem?_eq_some_iff.1 hn).1]; exact hn)
    obtain ⟨b1, b2, b3, b4, b5, b6, b7, b8, b9⟩ := lent_rel hψ y em p.2 c2 i2 es' (k + i1.length) r2 fun n it hn => by
      rw [Nat.add_assoc]
      exact hs _ it (by rw [List.getElem?_append_right (by omega), Nat.add_sub_cancel_left]; exact hn)
    have gapp : ∀ (e1 e2 : Env) (s : Slot), (∀ p ∈ e1, p.1 ≠ s) → Env.get (e1 ++ e2) s = e2.get s := by
      intro e1 e2 s hn
      induction e1 with
      | nil => rfl
      | cons q r ih =>
        rw [List.cons_append, show q = (q.1, q.2) from rfl, Env.get_cons_ne _ _ (hn q (by simp))]
        exact ih fun p hp => hn p (by simp [hp])
    have gapp2 : ∀ (e1 e2 : Env) (s : Slot), (∃ p ∈ e1, p.1 = s) → Env.get (e1 ++ e2) s = e1.get s := by
      intro e1 e2 s hn
      induction e1 with
      | nil => obtain ⟨p, hp, _⟩ := hn; cases hp
      | cons q r ih =>
        rw [List.cons_append, show q = (q.1, q.2) from rfl, Env.get_cons, Env.get_cons]
        split
        · rfl
        · rename_i hh
          obtain ⟨p, hp, he⟩ := hn
          rcases List.mem_cons.1 hp with rfl | hp
          · exact absurd he hh
          · exact ih ⟨p, hp, he⟩
    simp only [lentCells, lentSlots, a1, a2, a3]
    refine ⟨by rw [b1, List.length_append]; omega, by rw [b2, List.length_append]; omega, b3, by simp [a4, b4], fun m c u h1 h2 => ?_, fun s => ?_, fun s hn q hq => ?_, by simp [a8, b8, Ty.size], fun n hn => ?_⟩
    · by_cases hm : m < c1.length
      · rw [List.getElem?_append_left (by omega)] at h1
        rw [List.getElem?_append_left hm] at h2
        exact a5 m c u h1 h2
      · rw [List.getElem?_append_right (by omega)] at h1
        rw [List.getElem?_append_right (by omega)] at h2
        rw [a4] at h1
        exact b5 _ c u h1 h2
    · by_cases hin : ∃ n, n < i1.length ∧ s = .lent (k + n)
      · obtain ⟨n, hn, hsn⟩ := hin
        have hmem : ∃ p' ∈ (lentSlots x p.1 k es).env, p'.1 = s := by rw [hsn]; exact a9 n hn
        rw [gapp2 _ _ _ hmem]
        rcases a6 s with h | ⟨n', it, h1, h2, h3⟩
        · exact .inl h
        · exact .inr ⟨n', it, h1, by rw [List.getElem?_append_left (List.getElem?_eq_some_iff.1 h2).1]; exact h2, h3⟩
      · rw [gapp _ _ _ (a7 s fun n hn e => hin ⟨n, hn, e⟩)]
        rcases b6 s with h | ⟨n', it, h1, h2, h3⟩
        · exact .inl h
        · exact .inr ⟨i1.length + n', it, by rw [h1]; congr 1; omega, by rw [List.getElem?_append_right (by omega), Nat.add_sub_cancel_left]; exact h2, h3⟩
    · rcases List.mem_append.1 hq with hq | hq
      · exact a7 s (fun n hn' => hn n (by simp; omega)) q hq
      · exact b7 s (fun n hn' => by rw [Nat.add_assoc]; exact hn (i1.length + n) (by simp; omega)) q hq
    · by_cases hm : n < i1.length
      · obtain ⟨p, hp, he⟩ := a9 n hm
        exact ⟨p, List.mem_append_left _ hp, he⟩
      · obtain ⟨p, hp, he⟩ := b9 (n - i1.length) (by simp at hn; omega)
        exact ⟨p, List.mem_append_right _ hp, by rw [he]; congr 1; omega⟩
theorem tag_get (q : Nat) (cs : List Cell) (m : Nat) : (tagCells q cs)[m]? = (cs[m]?).map fun c => match c with | .imm t l _ => .imm t l (some (q + m)) | c => c := by
  simp only [tagCells, List.getElem?_map, List.getElem?_zipIdx, Option.map_map]
  cases cs[m]? with
  | none => rfl
  | some c => cases c <;> simp
theorem RepL.lens {Z : Nat → Prop} : ∀ (t : Ty) (es : List TypeId) (x : t.den) (us : List Value) (is : List Item) (es' : List TypeId), RepL Z w t es x us is es' → us.length = t.size ∧ ∀ u ∈ us, u.oneCell' = true
  | .int k, es, x, us, is, es', h => by rw [h.1]; exact ⟨rfl, by simp [Value.oneCell']⟩
  | .bool, es, x, us, is, es', h => by rw [h.1]; exact ⟨rfl, by simp [Value.oneCell']⟩
  | .str, es, x, us, is, es', h => by rw [h.1]; exact ⟨rfl, by simp [Value.oneCell']⟩
  | .unit, es, x, us, is, es', h => by rw [h.1]; exact ⟨rfl, by simp⟩
  | .sl t, es, x, us, is, es', ⟨e, v, _, h2, _, h4⟩ => by
    rw [h2]
    obtain ⟨B, c, hh, _⟩ := OwnV.slice h4
    exact ⟨rfl, by simp [hh, Value.oneCell']⟩
  | .pair a b, es, x, us, is, es', ⟨c1, c2, i1, i2, em, h0, _, h1, h2⟩ => by
    obtain ⟨a1, a2⟩ := RepL.lens a _ _ _ _ _ h1
    obtain ⟨b1, b2⟩ := RepL.lens b _ _ _ _ _ h2
    rw [h0]
    refine ⟨by simp [a1, b1, Ty.size], fun u hu => ?_⟩
    rcases List.mem_append.1 hu with hu | hu
    · exact a2 u hu
    · exact b2 u hu
theorem argsM_len (Z : Nat → Prop) (w : World) : ∀ (As : List ATy) (xs : denA As) (vs : List Value) (is : List Item), RelArgsM Z w As xs vs is → (avsOf vs).length = parLen As
  | [], xs, vs, is, h => by rw [h.1]; rfl
  | .ptr t :: r, xs, vs, is, h => h.elim
  | .clo t b :: r, xs, vs, is, h => h.elim
  | .data g t :: r, xs, vs, is, ⟨us, vs', h1, h2, h3, h4⟩ => by
    have hav : avsOf (mkVal g us :: vs') = us ++ avsOf vs' := by simp [avsOf, mkVal_cells (RepI.one _ _ _ h3) h2]
    rw [h1, hav, List.length_append, argsM_len Z w r _ _ _ h4, RepI.length _ _ _ h3]; rfl
  | .lptr t :: r, xs, vs, is, ⟨g, us, vs', i2, h1, h2, h3, h4, h5⟩ => by
    have hav : avsOf (.pointer (some ⟨g, 0, none⟩) :: vs') = .pointer (some ⟨g, 0, none⟩) :: avsOf vs' := rfl
    rw [h1, hav, List.length_cons, argsM_len Z w r _ _ _ h5]; simp [parLen, ATy.cells, Nat.add_comm]
  | .lrow g t es :: r, xs, vs, is, ⟨us, vs', i1, i2, h1, h2, h3, h4, h5⟩ => by
    obtain ⟨k1, k2⟩ := RepL.lens _ _ _ _ _ _ h4
    have hav : avsOf (mkVal g us :: vs') = us ++ avsOf vs' := by simp [avsOf, mkVal_cells k2 h2]
    rw [h1, hav, List.length_append, argsM_len Z w r _ _ _ h5, k1]; rfl
theorem argsM_rel {is0 : List Item} (hψ : ∀ k v e t, is0[k]? = some (.row v e t) → γ.ψ ⟨.lent k, 0, 0⟩ 0 = v) (hσ : ∀ k g us, is0[k]? = some (.box g us) → γ.σ (lentBase + k) 0 = g) : ∀ (As : List ATy) (xs : denA As) (vs : List Value) (is : List Item) (i j k q : Nat),
    RelArgsM γ.Z w As xs vs is → (∀ n it, is[n]? = some it → is0[k + n]? = some it) → (∀ (m : Nat) (u : Value), (avsOf vs)[m]? = some u → A.pars[j + m]? = some u) → (∀ (m : Nat) (u : Value), (busOf is)[m]? = some u → A.pars[q + m]? = some u) →
    vs.length = As.length ∧ (avsOf vs).length = parLen As ∧
    (∀ t, (argEnvM As xs i j k q).get (.tmp t) = .undef ∨ ∃ n v, t = i + n ∧ vs[n]? = some v ∧ StartT A γ w v ((argEnvM As xs i j k q).get (.tmp t))) ∧
    (∀ b, (argEnvM As xs i j k q).get (.box b) = .undef ∨ ∃ n it, b = lentBase + (k + n) ∧ is[n]? = some it ∧ StartB A γ w it ((argEnvM As xs i j k q).get (.box b))) ∧
    (∀ m, (argEnvM As xs i j k q).get (.lent m) = .undef ∨ ∃ n it, m = k + n ∧ is[n]? = some it ∧ StartR γ.Z w it ((argEnvM As xs i j k q).get (.lent m))) ∧
    (argEnvM As xs i j k q).get .ver = .undef
  | [], xs, vs, is, i, j, k, q, ⟨h1, h2⟩, _, _, _ => by
    subst h1
    exact ⟨rfl, rfl, fun t => .inl rfl, fun b => .inl rfl, fun m => .inl rfl, rfl⟩
  | .ptr t :: r, xs, vs, is, i, j, k, q, h, _, _, _ => h.elim
  | .clo t b :: r, xs, vs, is, i, j, k, q, h, _, _, _ => h.elim
  | .data g t :: r, xs, vs, is, i, j, k, q, ⟨us, vs', h1, h2, h3, h4⟩, hs, hp, hq => by
    subst h1
    obtain ⟨us', k1, k2, k3, k4, k5⟩ := argCells_rel (A := A) (γ := γ) (w := w) (.data g t) xs.1 j (mkVal g us) vs' hp ⟨us, rfl, h2, h3⟩
    have hav : avsOf (mkVal g us :: vs') = us' ++ avsOf vs' := by simp [avsOf, k2]
    have hlen : (argCells (.data g t) xs.1 j).2.length = t.size := by simp [argCells, explode_len]
    obtain ⟨m1, m0, m2, m3, m4, m5⟩ := argsM_rel hψ hσ r xs.2 vs' is (i + 1) (j + (argCells (.data g t) xs.1 j).2.length) k q h4 hs (fun m u hu => by
      have := hp (us'.length + m) u (by rw [hav, List.getElem?_append_right (by omega)]; rwa [Nat.add_sub_cancel_left])
      rwa [k3, ← Nat.add_assoc] at this) hq
    refine ⟨by simp [m1], by rw [hav, List.length_append, m0, k3, hlen]; rfl, fun t' => ?_, fun b => ?_, fun m => ?_, ?_⟩
    · simp only [argEnvM]
      rw [Env.get_cons]
      by_cases ht : i = t'
      · subst ht
        rw [if_pos rfl]
        exact .inr ⟨0, _, by simp, rfl, us', k1, k2, k3, k4, fun m c u hc hu => let ⟨a1, a2, a3, a4⟩ := k5 m c u hc hu; ⟨a1, a2, by simp [a3], a4⟩⟩
      · rw [if_neg (by simpa using ht)]
        rcases m2 t' with hu | ⟨n, v, e1, e2, e3⟩
        · exact .inl hu
        · exact .inr ⟨n + 1, v, by omega, by simpa using e2, e3⟩
    · simp only [argEnvM]; rw [Env.get_cons_ne _ _ (by simp)]; exact m3 b
    · simp only [argEnvM]; rw [Env.get_cons_ne _ _ (by simp)]; exact m4 m
    · simp only [argEnvM]; rw [Env.get_cons_ne _ _ (by simp)]; exact m5
  | .lptr t :: r, xs, vs, is, i, j, k, q, ⟨g, us, vs', i2, h1, h2, h3, ⟨T, h4⟩, h5⟩, hs, hp, hq => by
    subst h1; subst h2
    have h0 := hs 0 _ rfl
    have he := explode_rel (A := A) (γ := γ) (w := w) (Fr := fun _ => False) t xs.1 us h3
    have hul : us.length = t.size := RepI.length _ _ _ h3
    have hav : avsOf (.pointer (some ⟨g, 0, none⟩) :: vs') = .pointer (some ⟨g, 0, none⟩) :: avsOf vs' := rfl
    obtain ⟨m1, m0, m2, m3, m4, m5⟩ := argsM_rel hψ hσ r xs.2 vs' i2 (i + 1) (j + 1) (k + 1) (q + t.size) h5 (fun n it hn => by
        have := hs (n + 1) it (by simpa using hn)
        rwa [show k + (n + 1) = k + 1 + n by omega] at this)
      (fun m u hu => by
        have := hp (m + 1) u (by rw [hav]; simpa using hu)
        rwa [show j + (m + 1) = j + 1 + m by omega] at this)
      (fun m u hu => by
        have := hq (us.length + m) u (by simp only [busOf]; rw [List.getElem?_append_right (by omega), Nat.add_sub_cancel_left]; exact hu)
        rwa [hul, ← Nat.add_assoc] at this)
    refine ⟨by simp [m1], by rw [hav, List.length_cons, m0]; simp [parLen, ATy.cells, Nat.add_comm], fun t' => ?_, fun b => ?_, fun m => ?_, ?_⟩
    · simp only [argEnvM]
      rw [Env.get_cons]
      by_cases ht : i = t'
      · subst ht
        rw [if_pos rfl]
        refine .inr ⟨0, _, by simp, rfl, [.pointer (some ⟨g, 0, none⟩)], rfl, rfl, rfl, fun _ => rfl, fun m c u hc hu => ?_⟩
        cases m <;> simp at hc hu
        subst hc; subst hu
        exact ⟨by simp only [RelCell]; rw [hσ k g us (by simpa using h0)], rfl, by simp [refs], rfl⟩
      · rw [if_neg (by simpa using ht), Env.get_cons_ne _ _ (by simp)]
        rcases m2 t' with hu | ⟨n, v, e1, e2, e3⟩
        · exact .inl hu
        · exact .inr ⟨n + 1, v, by omega, by simpa using e2, e3⟩
    · simp only [argEnvM]
      rw [Env.get_cons_ne _ _ (by simp), Env.get_cons]
      by_cases hb : lentBase + k = b
      · subst hb
        rw [if_pos rfl]
        refine .inr ⟨0, _, rfl, rfl, rfl, rfl, by simp [tagCells, he.length], ⟨T, h4⟩, fun m c u hc hu => ?_⟩
        rw [tag_get, Option.map_eq_some_iff] at hc
        obtain ⟨c0, hc0, hcc⟩ := hc
        obtain ⟨u', hu', g1, g2, g3, g4⟩ := he.get hc0
        rw [hu] at hu'
        injection hu' with hu'
        subst hu'
        have hn := refs_explode t xs.1 c0 (List.mem_of_getElem? hc0)
        have hpar := hq m u (by simp only [busOf]; rw [List.getElem?_append_left (List.getElem?_eq_some_iff.1 hu).1]; exact hu)
        subst hcc
        cases c0 with
        | imm t' l' p' => exact ⟨⟨g1.1, fun k hk => by injection hk with hk; rw [← hk]; exact hpar⟩, g2, by simp [refs], rfl⟩
        | _ => exact ⟨g1, g2, by simp [hn], g4⟩
      · rw [if_neg (by simpa using hb)]
        rcases m3 b with hu | ⟨n, it, e1, e2, e3⟩
        · exact .inl hu
        · exact .inr ⟨n + 1, it, by omega, by simpa using e2, e3⟩
    · simp only [argEnvM]
      rw [Env.get_cons_ne _ _ (by simp), Env.get_cons_ne _ _ (by simp)]
      rcases m4 m with hu | ⟨n, it, e1, e2, e3⟩
      · exact .inl hu
      · exact .inr ⟨n + 1, it, by omega, by simpa using e2, e3⟩
    · simp only [argEnvM]; rw [Env.get_cons_ne _ _ (by simp), Env.get_cons_ne _ _ (by simp)]; exact m5
  | .lrow g t es :: r, xs, vs, is, i, j, k, q, ⟨us, vs', i1, i2, h1, h2, h3, h4, h5⟩, hs, hp, hq => by
    subst h1; subst h3
    obtain ⟨a1, a2, a3, a4, a5, a6, a7, a8, a9⟩ := lent_rel (A := A) hψ t es xs.1 us i1 [] k h4 fun n it hn => hs n it (by rw [List.getElem?_append_left (List.getElem?_eq_some_iff.1 hn).1]; exact hn)
    have hone : ∀ u ∈ us, u.oneCell' = true := fun u hu => by
      obtain ⟨m, hm⟩ := List.mem_iff_getElem?.1 hu
      have hlt : m < (lentCells t xs.1 k).1.length := by rw [a4]; exact (List.getElem?_eq_some_iff.1 hm).1
      exact (a5 m _ u (List.getElem?_eq_getElem hlt) hm).2.1
    have hcl : (mkVal g us).cells = us.toArray := mkVal_cells hone h2
    have hav : avsOf (mkVal g us :: vs') = us ++ avsOf vs' := by simp [avsOf, hcl]
    have hbus : ∀ (i1 i2 : List Item), (∀ it ∈ i1, ∃ v e t, it = .row v e t) → busOf (i1 ++ i2) = busOf i2 := by
      intro i1 i2 hh
      induction i1 with
      | nil => rfl
      | cons it r ih =>
        obtain ⟨v, e, t, rfl⟩ := hh it (by simp)
        exact ih fun it hit => hh it (by simp [hit])
    have hrows : ∀ (t : Ty) (es : List TypeId) (x : t.den) (us : List Value) (is : List Item) (es' : List TypeId), RepL γ.Z w t es x us is es' → ∀ it ∈ is, ∃ v e t, it = .row v e t := by
      intro t
      induction t with
      | int k => intro es x us is es' h; rw [h.2.1]; simp
      | bool => intro es x us is es' h; rw [h.2.1]; simp
      | str => intro es x us is es' h; rw [h.2.1]; simp
      | unit => intro es x us is es' h; rw [h.2.1]; simp
      | sl t _ => intro es x us is es' h; obtain ⟨e, v, _, _, hi, _⟩ := h; rw [hi]; simp
      | pair a b iha ihb =>
        intro es x us is es' h
        obtain ⟨c1, c2, i1, i2, em, _, hi, r1, r2⟩ := h
        rw [hi]
        intro it hit
        rcases List.mem_append.1 hit with hit | hit
        · exact iha _ _ _ _ _ r1 it hit
        · exact ihb _ _ _ _ _ r2 it hit
    obtain ⟨m1, m0, m2, m3, m4, m5⟩ := argsM_rel hψ hσ r xs.2 vs' i2 (i + 1) (j + t.size) (lentCells t xs.1 k).2 q h5 (fun n it hn => by
        rw [a1, Nat.add_assoc]
        exact hs _ it (by rw [List.getElem?_append_right (by omega), Nat.add_sub_cancel_left]; exact hn))
      (fun m u hu => by
        have := hp (us.length + m) u (by rw [hav, List.getElem?_append_right (by omega), Nat.add_sub_cancel_left]; exact hu)
        rwa [a8, ← Nat.add_assoc] at this)
      (fun m u hu => hq m u (by rw [hbus i1 i2 (hrows _ _ _ _ _ _ h4)]; exact hu))
    have gapp : ∀ (e1 e2 : Env) (s : Slot), (∀ p ∈ e1, p.1 ≠ s) → Env.get (e1 ++ e2) s = e2.get s := by
      intro e1 e2 s hn
      induction e1 with
      | nil => rfl
      | cons q r ih =>
        rw [List.cons_append, show q = (q.1, q.2) from rfl, Env.get_cons_ne _ _ (hn q (by simp))]
        exact ih fun p hp => hn p (by simp [hp])
    have gapp2 : ∀ (e1 e2 : Env) (s : Slot), (∃ p ∈ e1, p.1 = s) → Env.get (e1 ++ e2) s = e1.get s := by
      intro e1 e2 s hn
      induction e1 with
      | nil => obtain ⟨p, hp, _⟩ := hn; cases hp
      | cons q r ih =>
        rw [List.cons_append, show q = (q.1, q.2) from rfl, Env.get_cons, Env.get_cons]
        split
        · rfl
        · rename_i hh
          obtain ⟨p, hp, he⟩ := hn
          rcases List.mem_cons.1 hp with rfl | hp
          · exact absurd he hh
          · exact ih ⟨p, hp, he⟩
    refine ⟨by simp [m1], by rw [hav, List.length_append, m0, a8]; rfl, fun t' => ?_, fun b => ?_, fun m => ?_, ?_⟩
    · simp only [argEnvM]
      rw [Env.get_cons]
      by_cases ht : i = t'
      · subst ht
        rw [if_pos rfl]
        exact .inr ⟨0, _, by simp, rfl, us, rfl, by rw [hcl], a4.symm, fun hg => by rw [a4]; exact h2 hg, a5⟩
      · rw [if_neg (by simpa using ht), gapp _ _ _ (a7 _ (by simp))]
        rcases m2 t' with hu | ⟨n, v, e1, e2, e3⟩
        · exact .inl hu
        · exact .inr ⟨n + 1, v, by omega, by simpa using e2, e3⟩
    · simp only [argEnvM]
      rw [Env.get_cons_ne _ _ (by simp), gapp _ _ _ (a7 _ (by simp))]
      rcases m3 b with hu | ⟨n, it, e1, e2, e3⟩
      · exact .inl hu
      · exact .inr ⟨i1.length + n, it, by rw [e1, a1]; omega, by rw [List.getElem?_append_right (by omega), Nat.add_sub_cancel_left]; exact e2, e3⟩
    · simp only [argEnvM]
      rw [Env.get_cons_ne _ _ (by simp)]
      by_cases hin : ∃ n, n < i1.length ∧ m = k + n
      · obtain ⟨n, hn, hm⟩ := hin
        rw [gapp2 _ _ _ (by rw [hm]; exact a9 n hn)]
        rcases a6 (.lent m) with h | ⟨n', it, e1, e2, e3⟩
        · exact .inl h
        · injection e1 with e1
          exact .inr ⟨n', it, e1, by rw [List.getElem?_append_left (List.getElem?_eq_some_iff.1 e2).1]; exact e2, e3⟩
      · rw [gapp _ _ _ (a7 _ fun n hn e => hin ⟨n, hn, by injection e⟩)]
        rcases m4 m with hu | ⟨n, it, e1, e2, e3⟩
        · exact .inl hu
        · exact .inr ⟨i1.length + n, it, by rw [e1, a1]; omega, by rw [List.getElem?_append_right (by omega), Nat.add_sub_cancel_left]; exact e2, e3⟩
    · simp only [argEnvM]; rw [Env.get_cons_ne _ _ (by simp), gapp _ _ _ (a7 _ (by simp))]; exact m5
theorem outOf_length : ∀ (rs : List ResultVar) (xs : List Loc) (out : Out) (e : Slot → AV) (l0 l1 : List Slot), (outOf X xs rs).eval e l0 = some (out, l1) → out.length = rs.length
  | [], xs, out, e, l0, l1, h => by
    simp only [outOf, Rd.eval, Option.some.injEq, Prod.mk.injEq] at h
    rw [← h.1]; rfl
  | .tmp t :: r, xs, out, e, l0, l1, h => by
    simp only [outOf, Rd.eval] at h
    split at h
    · simp only [Rd.eval_bind, Option.bind_eq_some_iff] at h
      obtain ⟨⟨p, l2⟩, h1, ⟨q, l3⟩, h2, h3⟩ := h
      simp only [Rd.eval, Option.some.injEq, Prod.mk.injEq] at h3
      rw [← h3.1]
      simp [outOf_length r _ q e _ _ h2]
    · simp [Rd.eval] at h
  | .cell b T :: r, xs, out, e, l0, l1, h => by
    simp only [outOf, Rd.eval_bind, Option.bind_eq_some_iff] at h
    obtain ⟨_, _, ⟨c, l2⟩, m2, ⟨cs, l3⟩, m3, ⟨⟨cs', xs'⟩, l4⟩, m4, ⟨q, l5⟩, m5, m6⟩ := h
    simp only [Rd.eval, Option.some.injEq, Prod.mk.injEq] at m6
    rw [← m6.1]
    simp [outOf_length r _ q e _ _ m5]
theorem outRows_sound (h : Core A X γ Fr env a w) (hB : A.B = 0) {Z0 Z : Nat → Prop} {w0 : World} (hZ : ∀ g, γ.Z g → Z g) {is0 : List Item} (hlv : ∀ k v e t, is0[k]? = some (.row v e t) → A.lv k = v) : ∀ (t : Ty) (es : List TypeId) (x y : t.den) (us : List Value) (is : List Item) (es' es2 : List TypeId) (k k' : Nat) (cs rest : List Cell) (l0 l1 : List Slot),
    RepL Z0 w0 t es x us is es' → (∀ n it, is[n]? = some it → is0[k + n]? = some it) → (outRows t k).eval env.get l0 = some ((cs, k'), l1) → rowsIn t es (cs ++ rest) = some ⟨y, rest, es2⟩ →
    k' = k + is.length ∧ es2 = es' ∧ ∀ is' ns', OutN Z w is' ns' → OutN Z w (is ++ is') (newRows t y ++ ns')
  | .int kd, es, x, y, us, is, es', es2, k, k', cs, rest, l0, l1, hr, _, he, hi => by
    obtain ⟨_, rfl, rfl⟩ := hr
    simp only [outRows, Rd.eval, Option.some.injEq, Prod.mk.injEq] at he
    simp only [rowsIn, Option.some.injEq, RowP.mk.injEq] at hi
    exact ⟨by rw [← he.1.2]; rfl, hi.2.2.symm, fun is' ns' h => h⟩
  | .bool, es, x, y, us, is, es', es2, k, k', cs, rest, l0, l1, hr, _, he, hi => by
    obtain ⟨_, rfl, rfl⟩ := hr
    simp only [outRows, Rd.eval, Option.some.injEq, Prod.mk.injEq] at he
    simp only [rowsIn, Option.some.injEq, RowP.mk.injEq] at hi
    exact ⟨by rw [← he.1.2]; rfl, hi.2.2.symm, fun is' ns' h => h⟩
  | .str, es, x, y, us, is, es', es2, k, k', cs, rest, l0, l1, hr, _, he, hi => by
    obtain ⟨_, rfl, rfl⟩ := hr
    simp only [outRows, Rd.eval, Option.some.injEq, Prod.mk.injEq] at he
    simp only [rowsIn, Option.some.injEq, RowP.mk.injEq] at hi
    exact ⟨by rw [← he.1.2]; rfl, hi.2.2.symm, fun is' ns' h => h⟩
  | .unit, es, x, y, us, is, es', es2, k, k', cs, rest, l0, l1, hr, _, he, hi => by
    obtain ⟨_, rfl, rfl⟩ := hr
    simp only [outRows, Rd.eval, Option.some.injEq, Prod.mk.injEq] at he
    simp only [rowsIn, Option.some.injEq, RowP.mk.injEq] at hi
    exact ⟨by rw [← he.1.2]; rfl, hi.2.2.symm, fun is' ns' h => h⟩
  | .sl t, es, x, y, us, is, es', es2, k, k', cs, rest, l0, l1, hr, hs, he, hi => by
    obtain ⟨e, v, rfl, rfl, rfl, _⟩ := hr
    have h0 := hs 0 _ rfl
    simp only [outRows, Rd.eval] at he
    split at he
    · rename_i e1 t1 ver l1' hg
      simp only [Rd.eval, Option.some.injEq, Prod.mk.injEq] at he
      obtain ⟨⟨rfl, rfl⟩, _⟩ := he
      simp only [List.cons_append, List.nil_append, rowsIn] at hi
      split at hi
      · rename_i hh
        obtain ⟨rfl, rfl⟩ := hh
        simp only [Option.some.injEq, RowP.mk.injEq] at hi
        obtain ⟨rfl, _, rfl⟩ := hi
        have hx : envCell env ⟨.lent k, 0, 0⟩ = some (.own e1 t1 ver l1') := by
          show (env.get (.lent k)).cell? 0 0 = _
          rw [hg]; rfl
        have hown := (h.cell _ _ hx).1
        have hv : γ.φ ⟨.lent k, 0, 0⟩ = v := (h.lent k).trans (hlv k v e1 t1 (by simpa using h0))
        simp only [RelCell, hB, hv] at hown
        refine ⟨rfl, rfl, fun is' ns' ho => ⟨l1', ns', rfl, hown.mono hZ (fun _ _ => rfl) (fun _ _ => rfl), ho⟩⟩
      · cases hi
    · simp [Rd.eval] at he
  | .pair a b, es, x, y, us, is, es', es2, k, k', cs, rest, l0, l1, ⟨c1, c2, i1, i2, em, _, his, r1, r2⟩, hs, he, hi => by
    subst his
    simp only [outRows, Rd.eval_bind, Option.bind_eq_some_iff] at he
    obtain ⟨⟨⟨d1, k1⟩, l2⟩, e1, ⟨⟨d2, k2⟩, l3⟩, e2, e3⟩ := he
    simp only [Rd.eval, Option.some.injEq, Prod.mk.injEq] at e3
    obtain ⟨⟨rfl, rfl⟩, _⟩ := e3
    simp only [rowsIn, Option.bind_eq_some_iff, Option.map_eq_some_iff] at hi
    obtain ⟨⟨y1, s1, f1⟩, m1, ⟨y2, s2, f2⟩, m2, m3⟩ := hi
    simp only [RowP.mk.injEq] at m3
    obtain ⟨rfl, rfl, rfl⟩ := m3
    have rowsRest : ∀ (t : Ty) (es : List TypeId) (k k' : Nat) (cs rest : List Cell) (l0 l1 : List Slot) (p : RowP t), (outRows t k).eval env.get l0 = some ((cs, k'), l1) → rowsIn t es (cs ++ rest) = some p → p.cs = rest := by
      intro t
      induction t with
      | int kd => intro es k k' cs rest l0 l1 p h1 h2; simp only [outRows, Rd.eval, Option.some.injEq, Prod.mk.injEq] at h1; simp only [rowsIn, Option.some.injEq] at h2; rw [← h2, ← h1.1.1]; rfl
      | bool => intro es k k' cs rest l0 l1 p h1 h2; simp only [outRows, Rd.eval, Option.some.injEq, Prod.mk.injEq] at h1; simp only [rowsIn, Option.some.injEq] at h2; rw [← h2, ← h1.1.1]; rfl
      | str => intro es k k' cs rest l0 l1 p h1 h2; simp only [outRows, Rd.eval, Option.some.injEq, Prod.mk.injEq] at h1; simp only [rowsIn, Option.some.injEq] at h2; rw [← h2, ← h1.1.1]; rfl
      | unit => intro es k k' cs rest l0 l1 p h1 h2; simp only [outRows, Rd.eval, Option.some.injEq, Prod.mk.injEq] at h1; simp only [rowsIn, Option.some.injEq] at h2; rw [← h2, ← h1.1.1]; rfl
      | sl t _ =>
        intro es k k' cs rest l0 l1 p h1 h2
        simp only [outRows, Rd.eval] at h1
        split at h1
        · simp only [Rd.eval, Option.some.injEq, Prod.mk.injEq] at h1
          rw [← h1.1.1] at h2
          cases es with
          | nil => simp [rowsIn] at h2
          | cons e es =>
            simp only [List.cons_append, List.nil_append, rowsIn] at h2
            split at h2
            · injection h2 with h2; rw [← h2]
            · cases h2
        · simp [Rd.eval] at h1
      | pair a b iha ihb =>
        intro es k k' cs rest l0 l1 p h1 h2
        simp only [outRows, Rd.eval_bind, Option.bind_eq_some_iff] at h1
        obtain ⟨⟨⟨d1, k1⟩, l2⟩, e1, ⟨⟨d2, k2⟩, l3⟩, e2, e3⟩ := h1
        simp only [Rd.eval, Option.some.injEq, Prod.mk.injEq] at e3
        obtain ⟨⟨rfl, rfl⟩, _⟩ := e3
        simp only [rowsIn, Option.bind_eq_some_iff, Option.map_eq_some_iff, List.append_assoc] at h2
        obtain ⟨p1, m1, p2, m2, rfl⟩ := h2
        have r1 := iha es k k1 d1 (d2 ++ rest) _ _ p1 e1 m1
        rw [r1] at m2
        exact ihb p1.es k1 k2 d2 rest _ _ p2 e2 m2
    rw [List.append_assoc] at m1
    have hs1 : s1 = d2 ++ s2 := rowsRest a es k k1 d1 (d2 ++ s2) _ _ _ e1 m1
    subst hs1
    simp only at m2 e2
    obtain ⟨q1, q2, q3⟩ := outRows_sound h hB hZ hlv a es x.1 y1 c1 i1 em f1 k k1 d1 (d2 ++ s2) _ _ r1 (fun n it hn => hs n it (by rw [List.getElem?_append_left (List.getElem?_eq_some_iff.1 hn).1]; exact hn)) e1 m1
    subst q2
    obtain ⟨p1, p2, p3⟩ := outRows_sound h hB hZ hlv b f1 x.2 y2 c2 i2 es' f2 k1 k2 d2 s2 _ _ r2 (fun n it hn => by
      rw [q1, Nat.add_assoc]
      exact hs _ it (by rw [List.getElem?_append_right (by omega), Nat.add_sub_cancel_left]; exact hn)) e2 m2
    refine ⟨by rw [p1, q1, List.length_append]; omega, p2, fun is' ns' ho => ?_⟩
    have := q3 _ _ (p3 is' ns' ho)
    simpa [newRows] using this
theorem boxIn_sound : ∀ (t : Ty) (q : Nat) (cs : List Cell) (p : BoxP t), boxIn t q cs = some p → ∃ c1, cs = c1 ++ p.cs ∧ p.q = q + c1.length ∧ c1.length = t.size ∧
    ∀ (us us' : List Value), us.length = c1.length → us'.length = c1.length → (∀ (m : Nat) (u : Value), us[m]? = some u → A.pars[q + m]? = some u) → (∀ (m : Nat) (c : Cell) (u : Value), c1[m]? = some c → us'[m]? = some u → RelCell A γ w c u) →
      ∀ (cs' : List Cell) (vs vs' : List Value), BoxOut cs' vs vs' → BoxOut (explode t p.x ++ cs') (us ++ vs) (us' ++ vs')
  | .int k, q, cs, p, h => by
    cases cs with
    | nil => simp [boxIn] at h
    | cons c cs =>
      cases c <;> simp [boxIn] at h
      obtain ⟨rfl, rfl⟩ := h
      refine ⟨[_], rfl, rfl, rfl, fun us us' h1 h2 _ hr cs' vs vs' hb => ?_⟩
      match us, us', h1, h2 with
      | [u], [u'], _, _ => exact ⟨u, u', vs, vs', rfl, rfl, .inl ⟨rfl, hr 0 _ u' rfl rfl⟩, hb⟩
  | .bool, q, cs, p, h => by
    cases cs with
    | nil => simp [boxIn] at h
    | cons c cs =>
      cases c <;> simp [boxIn] at h
      subst h
      refine ⟨[_], rfl, rfl, rfl, fun us us' h1 h2 _ hr cs' vs vs' hb => ?_⟩
      match us, us', h1, h2 with
      | [u], [u'], _, _ => exact ⟨u, u', vs, vs', rfl, rfl, .inl ⟨rfl, hr 0 _ u' rfl rfl⟩, hb⟩
  | .str, q, cs, p, h => by
    cases cs with
    | nil => simp [boxIn] at h
    | cons c cs =>
      cases c <;> simp [boxIn] at h
      subst h
      refine ⟨[_], rfl, rfl, rfl, fun us us' h1 h2 _ hr cs' vs vs' hb => ?_⟩
      match us, us', h1, h2 with
      | [u], [u'], _, _ => exact ⟨u, u', vs, vs', rfl, rfl, .inl ⟨rfl, hr 0 _ u' rfl rfl⟩, hb⟩
  | .unit, q, cs, p, h => by
    simp [boxIn] at h
    subst h
    refine ⟨[], rfl, rfl, rfl, fun us us' h1 h2 _ hr cs' vs vs' hb => ?_⟩
    rw [List.eq_nil_of_length_eq_zero h1, List.eq_nil_of_length_eq_zero h2]
    exact hb
  | .sl t, q, cs, p, h => by
    cases cs with
    | nil => simp [boxIn] at h
    | cons c cs =>
      cases c <;> try (simp [boxIn] at h; done)
      rename_i t' l par
      cases par with
      | none => simp [boxIn] at h
      | some j =>
        simp only [boxIn] at h
        split at h
        · rename_i hh
          obtain ⟨rfl, rfl⟩ := hh
          injection h with h
          subst h
          refine ⟨[_], rfl, rfl, rfl, fun us us' h1 h2 hp hr cs' vs vs' hb => ?_⟩
          match us, us', h1, h2 with
          | [u], [u'], _, _ =>
            have hu := hp 0 u rfl
            have hu' := (hr 0 _ u' rfl rfl).2 j rfl
            rw [Nat.add_zero] at hu
            rw [hu] at hu'
            injection hu' with hu'
            exact ⟨u, u', vs, vs', rfl, rfl, .inr ⟨_, _, _, rfl, hu'.symm⟩, hb⟩
        · cases h
  | .pair x y, q, cs, p, h => by
    simp only [boxIn, Option.bind_eq_some_iff, Option.map_eq_some_iff] at h
    obtain ⟨p1, h1, p2, h2, rfl⟩ := h
    obtain ⟨c1, a1, a2, a3, a4⟩ := boxIn_sound x q cs p1 h1
    obtain ⟨c2, b1, b2, b3, b4⟩ := boxIn_sound y p1.q p1.cs p2 h2
    refine ⟨c1 ++ c2, by rw [a1, b1, List.append_assoc], by rw [b2, a2, List.length_append]; omega, by simp [a3, b3, Ty.size], fun us us' e1 e2 hp hr cs' vs vs' hb => ?_⟩
    rw [List.length_append] at e1 e2
    have k2 := b4 (us.drop c1.length) (us'.drop c1.length) (by simp; omega) (by simp; omega) (fun m u hu => by
      rw [List.getElem?_drop] at hu
      rw [a2, Nat.add_assoc]; exact hp _ u hu) (fun m c u hc hu => by
      rw [List.getElem?_drop] at hu
      exact hr (c1.length + m) c u (by rw [List.getElem?_append_right (by omega), Nat.add_sub_cancel_left]; exact hc) hu) cs' vs vs' hb
    have k1 := a4 (us.take c1.length) (us'.take c1.length) (by simp; omega) (by simp; omega) (fun m u hu => by
      rw [List.getElem?_take] at hu
      split at hu
      · exact hp m u hu
      · cases hu) (fun m c u hc hu => by
      have hlt := (List.getElem?_eq_some_iff.1 hc).1
      rw [List.getElem?_take, if_pos hlt] at hu
      exact hr m c u (by rw [List.getElem?_append_left hlt]; exact hc) hu) _ _ _ k2
    rw [← List.append_assoc, ← List.append_assoc, ← List.append_assoc, List.take_append_drop, List.take_append_drop] at k1
    exact k1
theorem outM_sound (h : Core A X γ Fr env a w) (hB : A.B = 0) {Z0 Z : Nat → Prop} {w0 : World} (hZ : ∀ g, γ.Z g → Z g) {is0 : List Item} (hlv : ∀ k v e t, is0[k]? = some (.row v e t) → A.lv k = v) (hlb : ∀ k g us, is0[k]? = some (.box g us) → A.lb k = some g) :
    ∀ (As : List ATy) (xs : denA As) (vs : List Value) (is : List Item) (k q : Nat) (o : Out) (m : denM As) (l0 l1 : List Slot), RelArgsM Z0 w0 As xs vs is → (∀ n it, is[n]? = some it → is0[k + n]? = some it) → (∀ (m : Nat) (u : Value), (busOf is)[m]? = some u → A.pars[q + m]? = some u) →
    (outM As k).eval env.get l0 = some (o, l1) → decodeM' As q o = some m → OutN Z w is (newsOf As m)
  | [], xs, vs, is, k, q, o, m, l0, l1, hr, _, _, _, _ => by
    rw [hr.2]; rfl
  | .ptr t :: r, xs, vs, is, k, q, o, m, l0, l1, hr, _, _, _, _ => hr.elim
  | .clo t b :: r, xs, vs, is, k, q, o, m, l0, l1, hr, _, _, _, _ => hr.elim
  | .data g t :: r, xs, vs, is, k, q, o, m, l0, l1, ⟨us, vs', h1, h2, h3, h4⟩, hs, hq, he, hd => by
    simp only [outM] at he
    simp only [decodeM'] at hd
    exact outM_sound h hB hZ hlv hlb r xs.2 vs' is k q o m l0 l1 h4 hs hq he hd
  | .lrow g t es :: r, xs, vs, is, k, q, o, m, l0, l1, ⟨us, vs', i1, i2, h1, h2, h3, h4, h5⟩, hs, hq, he, hd => by
    subst h3
    simp only [outM, Rd.eval_bind, Option.bind_eq_some_iff] at he
    obtain ⟨⟨⟨cs, k1⟩, l2⟩, e1, ⟨o1, l3⟩, e2, e3⟩ := he
    simp only [Rd.eval, Option.some.injEq, Prod.mk.injEq] at e3
    obtain ⟨rfl, _⟩ := e3
    simp only [decodeM'] at hd
    split at hd
    · rename_i y hy
      simp only [Option.map_eq_some_iff] at hd
      obtain ⟨m', hd, rfl⟩ := hd
      have hrows : ∀ (t : Ty) (es : List TypeId) (x : t.den) (us : List Value) (is : List Item) (es' : List TypeId), RepL Z0 w0 t es x us is es' → busOf is = [] := by
        intro t
        induction t with
        | int k => intro es x us is es' h; rw [h.2.1]; rfl
        | bool => intro es x us is es' h; rw [h.2.1]; rfl
        | str => intro es x us is es' h; rw [h.2.1]; rfl
        | unit => intro es x us is es' h; rw [h.2.1]; rfl
        | sl t _ => intro es x us is es' h; obtain ⟨e, v, _, _, hi, _⟩ := h; rw [hi]; rfl
        | pair a b iha ihb =>
          intro es x us is es' h
          obtain ⟨c1, c2, i1, i2, em, _, hi, r1, r2⟩ := h
          have happ : ∀ (i1 i2 : List Item), busOf (i1 ++ i2) = busOf i1 ++ busOf i2 := by
            intro i1 i2
            induction i1 with
            | nil => rfl
            | cons it r ih => cases it <;> simp [busOf, ih]
          rw [hi, happ, iha _ _ _ _ _ r1, ihb _ _ _ _ _ r2]; rfl
      have happ : ∀ (i1 i2 : List Item), busOf (i1 ++ i2) = busOf i1 ++ busOf i2 := by
        intro i1 i2
        induction i1 with
        | nil => rfl
        | cons it r ih => cases it <;> simp [busOf, ih]
      obtain ⟨q1, q2, q3⟩ := outRows_sound h hB hZ hlv t es xs.1 y us i1 [] [] k k1 cs [] _ _ h4 (fun n it hn => hs n it (by rw [List.getElem?_append_left (List.getElem?_eq_some_iff.1 hn).1]; exact hn)) e1 (by rw [List.append_nil]; exact hy)
      simp only [newsOf]
      refine q3 i2 _ (outM_sound h hB hZ hlv hlb r xs.2 vs' i2 k1 q o1 m' _ _ h5 (fun n it hn => ?_) (fun m u hu => hq m u (by rw [happ, hrows _ _ _ _ _ _ h4]; exact hu)) e2 hd)
      rw [q1, Nat.add_assoc]
      exact hs _ it (by rw [List.getElem?_append_right (by omega), Nat.add_sub_cancel_left]; exact hn)
    · cases hd
  | .lptr t :: r, xs, vs, is, k, q, o, m, l0, l1, ⟨g, us, vs', i2, h1, h2, h3, ⟨T, h4⟩, h5⟩, hs, hq, he, hd => by
    subst h2
    have h0 := hs 0 _ rfl
    have hul : us.length = t.size := RepI.length _ _ _ h3
    simp only [outM, Rd.eval] at he
    split at he
    · rename_i ver cs hg
      cases hp : cs.all plainCell with
      | false => rw [hp] at he; simp [Rd.eval] at he
      | true =>
        rw [hp] at he
        simp only [cond_true, Rd.eval_bind, Option.bind_eq_some_iff] at he
        obtain ⟨⟨o1, l3⟩, e2, e3⟩ := he
        simp only [Rd.eval, Option.some.injEq, Prod.mk.injEq] at e3
        obtain ⟨rfl, _⟩ := e3
        simp only [decodeM'] at hd
        split at hd
        · rename_i y q' hy
          simp only [Option.map_eq_some_iff] at hd
          obtain ⟨m', hd, rfl⟩ := hd
          obtain ⟨c1, a1, a2, a3, a4⟩ := boxIn_sound (A := A) (γ := γ) (w := w) t q cs _ hy
          simp only [List.append_nil] at a1
          subst a1
          obtain ⟨⟨T', hT'⟩, ⟨_, hσ⟩, _⟩ := h.box _ ver false cs hg
          have hσg : γ.σ (lentBase + k) ver = g := by
            have := hσ (by omega)
            rw [Nat.add_sub_cancel_left, hlb k g us (by simpa using h0)] at this
            injection this with this
            exact this.symm
          rw [hσg] at hT'
          have hbo := a4 us (cellVals γ (.box (lentBase + k)) 0 cs.length) (by rw [hul, a3]) (by simp [cellVals_length]) (fun m u hu => hq m u (by simp only [busOf]; rw [List.getElem?_append_left (List.getElem?_eq_some_iff.1 hu).1]; exact hu)) (fun m c u hc hu => by
            have hlt := (List.getElem?_eq_some_iff.1 hc).1
            rw [cellVals_get _ _ _ _ _ hlt] at hu
            injection hu with hu
            subst hu
            exact (h.cell ⟨.box (lentBase + k), 0, m⟩ c (by show (env.get (.box (lentBase + k))).cell? 0 m = _; rw [hg]; exact hc)).1) [] [] [] ⟨rfl, rfl⟩
          simp only [List.append_nil] at hbo
          refine ⟨explode t y, newsOf r m', _, rfl, hbo, ⟨T', hT'⟩, ?_⟩
          simp only at a2
          refine outM_sound h hB hZ hlv hlb r xs.2 vs' i2 (k + 1) q' o1 m' _ _ h5 (fun n it hn => ?_) (fun m u hu => ?_) e2 hd
          · have := hs (n + 1) it (by simpa using hn)
            rwa [show k + (n + 1) = k + 1 + n by omega] at this
          · have := hq (us.length + m) u (by simp only [busOf]; rw [List.getElem?_append_right (by omega), Nat.add_sub_cancel_left]; exact hu)
            rwa [a2, a3, ← hul, Nat.add_assoc]
        · cases hd
    · simp [Rd.eval] at he
end
theorem resM_nopass : ∀ (t : Ty) (x : t.den) (ms : List RMode), (ms.all fun | .pass _ => false | _ => true) = true → (∀ rc ∈ (resM t x ms).1, ∀ j, rc ≠ .pass j) ∧ ((resM t x ms).2.all fun | .pass _ => false | _ => true) = true
  | .int k, x, ms, hm => ⟨by simp [resM], hm⟩
  | .bool, x, ms, hm => ⟨by simp [resM], hm⟩
  | .str, x, ms, hm => ⟨by simp [resM], hm⟩
  | .unit, x, ms, hm => ⟨by simp [resM], hm⟩
  | .sl t, l, ms, hm => by
    cases ms with
    | nil => exact ⟨by simp [resM], rfl⟩
    | cons m r =>
      simp only [List.all_cons, Bool.and_eq_true] at hm
      cases m with
      | own e => exact ⟨by simp [resM], hm.2⟩
      | imm => exact ⟨by simp [resM], hm.2⟩
      | pass j => simp at hm
  | .pair a b, x, ms, hm => by
    obtain ⟨k1, k2⟩ := resM_nopass a x.1 ms hm
    obtain ⟨k3, k4⟩ := resM_nopass b x.2 _ k2
    refine ⟨fun rc hrc => ?_, k4⟩
    simp only [resM, List.mem_append] at hrc
    rcases hrc with hrc | hrc
    · exact k1 rc hrc
    · exact k3 rc hrc
theorem resL_nopass : ∀ (R : List (Bool × Ty)) (x : denL R) (ms : List RMode), (ms.all fun | .pass _ => false | _ => true) = true → ∀ p ∈ resL R x ms, ∀ rc ∈ p.2, ∀ j, rc ≠ .pass j
  | [], _, ms, _ => by simp [resL]
  | q :: r, x, ms, hm => by
    obtain ⟨k1, k2⟩ := resM_nopass q.2 x.1 ms hm
    intro p hp
    simp only [resL, List.mem_cons] at hp
    rcases hp with rfl | hp
    · exact k1
    · exact resL_nopass r x.2 _ k2 p hp
theorem sound_of_runM {P : Program} {G : World → Prop} {f : FuncId} {fn : Func} {c : Code} {X : Ctx} {As : List ATy} {R : List (Bool × Ty)} {ms : List RMode} {n0 : Nat} (hm : P.follows .mixedOrders = true) (hst : Stable n0 G) (hty : TyOK P X)
    (hgl : ∀ A : Fix, A.P = P → A.G = G → GlobOK A X) (hcon : ConOK P G X) (hmcon : MConOK P n0 G X) (hf : P.funcs[f]? = some fn) (hb : fn.body = some c) (hn : (fn.name == "runtime.NumGoroutine") = false) (hres : X.results = fn.results.toList) (hnt : X.ntmps = fn.ntmps)
    (hAs : As.length ≤ X.ntmps ∧ X.ntmps ≤ lentBase) (hR : R.length = X.results.length) (hms : (ms.all fun | .pass _ => false | _ => true) = true) : SoundM P n0 G f (ofRunM X c As R ms) := by
  show ∀ (w : World) (Z : Nat → Prop) (vs : List Value) (xs : denA As) (r : denL R) (m : denM As) (is : List Item), G w → (∀ g, Z g → g < w.heap.size) → RelArgsM Z w As xs vs is → Aside Z w n0 is → runFM X c As R ms xs = some (r, m) →
    FCalls P f vs.toArray w fun v w' => ∃ Z' us, v = mkRes us ∧ FrameL (Lof is) w w' ∧ (∀ g, Z g → Z' g) ∧ (∀ g, Z' g → Z g ∨ (w.heap.size ≤ g ∧ g < w'.heap.size)) ∧
      ResRel Z' w' w.heap.size [] (resL R r ms) us ∧ OutN Z' w' is (newsOf As m)
  intro w Z vs xs r m is hG hZ hargs hsep hF
  have hrun := hF
  have hn' : ¬ fn.name = "runtime.NumGoroutine" := by simpa using hn
  refine .inr ⟨by simp [callFunc, program, Sem.run, hf, hb, hn'], calls_of_wp hf hb ?_⟩
  let lv : Nat → Value := fun k => match is[k]? with | some (.row v _ _) => v | _ => undef
  let lb : Nat → Option Nat := fun k => match is[k]? with | some (.box g _) => some g | _ => none
  let A : Fix := ⟨P, G, w, avsOf vs ++ busOf is, Z, 0, lv, lb, n0⟩
  let φ : Loc → Value := fun x => match x.s with
    | .tmp t => ((vs.getD t undef).cells.toList).getD x.j undef
    | .box b => match is[b - lentBase]? with | some (.box _ us) => us.getD x.j undef | _ => undef
    | .lent k => lv k
    | .ver => undef
  let γ : Gh := { σ := fun b _ => (lb (b - lentBase)).getD 0, ψ := fun x _ => φ x, φ := φ, Z := Z }
  have hlv : ∀ k v e t, is[k]? = some (.row v e t) → A.lv k = v := fun k v e t h => by show lv k = v; simp only [lv, h]
  have hlb : ∀ k g us, is[k]? = some (.box g us) → A.lb k = some g := fun k g us h => by show lb k = some g; simp only [lb, h]
  have hL : ∀ g, A.L g ↔ Lof is g := by
    intro g
    constructor
    · rintro (⟨k, hk⟩ | ⟨k, hk⟩)
      · change (lv k).ownBlock = some g at hk
        simp only [lv] at hk
        split at hk
        · rename_i v e t hi
          exact ⟨_, List.mem_of_getElem? hi, hk⟩
        · simp [undef, Value.ownBlock] at hk
      · change lb k = some g at hk
        simp only [lb] at hk
        split at hk
        · rename_i g' us hi
          exact ⟨_, List.mem_of_getElem? hi, by simpa [Item.block] using hk⟩
        · cases hk
    · rintro ⟨it, hit, hg⟩
      obtain ⟨k, hk⟩ := List.mem_iff_getElem?.1 hit
      cases it with
      | row v e t => exact .inl ⟨k, by rw [hlv k v e t hk]; exact hg⟩
      | box g' us => exact .inr ⟨k, by rw [hlb k g' us hk]; simpa [Item.block] using hg⟩
  have K : Known A X := ⟨hst, ⟨hG, fun g hg => (hsep.zone g ((hL g).1 hg)).2.2⟩, hty, hgl A rfl rfl, hcon, hmcon⟩
  have hψ0 : ∀ k v e t, is[k]? = some (.row v e t) → γ.ψ ⟨.lent k, 0, 0⟩ 0 = v := fun k v e t h => hlv k v e t h
  have hσ0 : ∀ k g us, is[k]? = some (.box g us) → γ.σ (lentBase + k) 0 = g := fun k g us h => by
    show (lb (lentBase + k - lentBase)).getD 0 = g
    rw [Nat.add_sub_cancel_left, show lb k = some g from hlb k g us h]; rfl
  obtain ⟨hvl, havl, a1, a2, a3, a4⟩ := argsM_rel (A := A) (γ := γ) (w := w) hψ0 hσ0 As xs vs is 0 0 0 (parLen As) hargs (fun n it hn => by rwa [Nat.zero_add]) (fun m u hu => by
      rw [Nat.zero_add]
      show (avsOf vs ++ busOf is)[m]? = _
      rw [List.getElem?_append_left (List.getElem?_eq_some_iff.1 hu).1]; exact hu)
    (fun m u hu => by
      show (avsOf vs ++ busOf is)[parLen As + m]? = _
      have hal : (avsOf vs).length = parLen As := by
        exact (argsM_len Z w As xs vs is hargs)
      rw [List.getElem?_append_right (by omega), hal, Nat.add_sub_cancel_left]; exact hu)
  let env0 : Env := (.ver, .num 1) :: argEnvM As xs 0 0 0 (parLen As)
  have gt : ∀ t, env0.get (.tmp t) = (argEnvM As xs 0 0 0 (parLen As)).get (.tmp t) := fun t => Env.get_cons_ne _ _ (by simp)
  have gb : ∀ b, env0.get (.box b) = (argEnvM As xs 0 0 0 (parLen As)).get (.box b) := fun b => Env.get_cons_ne _ _ (by simp)
  have gl : ∀ k, env0.get (.lent k) = (argEnvM As xs 0 0 0 (parLen As)).get (.lent k) := fun k => Env.get_cons_ne _ _ (by simp)
  have gv : env0.ver = 1 := by simp [Env.ver, env0, Env.get_cons_self]
  have hbox : ∀ b ver fz cs, env0.get (.box b) = .box ver fz cs → ∃ n g us, b = lentBase + n ∧ is[n]? = some (.box g us) ∧ ver = 0 ∧ fz = false ∧ us.length = cs.length ∧ (∃ T, w.heap[g]? = some (.cells us.toArray T (0, 0))) ∧ (∀ (m : Nat) (c : Cell) (u : Value), cs[m]? = some c → us[m]? = some u → StartC A γ w c u) := by
    intro b ver fz cs hbb
    rw [gb] at hbb
    rcases a2 b with h | ⟨n, it, h1, h2, h3⟩
    · rw [h] at hbb; cases hbb
    · rw [hbb] at h3
      cases it with
      | row v e t => exact h3.elim
      | box g us => exact ⟨n, g, us, by rw [h1, Nat.zero_add], h2, h3.1, h3.2.1, h3.2.2.1, h3.2.2.2.1, h3.2.2.2.2⟩
  have hcell : ∀ x c, envCell env0 x = some c → (StartC A γ w c (γ.φ x) ∧ c.isOwn = false) ∨ ∃ k v e t l, x = ⟨.lent k, 0, 0⟩ ∧ is[k]? = some (.row v e t) ∧ c = .own e t 0 l ∧ OwnV Z w 0 e t v l ∧ γ.φ x = v := by
    rintro ⟨s, i, j⟩ c hc
    unfold envCell at hc
    cases s with
    | ver => simp only [env0, Env.get_cons_self, AV.cell?] at hc; cases hc
    | tmp t =>
      simp only [gt] at hc
      rcases a1 t with h | ⟨n, v, h1, h2, h3⟩
      · rw [h] at hc; simp [AV.cell?] at hc
      · cases hg : (argEnvM As xs 0 0 0 (parLen As)).get (.tmp t) with
        | val g cs =>
          rw [hg] at h3 hc
          obtain ⟨us, e1, e2, e3, e4, e5⟩ := h3
          cases i with
          | succ i => simp [AV.cell?] at hc
          | zero =>
            have hc : cs[j]? = some c := hc
            have hlt : j < us.length := by rw [e3]; exact (List.getElem?_eq_some_iff.1 hc).1
            have hφ : γ.φ ⟨.tmp t, 0, j⟩ = us[j] := by
              show ((vs.getD t undef).cells.toList).getD j undef = _
              rw [h1, Nat.zero_add, getD_of h2, e2, getD_of (List.getElem?_eq_getElem hlt)]
            rw [hφ]
            have := e5 j c _ hc (List.getElem?_eq_getElem hlt)
            exact .inl ⟨this, this.2.2.2⟩
        | _ => rw [hg] at h3; exact h3.elim
    | box b =>
      cases hg : env0.get (.box b) with
      | box ver fz cs =>
        obtain ⟨n, g, us, rfl, h2, rfl, rfl, h5, _, h7⟩ := hbox b ver fz cs hg
        simp only [hg] at hc
        cases i with
        | succ i => simp [AV.cell?] at hc
        | zero =>
          have hc : cs[j]? = some c := hc
          have hlt : j < us.length := by rw [h5]; exact (List.getElem?_eq_some_iff.1 hc).1
          have hφ : γ.φ ⟨.box (lentBase + n), 0, j⟩ = us[j] := by
            show (match is[lentBase + n - lentBase]? with | some (.box _ us) => us.getD j undef | _ => undef) = _
            rw [Nat.add_sub_cancel_left, h2]
            exact getD_of (List.getElem?_eq_getElem hlt)
          rw [hφ]
          have := h7 j c _ hc (List.getElem?_eq_getElem hlt)
          exact .inl ⟨this, this.2.2.2⟩
      | val g cs =>
        rw [gb] at hg
        rcases a2 b with h | ⟨n, it, h1, h2, h3⟩
        · rw [h] at hg; cases hg
        · rw [hg] at h3; cases it <;> exact h3.elim
      | tup l =>
        rw [gb] at hg
        rcases a2 b with h | ⟨n, it, h1, h2, h3⟩
        · rw [h] at hg; cases hg
        · rw [hg] at h3; cases it <;> exact h3.elim
      | undef => simp only [hg, AV.cell?] at hc; cases hc
      | skip => simp only [hg, AV.cell?] at hc; cases hc
      | num n => simp only [hg, AV.cell?] at hc; cases hc
    | lent k =>
      simp only [gl] at hc
      rcases a3 k with h | ⟨n, it, h1, h2, h3⟩
      · rw [h] at hc; simp [AV.cell?] at hc
      · have hk : k = n := by omega
        subst hk
        cases hg : (argEnvM As xs 0 0 0 (parLen As)).get (.lent k) with
        | val g cs =>
          rw [hg] at h3 hc
          cases it with
          | box g us => exact h3.elim
          | row v e t =>
            obtain ⟨l, rfl, rfl, hown⟩ := h3
            cases i with
            | succ i => simp [AV.cell?] at hc
            | zero =>
              cases j with
              | succ j => simp [AV.cell?] at hc
              | zero =>
                simp only [AV.cell?, List.getElem?_cons_zero, Option.some.injEq] at hc
                exact .inr ⟨k, v, e, t, l, rfl, h2, hc.symm, hown, hlv k v e t h2⟩
        | _ => rw [hg] at h3; cases it <;> exact h3.elim
  have hown : ∀ x e t ver l, envCell env0 x = some (.own e t ver l) → ∃ k v, x = ⟨.lent k, 0, 0⟩ ∧ is[k]? = some (.row v e t) ∧ ver = 0 ∧ OwnV Z w 0 e t v l ∧ γ.φ x = v := by
    intro x e t ver l hx
    rcases hcell x _ hx with ⟨_, h⟩ | ⟨k, v, e', t', l', h1, h2, h3, h4, h5⟩
    · simp [Cell.isOwn] at h
    · injection h3 with e1 e2 e3 e4
      subst e1; subst e2; subst e3
      have e4 := eq_of_heq e4
      subst e4
      exact ⟨k, v, h1, h2, rfl, h4, h5⟩
  have hcore : Core A X γ (fun v => env0.ver ≤ v) env0 { tmps := vs.toArray ++ Array.replicate (fn.ntmps - vs.toArray.size) undef, defers := [] } w := by
    refine { frame := ⟨rfl, rfl, rfl, Nat.le_refl _, fun _ _ _ => rfl, Nat.le_refl _⟩, glob := hG, zone := hZ, zone0 := ⟨fun g hg => hg, fun g hg => .inl hg⟩, defers := rfl, size := ?_, ntl := hAs.2, baseB := Nat.zero_le _, tmp := fun t => ?_, box := fun b ver fz cs hbb => ?_, cell := fun x c hc => ?_, own := fun x e t ver l hx => ?_, inj := ?_, fresh := fun x e t ver l hx hnl => ?_, lent := fun _ => rfl, lentloc := fun k c j cl hx => ?_ }
    · simp only [Array.size_append, List.size_toArray, Array.size_replicate, hvl]
      have := hAs.1
      omega
    · rw [gt]
      rcases a1 t with h | ⟨n, v, h1, h2, h3⟩
      · rw [h]; exact trivial
      · cases hg : (argEnvM As xs 0 0 0 (parLen As)).get (.tmp t) with
        | val g cs =>
          rw [hg] at h3
          obtain ⟨us, e1, e2, e3, e4, e5⟩ := h3
          have hk : t = n := by omega
          subst hk
          refine ⟨?_, e4⟩
          have hlt : t < vs.length := (List.getElem?_eq_some_iff.1 h2).1
          have hv : (vs.toArray ++ Array.replicate (fn.ntmps - vs.toArray.size) undef).getD t undef = v := by
            rw [Array.getD_eq_getD_getElem?, Array.getElem?_append_left (by simpa using hlt), List.getElem?_toArray, h2]
            rfl
          rw [hv, e1]
          congr 1
          have hφ : ∀ j, γ.φ ⟨.tmp t, 0, j⟩ = us.getD j undef := fun j => by
            show ((vs.getD t undef).cells.toList).getD j undef = _
            rw [getD_of h2, e2]
          rw [← range_map_getD us cs.length e3]
          simp [cellVals, hφ]
        | _ => rw [hg] at h3; exact h3.elim
    · obtain ⟨n, g, us, rfl, h2, rfl, rfl, h5, ⟨T, hT⟩, h7⟩ := hbox b ver fz cs hbb
      have hs := hσ0 n g us h2
      have hcv : cellVals γ (.box (lentBase + n)) 0 cs.length = us := by
        rw [← range_map_getD us cs.length h5]
        simp only [cellVals]
        apply List.map_congr_left
        intro j _
        show (match is[lentBase + n - lentBase]? with | some (.box _ us) => us.getD j undef | _ => undef) = _
        rw [Nat.add_sub_cancel_left, h2]
      refine ⟨⟨T, by rw [hs, hcv]; exact hT⟩, ⟨fun hh => by omega, fun _ => ?_⟩, ⟨fun hh => (by cases hh), fun hz => ?_⟩, by rw [gv]; omega⟩
      · rw [Nat.add_sub_cancel_left, hs]; exact hlb n g us h2
      · rw [hs] at hz
        exact absurd hz (hsep.zone g ⟨_, List.mem_of_getElem? h2, rfl⟩).1
    · rcases hcell x c hc with ⟨⟨h1, h2, h3, _⟩, _⟩ | ⟨k, v, e, t, l, rfl, h2, rfl, h4, h5⟩
      · exact ⟨h1, h2, fun r hr => by rw [h3 r hr, gv]; omega⟩
      · refine ⟨by rw [h5]; exact h4, ?_, by simp [refs]⟩
        rw [h5]
        obtain ⟨B, c, hh, _⟩ := OwnV.slice h4
        rw [hh]; rfl
    · obtain ⟨k, v, rfl, h2, rfl, h4, h5⟩ := hown x e t ver l hx
      refine ⟨rfl, by rw [gv]; omega, fun g hg => ?_⟩
      rw [h5] at hg
      have hlo : Lof is g := ⟨_, List.mem_of_getElem? h2, hg⟩
      refine ⟨(hsep.zone g hlo).1, fun b bv fz cs hbb he => ?_, fun y e' t' ver' l' hy hyg => ?_⟩
      · obtain ⟨n, g', us, rfl, h2', rfl, rfl, _⟩ := hbox b bv fz cs hbb
        rw [hσ0 n g' us h2'] at he
        subst he
        have := hsep.uniq k n _ _ g' h2 h2' hg rfl
        subst this
        rw [h2] at h2'
        cases h2'
      · obtain ⟨k', v', rfl, h2', rfl, h4', h5'⟩ := hown y e' t' ver' l' hy
        rw [h5'] at hyg
        have := hsep.uniq k k' _ _ g h2 h2' hg hyg
        rw [this]
    · intro b b' bv bv' fz fz' cs cs' h1 h2 he
      obtain ⟨n, g, us, rfl, k1, rfl, rfl, _⟩ := hbox b bv fz cs h1
      obtain ⟨n', g', us', rfl, k1', rfl, rfl, _⟩ := hbox b' bv' fz' cs' h2
      rw [hσ0 n g us k1, hσ0 n' g' us' k1'] at he
      subst he
      rw [hsep.uniq n n' _ _ g k1 k1' rfl rfl]
    · obtain ⟨k, v, rfl, _⟩ := hown x e t ver l hx
      simp [Slot.isLent] at hnl
    · rcases hcell _ cl hx with ⟨_, hno⟩ | ⟨k', v, e, t, l, h1, _⟩
      · exfalso
        unfold envCell at hx
        simp only [gl] at hx
        rcases a3 k with h | ⟨n, it, h1, h2, h3⟩
        · rw [h] at hx; simp [AV.cell?] at hx
        · cases hg : (argEnvM As xs 0 0 0 (parLen As)).get (.lent k) with
          | val g cs =>
            rw [hg] at h3 hx
            cases it with
            | box g us => exact h3.elim
            | row v e t =>
              obtain ⟨l, rfl, rfl, hown⟩ := h3
              cases c with
              | succ i => simp [AV.cell?] at hx
              | zero =>
                cases j with
                | succ j => simp [AV.cell?] at hx
                | zero =>
                  simp only [AV.cell?, List.getElem?_cons_zero, Option.some.injEq] at hx
                  subst hx
                  simp [Cell.isOwn] at hno
          | _ => rw [hg] at h3; cases it <;> exact h3.elim
      · simp only [Loc.mk.injEq] at h1
        exact ⟨h1.2.1, h1.2.2⟩
  refine run_sound K hm c env0 (finMD X As R ms) (r, m) _ _ w hrun ⟨γ, hcore⟩ fun e env' a' w' hfinD hst' => ?_
  obtain ⟨out, hfin, hdec⟩ := Option.bind_eq_some_iff.1 hfinD
  obtain ⟨γ', hc'⟩ := hst'
  have done : (((outOf X [] X.results).bind fun o => (outM As 0).bind fun m => .pure (o ++ m)).cps env'.get [] fun o _ => some o) = some out → a'.defers = [] ∧ ∃ v, (results fn a'.tmps).run P w' = .ok v w' ∧
      ∃ v0, Ending.returned v = .returned v0 ∧ ∃ Z' us, v0 = mkRes us ∧ FrameL (Lof is) w w' ∧ (∀ g, Z g → Z' g) ∧ (∀ g, Z' g → Z g ∨ (w.heap.size ≤ g ∧ g < w'.heap.size)) ∧
      ResRel Z' w' w.heap.size [] (resL R r ms) us ∧ OutN Z' w' is (newsOf As m) := by
    intro hfin
    obtain ⟨o, lg, he, ho⟩ := Rd.cps_some _ _ _ _ _ hfin
    injection ho with ho
    subst ho
    simp only [Rd.eval_bind, Option.bind_eq_some_iff] at he
    obtain ⟨⟨o1, l2⟩, e1, ⟨o2, l3⟩, e2, e3⟩ := he
    simp only [Rd.eval, Option.some.injEq, Prod.mk.injEq] at e3
    obtain ⟨rfl, _⟩ := e3
    have hl1 : o1.length = R.length := by rw [outOf_length _ _ _ _ _ _ e1, hR]
    simp only [decodeLM, Option.bind_eq_some_iff, Option.map_eq_some_iff, Prod.mk.injEq] at hdec
    obtain ⟨r', d1, m', d2, rfl, rfl⟩ := hdec
    rw [← hl1, List.take_left] at d1
    rw [← hl1, List.drop_left] at d2
    obtain ⟨us, m1, m2⟩ := outOf_sound hc' K X.results [] o1 [] _ e1
    obtain ⟨Z', z1, z2, f', hl, hcl, huq⟩ := fin_rel hc' d1 m2
    refine ⟨hc'.defers, mkRes us, ?_, _, rfl, Z', us, rfl, ⟨hc'.frame.os, hc'.frame.tape, hc'.frame.output, hc'.frame.size, fun k hk hnl => hc'.frame.block k hk fun hh => hnl ((hL k).1 hh), hc'.frame.drawn⟩, fun g hg => z1 g (hc'.zone0.1 g hg), fun g hg => ?_, ⟨f', hl, fun i p hp => ?_, huq⟩, ?_⟩
    · rw [hres] at m1
      change Sem.run P _ w' = _ at m1
      have hmap : (fn.results.mapM (fun | .tmp t => pure (a'.tmps.getD t undef) | .cell b t => do loadVar t (← asAddr (a'.tmps.getD b undef)) : ResultVar → Sem Value)).run P w' = .ok us.toArray w' := by
        rw [Array.mapM_eq_mapM_toList, Sem.run_map]
        exact congrArg (fun r => Result.andThen r fun l w => Result.ok (List.toArray l) w) m1
      have hbind : (results fn a'.tmps).run P w' = (((fn.results.mapM (fun | .tmp t => pure (a'.tmps.getD t undef) | .cell b t => do loadVar t (← asAddr (a'.tmps.getD b undef)) : ResultVar → Sem Value)).run P w').andThen
          fun vs w => (pure (if h : vs.size = 1 then vs[0] else .tuple vs) : Sem Value).run P w) := by
        rw [← Sem.run_bind]; rfl
      rw [hbind, hmap, Result.andThen_ok]
      match us with
      | [] => rfl
      | [v] => rfl
      | _ :: _ :: _ => rfl
    · rcases z2 g hg with hg | hg
      · rcases hc'.zone0.2 g hg with h0 | h0
        · exact .inl h0
        · exact .inr ⟨h0, hc'.zone g hg⟩
      · exact .inr hg
    · obtain ⟨g1, g2, g3⟩ := hcl i p hp
      refine ⟨g1, g2, fun j rc hrc => ?_⟩
      have hnp := resL_nopass R r' ms hms p (List.mem_of_getElem? hp) rc (List.mem_of_getElem? hrc)
      have := g3 j rc hrc
      cases rc with
      | pass k => exact absurd rfl (hnp k)
      | flat c => exact this
      | own e t l => exact this
      | imm t l => exact this
      | bad => exact this
    · exact outM_sound hc' rfl z1 hlv hlb As xs vs is 0 (parLen As) o2 m' _ _ hargs (fun n it hn => by rwa [Nat.zero_add]) (fun m u hu => by
        show (avsOf vs ++ busOf is)[parLen As + m]? = _
        have hal := argsM_len Z w As xs vs is hargs
        rw [List.getElem?_append_right (by omega), hal, Nat.add_sub_cancel_left]; exact hu) e2 d2
  cases e with
  | normal => exact done hfin
  | ret => exact done hfin
  | exit id => simp [finM] at hfin
  | goto l => simp [finM] at hfin
end
end Go.VI
