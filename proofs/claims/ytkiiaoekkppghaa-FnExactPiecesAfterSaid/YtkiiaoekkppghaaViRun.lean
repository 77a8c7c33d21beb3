/- VI, part 25: code. -/
import Derived.Test.YtkiiaoekkppghaaViReg
namespace Go.VI
noncomputable section
open Go.RowKit

theorem wp_loop_fuel {P : Program} {Q : Exit → Act → World → Prop} {c : Code} (I : Nat → Act → World → Prop) {m : Nat} {a : Act} {w : World} (h₀ : I m a w)
    (round : ∀ m a w, I m a w → c.wp P (Exit.then (fun a' w' => ∃ m' < m, I m' a' w') Q) a w) : (Code.loop c).wp P Q a w := by
  intro b k cs
  have key : ∀ n a w, I n a w →
      ∃ e a' w', Q e a' w' ∧ Arrives P (lone (b.at a (.code c :: .inLoop c :: k)) cs w) b k cs e a' w' := by
    intro n
    induction n using Nat.strongRecOn with
    | _ n ih =>
      intro a w hI
      obtain ⟨e, a₁, w₁, hq, harr⟩ := round n a w hI b (.inLoop c :: k) cs
      cases e with
      | normal =>
        obtain ⟨m', hlt, hI₁⟩ := hq
        obtain ⟨e₂, a₂, w₂, hq₂, harr₂⟩ := ih m' hlt a₁ w₁ hI₁
        exact ⟨e₂, a₂, w₂, hq₂, .of_steps (Steps.trans harr (.one step_inLoop)) harr₂⟩
      | exit id => exact ⟨_, a₁, w₁, hq, .pass (x := .inLoop c) rfl (fun _ _ => .inl (by simp)) harr⟩
      | goto l => exact ⟨_, a₁, w₁, hq, .pass (x := .inLoop c) rfl (fun _ _ => .inl (by simp)) harr⟩
      | ret => exact ⟨_, a₁, w₁, hq, .pass (x := .inLoop c) rfl (fun _ _ => .inl (by simp)) harr⟩
      | panic ch => exact ⟨_, a₁, w₁, hq, .pass (x := .inLoop c) rfl (fun _ _ => .inl (by simp)) harr⟩
      | outgrown => exact ⟨_, a₁, w₁, hq, .pass (x := .inLoop c) rfl (fun _ _ => .inl (by simp)) harr⟩
  obtain ⟨e, a', w', hq, harr⟩ := key _ a w h₀
  exact ⟨e, a', w', hq, .of_steps (.one step_loop) harr⟩

section
variable {A : Fix} {X : Ctx} {γ : Gh} {Fr : Nat → Prop} {env env' : Env} {a : Act} {w w' : World}

/-- The state between regions. -/
def St (A : Fix) (X : Ctx) (env : Env) (a : Act) (w : World) : Prop := Holds A X (fun v => env.ver ≤ v) env a w

def exOf : Ex → Exit
  | .normal => .normal
  | .exit id => .exit id
  | .goto l => .goto l
  | .ret => .ret

theorem get_map (f : Slot → AV) (s : Slot) : ∀ (ks : List Slot), Env.get (ks.map fun s => (s, f s)) s = if s ∈ ks then f s else .undef
  | [] => rfl
  | k :: r => by
    rw [List.map_cons, Env.get_cons, get_map f s r]
    by_cases h : k = s
    · subst h; simp
    · simp [h, Ne.symm h]

theorem restrict_get (ks : List Slot) (env : Env) (s : Slot) : (restrict ks env).get s = if s = .ver then .num 1 else if s ∈ ks then canon env (env.get s) else .undef := by
  unfold restrict
  rw [Env.get_cons]
  by_cases h : s = .ver
  · subst h; simp
  · simp [h, Ne.symm h, get_map fun s => canon env (env.get s)]

theorem restrict_ver (ks : List Slot) (env : Env) : (restrict ks env).ver = 1 := by
  unfold Env.ver
  rw [restrict_get]
  simp

theorem canon_cell {av : AV} {i j : Nat} {c : Cell} (h : (canon env av).cell? i j = some c) : ∃ c0, av.cell? i j = some c0 ∧ c = canonCell env c0 := by
  cases av with
  | val g cs =>
    cases i with
    | succ i => simp [canon, AV.cell?] at h
    | zero =>
      simp only [canon, AV.cell?, List.getElem?_map, Option.map_eq_some_iff] at h ⊢
      obtain ⟨c0, h1, h2⟩ := h
      exact ⟨c0, h1, h2.symm⟩
  | box v fz cs =>
    cases i with
    | succ i => simp [canon, AV.cell?] at h
    | zero =>
      simp only [canon, AV.cell?, List.getElem?_map, Option.map_eq_some_iff] at h ⊢
      obtain ⟨c0, h1, h2⟩ := h
      exact ⟨c0, h1, h2.symm⟩
  | skip => simp [canon, AV.cell?] at h
  | undef => simp [canon, AV.cell?] at h
  | tup l => simp [canon, AV.cell?] at h
  | num n => simp [canon, AV.cell?] at h

theorem restrict_cell {ks : List Slot} {x : Loc} {c : Cell} (h : envCell (restrict ks env) x = some c) : ∃ c0, envCell env x = some c0 ∧ c = canonCell env c0 := by
  unfold envCell at h
  rw [restrict_get] at h
  split at h
  · simp [AV.cell?] at h
  · split at h
    · exact canon_cell h
    · simp [AV.cell?] at h

theorem canon_own {env : Env} {c : Cell} {e : TypeId} {t : Ty} {ver : Nat} {l : List t.den} (h : canonCell env c = .own e t ver l) : ver = 0 ∧ ((∃ v, c = .own e t v l) ∨ (c = .nil e t ∧ l = [] ∧ 0 < t.size)) := by
  cases c with
  | own e' t' v' l' =>
    simp only [canonCell, Cell.own.injEq] at h
    obtain ⟨rfl, rfl, rfl, h4⟩ := h
    have h4 := eq_of_heq h4
    subst h4
    exact ⟨rfl, .inl ⟨v', rfl⟩⟩
  | nil e' t' =>
    simp only [canonCell] at h
    cases hs : Nat.blt 0 t'.size with
    | false => rw [hs] at h; cases h
    | true =>
      rw [hs] at h
      simp only [cond_true, Cell.own.injEq] at h
      obtain ⟨rfl, rfl, rfl, h4⟩ := h
      have h4 := eq_of_heq h4
      exact ⟨rfl, .inr ⟨rfl, h4.symm, Nat.le_of_ble_eq_true hs⟩⟩
  | addr b bv off =>
    simp only [canonCell] at h
    split at h
    · rename_i v _ _ _
      cases hb : Nat.beq v bv <;> rw [hb] at h <;> cases h
    · cases h
  | view x v =>
    simp only [canonCell] at h
    split at h
    · rename_i v' _ _
      cases hb : Nat.beq v' v <;> rw [hb] at h <;> cases h
    · cases h
  | _ => simp [canonCell] at h

theorem restrict_sound (h : Holds A X Fr env a w) (ks : List Slot) : St A X (restrict ks env) a w := by
  obtain ⟨γ, h⟩ := h
  unfold St
  rw [restrict_ver]
  let cur : Nat → Nat := fun b => match env.get (.box b) with | .box v _ _ => v | _ => 0
  let γ' : Gh := { γ with σ := fun b v => if v = 0 then γ.σ b (cur b) else γ.σ b v, ψ := fun x v => if v = 0 then γ.φ x else γ.ψ x v }
  have hcv : ∀ s i n, cellVals γ' s i n = cellVals γ s i n := fun _ _ _ => rfl
  have hbox : ∀ b ver fz cs, (restrict ks env).get (.box b) = .box ver fz cs → ver = 0 ∧ ∃ v cs0, env.get (.box b) = .box v fz cs0 ∧ cs0.length = cs.length ∧ γ'.σ b 0 = γ.σ b v := by
    intro b ver fz cs hb
    rw [restrict_get] at hb
    simp only [reduceCtorEq, if_false] at hb
    split at hb
    · cases hg : env.get (.box b) with
      | box v f cs0 =>
        rw [hg] at hb
        simp only [canon, AV.box.injEq] at hb
        obtain ⟨rfl, rfl, rfl⟩ := hb
        exact ⟨rfl, v, cs0, rfl, by simp, by simp [γ', cur, hg]⟩
      | val g cs => rw [hg] at hb; simp [canon] at hb
      | skip => rw [hg] at hb; simp [canon] at hb
      | undef => rw [hg] at hb; simp [canon] at hb
      | tup l => rw [hg] at hb; simp [canon] at hb
      | num n => rw [hg] at hb; simp [canon] at hb
    · cases hb
  refine ⟨γ', { frame := h.frame, glob := h.glob, zone := h.zone, zone0 := h.zone0, defers := h.defers, size := h.size, ntl := h.ntl, baseB := h.baseB, tmp := ?_, box := ?_, cell := ?_, own := ?_, inj := ?_, fresh := ?_, lent := h.lent, lentloc := ?_ }⟩
  · intro t
    rw [restrict_get]
    simp only [reduceCtorEq, if_false]
    split
    · have := h.tmp t
      revert this
      cases env.get (.tmp t) with
      | val g cs => simp only [canon, RelTmp, hcv, List.length_map]; exact id
      | skip => exact id
      | undef => exact id
      | tup l => exact fun _ => trivial
      | box _ _ _ => exact id
      | num _ => exact id
    · exact trivial
  · intro b ver fz cs hb
    obtain ⟨rfl, v, cs0, h1, h2, h3⟩ := hbox b ver fz cs hb
    obtain ⟨b1, b2, b3, _⟩ := h.box b v fz cs0 h1
    rw [h3, hcv, ← h2]
    exact ⟨b1, b2, b3, by omega⟩
  · intro x c hc
    obtain ⟨c0, h0, rfl⟩ := restrict_cell hc
    obtain ⟨h1, h2, h3⟩ := h.cell x c0 h0
    have mv : ∀ {c : Cell} {v : Value}, refs c = none → RelCell A γ w c v → RelCell A γ' w c v := fun hr hc =>
      hc.move (fun r hh => by rw [hr] at hh; cases hh) (fun r hh => by rw [hr] at hh; cases hh) (fun _ hz => hz) (fun _ _ => rfl) (Nat.le_refl _) (fun _ _ _ => rfl)
    show RelCell A γ' w (canonCell env c0) (γ.φ x) ∧ (γ.φ x).oneCell' = true ∧ ∀ r, refs (canonCell env c0) = some r → ¬ (1 ≤ r)
    cases c0 with
    | own e t v l => exact ⟨h1, h2, by simp [canonCell, refs]⟩
    | nil e t =>
      refine ⟨?_, h2, ?_⟩
      · simp only [canonCell]
        cases hs : Nat.blt 0 t.size with
        | false => exact h1
        | true => 
          have h1 : γ.φ x = .slice none 0 0 := h1
          rw [h1]
          exact OwnV.nil (Nat.le_of_ble_eq_true hs)
      · simp only [canonCell]
        cases Nat.blt 0 t.size <;> simp [refs]
    | addr b bv off =>
      refine ⟨?_, h2, ?_⟩
      · simp only [canonCell]
        split
        · rename_i v fz cs hb
          cases hv : Nat.beq v bv with
          | false => exact trivial
          | true =>
            have hv := Nat.eq_of_beq_eq_true hv
            subst hv
            have : γ'.σ b 0 = γ.σ b v := by simp [γ', cur, hb]
            simp only [cond_true, RelCell, this]
            exact h1
        · exact trivial
      · simp only [canonCell]
        split
        · rename_i v fz cs hb
          cases Nat.beq v bv <;> simp [refs]
        · simp [refs]
    | view y v =>
      refine ⟨?_, h2, ?_⟩
      · simp only [canonCell]
        split
        · rename_i e t v' l hy
          cases hv : Nat.beq v' v with
          | false => exact trivial
          | true =>
            have hv := Nat.eq_of_beq_eq_true hv
            subst hv
            have h1 : γ.φ x = γ.ψ y v' := h1
            simp only [cond_true, RelCell, h1, (h.own y e t v' l hy).1]
            simp [γ']
        · exact trivial
      · simp only [canonCell]
        split
        · rename_i v' _ _
          cases Nat.beq v' v <;> simp [refs]
        · simp [refs]
    | sub x v s lo hi => exact ⟨trivial, h2, by simp [canonCell, refs]⟩
    | barr b bv o n t => exact ⟨trivial, h2, by simp [canonCell, refs]⟩
    | eview x v s i o => exact ⟨trivial, h2, by simp [canonCell, refs]⟩
    | eviewI x v s i o m s2 j => exact ⟨trivial, h2, by simp [canonCell, refs]⟩
    | addrI b bv o n s i => exact ⟨trivial, h2, by simp [canonCell, refs]⟩
    | undef => exact ⟨trivial, h2, by simp [canonCell, refs]⟩
    | int k n => exact ⟨mv rfl h1, h2, by simp [canonCell, refs]⟩
    | bool b => exact ⟨mv rfl h1, h2, by simp [canonCell, refs]⟩
    | str s => exact ⟨mv rfl h1, h2, by simp [canonCell, refs]⟩
    | imm t l p => exact ⟨mv rfl h1, h2, by simp [canonCell, refs]⟩
    | gptr g o => exact ⟨mv rfl h1, h2, by simp [canonCell, refs]⟩
    | gptrI g o n s i => exact ⟨mv rfl h1, h2, by simp [canonCell, refs]⟩
    | iptr t x o => exact ⟨mv rfl h1, h2, by simp [canonCell, refs]⟩
    | iptrI t x o n s i => exact ⟨mv rfl h1, h2, by simp [canonCell, refs]⟩
    | eimm t l i o => exact ⟨mv rfl h1, h2, by simp [canonCell, refs]⟩
    | eimmI t l i o m s2 j => exact ⟨mv rfl h1, h2, by simp [canonCell, refs]⟩
    | func f => exact ⟨mv rfl h1, h2, by simp [canonCell, refs]⟩
    | clo as rs F => exact ⟨mv rfl h1, h2, by simp [canonCell, refs]⟩
  · intro x e t ver l hc
    obtain ⟨c0, h0, hc0⟩ := restrict_cell hc
    obtain ⟨rfl, hor⟩ := canon_own hc0.symm
    refine ⟨by simp [γ'], by omega, fun g hg => ?_⟩
    rcases hor with ⟨v, rfl⟩ | ⟨rfl, _, _⟩
    · obtain ⟨k1, k2, k3⟩ := h.own x e t v l h0
      obtain ⟨a1, a2, a3⟩ := k3 g hg
      refine ⟨a1, fun b bv fz cs hb => ?_, fun y e' t' ver' l' hy hyg => ?_⟩
      · obtain ⟨rfl, v', cs0, h1, _, h3⟩ := hbox b bv fz cs hb
        rw [h3]; exact a2 b v' fz cs0 h1
      · obtain ⟨c1, h1, hc1⟩ := restrict_cell hy
        obtain ⟨_, hor⟩ := canon_own hc1.symm
        rcases hor with ⟨v1, rfl⟩ | ⟨rfl, _, _⟩
        · exact a3 y e' t' v1 l' h1 hyg
        · have : γ.φ y = .slice none 0 0 := (h.cell y _ h1).1
          have hyg : (γ.φ y).ownBlock = some g := hyg
          rw [this] at hyg
          simp [Value.ownBlock] at hyg
    · have : γ.φ x = .slice none 0 0 := (h.cell x _ h0).1
      have hg : (γ.φ x).ownBlock = some g := hg
      rw [this] at hg
      simp [Value.ownBlock] at hg
  · intro b b' bv bv' fz fz' cs cs' hb hb' he
    obtain ⟨rfl, v, cs0, h1, _, h3⟩ := hbox b bv fz cs hb
    obtain ⟨rfl, v', cs0', h1', _, h3'⟩ := hbox b' bv' fz' cs' hb'
    rw [h3, h3'] at he
    exact h.inj b b' v v' fz fz' cs0 cs0' h1 h1' he
  · intro x e t ver l hc hnl g hg
    obtain ⟨c0, h0, hc0⟩ := restrict_cell hc
    obtain ⟨_, hor⟩ := canon_own hc0.symm
    rcases hor with ⟨v, rfl⟩ | ⟨rfl, _, _⟩
    · exact h.fresh x e t v l h0 hnl g hg
    · have : γ.φ x = .slice none 0 0 := (h.cell x _ h0).1
      have hg : (γ.φ x).ownBlock = some g := hg
      rw [this] at hg
      simp [Value.ownBlock] at hg
  · intro k c j cl hc
    obtain ⟨c0, h0, _⟩ := restrict_cell hc
    exact h.lentloc k c j c0 h0

theorem setVer_sound {n : Nat} (h : Holds A X Fr env a w) : Holds A X Fr ((.ver, .num n) :: env) a w := by
  obtain ⟨γ, h⟩ := h
  have hb : ∀ b, Env.get ((.ver, .num n) :: env) (.box b) = env.get (.box b) := fun b => Env.get_cons_ne _ _ (by simp)
  have ht : ∀ t, Env.get ((.ver, .num n) :: env) (.tmp t) = env.get (.tmp t) := fun t => Env.get_cons_ne _ _ (by simp)
  have hc : ∀ x c, envCell ((.ver, .num n) :: env) x = some c → envCell env x = some c := by
    intro x c hx
    rw [envCell_cons] at hx
    split at hx
    · simp [AV.cell?] at hx
    · exact hx
  refine ⟨γ, { frame := h.frame, glob := h.glob, zone := h.zone, zone0 := h.zone0, defers := h.defers, size := h.size, ntl := h.ntl, baseB := h.baseB, tmp := fun t => by rw [ht]; exact h.tmp t, box := fun b ver fz cs hh => h.box b ver fz cs (by rwa [hb] at hh), cell := fun x c hx => h.cell x c (hc x c hx), own := ?_, inj := ?_, fresh := fun x e t ver l hx => h.fresh x e t ver l (hc x _ hx), lent := h.lent, lentloc := fun k c j cl hx => h.lentloc k c j cl (hc _ _ hx) }⟩
  · intro x e t ver l hx
    obtain ⟨k1, k2, k3⟩ := h.own x e t ver l (hc x _ hx)
    refine ⟨k1, k2, fun g hg => ?_⟩
    obtain ⟨a1, a2, a3⟩ := k3 g hg
    exact ⟨a1, fun b bv fz cs hh => a2 b bv fz cs (by rwa [hb] at hh), fun y e' t' v' l' hy => a3 y e' t' v' l' (hc y _ hy)⟩
  · intro b b' bv bv' fz fz' cs cs' h1 h2
    exact h.inj b b' bv bv' fz fz' cs cs' (by rwa [hb] at h1) (by rwa [hb] at h2)

theorem freezeCell_own {c : Cell} {e : TypeId} {t : Ty} {v : Nat} {l : List t.den} : freezeCell c ≠ .own e t v l := by cases c <;> simp [freezeCell]

/-- The cells of a slot are frozen, one by one: those before m. -/
def freezeTo : Nat → List Cell → List Cell
  | _, [] => []
  | 0, c :: r => c :: r
  | m + 1, c :: r => freezeCell c :: freezeTo m r

theorem freezeTo_length : ∀ (m : Nat) (cs : List Cell), (freezeTo m cs).length = cs.length
  | 0, [] => rfl
  | _ + 1, [] => rfl
  | 0, _ :: _ => rfl
  | m + 1, c :: r => by simp [freezeTo, freezeTo_length m r]

theorem freezeTo_all : ∀ (cs : List Cell), freezeTo cs.length cs = cs.map freezeCell
  | [] => rfl
  | c :: r => by simp [freezeTo, freezeTo_all r]

theorem freezeTo_zero : ∀ (cs : List Cell), freezeTo 0 cs = cs
  | [] => rfl
  | _ :: _ => rfl

theorem freezeTo_step : ∀ (m : Nat) (cs : List Cell) (c : Cell), cs[m]? = some c → freezeTo (m + 1) cs = setNth (freezeTo m cs) m (freezeCell c) ∧ (freezeTo m cs)[m]? = some c
  | m, [], c, h => by simp at h
  | 0, a :: r, c, h => by
    simp at h
    subst h
    simp [freezeTo, setNth, freezeTo_zero]
  | m + 1, a :: r, c, h => by
    obtain ⟨h1, h2⟩ := freezeTo_step m r c (by simpa using h)
    exact ⟨by simp [freezeTo, setNth] at h1 ⊢; exact h1, by simp [freezeTo, h2]⟩

/-- A cell of a slot is frozen. -/
theorem freeze_one (h : Holds A X Fr env a w) {x : Loc} {c : Cell} (hx : envCell env x = some c) (hnl : x.s.isLent = false) : Holds A X Fr (Upd.app env (.cell x (freezeCell c))) a w := by
  obtain ⟨γ, h⟩ := h
  have same : freezeCell c = c → Holds A X Fr (Upd.app env (.cell x (freezeCell c))) a w := by
    intro hs
    refine ⟨γ, h.flat x hx (by rw [hs]) ?_ ?_⟩
    · intro e t v l
      exact freezeCell_own
    · intro _
      rw [hs]
      exact (h.cell x c hx).1
  cases c with
  | own e t v l => exact ⟨_, h.freeze hx hnl⟩
  | nil e t =>
    refine ⟨γ, h.flat x hx (by simp [freezeCell, refs]) (fun _ _ _ _ => freezeCell_own) fun hr => ?_⟩
    have hr : γ.φ x = .slice none 0 0 := hr
    rw [hr]
    exact ⟨⟨none, 0, rfl, Nat.le_refl _, fun i x hx => by simp at hx⟩, by simp⟩
  | imm t l p =>
    refine ⟨γ, h.flat x hx (by simp [freezeCell, refs]) (fun _ _ _ _ => freezeCell_own) fun hr => ?_⟩
    exact ⟨hr.1, by simp⟩
  | _ => exact same rfl

theorem freezeAV_cells {s : Slot} (hnl : s.isLent = false) {cs : List Cell} (mk : List Cell → AV) (hmk : ∀ cs i, (mk cs).setCell 0 i = fun c => mk (setNth cs i c)) (hmc : ∀ cs i, (mk cs).cell? 0 i = cs[i]?)
    (h : Holds A X Fr env a w) (hs : env.get s = mk cs) : Holds A X Fr ((s, mk (cs.map freezeCell)) :: env) a w := by
  have key : ∀ m, m ≤ cs.length → Holds A X Fr ((s, mk (freezeTo m cs)) :: env) a w := by
    intro m
    induction m with
    | zero =>
      intro _
      rw [freezeTo_zero]
      obtain ⟨γ, h⟩ := h
      refine ⟨γ, h.ext fun s' => ?_⟩
      rw [Env.get_cons]
      split
      · rename_i hh; rw [← hh, hs]
      · rfl
    | succ m ih =>
      intro hm
      have h0 := ih (by omega)
      have hc : cs[m]? = some cs[m] := List.getElem?_eq_getElem (by omega)
      obtain ⟨h1, h2⟩ := freezeTo_step m cs _ hc
      have hx : envCell ((s, mk (freezeTo m cs)) :: env) ⟨s, 0, m⟩ = some cs[m] := by
        rw [envCell_cons, if_pos rfl, hmc, h2]
      obtain ⟨γ, h3⟩ := freeze_one h0 hx hnl
      refine ⟨γ, h3.ext fun s' => ?_⟩
      rw [get_app_cell, Env.get_cons, Env.get_cons]
      split
      · rename_i hh
        simp only [hmk]
        rw [h1]
      · rfl
  have := key cs.length (Nat.le_refl _)
  rwa [freezeTo_all] at this

theorem sealSlot_sound (h : Holds A X Fr env a w) (s : Slot) : Holds A X Fr (sealSlot s env) a w := by
  unfold sealSlot
  split
  · split
    · rename_i b _ v cs hb
      cases hok : (Nat.blt b lentBase && cs.all flatCell) with
      | false => exact h
      | true =>
        simp only [Bool.and_eq_true] at hok
        obtain ⟨γ, hc⟩ := h
        exact ⟨_, hc.freezeBox hb (Nat.le_of_ble_eq_true hok.1)⟩
    · exact h
  · exact h

theorem freezeSlots_sound : ∀ (ks : List Slot) {env : Env}, Holds A X Fr env a w → Holds A X Fr (freezeSlots ks env) a w
  | [], env, h => h
  | s :: r, env, h => by
    simp only [freezeSlots]
    refine freezeSlots_sound r (sealSlot_sound ?_ s)
    cases hnl : s.isLent with
    | true => exact h
    | false =>
      simp only [cond_false]
      have same : freezeAV (env.get s) = env.get s → Holds A X Fr ((s, freezeAV (env.get s)) :: env) a w := by
        intro hs
        rw [hs]
        obtain ⟨γ, h⟩ := h
        refine ⟨γ, h.ext fun s' => ?_⟩
        rw [Env.get_cons]
        split
        · rename_i hh; rw [hh]
        · rfl
      cases hg : env.get s with
      | val g cs => exact freezeAV_cells hnl (.val g) (fun _ _ => rfl) (fun _ _ => rfl) h hg
      | box v fz cs => exact freezeAV_cells hnl (.box v fz) (fun _ _ => rfl) (fun _ _ => rfl) h hg
      | tup l => rw [hg] at same; exact same rfl
      | undef => rw [hg] at same; exact same rfl
      | skip => rw [hg] at same; exact same rfl
      | num n => rw [hg] at same; exact same rfl

theorem solidSlot_sound (h : Holds A X Fr env a w) (s : Slot) : Holds A X Fr (solidSlot s env) a w := by
  unfold solidSlot
  split
  · rename_i x ver sz lo hi hs
    split
    · rename_i e t v l hx
      cases hok : (Nat.beq v ver && (Nat.beq sz t.size && (!x.s.isLent && (!s.isLent && !Slot.beq x.s s)))) with
      | false => exact h
      | true =>
        simp only [Bool.and_eq_true, Bool.not_eq_true'] at hok
        obtain ⟨hv, hsz, hnl, hsl, hne⟩ := hok
        obtain rfl : v = ver := Nat.eq_of_beq_eq_true hv
        have hne' : x.s ≠ s := fun e => by rw [e, Slot.beq_self] at hne; cases hne
        obtain ⟨γ, hc⟩ := h
        have hf := hc.freeze (x := x) hx hnl
        have hcs : envCell env ⟨s, 0, 0⟩ = some (.sub x v sz lo hi) := by unfold envCell; rw [hs]; rfl
        obtain ⟨r1, r2, r3⟩ := hc.cell ⟨s, 0, 0⟩ _ hcs
        have hsol : (solid (.sub x v sz lo hi)).eval env.get [] = some ((.imm t (cut l lo hi) none, [.row x]), [x.s]) := by
          simp only [solid, ownerAt, Rd.eval_bind, Rd.eval]
          rw [hx]
          simp [Rd.eval, hsz, Nat.beq_refl]
        have hrd := (slice_reads hc (c := .sub x v sz lo hi) ⟨r1, r2, r3, rfl⟩ hsol (fun g => γ.Z g ∨ (γ.φ x).ownBlock = some g) (by
          rintro g (hg | ⟨s', hs', hg⟩)
          · exact .inl hg
          · rw [List.mem_singleton.1 hs'] at hg; exact .inr hg)).1
        have hget : (Upd.app env (.cell x (.imm t l none))).get s = env.get s := by
          rw [get_app_cell, if_neg hne']
        have hcs2 : envCell (Upd.app env (.cell x (.imm t l none))) ⟨s, 0, 0⟩ = some (.sub x v sz lo hi) := by
          unfold envCell; rw [hget, hs]; rfl
        have hfl := hf.flat' ⟨s, 0, 0⟩ (c' := .imm t (cut l lo hi) none) hcs2 (fun r hr => by simp [refs] at hr) (fun _ _ _ _ hh => by cases hh) (fun _ => hrd)
        refine ⟨_, hfl.ext fun s' => ?_⟩
        simp only [cond_true]
        rw [get_app_cell, Env.get_cons]
        split
        · rename_i hh
          rw [← hh, hget, hs]
          rfl
        · rfl
    · exact h
  · exact h

theorem solidSlots_sound : ∀ (ks : List Slot) {env : Env}, Holds A X Fr env a w → Holds A X Fr (solidSlots ks env) a w
  | [], _, h => h
  | s :: r, _, h => solidSlots_sound r (solidSlot_sound h s)

theorem head_sound (h : Holds A X Fr env a w) (k : Keep) : St A X (k.head env) a w := restrict_sound (freezeSlots_sound k.froz (solidSlots_sound k.froz h)) k.slots

/-- Code: what the run answers, the machine does. -/
theorem run_sound {ρ : Type} (K : Known A X) (hm : A.P.follows .mixedOrders = true) : ∀ (c : Code) (env : Env) (k : Ex → Env → Option ρ) (out : ρ) (Q : Exit → Act → World → Prop) (a : Act) (w : World), run X c env k = some out → St A X env a w →
    (∀ e env' a' w', k e env' = some out → St A X env' a' w' → Q (exOf e) a' w') → c.wp A.P Q a w := by
  intro c
  induction c with
  | skip => intro env k out Q a w hr hs hk; exact wp_skip (hk .normal env a w hr hs)
  | label l => intro env k out Q a w hr hs hk; exact wp_label (hk .normal env a w hr hs)
  | exit id => intro env k out Q a w hr hs hk; exact wp_exit (hk (.exit id) env a w hr hs)
  | ret => intro env k out Q a w hr hs hk; exact wp_ret (hk .ret env a w hr hs)
  | region id ops draw =>
    intro env k out Q a w hr hs hk
    have hp : Holds A X (fun v => env.ver ≤ v) (X.pre id env) a w := by
      unfold Ctx.pre
      split
      · exact freezeSlots_sound _ hs
      · exact hs
    have hs' : Holds A X (fun v => env.ver ≤ v) (bif draw then preSeal ops.toList (X.pre id env) else X.pre id env) a w := by
      cases draw with
      | false => exact hp
      | true => exact preSeal_sound _ hp
    refine region_sound K hm (vn := env.ver) hs' hr fun env' a' w' hK hh => hk .normal _ a' w' hK ?_
    have hv : Env.ver ((.ver, .num (env.ver + ops.size)) :: env') = env.ver + ops.size := by simp [Env.ver, Env.get_cons_self]
    unfold St
    rw [hv]
    exact setVer_sound hh
  | seq x y ihx ihy =>
    intro env k out Q a w hr hs hk
    refine wp_seq (ihx env _ out _ a w hr hs fun e env' a' w' hK hh => ?_)
    cases e with
    | normal => exact ihy env' k out Q a' w' hK hh hk
    | exit id => exact hk (.exit id) env' a' w' hK hh
    | goto l => exact hk (.goto l) env' a' w' hK hh
    | ret => exact hk .ret env' a' w' hK hh
  | cond c x y ihx ihy =>
    intro env k out Q a w hr hs hk
    obtain ⟨t, lg, he, hr⟩ := Rd.cps_some _ _ _ _ _ hr
    obtain ⟨γ, hc⟩ := hs
    have hb := rdBool_sound hc he
    refine wp_cond hb ?_
    cases t with
    | true => exact ihx env k out Q a w hr ⟨γ, hc⟩ hk
    | false => exact ihy env k out Q a w hr ⟨γ, hc⟩ hk
  | block id x ih =>
    intro env k out Q a w hr hs hk
    refine wp_block (ih env _ out _ a w hr hs fun e env' a' w' hK hh => ?_)
    cases e with
    | normal => exact hk .normal env' a' w' hK hh
    | exit j =>
      simp only [exOf, Exit.inBlock]
      simp only at hK
      cases hj : Nat.beq j id with
      | true =>
        rw [hj] at hK
        rw [if_pos (Nat.eq_of_beq_eq_true hj)]
        exact hk .normal env' a' w' hK hh
      | false =>
        rw [hj] at hK
        rw [if_neg (fun e => by rw [e, Nat.beq_refl] at hj; cases hj)]
        exact hk (.exit j) env' a' w' hK hh
    | goto l => exact hk (.goto l) env' a' w' hK hh
    | ret => exact hk .ret env' a' w' hK hh
  | loop x ih =>
    intro env k out Q a w hr hs hk
    simp only [run] at hr
    split at hr
    · rename_i kp _
      refine wp_loop_fuel (fun m a w => ∃ env, lrun (run X x) kp m env k = some out ∧ St A X env a w) (m := X.n) ⟨_, hr, head_sound hs kp⟩ ?_
      rintro m a w ⟨env, hr, hs⟩
      cases m with
      | zero => simp [lrun] at hr
      | succ m =>
        refine ih env _ out _ a w hr hs fun e env' a' w' hK hh => ?_
        cases e with
        | normal => exact ⟨m, Nat.lt_succ_self m, _, hK, head_sound hh kp⟩
        | exit id => exact hk (.exit id) env' a' w' hK hh
        | goto l => exact hk (.goto l) env' a' w' hK hh
        | ret => exact hk .ret env' a' w' hK hh
    · cases hr
  | rangeFunc f ps x y ihx ihy => intro env k out Q a w hr; simp [run] at hr
  | scope x ih => intro env k out Q a w hr; simp [run] at hr
  | goto l => intro env k out Q a w hr; simp [run] at hr
  | refuse s => intro env k out Q a w hr; simp [run] at hr
end
end
end Go.VI
