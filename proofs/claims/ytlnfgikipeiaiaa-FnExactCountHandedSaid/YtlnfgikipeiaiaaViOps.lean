/- VI, part 12: operations on plain values. -/
import Derived.Test.YtlnfgikipeiaiaaViStore
import Derived.Laws.StructEq
import Derived.ChangeKeysEq
namespace Go.VI
open Go.RowKit
section
variable {A : Fix} {X : Ctx} {γ : Gh} {Fr : Nat → Prop} {env : Env} {a : Act} {w w' : World} {vn : Nat} {o : Oper} {us : List Upd} {lg : List Slot}
theorem binInt_run {op : BinOp} {k : IntKind} {x y : Int} {c : Cell} {lg0 lg' : List Slot} (he : (binInt op k x y).eval env.get lg0 = some (c, lg')) (T : TypeId) :
    ∃ v, (binOp op T (.int k x) (.int k y)).run A.P w = .ok v w ∧ GoodR A γ w Fr c v := by
  have hnz : ∀ {c : Cell}, (Rd.guard (!decide (y = 0)) (Rd.pure c)).eval env.get lg0 = some (c, lg') → y ≠ 0 := by
    intro c hh e
    simp [Rd.eval, e] at hh
  cases op <;> simp only [binInt, Rd.eval, Option.some.injEq, Prod.mk.injEq] at he
  case add => obtain ⟨rfl, _⟩ := he; exact ⟨_, by simp [binOp, Op.intArith], good_int _ _⟩
  case sub => obtain ⟨rfl, _⟩ := he; exact ⟨_, by simp [binOp, Op.intArith], good_int _ _⟩
  case mul => obtain ⟨rfl, _⟩ := he; exact ⟨_, by simp [binOp, Op.intArith], good_int _ _⟩
  case quo =>
    by_cases hy : y = 0
    · simp [hy] at he
    · simp only [hy, decide_false, Bool.not_false, cond_true, Option.some.injEq, Prod.mk.injEq] at he
      obtain ⟨rfl, _⟩ := he
      exact ⟨_, by simp [binOp, Op.intDiv, hy], good_int _ _⟩
  case rem =>
    by_cases hy : y = 0
    · simp [hy] at he
    · simp only [hy, decide_false, Bool.not_false, cond_true, Option.some.injEq, Prod.mk.injEq] at he
      obtain ⟨rfl, _⟩ := he
      exact ⟨_, by simp [binOp, Op.intDiv, hy], good_int _ _⟩
  case and => obtain ⟨rfl, _⟩ := he; exact ⟨_, by simp only [binOp, ne_eq, not_true_eq_false, if_false, Op.intBits]; rfl, good_int _ _⟩
  case or => obtain ⟨rfl, _⟩ := he; exact ⟨_, by simp only [binOp, ne_eq, not_true_eq_false, if_false, Op.intBits]; rfl, good_int _ _⟩
  case xor => obtain ⟨rfl, _⟩ := he; exact ⟨_, by simp only [binOp, ne_eq, not_true_eq_false, if_false, Op.intBits]; rfl, good_int _ _⟩
  case andNot => obtain ⟨rfl, _⟩ := he; exact ⟨_, by simp only [binOp, ne_eq, not_true_eq_false, if_false, Op.intBits]; rfl, good_int _ _⟩
  case eql =>
    obtain ⟨rfl, _⟩ := he
    refine ⟨.bool (x == y), by simp [binOp, Op.intCmp], ?_⟩
    exact good_bool _
  case neq =>
    obtain ⟨rfl, _⟩ := he
    refine ⟨.bool (x != y), by simp [binOp, Op.intCmp], ?_⟩
    exact good_bool _
  case lss => obtain ⟨rfl, _⟩ := he; exact ⟨_, by simp [binOp, Op.intCmp], good_bool _⟩
  case leq => obtain ⟨rfl, _⟩ := he; exact ⟨_, by simp [binOp, Op.intCmp], good_bool _⟩
  case gtr => obtain ⟨rfl, _⟩ := he; exact ⟨_, by simp [binOp, Op.intCmp], good_bool _⟩
  case geq => obtain ⟨rfl, _⟩ := he; exact ⟨_, by simp [binOp, Op.intCmp], good_bool _⟩
  all_goals cases he
theorem toList_str (s : List UInt8) : (⟨s.toArray⟩ : ByteArray).toList = s := ByteArray.toList_mk s
theorem append_str (s t : List UInt8) : (⟨s.toArray⟩ : ByteArray) ++ ⟨t.toArray⟩ = ⟨(s ++ t).toArray⟩ := by
  apply ByteArray.ext
  rw [ByteArray.data_append]
  simp
theorem size_str (s : List UInt8) : (⟨s.toArray⟩ : ByteArray).size = s.length := by simp [ByteArray.size]
theorem binStr_run {op : BinOp} {x y : List UInt8} {c : Cell} {lg0 lg' : List Slot} (he : (binStr op x y).eval env.get lg0 = some (c, lg')) (T : TypeId) :
    ∃ v, (binOp op T (.string ⟨x.toArray⟩) (.string ⟨y.toArray⟩)).run A.P w = .ok v w ∧ GoodR A γ w Fr c v := by
  cases op <;> simp only [binStr, Rd.eval, Option.some.injEq, Prod.mk.injEq] at he
  case add =>
    rw [catS_eq] at he
    cases hd : decide (((x.length + y.length : Nat) : Int) ≤ 9223372036854775807) with
    | false => rw [hd] at he; simp at he
    | true =>
      rw [hd] at he
      simp only [cond_true, Option.bind_some, Option.some.injEq, Prod.mk.injEq] at he
      obtain ⟨rfl, _⟩ := he
      have hd := of_decide_eq_true hd
      have hm : ¬ (((x.length + y.length : Nat) : Int) > IntKind.i64.max) := by
        have : IntKind.i64.max = 9223372036854775807 := by decide
        omega
      refine ⟨.string ⟨(x ++ y).toArray⟩, ?_, good_str _⟩
      simp only [binOp, Op.stringOp, size_str, hm, if_false, Sem.run_pure, append_str]
  case eql => obtain ⟨rfl, _⟩ := he; exact ⟨_, by simp only [binOp, Op.stringOp, toList_str, Sem.run_pure], good_bool _⟩
  case neq => obtain ⟨rfl, _⟩ := he; exact ⟨_, by simp only [binOp, Op.stringOp, toList_str, Sem.run_pure], good_bool _⟩
  case lss => obtain ⟨rfl, _⟩ := he; exact ⟨_, by simp only [binOp, Op.stringOp, toList_str, Sem.run_pure], good_bool _⟩
  all_goals cases he
theorem eqInts_items {k' : IntKind} {e : TypeId} (hu : A.P.underlying e = some (.int k')) (hs : A.P.cellsOf e = 1) {xs ys : Array Value} : ∀ (cs ds : List Cell) (j : Nat) (b : Bool), eqInts cs ds = some b →
    RelCs A γ w Fr cs (xs.toList.drop j) → RelCs A γ w Fr ds (ys.toList.drop j) →
    (Op.eqItems 9999 e 1 xs ys ((List.range cs.length).map (j + ·))).run A.P w = .ok b w
  | [], [], j, b, h, _, _ => by
    simp [eqInts] at h
    subst h
    simp [Op.eqItems]
  | [], d :: s, j, b, h, _, _ => by simp [eqInts] at h
  | c :: r, [], j, b, h, _, _ => by cases c <;> simp [eqInts] at h
  | c :: r, d :: s, j, b, h, h1, h2 => by
    obtain ⟨u, us', hu1, hg1, hr1⟩ := h1
    obtain ⟨v, vs', hv1, hg2, hr2⟩ := h2
    cases c <;> cases d <;> simp only [eqInts] at h <;> try cases h
    rename_i k x k2 y
    split at h
    · rename_i hk
      subst hk
      simp only [Option.map_eq_some_iff] at h
      obtain ⟨b', hb, rfl⟩ := h
      have hx : xs[j]? = some (.int k x) := by
        have : (xs.toList.drop j)[0]? = some u := by rw [hu1]; rfl
        rw [List.getElem?_drop, Nat.add_zero, Array.getElem?_toList] at this
        rw [this, show u = _ from hg1.1]
      have hy : ys[j]? = some (.int k y) := by
        have : (ys.toList.drop j)[0]? = some v := by rw [hv1]; rfl
        rw [List.getElem?_drop, Nat.add_zero, Array.getElem?_toList] at this
        rw [this, show v = _ from hg2.1]
      have d1 : xs.toList.drop (j + 1) = us' := by rw [← List.drop_drop, hu1]; rfl
      have d2 : ys.toList.drop (j + 1) = vs' := by rw [← List.drop_drop, hv1]; rfl
      have ih := eqInts_items hu hs r s (j + 1) b' hb (by rw [d1]; exact hr1) (by rw [d2]; exact hr2)
      have hpk : A.P.plainKey e = true := by simp [Program.plainKey, hu]
      have p1 := run_part_plain (P := A.P) w hpk (xs := xs) (off := j) hx
      have p2 := run_part_plain (P := A.P) w hpk (xs := ys) (off := j) hy
      have p3 := run_equalIn_int (P := A.P) w 9998 e k k' x y hu
      have el : (List.range (List.length (Cell.int k x :: r))).map (j + ·) = j :: (List.range r.length).map (j + 1 + ·) := by
        simp only [List.length_cons, List.range_succ_eq_map, List.map_cons, List.map_map, Nat.add_zero]
        congr 1
        apply List.map_congr_left
        intro m _
        simp only [Function.comp]; omega
      rw [el]
      simp only [Op.eqItems, Nat.mul_one, Sem.run_bind, p1, p2, p3, Result.andThen_ok]
      by_cases hxy : x = y
      · simp only [hxy, decide_true, Bool.true_and, beq_self_eq_true]
        exact ih
      · have hbe : (x == y) = false := by simp [hxy]
        simp [hxy, hbe]
    · cases h
theorem eqFs_run (hty : TyOK A.P X) {xs ys : Array Value} (hd : ∃ d, A.P.depth = d + 2) : ∀ (fs : List Field) (cs ds : List Cell) (j : Nat) (b : Bool) (lg lg' : List Slot), (eqFs X j fs cs ds).eval env.get lg = some (b, lg') →
    RelCs A γ w Fr cs (xs.toList.drop j) → RelCs A γ w Fr ds (ys.toList.drop j) → (∀ f ∈ fs, f.name ≠ "_") →
    (Op.eqFields 9999 xs ys fs).run A.P w = .ok b w ∧ ∀ f ∈ fs, ∀ d, A.P.eqGuardType (d + 1) f.type = false
  | [], [], [], j, b, lg, lg', h, _, _, _ => by
    simp only [eqFs, Rd.eval, Option.some.injEq, Prod.mk.injEq] at h
    rw [← h.1]
    exact ⟨by simp [Op.eqFields], by simp⟩
  | [], [], _ :: _, _, _, _, _, h, _, _, _ => by simp [eqFs, Rd.eval] at h
  | [], _ :: _, _, _, _, _, _, h, _, _, _ => by simp [eqFs, Rd.eval] at h
  | _ :: _, [], _, _, _, _, _, h, _, _, _ => by simp [eqFs, Rd.eval] at h
  | _ :: _, _ :: _, [], _, _, _, _, h, _, _, _ => by simp [eqFs, Rd.eval] at h
  | f :: fs, c :: cs, d :: ds, j, b, lg, lg', h, h1, h2, hn => by
    obtain ⟨u, us', hu1, hg1, hr1⟩ := h1
    obtain ⟨v, vs', hv1, hg2, hr2⟩ := h2
    have d1 : xs.toList.drop (j + 1) = us' := by rw [← List.drop_drop, hu1]; rfl
    have d2 : ys.toList.drop (j + 1) = vs' := by rw [← List.drop_drop, hv1]; rfl
    have hx : xs[j]? = some u := by
      have : (xs.toList.drop j)[0]? = some u := by rw [hu1]; rfl
      rwa [List.getElem?_drop, Nat.add_zero, Array.getElem?_toList] at this
    have hy : ys[j]? = some v := by
      have : (ys.toList.drop j)[0]? = some v := by rw [hv1]; rfl
      rwa [List.getElem?_drop, Nat.add_zero, Array.getElem?_toList] at this
    have hf := hn f (List.mem_cons_self ..)
    rw [eqFs] at h
    cases ho : Nat.beq f.offset j with
    | false => rw [ho] at h; simp [Rd.eval] at h
    | true =>
      have ho' := Nat.eq_of_beq_eq_true ho
      rw [ho] at h
      simp only [cond_true, Rd.eval_bind, Option.bind_eq_some_iff, Ctx.ti, Rd.eval_ofOpt, Option.map_eq_some_iff] at h
      obtain ⟨_, ⟨tf, k1, rfl⟩, h⟩ := h
      have ht := hty _ _ k1
      simp only at h
      split at h
      · rename_i kt ka x' kb y' hdesc
        split at h
        · rename_i hk
          subst hk
          simp only [Rd.eval_bind, Option.bind_eq_some_iff, Rd.eval, Option.some.injEq, Prod.mk.injEq] at h
          obtain ⟨⟨y, l3⟩, e3, rfl, _⟩ := h
          obtain ⟨ih, ig⟩ := eqFs_run hty hd fs cs ds (j + 1) y _ _ e3 (by rw [d1]; exact hr1) (by rw [d2]; exact hr2) (fun x hx => hn x (List.mem_cons_of_mem _ hx))
          have hu : A.P.underlying f.type = some (.int kt) := by rw [ht.und, hdesc]
          have hpk : A.P.plainKey f.type = true := by simp [Program.plainKey, hu]
          have p1 := run_part_plain (P := A.P) w hpk (xs := xs) (off := f.offset) (by rw [ho']; exact hx)
          have p2 := run_part_plain (P := A.P) w hpk (xs := ys) (off := f.offset) (by rw [ho']; exact hy)
          rw [show u = _ from hg1.1] at p1
          rw [show v = _ from hg2.1] at p2
          have p3 := run_equalIn_int (P := A.P) w 9998 f.type ka kt x' y' hu
          refine ⟨?_, fun g hg dd => ?_⟩
          · simp only [Op.eqFields, if_pos hf, Sem.run_bind, p1, p2, p3, Result.andThen_ok]
            by_cases hxy : x' = y'
            · simp only [hxy, decide_true, Bool.true_and, beq_self_eq_true]
              exact ih
            · have hbe : (x' == y') = false := by simp [hxy]
              simp [hxy, hbe]
          · rcases List.mem_cons.1 hg with rfl | hg
            · simp [Program.eqGuardType, hu]
            · exact ig g hg dd
        · simp [Rd.eval] at h
      · rename_i x' y' hdesc
        simp only [Rd.eval_bind, Option.bind_eq_some_iff, Rd.eval, Option.some.injEq, Prod.mk.injEq] at h
        obtain ⟨⟨y, l3⟩, e3, rfl, _⟩ := h
        obtain ⟨ih, ig⟩ := eqFs_run hty hd fs cs ds (j + 1) y _ _ e3 (by rw [d1]; exact hr1) (by rw [d2]; exact hr2) (fun x hx => hn x (List.mem_cons_of_mem _ hx))
        have hu : A.P.underlying f.type = some .string := by rw [ht.und, hdesc]
        have hpk : A.P.plainKey f.type = true := by simp [Program.plainKey, hu]
        have p1 := run_part_plain (P := A.P) w hpk (xs := xs) (off := f.offset) (by rw [ho']; exact hx)
        have p2 := run_part_plain (P := A.P) w hpk (xs := ys) (off := f.offset) (by rw [ho']; exact hy)
        rw [show u = _ from hg1.1] at p1
        rw [show v = _ from hg2.1] at p2
        have p3 := run_equalIn_string (P := A.P) w 9998 f.type ⟨x'.toArray⟩ ⟨y'.toArray⟩ hu
        rw [toList_str, toList_str] at p3
        refine ⟨?_, fun g hg dd => ?_⟩
        · simp only [Op.eqFields, if_pos hf, Sem.run_bind, p1, p2, p3, Result.andThen_ok]
          cases hxy : (x' == y') with
          | true => simp only [Bool.not_true, Bool.false_eq_true, if_false, Bool.true_and]; exact ih
          | false => simp
        · rcases List.mem_cons.1 hg with rfl | hg
          · simp [Program.eqGuardType, hu]
          · exact ig g hg dd
      · simp [Rd.eval] at h
theorem eqArr_run {T : TypeId} {cs ds : List Cell} {xs ys : List Value} {b : Bool} {lg0 lg' : List Slot} (hty : TyOK A.P X) (he : (eqArr X T cs ds).eval env.get lg0 = some (b, lg')) (h1 : RelCs A γ w Fr cs xs) (h2 : RelCs A γ w Fr ds ys) :
    (Op.equalIn 10000 T (.agg xs.toArray) (.agg ys.toArray)).run A.P w = .ok b w ∧ A.P.eqGuardType A.P.depth T = false := by
  simp only [eqArr, Rd.eval_bind, Option.bind_eq_some_iff, Ctx.ti, Rd.eval_ofOpt, Option.map_eq_some_iff] at he
  obtain ⟨_, ⟨ti, k1, rfl⟩, he⟩ := he
  simp only at he
  have ht := hty T ti k1
  split at he
  · rename_i n e hdesc
    simp only [Rd.eval_bind, Option.bind_eq_some_iff, Rd.eval_ofOpt, Option.map_eq_some_iff] at he
    obtain ⟨_, ⟨te, k2, rfl⟩, he⟩ := he
    have hte := hty e te k2
    simp only at he
    split at he
    · rename_i k hk
      cases hc : (Nat.beq cs.length n && Nat.beq ds.length n && Nat.beq te.ty.size 1) with
      | false => rw [hc] at he; simp [Rd.eval] at he
      | true =>
        rw [hc] at he
        simp only [Bool.and_eq_true] at hc
        have c1 := Nat.eq_of_beq_eq_true hc.1.1
        have c2 := Nat.eq_of_beq_eq_true hc.1.2
        have c3 := Nat.eq_of_beq_eq_true hc.2
        simp only [cond_true, Rd.eval_ofOpt, Option.map_eq_some_iff, Prod.mk.injEq] at he
        obtain ⟨b', hb, rfl, _⟩ := he
        obtain ⟨i, hi, hs, _, _⟩ := hte.info'
        have hu : A.P.underlying T = some (.array n e) := by rw [ht.und, hdesc]
        have hue : A.P.underlying e = some (.int k) := by rw [hte.und, hk]
        have hcell : A.P.cellsOf e = 1 := by simp [Program.cellsOf, hi, hs, c3]
        refine ⟨?_, ?_⟩
        · rw [run_equalIn_array w 9999 xs.toArray ys.toArray hu hi, hcell]
          have := eqInts_items hue hcell (xs := xs.toArray) (ys := ys.toArray) cs ds 0 b' hb (by simpa using h1) (by simpa using h2)
          rw [c1] at this
          simpa using this
        · have hd : ∃ d, A.P.depth = d + 2 := ⟨2 * (A.P.types.size + Made.depth), rfl⟩
          obtain ⟨d, hd⟩ := hd
          rw [hd]
          simp [Program.eqGuardType, hu, hue]
    · simp [Rd.eval] at he
  · rename_i fs hdesc
    cases hq : ti.eqs with
    | false => rw [hq] at he; simp [Rd.eval] at he
    | true =>
      rw [hq] at he
      simp only [cond_true] at he
      obtain ⟨hst, hnm⟩ := ht.eqs hq
      have hu : A.P.underlying T = some (.struct fs) := by rw [ht.und, hdesc]
      have hfo : A.P.fieldsOf T = fs := by simp [Program.fieldsOf, hu]
      have hnm := hnm fs hdesc
      have hdep : ∃ d, A.P.depth = d + 2 := ⟨2 * (A.P.types.size + Made.depth), rfl⟩
      obtain ⟨g1, g2⟩ := eqFs_run hty hdep (xs := xs.toArray) (ys := ys.toArray) fs.toList cs ds 0 b _ _ he (by simpa using h1) (by simpa using h2) hnm
      refine ⟨?_, ?_⟩
      · rw [run_equalIn_agg w 9999 T xs.toArray ys.toArray (by rw [hfo]; exact hu) hst, hfo]
        exact g1
      · obtain ⟨d, hd⟩ := hdep
        rw [hd]
        simp only [Program.eqGuardType, hu, Array.any_eq_false']
        intro f hf
        have := g2 f (by simpa using hf) d
        simp only [Program.eqGuardType] at this
        rw [this]
        simp
  · simp [Rd.eval] at he
theorem binAV_shape {op : BinOp} {av bv : AV} {c : Cell} {l l' : List Slot} (h : (binAV op av bv).eval env.get l = some (c, l')) :
    (∃ k a' k' b', av = .val false [.int k a'] ∧ bv = .val false [.int k' b']) ∨ (∃ a' b', av = .val false [.str a'] ∧ bv = .val false [.str b']) := by
  unfold binAV at h
  split at h
  · exact .inl ⟨_, _, _, _, rfl, rfl⟩
  · exact .inr ⟨_, _, rfl, rfl⟩
  · simp [Rd.eval] at h
theorem op_binOp (h : Core A X γ Fr env a w) (hty : TyOK A.P X) (hd : dstOk X o) {op : BinOp} {T T' : TypeId} {x y : Operand} (ho : o.op = .binOp op T x y T') (he : (opRd X vn o).eval env.get [] = some (us, lg)) : OpOK A X Fr o us env a w := by
  simp only [opRd, ho, Rd.eval_bind, Option.bind_eq_some_iff] at he
  obtain ⟨⟨av, l1⟩, h1, ⟨bv, l2⟩, h2, h3⟩ := he
  have ra := rdOp_sound h h1
  have rb := rdOp_sound h h2
  have fin : ∀ v c, (binOp op T (a.eval x) (a.eval y)).run A.P w = .ok v w → (eqGuard op T x y (a.eval x) (a.eval y)).run A.P w = .ok () w → GoodR A γ w Fr c v → OpOK A X Fr o (dstSet o (.val false [c])) env a w := by
    intro v c hrun hgd hg
    exact OpOK.value (by simp only [execOp, ho, Sem.run_bind, hgd, Result.andThen_ok, hrun, Sem.run_pure]) (h.putCell hd hg)
  simp only at h3
  split at h3
  ·
    rename_i cs ds
    obtain ⟨xs, ex, _, r1⟩ := ra
    obtain ⟨ys, ey, _, r2⟩ := rb
    simp only [mkVal] at ex ey
    cases op <;> try (simp [Rd.eval] at h3; done)
    all_goals
      simp only [Rd.eval_bind, Option.bind_eq_some_iff] at h3
      obtain ⟨⟨b, l4⟩, h4, h5⟩ := h3
      rw [retOne_eval h5]
      obtain ⟨hrun, hgd⟩ := eqArr_run hty h4 r1 r2
      refine fin _ _ ?_ ?_ (good_bool _)
      · rw [ex, ey]
        first | rw [run_eql_struct] | rw [run_neq_struct]
        rw [hrun]
        rfl
      · rw [ex, ey]; exact run_eqGuard_agg w _ T x y _ _ hgd
  ·
    rename_i a' b'
    have ex : a.eval x = .bool a' := (relR_one ra).1
    have ey : a.eval y = .bool b' := (relR_one rb).1
    simp only [Rd.eval_bind, Option.bind_eq_some_iff, Ctx.ti, Rd.eval_ofOpt, Option.map_eq_some_iff] at h3
    obtain ⟨_, ⟨ti, k1, rfl⟩, h4⟩ := h3
    have ht := hty T ti k1
    simp only at h4
    have hgd : ∀ op', (eqGuard op' T x y (.bool a') (.bool b')).run A.P w = .ok () w := by
      intro op'
      unfold eqGuard
      cases op' <;> simp
    split at h4
    · rename_i hdesc
      rw [retOne_eval h4]
      have hu : A.P.underlying T = some .bool := by rw [ht.und, hdesc]
      refine fin _ _ ?_ (by rw [ex, ey]; exact hgd _) (good_bool _)
      rw [ex, ey]
      simp only [binOp, Op.equal, Sem.run_bind, Op.maxDepth, run_equalIn_bool' w 9999 T a' b' hu, Result.andThen_ok, Sem.run_pure]
    · rename_i hdesc
      rw [retOne_eval h4]
      have hu : A.P.underlying T = some .bool := by rw [ht.und, hdesc]
      refine fin _ _ ?_ (by rw [ex, ey]; exact hgd _) (good_bool _)
      rw [ex, ey]
      simp only [binOp, Op.equal, Sem.run_bind, Op.maxDepth, run_equalIn_bool' w 9999 T a' b' hu, Result.andThen_ok, Sem.run_pure]
    · simp [Rd.eval] at h4
  · simp only [Rd.eval_bind, Option.bind_eq_some_iff] at h3
    obtain ⟨⟨c, l4⟩, h4, h5⟩ := h3
    rw [retOne_eval h5]
    rcases binAV_shape h4 with ⟨k, x', k', y', rfl, rfl⟩ | ⟨x', y', rfl, rfl⟩
    · have ex : a.eval x = .int k x' := (relR_one ra).1
      have ey : a.eval y = .int k' y' := (relR_one rb).1
      have hgd : (eqGuard op T x y (.int k x') (.int k' y')).run A.P w = .ok () w := by
        unfold eqGuard
        cases op <;> simp
      simp only [binAV] at h4
      split at h4
      · cases hb : decide (0 ≤ y') with
        | false => rw [hb] at h4; simp [Rd.eval] at h4
        | true =>
          rw [hb] at h4
          simp only [Rd.eval, cond_true, Option.some.injEq, Prod.mk.injEq] at h4
          obtain ⟨rfl, _⟩ := h4
          have hb := of_decide_eq_true hb
          refine fin (.int k (shlI k x' y')) _ (by rw [ex, ey]; simp only [binOp, Op.shift, Int.not_lt.2 hb, if_false]; rfl) (by rw [ex, ey]; exact hgd) (good_int _ _)
      · cases hb : decide (0 ≤ y') with
        | false => rw [hb] at h4; simp [Rd.eval] at h4
        | true =>
          rw [hb] at h4
          simp only [Rd.eval, cond_true, Option.some.injEq, Prod.mk.injEq] at h4
          obtain ⟨rfl, _⟩ := h4
          have hb := of_decide_eq_true hb
          refine fin (.int k (shrI k x' y')) _ (by rw [ex, ey]; simp only [binOp, Op.shift, Int.not_lt.2 hb, if_false]; rfl) (by rw [ex, ey]; exact hgd) (good_int _ _)
      · split at h4
        · rename_i hk
          subst hk
          obtain ⟨v, hrun, hg⟩ := binInt_run (A := A) (γ := γ) (Fr := Fr) (w := w) h4 T
          exact fin v _ (by rw [ex, ey]; exact hrun) (by rw [ex, ey]; exact hgd) hg
        · simp [Rd.eval] at h4
    · have ex : a.eval x = .string ⟨x'.toArray⟩ := (relR_one ra).1
      have ey : a.eval y = .string ⟨y'.toArray⟩ := (relR_one rb).1
      have hgd : (eqGuard op T x y (.string ⟨x'.toArray⟩) (.string ⟨y'.toArray⟩)).run A.P w = .ok () w := by
        unfold eqGuard
        cases op <;> simp
      obtain ⟨v, hrun, hg⟩ := binStr_run (A := A) (γ := γ) (Fr := Fr) (w := w) h4 T
      exact fin v _ (by rw [ex, ey]; exact hrun) (by rw [ex, ey]; exact hgd) hg
theorem op_unOp (h : Core A X γ Fr env a w) (hd : dstOk X o) {op : UnOp} {T : TypeId} {x : Operand} (ho : o.op = .unOp op T x) (he : (opRd X vn o).eval env.get [] = some (us, lg)) : OpOK A X Fr o us env a w := by
  simp only [opRd, ho, Rd.eval_bind, Option.bind_eq_some_iff] at he
  obtain ⟨⟨c, l1⟩, h1, h2⟩ := he
  have hg := rdCell_sound h h1
  simp only at h2
  split at h2
  · rename_i b
    rw [retOne_eval h2]
    have ex : a.eval x = .bool b := hg.1
    exact OpOK.value (v := .bool (!b)) (by simp only [execOp, ho, ex, Op.unary, Sem.run_bind, Sem.run_pure, Result.andThen_ok]) (h.putCell hd (good_bool _))
  · rename_i k n
    rw [retOne_eval h2]
    have ex : a.eval x = .int k n := hg.1
    exact OpOK.value (v := .int k (k.wrap (0 - n))) (by simp only [execOp, ho, ex, Op.unary, Op.intArith, Sem.run_bind, Sem.run_pure, Result.andThen_ok]) (h.putCell hd (good_int _ _))
  · rename_i k n
    rw [retOne_eval h2]
    have ex : a.eval x = .int k n := hg.1
    exact OpOK.value (v := .int k (intBits .xor k (if k.signed then -1 else k.max) n)) (by simp only [execOp, ho, ex, Op.unary, Op.intBits, Sem.run_bind, Sem.run_pure, Result.andThen_ok]; rfl) (h.putCell hd (good_int _ _))
  · simp [Rd.eval] at h2
theorem op_extract (h : Core A X γ Fr env a w) (hd : dstOk X o) {i : Nat} {x : Operand} (ho : o.op = .extract x i) (he : (opRd X vn o).eval env.get [] = some (us, lg)) : OpOK A X Fr o us env a w := by
  simp only [opRd, ho, Rd.eval_bind, Option.bind_eq_some_iff] at he
  obtain ⟨⟨av, l1⟩, h1, h2⟩ := he
  have hr := rdOp_sound h h1
  cases av with
  | tup l =>
    simp only at h2
    split at h2
    · rename_i p hp
      simp only [Rd.eval, Option.some.injEq, Prod.mk.injEq] at h2
      obtain ⟨rfl, _⟩ := h2
      obtain ⟨vs, hv, hcs⟩ := hr
      obtain ⟨uss, hl, hk⟩ := hcs.lists
      obtain ⟨e1, e2, e3⟩ := hk i p hp
      refine OpOK.value (v := mkVal p.1 (uss.getD i [])) ?_ (h.put hd (av := .val p.1 p.2) ⟨_, rfl, e2, e3⟩ (.inl ⟨_, _, rfl⟩))
      simp only [execOp, ho, hv, Instr.extract, List.getElem?_toArray, e1, Sem.run_bind, Sem.run_pure, Result.andThen_ok]
    · simp [Rd.eval] at h2
  | val g cs => simp [Rd.eval] at h2
  | skip => simp [Rd.eval] at h2
  | undef => simp [Rd.eval] at h2
  | box _ _ _ => simp [Rd.eval] at h2
  | num _ => simp [Rd.eval] at h2
theorem op_nilCheck (h : Core A X γ Fr env a w) (hd : dstOk X o) {x : Operand} (ho : o.op = .nilCheck x) (he : (opRd X vn o).eval env.get [] = some (us, lg)) : OpOK A X Fr o us env a w := by
  simp only [opRd, ho, Rd.eval_bind, Option.bind_eq_some_iff] at he
  obtain ⟨⟨c, l1⟩, h1, h2⟩ := he
  have hg := rdCell_sound h h1
  have fin : ∀ p, a.eval x = .pointer (some p) → (retOne o c).eval env.get l1 = some (us, lg) → OpOK A X Fr o us env a w := by
    intro p hp hh
    rw [retOne_eval hh]
    exact OpOK.value (v := a.eval x) (by simp only [execOp, ho, hp, Sem.run_pure]) (h.putCell hd hg)
  cases c with
  | addr b bv off => exact fin _ hg.1 h2
  | gptr g off => exact fin _ hg.1 h2
  | iptr t x off =>
    obtain ⟨ad, us0, hv, _⟩ := hg.1
    exact fin _ hv h2
  | _ => simp [Rd.eval] at h2
theorem byteAt_get {s : List UInt8} {i : Int} (h : inB i s.length = true) : ∃ b, s[i.toNat]? = some b ∧ byteAt s i = (b.toNat : Int) := by
  have := (inB_iff.1 h).2
  exact ⟨s[i.toNat], List.getElem?_eq_getElem this, by simp [byteAt, List.getD, List.getElem?_eq_getElem this]⟩
theorem run_part_at {T : TypeId} {ti : TI} (ht : TIOK A.P T ti) {cs : List Value} {off : Nat} (hfit : off + ti.ty.size ≤ cs.length) :
    (part T cs.toArray off).run A.P w = .ok (mkVal ti.agg ((cs.drop off).take ti.ty.size)) w := by
  obtain ⟨i, hi, hs, _, _⟩ := ht.info'
  have hu := run_underlying (P := A.P) ht.und w
  have hagg : (isAgg T).run A.P w = .ok ti.agg w := by
    rw [ht.agg]
    unfold isAgg
    simp only [Sem.run_bind, hu, Result.andThen_ok]
    cases ti.desc <;> rfl
  unfold part
  simp only [Sem.run_bind, hagg, Result.andThen_ok]
  cases hg : ti.agg with
  | true =>
    simp only [if_true, Sem.run_bind, sizeOf, typeInfo, program, Sem.run, hi, Sem.run_pure, Result.andThen_ok, hs]
    congr 1
    simp only [mkVal]
    congr 1
    apply Array.ext'
    simp
  | false =>
    have h1 := ht.one hg
    rw [h1] at hfit ⊢
    have hlt : off < cs.length := by omega
    simp only [Bool.false_eq_true, if_false, List.getElem?_toArray, List.getElem?_eq_getElem hlt, Sem.run_pure]
    congr 1
    simp [mkVal, List.head?_drop, List.getElem?_eq_getElem hlt, List.headD_eq_head?_getD, List.head?_take]
theorem avCells_sound {av : AV} {v : Value} {cs : List Cell} {l l' : List Slot} (hr : RelR A γ w Fr av v) (h : (avCells av).eval env.get l = some (cs, l')) :
    ∃ vs, v = .agg vs.toArray ∧ RelCs A γ w Fr cs vs ∧ av = .val true cs := by
  unfold avCells at h
  split at h
  · simp only [Rd.eval, Option.some.injEq, Prod.mk.injEq] at h
    obtain ⟨rfl, _⟩ := h
    obtain ⟨vs, hv, _, hcs⟩ := hr
    exact ⟨vs, hv, hcs, rfl⟩
  · simp [Rd.eval] at h
theorem splitSel_good {i : Int} {cs : List Cell} {us : List Value} {sz : Nat} (hr : RelCs A γ w Fr cs us) : ∀ (n k : Nat) {l l' : List Slot} {cs' : List Cell}, (k : Int) ≤ i → i < (k : Int) + (n : Int) → (splitSel i cs sz k n).eval env.get l = some (cs', l') →
    ∃ us', RelCs A γ w Fr cs' us' ∧ us'.length = sz ∧ ∀ (j : Nat) (u : Value), us'[j]? = some u → us[i.toNat * sz + (0 + j)]? = some u
  | 0, k, l, l', cs', h0, h1, h => by simp [splitSel, Rd.eval] at h
  | n + 1, k, l, l', cs', h0, h1, h => by
    have one : i = (k : Int) → takeN sz (cs.drop (k * sz)) = some cs' → ∃ us', RelCs A γ w Fr cs' us' ∧ us'.length = sz ∧ ∀ (j : Nat) (u : Value), us'[j]? = some u → us[i.toNat * sz + (0 + j)]? = some u := by
      intro hi ht
      have e : i.toNat = k := by omega
      obtain ⟨t1, t2⟩ := takeN_eq ht
      have hlen := (hr.drop (k * sz)).length
      refine ⟨(us.drop (k * sz)).take sz, (hr.drop (k * sz)).takeN ht, by rw [List.length_take]; omega, fun j u hj => ?_⟩
      rw [List.getElem?_take] at hj
      by_cases hjs : j < sz
      · rw [if_pos hjs, List.getElem?_drop] at hj
        rw [e, ← hj]
        congr 1
        omega
      · rw [if_neg hjs] at hj
        cases hj
    match n, h with
    | 0, h =>
      simp only [splitSel, Rd.eval_ofOpt, Option.map_eq_some_iff, Prod.mk.injEq] at h
      obtain ⟨c1, h1', rfl, _⟩ := h
      exact one (by omega) h1'
    | n + 1, h =>
      simp only [splitSel, Rd.eval] at h
      by_cases hi : i = (k : Int)
      · rw [decide_eq_true hi] at h
        simp only [cond_true, Rd.eval_ofOpt, Option.map_eq_some_iff, Prod.mk.injEq] at h
        obtain ⟨c1, h1', rfl, _⟩ := h
        exact one hi h1'
      · rw [decide_eq_false hi] at h
        simp only [cond_false] at h
        exact splitSel_good hr (n + 1) (k + 1) (by omega) (by omega) h
theorem selRd_good {rows : Bool} {i : Int} {cs : List Cell} {us : List Value} {n sz : Nat} (hr : RelCs A γ w Fr cs us) (hi : inB i n = true) {l l' : List Slot} {cs' : List Cell} (h : (selRd rows i cs n sz).eval env.get l = some (cs', l')) :
    ∃ us', RelCs A γ w Fr cs' us' ∧ us'.length = sz ∧ ∀ (j : Nat) (u : Value), us'[j]? = some u → us[i.toNat * sz + (0 + j)]? = some u := by
  have hin : 0 ≤ i ∧ i < (n : Int) := by have := inB_iff.1 hi; omega
  cases rows with
  | false =>
    simp only [selRd, Rd.eval_ofOpt, Option.map_eq_some_iff, Prod.mk.injEq] at h
    obtain ⟨c1, h1, rfl, _⟩ := h
    exact selCells_good i cs us n sz hr hi sz 0 c1 h1
  | true =>
    exact splitSel_good hr n 0 (by omega) (by omega) h
theorem op_index (h : Core A X γ Fr env a w) (hty : TyOK A.P X) (hd : dstOk X o) {T : TypeId} {x ix : Operand} (ho : o.op = .index T x ix) (he : (opRd X vn o).eval env.get [] = some (us, lg)) : OpOK A X Fr o us env a w := by
  simp only [opRd, ho, Rd.eval_bind, Option.bind_eq_some_iff, Ctx.ti, Rd.eval_ofOpt, Option.map_eq_some_iff] at he
  obtain ⟨_, ⟨ti, k1, rfl⟩, ⟨⟨k, i⟩, l1⟩, h1, h2⟩ := he
  have ht := hty T ti k1
  have hi := rdInt_sound h h1
  simp only at hi h2
  have hu := run_underlying (P := A.P) ht.und w
  split at h2
  ·
    rename_i n e hdesc
    simp only [Rd.eval_bind, Option.bind_eq_some_iff, Rd.eval_ofOpt, Option.map_eq_some_iff] at h2
    obtain ⟨_, ⟨te, k2, rfl⟩, ⟨av, l2⟩, h3, ⟨cs, l3⟩, h4, h5⟩ := h2
    have hte := hty e te k2
    have hr := rdOp_sound h h3
    obtain ⟨vs, hv, r0, rfl⟩ := avCells_sound hr h4
    cases hz : Nat.beq te.ty.size 0 with
    | true => rw [hz] at h5; simp [Rd.eval] at h5
    | false =>
    rw [hz] at h5
    have hz : te.ty.size ≠ 0 := fun e => by rw [e] at hz; cases hz
    simp only [cond_false, Rd.eval] at h5
    cases hin : inB i n with
    | false => rw [hin] at h5; simp at h5
    | true =>
      rw [hin] at h5
      simp only [cond_true, Rd.eval_bind, Option.bind_eq_some_iff] at h5
      obtain ⟨⟨cs', l4⟩, h6, h7⟩ := h5
      simp only [Rd.eval, Option.some.injEq, Prod.mk.injEq] at h7
      obtain ⟨rfl, _⟩ := h7
      obtain ⟨vs', r1, r2, r3⟩ := selRd_good r0 hin h6
      have hfit : i.toNat * te.ty.size + te.ty.size ≤ vs.length := by
        have hl : te.ty.size - 1 < vs'.length := by omega
        have := r3 _ _ (List.getElem?_eq_getElem hl)
        have := (List.getElem?_eq_some_iff.1 this).1
        omega
      · have hseg : (vs.drop (i.toNat * te.ty.size)).take te.ty.size = vs' := by
          apply List.ext_getElem?
          intro j
          rw [List.getElem?_take]
          by_cases hj : j < te.ty.size
          · rw [if_pos hj, List.getElem?_drop]
            have hl : j < vs'.length := by omega
            rw [List.getElem?_eq_getElem hl, ← r3 j _ (List.getElem?_eq_getElem hl)]
            congr 1; omega
          · rw [if_neg hj, List.getElem?_eq_none (by omega)]
        have hpart := run_part_at (w := w) hte hfit
        rw [hseg] at hpart
        have hin' : 0 ≤ i ∧ i < (n : Int) := by have := inB_iff.1 hin; omega
        obtain ⟨ie, hie, hse, _, _⟩ := hte.info'
        rw [hdesc] at hu
        refine OpOK.value (v := mkVal te.agg vs') ?_ (h.put hd (av := .val te.agg cs') ⟨vs', rfl, fun hg => by rw [← r1.length, r2]; exact hte.one hg, r1⟩ (.inl ⟨_, _, rfl⟩))
        simp only [execOp, ho, Instr.index, hi, hv, asIntOf, Sem.run_bind, Sem.run_pure, Result.andThen_ok, hu, hin', and_self, if_true, sizeOf, typeInfo, program, Sem.run, hie, hse, hpart]
  ·
    rename_i hdesc
    simp only [Rd.eval_bind, Option.bind_eq_some_iff] at h2
    obtain ⟨⟨c, l2⟩, h3, h4⟩ := h2
    have hg := rdCell_sound h h3
    cases c <;> simp only [Rd.eval] at h4 <;> try cases h4
    rename_i s
    have ex : a.eval x = .string ⟨s.toArray⟩ := hg.1
    cases hin : inB i s.length with
    | false => rw [hin] at h4; simp at h4
    | true =>
      rw [hin] at h4
      simp only [cond_true] at h4
      rw [retOne_eval h4]
      obtain ⟨b, hb, hba⟩ := byteAt_get hin
      have h0 := (inB_iff.1 hin).1
      rw [hdesc] at hu
      have hb' : (⟨s.toArray⟩ : ByteArray)[i.toNat]? = some b := by
        have hl := (inB_iff.1 hin).2
        rw [getElem?_pos (⟨s.toArray⟩ : ByteArray) i.toNat (by simpa [ByteArray.size] using hl)]
        rw [← hb, List.getElem?_eq_getElem hl]
        rfl
      refine OpOK.value (v := .int .u8 (byteAt s i)) ?_ (h.putCell hd (good_int _ _))
      simp only [execOp, ho, Instr.index, hi, ex, asIntOf, Sem.run_bind, Sem.run_pure, Result.andThen_ok, hu, h0, if_true, hb', hba]
  · simp [Rd.eval] at h2
end
end Go.VI
