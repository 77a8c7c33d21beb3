/- VI, part 12: operations on plain values. -/
import Derived.Test.YtdejhienahdoiaaGreatViInst
import Derived.Laws.StructEq
import Derived.ChangeKeysEq
import Derived.Laws.BytesString
import Derived.Lib.ConvBytes
namespace Go.VI
open Go.RowKit
section
variable {A : Fix} {X : Ctx} {γ : Gh} {Fr : Nat → Prop} {env : Env} {a : Act} {w w' : World} {vn : Nat} {o : Oper} {us : List Upd} {lg : List Slot}
theorem binInt_run {op : BinOp} {k : IntKind} {x y : Int} {c : Cell} {lg0 lg' : List Slot} (he : (binInt op k x y).eval env.get lg0 = some (c, lg')) (T : TypeId) :
    ∃ v, (binOp op T (.int k x) (.int k y)).run A.P w = .ok v w ∧ GoodR A γ w Fr c v := by
  have hnz : ∀ {c : Cell}, (Rd.guard (!decide (y = 0)) (Rd.pure c)).eval env.get lg0 = some (c, lg') → y ≠ 0 := by
    intro c hh e
    simp [Rd.eval, e] at hh
  cases op <;> simp only [binInt, Rd.eval, Option.some.injEq, Prod.mk.injEq] at he
  case add => obtain ⟨rfl, _⟩ := he; exact ⟨_, by simp [binOp, Op.intArith], good_int _ _⟩
  case sub => obtain ⟨rfl, _⟩ := he; exact ⟨_, by simp [binOp, Op.intArith], good_int _ _⟩
  case mul => obtain ⟨rfl, _⟩ := he; exact ⟨_, by simp [binOp, Op.intArith], good_int _ _⟩
  case quo =>
    by_cases hy : y = 0
    · simp [hy] at he
    · simp only [hy, decide_false, Bool.not_false, cond_true, Option.some.injEq, Prod.mk.injEq] at he
      obtain ⟨rfl, _⟩ := he
      exact ⟨_, by simp [binOp, Op.intDiv, hy], good_int _ _⟩
  case rem =>
    by_cases hy : y = 0
    · simp [hy] at he
    · simp only [hy, decide_false, Bool.not_false, cond_true, Option.some.injEq, Prod.mk.injEq] at he
      obtain ⟨rfl, _⟩ := he
      exact ⟨_, by simp [binOp, Op.intDiv, hy], good_int _ _⟩
  case and => obtain ⟨rfl, _⟩ := he; exact ⟨_, by simp only [binOp, ne_eq, not_true_eq_false, if_false, Op.intBits]; rfl, good_int _ _⟩
  case or => obtain ⟨rfl, _⟩ := he; exact ⟨_, by simp only [binOp, ne_eq, not_true_eq_false, if_false, Op.intBits]; rfl, good_int _ _⟩
  case xor => obtain ⟨rfl, _⟩ := he; exact ⟨_, by simp only [binOp, ne_eq, not_true_eq_false, if_false, Op.intBits]; rfl, good_int _ _⟩
  case andNot => obtain ⟨rfl, _⟩ := he; exact ⟨_, by simp only [binOp, ne_eq, not_true_eq_false, if_false, Op.intBits]; rfl, good_int _ _⟩
  case eql =>
    obtain ⟨rfl, _⟩ := he
    refine ⟨.bool (x == y), by simp [binOp, Op.intCmp], ?_⟩
    exact good_bool _
  case neq =>
    obtain ⟨rfl, _⟩ := he
    refine ⟨.bool (x != y), by simp [binOp, Op.intCmp], ?_⟩
    exact good_bool _
  case lss => obtain ⟨rfl, _⟩ := he; exact ⟨_, by simp [binOp, Op.intCmp], good_bool _⟩
  case leq => obtain ⟨rfl, _⟩ := he; exact ⟨_, by simp [binOp, Op.intCmp], good_bool _⟩
  case gtr => obtain ⟨rfl, _⟩ := he; exact ⟨_, by simp [binOp, Op.intCmp], good_bool _⟩
  case geq => obtain ⟨rfl, _⟩ := he; exact ⟨_, by simp [binOp, Op.intCmp], good_bool _⟩
  all_goals cases he
theorem toList_str (s : List UInt8) : (⟨s.toArray⟩ : ByteArray).toList = s := ByteArray.toList_mk s
theorem append_str (s t : List UInt8) : (⟨s.toArray⟩ : ByteArray) ++ ⟨t.toArray⟩ = ⟨(s ++ t).toArray⟩ := by
  apply ByteArray.ext
  rw [ByteArray.data_append]
  simp
theorem size_str (s : List UInt8) : (⟨s.toArray⟩ : ByteArray).size = s.length := by simp [ByteArray.size]
theorem binStr_run {op : BinOp} {x y : List UInt8} {c : Cell} {lg0 lg' : List Slot} (he : (binStr op x y).eval env.get lg0 = some (c, lg')) (T : TypeId) :
    ∃ v, (binOp op T (.string ⟨x.toArray⟩) (.string ⟨y.toArray⟩)).run A.P w = .ok v w ∧ GoodR A γ w Fr c v := by
  cases op <;> simp only [binStr, Rd.eval, Option.some.injEq, Prod.mk.injEq] at he
  case add =>
    rw [catS_eq] at he
    cases hd : decide (((x.length + y.length : Nat) : Int) ≤ 9223372036854775807) with
    | false => rw [hd] at he; simp at he
    | true =>
      rw [hd] at he
      simp only [cond_true, Option.bind_some, Option.some.injEq, Prod.mk.injEq] at he
      obtain ⟨rfl, _⟩ := he
      have hd := of_decide_eq_true hd
      have hm : ¬ (((x.length + y.length : Nat) : Int) > IntKind.i64.max) := by
        have : IntKind.i64.max = 9223372036854775807 := by decide
        omega
      refine ⟨.string ⟨(x ++ y).toArray⟩, ?_, good_str _⟩
      simp only [binOp, Op.stringOp, size_str, hm, if_false, Sem.run_pure, append_str]
  case eql => obtain ⟨rfl, _⟩ := he; exact ⟨_, by simp only [binOp, Op.stringOp, toList_str, Sem.run_pure], good_bool _⟩
  case neq => obtain ⟨rfl, _⟩ := he; exact ⟨_, by simp only [binOp, Op.stringOp, toList_str, Sem.run_pure], good_bool _⟩
  case lss => obtain ⟨rfl, _⟩ := he; exact ⟨_, by simp only [binOp, Op.stringOp, toList_str, Sem.run_pure], good_bool _⟩
  all_goals cases he
theorem eqInts_items {k' : IntKind} {e : TypeId} (hu : A.P.underlying e = some (.int k')) (hs : A.P.cellsOf e = 1) {xs ys : Array Value} : ∀ (cs ds : List Cell) (j : Nat) (b : Bool), eqInts cs ds = some b →
    RelCs A γ w Fr cs (xs.toList.drop j) → RelCs A γ w Fr ds (ys.toList.drop j) →
    (Op.eqItems 9999 e 1 xs ys ((List.range cs.length).map (j + ·))).run A.P w = .ok b w
  | [], [], j, b, h, _, _ => by
    simp [eqInts] at h
    subst h
    simp [Op.eqItems]
  | [], d :: s, j, b, h, _, _ => by simp [eqInts] at h
  | c :: r, [], j, b, h, _, _ => by cases c <;> simp [eqInts] at h
  | c :: r, d :: s, j, b, h, h1, h2 => by
    obtain ⟨u, us', hu1, hg1, hr1⟩ := h1
    obtain ⟨v, vs', hv1, hg2, hr2⟩ := h2
    cases c <;> cases d <;> simp only [eqInts] at h <;> try cases h
    rename_i k x k2 y
    split at h
    · rename_i hk
      subst hk
      simp only [Option.map_eq_some_iff] at h
      obtain ⟨b', hb, rfl⟩ := h
      have hx : xs[j]? = some (.int k x) := by
        have : (xs.toList.drop j)[0]? = some u := by rw [hu1]; rfl
        rw [List.getElem?_drop, Nat.add_zero, Array.getElem?_toList] at this
        rw [this, show u = _ from hg1.1]
      have hy : ys[j]? = some (.int k y) := by
        have : (ys.toList.drop j)[0]? = some v := by rw [hv1]; rfl
        rw [List.getElem?_drop, Nat.add_zero, Array.getElem?_toList] at this
        rw [this, show v = _ from hg2.1]
      have d1 : xs.toList.drop (j + 1) = us' := by rw [← List.drop_drop, hu1]; rfl
      have d2 : ys.toList.drop (j + 1) = vs' := by rw [← List.drop_drop, hv1]; rfl
      have ih := eqInts_items hu hs r s (j + 1) b' hb (by rw [d1]; exact hr1) (by rw [d2]; exact hr2)
      have hpk : A.P.plainKey e = true := by simp [Program.plainKey, hu]
      have p1 := run_part_plain (P := A.P) w hpk (xs := xs) (off := j) hx
      have p2 := run_part_plain (P := A.P) w hpk (xs := ys) (off := j) hy
      have p3 := run_equalIn_int (P := A.P) w 9998 e k k' x y hu
      have el : (List.range (List.length (Cell.int k x :: r))).map (j + ·) = j :: (List.range r.length).map (j + 1 + ·) := by
        simp only [List.length_cons, List.range_succ_eq_map, List.map_cons, List.map_map, Nat.add_zero]
        congr 1
        apply List.map_congr_left
        intro m _
        simp only [Function.comp]; omega
      rw [el]
      simp only [Op.eqItems, Nat.mul_one, Sem.run_bind, p1, p2, p3, Result.andThen_ok]
      by_cases hxy : x = y
      · simp only [hxy, decide_true, Bool.true_and, beq_self_eq_true]
        exact ih
      · have hbe : (x == y) = false := by simp [hxy]
        simp [hxy, hbe]
    · cases h
theorem eqFs_run (hty : TyOK A.P X) {xs ys : Array Value} (hd : ∃ d, A.P.depth = d + 2) : ∀ (fs : List Field) (cs ds : List Cell) (j : Nat) (b : Bool) (lg lg' : List Slot), (eqFs X j fs cs ds).eval env.get lg = some (b, lg') →
    RelCs A γ w Fr cs (xs.toList.drop j) → RelCs A γ w Fr ds (ys.toList.drop j) → (∀ f ∈ fs, f.name ≠ "_") →
    (Op.eqFields 9999 xs ys fs).run A.P w = .ok b w ∧ ∀ f ∈ fs, ∀ d, A.P.eqGuardType (d + 1) f.type = false
  | [], [], [], j, b, lg, lg', h, _, _, _ => by
    simp only [eqFs, Rd.eval, Option.some.injEq, Prod.mk.injEq] at h
    rw [← h.1]
    exact ⟨by simp [Op.eqFields], by simp⟩
  | [], [], _ :: _, _, _, _, _, h, _, _, _ => by simp [eqFs, Rd.eval] at h
  | [], _ :: _, _, _, _, _, _, h, _, _, _ => by simp [eqFs, Rd.eval] at h
  | _ :: _, [], _, _, _, _, _, h, _, _, _ => by simp [eqFs, Rd.eval] at h
  | _ :: _, _ :: _, [], _, _, _, _, h, _, _, _ => by simp [eqFs, Rd.eval] at h
  | f :: fs, c :: cs, d :: ds, j, b, lg, lg', h, h1, h2, hn => by
    obtain ⟨u, us', hu1, hg1, hr1⟩ := h1
    obtain ⟨v, vs', hv1, hg2, hr2⟩ := h2
    have d1 : xs.toList.drop (j + 1) = us' := by rw [← List.drop_drop, hu1]; rfl
    have d2 : ys.toList.drop (j + 1) = vs' := by rw [← List.drop_drop, hv1]; rfl
    have hx : xs[j]? = some u := by
      have : (xs.toList.drop j)[0]? = some u := by rw [hu1]; rfl
      rwa [List.getElem?_drop, Nat.add_zero, Array.getElem?_toList] at this
    have hy : ys[j]? = some v := by
      have : (ys.toList.drop j)[0]? = some v := by rw [hv1]; rfl
      rwa [List.getElem?_drop, Nat.add_zero, Array.getElem?_toList] at this
    have hf := hn f (List.mem_cons_self ..)
    rw [eqFs] at h
    cases ho : Nat.beq f.offset j with
    | false => rw [ho] at h; simp [Rd.eval] at h
    | true =>
      have ho' := Nat.eq_of_beq_eq_true ho
      rw [ho] at h
      simp only [cond_true, Rd.eval_bind, Option.bind_eq_some_iff, Ctx.ti, Rd.eval_ofOpt, Option.map_eq_some_iff] at h
      obtain ⟨_, ⟨tf, k1, rfl⟩, h⟩ := h
      have ht := hty _ _ k1
      simp only at h
      split at h
      · rename_i kt ka x' kb y' hdesc
        split at h
        · rename_i hk
          subst hk
          simp only [Rd.eval_bind, Option.bind_eq_some_iff, Rd.eval, Option.some.injEq, Prod.mk.injEq] at h
          obtain ⟨⟨y, l3⟩, e3, rfl, _⟩ := h
          obtain ⟨ih, ig⟩ := eqFs_run hty hd fs cs ds (j + 1) y _ _ e3 (by rw [d1]; exact hr1) (by rw [d2]; exact hr2) (fun x hx => hn x (List.mem_cons_of_mem _ hx))
          have hu : A.P.underlying f.type = some (.int kt) := by rw [ht.und, hdesc]
          have hpk : A.P.plainKey f.type = true := by simp [Program.plainKey, hu]
          have p1 := run_part_plain (P := A.P) w hpk (xs := xs) (off := f.offset) (by rw [ho']; exact hx)
          have p2 := run_part_plain (P := A.P) w hpk (xs := ys) (off := f.offset) (by rw [ho']; exact hy)
          rw [show u = _ from hg1.1] at p1
          rw [show v = _ from hg2.1] at p2
          have p3 := run_equalIn_int (P := A.P) w 9998 f.type ka kt x' y' hu
          refine ⟨?_, fun g hg dd => ?_⟩
          · simp only [Op.eqFields, if_pos hf, Sem.run_bind, p1, p2, p3, Result.andThen_ok]
            by_cases hxy : x' = y'
            · simp only [hxy, decide_true, Bool.true_and, beq_self_eq_true]
              exact ih
            · have hbe : (x' == y') = false := by simp [hxy]
              simp [hxy, hbe]
          · rcases List.mem_cons.1 hg with rfl | hg
            · simp [Program.eqGuardType, hu]
            · exact ig g hg dd
        · simp [Rd.eval] at h
      · rename_i x' y' hdesc
        simp only [Rd.eval_bind, Option.bind_eq_some_iff, Rd.eval, Option.some.injEq, Prod.mk.injEq] at h
        obtain ⟨⟨y, l3⟩, e3, rfl, _⟩ := h
        obtain ⟨ih, ig⟩ := eqFs_run hty hd fs cs ds (j + 1) y _ _ e3 (by rw [d1]; exact hr1) (by rw [d2]; exact hr2) (fun x hx => hn x (List.mem_cons_of_mem _ hx))
        have hu : A.P.underlying f.type = some .string := by rw [ht.und, hdesc]
        have hpk : A.P.plainKey f.type = true := by simp [Program.plainKey, hu]
        have p1 := run_part_plain (P := A.P) w hpk (xs := xs) (off := f.offset) (by rw [ho']; exact hx)
        have p2 := run_part_plain (P := A.P) w hpk (xs := ys) (off := f.offset) (by rw [ho']; exact hy)
        rw [show u = _ from hg1.1] at p1
        rw [show v = _ from hg2.1] at p2
        have p3 := run_equalIn_string (P := A.P) w 9998 f.type ⟨x'.toArray⟩ ⟨y'.toArray⟩ hu
        rw [toList_str, toList_str] at p3
        refine ⟨?_, fun g hg dd => ?_⟩
        · simp only [Op.eqFields, if_pos hf, Sem.run_bind, p1, p2, p3, Result.andThen_ok]
          cases hxy : (x' == y') with
          | true => simp only [Bool.not_true, Bool.false_eq_true, if_false, Bool.true_and]; exact ih
          | false => simp
        · rcases List.mem_cons.1 hg with rfl | hg
          · simp [Program.eqGuardType, hu]
          · exact ig g hg dd
      · simp [Rd.eval] at h
theorem eqArr_run {T : TypeId} {cs ds : List Cell} {xs ys : List Value} {b : Bool} {lg0 lg' : List Slot} (hty : TyOK A.P X) (he : (eqArr X T cs ds).eval env.get lg0 = some (b, lg')) (h1 : RelCs A γ w Fr cs xs) (h2 : RelCs A γ w Fr ds ys) :
    (Op.equalIn 10000 T (.agg xs.toArray) (.agg ys.toArray)).run A.P w = .ok b w ∧ A.P.eqGuardType A.P.depth T = false := by
  simp only [eqArr, Rd.eval_bind, Option.bind_eq_some_iff, Ctx.ti, Rd.eval_ofOpt, Option.map_eq_some_iff] at he
  obtain ⟨_, ⟨ti, k1, rfl⟩, he⟩ := he
  simp only at he
  have ht := hty T ti k1
  split at he
  · rename_i n e hdesc
    simp only [Rd.eval_bind, Option.bind_eq_some_iff, Rd.eval_ofOpt, Option.map_eq_some_iff] at he
    obtain ⟨_, ⟨te, k2, rfl⟩, he⟩ := he
    have hte := hty e te k2
    simp only at he
    split at he
    · rename_i k hk
      cases hc : (Nat.beq cs.length n && Nat.beq ds.length n && Nat.beq te.ty.size 1) with
      | false => rw [hc] at he; simp [Rd.eval] at he
      | true =>
        rw [hc] at he
        simp only [Bool.and_eq_true] at hc
        have c1 := Nat.eq_of_beq_eq_true hc.1.1
        have c2 := Nat.eq_of_beq_eq_true hc.1.2
        have c3 := Nat.eq_of_beq_eq_true hc.2
        simp only [cond_true, Rd.eval_ofOpt, Option.map_eq_some_iff, Prod.mk.injEq] at he
        obtain ⟨b', hb, rfl, _⟩ := he
        obtain ⟨i, hi, hs, _, _⟩ := hte.info'
        have hu : A.P.underlying T = some (.array n e) := by rw [ht.und, hdesc]
        have hue : A.P.underlying e = some (.int k) := by rw [hte.und, hk]
        have hcell : A.P.cellsOf e = 1 := by simp [Program.cellsOf, hi, hs, c3]
        refine ⟨?_, ?_⟩
        · rw [run_equalIn_array w 9999 xs.toArray ys.toArray hu hi, hcell]
          have := eqInts_items hue hcell (xs := xs.toArray) (ys := ys.toArray) cs ds 0 b' hb (by simpa using h1) (by simpa using h2)
          rw [c1] at this
          simpa using this
        · have hd : ∃ d, A.P.depth = d + 2 := ⟨2 * (A.P.types.size + Made.depth), rfl⟩
          obtain ⟨d, hd⟩ := hd
          rw [hd]
          simp [Program.eqGuardType, hu, hue]
    · simp [Rd.eval] at he
  · rename_i fs hdesc
    cases hq : ti.eqs with
    | false => rw [hq] at he; simp [Rd.eval] at he
    | true =>
      rw [hq] at he
      simp only [cond_true] at he
      obtain ⟨hst, hnm⟩ := ht.eqs hq
      have hu : A.P.underlying T = some (.struct fs) := by rw [ht.und, hdesc]
      have hfo : A.P.fieldsOf T = fs := by simp [Program.fieldsOf, hu]
      have hnm := hnm fs hdesc
      have hdep : ∃ d, A.P.depth = d + 2 := ⟨2 * (A.P.types.size + Made.depth), rfl⟩
      obtain ⟨g1, g2⟩ := eqFs_run hty hdep (xs := xs.toArray) (ys := ys.toArray) fs.toList cs ds 0 b _ _ he (by simpa using h1) (by simpa using h2) hnm
      refine ⟨?_, ?_⟩
      · rw [run_equalIn_agg w 9999 T xs.toArray ys.toArray (by rw [hfo]; exact hu) hst, hfo]
        exact g1
      · obtain ⟨d, hd⟩ := hdep
        rw [hd]
        simp only [Program.eqGuardType, hu, Array.any_eq_false']
        intro f hf
        have := g2 f (by simpa using hf) d
        simp only [Program.eqGuardType] at this
        rw [this]
        simp
  · simp [Rd.eval] at he
theorem binAV_shape {op : BinOp} {av bv : AV} {c : Cell} {l l' : List Slot} (h : (binAV op av bv).eval env.get l = some (c, l')) :
    (∃ k a' k' b', av = .val false [.int k a'] ∧ bv = .val false [.int k' b']) ∨ (∃ a' b', av = .val false [.str a'] ∧ bv = .val false [.str b']) := by
  unfold binAV at h
  split at h
  · exact .inl ⟨_, _, _, _, rfl, rfl⟩
  · exact .inr ⟨_, _, rfl, rfl⟩
  · simp [Rd.eval] at h
theorem op_binOp (h : Core A X γ Fr env a w) (hty : TyOK A.P X) (hd : dstOk X o) {op : BinOp} {T T' : TypeId} {x y : Operand} (ho : o.op = .binOp op T x y T') (he : (opRd X vn o).eval env.get [] = some (us, lg)) : OpOK A X Fr o us env a w := by
  simp only [opRd, ho, Rd.eval_bind, Option.bind_eq_some_iff] at he
  obtain ⟨⟨av, l1⟩, h1, ⟨bv, l2⟩, h2, h3⟩ := he
  have ra := rdOp_sound h h1
  have rb := rdOp_sound h h2
  have fin : ∀ v c, (binOp op T (a.eval x) (a.eval y)).run A.P w = .ok v w → (eqGuard op T x y (a.eval x) (a.eval y)).run A.P w = .ok () w → GoodR A γ w Fr c v → OpOK A X Fr o (dstSet o (.val false [c])) env a w := by
    intro v c hrun hgd hg
    exact OpOK.value (by simp only [execOp, ho, Sem.run_bind, hgd, Result.andThen_ok, hrun, Sem.run_pure]) (h.putCell hd hg)
  simp only at h3
  split at h3
  ·
    rename_i cs ds
    obtain ⟨xs, ex, _, r1⟩ := ra
    obtain ⟨ys, ey, _, r2⟩ := rb
    simp only [mkVal] at ex ey
    cases op <;> try (simp [Rd.eval] at h3; done)
    all_goals
      simp only [Rd.eval_bind, Option.bind_eq_some_iff] at h3
      obtain ⟨⟨b, l4⟩, h4, h5⟩ := h3
      rw [retOne_eval h5]
      obtain ⟨hrun, hgd⟩ := eqArr_run hty h4 r1 r2
      refine fin _ _ ?_ ?_ (good_bool _)
      · rw [ex, ey]
        first | rw [run_eql_struct] | rw [run_neq_struct]
        rw [hrun]
        rfl
      · rw [ex, ey]; exact run_eqGuard_agg w _ T x y _ _ hgd
  ·
    rename_i a' b'
    have ex : a.eval x = .bool a' := (relR_one ra).1
    have ey : a.eval y = .bool b' := (relR_one rb).1
    simp only [Rd.eval_bind, Option.bind_eq_some_iff, Ctx.ti, Rd.eval_ofOpt, Option.map_eq_some_iff] at h3
    obtain ⟨_, ⟨ti, k1, rfl⟩, h4⟩ := h3
    have ht := hty T ti k1
    simp only at h4
    have hgd : ∀ op', (eqGuard op' T x y (.bool a') (.bool b')).run A.P w = .ok () w := by
      intro op'
      unfold eqGuard
      cases op' <;> simp
    split at h4
    · rename_i hdesc
      rw [retOne_eval h4]
      have hu : A.P.underlying T = some .bool := by rw [ht.und, hdesc]
      refine fin _ _ ?_ (by rw [ex, ey]; exact hgd _) (good_bool _)
      rw [ex, ey]
      simp only [binOp, Op.equal, Sem.run_bind, Op.maxDepth, run_equalIn_bool' w 9999 T a' b' hu, Result.andThen_ok, Sem.run_pure]
    · rename_i hdesc
      rw [retOne_eval h4]
      have hu : A.P.underlying T = some .bool := by rw [ht.und, hdesc]
      refine fin _ _ ?_ (by rw [ex, ey]; exact hgd _) (good_bool _)
      rw [ex, ey]
      simp only [binOp, Op.equal, Sem.run_bind, Op.maxDepth, run_equalIn_bool' w 9999 T a' b' hu, Result.andThen_ok, Sem.run_pure]
    · simp [Rd.eval] at h4
  · simp only [Rd.eval_bind, Option.bind_eq_some_iff] at h3
    obtain ⟨⟨c, l4⟩, h4, h5⟩ := h3
    rw [retOne_eval h5]
    rcases binAV_shape h4 with ⟨k, x', k', y', rfl, rfl⟩ | ⟨x', y', rfl, rfl⟩
    · have ex : a.eval x = .int k x' := (relR_one ra).1
      have ey : a.eval y = .int k' y' := (relR_one rb).1
      have hgd : (eqGuard op T x y (.int k x') (.int k' y')).run A.P w = .ok () w := by
        unfold eqGuard
        cases op <;> simp
      simp only [binAV] at h4
      split at h4
      · cases hb : decide (0 ≤ y') with
        | false => rw [hb] at h4; simp [Rd.eval] at h4
        | true =>
          rw [hb] at h4
          simp only [Rd.eval, cond_true, Option.some.injEq, Prod.mk.injEq] at h4
          obtain ⟨rfl, _⟩ := h4
          have hb := of_decide_eq_true hb
          refine fin (.int k (shlI k x' y')) _ (by rw [ex, ey]; simp only [binOp, Op.shift, Int.not_lt.2 hb, if_false]; rfl) (by rw [ex, ey]; exact hgd) (good_int _ _)
      · cases hb : decide (0 ≤ y') with
        | false => rw [hb] at h4; simp [Rd.eval] at h4
        | true =>
          rw [hb] at h4
          simp only [Rd.eval, cond_true, Option.some.injEq, Prod.mk.injEq] at h4
          obtain ⟨rfl, _⟩ := h4
          have hb := of_decide_eq_true hb
          refine fin (.int k (shrI k x' y')) _ (by rw [ex, ey]; simp only [binOp, Op.shift, Int.not_lt.2 hb, if_false]; rfl) (by rw [ex, ey]; exact hgd) (good_int _ _)
      · split at h4
        · rename_i hk
          subst hk
          obtain ⟨v, hrun, hg⟩ := binInt_run (A := A) (γ := γ) (Fr := Fr) (w := w) h4 T
          exact fin v _ (by rw [ex, ey]; exact hrun) (by rw [ex, ey]; exact hgd) hg
        · simp [Rd.eval] at h4
    · have ex : a.eval x = .string ⟨x'.toArray⟩ := (relR_one ra).1
      have ey : a.eval y = .string ⟨y'.toArray⟩ := (relR_one rb).1
      have hgd : (eqGuard op T x y (.string ⟨x'.toArray⟩) (.string ⟨y'.toArray⟩)).run A.P w = .ok () w := by
        unfold eqGuard
        cases op <;> simp
      obtain ⟨v, hrun, hg⟩ := binStr_run (A := A) (γ := γ) (Fr := Fr) (w := w) h4 T
      exact fin v _ (by rw [ex, ey]; exact hrun) (by rw [ex, ey]; exact hgd) hg
theorem op_unOp (h : Core A X γ Fr env a w) (hd : dstOk X o) {op : UnOp} {T : TypeId} {x : Operand} (ho : o.op = .unOp op T x) (he : (opRd X vn o).eval env.get [] = some (us, lg)) : OpOK A X Fr o us env a w := by
  simp only [opRd, ho, Rd.eval_bind, Option.bind_eq_some_iff] at he
  obtain ⟨⟨c, l1⟩, h1, h2⟩ := he
  have hg := rdCell_sound h h1
  simp only at h2
  split at h2
  · rename_i b
    rw [retOne_eval h2]
    have ex : a.eval x = .bool b := hg.1
    exact OpOK.value (v := .bool (!b)) (by simp only [execOp, ho, ex, Op.unary, Sem.run_bind, Sem.run_pure, Result.andThen_ok]) (h.putCell hd (good_bool _))
  · rename_i k n
    rw [retOne_eval h2]
    have ex : a.eval x = .int k n := hg.1
    exact OpOK.value (v := .int k (k.wrap (0 - n))) (by simp only [execOp, ho, ex, Op.unary, Op.intArith, Sem.run_bind, Sem.run_pure, Result.andThen_ok]) (h.putCell hd (good_int _ _))
  · rename_i k n
    rw [retOne_eval h2]
    have ex : a.eval x = .int k n := hg.1
    exact OpOK.value (v := .int k (intBits .xor k (if k.signed then -1 else k.max) n)) (by simp only [execOp, ho, ex, Op.unary, Op.intBits, Sem.run_bind, Sem.run_pure, Result.andThen_ok]; rfl) (h.putCell hd (good_int _ _))
  · simp [Rd.eval] at h2
theorem op_extract (h : Core A X γ Fr env a w) (hd : dstOk X o) {i : Nat} {x : Operand} (ho : o.op = .extract x i) (he : (opRd X vn o).eval env.get [] = some (us, lg)) : OpOK A X Fr o us env a w := by
  simp only [opRd, ho, Rd.eval_bind, Option.bind_eq_some_iff] at he
  obtain ⟨⟨av, l1⟩, h1, h2⟩ := he
  have hr := rdOp_sound h h1
  cases av with
  | tup l =>
    simp only at h2
    split at h2
    · rename_i p hp
      simp only [Rd.eval, Option.some.injEq, Prod.mk.injEq] at h2
      obtain ⟨rfl, _⟩ := h2
      obtain ⟨vs, hv, hcs⟩ := hr
      obtain ⟨uss, hl, hk⟩ := hcs.lists
      obtain ⟨e1, e2, e3⟩ := hk i p hp
      refine OpOK.value (v := mkVal p.1 (uss.getD i [])) ?_ (h.put hd (av := .val p.1 p.2) ⟨_, rfl, e2, e3⟩ (.inl ⟨_, _, rfl⟩))
      simp only [execOp, ho, hv, Instr.extract, List.getElem?_toArray, e1, Sem.run_bind, Sem.run_pure, Result.andThen_ok]
    · simp [Rd.eval] at h2
  | val g cs => simp [Rd.eval] at h2
  | skip => simp [Rd.eval] at h2
  | undef => simp [Rd.eval] at h2
  | box _ _ _ => simp [Rd.eval] at h2
  | num _ => simp [Rd.eval] at h2
theorem op_nilCheck (h : Core A X γ Fr env a w) (hd : dstOk X o) {x : Operand} (ho : o.op = .nilCheck x) (he : (opRd X vn o).eval env.get [] = some (us, lg)) : OpOK A X Fr o us env a w := by
  simp only [opRd, ho, Rd.eval_bind, Option.bind_eq_some_iff] at he
  obtain ⟨⟨c, l1⟩, h1, h2⟩ := he
  have hg := rdCell_sound h h1
  have fin : ∀ p, a.eval x = .pointer (some p) → (retOne o c).eval env.get l1 = some (us, lg) → OpOK A X Fr o us env a w := by
    intro p hp hh
    rw [retOne_eval hh]
    exact OpOK.value (v := a.eval x) (by simp only [execOp, ho, hp, Sem.run_pure]) (h.putCell hd hg)
  cases c with
  | addr b bv off => exact fin _ hg.1 h2
  | gptr g off => exact fin _ hg.1 h2
  | iptr t x off =>
    obtain ⟨ad, us0, hv, _⟩ := hg.1
    exact fin _ hv h2
  | _ => simp [Rd.eval] at h2
theorem byteAt_get {s : List UInt8} {i : Int} (h : inB i s.length = true) : ∃ b, s[i.toNat]? = some b ∧ byteAt s i = (b.toNat : Int) := by
  have := (inB_iff.1 h).2
  exact ⟨s[i.toNat], List.getElem?_eq_getElem this, by simp [byteAt, List.getD, List.getElem?_eq_getElem this]⟩
theorem run_part_at {T : TypeId} {ti : TI} (ht : TIOK A.P T ti) {cs : List Value} {off : Nat} (hfit : off + ti.ty.size ≤ cs.length) :
    (part T cs.toArray off).run A.P w = .ok (mkVal ti.agg ((cs.drop off).take ti.ty.size)) w := by
  obtain ⟨i, hi, hs, _, _⟩ := ht.info'
  have hu := run_underlying (P := A.P) ht.und w
  have hagg : (isAgg T).run A.P w = .ok ti.agg w := by
    rw [ht.agg]
    unfold isAgg
    simp only [Sem.run_bind, hu, Result.andThen_ok]
    cases ti.desc <;> rfl
  unfold part
  simp only [Sem.run_bind, hagg, Result.andThen_ok]
  cases hg : ti.agg with
  | true =>
    simp only [if_true, Sem.run_bind, sizeOf, typeInfo, program, Sem.run, hi, Sem.run_pure, Result.andThen_ok, hs]
    congr 1
    simp only [mkVal]
    congr 1
    apply Array.ext'
    simp
  | false =>
    have h1 := ht.one hg
    rw [h1] at hfit ⊢
    have hlt : off < cs.length := by omega
    simp only [Bool.false_eq_true, if_false, List.getElem?_toArray, List.getElem?_eq_getElem hlt, Sem.run_pure]
    congr 1
    simp [mkVal, List.head?_drop, List.getElem?_eq_getElem hlt, List.headD_eq_head?_getD, List.head?_take]
theorem avCells_sound {av : AV} {v : Value} {cs : List Cell} {l l' : List Slot} (hr : RelR A γ w Fr av v) (h : (avCells av).eval env.get l = some (cs, l')) :
    ∃ vs, v = .agg vs.toArray ∧ RelCs A γ w Fr cs vs ∧ av = .val true cs := by
  unfold avCells at h
  split at h
  · simp only [Rd.eval, Option.some.injEq, Prod.mk.injEq] at h
    obtain ⟨rfl, _⟩ := h
    obtain ⟨vs, hv, _, hcs⟩ := hr
    exact ⟨vs, hv, hcs, rfl⟩
  · simp [Rd.eval] at h
theorem splitSel_good {i : Int} {cs : List Cell} {us : List Value} {sz : Nat} (hr : RelCs A γ w Fr cs us) : ∀ (n k : Nat) {l l' : List Slot} {cs' : List Cell}, (k : Int) ≤ i → i < (k : Int) + (n : Int) → (splitSel i cs sz k n).eval env.get l = some (cs', l') →
    ∃ us', RelCs A γ w Fr cs' us' ∧ us'.length = sz ∧ ∀ (j : Nat) (u : Value), us'[j]? = some u → us[i.toNat * sz + (0 + j)]? = some u
  | 0, k, l, l', cs', h0, h1, h => by simp [splitSel, Rd.eval] at h
  | n + 1, k, l, l', cs', h0, h1, h => by
    have one : i = (k : Int) → takeN sz (cs.drop (k * sz)) = some cs' → ∃ us', RelCs A γ w Fr cs' us' ∧ us'.length = sz ∧ ∀ (j : Nat) (u : Value), us'[j]? = some u → us[i.toNat * sz + (0 + j)]? = some u := by
      intro hi ht
      have e : i.toNat = k := by omega
      obtain ⟨t1, t2⟩ := takeN_eq ht
      have hlen := (hr.drop (k * sz)).length
      refine ⟨(us.drop (k * sz)).take sz, (hr.drop (k * sz)).takeN ht, by rw [List.length_take]; omega, fun j u hj => ?_⟩
      rw [List.getElem?_take] at hj
      by_cases hjs : j < sz
      · rw [if_pos hjs, List.getElem?_drop] at hj
        rw [e, ← hj]
        congr 1
        omega
      · rw [if_neg hjs] at hj
        cases hj
    match n, h with
    | 0, h =>
      simp only [splitSel, Rd.eval_ofOpt, Option.map_eq_some_iff, Prod.mk.injEq] at h
      obtain ⟨c1, h1', rfl, _⟩ := h
      exact one (by omega) h1'
    | n + 1, h =>
      simp only [splitSel, Rd.eval] at h
      by_cases hi : i = (k : Int)
      · rw [decide_eq_true hi] at h
        simp only [cond_true, Rd.eval_ofOpt, Option.map_eq_some_iff, Prod.mk.injEq] at h
        obtain ⟨c1, h1', rfl, _⟩ := h
        exact one hi h1'
      · rw [decide_eq_false hi] at h
        simp only [cond_false] at h
        exact splitSel_good hr (n + 1) (k + 1) (by omega) (by omega) h
theorem selRd_good {rows : Bool} {i : Int} {cs : List Cell} {us : List Value} {n sz : Nat} (hr : RelCs A γ w Fr cs us) (hi : inB i n = true) {l l' : List Slot} {cs' : List Cell} (h : (selRd rows i cs n sz).eval env.get l = some (cs', l')) :
    ∃ us', RelCs A γ w Fr cs' us' ∧ us'.length = sz ∧ ∀ (j : Nat) (u : Value), us'[j]? = some u → us[i.toNat * sz + (0 + j)]? = some u := by
  have hin : 0 ≤ i ∧ i < (n : Int) := by have := inB_iff.1 hi; omega
  cases rows with
  | false =>
    simp only [selRd, Rd.eval_ofOpt, Option.map_eq_some_iff, Prod.mk.injEq] at h
    obtain ⟨c1, h1, rfl, _⟩ := h
    exact selCells_good i cs us n sz hr hi sz 0 c1 h1
  | true =>
    exact splitSel_good hr n 0 (by omega) (by omega) h
theorem op_index (h : Core A X γ Fr env a w) (hty : TyOK A.P X) (hd : dstOk X o) {T : TypeId} {x ix : Operand} (ho : o.op = .index T x ix) (he : (opRd X vn o).eval env.get [] = some (us, lg)) : OpOK A X Fr o us env a w := by
  simp only [opRd, ho, Rd.eval_bind, Option.bind_eq_some_iff, Ctx.ti, Rd.eval_ofOpt, Option.map_eq_some_iff] at he
  obtain ⟨_, ⟨ti, k1, rfl⟩, ⟨⟨k, i⟩, l1⟩, h1, h2⟩ := he
  have ht := hty T ti k1
  have hi := rdInt_sound h h1
  simp only at hi h2
  have hu := run_underlying (P := A.P) ht.und w
  split at h2
  ·
    rename_i n e hdesc
    simp only [Rd.eval_bind, Option.bind_eq_some_iff, Rd.eval_ofOpt, Option.map_eq_some_iff] at h2
    obtain ⟨_, ⟨te, k2, rfl⟩, ⟨av, l2⟩, h3, ⟨cs, l3⟩, h4, h5⟩ := h2
    have hte := hty e te k2
    have hr := rdOp_sound h h3
    obtain ⟨vs, hv, r0, rfl⟩ := avCells_sound hr h4
    cases hz : Nat.beq te.ty.size 0 with
    | true => rw [hz] at h5; simp [Rd.eval] at h5
    | false =>
    rw [hz] at h5
    have hz : te.ty.size ≠ 0 := fun e => by rw [e] at hz; cases hz
    simp only [cond_false, Rd.eval] at h5
    cases hin : inB i n with
    | false => rw [hin] at h5; simp at h5
    | true =>
      rw [hin] at h5
      simp only [cond_true, Rd.eval_bind, Option.bind_eq_some_iff] at h5
      obtain ⟨⟨cs', l4⟩, h6, h7⟩ := h5
      simp only [Rd.eval, Option.some.injEq, Prod.mk.injEq] at h7
      obtain ⟨rfl, _⟩ := h7
      obtain ⟨vs', r1, r2, r3⟩ := selRd_good r0 hin h6
      have hfit : i.toNat * te.ty.size + te.ty.size ≤ vs.length := by
        have hl : te.ty.size - 1 < vs'.length := by omega
        have := r3 _ _ (List.getElem?_eq_getElem hl)
        have := (List.getElem?_eq_some_iff.1 this).1
        omega
      · have hseg : (vs.drop (i.toNat * te.ty.size)).take te.ty.size = vs' := by
          apply List.ext_getElem?
          intro j
          rw [List.getElem?_take]
          by_cases hj : j < te.ty.size
          · rw [if_pos hj, List.getElem?_drop]
            have hl : j < vs'.length := by omega
            rw [List.getElem?_eq_getElem hl, ← r3 j _ (List.getElem?_eq_getElem hl)]
            congr 1; omega
          · rw [if_neg hj, List.getElem?_eq_none (by omega)]
        have hpart := run_part_at (w := w) hte hfit
        rw [hseg] at hpart
        have hin' : 0 ≤ i ∧ i < (n : Int) := by have := inB_iff.1 hin; omega
        obtain ⟨ie, hie, hse, _, _⟩ := hte.info'
        rw [hdesc] at hu
        refine OpOK.value (v := mkVal te.agg vs') ?_ (h.put hd (av := .val te.agg cs') ⟨vs', rfl, fun hg => by rw [← r1.length, r2]; exact hte.one hg, r1⟩ (.inl ⟨_, _, rfl⟩))
        simp only [execOp, ho, Instr.index, hi, hv, asIntOf, Sem.run_bind, Sem.run_pure, Result.andThen_ok, hu, hin', and_self, if_true, sizeOf, typeInfo, program, Sem.run, hie, hse, hpart]
  ·
    rename_i hdesc
    simp only [Rd.eval_bind, Option.bind_eq_some_iff] at h2
    obtain ⟨⟨c, l2⟩, h3, h4⟩ := h2
    have hg := rdCell_sound h h3
    cases c <;> simp only [Rd.eval] at h4 <;> try cases h4
    rename_i s
    have ex : a.eval x = .string ⟨s.toArray⟩ := hg.1
    cases hin : inB i s.length with
    | false => rw [hin] at h4; simp at h4
    | true =>
      rw [hin] at h4
      simp only [cond_true] at h4
      rw [retOne_eval h4]
      obtain ⟨b, hb, hba⟩ := byteAt_get hin
      have h0 := (inB_iff.1 hin).1
      rw [hdesc] at hu
      have hb' : (⟨s.toArray⟩ : ByteArray)[i.toNat]? = some b := by
        have hl := (inB_iff.1 hin).2
        rw [getElem?_pos (⟨s.toArray⟩ : ByteArray) i.toNat (by simpa [ByteArray.size] using hl)]
        rw [← hb, List.getElem?_eq_getElem hl]
        rfl
      refine OpOK.value (v := .int .u8 (byteAt s i)) ?_ (h.putCell hd (good_int _ _))
      simp only [execOp, ho, Instr.index, hi, ex, asIntOf, Sem.run_bind, Sem.run_pure, Result.andThen_ok, hu, h0, if_true, hb', hba]
  · simp [Rd.eval] at h2
end
end Go.VI
namespace Go.VI
open Go.RowKit
section
variable {A : Fix} {X : Ctx} {γ : Gh} {Fr : Nat → Prop} {env : Env} {a : Act} {w w' : World} {vn : Nat} {o : Oper} {us : List Upd} {lg : List Slot}
theorem fieldPlace_run {ad : Addr} {f : Field} {tf : TI} (ht : TIOK A.P f.type tf) (hz : tf.ty.size ≠ 0) : (fieldPlace ad f).run A.P w = .ok (ad.add f.offset) w := by
  obtain ⟨i, hi, hs, _, _⟩ := ht.info'
  have : ¬ (i.size = 0) := by rw [hs]; exact hz
  simp only [fieldPlace, sizeOf, typeInfo, program, Sem.run_bind, Sem.run, hi, Sem.run_pure, Result.andThen_ok, this, if_false]
theorem addrPlus_good {n : Nat} {c c' : Cell} {v : Value} (hg : GoodR A γ w Fr c v) (hc : addrPlus n c = some c') : ∃ ad, v = .pointer (some ad) ∧ GoodR A γ w Fr c' (.pointer (some (ad.add n))) := by
  cases c <;> simp [addrPlus] at hc
  · subst hc
    exact ⟨_, hg.1, by rw [add_plain]; exact ⟨rfl, rfl, hg.2.2.1, rfl⟩⟩
  · subst hc
    exact ⟨_, hg.1, by rw [add_plain]; exact ⟨rfl, rfl, hg.2.2.1, rfl⟩⟩
  · subst hc
    obtain ⟨ad, us0, hv, hz, hr, hcell⟩ := hg.1
    exact ⟨_, hv, ⟨ad, us0, by rw [add_add], hz, hr, hcell⟩, rfl, by simp [refs], rfl⟩
  · subst hc
    obtain ⟨g, m, cc, h1, h2, hv⟩ := hg.1
    exact ⟨_, hv, ⟨g, m, cc, h1, h2, by rw [add_plain, Nat.add_assoc]⟩, rfl, hg.2.2.1, rfl⟩
  · subst hc
    obtain ⟨h0, ad, cc, h1, hv⟩ := hg.1
    exact ⟨_, hv, ⟨h0, ad, cc, h1, by rw [add_add, Nat.add_assoc]⟩, rfl, by simp [refs], rfl⟩
theorem op_fieldAddr (h : Core A X γ Fr env a w) (hty : TyOK A.P X) (hd : dstOk X o) {T : TypeId} {x : Operand} {f : Nat} (ho : o.op = .fieldAddr T x f) (he : (opRd X vn o).eval env.get [] = some (us, lg)) : OpOK A X Fr o us env a w := by
  simp only [opRd, ho, Rd.eval_bind, Option.bind_eq_some_iff, Ctx.ti, Rd.eval_ofOpt, Option.map_eq_some_iff] at he
  obtain ⟨_, ⟨ti, k1, rfl⟩, _, ⟨p, k2, rfl⟩, _, ⟨tf, k3, rfl⟩, he⟩ := he
  have ht := hty T ti k1
  have htf := hty _ tf k3
  simp only at k2 he
  cases hz : Nat.beq tf.ty.size 0 with
  | true => rw [hz] at he; simp [Rd.eval] at he
  | false =>
    rw [hz] at he
    have hz : tf.ty.size ≠ 0 := fun e => by rw [e] at hz; cases hz
    simp only [cond_false, Rd.eval_bind, Option.bind_eq_some_iff, Rd.eval_ofOpt, Option.map_eq_some_iff] at he
    obtain ⟨⟨c, l1⟩, h1, _, ⟨c', h2, rfl⟩, h3⟩ := he
    rw [retOne_eval h3]
    obtain ⟨ad, hv, hg⟩ := addrPlus_good (rdCell_sound h h1) h2
    have hu := run_underlying (P := A.P) ht.und w
    unfold structOff at k2
    split at k2
    · rename_i fs hdesc
      simp only [Option.map_eq_some_iff] at k2
      obtain ⟨fd, hfd, rfl⟩ := k2
      rw [hdesc] at hu
      refine OpOK.value (v := .pointer (some (ad.add fd.offset))) ?_ (h.putCell hd hg)
      simp only [execOp, ho, Instr.fieldAt, Sem.run_bind, hu, Result.andThen_ok, hfd, hv, Instr.sureAddr, Sem.run_pure, fieldPlace_run htf hz]
    · cases k2
theorem op_field (h : Core A X γ Fr env a w) (hty : TyOK A.P X) (hd : dstOk X o) {T : TypeId} {x : Operand} {f : Nat} (ho : o.op = .field T x f) (he : (opRd X vn o).eval env.get [] = some (us, lg)) : OpOK A X Fr o us env a w := by
  simp only [opRd, ho, Rd.eval_bind, Option.bind_eq_some_iff, Ctx.ti, Rd.eval_ofOpt, Option.map_eq_some_iff] at he
  obtain ⟨_, ⟨ti, k1, rfl⟩, _, ⟨p, k2, rfl⟩, _, ⟨tf, k3, rfl⟩, he⟩ := he
  simp only at he
  cases hz : Nat.beq tf.ty.size 0 with
  | true => rw [hz] at he; simp [Rd.eval] at he
  | false =>
  rw [hz] at he
  have hz : tf.ty.size ≠ 0 := fun e => by rw [e] at hz; cases hz
  simp only [cond_false, Rd.eval_bind, Option.bind_eq_some_iff, Rd.eval_ofOpt, Option.map_eq_some_iff] at he
  obtain ⟨⟨av, l1⟩, h1, ⟨cs, l2⟩, h2, _, ⟨cs', h3, rfl⟩, h4⟩ := he
  simp only [Rd.eval, Option.some.injEq, Prod.mk.injEq] at h4
  obtain ⟨rfl, _⟩ := h4
  have ht := hty T ti k1
  have htf := hty _ tf k3
  simp only at k2 h3
  obtain ⟨vs, hv, r0, _⟩ := avCells_sound (rdOp_sound h h1) h2
  have hu := run_underlying (P := A.P) ht.und w
  unfold structOff at k2
  split at k2
  · rename_i fs hdesc
    simp only [Option.map_eq_some_iff] at k2
    obtain ⟨fd, hfd, rfl⟩ := k2
    rw [hdesc] at hu
    have hr := (r0.drop fd.offset).takeN h3
    obtain ⟨e1, e2⟩ := takeN_eq h3
    have hlen := r0.length
    have hfit : fd.offset + tf.ty.size ≤ vs.length := by
      simp only [List.length_drop] at e2
      omega
    · refine OpOK.value (v := mkVal tf.agg ((vs.drop fd.offset).take tf.ty.size)) ?_ (h.put hd (av := .val tf.agg cs') ⟨_, rfl, fun hg => by rw [← hr.length, List.length_take, List.length_drop, Nat.min_eq_left (by omega)]; exact htf.one hg, hr⟩ (.inl ⟨_, _, rfl⟩))
      simp only [execOp, ho, Instr.field, Sem.run_bind, hu, Result.andThen_ok, hfd, hv, asAgg, Sem.run_pure, run_part_at htf hfit]
  · cases k2
theorem RepI.cutI {Z : Nat → Prop} {t : Ty} {l : List t.den} {B : Option Addr} {n c : Nat} (h : RepI Z w (.sl t) l [.slice B n c]) {lo hi : Int} (h0 : 0 ≤ lo) (h1 : lo ≤ hi) (h2 : hi ≤ (n : Int)) :
    RepI Z w (.sl t) (cut l lo hi) [.slice (if c = lo.toNat then B else B.map (·.add (lo.toNat * t.size))) (hi.toNat - lo.toNat) (c - lo.toNat)] := by
  obtain ⟨B', c', hB, hlc, hel⟩ := h
  simp only [List.cons.injEq, Value.slice.injEq, and_true] at hB
  obtain ⟨rfl, rfl, rfl⟩ := hB
  have hl : (cut l lo hi).length = hi.toNat - lo.toNat := by simp [cut]; omega
  refine ⟨_, _, by rw [hl], by rw [hl]; omega, fun i x hx => ?_⟩
  have hi' : i < hi.toNat - lo.toNat := by rw [← hl]; exact (List.getElem?_eq_some_iff.1 hx).1
  have hx' : l[lo.toNat + i]? = some x := by
    simp only [cut, List.getElem?_drop, List.getElem?_take] at hx
    rwa [if_pos (by omega)] at hx
  obtain ⟨ad, rfl, hz, xs, hr, hc⟩ := hel _ _ hx'
  have hne : ¬ (c = lo.toNat) := by omega
  refine ⟨ad.add (lo.toNat * t.size), by simp [hne], by rw [add_zero_block]; exact hz, xs, hr, fun j v hv => ?_⟩
  rw [add_add, ← hc j v hv]
  congr 2
  rw [Nat.add_mul]; omega
theorem implodeN_rel (t : Ty) : ∀ (n : Nat) (cs : List Cell) (us : List Value) (l : List t.den), implodeN t n cs = some l → RelCs A γ w Fr cs us → ∃ u1 u2, us = u1 ++ u2 ∧ RepsL γ.Z w t l u1 ∧ l.length = n
  | 0, cs, us, l, h, hr => by simp [implodeN] at h; subst h; exact ⟨[], us, rfl, rfl, rfl⟩
  | n + 1, cs, us, l, h, hr => by
    simp only [implodeN] at h
    split at h
    · rename_i x r h1
      simp only [Option.map_eq_some_iff] at h
      obtain ⟨l', h2, rfl⟩ := h
      obtain ⟨u1, u2, rfl, r1, r2⟩ := implode_rel t cs us x r h1 hr
      obtain ⟨u3, u4, rfl, r3, r4⟩ := implodeN_rel t n r u2 l' h2 r2
      exact ⟨u1 ++ u3, u4, by rw [List.append_assoc], ⟨u1, u3, rfl, r1, r3⟩, by simp [r4]⟩
    · cases h
def srcBlock (γ : Gh) (g : Nat) : Src → Prop
  | .row x => (γ.φ x).ownBlock = some g
  | .arr b bv => γ.σ b bv = g
def zoneOf (γ : Gh) (ss : List Src) : Nat → Prop := fun g => γ.Z g ∨ ∃ s ∈ ss, srcBlock γ g s
theorem Core.barr_reads (h : Core A X γ Fr env a w) {b bv off n : Nat} {fz : Bool} {cs0 : List Cell} {t : Ty} {l : List t.den} (hb : env.get (.box b) = .box bv fz cs0)
    (hl : implodeN t n (VI.readCells (.box b) 0 off (cs0.drop off)) = some l) (Z' : Nat → Prop) (hZ : ∀ g, γ.Z g → Z' g) (hz : Z' (γ.σ b bv)) : RepI Z' w (.sl t) l [.slice (some ⟨γ.σ b bv, off, none⟩) n n] := by
  obtain ⟨k1, k2⟩ := h.boxCells hb off
  obtain ⟨u1, u2, hu, r1, r2⟩ := implodeN_rel t n _ _ l hl k1
  refine ⟨_, _, by rw [r2], by rw [r2]; exact Nat.le_refl _, fun i x hx => ?_⟩
  obtain ⟨xs, hr, hc⟩ := r1.at l u1 i x hx
  refine ⟨_, rfl, hz, xs, RepI.mono hZ (fun _ _ => rfl) _ _ _ hr, fun j v hv => ?_⟩
  rw [add_plain]
  refine k2 _ v ?_
  have := hc j v hv
  have hlt := (List.getElem?_eq_some_iff.1 this).1
  have : ((cellVals γ (.box b) 0 cs0.length).drop off)[i * t.size + j]? = some v := by rw [hu, List.getElem?_append_left hlt]; exact this
  rwa [List.getElem?_drop] at this
theorem slice_reads (h : Core A X γ Fr env a w) {c : Cell} {v : Value} (hg : GoodR A γ w Fr c v) {c' : Cell} {ss : List Src} {l0 l1 : List Slot} (hs : (solid c).eval env.get l0 = some ((c', ss), l1)) :
    ∀ (Z' : Nat → Prop), (∀ g, zoneOf γ ss g → Z' g) → RelCell A { γ with Z := Z' } w c' v ∧ (∀ t l p, c' = .imm t l p → RepI Z' w (.sl t) l [v]) := by
  intro Z' hZ'
  have hZ : ∀ g, γ.Z g → Z' g := fun g hz => hZ' g (.inl hz)
  have same : c' = c → RelCell A { γ with Z := Z' } w c' v ∧ (∀ t l p, c' = .imm t l p → RepI Z' w (.sl t) l [v]) := by
    intro e
    subst e
    have hm := hg.1.move (γ' := { γ with Z := Z' }) (w' := w) (fun _ _ _ => rfl) (fun _ _ _ => rfl) hZ (fun _ _ => rfl) (Nat.le_refl _) (fun _ _ _ => rfl)
    exact ⟨hm, fun t l p e => by subst e; exact hm.1⟩
  cases c with
  | view x ver =>
    simp only [solid, Rd.eval_bind, Option.bind_eq_some_iff] at hs
    obtain ⟨⟨⟨e, t, l⟩, l2⟩, h1, h2⟩ := hs
    simp only [Rd.eval, Option.some.injEq, Prod.mk.injEq] at h2
    obtain ⟨⟨rfl, rfl⟩, _⟩ := h2
    have hx := ownerAt_eval h1
    have hv : v = γ.φ x := hg.1.trans (h.own x e t ver l hx).1
    have hr : RepI Z' w (.sl t) l [v] := by
      rw [hv]
      exact (h.cell x _ hx).1.reads Z' hZ (fun g hgb => hZ' g (.inr ⟨_, List.mem_singleton.2 rfl, hgb⟩))
    exact ⟨⟨hr, by simp⟩, fun t' l' p e => by injection e with e1 e2 e3; subst e1; rw [← eq_of_heq e2]; exact hr⟩
  | sub x ver sz lo hi =>
    simp only [solid, Rd.eval_bind, Option.bind_eq_some_iff] at hs
    obtain ⟨⟨⟨e, t, l⟩, l2⟩, h1, h2⟩ := hs
    simp only at h2
    cases hsz : Nat.beq sz t.size with
    | false => rw [hsz] at h2; simp [Rd.eval] at h2
    | true =>
      rw [hsz] at h2
      have hsz := Nat.eq_of_beq_eq_true hsz
      subst hsz
      simp only [cond_true, Rd.eval, Option.some.injEq, Prod.mk.injEq] at h2
      obtain ⟨⟨rfl, rfl⟩, _⟩ := h2
      have hx := ownerAt_eval h1
      obtain ⟨B, n, c, hψ, k0, k1, k2, hv⟩ := hg.1
      have hφ : γ.φ x = .slice B n c := by rw [← (h.own x e t ver l hx).1]; exact hψ
      have hr0 : RepI Z' w (.sl t) l [γ.φ x] := (h.cell x _ hx).1.reads Z' hZ (fun g hgb => hZ' g (.inr ⟨_, List.mem_singleton.2 rfl, hgb⟩))
      rw [hφ] at hr0
      have hr : RepI Z' w (.sl t) (cut l lo hi) [v] := by rw [hv]; exact hr0.cutI k0 k1 k2
      exact ⟨⟨hr, by simp⟩, fun t' l' p e => by injection e with e1 e2 e3; subst e1; rw [← eq_of_heq e2]; exact hr⟩
  | barr b bv off n t =>
    simp only [solid, Rd.eval_bind, Option.bind_eq_some_iff, Rd.eval_ofOpt, Option.map_eq_some_iff] at hs
    obtain ⟨⟨⟨fz, cs0⟩, l2⟩, h1, _, ⟨l, h2, rfl⟩, h3⟩ := hs
    simp only [Rd.eval, Option.some.injEq, Prod.mk.injEq] at h3
    obtain ⟨⟨rfl, rfl⟩, _⟩ := h3
    have hb := boxAt_eval h1
    have hr : RepI Z' w (.sl t) l [v] := by
      rw [show v = _ from hg.1]
      exact h.barr_reads hb h2 Z' hZ (hZ' _ (.inr ⟨_, List.mem_singleton.2 rfl, rfl⟩))
    exact ⟨⟨hr, by simp⟩, fun t' l' p e => by injection e with e1 e2 e3; subst e1; rw [← eq_of_heq e2]; exact hr⟩
  | _ =>
    simp only [solid, Rd.eval, Option.some.injEq, Prod.mk.injEq] at hs
    exact same hs.1.1.symm
theorem listOf_sound (h : Core A X γ Fr env a w) {c : Cell} {v : Value} (hg : GoodR A γ w Fr c v) {p : Σ t : Ty, List t.den} {l0 l1 : List Slot} (hs : (listOf c).eval env.get l0 = some (p, l1)) :
    ∃ Z', (∀ g, γ.Z g → Z' g) ∧ RepI Z' w (.sl p.1) p.2 [v] := by
  cases c with
  | imm t l par =>
    simp only [listOf, Rd.eval, Option.some.injEq, Prod.mk.injEq] at hs
    obtain ⟨rfl, _⟩ := hs
    exact ⟨γ.Z, fun _ hz => hz, hg.1.1⟩
  | nil e t =>
    simp only [listOf, Rd.eval, Option.some.injEq, Prod.mk.injEq] at hs
    obtain ⟨rfl, _⟩ := hs
    refine ⟨γ.Z, fun _ hz => hz, none, 0, by rw [show v = _ from hg.1]; rfl, Nat.le_refl _, fun i x hx => by simp at hx⟩
  | view x ver =>
    simp only [listOf, Rd.eval_bind, Option.bind_eq_some_iff] at hs
    obtain ⟨⟨⟨e, t, l⟩, l2⟩, h1, h2⟩ := hs
    simp only [Rd.eval, Option.some.injEq, Prod.mk.injEq] at h2
    obtain ⟨rfl, _⟩ := h2
    have := (slice_reads h hg (c' := .imm t l none) (ss := [.row x]) (l0 := l0) (by simp only [solid, Rd.eval_bind, h1, Option.bind_some]; rfl) _ (fun _ hz => hz)).2 t l none rfl
    exact ⟨_, fun g hz => .inl hz, this⟩
  | sub x ver sz lo hi =>
    simp only [listOf, Rd.eval_bind, Option.bind_eq_some_iff] at hs
    obtain ⟨⟨⟨e, t, l⟩, l2⟩, h1, h2⟩ := hs
    simp only at h2
    cases hsz : Nat.beq sz t.size with
    | false => rw [hsz] at h2; simp [Rd.eval] at h2
    | true =>
      rw [hsz] at h2
      simp only [cond_true, Rd.eval, Option.some.injEq, Prod.mk.injEq] at h2
      obtain ⟨rfl, _⟩ := h2
      have := (slice_reads h hg (c' := .imm t (cut l lo hi) none) (ss := [.row x]) (l0 := l0) (by simp only [solid, Rd.eval_bind, h1, Option.bind_some, hsz, cond_true]; rfl) _ (fun _ hz => hz)).2 t _ none rfl
      exact ⟨_, fun g hz => .inl hz, this⟩
  | barr b bv off n t =>
    simp only [listOf, Rd.eval_bind, Option.bind_eq_some_iff, Rd.eval_ofOpt, Option.map_eq_some_iff] at hs
    obtain ⟨⟨⟨fz, cs0⟩, l2⟩, h1, _, ⟨l, h2, rfl⟩, h3⟩ := hs
    simp only [Rd.eval, Option.some.injEq, Prod.mk.injEq] at h3
    obtain ⟨rfl, _⟩ := h3
    have := (slice_reads h hg (c' := .imm t l none) (ss := [.arr b bv]) (l0 := l0) (by simp only [solid, Rd.eval_bind, h1, Option.bind_some, Rd.eval_ofOpt, h2, Option.map_some]; rfl) _ (fun _ hz => hz)).2 t l none rfl
    exact ⟨_, fun g hz => .inl hz, this⟩
  | _ => simp [listOf, Rd.eval] at hs
theorem foldl_push_aux : ∀ (l : List Int) (s : ByteArray), (l.foldl (fun r n => r.push (UInt8.ofNat n.toNat)) s).data.toList = s.data.toList ++ l.map (fun (n : Int) => n.toNat.toUInt8)
  | [], s => by simp
  | n :: r, s => by
    rw [List.foldl_cons, foldl_push_aux r]
    simp [ByteArray.push]
theorem foldl_push (l : List Int) : l.foldl (fun r n => r.push (UInt8.ofNat n.toNat)) ByteArray.empty = ⟨(l.map fun (n : Int) => n.toNat.toUInt8).toArray⟩ := by
  have := foldl_push_aux l ByteArray.empty
  apply ByteArray.ext
  apply Array.ext'
  rw [this]
  simp [ByteArray.empty, ByteArray.emptyWithCapacity]
  rfl
end
end Go.VI
namespace Go.VI
open Go.RowKit
section
variable {A : Fix} {X : Ctx} {γ : Gh} {Fr : Nat → Prop} {env : Env} {a : Act} {w w' : World} {vn : Nat} {o : Oper} {us : List Upd} {lg : List Slot}
theorem run_sizeOf_ti {T : TypeId} {ti : TI} (ht : TIOK A.P T ti) : (sizeOf T).run A.P w = .ok ti.ty.size w := by
  obtain ⟨i, hi, hs, _, _⟩ := ht.info'
  simp only [sizeOf, typeInfo, program, Sem.run_bind, Sem.run, hi, Sem.run_pure, Result.andThen_ok, hs]
theorem addrIdx_good {m sz : Nat} {i : Int} {c c' : Cell} {v : Value} (hg : GoodR A γ w Fr c v) (hi : inB i m = true) (hc : addrIdx m sz i c = some c') :
    ∃ ad, v = .pointer (some ad) ∧ GoodR A γ w Fr c' (.pointer (some (ad.add (i.toNat * sz)))) := by
  cases c <;> simp [addrIdx] at hc
  · subst hc
    exact ⟨_, hg.1, by rw [add_plain]; exact ⟨⟨hi, rfl⟩, rfl, hg.2.2.1, rfl⟩⟩
  · subst hc
    exact ⟨_, hg.1, by rw [add_plain]; exact ⟨⟨hi, rfl⟩, rfl, by simp [refs], rfl⟩⟩
  · subst hc
    obtain ⟨ad, us0, hv, hz, hr, hcell⟩ := hg.1
    exact ⟨_, hv, ⟨hi, ad, us0, by rw [add_add], hz, hr, hcell⟩, rfl, by simp [refs], rfl⟩
  · subst hc
    obtain ⟨g, n, cc, h1, h2, h3⟩ := hg.1
    exact ⟨_, h3, ⟨g, n, cc, h1, h2, hi, by rw [add_plain]⟩, rfl, hg.2.2.1, rfl⟩
  · subst hc
    obtain ⟨h0, ad, cc, h1, h2⟩ := hg.1
    exact ⟨_, h2, ⟨h0, hi, ad, cc, h1, by rw [add_add]⟩, rfl, by simp [refs], rfl⟩
theorem splitAddr_good {b bv off sz : Nat} {i : Int} {v : Value} (hg : GoodR A γ w Fr (.addr b bv off) v) : ∀ (n k : Nat) {l l' : List Slot} {c' : Cell}, (k : Int) ≤ i → i < (k : Int) + (n : Int) → (splitAddr b bv off sz i k n).eval env.get l = some (c', l') →
    ∃ ad, v = .pointer (some ad) ∧ GoodR A γ w Fr c' (.pointer (some (ad.add (i.toNat * sz))))
  | 0, k, l, l', c', h0, h1, h => by simp [splitAddr, Rd.eval] at h
  | 1, k, l, l', c', h0, h1, h => by
    simp only [splitAddr, Rd.eval, Option.some.injEq, Prod.mk.injEq] at h
    obtain ⟨rfl, _⟩ := h
    have e : i.toNat = k := by omega
    rw [e]
    exact ⟨_, hg.1, by rw [add_plain]; exact ⟨rfl, rfl, hg.2.2.1, rfl⟩⟩
  | n + 2, k, l, l', c', h0, h1, h => by
    simp only [splitAddr, Rd.eval] at h
    by_cases hi : i = (k : Int)
    · rw [decide_eq_true hi] at h
      simp only [cond_true, Option.some.injEq, Prod.mk.injEq] at h
      obtain ⟨rfl, _⟩ := h
      have e : i.toNat = k := by omega
      rw [e]
      exact ⟨_, hg.1, by rw [add_plain]; exact ⟨rfl, rfl, hg.2.2.1, rfl⟩⟩
    · rw [decide_eq_false hi] at h
      simp only [cond_false] at h
      exact splitAddr_good hg (n + 1) (k + 1) (by omega) (by omega) h
theorem addrIdxRd_good {rows : Bool} {m sz : Nat} {i : Int} {c c' : Cell} {v : Value} {l l' : List Slot} (hg : GoodR A γ w Fr c v) (hi : inB i m = true) (hc : (addrIdxRd rows m sz i c).eval env.get l = some (c', l')) :
    ∃ ad, v = .pointer (some ad) ∧ GoodR A γ w Fr c' (.pointer (some (ad.add (i.toNat * sz)))) := by
  have hin : 0 ≤ i ∧ i < (m : Int) := by have := inB_iff.1 hi; omega
  cases rows with
  | false =>
    simp only [addrIdxRd, Rd.eval_ofOpt, Option.map_eq_some_iff, Prod.mk.injEq] at hc
    obtain ⟨c1, h1, rfl, _⟩ := hc
    exact addrIdx_good hg hi h1
  | true =>
    cases c with
    | addr b bv off => exact splitAddr_good hg m 0 (by omega) (by omega) hc
    | _ => simp [addrIdxRd, Rd.eval] at hc
theorem op_indexAddr (h : Core A X γ Fr env a w) (hty : TyOK A.P X) (hd : dstOk X o) {T : TypeId} {x ix : Operand} (ho : o.op = .indexAddr T x ix) (he : (opRd X vn o).eval env.get [] = some (us, lg)) : OpOK A X Fr o us env a w := by
  simp only [opRd, ho, Rd.eval_bind, Option.bind_eq_some_iff, Ctx.ti, Rd.eval_ofOpt, Option.map_eq_some_iff] at he
  obtain ⟨_, ⟨ti, k1, rfl⟩, ⟨⟨k, i⟩, l1⟩, h1, h2⟩ := he
  have ht := hty T ti k1
  have hi := rdInt_sound h h1
  simp only at hi h2
  have hu := run_underlying (P := A.P) ht.und w
  split at h2
  ·
    rename_i n e hdesc
    simp only [Rd.eval_bind, Option.bind_eq_some_iff, Rd.eval_ofOpt, Option.map_eq_some_iff] at h2
    obtain ⟨_, ⟨te, k2, rfl⟩, ⟨c, l2⟩, h3, h4⟩ := h2
    have hte := hty e te k2
    simp only [Rd.eval] at h4
    cases hin : inB i n with
    | false => rw [hin] at h4; simp at h4
    | true =>
      rw [hin] at h4
      simp only [cond_true, Rd.eval_bind, Option.bind_eq_some_iff] at h4
      obtain ⟨⟨c', l4⟩, h5, h6⟩ := h4
      rw [retOne_eval h6]
      obtain ⟨ad, hv, hg⟩ := addrIdxRd_good (rdCell_sound h h3) hin h5
      rw [hdesc] at hu
      have hin' : 0 ≤ i ∧ i < (n : Int) := by have := inB_iff.1 hin; omega
      refine OpOK.value (v := .pointer (some (ad.add (i.toNat * te.ty.size)))) ?_ (h.putCell hd hg)
      simp only [execOp, ho, Instr.indexAt, hi, hv, asIntOf, Sem.run_bind, Sem.run_pure, Result.andThen_ok, hu, Instr.sureAddr, hin', and_self, if_true, run_sizeOf_ti hte]
  · rename_i e hdesc
    simp only [Rd.eval_bind, Option.bind_eq_some_iff, Rd.eval_ofOpt, Option.map_eq_some_iff] at h2
    obtain ⟨_, ⟨te, k2, rfl⟩, ⟨c, l2⟩, h3, h4⟩ := h2
    have hte := hty e te k2
    have hgc := rdCell_sound h h3
    rw [hdesc] at hu
    simp only at h4
    have fin : ∀ (B : Addr) (n cap : Nat) (c' : Cell), a.eval x = .slice (some B) n cap → inB i n = true → GoodR A γ w Fr c' (.pointer (some (B.add (i.toNat * te.ty.size)))) → OpOK A X Fr o (dstSet o (.val false [c'])) env a w := by
      intro B n cap c' hx hin hg
      have hin' : 0 ≤ i ∧ i < (n : Int) := by have := inB_iff.1 hin; omega
      refine OpOK.value (v := .pointer (some (B.add (i.toNat * te.ty.size)))) ?_ (h.putCell hd hg)
      simp only [execOp, ho, Instr.indexAt, hi, hx, asIntOf, Sem.run_bind, Sem.run_pure, Result.andThen_ok, hu, hin', and_self, if_true, run_sizeOf_ti hte]
    split at h4
    · rename_i y ver
      simp only [Rd.eval_bind, Option.bind_eq_some_iff] at h4
      obtain ⟨⟨⟨e', t, l⟩, l3⟩, h5, h6⟩ := h4
      have hx := ownerAt_eval h5
      simp only at h6 hx
      cases hs : Nat.beq te.ty.size t.size with
      | false => rw [hs] at h6; simp [Rd.eval] at h6
      | true =>
        rw [hs] at h6
        have hs := Nat.eq_of_beq_eq_true hs
        simp only [cond_true, Rd.eval] at h6
        cases hin : inB i l.length with
        | false => rw [hin] at h6; simp at h6
        | true =>
          rw [hin] at h6
          simp only [cond_true] at h6
          rw [retOne_eval h6]
          have hv : a.eval x = γ.ψ y ver := hgc.1
          have hψ : γ.ψ y ver = γ.φ y := (h.own y _ _ _ _ hx).1
          obtain ⟨_, xs, ho', _⟩ := (h.cell y _ hx).1
          rcases ho'.2 with ⟨_, hn⟩ | ⟨g, cap, cur, fz, hsl, _⟩
          · have := inB_iff.1 hin; omega
          · have hvs : γ.ψ y ver = .slice (some ⟨g, 0, none⟩) l.length cap := hψ.trans hsl
            refine fin _ _ _ _ (hv.trans hvs) hin ⟨⟨g, l.length, cap, hvs, hin, ?_⟩, rfl, hgc.2.2.1, rfl⟩
            rw [add_plain, hs]; simp
    · rename_i t l p
      cases hs : Nat.beq te.ty.size t.size with
      | false => rw [hs] at h4; simp [Rd.eval] at h4
      | true =>
        rw [hs] at h4
        have hs := Nat.eq_of_beq_eq_true hs
        simp only [cond_true, Rd.eval] at h4
        cases hin : inB i l.length with
        | false => rw [hin] at h4; simp at h4
        | true =>
          rw [hin] at h4
          simp only [cond_true] at h4
          rw [retOne_eval h4]
          have hr := hgc.1.1
          obtain ⟨B, c', hB, hlc, hel⟩ := hr
          simp only [List.cons.injEq, and_true] at hB
          obtain ⟨ad, rfl, _⟩ := hel _ _ (nth_get hin)
          have hr := hgc.1.1
          rw [hB] at hr
          refine fin _ _ _ _ hB hin ⟨⟨hin, ad, c', hr, ?_⟩, rfl, by simp [refs], rfl⟩
          rw [hs]; simp
    · simp [Rd.eval] at h4
  · simp [Rd.eval] at h2
end
end Go.VI
namespace Go.VI
open Go.RowKit
section
variable {A : Fix} {X : Ctx} {γ : Gh} {Fr : Nat → Prop} {env : Env} {a : Act} {w w' : World} {vn : Nat} {o : Oper} {us : List Upd} {lg : List Slot}
def BoundIs (a : Act) (x : Option Operand) (d n : Int) : Prop :=
  match x with
  | some l => ∃ k, a.eval l = .int k n
  | none => n = d
theorem rdBound_sound (h : Core A X γ Fr env a w) {x : Option Operand} {d n : Int} {l0 l1 : List Slot} (he : (rdBound X x d).eval env.get l0 = some (n, l1)) : BoundIs a x d n := by
  unfold rdBound at he
  split at he
  · simp only [Rd.eval_bind, Option.bind_eq_some_iff] at he
    obtain ⟨⟨p, l2⟩, h1, h2⟩ := he
    simp only [Rd.eval, Option.some.injEq, Prod.mk.injEq] at h2
    obtain ⟨rfl, _⟩ := h2
    exact ⟨_, rdInt_sound h h1⟩
  · simp only [Rd.eval, Option.some.injEq, Prod.mk.injEq] at he
    exact he.1.symm
theorem run_bounds {isSlice : Bool} {len cap : Nat} {lo hi : Option Operand} {l h : Int} (h1 : BoundIs a lo 0 l) (h2 : BoundIs a hi len h) (k0 : 0 ≤ l) (k1 : l ≤ h) (k2 : h ≤ (cap : Int)) :
    (Instr.sliceBounds isSlice len cap (lo.map a.eval) (hi.map a.eval) none).run A.P w = .ok (l.toNat, h.toNat, cap) w := by
  have hh : ∀ (y : Nat) (k : IntKind) (i : Int) (code : BoundsCode), 0 ≤ i → i ≤ (y : Int) → (Instr.sliceBound (.int k i) y code).run A.P w = .ok i.toNat w := fun y k i code a b => by simp [Instr.sliceBound, asIntOf, a, b]
  have hlh : l ≤ ((h.toNat : Nat) : Int) := by omega
  cases lo with
  | none =>
    have h1 : l = 0 := h1
    subst h1
    cases hi with
    | none =>
      have h2 : h = len := h2
      subst h2
      simp [Instr.sliceBounds]
    | some x =>
      obtain ⟨k, hk⟩ := h2
      simp [Instr.sliceBounds, hk, hh cap k h _ (by omega) k2, Result.andThen_ok]
  | some y =>
    obtain ⟨k', hk'⟩ := h1
    cases hi with
    | none =>
      have h2 : h = len := h2
      subst h2
      simp [Instr.sliceBounds, hk', hh len k' l _ k0 k1, Result.andThen_ok]
    | some x =>
      obtain ⟨k, hk⟩ := h2
      simp [Instr.sliceBounds, hk, hk', Sem.run_bind, hh cap k h _ (by omega) k2, hh h.toNat k' l _ k0 hlh, Result.andThen_ok]
theorem extract_str (s : List UInt8) (l h : Nat) : (⟨s.toArray⟩ : ByteArray).extract l h = ⟨((s.take h).drop l).toArray⟩ := by
  apply ByteArray.ext
  simp only [ByteArray.data_extract, List.extract_toArray, List.extract_eq_take_drop]
  rw [List.drop_take]
theorem op_slice (h : Core A X γ Fr env a w) (hty : TyOK A.P X) (hd : dstOk X o) {T : TypeId} {x : Operand} {lo hi mx : Option Operand} (ho : o.op = .slice T x lo hi mx) (he : (opRd X vn o).eval env.get [] = some (us, lg)) : OpOK A X Fr o us env a w := by
  simp only [opRd, ho, Rd.eval_bind, Option.bind_eq_some_iff, Ctx.ti, Rd.eval_ofOpt, Option.map_eq_some_iff] at he
  obtain ⟨_, ⟨ti, k1, rfl⟩, he⟩ := he
  have ht := hty T ti k1
  have hu := run_underlying (P := A.P) ht.und w
  cases mx with
  | some m => simp [Rd.eval] at he
  | none =>
  simp only [Rd.eval_bind, Option.bind_eq_some_iff] at he
  obtain ⟨⟨c, l1⟩, h1, ⟨l, l2⟩, h2, h3⟩ := he
  have hg := rdCell_sound h h1
  have hl := rdBound_sound h h2
  simp only at h3
  split at h3
  · rename_i s hdesc
    simp only [Rd.eval_bind, Option.bind_eq_some_iff] at h3
    obtain ⟨⟨r, l3⟩, h4, h5⟩ := h3
    have hr := rdBound_sound h h4
    simp only [Rd.eval] at h5
    cases hb : (decide (0 ≤ l) && decide (l ≤ r) && decide (r ≤ (s.length : Int))) with
    | false => rw [hb] at h5; simp at h5
    | true =>
      rw [hb] at h5
      simp only [cond_true] at h5
      simp only [Bool.and_eq_true, decide_eq_true_eq] at hb
      rw [retOne_eval h5]
      rw [hdesc] at hu
      have hx : a.eval x = .string ⟨s.toArray⟩ := hg.1
      refine OpOK.value (v := .string ⟨(cut s l r).toArray⟩) ?_ (h.putCell hd (good_str _))
      have hbd := run_bounds (A := A) (w := w) (isSlice := false) (len := s.length) (cap := s.length) hl hr hb.1.1 hb.1.2 hb.2
      simp only [execOp, ho, Instr.sliceAt, Instr.slice, Sem.run_bind, hu, Result.andThen_ok, hx, Option.map_none, Option.isSome_none, Bool.false_eq_true, if_false, size_str, hbd, Sem.run_pure, extract_str, cut]
  · rename_i n e b bv off hdesc
    split at h3
    · simp only [Rd.eval_bind, Option.bind_eq_some_iff, Rd.eval_ofOpt, Option.map_eq_some_iff] at h3
      obtain ⟨_, ⟨te, k2, rfl⟩, h4⟩ := h3
      have hte := hty e te k2
      rw [retOne_eval h4]
      rw [hdesc] at hu
      have hx : a.eval x = .pointer (some ⟨γ.σ b bv, off, none⟩) := hg.1
      have hbd := run_bounds (A := A) (w := w) (a := a) (isSlice := false) (len := n) (cap := n) (lo := none) (hi := none) (l := 0) (h := n) rfl rfl (Int.le_refl _) (by omega) (Int.le_refl _)
      simp only [Option.map_none, Int.toNat_zero, Int.toNat_natCast] at hbd
      refine OpOK.value (v := .slice (some ⟨γ.σ b bv, off, none⟩) n n) ?_ (h.putCell hd ⟨rfl, rfl, fun r hr => hg.2.2.1 r hr, rfl⟩)
      simp only [execOp, ho, Instr.sliceAt, Sem.run_bind, hu, Result.andThen_ok, hx, Option.map_none, Instr.sureAddr, Sem.run_pure, hbd, run_sizeOf_ti hte, Nat.sub_zero, Nat.zero_mul, add_plain, Nat.add_zero, ite_self]
    · simp [Rd.eval] at h3
  · rename_i e y ver hdesc
    simp only [Rd.eval_bind, Option.bind_eq_some_iff, Rd.eval_ofOpt, Option.map_eq_some_iff] at h3
    obtain ⟨_, ⟨te, k2, rfl⟩, ⟨⟨e', t, s⟩, l3⟩, h4, h5⟩ := h3
    have hte := hty e te k2
    have hy := ownerAt_eval h4
    simp only at h5 hy
    cases hs : Nat.beq te.ty.size t.size with
    | false => rw [hs] at h5; simp [Rd.eval] at h5
    | true =>
      rw [hs] at h5
      have hs := Nat.eq_of_beq_eq_true hs
      simp only [cond_true, Rd.eval_bind, Option.bind_eq_some_iff] at h5
      obtain ⟨⟨r, l4⟩, h6, h7⟩ := h5
      have hr := rdBound_sound h h6
      simp only [Rd.eval] at h7
      cases hb : (decide (0 ≤ l) && decide (l ≤ r) && decide (r ≤ (s.length : Int))) with
      | false => rw [hb] at h7; simp at h7
      | true =>
        rw [hb] at h7
        simp only [cond_true] at h7
        simp only [Bool.and_eq_true, decide_eq_true_eq] at hb
        rw [retOne_eval h7]
        rw [hdesc] at hu
        obtain ⟨B, c', hsl, hlc⟩ := OwnV.slice (h.cell y _ hy).1
        have hψ : γ.ψ y ver = .slice B s.length c' := (h.own y _ _ _ _ hy).1.trans hsl
        have hx : a.eval x = .slice B s.length c' := (show a.eval x = γ.ψ y ver from hg.1).trans hψ
        have hbd := run_bounds (A := A) (w := w) (isSlice := true) (len := s.length) (cap := c') hl hr hb.1.1 hb.1.2 (by omega)
        refine OpOK.value (v := .slice (if c' = l.toNat then B else B.map (·.add (l.toNat * t.size))) (r.toNat - l.toNat) (c' - l.toNat)) ?_ (h.putCell hd ⟨⟨B, _, c', hψ, hb.1.1, hb.1.2, hb.2, rfl⟩, rfl, fun r hr => hg.2.2.1 r hr, rfl⟩)
        simp only [execOp, ho, Instr.sliceAt, Instr.slice, Sem.run_bind, hu, Result.andThen_ok, hx, Option.map_none, hbd, Sem.run_pure, run_sizeOf_ti hte, hs]
  · rename_i e t s p hdesc
    simp only [Rd.eval_bind, Option.bind_eq_some_iff, Rd.eval_ofOpt, Option.map_eq_some_iff] at h3
    obtain ⟨_, ⟨te, k2, rfl⟩, h5⟩ := h3
    have hte := hty e te k2
    simp only at h5
    cases hs : Nat.beq te.ty.size t.size with
    | false => rw [hs] at h5; simp [Rd.eval] at h5
    | true =>
      rw [hs] at h5
      have hs := Nat.eq_of_beq_eq_true hs
      simp only [cond_true, Rd.eval_bind, Option.bind_eq_some_iff] at h5
      obtain ⟨⟨r, l4⟩, h6, h7⟩ := h5
      have hr := rdBound_sound h h6
      simp only [Rd.eval] at h7
      cases hb : (decide (0 ≤ l) && decide (l ≤ r) && decide (r ≤ (s.length : Int))) with
      | false => rw [hb] at h7; simp at h7
      | true =>
        rw [hb] at h7
        simp only [cond_true] at h7
        simp only [Bool.and_eq_true, decide_eq_true_eq] at hb
        rw [retOne_eval h7]
        rw [hdesc] at hu
        have hrep := hg.1.1
        obtain ⟨B, c', hB, hlc, hel⟩ := hrep
        simp only [List.cons.injEq, and_true] at hB
        have hrep := hg.1.1
        rw [hB] at hrep
        have hbd := run_bounds (A := A) (w := w) (isSlice := true) (len := s.length) (cap := c') hl hr hb.1.1 hb.1.2 (by omega)
        refine OpOK.value (v := .slice (if c' = l.toNat then B else B.map (·.add (l.toNat * t.size))) (r.toNat - l.toNat) (c' - l.toNat)) ?_ (h.putCell hd ⟨⟨hrep.cutI hb.1.1 hb.1.2 hb.2, by simp⟩, rfl, by simp [refs], rfl⟩)
        simp only [execOp, ho, Instr.sliceAt, Instr.slice, Sem.run_bind, hu, Result.andThen_ok, hB, Option.map_none, hbd, Sem.run_pure, run_sizeOf_ti hte, hs]
  · simp [Rd.eval] at h3
end
end Go.VI
namespace Go.VI
open Go.RowKit
section
variable {A : Fix} {X : Ctx} {γ : Gh} {Fr : Nat → Prop} {env : Env} {a : Act} {w w' : World} {vn : Nat} {o : Oper} {us : List Upd} {lg : List Slot}
theorem RelCs.splice {cs new : List Cell} {us vs : List Value} {off : Nat} (h1 : RelCs A γ w Fr cs us) (h2 : RelCs A γ w Fr new vs) (hf : off + new.length ≤ cs.length) :
    RelCs A γ w Fr (spliceAt cs off new) (spliceAt us off vs) := by
  have l1 := h1.length
  have l2 := h2.length
  refine RelCs.of_get (by rw [spliceAt_length _ _ _ hf, spliceAt_length _ _ _ (by omega), l1]) fun j c u hc hu => ?_
  rw [spliceAt_get _ _ _ _ hf] at hc
  rw [spliceAt_get _ _ _ _ (by omega), l2] at hu
  split at hc
  · rename_i hh
    rw [if_pos hh] at hu
    obtain ⟨u', hu', hg⟩ := h2.get hc
    rw [hu] at hu'; injection hu' with hu'; subst hu'; exact hg
  · rename_i hh
    rw [if_neg hh] at hu
    obtain ⟨u', hu', hg⟩ := h1.get hc
    rw [hu] at hu'; injection hu' with hu'; subst hu'; exact hg
theorem foldl_set_get (off : Nat) : ∀ (vs : List Value) (k : Nat) (us : Array Value) (i : Nat), off + k + vs.length ≤ us.size →
    ((vs.zipIdx k).foldl (fun cs p => cs.setIfInBounds (off + p.2) p.1) us)[i]? = if off + k ≤ i ∧ i < off + k + vs.length then vs[i - (off + k)]? else us[i]?
  | [], k, us, i, _ => by
    rw [if_neg (by simp only [List.length_nil]; omega)]; rfl
  | v :: r, k, us, i, hf => by
    simp only [List.length_cons] at hf
    rw [List.zipIdx_cons, List.foldl_cons, foldl_set_get off r (k + 1) _ i (by simp only [Array.size_setIfInBounds]; omega)]
    simp only [List.length_cons]
    by_cases h1 : i = off + k
    · subst h1
      rw [if_neg (by omega), if_pos (by omega)]
      simp [Array.getElem?_setIfInBounds]
      omega
    · by_cases h2 : off + k ≤ i ∧ i < off + k + (r.length + 1)
      · rw [if_pos (by omega), if_pos h2]
        rw [show i - (off + k) = (i - (off + (k + 1))) + 1 by omega, List.getElem?_cons_succ]
      · rw [if_neg (by omega), if_neg h2]
        simp [Ne.symm h1]
theorem foldl_splice (off : Nat) (us vs : List Value) (hf : off + vs.length ≤ us.length) :
    vs.toArray.zipIdx.foldl (fun cs (p : Value × Nat) => cs.setIfInBounds (off + p.2) p.1) us.toArray = (spliceAt us off vs).toArray := by
  have hl : vs.toArray.zipIdx = (vs.zipIdx).toArray := by simp
  rw [hl, List.foldl_toArray]
  apply Array.ext_getElem?
  intro i
  have := foldl_set_get off vs 0 us.toArray i (by simpa using hf)
  rw [this, List.getElem?_toArray, List.getElem?_toArray, spliceAt_get _ _ _ _ hf]
  simp
def PartsRel (A : Fix) (γ : Gh) (w : World) (Fr : Nat → Prop) : List (Nat × List Cell) → List (Nat × Value) → Prop
  | [], vs => vs = []
  | p :: r, vs => ∃ v vs', vs = (p.1, v) :: vs' ∧ (∃ us, v.cells = us.toArray ∧ RelCs A γ w Fr p.2 us) ∧ PartsRel A γ w Fr r vs'
theorem rdParts_sound (h : Core A X γ Fr env a w) {T : Nat → TypeId} : ∀ (ps : List (Nat × Operand)) {qs : List (Nat × List Cell)} {l0 l1 : List Slot}, (rdParts X T ps).eval env.get l0 = some (qs, l1) →
    PartsRel A γ w Fr qs (ps.map fun p => (p.1, a.eval p.2))
  | [], qs, l0, l1, he => by
    simp only [rdParts, Rd.eval, Option.some.injEq, Prod.mk.injEq] at he
    obtain ⟨rfl, _⟩ := he
    rfl
  | (i, x) :: r, qs, l0, l1, he => by
    simp only [rdParts, Rd.eval_bind, Option.bind_eq_some_iff] at he
    obtain ⟨⟨av, l2⟩, h1, h2⟩ := he
    have hr := rdOp_sound h h1
    cases av with
    | val g cs =>
      simp only [Rd.eval_bind, Option.bind_eq_some_iff] at h2
      obtain ⟨⟨q, l3⟩, h3, h4⟩ := h2
      simp only [Rd.eval, Option.some.injEq, Prod.mk.injEq] at h4
      obtain ⟨rfl, _⟩ := h4
      obtain ⟨vs, hv, hg, hcs⟩ := hr
      exact ⟨_, _, rfl, ⟨vs, by rw [hv]; exact mkVal_cells hcs.one (fun hgf => by rw [hcs.length]; exact hg hgf), hcs⟩, rdParts_sound h r h3⟩
    | skip => simp [Rd.eval] at h2
    | undef => simp [Rd.eval] at h2
    | tup l => simp [Rd.eval] at h2
    | box _ _ _ => simp [Rd.eval] at h2
    | num _ => simp [Rd.eval] at h2
theorem fillParts_sound {place place' : Nat → Option (Nat × Nat)} (hp : ∀ i p, place i = some p → place' i = some p) : ∀ (qs : List (Nat × List Cell)) (vs : List (Nat × Value)) (cs cs' : List Cell) (us : List Value),
    PartsRel A γ w Fr qs vs → RelCs A γ w Fr cs us → fillParts place cs qs = some cs' → ∃ us', Instr.fill place' us.toArray vs = some us'.toArray ∧ RelCs A γ w Fr cs' us' ∧ cs'.length = cs.length
  | [], vs, cs, cs', us, h1, h2, h3 => by
    rw [show vs = [] from h1]
    simp only [fillParts, Option.some.injEq] at h3
    subst h3
    exact ⟨us, rfl, h2, rfl⟩
  | (i, new) :: r, vs, cs, cs', us, h1, h2, h3 => by
    obtain ⟨v, vs', rfl, ⟨ws, hw, hn⟩, hr⟩ := h1
    simp only at hn
    simp only [fillParts] at h3
    cases hpl : place i with
    | none => rw [hpl] at h3; cases h3
    | some p =>
      obtain ⟨off, size⟩ := p
      rw [hpl] at h3
      simp only at h3
      cases hc : (Nat.beq new.length size && Nat.ble (off + size) cs.length) with
      | false => rw [hc] at h3; simp at h3
      | true =>
        rw [hc] at h3
        simp only [cond_true] at h3
        simp only [Bool.and_eq_true] at hc
        have c1 := Nat.eq_of_beq_eq_true hc.1
        have c2 := Nat.le_of_ble_eq_true hc.2
        have l1 := h2.length
        have l2 := hn.length
        obtain ⟨us', k1, k2, k3⟩ := fillParts_sound hp r vs' _ cs' (spliceAt us off ws) hr (h2.splice hn (by omega)) h3
        refine ⟨us', ?_, k2, by rw [k3, spliceAt_length _ _ _ (by omega)]⟩
        simp only [Instr.fill, hp i _ hpl, hw, List.size_toArray]
        rw [if_neg (by simp; omega), foldl_splice off us ws (by omega)]
        exact k1
theorem zeros_rel : ∀ (cs : List Cell), (∀ c ∈ cs, zcell c = true) → RelCs A γ w Fr cs (cs.map cellV)
  | [], _ => rfl
  | c :: r, h => by
    obtain ⟨k1, k2, k3, k4⟩ := zcell_rel (A := A) (γ := γ) (w := w) (h c (by simp))
    exact ⟨_, _, rfl, ⟨k1, k2, by simp [k3], k4⟩, zeros_rel r fun c hc => h c (by simp [hc])⟩
theorem places_get {fs : List Field} {l : List (Nat × Nat)} (h : places X fs = some l) (hty : TyOK A.P X) :
    (fs.mapM fun f => (do pure (f.offset, ← sizeOf f.type) : Sem (Nat × Nat))).run A.P w = .ok l w := by
  induction fs generalizing l with
  | nil => simp only [places, Option.some.injEq] at h; subst h; rfl
  | cons f r ih =>
    simp only [places] at h
    split at h
    · rename_i tf l' h1 h2
      injection h with h
      subst h
      simp only [List.mapM_cons, Sem.run_bind, run_sizeOf_ti (w := w) (hty _ _ h1), Result.andThen_ok, Sem.run_pure, ih h2]
    · cases h
theorem op_build (h : Core A X γ Fr env a w) (hty : TyOK A.P X) (hd : dstOk X o) {T : TypeId} {ps : Array (Nat × Operand)} (ho : o.op = .build T ps) (he : (opRd X vn o).eval env.get [] = some (us, lg)) : OpOK A X Fr o us env a w := by
  simp only [opRd, ho, Rd.eval_bind, Option.bind_eq_some_iff, Ctx.ti, Rd.eval_ofOpt, Option.map_eq_some_iff] at he
  obtain ⟨_, ⟨ti, k1, rfl⟩, he⟩ := he
  have ht := hty T ti k1
  have hu := run_underlying (P := A.P) ht.und w
  have hz := run_zeroValue (w := w) ht
  have hzc := zero_cells ht
  have hzr : RelCs A γ w Fr ti.zero (ti.zero.map cellV) := zeros_rel _ ht.zcells
  have hmap : (ps.map fun (p : Nat × Operand) => (p.1, a.eval p.2)).toList = ps.toList.map fun p => (p.1, a.eval p.2) := by simp
  simp only at he
  split at he
  · rename_i fs hdesc
    simp only [Rd.eval_bind, Option.bind_eq_some_iff, Rd.eval_ofOpt, Option.map_eq_some_iff] at he
    obtain ⟨_, ⟨pl, h1, rfl⟩, ⟨qs, l2⟩, h2, _, ⟨cs, h3, rfl⟩, h4⟩ := he
    simp only [Rd.eval, Option.some.injEq, Prod.mk.injEq] at h4
    obtain ⟨rfl, _⟩ := h4
    rw [hdesc] at hu
    have hpl := places_get (w := w) h1 hty
    obtain ⟨us', f1, f2, f3⟩ := fillParts_sound (place' := fun i => pl.toArray[i]?) (fun i p hp => by simpa using hp) qs _ _ cs _ (rdParts_sound h _ h2) hzr h3
    refine OpOK.value (v := .agg us'.toArray) ?_ (h.put hd (av := .val true cs) ⟨us', rfl, by simp, f2⟩ (.inl ⟨_, _, rfl⟩))
    have hpa : (fs.mapM fun f => (do pure (f.offset, ← sizeOf f.type) : Sem (Nat × Nat))).run A.P w = .ok pl.toArray w := by
      rw [Array.mapM_eq_mapM_toList, Sem.run_map, hpl]
      rfl
    simp only [execOp, ho, Instr.build, Sem.run_bind, hz, Result.andThen_ok, hu, hpa, hzc, hmap, f1, Sem.run_pure]
  · rename_i n e hdesc
    simp only [Rd.eval_bind, Option.bind_eq_some_iff, Rd.eval_ofOpt, Option.map_eq_some_iff] at he
    obtain ⟨_, ⟨te, h1, rfl⟩, ⟨qs, l2⟩, h2, _, ⟨cs, h3, rfl⟩, h4⟩ := he
    simp only [Rd.eval, Option.some.injEq, Prod.mk.injEq] at h4
    obtain ⟨rfl, _⟩ := h4
    rw [hdesc] at hu
    obtain ⟨us', f1, f2, f3⟩ := fillParts_sound (place' := fun i => some (i * te.ty.size, te.ty.size)) (fun i p hp => hp) qs _ _ cs _ (rdParts_sound h _ h2) hzr h3
    refine OpOK.value (v := .agg us'.toArray) ?_ (h.put hd (av := .val true cs) ⟨us', rfl, by simp, f2⟩ (.inl ⟨_, _, rfl⟩))
    simp only [execOp, ho, Instr.build, Sem.run_bind, hz, Result.andThen_ok, hu, run_sizeOf_ti (w := w) (hty _ _ h1), hzc, hmap, f1, Sem.run_pure]
  · simp [Rd.eval] at he
end
end Go.VI
namespace Go.VI
open Go.RowKit
section
variable {A : Fix} {X : Ctx} {γ : Gh} {Fr : Nat → Prop} {env : Env} {a : Act} {w w' : World} {vn : Nat} {o : Oper} {us : List Upd} {lg : List Slot}
def ZExt (γ γ' : Gh) : Prop := γ'.ψ = γ.ψ ∧ γ'.σ = γ.σ ∧ γ'.φ = γ.φ ∧ ∀ g, γ.Z g → γ'.Z g
theorem ZExt.refl (γ : Gh) : ZExt γ γ := ⟨rfl, rfl, rfl, fun _ h => h⟩
theorem ZExt.trans {γ1 γ2 γ3 : Gh} (h : ZExt γ1 γ2) (k : ZExt γ2 γ3) : ZExt γ1 γ3 := ⟨k.1.trans h.1, k.2.1.trans h.2.1, k.2.2.1.trans h.2.2.1, fun g hg => k.2.2.2 g (h.2.2.2 g hg)⟩
theorem GoodR.zext {γ' : Gh} {c : Cell} {u : Value} (h : GoodR A γ w Fr c u) (hz : ZExt γ γ') : GoodR A γ' w Fr c u :=
  ⟨h.1.move (fun _ _ _ => by rw [hz.1]) (fun _ _ _ => by rw [hz.2.1]) hz.2.2.2 (fun _ _ => rfl) (Nat.le_refl _) (fun _ _ _ => rfl), h.2⟩
theorem RelCs.zext {γ' : Gh} (hz : ZExt γ γ') : ∀ {cs : List Cell} {us : List Value}, RelCs A γ w Fr cs us → RelCs A γ' w Fr cs us
  | [], _, h => h
  | _ :: _, _, ⟨u, us', h1, h2, h3⟩ => ⟨u, us', h1, h2.zext hz, RelCs.zext hz h3⟩
theorem frost_sound {env0 : Env} : ∀ (cs : List Cell) (xs : List Loc) (γ : Gh) (env1 : Env) (vs : List Value) (cs' : List Cell) (us : List Upd) (lg lg' : List Slot),
    Core A X γ Fr env1 a w → (∀ y, memLoc y xs = false → envCell env1 y = envCell env0 y) → RelCs A γ w Fr cs vs →
    (frost xs cs).eval env0.get lg = some ((cs', us), lg') → ∃ γ', Core A X γ' Fr (appAll env1 us) a w ∧ RelCs A γ' w Fr cs' vs ∧ ZExt γ γ'
  | [], xs, γ, env1, vs, cs', us, lg, lg', hc, hag, hr, he => by
    simp only [frost, Rd.eval, Option.some.injEq, Prod.mk.injEq] at he
    obtain ⟨⟨rfl, rfl⟩, _⟩ := he
    exact ⟨γ, hc, hr, ZExt.refl γ⟩
  | c :: r, xs, γ, env1, vs, cs', us, lg, lg', hc, hag, hr, he => by
    obtain ⟨u, vs', rfl, hg, hr'⟩ := hr
    have plain : ((frost xs r).bind fun q => Rd.pure (c :: q.1, q.2)).eval env0.get lg = some ((cs', us), lg') → ∃ γ', Core A X γ' Fr (appAll env1 us) a w ∧ RelCs A γ' w Fr cs' (u :: vs') ∧ ZExt γ γ' := by
      intro he
      simp only [Rd.eval_bind, Option.bind_eq_some_iff] at he
      obtain ⟨⟨⟨cs1, us1⟩, l1⟩, h1, h2⟩ := he
      simp only [Rd.eval, Option.some.injEq, Prod.mk.injEq] at h2
      obtain ⟨⟨rfl, rfl⟩, _⟩ := h2
      obtain ⟨γ', k1, k2, k3⟩ := frost_sound r xs γ env1 vs' cs1 us1 lg l1 hc hag hr' h1
      exact ⟨γ', k1, ⟨u, vs', rfl, hg.zext k3, k2⟩, k3⟩
    cases c with
    | own e t v l => simp [frost, Rd.eval] at he
    | sub x v s lo hi => simp [frost, Rd.eval] at he
    | barr b bv o n t => simp [frost, Rd.eval] at he
    | view x ver =>
      simp only [frost] at he
      cases hmm : (memLoc x xs || x.s.isLent) with
      | true => rw [hmm] at he; simp [Rd.eval] at he
      | false =>
        rw [hmm] at he
        simp only [Bool.or_eq_false_iff] at hmm
        obtain ⟨hm, hnl⟩ := hmm
        simp only [cond_false, Rd.eval_bind, Option.bind_eq_some_iff] at he
        obtain ⟨⟨⟨e, t, l⟩, l1⟩, h1, ⟨⟨cs1, us1⟩, l2⟩, h2, h3⟩ := he
        simp only [Rd.eval, Option.some.injEq, Prod.mk.injEq] at h3
        obtain ⟨⟨rfl, rfl⟩, _⟩ := h3
        have hx0 := ownerAt_eval h1
        have hx : envCell env1 x = some (.own e t ver l) := by rw [hag x hm]; exact hx0
        have hu : u = γ.φ x := hg.1.trans (hc.own x e t ver l hx).1
        have hk := hc.freeze hx hnl
        have hz : ZExt γ { γ with Z := fun g => γ.Z g ∨ (γ.φ x).ownBlock = some g } := ⟨rfl, rfl, rfl, fun g hg => .inl hg⟩
        have hag' : ∀ y, memLoc y (x :: xs) = false → envCell (Upd.app env1 (.cell x (.imm t l none))) y = envCell env0 y := by
          intro y hy
          simp only [memLoc, Bool.or_eq_false_iff] at hy
          have hne : y ≠ x := fun e => by rw [e] at hy; have := Loc.beq_iff.2 (rfl : x = x); rw [this] at hy; exact absurd hy.1 (by simp)
          rw [envCell_app_cell, if_neg (fun hh => hne hh.1)]
          exact hag y hy.2
        obtain ⟨γ', k1, k2, k3⟩ := frost_sound r (x :: xs) _ _ vs' cs1 us1 l1 l2 hk hag' (hr'.zext hz) h2
        refine ⟨γ', k1, ⟨u, vs', rfl, ?_, k2⟩, hz.trans k3⟩
        have hown : OwnV γ.Z w A.B e t u l := by rw [hu]; exact (hc.cell x _ hx).1
        have h0 : GoodR A { γ with Z := fun g => γ.Z g ∨ (γ.φ x).ownBlock = some g } w Fr (.imm t l none) u :=
          ⟨⟨OwnV.reads hown _ (fun g hg => .inl hg) (fun g hg => .inr (by rw [← hu]; exact hg)), by simp⟩, hg.2.1, by simp [refs], rfl⟩
        exact h0.zext k3
    | undef => exact plain he
    | int k n => exact plain he
    | bool b => exact plain he
    | str s => exact plain he
    | nil e t => exact plain he
    | imm t l p => exact plain he
    | addr b bv o => exact plain he
    | addrI b bv o n s i => exact plain he
    | gptr g o => exact plain he
    | gptrI g o n s i => exact plain he
    | iptr t x o => exact plain he
    | iptrI t x o n s i => exact plain he
    | eview x v s i o => exact plain he
    | eimm t l i o => exact plain he
    | eviewI x v s i o m s2 j => exact plain he
    | eimmI t l i o m s2 j => exact plain he
    | func f => exact plain he
    | clo as rs F => exact plain he
theorem Core.free_new (h : Core A X γ Fr env a w) {g : Nat} (hg : w.heap.size ≤ g) : Free A γ env g := by
  refine ⟨Nat.le_trans h.frame.size hg, fun hz => ?_, fun b bv fz cs hb e => ?_, fun y e t ver l hy hyg => ?_⟩
  · have := h.zone g hz; omega
  · obtain ⟨⟨T, h1⟩, _⟩ := h.box b bv fz cs hb
    have := (Array.getElem?_eq_some_iff.1 h1).1
    omega
  · have := (OwnV.lt (h.cell y _ hy).1 g hyg).2
    omega
theorem Core.putOwn (h : Core A X γ Fr env a w) (hv : Fr vn) (hd : dstOk X o) {e : TypeId} {t : Ty} {v : Value} {l : List t.den} (hown : OwnV γ.Z w A.B e t v l)
    (hf : ∀ g, v.ownBlock = some g → Free A γ env g) : Holds A X (FrD Fr vn) (appAll env (dstSet o (.val false [.own e t vn l]))) (a.put o.dst v) w := by
  unfold dstSet
  cases ho : o.dst with
  | none => exact ⟨γ, h.fr fun _ hh => hh.1⟩
  | some d =>
    have hone : v.oneCell' = true := by obtain ⟨B, c, hh, _⟩ := OwnV.slice hown; rw [hh]; rfl
    have := h.setInst hv (hd d ho) (g := false) (cs := [.own e t vn l]) (vs := [v]) (fun _ => rfl) ⟨rfl, ?_, ?_, ?_, ?_⟩
    · simpa [mkVal, appAll, Upd.app] using this
    · intro j u hu
      cases j <;> simp at hu
      subst hu; exact hone
    · intro j c u hc hu hn
      cases j <;> simp at hc
      subst hc; simp [Cell.isOwn] at hn
    · intro j e' t' v' l' u hc hu
      cases j with
      | succ j => simp at hc
      | zero =>
        simp only [List.getElem?_cons_zero, Option.some.injEq] at hc hu
        subst hu
        injection hc with h1 h2 h3 h4
        subst h1; subst h2; subst h3
        have h4 := eq_of_heq h4
        subst h4
        exact ⟨rfl, hown, hf⟩
    · intro j j' e1 e2 t1 t2 v1 v2 l1 l2 u1 u2 g h1 h2 h3 h4 h5 h6
      cases j <;> simp at h1
      cases j' <;> simp at h3
      rfl
theorem zeros_flat (Z : Nat → Prop) {T : TypeId} {ti : TI} (ht : TIOK A.P T ti) : ∀ (n : Nat), RepsL Z w ti.ty (List.replicate n ti.ty.dflt) (List.replicate n (ti.zero.map cellV)).flatten
  | 0 => rfl
  | n + 1 => ⟨_, _, by simp [List.replicate_succ], ht.zrep Z w, zeros_flat Z ht n⟩
theorem flat_get (zs : List Value) : ∀ (n i : Nat), i < n * zs.length → (List.replicate n zs).flatten[i]? = zs[i % zs.length]?
  | 0, i, h => by omega
  | n + 1, i, h => by
    rw [List.replicate_succ, List.flatten_cons]
    by_cases hi : i < zs.length
    · rw [List.getElem?_append_left hi, Nat.mod_eq_of_lt hi]
    · rw [Nat.succ_mul] at h
      rw [List.getElem?_append_right (by omega), flat_get zs n _ (by omega)]
      rw [← Nat.mod_eq_sub_mod (by omega)]
theorem madeCells_flat (zs : List Value) (h0 : 0 < zs.length) (n : Nat) : ((Array.range (n * zs.length)).map fun i => zs.toArray[i % zs.toArray.size]!) = (List.replicate n zs).flatten.toArray := by
  apply Array.ext_getElem?
  intro i
  by_cases hi : i < n * zs.length
  · have h2 : i % zs.length < zs.length := Nat.mod_lt _ h0
    have := flat_get zs n i hi
    have e : (List.replicate n zs).flatten.toArray[i]? = zs[i % zs.length]? := by rw [← this]; simp
    rw [e]
    simp [hi, h2]
  · have : (List.replicate n zs).flatten.length ≤ i := by simp [List.length_flatten]; omega
    have e : (List.replicate n zs).flatten.toArray[i]? = none := by rw [← List.getElem?_eq_none this]; simp
    rw [e]
    simp [hi]
theorem OwnV.made {Z : Nat → Prop} {B : Nat} {e : TypeId} {t : Ty} (h0 : 0 < t.size) (hB : B ≤ w.heap.size) {xs : List Value} {l : List t.den} {cap : Nat} (hc : l.length ≤ cap) (hcm : cap ≤ maxLen) {rest : List Value}
    (hr : RepsL Z w t l xs) (hrl : rest.length = (cap - l.length) * t.size) (hZ : ∀ g, Z g → g < w.heap.size) :
    OwnV Z (w.alloc (.cells (xs ++ rest).toArray e)) B e t (.slice (some ⟨w.heap.size, 0, none⟩) l.length cap) l := by
  have hl := RepsL.length _ _ hr
  refine ⟨h0, xs, ⟨hl, .inr ⟨w.heap.size, cap, _, (0, 0), rfl, hB, heap_alloc_new w _, .inl rfl, hc, hcm, ?_, ?_⟩⟩, RepsL.mono (fun _ h => h) (fun g hg => heap_alloc_old w _ g (hZ g hg)) _ _ hr⟩
  · simp only [List.size_toArray, List.length_append, hl, hrl, ← Nat.add_mul]
    congr 1; omega
  · simp only [← hl]
    exact List.take_left
theorem Core.putMade (h : Core A X γ Fr env a w) (hst : Stable A.n0 A.G) (hv : Fr vn) (hd : dstOk X o) {e : TypeId} {t : Ty} (h0 : 0 < t.size) {xs rest : List Value} {l : List t.den} {cap : Nat} (hc : l.length ≤ cap) (hcm : cap ≤ maxLen)
    (hr : RepsL γ.Z w t l xs) (hrl : rest.length = (cap - l.length) * t.size) :
    Holds A X (FrD Fr vn) (appAll env (dstSet o (.val false [.own e t vn l]))) (a.put o.dst (.slice (some ⟨w.heap.size, 0, none⟩) l.length cap)) (w.alloc (.cells (xs ++ rest).toArray e)) := by
  have hG : A.G (w.alloc (.cells (xs ++ rest).toArray e)) := hst.below h.glob ((Below.refl _ _).alloc (Nat.le_refl _) _)
  have hw := h.world (GrownD.alloc w (.cells (xs ++ rest).toArray e) none) (fun g hg => by cases hg) hG
  refine hw.putOwn hv hd (OwnV.made h0 (Nat.le_trans h.baseB h.frame.size) hc hcm hr hrl h.zone) fun g hg => ?_
  simp only [Value.ownBlock, Option.some.injEq] at hg
  subst hg
  exact h.free_new (Nat.le_refl _)
theorem op_makeSlice (h : Core A X γ Fr env a w) (hst : Stable A.n0 A.G) (hty : TyOK A.P X) (hv : Fr vn) (hd : dstOk X o) {T : TypeId} {n m : Operand} (ho : o.op = .makeSlice T n m) (he : (opRd X vn o).eval env.get [] = some (us, lg)) : OpOK A X (FrD Fr vn) o us env a w := by
  simp only [opRd, ho, Rd.eval_bind, Option.bind_eq_some_iff, Ctx.ti, Rd.eval_ofOpt, Option.map_eq_some_iff] at he
  obtain ⟨_, ⟨ti, k1, rfl⟩, he⟩ := he
  have ht := hty T ti k1
  simp only at he
  split at he
  · rename_i e hdesc
    simp only [Rd.eval_bind, Option.bind_eq_some_iff, Rd.eval_ofOpt, Option.map_eq_some_iff] at he
    obtain ⟨_, ⟨te, k2, rfl⟩, ⟨⟨kl, l⟩, l1⟩, h1, ⟨⟨kc, c⟩, l2⟩, h2, h3⟩ := he
    have hte := hty e te k2
    simp only at h3
    cases hs : Nat.blt 0 te.ty.size with
    | false => rw [hs] at h3; simp [Rd.eval] at h3
    | true =>
      rw [hs] at h3
      have hs : 0 < te.ty.size := Nat.le_of_ble_eq_true hs
      simp only [cond_true, Rd.eval] at h3
      cases hb : (decide (0 ≤ l) && decide (l ≤ c) && decide (c * (te.bytes : Int) ≤ 140737488355328) && decide (c ≤ 140737488355328)) with
      | false => rw [hb] at h3; simp at h3
      | true =>
        rw [hb] at h3
        simp only [cond_true, Option.some.injEq, Prod.mk.injEq] at h3
        obtain ⟨rfl, _⟩ := h3
        simp only [Bool.and_eq_true, decide_eq_true_eq] at hb
        obtain ⟨⟨⟨b1, b2⟩, b3⟩, b4⟩ := hb
        obtain ⟨i, hi, hsz, hby, hz⟩ := hte.info'
        have hl : a.eval n = .int kl l := rdInt_sound h h1
        have hc : a.eval m = .int kc c := rdInt_sound h h2
        have hzl : (te.zero.map cellV).length = te.ty.size := by rw [List.length_map, hte.zlen]
        have hrun := run_make (P := A.P) w T e i _ (by rw [ht.und, hdesc]) hi hz kl kc l c b1 b2 (by rw [hby, Int.mul_comm]; omega) (by omega)
        have hcells : madeCells (mkVal te.agg (te.zero.map cellV)).cells (c.toNat * i.size) = ((List.replicate l.toNat (te.zero.map cellV)).flatten ++ (List.replicate (c.toNat - l.toNat) (te.zero.map cellV)).flatten).toArray := by
          rw [zero_cells hte, hsz, ← hzl]
          unfold madeCells
          rw [madeCells_flat _ (by omega), ← List.flatten_append, List.replicate_append_replicate]
          congr 4; omega
        rw [hcells] at hrun
        have hh := h.putMade (o := o) (e := e) (t := te.ty) (l := List.replicate l.toNat te.ty.dflt) (cap := c.toNat) hst hv hd hs (by simp; omega) (by simp [maxLen]; omega) (zeros_flat γ.Z hte l.toNat) (rest := (List.replicate (c.toNat - l.toNat) (te.zero.map cellV)).flatten) (by simp [hte.zlen])
        rw [List.length_replicate] at hh
        refine OpOK.value (v := .slice (some ⟨w.heap.size, 0, none⟩) l.toNat c.toNat) ?_ hh
        simp only [execOp, ho, hl, hc, Sem.run_bind, hrun, Result.andThen_ok, Sem.run_pure]
  · simp [Rd.eval] at he
theorem zcell_flat (n : Nat) (zs : List Cell) (hz : ∀ c ∈ zs, zcell c = true) : RelCs A γ w Fr (replN n zs).flatten (List.replicate n (zs.map cellV)).flatten := by
  induction n with
  | zero => exact rfl
  | succ n ih => rw [replN, List.flatten_cons, List.replicate_succ, List.flatten_cons]; exact (zeros_rel zs hz).append ih
theorem op_buildSlice (h : Core A X γ Fr env a w) (hst : Stable A.n0 A.G) (hty : TyOK A.P X) (hv : Fr vn) (hd : dstOk X o) {T : TypeId} {n : Nat} {ps : Array (Nat × Operand)} (ho : o.op = .buildSlice T n ps) (he : (opRd X vn o).eval env.get [] = some (us, lg)) :
    OpOK A X (FrD Fr vn) o us env a w := by
  simp only [opRd, ho, Rd.eval_bind, Option.bind_eq_some_iff, Ctx.ti, Rd.eval_ofOpt, Option.map_eq_some_iff] at he
  obtain ⟨_, ⟨ti, k1, rfl⟩, he⟩ := he
  have ht := hty T ti k1
  have hu := run_underlying (P := A.P) ht.und w
  have hmap : (ps.map fun (p : Nat × Operand) => (p.1, a.eval p.2)).toList = ps.toList.map fun p => (p.1, a.eval p.2) := by simp
  simp only at he
  split at he
  · rename_i e hdesc
    simp only [Rd.eval_bind, Option.bind_eq_some_iff, Rd.eval_ofOpt, Option.map_eq_some_iff] at he
    obtain ⟨_, ⟨te, k2, rfl⟩, ⟨qs, l2⟩, h2, _, ⟨cs, h3, rfl⟩, ⟨⟨cs1, us1⟩, l3⟩, h4, _, ⟨l, h5, rfl⟩, h6⟩ := he
    have hte := hty e te k2
    simp only at h5 h6
    cases hb : (Nat.blt 0 te.ty.size && Nat.ble (n * te.ty.size) 16777216) with
    | false => rw [hb] at h6; simp [Rd.eval] at h6
    | true =>
      rw [hb] at h6
      simp only [cond_true, Rd.eval, Option.some.injEq, Prod.mk.injEq] at h6
      obtain ⟨rfl, _⟩ := h6
      simp only [Bool.and_eq_true] at hb
      have hs : 0 < te.ty.size := Nat.le_of_ble_eq_true hb.1
      have hn := Nat.le_of_ble_eq_true hb.2
      rw [hdesc] at hu
      have hzl : (te.zero.map cellV).length = te.ty.size := by rw [List.length_map, hte.zlen]
      obtain ⟨us', f1, f2, f3⟩ := fillParts_sound (place' := fun i => some (i * te.ty.size, te.ty.size)) (fun i p hp => hp) qs _ _ cs _ (rdParts_sound h _ h2) (zcell_flat n te.zero hte.zcells) h3
      obtain ⟨γ', g1, g2, g3⟩ := frost_sound cs [] γ env us' cs1 us1 _ _ h (fun _ _ => rfl) f2 h4
      obtain ⟨u1, u2, hu12, r1, r2⟩ := implodeN_rel te.ty n cs1 us' l h5 g2
      have hulen : us'.length = n * te.ty.size := by
        rw [f2.length, f3]
        have : ∀ (k : Nat), ((replN k te.zero).flatten).length = k * te.ty.size := by
          intro k
          induction k with
          | zero => simp [replN]
          | succ k ih => rw [replN, List.flatten_cons, List.length_append, ih, hte.zlen, Nat.succ_mul]; omega
        exact this n
      have hu2 : u2 = [] := by
        have h1 := RepsL.length _ _ r1
        rw [r2] at h1
        rw [hu12, List.length_append, h1] at hulen
        exact List.eq_nil_of_length_eq_zero (by omega)
      subst hu2
      rw [List.append_nil] at hu12
      subst hu12
      have hnm : l.length ≤ maxLen := by
        rw [r2]
        have : n ≤ n * te.ty.size := Nat.le_mul_of_pos_right _ hs
        simp [maxLen]; omega
      have hh := g1.putMade (o := o) (e := e) (t := te.ty) (l := l) (cap := n) (rest := []) hst hv hd hs (by omega) (by rw [← r2]; exact hnm) r1 (by simp [r2])
      rw [List.append_nil, r2] at hh
      rw [← appAll_append] at hh
      refine OpOK.value (v := .slice (some ⟨w.heap.size, 0, none⟩) n n) ?_ hh
      have hbig : ¬ (n * te.ty.size > 2 ^ 24) := by have : (2:Nat)^24 = 16777216 := by decide
                                                    omega
      have hrow : ((Array.range (n * te.ty.size)).map fun i => (if n = 0 then (#[] : Array Value) else (te.zero.map cellV).toArray)[i % (if n = 0 then (#[] : Array Value) else (te.zero.map cellV).toArray).size]!) = (List.replicate n (te.zero.map cellV)).flatten.toArray := by
        by_cases h0 : n = 0
        · subst h0; simp
        · simp only [h0, if_false]
          rw [← hzl]
          exact madeCells_flat _ (by omega) n
      by_cases h0 : n = 0
      · subst h0
        simp only [if_true] at hrow
        simp only [execOp, ho, Instr.buildSlice, Sem.run_bind, hu, Result.andThen_ok, run_sizeOf_ti (w := w) hte, (by decide : ¬ (0 > 2 ^ 24)), if_false, Sem.run_pure, Nat.zero_mul, if_true] at hrow ⊢
        simp only [hrow, hmap, f1, newRow, Sem.run_bind, Sem.run_pure]
        rfl
      · have hne : ¬ (n * te.ty.size = 0) := by
          intro hh; rcases Nat.mul_eq_zero.1 hh with hh | hh <;> omega
        simp only [h0, if_false] at hrow
        simp only [execOp, ho, Instr.buildSlice, Sem.run_bind, hu, Result.andThen_ok, run_sizeOf_ti (w := w) hte, hbig, if_false, Sem.run_pure, hne, run_zeroValue (w := w) hte, zero_cells hte, hrow, hmap, f1, newRow]
        rfl
  · simp [Rd.eval] at he
theorem bytesText (h : Core A X γ Fr env a w) (hd : dstOk X o) {S D e : TypeId} {x : Operand} (ho : o.op = .convert S D x) (hue : A.P.underlying e = some (.int .u8)) (hus : A.P.underlying S = some (.slice e)) (hud : A.P.underlying D = some .string)
    {t : Ty} {l : List t.den} (hl : ∃ Z' : Nat → Prop, (∀ g, γ.Z g → Z' g) ∧ RepI Z' w (.sl t) l [a.eval x]) (f : t.den → Int) (hf : ∀ {Z' : Nat → Prop} (n : t.den) (xs : List Value), RepI Z' w t n xs → xs = [.int .u8 (f n)]) (h1 : t.size = 1) :
    OpOK A X Fr o (dstSet o (.val false [.str (l.map fun n => (f n).toNat.toUInt8)])) env a w := by
  obtain ⟨Z', _, B, c', hB, hlc, hel⟩ := hl
  simp only [List.cons.injEq, and_true] at hB
  have hb : (Conv.bytesToString (.slice B l.length c')).run A.P w = .ok (.string ⟨((l.map f).map fun (n : Int) => n.toNat.toUInt8).toArray⟩) w := by
    cases B with
    | none =>
      have : l = [] := by
        cases l with
        | nil => rfl
        | cons x r => obtain ⟨_, hh, _⟩ := hel 0 x rfl; cases hh
      subst this
      rfl
    | some ad =>
      have hlc : (loadCells ad l.length).run A.P w = .ok ((l.map f).map (Value.int .u8)).toArray w := by
        have := run_loadCells_list (P := A.P) w ad ((l.map f).map (Value.int .u8)) (fun j v hv => by
          rw [List.getElem?_map, List.getElem?_map, Option.map_eq_some_iff] at hv
          obtain ⟨n, hn, rfl⟩ := hv
          rw [Option.map_eq_some_iff] at hn
          obtain ⟨n', hn', rfl⟩ := hn
          obtain ⟨ad', hh, _, xs, hxs, hcc⟩ := hel j n' hn'
          injection hh with hh
          subst hh
          rw [hf n' xs hxs] at hcc
          have := hcc 0 _ rfl
          simpa [h1] using this)
        simpa using this
      rw [run_bytesToString w ad l.length c' (l.map f) hlc, foldl_push]
  have hm : l.map (fun n => (f n).toNat.toUInt8) = (l.map f).map fun (n : Int) => n.toNat.toUInt8 := by rw [List.map_map]; rfl
  rw [hm]
  refine OpOK.value (v := .string ⟨((l.map f).map fun (n : Int) => n.toNat.toUInt8).toArray⟩) ?_ (h.putCell hd (good_str _))
  simp only [execOp, ho, Sem.run_bind, hB, run_convert_bytes_string w S D e B l.length c' hus hue hud, hb, Result.andThen_ok, Sem.run_pure]
theorem op_convert (h : Core A X γ Fr env a w) (hst : Stable A.n0 A.G) (hty : TyOK A.P X) (hv : Fr vn) (hd : dstOk X o) {S D : TypeId} {x : Operand} (ho : o.op = .convert S D x) (he : (opRd X vn o).eval env.get [] = some (us, lg)) : OpOK A X (FrD Fr vn) o us env a w := by
  simp only [opRd, ho, Rd.eval_bind, Option.bind_eq_some_iff, Ctx.ti, Rd.eval_ofOpt, Option.map_eq_some_iff] at he
  obtain ⟨_, ⟨ts, k1, rfl⟩, _, ⟨td, k2, rfl⟩, ⟨c, l1⟩, h1, h2⟩ := he
  have hts := hty S ts k1
  have htd := hty D td k2
  have hg := rdCell_sound h h1
  have us0 := run_underlying (P := A.P) hts.und w
  have ud0 := run_underlying (P := A.P) htd.und w
  simp only at h2
  split at h2
  · rename_i k k' n hdesc
    rw [retOne_eval h2]
    have ex : a.eval x = .int k' n := hg.1
    rw [hdesc] at ud0
    refine (OpOK.value (v := .int k (k.wrap n)) ?_ (h.putCell hd (good_int _ _))).weaken vn
    simp only [execOp, ho, convert, Sem.run_bind, us0, ud0, Result.andThen_ok, ex, Conv.intToInt, Sem.run_pure]
  · rename_i s hd1 hd2
    rw [retOne_eval h2]
    have ex : a.eval x = .string ⟨s.toArray⟩ := hg.1
    rw [hd1] at us0
    rw [hd2] at ud0
    refine (OpOK.value (v := .string ⟨s.toArray⟩) ?_ (h.putCell hd (good_str _))).weaken vn
    simp only [execOp, ho, convert, Sem.run_bind, us0, ud0, Result.andThen_ok, ex, Sem.run_pure]
  · rename_i e hd1 hd2
    rw [hd1] at us0
    rw [hd2] at ud0
    simp only [Rd.eval_bind, Option.bind_eq_some_iff, Rd.eval_ofOpt, Option.map_eq_some_iff] at h2
    obtain ⟨_, ⟨te, k3, rfl⟩, h2⟩ := h2
    have hte := hty _ te k3
    simp only at h2
    split at h2
    · rename_i hu8
      simp only [Rd.eval_bind, Option.bind_eq_some_iff] at h2
      obtain ⟨⟨p, l2⟩, h3, h4⟩ := h2
      simp only at h4
      split at h4
      · rename_i l
        rw [retOne_eval h4]
        exact (bytesText h hd ho (by rw [hte.und, hu8]) (by rw [hts.und, hd1]) (by rw [htd.und, hd2]) (listOf_sound h hg h3) (fun n => n) (fun n xs hx => hx) rfl).weaken vn
      · rename_i l
        rw [retOne_eval h4]
        exact (bytesText h hd ho (by rw [hte.und, hu8]) (by rw [hts.und, hd1]) (by rw [htd.und, hd2]) (listOf_sound h hg h3) (fun n => n.1) (fun n xs hx => by
          obtain ⟨c1, c2, hh, h1, h2⟩ := hx
          rw [hh, show c1 = _ from h1, show c2 = _ from h2]; rfl) rfl).weaken vn
      · simp [Rd.eval] at h4
    · simp [Rd.eval] at h2
  · rename_i e s hd1 hd2
    simp only [Rd.eval_bind, Option.bind_eq_some_iff, Rd.eval_ofOpt, Option.map_eq_some_iff] at h2
    obtain ⟨_, ⟨te, k3, rfl⟩, h2⟩ := h2
    have hte := hty _ te k3
    simp only at h2
    split at h2
    · rename_i hu8
      cases hm : decide (s.length ≤ 140737488355328) with
      | false => rw [hm] at h2; simp [Rd.eval] at h2
      | true =>
        rw [hm] at h2
        simp only [Rd.eval, cond_true, Option.some.injEq, Prod.mk.injEq] at h2
        obtain ⟨rfl, _⟩ := h2
        have hm : s.length ≤ maxLen := by have := of_decide_eq_true hm; simp only [maxLen]; omega
        have ex : a.eval x = .string ⟨s.toArray⟩ := hg.1
        have hsz : (⟨s.toArray⟩ : ByteArray).size = s.length := by simp [ByteArray.size]
        have hrun := Lib.run_convert_string_bytes (P := A.P) w S D e ⟨s.toArray⟩ (by rw [hts.und, hd1]) (by rw [htd.und, hd2]) (by rw [hte.und, hu8])
        have hge := grownCap_ge w (⟨s.toArray⟩ : ByteArray).size 0 e
        have hle := grownCap_le_maxLen w (⟨s.toArray⟩ : ByteArray).size 0 e (by rw [hsz]; exact hm)
        rw [hsz] at hrun hge hle
        generalize hcap : grownCap w s.length 0 e = cap at hrun hge hle
        generalize hW : Lib.bytesWorld w e ⟨s.toArray⟩ = W at hrun
        have hcs : (Lib.bytesCells w e ⟨s.toArray⟩).size = cap := by
          simp only [Lib.bytesCells, hsz, hcap, Array.size_append, Array.size_map, Array.size_replicate, List.size_toArray]
          omega
        have hnew : W.heap[w.heap.size]? = some (.cells (Lib.bytesCells w e ⟨s.toArray⟩) e (cap, cap + 1)) := by
          rw [← hW, Lib.bytesWorld_at_new, hcs]
        have hold : ∀ k, k < w.heap.size → W.heap[k]? = w.heap[k]? := fun k hk => by rw [← hW]; exact Lib.bytesWorld_at_old w e _ k hk
        have hsize : W.heap.size = w.heap.size + 1 := by rw [← hW]; exact Lib.bytesWorld_size w e _
        have hb : Below w.heap.size w W := ⟨by rw [← hW]; rfl, by rw [← hW]; rfl, by rw [← hW]; rfl, by omega, hold, by rw [← hW]; exact Nat.le_succ _⟩
        have hgr : GrownD w W none := ⟨hb.os, hb.tape, hb.output, hb.size, fun k hk _ => hold k hk, hb.drawn⟩
        have hG : A.G W := hst.below h.glob hb
        have hw := h.world hgr (fun g hg => by cases hg) hG
        have hrep : ∀ l : List UInt8, RepsL γ.Z W markT (l.map fun (c : UInt8) => ((c.toNat : Int), ())) (l.map fun (c : UInt8) => Value.int .u8 c.toNat) := fun l => by
          induction l with
          | nil => rfl
          | cons c l ih => exact ⟨[.int .u8 c.toNat], _, rfl, ⟨[.int .u8 c.toNat], [], rfl, rfl, rfl⟩, ih⟩
        have hml : (s.map fun (c : UInt8) => (((c.toNat : Int), ()) : Int × Unit)).length = s.length := List.length_map ..
        have hown : OwnV γ.Z W A.B e markT (.slice (some ⟨w.heap.size, 0, none⟩) s.length cap) (s.map fun (c : UInt8) => ((c.toNat : Int), ())) := by
          refine ⟨by decide, s.map fun (c : UInt8) => Value.int .u8 c.toNat, ⟨?_, .inr ⟨w.heap.size, cap, _, (cap, cap + 1), ?_, Nat.le_trans h.baseB h.frame.size, hnew, .inr ⟨rfl, rfl⟩, ?_, hle, ?_, ?_⟩⟩, hrep s⟩
          · exact (List.length_map ..).trans (hml.symm.trans (Nat.mul_one _).symm)
          · exact congrArg (fun n => Value.slice (some ⟨w.heap.size, 0, none⟩) n cap) hml.symm
          · exact Nat.le_trans (Nat.le_of_eq hml) hge
          · rw [hcs]; exact (Nat.mul_one _).symm
          · have e1 : List.length (α := markT.den) (s.map fun (c : UInt8) => ((c.toNat : Int), ())) * markT.size = s.length := (Nat.mul_one _).trans hml
            rw [e1]
            simp [Lib.bytesCells]
        refine OpOK.value (v := .slice (some ⟨w.heap.size, 0, none⟩) s.length cap) ?_ (hw.putOwn hv hd hown fun g hg => ?_)
        · simp only [execOp, ho, Sem.run_bind, ex, hrun, Result.andThen_ok, Sem.run_pure]
        · simp only [Value.ownBlock, Option.some.injEq] at hg
          subst hg
          exact h.free_new (Nat.le_refl _)
    · simp [Rd.eval] at h2
  · simp [Rd.eval] at h2
end
end Go.VI
