/- VI, part 1: the abstract values and the interpreter. -/
import Derived.Calls
import Derived.Below
import Derived.KernelRfl
import Derived.Maps.AppendAt
import Derived.Laws.OwnMore
import Derived.Laws.MakeOwn
namespace Go.VI
noncomputable section
inductive Ty where
  | int (k : IntKind) | bool | str | unit | pair (a b : Ty) | sl (t : Ty)
  deriving DecidableEq
@[reducible] def Ty.den : Ty → Type
  | .int _ => Int
  | .bool => Bool
  | .str => List UInt8
  | .unit => Unit
  | .pair a b => a.den × b.den
  | .sl t => List t.den
def Ty.dflt : (t : Ty) → t.den
  | .int _ => (0 : Int)
  | .bool => false
  | .str => []
  | .unit => ()
  | .pair a b => (a.dflt, b.dflt)
  | .sl _ => []
def markT : Ty := .pair (.int .u8) .unit
def Ty.size : Ty → Nat
  | .unit => 0
  | .pair a b => a.size + b.size
  | _ => 1
def nth (t : Ty) (l : List t.den) (i : Int) : t.den := l.getD i.toNat t.dflt
def inB (i : Int) (n : Nat) : Bool := decide (0 ≤ i) && decide (i < (n : Int))
def byteAt (s : List UInt8) (i : Int) : Int := ((s.getD i.toNat 0).toNat : Int)
def cut {α : Type} (l : List α) (lo hi : Int) : List α := (l.take hi.toNat).drop lo.toNat
@[reducible] def denL : List (Bool × Ty) → Type
  | [] => Unit
  | x :: r => x.2.den × denL r
inductive ATy where
  | data (agg : Bool) (t : Ty)
  | ptr (t : Ty)
  | clo (as rs : List (Bool × Ty))
  | lrow (agg : Bool) (t : Ty) (es : List TypeId)
  | lptr (t : Ty)
@[reducible] def ATy.den : ATy → Type
  | .data _ t => t.den
  | .ptr t => t.den
  | .clo as rs => denL as → Option (denL rs)
  | .lrow _ t _ => t.den
  | .lptr t => t.den
@[reducible] def denA : List ATy → Type
  | [] => Unit
  | a :: r => a.den × denA r
inductive RMode where
  | own (e : TypeId) | imm | pass (j : Nat)
structure Contract where
  As : List ATy
  R : List (Bool × Ty)
  modes : List RMode
  F : denA As → Option (denL R)
@[reducible] def denM : List ATy → Type
  | [] => Unit
  | .lrow _ t _ :: r => t.den × denM r
  | .lptr t :: r => t.den × denM r
  | _ :: r => denM r
structure MContract where
  As : List ATy
  R : List (Bool × Ty)
  modes : List RMode
  F : denA As → Option (denL R × denM As)
inductive Slot where
  | tmp (t : Nat) | box (b : Nat) | ver | lent (k : Nat)
  deriving DecidableEq
def lentBase : Nat := 1000000
def Slot.isLent : Slot → Bool
  | .lent _ => true
  | _ => false
def Slot.beq : Slot → Slot → Bool
  | .tmp a, .tmp b => Nat.beq a b
  | .box a, .box b => Nat.beq a b
  | .ver, .ver => true
  | .lent a, .lent b => Nat.beq a b
  | _, _ => false
structure Loc where
  s : Slot
  c : Nat
  j : Nat
  deriving DecidableEq
def Loc.beq (x y : Loc) : Bool := Slot.beq x.s y.s && Nat.beq x.c y.c && Nat.beq x.j y.j
inductive Cell where
  | undef
  | int (k : IntKind) (n : Int)
  | bool (b : Bool)
  | str (s : List UInt8)
  | own (e : TypeId) (t : Ty) (ver : Nat) (l : List t.den)
  | nil (e : TypeId) (t : Ty)
  | imm (t : Ty) (l : List t.den) (par : Option Nat)
  | view (x : Loc) (ver : Nat)
  | sub (x : Loc) (ver sz : Nat) (lo hi : Int)
  | barr (b bv off n : Nat) (t : Ty)
  | addr (b bv off : Nat)
  | addrI (b bv off n sz : Nat) (i : Int)
  | gptr (g off : Nat)
  | gptrI (g off n sz : Nat) (i : Int)
  | iptr (t : Ty) (x : t.den) (off : Nat)
  | iptrI (t : Ty) (x : t.den) (off n sz : Nat) (i : Int)
  | eview (x : Loc) (ver sz : Nat) (i : Int) (off : Nat)
  | eimm (t : Ty) (l : List t.den) (i : Int) (off : Nat)
  | eviewI (x : Loc) (ver sz : Nat) (i : Int) (off m sz2 : Nat) (j : Int)
  | eimmI (t : Ty) (l : List t.den) (i : Int) (off m sz2 : Nat) (j : Int)
  | func (f : FuncId)
  | clo (as rs : List (Bool × Ty)) (F : denL as → Option (denL rs))
inductive AV where
  | undef
  | skip
  | val (agg : Bool) (cs : List Cell)
  | tup (l : List (Bool × List Cell))
  | box (ver : Nat) (fz : Bool) (cs : List Cell)
  | num (n : Nat)
@[reducible] def Env := List (Slot × AV)
@[reducible] def Out := List (Bool × List Cell)
def Env.get : Env → Slot → AV
  | [], _ => .undef
  | x :: r, s => bif Slot.beq x.1 s then x.2 else Env.get r s
inductive Rd (α : Type) : Type 1 where
  | pure (a : α)
  | opt (γ : Type) (o : Option γ) (k : γ → Rd α)
  | get (s : Slot) (k : AV → Rd α)
  | guard (b : Bool) (k : Rd α)
  | br (b : Bool) (k1 k2 : Rd α)
  | fail
def Rd.bind {α β : Type} : Rd α → (α → Rd β) → Rd β
  | .pure a, f => f a
  | .opt γ o k, f => .opt γ o fun x => (k x).bind f
  | .get s k, f => .get s fun v => (k v).bind f
  | .guard b k, f => .guard b (k.bind f)
  | .br b k1 k2, f => .br b (k1.bind f) (k2.bind f)
  | .fail, _ => .fail
def Rd.ofOpt {α : Type} : Option α → Rd α
  | some a => .pure a
  | none => .fail
def Rd.eval {α : Type} (env : Slot → AV) : Rd α → List Slot → Option (α × List Slot)
  | .pure a, lg => some (a, lg)
  | .opt _ o k, lg => o.bind fun x => (k x).eval env lg
  | .get s k, lg => (k (env s)).eval env (s :: lg)
  | .guard b k, lg => bif b then k.eval env lg else none
  | .br b k1 k2, lg => bif b then k1.eval env lg else k2.eval env lg
  | .fail, _ => none
def Rd.cps {α ρ : Type} (env : Slot → AV) : Rd α → List Slot → (α → List Slot → Option ρ) → Option ρ
  | .pure a, lg, K => K a lg
  | .opt _ o k, lg, K => o.bind fun x => (k x).cps env lg K
  | .get s k, lg, K => (k (env s)).cps env (s :: lg) K
  | .guard b k, lg, K => bif b then k.cps env lg K else none
  | .br b k1 k2, lg, K => bif b then k1.cps env lg K else k2.cps env lg K
  | .fail, _, _ => none
inductive Upd where
  | set (s : Slot) (v : AV)
  | cell (x : Loc) (c : Cell)
def setNth {α : Type} : List α → Nat → α → List α
  | [], _, _ => []
  | _ :: r, 0, v => v :: r
  | a :: r, n + 1, v => a :: setNth r n v
def AV.setCell : AV → Nat → Nat → Cell → AV
  | .val g cs, 0, j, c => .val g (setNth cs j c)
  | .tup l, i, j, c => .tup (match l[i]? with | some p => setNth l i (p.1, setNth p.2 j c) | none => l)
  | .box v fz cs, 0, j, c => .box v fz (setNth cs j c)
  | v, _, _, _ => v
def AV.cell? : AV → Nat → Nat → Option Cell
  | .val _ cs, 0, j => cs[j]?
  | .tup l, i, j => (l[i]?).bind fun p => p.2[j]?
  | .box _ _ cs, 0, j => cs[j]?
  | _, _, _ => none
def Upd.slot : Upd → Slot
  | .set s _ => s
  | .cell x _ => x.s
def Upd.app (env : Env) : Upd → Env
  | .set s v => (s, v) :: env
  | .cell x c => (x.s, (env.get x.s).setCell x.c x.j c) :: env
def appAll (env : Env) : List Upd → Env
  | [] => env
  | u :: r => appAll (u.app env) r
structure TI where
  desc : TypeDesc
  ty : Ty
  agg : Bool
  bytes : Nat
  zero : List Cell
  eqs : Bool := false
structure Keep where
  slots : List Slot
  froz : List Slot := []
structure Ctx where
  types : List (TypeId × TI)
  globals : List (Nat × (Σ t : Ty, t.den))
  con : List (FuncId × Contract)
  mcon : List (FuncId × MContract) := []
  keep : List (Nat × Keep)
  results : List ResultVar
  ntmps : Nat
  n : Nat
def look {α : Type} : List (Nat × α) → Nat → Option α
  | [], _ => none
  | x :: r, k => bif Nat.beq x.1 k then some x.2 else look r k
def looks {α : Type} : List (Nat × α) → Nat → List α
  | [], _ => []
  | x :: r, k => bif Nat.beq x.1 k then x.2 :: looks r k else looks r k
def Ctx.ti (X : Ctx) (t : TypeId) : Rd TI := Rd.ofOpt (look X.types t)
def viewOf (x : Loc) : Cell → Cell
  | .own _ _ v _ => .view x v
  | c => c
def readCells (s : Slot) (i : Nat) : Nat → List Cell → List Cell
  | _, [] => []
  | j, c :: r => viewOf ⟨s, i, j⟩ c :: readCells s i (j + 1) r
def readTup (s : Slot) : Nat → List (Bool × List Cell) → List (Bool × List Cell)
  | _, [] => []
  | i, p :: r => (p.1, readCells s i 0 p.2) :: readTup s (i + 1) r
def asRead (s : Slot) : AV → AV
  | .val g cs => .val g (readCells s 0 0 cs)
  | .tup l => .tup (readTup s 0 l)
  | v => v
def constCell (ty : Ty) (desc : TypeDesc) : Value → Option Cell
  | .int k n => some (.int k n)
  | .bool b => some (.bool b)
  | .string s => some (.str s.data.toList)
  | .slice none 0 0 => match ty, desc with
    | .sl t, .slice e => some (.nil e t)
    | _, _ => none
  | _ => none
def allSome {α : Type} : List (Option α) → Option (List α)
  | [] => some []
  | none :: _ => none
  | some a :: r => (allSome r).map (a :: ·)
def constCells : List Value → Option (List Cell)
  | [] => some []
  | .int k n :: r => (constCells r).map (.int k n :: ·)
  | .bool b :: r => (constCells r).map (.bool b :: ·)
  | .string s :: r => (constCells r).map (.str s.data.toList :: ·)
  | _ :: _ => none
def rdOp (X : Ctx) (x : Operand) (T : TypeId) : Rd AV :=
  match x with
  | .tmp t => .get (.tmp t) fun v => .pure (asRead (.tmp t) v)
  | .const (.int k n) => .pure (.val false [.int k n])
  | .const (.bool b) => .pure (.val false [.bool b])
  | .const (.string s) => .pure (.val false [.str s.data.toList])
  | .const (.slice none 0 0) => (X.ti T).bind fun ti => (Rd.ofOpt (constCell ti.ty ti.desc (.slice none 0 0))).bind fun c => .pure (.val false [c])
  | .const (.agg cs) => (Rd.ofOpt (constCells cs.toList)).bind fun cs => .pure (.val true cs)
  | .const _ => .fail
  | .global g => .pure (.val false [.gptr g 0])
  | .func f => .pure (.val false [.func f])
def oneCell : AV → Rd Cell
  | .val false [c] => .pure c
  | _ => .fail
def rdCell (X : Ctx) (x : Operand) (T : TypeId) : Rd Cell := (rdOp X x T).bind oneCell
def rdInt (X : Ctx) (x : Operand) : Rd (IntKind × Int) := (rdCell X x 0).bind fun
  | .int k n => .pure (k, n)
  | _ => .fail
def rdBound (X : Ctx) (x : Option Operand) (d : Int) : Rd Int :=
  match x with
  | some l => (rdInt X l).bind fun p => .pure p.2
  | none => .pure d
def rdBool (X : Ctx) (x : Operand) : Rd Bool := (rdCell X x 0).bind fun
  | .bool b => .pure b
  | _ => .fail
def ownerAt (x : Loc) (ver : Nat) : Rd (TypeId × (Σ t : Ty, List t.den)) :=
  .get x.s fun v => match v.cell? x.c x.j with
    | some (.own e t v' l) => bif Nat.beq v' ver then .pure (e, ⟨t, l⟩) else .fail
    | _ => .fail
def boxAt (b bv : Nat) : Rd (Bool × List Cell) :=
  .get (.box b) fun
    | .box v fz cs => bif Nat.beq v bv then .pure (fz, cs) else .fail
    | _ => .fail
def implode : (t : Ty) → List Cell → Option (t.den × List Cell)
  | .int k, .int k' n :: r => if k = k' then some (n, r) else none
  | .bool, .bool b :: r => some (b, r)
  | .str, .str s :: r => some (s, r)
  | .unit, r => some ((), r)
  | .pair a b, cs => match implode a cs with
    | some (x, r) => match implode b r with
      | some (y, r') => some ((x, y), r')
      | none => none
    | none => none
  | .sl t, .imm t' l _ :: r => if h : t' = t then some (h ▸ l, r) else none
  | .sl _, .nil _ _ :: r => some ([], r)
  | _, _ => none
def explode : (t : Ty) → t.den → List Cell
  | .int k, n => [.int k n]
  | .bool, b => [.bool b]
  | .str, s => [.str s]
  | .unit, _ => []
  | .pair a b, x => explode a x.1 ++ explode b x.2
  | .sl t, l => [.imm t l none]
def implodeN (t : Ty) : Nat → List Cell → Option (List t.den)
  | 0, _ => some []
  | n + 1, cs => match implode t cs with
    | some (x, r) => (implodeN t n r).map (x :: ·)
    | none => none
def listOf : Cell → Rd (Σ t : Ty, List t.den)
  | .imm t l _ => .pure ⟨t, l⟩
  | .nil _ t => .pure ⟨t, []⟩
  | .view x ver => (ownerAt x ver).bind fun p => .pure p.2
  | .sub x ver sz lo hi => (ownerAt x ver).bind fun p => bif Nat.beq sz p.2.1.size then .pure ⟨p.2.1, cut p.2.2 lo hi⟩ else .fail
  | .barr b bv off n t => (boxAt b bv).bind fun p => (Rd.ofOpt (implodeN t n (readCells (.box b) 0 off (p.2.drop off)))).bind fun l => .pure ⟨t, l⟩
  | _ => .fail
inductive Src where
  | row (x : Loc)
  | arr (b bv : Nat)
def solid : Cell → Rd (Cell × List Src)
  | .view x ver => (ownerAt x ver).bind fun p => .pure (.imm p.2.1 p.2.2 none, [.row x])
  | .sub x ver sz lo hi => (ownerAt x ver).bind fun p => bif Nat.beq sz p.2.1.size then .pure (.imm p.2.1 (cut p.2.2 lo hi) none, [.row x]) else .fail
  | .barr b bv off n t => (boxAt b bv).bind fun p => (Rd.ofOpt (implodeN t n (readCells (.box b) 0 off (p.2.drop off)))).bind fun l => .pure (.imm t l none, [.arr b bv])
  | c => .pure (c, [])
def solids : List Cell → Rd (List Cell × List Src)
  | [] => .pure ([], [])
  | c :: r => (solid c).bind fun p => (solids r).bind fun q => .pure (p.1 :: q.1, p.2 ++ q.2)
def memLoc (x : Loc) : List Loc → Bool
  | [] => false
  | y :: r => Loc.beq y x || memLoc x r
def install (vn : Nat) : List Loc → List Cell → Rd (List Cell × List Upd)
  | _, [] => .pure ([], [])
  | xs, c :: r => match c with
    | .view x ver => bif x.s.isLent then (install vn xs r).bind fun q => .pure (.view x ver :: q.1, q.2) else bif memLoc x xs then .fail else
      (ownerAt x ver).bind fun p => (install vn (x :: xs) r).bind fun q => .pure (.own p.1 p.2.1 vn p.2.2 :: q.1, .cell x .undef :: q.2)
    | .own .. | .sub .. | .barr .. => .fail
    | c => (install vn xs r).bind fun q => .pure (c :: q.1, q.2)
def frost : List Loc → List Cell → Rd (List Cell × List Upd)
  | _, [] => .pure ([], [])
  | xs, c :: r => match c with
    | .view x ver => bif memLoc x xs || x.s.isLent then .fail else
      (ownerAt x ver).bind fun p => (frost (x :: xs) r).bind fun q => .pure (.imm p.2.1 p.2.2 none :: q.1, .cell x (.imm p.2.1 p.2.2 none) :: q.2)
    | .own .. | .sub .. | .barr .. => .fail
    | c => (frost xs r).bind fun q => .pure (c :: q.1, q.2)
def takeN {α : Type} : Nat → List α → Option (List α)
  | 0, _ => some []
  | _ + 1, [] => none
  | n + 1, a :: r => (takeN n r).map (a :: ·)
def selCell (i : Int) : Nat → List Cell → Nat → Nat → Option Cell
  | _, _, _, 0 => none
  | j, cs, sz, n + 1 => match cs with
    | [] => none
    | c :: _ => match n with
      | 0 => some c
      | n + 1 => match c, selCell i (j + 1) (cs.drop sz) sz (n + 1) with
        | .int k a, some (.int k' b) => if k = k' then some (.int k (bif decide (i = (j : Int)) then a else b)) else none
        | .bool a, some (.bool b) => some (.bool (bif decide (i = (j : Int)) then a else b))
        | .str a, some (.str b) => some (.str (bif decide (i = (j : Int)) then a else b))
        | _, _ => none
def selCells (i : Int) (cs : List Cell) (n sz : Nat) : Nat → Nat → Option (List Cell)
  | _, 0 => some []
  | d, m + 1 => match selCell i 0 (cs.drop d) sz n with
    | some c => (selCells i cs n sz (d + 1) m).map (c :: ·)
    | none => none
def pickCell (b : Bool) : Cell → Cell → Option Cell
  | .int k a, .int k' a' => if k = k' then some (.int k (bif b then a else a')) else none
  | .bool a, .bool a' => some (.bool (bif b then a else a'))
  | .str a, .str a' => some (.str (bif b then a else a'))
  | _, _ => none
def putCells (i : Int) (new : List Cell) (sz : Nat) : Nat → Nat → List Cell → Option (List Cell)
  | _, 0, cs => some cs
  | j, n + 1, cs =>
    match takeN sz cs with
    | none => none
    | some olds => match allSome (List.zipWith (pickCell (decide (i = (j : Int)))) new olds) with
      | none => none
      | some cs' => (putCells i new sz (j + 1) n (cs.drop sz)).map (cs' ++ ·)
def global (X : Ctx) (g : Nat) : Rd (List Cell) := (Rd.ofOpt (look X.globals g)).bind fun p => .pure (explode p.1 p.2)
def cellsAt (X : Ctx) (n : Nat) : Cell → Rd (List Cell)
  | .addr b bv off => (boxAt b bv).bind fun p => (Rd.ofOpt (takeN n (p.2.drop off))).bind fun cs => .pure (readCells (.box b) 0 off cs)
  | .addrI b bv off m sz i => (boxAt b bv).bind fun p => Rd.ofOpt (selCells i (readCells (.box b) 0 off (p.2.drop off)) m sz 0 n)
  | .gptr g off => (global X g).bind fun cs => Rd.ofOpt (takeN n (cs.drop off))
  | .gptrI g off m sz i => (global X g).bind fun cs => Rd.ofOpt (selCells i (cs.drop off) m sz 0 n)
  | .iptr t x off => Rd.ofOpt (takeN n ((explode t x).drop off))
  | .iptrI t x off m sz i => Rd.ofOpt (selCells i ((explode t x).drop off) m sz 0 n)
  | .eview x ver sz i off => (ownerAt x ver).bind fun p => bif Nat.beq sz p.2.1.size then Rd.ofOpt (takeN n ((explode p.2.1 (nth p.2.1 p.2.2 i)).drop off)) else .fail
  | .eimm t l i off => Rd.ofOpt (takeN n ((explode t (nth t l i)).drop off))
  | .eviewI x ver sz i off m sz2 j => (ownerAt x ver).bind fun p => bif Nat.beq sz p.2.1.size then Rd.ofOpt (selCells j ((explode p.2.1 (nth p.2.1 p.2.2 i)).drop off) m sz2 0 n) else .fail
  | .eimmI t l i off m sz2 j => Rd.ofOpt (selCells j ((explode t (nth t l i)).drop off) m sz2 0 n)
  | _ => .fail
def spliceAt {α : Type} : List α → Nat → List α → List α
  | l, 0, [] => l
  | [], _, _ => []
  | _ :: r, 0, v :: vs => v :: spliceAt r 0 vs
  | a :: r, n + 1, vs => a :: spliceAt r n vs
def putElem (t : Ty) (x : t.den) (off : Nat) (new : List Cell) : Option t.den :=
  match implode t (spliceAt (explode t x) off new) with
  | some (y, []) => some y
  | _ => none
def plainCell : Cell → Bool
  | .int .. | .bool .. | .str .. | .nil .. | .imm .. => true
  | _ => false
def storeAt (vn : Nat) (new : List Cell) : Cell → Rd (List Upd)
  | .addr b bv off => (boxAt b bv).bind fun p => bif p.1 then .fail else
      bif !(Nat.ble (off + new.length) p.2.length) then .fail else
      (install vn [] new).bind fun q =>
      bif q.2.any fun u => Slot.beq u.slot (.box b) then .fail else
      .pure (q.2 ++ [.set (.box b) (.box bv false (spliceAt p.2 off q.1))])
  | .addrI b bv off m sz i => (boxAt b bv).bind fun p => bif p.1 then .fail else
      bif !(Nat.beq new.length sz && Nat.ble (off + m * sz) p.2.length) then .fail else
      (Rd.ofOpt (takeN (m * sz) (p.2.drop off))).bind fun arr =>
      (Rd.ofOpt (putCells i new sz 0 m arr)).bind fun cs =>
      .pure [.set (.box b) (.box bv false (spliceAt p.2 off cs))]
  | .eview x ver sz i off => (ownerAt x ver).bind fun p => bif !(Nat.beq sz p.2.1.size) then .fail else
      bif !(new.all plainCell && Nat.ble (off + new.length) p.2.1.size) then .fail else
      (Rd.ofOpt (putElem p.2.1 (nth p.2.1 p.2.2 i) off new)).bind fun y =>
      .pure [.cell x (.own p.1 p.2.1 ver (p.2.2.set i.toNat y))]
  | .eviewI x ver sz i off m sz2 j => (ownerAt x ver).bind fun p => bif !(Nat.beq sz p.2.1.size) then .fail else
      bif !(Nat.beq new.length sz2 && Nat.ble (off + m * sz2) p.2.1.size) then .fail else
      (Rd.ofOpt (takeN (m * sz2) ((explode p.2.1 (nth p.2.1 p.2.2 i)).drop off))).bind fun arr =>
      (Rd.ofOpt (putCells j new sz2 0 m arr)).bind fun cs =>
      (Rd.ofOpt (putElem p.2.1 (nth p.2.1 p.2.2 i) off cs)).bind fun y =>
      .pure [.cell x (.own p.1 p.2.1 ver (p.2.2.set i.toNat y))]
  | _ => .fail
def structOff (desc : TypeDesc) (f : Nat) : Option (Nat × TypeId) :=
  match desc with
  | .struct fs => (fs[f]?).map fun x => (x.offset, x.type)
  | _ => none
def addrPlus (n : Nat) : Cell → Option Cell
  | .addr b bv off => some (.addr b bv (off + n))
  | .gptr g off => some (.gptr g (off + n))
  | .iptr t x off => some (.iptr t x (off + n))
  | .eview x ver sz i off => some (.eview x ver sz i (off + n))
  | .eimm t l i off => some (.eimm t l i (off + n))
  | _ => none
def addrIdx (m sz : Nat) (i : Int) : Cell → Option Cell
  | .addr b bv off => some (.addrI b bv off m sz i)
  | .gptr g off => some (.gptrI g off m sz i)
  | .iptr t x off => some (.iptrI t x off m sz i)
  | .eview x ver sz0 i0 off => some (.eviewI x ver sz0 i0 off m sz i)
  | .eimm t l i0 off => some (.eimmI t l i0 off m sz i)
  | _ => none
def intBits (op : BinOp) (k : IntKind) (x y : Int) : Int :=
  let a := BitVec.ofInt k.bits x
  let b := BitVec.ofInt k.bits y
  match op with
  | .and => k.wrap (a &&& b).toNat
  | .or => k.wrap (a ||| b).toNat
  | .xor => k.wrap (a ^^^ b).toNat
  | _ => k.wrap (a &&& ~~~b).toNat
def shlI (k : IntKind) (x y : Int) : Int := k.wrap (x * 2 ^ min y.toNat k.bits)
def shrI (k : IntKind) (x y : Int) : Int := x.fdiv (2 ^ min y.toNat k.bits)
def binInt (op : BinOp) (k : IntKind) (a b : Int) : Rd Cell :=
  match op with
  | .add => .pure (.int k (k.wrap (a + b)))
  | .sub => .pure (.int k (k.wrap (a - b)))
  | .mul => .pure (.int k (k.wrap (a * b)))
  | .quo => .guard (!decide (b = 0)) (.pure (.int k (k.wrap (a.tdiv b))))
  | .rem => .guard (!decide (b = 0)) (.pure (.int k (a.tmod b)))
  | .and => .pure (.int k (intBits .and k a b))
  | .or => .pure (.int k (intBits .or k a b))
  | .xor => .pure (.int k (intBits .xor k a b))
  | .andNot => .pure (.int k (intBits .andNot k a b))
  | .eql => .pure (.bool (decide (a = b)))
  | .neq => .pure (.bool (!decide (a = b)))
  | .lss => .pure (.bool (decide (a < b)))
  | .leq => .pure (.bool (decide (a ≤ b)))
  | .gtr => .pure (.bool (decide (a > b)))
  | .geq => .pure (.bool (decide (a ≥ b)))
  | _ => .fail
def eqInts : List Cell → List Cell → Option Bool
  | [], [] => some true
  | .int k a :: r, .int k' b :: s => if k = k' then (eqInts r s).map fun y => decide (a = b) && y else none
  | _, _ => none
theorem catS_ex : ∃ f : List UInt8 → List UInt8 → Option (List UInt8), ∀ a b, f a b = bif decide (((a.length + b.length : Nat) : Int) ≤ 9223372036854775807) then some (a ++ b) else none := ⟨_, fun _ _ => rfl⟩
noncomputable def catS (a b : List UInt8) : Option (List UInt8) := Classical.choose catS_ex a b
theorem catS_eq (a b : List UInt8) : catS a b = bif decide (((a.length + b.length : Nat) : Int) ≤ 9223372036854775807) then some (a ++ b) else none := Classical.choose_spec catS_ex a b
def binStr (op : BinOp) (a b : List UInt8) : Rd Cell :=
  match op with
  | .add => .opt (List UInt8) (catS a b) fun r => .pure (.str r)
  | .eql => .pure (.bool (a == b))
  | .neq => .pure (.bool (!(a == b)))
  | .lss => .pure (.bool (Op.bytesLess a b))
  | _ => .fail
def binAV (op : BinOp) : AV → AV → Rd Cell
  | .val false [.int k a], .val false [.int k' b] => match op with
    | .shl => .guard (decide (0 ≤ b)) (.pure (.int k (shlI k a b)))
    | .shr => .guard (decide (0 ≤ b)) (.pure (.int k (shrI k a b)))
    | op => if k = k' then binInt op k a b else .fail
  | .val false [.str a], .val false [.str b] => binStr op a b
  | _, _ => .fail
def eqFs (X : Ctx) (j : Nat) : List Field → List Cell → List Cell → Rd Bool
  | [], [], [] => .pure true
  | f :: fs, c :: cs, d :: ds => bif Nat.beq f.offset j then (X.ti f.type).bind fun tf => match tf.desc, c, d with
      | .int _, .int k a, .int k' b => if k = k' then (eqFs X (j + 1) fs cs ds).bind fun y => .pure (decide (a = b) && y) else .fail
      | .string, .str a, .str b => (eqFs X (j + 1) fs cs ds).bind fun y => .pure ((a == b) && y)
      | _, _, _ => .fail
    else .fail
  | _, _, _ => .fail
def eqArr (X : Ctx) (T : TypeId) (cs ds : List Cell) : Rd Bool :=
  (X.ti T).bind fun ti => match ti.desc with
    | .array n e => (X.ti e).bind fun te => match te.desc with
      | .int _ => bif Nat.beq cs.length n && Nat.beq ds.length n && Nat.beq te.ty.size 1 then Rd.ofOpt (eqInts cs ds) else .fail
      | _ => .fail
    | .struct fs => bif ti.eqs then eqFs X 0 fs.toList cs ds else .fail
    | _ => .fail
def fillParts (place : Nat → Option (Nat × Nat)) : List Cell → List (Nat × List Cell) → Option (List Cell)
  | cs, [] => some cs
  | cs, (i, v) :: r => match place i with
    | some (off, size) => bif Nat.beq v.length size && Nat.ble (off + size) cs.length then fillParts place (spliceAt cs off v) r else none
    | none => none
def places (X : Ctx) : List Field → Option (List (Nat × Nat))
  | [] => some []
  | f :: r => match look X.types f.type, places X r with
    | some tf, some l => some ((f.offset, tf.ty.size) :: l)
    | _, _ => none
def rdParts (X : Ctx) (T : Nat → TypeId) : List (Nat × Operand) → Rd (List (Nat × List Cell))
  | [] => .pure []
  | (i, x) :: r => (rdOp X x (T i)).bind fun
    | .val _ cs => (rdParts X T r).bind fun q => .pure ((i, cs) :: q)
    | _ => .fail
def rdArgs (X : Ctx) : List Operand → List TypeId → Rd (List (Bool × List Cell))
  | [], _ => .pure []
  | x :: r, ts => (rdOp X x (ts.headD 0)).bind fun
    | .val g cs => (rdArgs X r ts.tail).bind fun q => .pure ((g, cs) :: q)
    | _ => .fail
def solidArgs : List (Bool × List Cell) → Rd (List (Bool × List Cell) × List Src)
  | [] => .pure ([], [])
  | p :: r => (solids p.2).bind fun q => (solidArgs r).bind fun s => .pure ((p.1, q.1) :: s.1, q.2 ++ s.2)
def getPtr : Cell → Rd (List Cell × List Src)
  | .addr b bv 0 => (boxAt b bv).bind fun p => .pure (readCells (.box b) 0 0 p.2, [.arr b bv])
  | .iptr t x 0 => .pure (explode t x, [])
  | _ => .fail
def castClo {a a' b b' : List (Bool × Ty)} (h1 : a' = a) (h2 : b' = b) (F : denL a' → Option (denL b')) : denL a → Option (denL b) := h1 ▸ h2 ▸ F
def implodeArgs : (as : List ATy) → List (Bool × List Cell) → Rd (denA as × List Src)
  | [], [] => .pure ((), [])
  | .data g t :: as, (g', cs) :: r => bif g == g' then
      match implode t cs with
      | some (x, []) => (implodeArgs as r).bind fun q => .pure ((x, q.1), q.2)
      | _ => .fail
    else .fail
  | .ptr t :: as, (false, [c]) :: r => (getPtr c).bind fun p => match implode t p.1 with
      | some (x, []) => (implodeArgs as r).bind fun q => .pure ((x, q.1), p.2 ++ q.2)
      | _ => .fail
  | .clo a b :: as, (false, [.clo a' b' F]) :: r =>
      if h : a' = a ∧ b' = b then (implodeArgs as r).bind fun q => .pure ((castClo h.1 h.2 F, q.1), q.2) else .fail
  | _, _ => .fail
def implodeL : (as : List (Bool × Ty)) → List (Bool × List Cell) → Rd (denL as)
  | [], [] => .pure ()
  | p :: as, (g', cs) :: r => bif p.1 == g' then
      match implode p.2 cs with
      | some (x, []) => (implodeL as r).bind fun q => .pure (x, q)
      | _ => .fail
    else .fail
  | _, _ => .fail
inductive RCell where
  | flat (c : Cell)
  | own (e : TypeId) (t : Ty) (l : List t.den)
  | imm (t : Ty) (l : List t.den)
  | pass (j : Nat)
  | bad
def RCell.to (args : List Cell) (vn : Nat) : RCell → Cell
  | .flat c => c
  | .own e t l => .own e t vn l
  | .imm t l => .imm t l none
  | .pass j => args.getD j .undef
  | .bad => .undef
def resM : (t : Ty) → t.den → List RMode → List RCell × List RMode
  | .pair a b, x, ms =>
    let p := resM a x.1 ms
    let q := resM b x.2 p.2
    (p.1 ++ q.1, q.2)
  | .sl t, l, .own e :: ms => ([.own e t l], ms)
  | .sl t, l, .imm :: ms => ([.imm t l], ms)
  | .sl _, _, .pass j :: ms => ([.pass j], ms)
  | .sl _, _, [] => ([.bad], [])
  | .int k, n, ms => ([.flat (.int k n)], ms)
  | .bool, b, ms => ([.flat (.bool b)], ms)
  | .str, s, ms => ([.flat (.str s)], ms)
  | .unit, _, ms => ([], ms)
def resL : (R : List (Bool × Ty)) → denL R → List RMode → List (Bool × List RCell)
  | [], _, _ => []
  | p :: r, x, ms =>
    let q := resM p.2 x.1 ms
    (p.1, q.1) :: resL r x.2 q.2
def toCells (args : List Cell) (vn : Nat) (l : List (Bool × List RCell)) : List (Bool × List Cell) := l.map fun p => (p.1, p.2.map (RCell.to args vn))
def asAV : List (Bool × List Cell) → AV
  | [(g, cs)] => .val g cs
  | l => .tup l
def leads : Ty → Bool
  | .pair a b => leads a || leads b
  | .sl _ => true
  | _ => false
def splitSel (i : Int) (cs : List Cell) (sz : Nat) : Nat → Nat → Rd (List Cell)
  | _, 0 => .fail
  | k, 1 => Rd.ofOpt (takeN sz (cs.drop (k * sz)))
  | k, n + 2 => .br (decide (i = (k : Int))) (Rd.ofOpt (takeN sz (cs.drop (k * sz)))) (splitSel i cs sz (k + 1) (n + 1))
def selRd (rows : Bool) (i : Int) (cs : List Cell) (n sz : Nat) : Rd (List Cell) :=
  match rows with
  | true => splitSel i cs sz 0 n
  | false => Rd.ofOpt (selCells i cs n sz 0 sz)
def splitAddr (b bv off sz : Nat) (i : Int) : Nat → Nat → Rd Cell
  | _, 0 => .fail
  | k, 1 => .pure (.addr b bv (off + k * sz))
  | k, n + 2 => .br (decide (i = (k : Int))) (.pure (.addr b bv (off + k * sz))) (splitAddr b bv off sz i (k + 1) (n + 1))
def addrIdxRd (rows : Bool) (m sz : Nat) (i : Int) (c : Cell) : Rd Cell :=
  match rows, c with
  | true, .addr b bv off => splitAddr b bv off sz i 0 m
  | true, _ => .fail
  | false, c => Rd.ofOpt (addrIdx m sz i c)
def hasImm : List (Bool × Ty) → List RMode → Bool
  | _, ms => ms.any fun | .imm => true | _ => false
def inner : Ty → Bool
  | .pair a b => inner a || inner b
  | .sl t => leads t
  | _ => false
def freezes (R : List (Bool × Ty)) (ms : List RMode) : Bool := hasImm R ms || R.any fun p => inner p.2
def freezeAll : List Loc → List Src → Rd (List Upd)
  | _, [] => .pure []
  | _, .arr _ _ :: _ => .fail
  | xs, .row x :: r => bif memLoc x xs then freezeAll xs r else bif x.s.isLent then .fail else .get x.s fun v => match v.cell? x.c x.j with
    | some (.own _ t _ l) => (freezeAll (x :: xs) r).bind fun q => .pure (.cell x (.imm t l none) :: q)
    | _ => .fail
def callBy (C : Contract) (vn : Nat) (cs : List (Bool × List Cell)) : Rd (List (Bool × List Cell) × List Upd) :=
  (solidArgs cs).bind fun p => (implodeArgs C.As p.1).bind fun xs =>
  (bif freezes C.R C.modes then freezeAll [] (p.2 ++ xs.2) else .pure []).bind fun us =>
  .opt _ (C.F xs.1) fun r => .pure (toCells (bif freezes C.R C.modes then (p.1.map (·.2)).flatten else (cs.map (·.2)).flatten) vn (resL C.R r C.modes), us)
def callAlts (vn : Nat) (cs : List (Bool × List Cell)) (C : Contract) : List Contract → Rd (List (Bool × List Cell) × List Upd)
  | [] => callBy C vn cs
  | D :: r => (solidArgs cs).bind fun p => (implodeArgs C.As p.1).bind fun xs => .br (C.F xs.1).isSome (callBy C vn cs) (callAlts vn cs D r)
inductive Lsrc where
  | row (x : Loc) (ver : Nat) (e : TypeId) (t : Ty)
  | nil (e : TypeId) (t : Ty)
  | box (b bv : Nat) (cs : List Cell)
structure LendP (t : Ty) where
  x : t.den
  ls : List Lsrc
  cs : List Cell
  es : List TypeId
def lendCells : (t : Ty) → List TypeId → List Cell → Rd (LendP t)
  | .int k, es, .int k' n :: r => if k = k' then .pure ⟨n, [], r, es⟩ else .fail
  | .bool, es, .bool b :: r => .pure ⟨b, [], r, es⟩
  | .str, es, .str s :: r => .pure ⟨s, [], r, es⟩
  | .unit, es, r => .pure ⟨(), [], r, es⟩
  | .pair a b, es, cs => (lendCells a es cs).bind fun p => (lendCells b p.es p.cs).bind fun q => .pure ⟨(p.x, q.x), p.ls ++ q.ls, q.cs, q.es⟩
  | .sl t, e :: es, .view x ver :: r => (ownerAt x ver).bind fun p =>
      if h : p.2.1 = t ∧ p.1 = e then .pure ⟨h.1 ▸ p.2.2, [.row x ver e t], r, es⟩ else .fail
  | .sl t, e :: es, .nil _ _ :: r => bif Nat.blt 0 t.size then .pure ⟨[], [.nil e t], r, es⟩ else .fail
  | _, _, _ => .fail
def lendArgs : (As : List ATy) → List (Bool × List Cell) → Rd (denA As × List Src × List Lsrc)
  | [], [] => .pure ((), [], [])
  | .lrow g t es :: as, (g', cs) :: r => bif g == g' then
      (lendCells t es cs).bind fun p => match p.cs, p.es with
      | [], [] => (lendArgs as r).bind fun q => .pure ((p.x, q.1), q.2.1, p.ls ++ q.2.2)
      | _, _ => .fail
    else .fail
  | .lptr t :: as, (false, [.addr b bv 0]) :: r => (boxAt b bv).bind fun p => bif p.1 || !(p.2.all plainCell) then .fail else match implode t p.2 with
      | some (x, []) => (lendArgs as r).bind fun q => .pure ((x, q.1), q.2.1, .box b bv p.2 :: q.2.2)
      | _ => .fail
  | .data g t :: as, (g', cs) :: r => bif g == g' then
      (solids cs).bind fun p => match implode t p.1 with
      | some (x, []) => (lendArgs as r).bind fun q => .pure ((x, q.1), p.2 ++ q.2.1, q.2.2)
      | _ => .fail
    else .fail
  | _, _ => .fail
def boxCell (old new : Cell) : Cell :=
  match new with
  | .imm .. => match old with
    | .imm .. | .nil .. => old
    | _ => .undef
  | .int .. | .bool .. | .str .. => new
  | _ => .undef
inductive New where
  | row (t : Ty) (l : List t.den)
  | box (cs : List Cell)
def newRows : (t : Ty) → t.den → List New
  | .pair a b, x => newRows a x.1 ++ newRows b x.2
  | .sl t, l => [.row t l]
  | .int _, _ => []
  | .bool, _ => []
  | .str, _ => []
  | .unit, _ => []
def newsOf : (As : List ATy) → denM As → List New
  | [], _ => []
  | .lrow _ t _ :: as, m => newRows t m.1 ++ newsOf as m.2
  | .lptr t :: as, m => .box (explode t m.1) :: newsOf as m.2
  | .data _ _ :: as, m => newsOf as m
  | .ptr _ :: as, m => newsOf as m
  | .clo _ _ :: as, m => newsOf as m
def lendUpds : List Lsrc → List New → List Upd
  | .row x ver e t :: ls, .row t' l :: ns => if h : t' = t then .cell x (.own e t ver (h ▸ l)) :: lendUpds ls ns else lendUpds ls ns
  | .nil _ _ :: ls, _ :: ns => lendUpds ls ns
  | .box b bv cs :: ls, .box cs' :: ns => .set (.box b) (.box bv false (List.zipWith boxCell cs cs')) :: lendUpds ls ns
  | _, _ => []
def killUpds : List Lsrc → List Upd
  | [] => []
  | .row x _ _ _ :: ls => .cell x .undef :: killUpds ls
  | .nil _ _ :: ls => killUpds ls
  | .box b _ _ :: ls => .set (.box b) .undef :: killUpds ls
def flatRows : List Lsrc → Bool
  | [] => true
  | .row _ _ _ t :: ls => !(leads t) && flatRows ls
  | _ :: ls => flatRows ls
def lsrcRows : List Lsrc → List Loc
  | [] => []
  | .row x _ _ _ :: r => x :: lsrcRows r
  | _ :: r => lsrcRows r
def lsrcBoxes : List Lsrc → List Nat
  | [] => []
  | .box b _ _ :: r => b :: lsrcBoxes r
  | _ :: r => lsrcBoxes r
def distinctL : List Loc → Bool
  | [] => true
  | x :: r => !(memLoc x r) && distinctL r
def memNat (n : Nat) : List Nat → Bool
  | [] => false
  | m :: r => Nat.beq m n || memNat n r
def distinctN : List Nat → Bool
  | [] => true
  | x :: r => !(memNat x r) && distinctN r
def srcApart (rows : List Loc) (boxes : List Nat) : Src → Bool
  | .row x => !(memLoc x rows)
  | .arr b _ => !(memNat b boxes)
def lendOk (ls : List Lsrc) (ss : List Src) : Bool :=
  distinctL (lsrcRows ls) && distinctN (lsrcBoxes ls) && ss.all (srcApart (lsrcRows ls) (lsrcBoxes ls)) && ((lsrcRows ls).all fun x => match x.s with | .box b => !(memNat b (lsrcBoxes ls)) | _ => true) && flatRows ls
def callByM (C : MContract) (vn : Nat) (cs : List (Bool × List Cell)) : Rd (List (Bool × List Cell) × List Upd) :=
  (lendArgs C.As cs).bind fun p => bif !(lendOk p.2.2 p.2.1) then .fail else
  (bif freezes C.R C.modes then freezeAll [] p.2.1 else .pure []).bind fun us =>
  .opt _ (C.F p.1) fun r => .pure (toCells [] vn (resL C.R r.1 C.modes), us ++ (killUpds p.2.2 ++ lendUpds p.2.2 (newsOf C.As r.2)))
def dstSet (o : Oper) (v : AV) : List Upd :=
  match o.dst with
  | some d => [.set (.tmp d) v]
  | none => []
def putAV (o : Oper) (v : AV) : Rd (List Upd) :=
  match v with
  | .val .. | .tup .. | .skip => .pure (dstSet o v)
  | _ => .fail
def retOne (o : Oper) (c : Cell) : Rd (List Upd) := .pure (dstSet o (.val false [c]))
def srcOf (desc : TypeDesc) (c : Cell) : Rd (Σ t : Ty, List t.den) :=
  match desc, c with
  | .string, .str s => .pure ⟨.int .u8, s.map fun (c : UInt8) => (c.toNat : Int)⟩
  | .slice _, c => listOf c
  | _, _ => .fail
def ownOf (e : TypeId) (c : Cell) : Rd ((Σ t : Ty, List t.den) × List Upd) :=
  match c with
  | .view l ver => bif l.s.isLent then .fail else (ownerAt l ver).bind fun p => bif Nat.beq p.1 e then .pure (p.2, [Upd.cell l .undef]) else .fail
  | .nil _ t => .pure (⟨t, []⟩, [])
  | _ => .fail
def builtinRd (X : Ctx) (o : Oper) (vn : Nat) (b : Builtin) (c : Call) : Rd (List Upd) :=
  match b, c.args.toList, c.argTypes.toList with
  | .len, [x], [T] => (X.ti T).bind fun ti => match ti.desc with
    | .array n _ => retOne o (.int .i64 n)
    | .string => (rdCell X x T).bind fun
      | .str s => retOne o (.int .i64 (s.length : Int))
      | _ => .fail
    | .slice _ => (rdCell X x T).bind fun c => (listOf c).bind fun p => retOne o (.int .i64 (p.2.length : Int))
    | _ => .fail
  | .append, [x, y], [T, T'] => (X.ti T).bind fun ti => (X.ti T').bind fun ti' => match ti.desc, ti.ty with
    | .slice e, .sl t => (X.ti e).bind fun te =>
      (rdCell X x T).bind fun cx => (rdCell X y T').bind fun cy =>
      (srcOf ti'.desc cy).bind fun (ys : Σ t : Ty, List t.den) =>
      (ownOf e cx).bind fun (xs : (Σ t : Ty, List t.den) × List Upd) =>
      if h : xs.1.1 = t ∧ ys.1 = t ∧ te.ty = t ∧ 0 < t.size ∧ t ≠ markT then
        .guard (decide ((xs.1.2.length + ys.2.length) * te.bytes ≤ 140737488355328) && decide (xs.1.2.length + ys.2.length ≤ 140737488355328))
          (.pure (xs.2 ++ dstSet o (.val false [.own e t vn ((h.1 ▸ xs.1.2) ++ (h.2.1 ▸ ys.2))])))
      else .fail
    | _, _ => .fail
  | .max, [x, y], _ => (rdInt X x).bind fun p => (rdInt X y).bind fun q => if p.1 = q.1 then retOne o (.int p.1 (bif decide (q.2 > p.2) then q.2 else p.2)) else .fail
  | .min, [x, y], _ => (rdInt X x).bind fun p => (rdInt X y).bind fun q => if p.1 = q.1 then retOne o (.int p.1 (bif decide (q.2 < p.2) then q.2 else p.2)) else .fail
  | _, _, _ => .fail
def cloTy : List ATy → List (Bool × Ty)
  | .data g t :: r => (g, t) :: cloTy r
  | _ => []
def capTy : List ATy → List ATy
  | .data _ _ :: r => capTy r
  | l => l
def joinA : (As : List ATy) → denL (cloTy As) → denA (capTy As) → denA As
  | .data _ _ :: r, ys, xs => (ys.1, joinA r ys.2 xs)
  | [], _, _ => ()
  | .ptr _ :: _, _, xs => xs
  | .clo _ _ :: _, _, xs => xs
  | .lrow _ _ _ :: _, _, xs => xs
  | .lptr _ :: _, _, xs => xs
def ptrsOnly : List ATy → Bool
  | [] => true
  | .ptr _ :: r => ptrsOnly r
  | _ => false
def sealBoxes : List Nat → List Src → Rd (List Upd)
  | _, [] => .pure []
  | _, .row _ :: _ => .fail
  | xs, .arr b bv :: r => bif memNat b xs then sealBoxes xs r else (boxAt b bv).bind fun p =>
      bif p.1 then sealBoxes (b :: xs) r else
      bif Nat.blt b lentBase && p.2.all plainCell then (sealBoxes (b :: xs) r).bind fun q => .pure (.set (.box b) (.box bv true p.2) :: q) else .fail
def makeClo (C : Contract) (vs : List (Bool × List Cell)) : Rd (Cell × List Upd) :=
  bif ptrsOnly (capTy C.As) && !(C.R.any fun p => leads p.2) then
    (implodeArgs (capTy C.As) vs).bind fun xs => (sealBoxes [] xs.2).bind fun us =>
    .pure (.clo (cloTy C.As) C.R (fun ys => C.F (joinA C.As ys xs.1)), us)
  else .fail
def cloArg (X : Ctx) (p : Bool × List Cell) : Rd (Bool × List Cell) :=
  match p with
  | (false, [.func f]) => match look X.con f with
    | some C => (makeClo C []).bind fun q => .pure (false, [q.1])
    | none => .pure p
  | p => .pure p
def cloArgs (X : Ctx) : List (Bool × List Cell) → Rd (List (Bool × List Cell))
  | [] => .pure []
  | p :: r => (cloArg X p).bind fun p' => (cloArgs X r).bind fun r' => .pure (p' :: r')
def avCells : AV → Rd (List Cell)
  | .val true cs => .pure cs
  | _ => .fail
def replN {α : Type} : Nat → α → List α
  | 0, _ => []
  | n + 1, a => a :: replN n a
def opRd (X : Ctx) (vn : Nat) (o : Oper) : Rd (List Upd) :=
  match o.op with
  | .move x => (rdOp X x o.type).bind fun v => putAV o v
  | .assign x => match o.dst with
    | none => .fail
    | some d => (rdOp X x o.type).bind fun
      | .val g cs => (install vn [] cs).bind fun q => .pure (q.2 ++ [.set (.tmp d) (.val g q.1)])
      | .skip => .pure [.set (.tmp d) .skip]
      | _ => .fail
  | .pick c a b => (rdBool X c).bind fun t => (rdOp X a o.type).bind fun va => (rdOp X b o.type).bind fun vb =>
      match va, vb with
      | .val false [ca], .val false [cb] => match pickCell t ca cb with
        | some c => retOne o c
        | none => .br t (putAV o va) (putAV o vb)
      | va, vb => .br t (putAV o va) (putAV o vb)
  | .alloc T => match o.dst with
    | none => .fail
    | some d => (X.ti T).bind fun ti => .pure [.set (.box d) (.box vn false ti.zero), .set (.tmp d) (.val false [.addr d vn 0])]
  | .box T x => match o.dst with
    | none => .fail
    | some d => (X.ti T).bind fun ti => (rdOp X x T).bind fun
      | .val g cs => bif g == ti.agg && Nat.beq cs.length ti.ty.size then
          (install vn [] cs).bind fun q => .pure (q.2 ++ [.set (.box d) (.box vn false q.1), .set (.tmp d) (.val false [.addr d vn 0])])
        else .fail
      | _ => .fail
  | .load T a => (X.ti T).bind fun ti => (rdCell X a 0).bind fun c => (cellsAt X ti.ty.size c).bind fun cs => .pure (dstSet o (.val ti.agg cs))
  | .store T a x => match o.dst with
    | some _ => .fail
    | none => (X.ti T).bind fun ti => (rdCell X a 0).bind fun c => (rdOp X x T).bind fun
      | .val _ cs => bif Nat.beq cs.length ti.ty.size then storeAt vn cs c else .fail
      | _ => .fail
  | .nilCheck x => (rdCell X x 0).bind fun c => match c with
      | .addr .. | .iptr .. | .gptr .. => retOne o c
      | _ => .fail
  | .build T ps => (X.ti T).bind fun ti => match ti.desc with
      | .struct fs => (Rd.ofOpt (places X fs.toList)).bind fun pl => (rdParts X (fun i => ((fs[i]?).map (·.type)).getD 0) ps.toList).bind fun qs =>
          (Rd.ofOpt (fillParts (fun i => pl[i]?) ti.zero qs)).bind fun cs => .pure (dstSet o (.val true cs))
      | .array _ e => (X.ti e).bind fun te => (rdParts X (fun _ => e) ps.toList).bind fun qs =>
          (Rd.ofOpt (fillParts (fun i => some (i * te.ty.size, te.ty.size)) ti.zero qs)).bind fun cs => .pure (dstSet o (.val true cs))
      | _ => .fail
  | .buildSlice T n ps => (X.ti T).bind fun ti => match ti.desc with
      | .slice e => (X.ti e).bind fun te => (rdParts X (fun _ => e) ps.toList).bind fun qs =>
          (Rd.ofOpt (fillParts (fun i => some (i * te.ty.size, te.ty.size)) (replN n te.zero).flatten qs)).bind fun cs =>
          (frost [] cs).bind fun q =>
          (Rd.ofOpt (implodeN te.ty n q.1)).bind fun l =>
          bif Nat.blt 0 te.ty.size && Nat.ble (n * te.ty.size) 16777216 then .pure (q.2 ++ dstSet o (.val false [.own e te.ty vn l])) else .fail
      | _ => .fail
  | .makeSlice T n m => (X.ti T).bind fun ti => match ti.desc with
      | .slice e => (X.ti e).bind fun te => (rdInt X n).bind fun p => (rdInt X m).bind fun q =>
          bif Nat.blt 0 te.ty.size then
          .guard (decide (0 ≤ p.2) && decide (p.2 ≤ q.2) && decide (q.2 * te.bytes ≤ 140737488355328) && decide (q.2 ≤ 140737488355328))
            (.pure (dstSet o (.val false [.own e te.ty vn (List.replicate p.2.toNat te.ty.dflt)])))
          else .fail
      | _ => .fail
  | .binOp op T x y T' => (rdOp X x T).bind fun a => (rdOp X y T').bind fun b => match a, b with
      | .val true cs, .val true ds => match op with
        | .eql => (eqArr X T cs ds).bind fun b => retOne o (.bool b)
        | .neq => (eqArr X T cs ds).bind fun b => retOne o (.bool (!b))
        | _ => .fail
      | .val false [.bool a], .val false [.bool b] => (X.ti T).bind fun ti => match op, ti.desc with
        | .eql, .bool => retOne o (.bool (a == b))
        | .neq, .bool => retOne o (.bool (!(a == b)))
        | _, _ => .fail
      | a, b => (binAV op a b).bind fun c => retOne o c
  | .unOp op _ x => (rdCell X x 0).bind fun c => match op, c with
      | .not, .bool b => retOne o (.bool (!b))
      | .neg, .int k n => retOne o (.int k (k.wrap (0 - n)))
      | .xor, .int k n => retOne o (.int k (intBits .xor k (if k.signed then -1 else k.max) n))
      | _, _ => .fail
  | .convert src dst x => (X.ti src).bind fun ts => (X.ti dst).bind fun td => (rdCell X x src).bind fun c => match ts.desc, td.desc, c with
      | _, .int k, .int _ n => retOne o (.int k (k.wrap n))
      | .string, .string, .str s => retOne o (.str s)
      | .slice e, .string, c => (X.ti e).bind fun te => match te.desc with
        | .int .u8 => (listOf c).bind fun p => match p with
          | ⟨.int .u8, l⟩ => retOne o (.str (l.map fun (n : Int) => n.toNat.toUInt8))
          | ⟨.pair (.int .u8) .unit, l⟩ => retOne o (.str (l.map fun (n : Int × Unit) => n.1.toNat.toUInt8))
          | _ => .fail
        | _ => .fail
      | .string, .slice e, .str s => (X.ti e).bind fun te => match te.desc with
        | .int .u8 => .guard (decide (s.length ≤ 140737488355328)) (.pure (dstSet o (.val false [.own e markT vn (s.map fun (c : UInt8) => ((c.toNat : Int), ()))])))
        | _ => .fail
      | _, _, _ => .fail
  | .slice T x lo hi mx => (X.ti T).bind fun ti => match mx with
      | some _ => .fail
      | none => (rdCell X x T).bind fun c => (rdBound X lo 0).bind fun l =>
        match ti.desc, c with
        | .string, .str s => (rdBound X hi (s.length : Int)).bind fun h =>
          .guard (decide (0 ≤ l) && decide (l ≤ h) && decide (h ≤ (s.length : Int))) (retOne o (.str (cut s l h)))
        | .array n e, .addr b bv off => match lo, hi with
          | none, none => (X.ti e).bind fun te => retOne o (.barr b bv off n te.ty)
          | _, _ => .fail
        | .slice e, .view y ver => (X.ti e).bind fun te => (ownerAt y ver).bind fun p => bif Nat.beq te.ty.size p.2.1.size then
            (rdBound X hi (p.2.2.length : Int)).bind fun h =>
            .guard (decide (0 ≤ l) && decide (l ≤ h) && decide (h ≤ (p.2.2.length : Int))) (retOne o (.sub y ver p.2.1.size l h))
          else .fail
        | .slice e, .imm t s _ => (X.ti e).bind fun te => bif Nat.beq te.ty.size t.size then
            (rdBound X hi (s.length : Int)).bind fun h =>
            .guard (decide (0 ≤ l) && decide (l ≤ h) && decide (h ≤ (s.length : Int))) (retOne o (.imm t (cut s l h) none))
          else .fail
        | _, _ => .fail
  | .fieldAddr T x f => (X.ti T).bind fun ti => (Rd.ofOpt (structOff ti.desc f)).bind fun p => (X.ti p.2).bind fun tf =>
      bif Nat.beq tf.ty.size 0 then .fail else
      (rdCell X x 0).bind fun c => (Rd.ofOpt (addrPlus p.1 c)).bind fun c => retOne o c
  | .field T x f => (X.ti T).bind fun ti => (Rd.ofOpt (structOff ti.desc f)).bind fun p => (X.ti p.2).bind fun tf =>
      bif Nat.beq tf.ty.size 0 then .fail else
      (rdOp X x T).bind fun v => (avCells v).bind fun cs => (Rd.ofOpt (takeN tf.ty.size (cs.drop p.1))).bind fun cs => .pure (dstSet o (.val tf.agg cs))
  | .indexAddr T x ix => (X.ti T).bind fun ti => (rdInt X ix).bind fun p => match ti.desc with
      | .array n e => (X.ti e).bind fun te => (rdCell X x 0).bind fun c =>
          .guard (inB p.2 n) ((addrIdxRd (leads te.ty) n te.ty.size p.2 c).bind fun c => retOne o c)
      | .slice e => (X.ti e).bind fun te => (rdCell X x T).bind fun c => match c with
        | .view y ver => (ownerAt y ver).bind fun q => bif Nat.beq te.ty.size q.2.1.size then .guard (inB p.2 q.2.2.length) (retOne o (.eview y ver q.2.1.size p.2 0)) else .fail
        | .imm t l _ => bif Nat.beq te.ty.size t.size then .guard (inB p.2 l.length) (retOne o (.eimm t l p.2 0)) else .fail
        | _ => .fail
      | _ => .fail
  | .index T x ix => (X.ti T).bind fun ti => (rdInt X ix).bind fun p => match ti.desc with
      | .array n e => (X.ti e).bind fun te => (rdOp X x T).bind fun v => (avCells v).bind fun cs => bif Nat.beq te.ty.size 0 then .fail else
          .guard (inB p.2 n) ((selRd (leads te.ty) p.2 cs n te.ty.size).bind fun cs => .pure (dstSet o (.val te.agg cs)))
      | .string => (rdCell X x T).bind fun c => match c with
        | .str s => .guard (inB p.2 s.length) (retOne o (.int .u8 (byteAt s p.2)))
        | _ => .fail
      | _ => .fail
  | .extract x i => (rdOp X x 0).bind fun
      | .tup l => match l[i]? with
        | some p => .pure (dstSet o (.val p.1 p.2))
        | none => .fail
      | _ => .fail
  | .call c => match c.callee with
      | .builtin b => builtinRd X o vn b c
      | .value (.func f) => match looks X.con f with
          | C :: r => (rdArgs X c.args.toList c.argTypes.toList).bind fun as => (cloArgs X as).bind fun as => (callAlts vn as C r).bind fun q => .pure (q.2 ++ dstSet o (asAV q.1))
          | [] => (Rd.ofOpt (look X.mcon f)).bind fun C => (rdArgs X c.args.toList c.argTypes.toList).bind fun as =>
            (callByM C vn as).bind fun q => .pure (q.2 ++ dstSet o (asAV q.1))
      | .value x => (rdCell X x 0).bind fun
          | .clo as rs F => (rdArgs X c.args.toList c.argTypes.toList).bind fun vs =>
            (solidArgs vs).bind fun p => (implodeL as p.1).bind fun xs =>
            .opt _ (F xs) fun r => .pure (dstSet o (asAV (toCells [] vn (resL rs r []))))
          | .func f => (Rd.ofOpt (look X.con f)).bind fun C => (rdArgs X c.args.toList c.argTypes.toList).bind fun as =>
            (callBy C vn as).bind fun q => .pure (q.2 ++ dstSet o (asAV q.1))
          | _ => .fail
      | _ => .fail
  | .makeFunc fn first caps => match fn, first.toList with
      | .func f, [] => (Rd.ofOpt (look X.con f)).bind fun C => (rdArgs X caps.toList []).bind fun vs =>
          (makeClo C vs).bind fun q => .pure (q.2 ++ dstSet o (.val false [q.1]))
      | _, _ => .fail
  | _ => .fail
def guardTmp (ops : List Oper) (o : Oper) : Option (Option (Nat × Bool)) :=
  match o.guard with
  | none => some none
  | some (j, want) => match (ops[j]?).bind (·.dst) with
    | some d => some (some (d, want))
    | none => none
def dstB (X : Ctx) (o : Oper) : Bool :=
  match o.dst with
  | some d => Nat.blt d X.ntmps
  | none => true
def opStep (X : Ctx) (vn : Nat) (o : Oper) (wanted : Bool) : Rd (List Upd) :=
  .guard (dstB X o) (bif wanted then opRd X vn o else .pure (dstSet o .skip))
def stepRd (X : Ctx) (all : List Oper) (vn : Nat) (o : Oper) : Rd (List Upd) :=
  match guardTmp all o with
  | none => .fail
  | some none => opStep X vn o true
  | some (some (d, want)) => .get (.tmp d) fun
    | .skip => opStep X vn o false
    | .val false [.bool b] => opStep X vn o (bif b then want else !want)
    | _ => .fail
inductive Ex where
  | normal | exit (id : Nat) | goto (l : Nat) | ret
def waitsOf (bs : List Nat) (o : Oper) : Nat :=
  o.after.toList.foldl (fun s e => if Region.binds .any e then s ||| 2 ^ e.on ||| bs.getD e.on 0 else s) 0
def memSlot (s : Slot) : List Slot → Bool
  | [] => false
  | x :: r => Slot.beq x s || memSlot s r
def apart (xs ys : List Slot) : Bool := xs.all fun x => !memSlot x ys
structure Foot where
  r : List Slot
  w : List Slot
def footOk (waits : Nat) (f : Foot) : Nat → List Foot → Bool
  | _, [] => true
  | i, g :: r => (waits.testBit i || (apart f.w g.r && apart f.w g.w && apart f.r g.w)) && footOk waits f (i + 1) r
structure RegSt where
  feet : List Foot
  waits : List Nat
def edgesOk (i : Nat) (o : Oper) : Bool := o.after.toList.all fun e => !(Region.binds .any e) || Nat.blt e.on i
def forceSlot {ρ : Type} : Slot → (Slot → ρ) → ρ
  | .tmp t, k => k (.tmp t)
  | .box b, k => k (.box b)
  | .ver, k => k .ver
  | .lent b, k => k (.lent b)
def forceSlots {ρ : Type} : List Slot → (List Slot → ρ) → ρ
  | [], k => k []
  | s :: r, k => forceSlot s fun s' => forceSlots r fun r' => k (s' :: r')
def forceNat {ρ : Type} : Nat → (Nat → ρ) → ρ
  | 0, k => k 0
  | n + 1, k => k (n + 1)
theorem forceSlot_eq {ρ : Type} (s : Slot) (k : Slot → ρ) : forceSlot s k = k s := by cases s <;> rfl
theorem forceSlots_eq {ρ : Type} : ∀ (l : List Slot) (k : List Slot → ρ), forceSlots l k = k l
  | [], _ => rfl
  | s :: r, k => by rw [forceSlots, forceSlot_eq, forceSlots_eq r]
theorem forceNat_eq {ρ : Type} (n : Nat) (k : Nat → ρ) : forceNat n k = k n := by cases n <;> rfl
def runOps {ρ : Type} (X : Ctx) (draw : Bool) (all : List Oper) (vn : Nat) : List Oper → RegSt → Env → (Env → Option ρ) → Option ρ
  | [], _, env, K => K env
  | o :: r, st, env, K =>
    let go (env : Env) (wanted : Bool) (g : List Slot) : Option ρ :=
      (opStep X (vn + st.waits.length) o wanted).cps env.get g fun us lg =>
        bif draw then
          forceSlots (g ++ lg) fun gl => forceSlots (us.map Upd.slot) fun wl => forceNat (waitsOf st.waits o) fun ws =>
          let f : Foot := ⟨gl, wl⟩
          bif footOk ws f 0 st.feet && edgesOk st.waits.length o then runOps X draw all vn r ⟨st.feet ++ [f], st.waits ++ [ws]⟩ (appAll env us) K else none
        else runOps X draw all vn r ⟨[], st.waits ++ [0]⟩ (appAll env us) K
    match guardTmp all o with
    | none => none
    | some none => go env true []
    | some (some (d, want)) => match env.get (.tmp d) with
      | .skip => go env false [.tmp d]
      | .val false [.bool b] =>
        bif b then go ((.tmp d, .val false [.bool true]) :: env) want [.tmp d]
        else go ((.tmp d, .val false [.bool false]) :: env) (!want) [.tmp d]
      | _ => none
def Env.ver (env : Env) : Nat := match env.get .ver with | .num v => v | _ => 0
def canonCell (env : Env) : Cell → Cell
  | .own e t _ l => .own e t 0 l
  | .nil e t => bif Nat.blt 0 t.size then .own e t 0 [] else .nil e t
  | .view x ver => match (env.get x.s).cell? x.c x.j with
    | some (.own _ _ v _) => bif Nat.beq v ver then .view x 0 else .undef
    | _ => .undef
  | .sub .. | .barr .. | .eview .. | .eviewI .. | .addrI .. => .undef
  | .addr b bv off => match env.get (.box b) with
    | .box v _ _ => bif Nat.beq v bv then .addr b 0 off else .undef
    | _ => .undef
  | c => c
def canon (env : Env) : AV → AV
  | .val g cs => .val g (cs.map (canonCell env))
  | .box _ fz cs => .box 0 fz (cs.map (canonCell env))
  | .skip => .skip
  | _ => .undef
def restrict (ks : List Slot) (env : Env) : Env := (.ver, .num 1) :: ks.map fun s => (s, canon env (env.get s))
def freezeCell : Cell → Cell
  | .own _ t _ l => .imm t l none
  | .nil _ t => .imm t [] none
  | .imm t l _ => .imm t l none
  | c => c
def freezeAV : AV → AV
  | .val g cs => .val g (cs.map freezeCell)
  | .box v fz cs => .box v fz (cs.map freezeCell)
  | v => v
def flatCell : Cell → Bool
  | .int .. | .bool .. | .str .. => true
  | _ => false
def sealSlot (s : Slot) (env : Env) : Env :=
  match s with
  | .box b => match env.get (.box b) with
    | .box v false cs => bif Nat.blt b lentBase && cs.all flatCell then (.box b, .box v true cs) :: env else env
    | _ => env
  | _ => env
def freezeSlots : List Slot → Env → Env
  | [], env => env
  | s :: r, env => freezeSlots r (sealSlot s (bif s.isLent then env else (s, freezeAV (env.get s)) :: env))
def solidSlot (s : Slot) (env : Env) : Env :=
  match env.get s with
  | .val false [.sub x ver sz lo hi] => match (env.get x.s).cell? x.c x.j with
    | some (.own _ t v l) => bif Nat.beq v ver && (Nat.beq sz t.size && (!x.s.isLent && (!s.isLent && !Slot.beq x.s s))) then (s, .val false [.imm t (cut l lo hi) none]) :: Upd.app env (.cell x (.imm t l none)) else env
    | _ => env
  | _ => env
def solidSlots : List Slot → Env → Env
  | [], env => env
  | s :: r, env => solidSlots r (solidSlot s env)
def Keep.head (k : Keep) (env : Env) : Env := restrict k.slots (freezeSlots k.froz (solidSlots k.froz env))
def loopKey : Code → Nat
  | .region id _ _ => id
  | .seq a _ => loopKey a
  | .block _ c => loopKey c
  | .loop c => loopKey c
  | _ => 1000000
def lrun {ρ : Type} (step : Env → (Ex → Env → Option ρ) → Option ρ) (ks : Keep) : Nat → Env → (Ex → Env → Option ρ) → Option ρ
  | 0, _, _ => none
  | m + 1, env, K => step env fun e env' => match e with
    | .normal => lrun step ks m (ks.head env') K
    | e => K e env'
def sealTmp (env : Env) (c : Operand) : Env :=
  match c with
  | .tmp t => match env.get (.tmp t) with
    | .val false [.addr b bv 0] => match env.get (.box b) with
      | .box v false cs => bif Nat.beq v bv && (Nat.blt b lentBase && cs.all plainCell) then (.box b, .box v true cs) :: env else env
      | _ => env
    | _ => env
  | _ => env
def sealAll : List Operand → Env → Env
  | [], env => env
  | c :: r, env => sealAll r (sealTmp env c)
def preSeal : List Oper → Env → Env
  | [], env => env
  | o :: r, env => match o.op with
    | .makeFunc _ _ caps => preSeal r (sealAll caps.toList env)
    | _ => preSeal r env
def Ctx.pre (X : Ctx) (id : Nat) (env : Env) : Env :=
  match look X.keep (2000000 + id) with
  | some k => freezeSlots k.froz env
  | none => env
def run {ρ : Type} (X : Ctx) : Code → Env → (Ex → Env → Option ρ) → Option ρ
  | .skip, env, K => K .normal env
  | .label _, env, K => K .normal env
  | .region id ops draw, env, K =>
    let v := env.ver
    runOps X draw ops.toList v ops.toList ⟨[], []⟩ (bif draw then preSeal ops.toList (X.pre id env) else X.pre id env) fun env' => K .normal ((.ver, .num (v + ops.size)) :: env')
  | .seq a b, env, K => run X a env fun e env' => match e with
    | .normal => run X b env' K
    | e => K e env'
  | .cond c a b, env, K => (rdBool X c).cps env.get [] fun t _ => bif t then run X a env K else run X b env K
  | .block id c, env, K => run X c env fun e env' => match e with
    | .exit j => bif Nat.beq j id then K .normal env' else K (.exit j) env'
    | e => K e env'
  | .loop c, env, K => match look X.keep (loopKey c) with
    | some k => lrun (run X c) k X.n (k.head env) K
    | none => none
  | .exit id, env, K => K (.exit id) env
  | .ret, env, K => K .ret env
  | _, _, _ => none
def outCells (xs : List Loc) : List Cell → Rd (List Cell × List Loc)
  | [] => .pure ([], xs)
  | c :: r => match c with
    | .view x ver => bif memLoc x xs || x.s.isLent then .fail else
      (ownerAt x ver).bind fun p => (outCells (x :: xs) r).bind fun q => .pure (.own p.1 p.2.1 0 p.2.2 :: q.1, q.2)
    | .nil e t => bif Nat.blt 0 t.size then (outCells xs r).bind fun q => .pure (.own e t 0 [] :: q.1, q.2) else .fail
    | .int .. | .bool .. | .str .. | .imm .. => (outCells xs r).bind fun q => .pure (c :: q.1, q.2)
    | _ => .fail
def outOf (X : Ctx) (xs : List Loc) : List ResultVar → Rd Out
  | [] => .pure []
  | .tmp t :: r => .get (.tmp t) fun v => match asRead (.tmp t) v with
    | .val g cs => (outCells xs cs).bind fun p => (outOf X p.2 r).bind fun q => .pure ((g, p.1) :: q)
    | _ => .fail
  | .cell a T :: r => (X.ti T).bind fun ti => (rdCell X (.tmp a) 0).bind fun c => (cellsAt X ti.ty.size c).bind fun cs =>
      (outCells xs cs).bind fun p => (outOf X p.2 r).bind fun q => .pure ((ti.agg, p.1) :: q)
def fin (X : Ctx) : Ex → Env → Option Out
  | .normal, env | .ret, env => (outOf X [] X.results).cps env.get [] fun o _ => some o
  | _, _ => none
def argCells : (a : ATy) → a.den → Nat → Bool × List Cell
  | .data g t, x, j => (g, (explode t x).zipIdx.map fun p => match p.1 with | .imm t l _ => .imm t l (some (j + p.2)) | c => c)
  | .ptr t, x, _ => (false, [.iptr t x 0])
  | .clo as rs, F, _ => (false, [.clo as rs F])
  | .lrow g _ _, _, _ => (g, [])
  | .lptr _, _, _ => (false, [])
def argEnv : (As : List ATy) → denA As → (i j : Nat) → Env
  | [], _, _, _ => []
  | a :: r, x, i, j =>
    let p := argCells a x.1 j
    (.tmp i, .val p.1 p.2) :: argEnv r x.2 (i + 1) (j + p.2.length)
def decodeM : (t : Ty) → List RMode → List Cell → Option (t.den × List Cell × List RMode)
  | .int k, ms, .int k' n :: r => if k = k' then some (n, r, ms) else none
  | .bool, ms, .bool b :: r => some (b, r, ms)
  | .str, ms, .str s :: r => some (s, r, ms)
  | .unit, ms, r => some ((), r, ms)
  | .pair a b, ms, cs => (decodeM a ms cs).bind fun p => (decodeM b p.2.2 p.2.1).bind fun q => some ((p.1, q.1), q.2.1, q.2.2)
  | .sl t, .own e :: ms, .own e' t' _ l :: r => if h : t' = t ∧ e' = e then some (h.1 ▸ l, r, ms) else none
  | .sl t, .imm :: ms, .own _ t' _ l :: r => if h : t' = t then some (h ▸ l, r, ms) else none
  | .sl t, .imm :: ms, .imm t' l _ :: r => if h : t' = t then some (h ▸ l, r, ms) else none
  | .sl t, .pass j :: ms, .imm t' l (some j') :: r => if h : t' = t ∧ j' = j then some (h.1 ▸ l, r, ms) else none
  | _, _, _ => none
def decodeL : (R : List (Bool × Ty)) → List RMode → Out → Option (denL R)
  | [], _, [] => some ()
  | p :: R, ms, (g, cs) :: r => bif p.1 == g then
      match decodeM p.2 ms cs with
      | some (x, [], ms') => (decodeL R ms' r).map fun y => (x, y)
      | _ => none
    else none
  | _, _, _ => none
def ATy.cells : ATy → Nat
  | .data _ t => t.size
  | .lrow _ t _ => t.size
  | _ => 1
def parLen : List ATy → Nat
  | [] => 0
  | a :: r => a.cells + parLen r
def lentCells : (t : Ty) → t.den → Nat → List Cell × Nat
  | .int kd, n, k => ([.int kd n], k)
  | .bool, b, k => ([.bool b], k)
  | .str, s, k => ([.str s], k)
  | .unit, _, k => ([], k)
  | .pair a b, x, k =>
    let p := lentCells a x.1 k
    let q := lentCells b x.2 p.2
    (p.1 ++ q.1, q.2)
  | .sl _, _, k => ([.view ⟨.lent k, 0, 0⟩ 0], k + 1)
structure LentP where
  env : Env
  k : Nat
  es : List TypeId
def lentSlots : (t : Ty) → t.den → Nat → List TypeId → LentP
  | .pair a b, x, k, es =>
    let p := lentSlots a x.1 k es
    let q := lentSlots b x.2 p.k p.es
    ⟨p.env ++ q.env, q.k, q.es⟩
  | .sl t, l, k, e :: es => ⟨[(.lent k, .val false [.own e t 0 l])], k + 1, es⟩
  | .sl _, _, k, [] => ⟨[], k + 1, []⟩
  | _, _, k, es => ⟨[], k, es⟩
def tagCells (q : Nat) (cs : List Cell) : List Cell := cs.zipIdx.map fun p => match p.1 with | .imm t l _ => .imm t l (some (q + p.2)) | c => c
def argEnvM : (As : List ATy) → denA As → (i j k q : Nat) → Env
  | [], _, _, _, _, _ => []
  | .lrow g t es :: r, x, i, j, k, q =>
    let p := lentCells t x.1 k
    (.tmp i, .val g p.1) :: ((lentSlots t x.1 k es).env ++ argEnvM r x.2 (i + 1) (j + t.size) p.2 q)
  | .lptr t :: r, x, i, j, k, q =>
    (.tmp i, .val false [.addr (lentBase + k) 0 0]) :: (.box (lentBase + k), .box 0 false (tagCells q (explode t x.1))) :: argEnvM r x.2 (i + 1) (j + 1) (k + 1) (q + t.size)
  | .data g t :: r, x, i, j, k, q =>
    let p := argCells (.data g t) x.1 j
    (.tmp i, .val p.1 p.2) :: argEnvM r x.2 (i + 1) (j + p.2.length) k q
  | .ptr _ :: r, x, i, j, k, q => argEnvM r x.2 (i + 1) (j + 1) k q
  | .clo _ _ :: r, x, i, j, k, q => argEnvM r x.2 (i + 1) (j + 1) k q
def outRows : (t : Ty) → Nat → Rd (List Cell × Nat)
  | .pair a b, k => (outRows a k).bind fun p => (outRows b p.2).bind fun q => .pure (p.1 ++ q.1, q.2)
  | .sl _, k => .get (.lent k) fun
    | .val false [.own e t v l] => .pure ([.own e t v l], k + 1)
    | _ => .fail
  | _, k => .pure ([], k)
def outM : List ATy → Nat → Rd Out
  | [], _ => .pure []
  | .lrow _ t _ :: r, k => (outRows t k).bind fun p => (outM r p.2).bind fun q => .pure ((true, p.1) :: q)
  | .lptr _ :: r, k => .get (.box (lentBase + k)) fun
    | .box _ false cs => bif cs.all plainCell then (outM r (k + 1)).bind fun q => .pure ((true, cs) :: q) else .fail
    | _ => .fail
  | .data _ _ :: r, k => outM r k
  | .ptr _ :: r, k => outM r k
  | .clo _ _ :: r, k => outM r k
def finM (X : Ctx) (As : List ATy) : Ex → Env → Option Out
  | .normal, env | .ret, env => ((outOf X [] X.results).bind fun o => (outM As 0).bind fun m => .pure (o ++ m)).cps env.get [] fun o _ => some o
  | _, _ => none
structure RowP (t : Ty) where
  x : t.den
  cs : List Cell
  es : List TypeId
def rowsIn : (t : Ty) → List TypeId → List Cell → Option (RowP t)
  | .pair a b, es, cs => (rowsIn a es cs).bind fun p => (rowsIn b p.es p.cs).map fun q => ⟨(p.x, q.x), q.cs, q.es⟩
  | .sl t, e :: es, .own e' t' _ l :: r => if h : t' = t ∧ e' = e then some ⟨h.1 ▸ l, r, es⟩ else none
  | .sl _, _, _ => none
  | .int _, es, cs => some ⟨(0 : Int), cs, es⟩
  | .bool, es, cs => some ⟨false, cs, es⟩
  | .str, es, cs => some ⟨[], cs, es⟩
  | .unit, es, cs => some ⟨(), cs, es⟩
structure BoxP (t : Ty) where
  x : t.den
  cs : List Cell
  q : Nat
def boxIn : (t : Ty) → Nat → List Cell → Option (BoxP t)
  | .int k, q, .int k' n :: r => if k = k' then some ⟨n, r, q + 1⟩ else none
  | .bool, q, .bool b :: r => some ⟨b, r, q + 1⟩
  | .str, q, .str s :: r => some ⟨s, r, q + 1⟩
  | .unit, q, r => some ⟨(), r, q⟩
  | .pair a b, q, cs => (boxIn a q cs).bind fun p => (boxIn b p.q p.cs).map fun p2 => ⟨(p.x, p2.x), p2.cs, p2.q⟩
  | .sl t, q, .imm t' l (some j) :: r => if h : t' = t ∧ j = q then some ⟨h.1 ▸ l, r, q + 1⟩ else none
  | _, _, _ => none
def decodeM' : (As : List ATy) → Nat → Out → Option (denM As)
  | [], _, [] => some ()
  | .lrow _ t es :: r, q, (_, cs) :: o => match rowsIn t es cs with
    | some ⟨y, [], []⟩ => (decodeM' r q o).map fun m => (y, m)
    | _ => none
  | .lptr t :: r, q, (_, cs) :: o => match boxIn t q cs with
    | some ⟨y, [], q'⟩ => (decodeM' r q' o).map fun m => (y, m)
    | _ => none
  | .data _ _ :: r, q, o => decodeM' r q o
  | .ptr _ :: r, q, o => decodeM' r q o
  | .clo _ _ :: r, q, o => decodeM' r q o
  | _, _, _ => none
def decodeLM (R : List (Bool × Ty)) (ms : List RMode) (As : List ATy) (o : Out) : Option (denL R × denM As) :=
  (decodeL R ms (o.take R.length)).bind fun r => (decodeM' As (parLen As) (o.drop R.length)).map fun m => (r, m)
def hasLoop (key : Nat) : Code → Bool
  | .seq a b => hasLoop key a || hasLoop key b
  | .cond _ a b => hasLoop key a || hasLoop key b
  | .block _ c => hasLoop key c
  | .loop c => Nat.beq (loopKey c) key || hasLoop key c
  | _ => false
def atLoop {ρ : Type} (X : Ctx) (key : Nat) : List Nat → Env → Code → (Ex → Env → Option ρ) → Option ρ
  | ms, env, .seq a b, K => bif hasLoop key a then
      atLoop X key ms env a fun e env' => match e with
        | .normal => run X b env' K
        | e => K e env'
    else atLoop X key ms env b K
  | ms, env, .cond _ a b, K => bif hasLoop key a then atLoop X key ms env a K else atLoop X key ms env b K
  | ms, env, .block id c, K => atLoop X key ms env c fun e env' => match e with
    | .exit j => bif Nat.beq j id then K .normal env' else K (.exit j) env'
    | e => K e env'
  | ms, env, .loop c, K => match look X.keep (loopKey c) with
    | some k => bif Nat.beq (loopKey c) key then lrun (run X c) k (ms.headD 0) env K
      else atLoop X key ms.tail env c fun e env' => match e with
        | .normal => lrun (run X c) k (ms.headD 0) (k.head env') K
        | e => K e env'
    | none => none
  | _, _, _, _ => none
def finD (X : Ctx) (R : List (Bool × Ty)) (ms : List RMode) (e : Ex) (env : Env) : Option (denL R) := (fin X e env).bind (decodeL R ms)
def loopF (X : Ctx) (c : Code) (R : List (Bool × Ty)) (ms : List RMode) (key : Nat) (ns : List Nat) (env : Env) : Option (denL R) := atLoop X key ns env c (finD X R ms)
def runF (X : Ctx) (c : Code) (As : List ATy) (R : List (Bool × Ty)) (ms : List RMode) (xs : denA As) : Option (denL R) := run X c (argEnv As xs 0 0) (finD X R ms)
def finMD (X : Ctx) (As : List ATy) (R : List (Bool × Ty)) (ms : List RMode) (e : Ex) (env : Env) : Option (denL R × denM As) := (finM X As e env).bind (decodeLM R ms As)
def loopFM (X : Ctx) (c : Code) (As : List ATy) (R : List (Bool × Ty)) (ms : List RMode) (key : Nat) (ns : List Nat) (env : Env) : Option (denL R × denM As) := atLoop X key ns env c (finMD X As R ms)
def runFM (X : Ctx) (c : Code) (As : List ATy) (R : List (Bool × Ty)) (ms : List RMode) (xs : denA As) : Option (denL R × denM As) := run X c ((.ver, .num 1) :: argEnvM As xs 0 0 0 (parLen As)) (finMD X As R ms)
def ofRunM (X : Ctx) (c : Code) (As : List ATy) (R : List (Bool × Ty)) (ms : List RMode) : MContract := ⟨As, R, ms, runFM X c As R ms⟩
def ofRun (X : Ctx) (c : Code) (As : List ATy) (R : List (Bool × Ty)) (ms : List RMode) : Contract := ⟨As, R, ms, runF X c As R ms⟩
end
end Go.VI
namespace Go.VI
open Go.RowKit
theorem Slot.beq_iff {a b : Slot} : Slot.beq a b = true ↔ a = b := by
  cases a <;> cases b <;> simp [Slot.beq]
theorem Slot.beq_self (a : Slot) : Slot.beq a a = true := Slot.beq_iff.2 rfl
theorem Slot.beq_ne {a b : Slot} (h : a ≠ b) : Slot.beq a b = false := by
  cases hb : Slot.beq a b
  · rfl
  · exact absurd (Slot.beq_iff.1 hb) h
theorem Loc.beq_iff {x y : Loc} : Loc.beq x y = true ↔ x = y := by
  cases x; cases y
  simp [Loc.beq, Slot.beq_iff, and_assoc]
theorem Env.get_cons_self (env : Env) (s : Slot) (v : AV) : Env.get ((s, v) :: env) s = v := by
  simp [Env.get, Slot.beq_self]
theorem Env.get_cons_ne (env : Env) {s s' : Slot} (v : AV) (h : s ≠ s') : Env.get ((s, v) :: env) s' = env.get s' := by
  simp [Env.get, Slot.beq_ne h]
theorem Env.get_cons (env : Env) (s s' : Slot) (v : AV) : Env.get ((s, v) :: env) s' = if s = s' then v else env.get s' := by
  by_cases h : s = s'
  · subst h; simp [Env.get_cons_self]
  · simp [Env.get_cons_ne _ _ h, h]
theorem setNth_getElem? {α : Type} (l : List α) (n m : Nat) (v : α) : (setNth l n v)[m]? = if n = m ∧ n < l.length then some v else l[m]? := by
  induction l generalizing n m with
  | nil => simp [setNth]
  | cons a r ih =>
    cases n with
    | zero => cases m <;> simp [setNth]
    | succ n => cases m with
      | zero => simp [setNth]
      | succ m => simp [setNth, ih]
theorem setNth_length {α : Type} (l : List α) (n : Nat) (v : α) : (setNth l n v).length = l.length := by
  induction l generalizing n with
  | nil => rfl
  | cons a r ih => cases n <;> simp [setNth, ih]
theorem AV.cell?_setCell (v : AV) (i j i' j' : Nat) (c : Cell) :
    (v.setCell i j c).cell? i' j' = if (j' = j ∧ i' = i) ∧ (v.cell? i j).isSome then some c else v.cell? i' j' := by
  cases v with
  | undef => simp [AV.setCell, AV.cell?]
  | skip => simp [AV.setCell, AV.cell?]
  | num n => simp [AV.setCell, AV.cell?]
  | val g cs =>
    cases i with
    | succ i => simp [AV.setCell, AV.cell?]
    | zero =>
      cases i' with
      | succ i' => simp [AV.setCell, AV.cell?]
      | zero =>
        simp only [AV.setCell, AV.cell?, setNth_getElem?]
        by_cases h : j' = j
        · subst h
          by_cases h2 : j' < cs.length <;> simp [h2]
        · simp [h, Ne.symm h]
  | box w fz cs =>
    cases i with
    | succ i => simp [AV.setCell, AV.cell?]
    | zero =>
      cases i' with
      | succ i' => simp [AV.setCell, AV.cell?]
      | zero =>
        simp only [AV.setCell, AV.cell?, setNth_getElem?]
        by_cases h : j' = j
        · subst h
          by_cases h2 : j' < cs.length <;> simp [h2]
        · simp [h, Ne.symm h]
  | tup l =>
    simp only [AV.setCell, AV.cell?]
    by_cases hi : i < l.length
    · have hl : l[i]? = some l[i] := List.getElem?_eq_getElem hi
      simp only [hl, setNth_getElem?, hi, and_true, Option.bind_some]
      by_cases h : i = i'
      · subst h
        simp only [if_true, Option.bind_some, hl, and_true, setNth_getElem?]
        by_cases h3 : j' = j
        · subst h3
          by_cases h2 : j' < l[i].2.length <;> simp [h2]
        · simp [h3, Ne.symm h3]
      · simp [h, Ne.symm h]
    · have hl : l[i]? = none := List.getElem?_eq_none (by omega)
      simp [hl]
def RepI (Z : Nat → Prop) (w : World) : (t : Ty) → t.den → List Value → Prop
  | .int k, n, cs => cs = [.int k n]
  | .bool, b, cs => cs = [.bool b]
  | .str, s, cs => cs = [.string ⟨s.toArray⟩]
  | .unit, _, cs => cs = []
  | .pair a b, x, cs => ∃ c1 c2, cs = c1 ++ c2 ∧ RepI Z w a x.1 c1 ∧ RepI Z w b x.2 c2
  | .sl t, l, cs => ∃ A c, cs = [.slice A l.length c] ∧ l.length ≤ c ∧
      ∀ i x, l[i]? = some x → ∃ a, A = some a ∧ Z a.block ∧ ∃ xs, RepI Z w t x xs ∧ ∀ j v, xs[j]? = some v → w.cell? (a.add (i * t.size + j)) = some v
theorem RepI.mono {Z Z' : Nat → Prop} {w w' : World} (hZ : ∀ g, Z g → Z' g) (hw : ∀ g, Z g → w'.heap[g]? = w.heap[g]?) :
    ∀ (t : Ty) (x : t.den) (cs : List Value), RepI Z w t x cs → RepI Z' w' t x cs
  | .int _, _, _, h => h
  | .bool, _, _, h => h
  | .str, _, _, h => h
  | .unit, _, _, h => h
  | .pair a b, x, cs, ⟨c1, c2, h0, h1, h2⟩ => ⟨c1, c2, h0, RepI.mono hZ hw a _ _ h1, RepI.mono hZ hw b _ _ h2⟩
  | .sl t, l, cs, ⟨A, c, h0, hc, h1⟩ => ⟨A, c, h0, hc, fun i x hx => by
      obtain ⟨a, hA, hz, xs, hr, hcell⟩ := h1 i x hx
      exact ⟨a, hA, hZ _ hz, xs, RepI.mono hZ hw t x xs hr, fun j v hv => by
        rw [World.cell?_of_block (w := w)]
        · exact hcell j v hv
        · have hb : ∀ n, (a.add n).block = a.block := fun n => by unfold Addr.add; split <;> rfl
          rw [hb]; exact hw _ hz⟩⟩
theorem RepI.length {Z : Nat → Prop} {w : World} : ∀ (t : Ty) (x : t.den) (cs : List Value), RepI Z w t x cs → cs.length = t.size
  | .int _, _, _, h => by rw [h]; rfl
  | .bool, _, _, h => by rw [h]; rfl
  | .str, _, _, h => by rw [h]; rfl
  | .unit, _, _, h => by rw [h]; rfl
  | .pair a b, x, cs, ⟨c1, c2, h0, h1, h2⟩ => by rw [h0, List.length_append, RepI.length a _ _ h1, RepI.length b _ _ h2]; rfl
  | .sl t, l, cs, ⟨A, c, h0, _, _⟩ => by rw [h0]; rfl
theorem RepI.one {Z : Nat → Prop} {w : World} : ∀ (t : Ty) (x : t.den) (cs : List Value), RepI Z w t x cs → ∀ u ∈ cs, u.oneCell' = true
  | .int _, _, _, h => by rw [h]; simp [Value.oneCell']
  | .bool, _, _, h => by rw [h]; simp [Value.oneCell']
  | .str, _, _, h => by rw [h]; simp [Value.oneCell']
  | .unit, _, _, h => by rw [h]; simp
  | .pair a b, x, cs, ⟨c1, c2, h0, h1, h2⟩ => by
    rw [h0]
    intro u hu
    rcases List.mem_append.1 hu with hu | hu
    · exact RepI.one a _ _ h1 u hu
    · exact RepI.one b _ _ h2 u hu
  | .sl t, l, cs, ⟨A, c, h0, _, _⟩ => by rw [h0]; simp [Value.oneCell']
theorem RepI.flat {Z Z' : Nat → Prop} {w w' : World} : ∀ (t : Ty), leads t = false → ∀ (x : t.den) (cs : List Value), RepI Z w t x cs → RepI Z' w' t x cs
  | .int _, _, _, _, h => h
  | .bool, _, _, _, h => h
  | .str, _, _, _, h => h
  | .unit, _, _, _, h => h
  | .pair a b, hl, x, cs, ⟨c1, c2, h0, h1, h2⟩ => by
    simp only [leads, Bool.or_eq_false_iff] at hl
    exact ⟨c1, c2, h0, RepI.flat a hl.1 _ _ h1, RepI.flat b hl.2 _ _ h2⟩
  | .sl t, hl, _, _, _ => by simp [leads] at hl
def RepsL (Z : Nat → Prop) (w : World) (t : Ty) : List t.den → List Value → Prop
  | [], cs => cs = []
  | x :: r, cs => ∃ c1 c2, cs = c1 ++ c2 ∧ RepI Z w t x c1 ∧ RepsL Z w t r c2
theorem RepsL.mono {Z Z' : Nat → Prop} {w w' : World} (hZ : ∀ g, Z g → Z' g) (hw : ∀ g, Z g → w'.heap[g]? = w.heap[g]?) {t : Ty} :
    ∀ (l : List t.den) (cs : List Value), RepsL Z w t l cs → RepsL Z' w' t l cs
  | [], _, h => h
  | _ :: r, _, ⟨c1, c2, h0, h1, h2⟩ => ⟨c1, c2, h0, RepI.mono hZ hw _ _ _ h1, RepsL.mono hZ hw r _ h2⟩
theorem RepsL.length {Z : Nat → Prop} {w : World} {t : Ty} : ∀ (l : List t.den) (cs : List Value), RepsL Z w t l cs → cs.length = l.length * t.size
  | [], _, h => by rw [h]; simp
  | x :: r, _, ⟨c1, c2, h0, h1, h2⟩ => by
    rw [h0, List.length_append, RepI.length _ _ _ h1, RepsL.length r _ h2, List.length_cons, Nat.succ_mul]; omega
theorem RepsL.one {Z : Nat → Prop} {w : World} {t : Ty} : ∀ (l : List t.den) (cs : List Value), RepsL Z w t l cs → ∀ u ∈ cs, u.oneCell' = true
  | [], _, h => by rw [h]; simp
  | x :: r, _, ⟨c1, c2, h0, h1, h2⟩ => by
    rw [h0]
    intro u hu
    rcases List.mem_append.1 hu with hu | hu
    · exact RepI.one _ _ _ h1 u hu
    · exact RepsL.one r _ h2 u hu
theorem RepsL.flat {Z Z' : Nat → Prop} {w w' : World} {t : Ty} (ht : leads t = false) : ∀ (l : List t.den) (cs : List Value), RepsL Z w t l cs → RepsL Z' w' t l cs
  | [], _, h => h
  | _ :: r, _, ⟨c1, c2, h0, h1, h2⟩ => ⟨c1, c2, h0, RepI.flat _ ht _ _ h1, RepsL.flat ht r _ h2⟩
theorem RepsL.append {Z : Nat → Prop} {w : World} {t : Ty} : ∀ (l m : List t.den) (cs ds : List Value), RepsL Z w t l cs → RepsL Z w t m ds → RepsL Z w t (l ++ m) (cs ++ ds)
  | [], m, cs, ds, h, h' => by rw [show cs = [] from h]; simpa using h'
  | x :: r, m, _, ds, ⟨c1, c2, h0, h1, h2⟩, h' => ⟨c1, c2 ++ ds, by rw [h0, List.append_assoc], h1, RepsL.append r m c2 ds h2 h'⟩
theorem RepsL.at {Z : Nat → Prop} {w : World} {t : Ty} : ∀ (l : List t.den) (cs : List Value), RepsL Z w t l cs → ∀ i x, l[i]? = some x →
    ∃ xs, RepI Z w t x xs ∧ ∀ j v, xs[j]? = some v → cs[i * t.size + j]? = some v
  | [], _, _, i, x, hx => by simp at hx
  | y :: r, cs, ⟨c1, c2, h0, h1, h2⟩, i, x, hx => by
    have hlen := RepI.length _ _ _ h1
    cases i with
    | zero =>
      simp at hx
      subst hx
      refine ⟨c1, h1, fun j v hv => ?_⟩
      rw [h0, Nat.zero_mul, Nat.zero_add, List.getElem?_append_left]
      · exact hv
      · rcases Nat.lt_or_ge j c1.length with h | h
        · exact h
        · simp [List.getElem?_eq_none h] at hv
    | succ i =>
      simp at hx
      obtain ⟨xs, hr, hc⟩ := RepsL.at r c2 h2 i x hx
      refine ⟨xs, hr, fun j v hv => ?_⟩
      rw [h0, List.getElem?_append_right (by rw [hlen, Nat.succ_mul]; omega), hlen]
      rw [← hc j v hv]
      congr 1
      rw [Nat.succ_mul]; omega
def OwnRow (w : World) (B : Nat) (e : TypeId) (t : Ty) (v : Value) (n : Nat) (xs : List Value) : Prop :=
  xs.length = n * t.size ∧
  ((v = .slice none 0 0 ∧ n = 0) ∨
   ∃ g cap cur fz, v = .slice (some ⟨g, 0, none⟩) n cap ∧ B ≤ g ∧ w.heap[g]? = some (.cells cur e fz) ∧ (fz = (0, 0) ∨ t = markT ∧ fz = (cap, cap + 1)) ∧ n ≤ cap ∧ cap ≤ maxLen ∧ cur.size = cap * t.size ∧ cur.toList.take (n * t.size) = xs)
theorem OwnRow.of {w : World} {B : Nat} {e : TypeId} {t : Ty} {v : Value} {n : Nat} {xs : List Value} (h : w.ownsRow B e t.size v n xs) : OwnRow w B e t v n xs := by
  refine ⟨h.1, ?_⟩
  rcases h.2 with hn | ⟨g, cap, cur, h1, h2, h3, rest⟩
  · exact .inl hn
  · exact .inr ⟨g, cap, cur, (0, 0), h1, h2, h3, .inl rfl, rest⟩
theorem OwnRow.plain {w : World} {B : Nat} {e : TypeId} {t : Ty} {v : Value} {n : Nat} {xs : List Value} (h : OwnRow w B e t v n xs) (ht : t ≠ markT) : w.ownsRow B e t.size v n xs := by
  refine ⟨h.1, ?_⟩
  rcases h.2 with hn | ⟨g, cap, cur, fz, h1, h2, h3, hf, rest⟩
  · exact .inl hn
  · rcases hf with rfl | ⟨hf, _⟩
    · exact .inr ⟨g, cap, cur, h1, h2, h3, rest⟩
    · exact absurd hf ht
theorem OwnRow.cells {w : World} {B : Nat} {e : TypeId} {t : Ty} {v : Value} {n : Nat} {xs : List Value} (h : OwnRow w B e t v n xs) {g : Nat} (hg : v.ownBlock = some g) : ∀ j u, xs[j]? = some u → w.cell? ((⟨g, 0, none⟩ : Addr).add j) = some u := by
  intro j u hu
  rcases h.2 with ⟨rfl, _⟩ | ⟨g', cap, cur, fz, rfl, _, hgg, _, _, _, _, htake⟩
  · simp [Value.ownBlock] at hg
  · simp [Value.ownBlock] at hg
    subst hg
    have hadd : (⟨g', 0, none⟩ : Addr).add j = ⟨g', j, none⟩ := by unfold Addr.add; split <;> simp_all
    rw [hadd, cell_of_row w g' j cur e fz hgg]
    rw [← htake, List.getElem?_take] at hu
    split at hu
    · simpa using hu
    · cases hu
def OwnV (Z : Nat → Prop) (w : World) (B : Nat) (e : TypeId) (t : Ty) (v : Value) (l : List t.den) : Prop :=
  0 < t.size ∧ ∃ xs, OwnRow w B e t v l.length xs ∧ RepsL Z w t l xs
theorem OwnV.mono {Z Z' : Nat → Prop} {w w' : World} {B : Nat} {e : TypeId} {t : Ty} {v : Value} {l : List t.den} (h : OwnV Z w B e t v l)
    (hZ : ∀ g, Z g → Z' g) (hw : ∀ g, Z g → w'.heap[g]? = w.heap[g]?) (hv : ∀ g, v.ownBlock = some g → w'.heap[g]? = w.heap[g]?) : OwnV Z' w' B e t v l := by
  obtain ⟨h0, xs, ho, hr⟩ := h
  refine ⟨h0, xs, ⟨ho.1, ?_⟩, RepsL.mono hZ hw l xs hr⟩
  rcases ho.2 with hn | ⟨g, cap, cur, fz, rfl, hb, hg, rest⟩
  · exact .inl hn
  · exact .inr ⟨g, cap, cur, fz, rfl, hb, by rw [hv g (by simp [Value.ownBlock])]; exact hg, rest⟩
theorem OwnV.flat {Z Z' : Nat → Prop} {w : World} {B : Nat} {e : TypeId} {t : Ty} {v : Value} {l : List t.den} (h : OwnV Z w B e t v l) (ht : leads t = false) : OwnV Z' w B e t v l := by
  obtain ⟨h0, xs, ho, hr⟩ := h
  exact ⟨h0, xs, ho, RepsL.flat ht l xs hr⟩
theorem OwnV.reads {Z : Nat → Prop} {w : World} {B : Nat} {e : TypeId} {t : Ty} {v : Value} {l : List t.den} (h : OwnV Z w B e t v l) (Z' : Nat → Prop) (hZ : ∀ g, Z g → Z' g)
    (hv : ∀ g, v.ownBlock = some g → Z' g) : RepI Z' w (.sl t) l [v] := by
  obtain ⟨h0, xs, ho, hr⟩ := h
  rcases ho.2 with ⟨rfl, hn⟩ | ⟨g, cap, cur, fz, rfl, hb, hg, _, hnc, hcm, hcs, htake⟩
  · refine ⟨none, 0, by rw [hn], by rw [hn]; exact Nat.le_refl _, fun i x hx => ?_⟩
    have : l = [] := List.eq_nil_of_length_eq_zero hn
    subst this
    simp at hx
  · refine ⟨some ⟨g, 0, none⟩, cap, rfl, hnc, fun i x hx => ?_⟩
    obtain ⟨ys, hy, hc⟩ := RepsL.at l xs hr i x hx
    refine ⟨_, rfl, hv g (by simp [Value.ownBlock]), ys, RepI.mono hZ (fun _ _ => rfl) _ _ _ hy, fun j u hu => ?_⟩
    have hadd : ∀ n, (⟨g, 0, none⟩ : Addr).add n = ⟨g, n, none⟩ := fun n => by unfold Addr.add; split <;> simp_all
    have hx2 := hc j u hu
    rw [hadd, cell_of_row w g _ cur e fz hg]
    rw [← htake, List.getElem?_take] at hx2
    split at hx2
    · simpa using hx2
    · cases hx2
theorem OwnV.slice {Z : Nat → Prop} {w : World} {B : Nat} {e : TypeId} {t : Ty} {v : Value} {l : List t.den} (h : OwnV Z w B e t v l) :
    ∃ A c, v = .slice A l.length c ∧ l.length ≤ c := by
  obtain ⟨_, xs, ho, _⟩ := h
  rcases ho.2 with ⟨rfl, hn⟩ | ⟨g, cap, cur, fz, rfl, hb, hg, _, hnc, _⟩
  · exact ⟨none, 0, by rw [hn], by rw [hn]; exact Nat.le_refl _⟩
  · exact ⟨_, _, rfl, hnc⟩
theorem OwnV.lt {Z : Nat → Prop} {w : World} {B : Nat} {e : TypeId} {t : Ty} {v : Value} {l : List t.den} (h : OwnV Z w B e t v l) : ∀ g, v.ownBlock = some g → B ≤ g ∧ g < w.heap.size := by
  obtain ⟨_, xs, ho, _⟩ := h
  intro k hk
  rcases ho.2 with ⟨rfl, _⟩ | ⟨g, cap, cur, fz, rfl, hb, hg, _⟩
  · simp [Value.ownBlock] at hk
  · simp [Value.ownBlock] at hk
    subst hk
    exact ⟨hb, (Array.getElem?_eq_some_iff.1 hg).1⟩
theorem OwnV.nil {Z : Nat → Prop} {w : World} {B : Nat} {e : TypeId} {t : Ty} (ht : 0 < t.size) : OwnV Z w B e t (.slice none 0 0) [] :=
  ⟨ht, [], OwnRow.of (World.ownsRow_nil w B e t.size), rfl⟩
end Go.VI
