/-
  An abstract machine of this place's own: its values, its memory, what each operation does to them. It computes; nothing is proved here. No condition.
-/
import Derived.Test.YtibdplfdmncgiaaProg
import Derived.WalkKit
import Derived.WalkSpells
import Derived.WalkLawsBesides
import Derived.Deep.MidRow
import Derived.Lib.Hide
set_option linter.all false
namespace Go.Proofs.Ytibdplfdmncgiaa
namespace E

/-- What a cell holds: a value without an address; a pointer into a block; a pointer into a variable of the frame; a slice; a map; a function with captured variables. -/
inductive C where
  | lit (v : Value)
  | ptr (b o : Nat)
  | lp (t o : Nat)
  | sl (b o len cap : Nat)
  | mp (b : Nat)
  | fn (f : FuncId) (caps : List (Nat × Nat))
  deriving Inhabited

/-- A value: of one cell, of cells, several results. -/
inductive V where
  | one (c : C)
  | agg (cs : List C)
  | tup (vs : List V)
  deriving Inhabited

/-- A block of memory: a row of cells (that may be written, or not); a map. -/
inductive Blk where
  | row (rw : Bool) (sz : Nat) (cs : List C)
  | map (es : List (Value × V × Nat)) (clock : Nat)
  deriving Inhabited

def Blk.rw : Blk → Bool
  | .row rw _ _ => rw
  | .map .. => true

def get {α : Type} : List (Nat × α) → Nat → Option α
  | [], _ => none
  | (k, x) :: l, t => cond (Nat.beq k t) (some x) (get l t)

def setL {α : Type} (b : Nat) (x : α) : List (Nat × α) → List (Nat × α)
  | [] => [(b, x)]
  | (k, y) :: l => cond (Nat.beq k b) ((k, x) :: l) ((k, y) :: setL b x l)

def delL {α : Type} (b : Nat) : List (Nat × α) → List (Nat × α)
  | [] => []
  | (k, y) :: l => cond (Nat.beq k b) (delL b l) ((k, y) :: delL b l)

/-- The blocks, and the number of the next one. -/
structure Heap where
  next : Nat
  bs : List (Nat × Blk)
  deriving Inhabited

def Heap.get (h : Heap) (b : Nat) : Option Blk := E.get h.bs b
def Heap.set (h : Heap) (b : Nat) (x : Blk) : Heap := { h with bs := setL b x h.bs }
def Heap.del (h : Heap) (b : Nat) : Heap := { h with bs := delL b h.bs }

/-- A frame's slots, its variables that lie in memory and whose addresses stay in the frame, and the blocks. -/
structure St where
  env : List (Nat × V)
  bx : List (Nat × List C)
  h : Heap
  deriving Inhabited

/-- What a type is. -/
structure TI where
  size : Nat
  bytes : Nat
  zero : Option Value
  desc : TypeDesc

def tiOf (P : Program) (t : TypeId) : Option TI :=
  match P.info? t, P.underlying t with
  | some i, some d => some ⟨i.size, i.bytes, i.zero, d⟩
  | _, _ => none

/-- What the machine is told of the program: the types; which types compare cell by cell. -/
inductive CK where
  | i | b | s
  deriving DecidableEq

structure Ctx where
  tt : TypeId → Option TI
  flat : TypeId → Option (List CK)

def undefC : V := .one (.lit undef)

def V.ofVal : Value → V
  | .agg cs => .agg (cs.toList.map .lit)
  | v => .one (.lit v)

/-- A cell that may be kept in memory. -/
def C.ok : C → Bool
  | .lit (.agg _) | .lit (.tuple _) | .lp .. => false
  | _ => true

def V.cells : V → Option (List C)
  | .one c => some [c]
  | .agg cs => some cs
  | .tup _ => none

def ev (σ : St) : Operand → Option V
  | .tmp t => get σ.env t
  | .const v => some (V.ofVal v)
  | .global _ => none
  | .func f => some (.one (.fn f []))

def rd (cs : List C) (o n : Nat) : Option (List C) := if o + n ≤ cs.length then some ((cs.drop o).take n) else none
def wr (cs : List C) (o : Nat) (xs : List C) : Option (List C) := if o + xs.length ≤ cs.length then some (cs.take o ++ (xs ++ cs.drop (o + xs.length))) else none

def loadC (σ : St) (c : C) (n : Nat) : Option (List C) :=
  match c with
  | .lp t o => (get σ.bx t).bind fun cs => rd cs o n
  | .ptr b o => match σ.h.get b with
    | some (.row _ _ cs) => rd cs o n
    | _ => none
  | _ => none

def storeC (σ : St) (c : C) (xs : List C) : Option St :=
  if xs.all C.ok then
    match c with
    | .lp t o => (get σ.bx t).bind fun cs => (wr cs o xs).map fun cs' => { σ with bx := setL t cs' σ.bx }
    | .ptr b o => match σ.h.get b with
      | some (.row true sz cs) => (wr cs o xs).map fun cs' => { σ with h := σ.h.set b (.row true sz cs') }
      | _ => none
    | _ => none
  else none

def isAggD : TypeDesc → Bool
  | .struct _ | .array _ _ => true
  | _ => false

def mkV : Bool → List C → Option V
  | true, cs => some (.agg cs)
  | false, [c] => some (.one c)
  | false, _ => none

def sizeV (ti : TI) : Nat := if isAggD ti.desc then ti.size else 1

def load (ti : TI) (σ : St) (c : C) : Option V := (loadC σ c (sizeV ti)).bind (mkV (isAggD ti.desc))

/-- A part of a value. -/
def partV (ti : TI) (cs : List C) (o : Nat) : Option V := (rd cs o (sizeV ti)).bind (mkV (isAggD ti.desc))

/-- Parts laid into cells. -/
def fillC (place : Nat → Option (Nat × Nat)) : List C → List (Nat × V) → Option (List C)
  | cs, [] => some cs
  | cs, (i, v) :: rest =>
    match place i, v.cells with
    | some (off, size), some xs => if decide (xs.length = size) && xs.all C.ok then (wr cs off xs).bind fun cs' => fillC place cs' rest else none
    | _, _ => none

def evs (σ : St) : List Operand → Option (List V)
  | [] => some []
  | x :: l => match ev σ x, evs σ l with
    | some v, some vs => some (v :: vs)
    | _, _ => none

def evParts (σ : St) : List (Nat × Operand) → Option (List (Nat × V))
  | [] => some []
  | (i, x) :: l => match ev σ x, evParts σ l with
    | some v, some vs => some ((i, v) :: vs)
    | _, _ => none

def zeroC (ti : TI) : Option (List C) := ti.zero.map fun z => z.cells.toList.map .lit

/-- Zeros, n times. -/
def zerosC (z : List C) : Nat → List C
  | 0 => []
  | n + 1 => z ++ zerosC z n

def newRowH (σ : St) (nm sz : Nat) (cs : List C) : Option St :=
  if cs.all C.ok then some { σ with h := σ.h.set nm (.row true sz cs) } else none

def mentionsC (t : Nat) : C → Bool
  | .lp u _ => Nat.beq u t
  | _ => false
def mentionsV (t : Nat) : V → Bool
  | .one c => mentionsC t c
  | .agg cs => cs.any (mentionsC t)
  | .tup vs => vs.any fun v => match v with
    | .one c => mentionsC t c
    | .agg cs => cs.any (mentionsC t)
    | .tup _ => true

/-- A new variable of the frame, in slot t. -/
def newBox (σ : St) (t : Nat) (cs : List C) : Option St :=
  if cs.all C.ok && (get σ.bx t).isNone && !(σ.env.any fun p => mentionsV t p.2) then some { σ with bx := (t, cs) :: σ.bx } else none

def binI (op : BinOp) (k : IntKind) (a b : Int) : Option Value :=
  match op with
  | .add => some (.int k (k.wrap (a + b)))
  | .sub => some (.int k (k.wrap (a - b)))
  | .mul => some (.int k (k.wrap (a * b)))
  | .eql => some (.bool (a == b))
  | .neq => some (.bool (a != b))
  | .lss => some (.bool (decide (a < b)))
  | .leq => some (.bool (decide (a ≤ b)))
  | .gtr => some (.bool (decide (a > b)))
  | .geq => some (.bool (decide (a ≥ b)))
  | _ => none

def strEq (a b : ByteArray) : Bool := a.data.toList == b.data.toList

def binS (op : BinOp) (a b : ByteArray) : Option Value :=
  match op with
  | .eql => some (.bool (strEq a b))
  | .neq => some (.bool (!strEq a b))
  | _ => none

/-- Two cells without addresses of one kind. -/
def eqK1 : CK → C → C → Option Bool
  | .i, .lit (.int j a), .lit (.int k b) => if j = k then some (a == b) else none
  | .b, .lit (.bool a), .lit (.bool b) => some (a == b)
  | .s, .lit (.string a), .lit (.string b) => some (strEq a b)
  | _, _, _ => none

def eqK : List CK → List C → List C → Option Bool
  | [], [], [] => some true
  | k :: ks, x :: xs, y :: ys => match eqK1 k x y, eqK ks xs ys with
    | some a, some b => some (a && b)
    | _, _ => none
  | _, _, _ => none

/-- Is a cell nil? -/
def nilC : C → Option Bool
  | .lit (.pointer none) | .lit (.slice none _ _) | .lit (.map none) | .lit .nilFunc => some true
  | .ptr .. | .lp .. | .sl .. | .mp _ | .fn .. => some false
  | _ => none

def kindC : C → Nat
  | .lit (.pointer _) | .ptr .. | .lp .. => 1
  | .lit (.slice ..) | .sl .. => 2
  | .lit (.map _) | .mp _ => 3
  | .lit .nilFunc | .fn .. => 4
  | _ => 0

def kindD : TypeDesc → Nat
  | .pointer _ => 1
  | .slice _ => 2
  | .map _ _ => 3
  | .func _ _ _ => 4
  | _ => 5

/-- x == y for a pointer, a slice, a map, a function, one of the two nil. -/
def nilEq (d : TypeDesc) (x y : C) : Option Bool :=
  if kindC x = kindD d && kindC y = kindD d then
    match nilC x, nilC y with
    | some true, some b => some b
    | some b, some true => some b
    | _, _ => none
  else none

def cellEq (X : Ctx) (t : TypeId) (x y : C) : Option Bool :=
  match X.tt t with
  | some ti => match ti.desc with
    | .bool => eqK1 .b x y
    | d => nilEq d x y
  | none => none

def binV (X : Ctx) (op : BinOp) (t : TypeId) (x y : V) : Option Value :=
  match x, y with
  | .one (.lit (.int j a)), .one (.lit (.int k b)) => if j = k then binI op j a b else none
  | .one (.lit (.string a)), .one (.lit (.string b)) => binS op a b
  | .one x, .one y => match op with
    | .eql => (cellEq X t x y).map .bool
    | .neq => (cellEq X t x y).map fun b => .bool (!b)
    | _ => none
  | .agg xs, .agg ys => match X.flat t with
    | some ks => match op with
      | .eql => (eqK ks xs ys).map .bool
      | .neq => (eqK ks xs ys).map fun b => .bool (!b)
      | _ => none
    | none => none
  | _, _ => none

/-- A value without an address, as the model has it. -/
def C.val? : C → Option Value
  | .lit v => some v
  | _ => none
def vals? : List C → Option (List Value)
  | [] => some []
  | c :: l => match c.val?, vals? l with
    | some v, some vs => some (v :: vs)
    | _, _ => none
def V.val? : V → Option Value
  | .one c => c.val?
  | .agg cs => (vals? cs).map fun l => .agg l.toArray
  | .tup _ => none

/-- A run that asks neither the memory nor anybody else. -/
def pureRun {α : Type} (P : Program) : Sem α → Option α
  | .pure a => some a
  | .program k => pureRun P (k P)
  | .mark _ k => pureRun P k
  | _ => none

def ρ (σ : St) (x : Operand) : Value := match ev σ x with
  | some v => (v.val?).getD undef
  | none => undef

def litAt (σ : St) (x : Operand) : Bool :=
  match ev σ x with
  | some v => v.val?.isSome
  | none => false

def pureOp (P : Program) (o : Oper) (σ : St) : Option V :=
  if o.op.operands.toList.all (litAt σ) then
    match pureRun P (execOp (ρ σ) o) with
    | some (.value v) => some (V.ofVal v)
    | _ => none
  else none

def fieldTI (X : Ctx) (t : TypeId) (f : Nat) : Option (Nat × TI) :=
  match X.tt t with
  | some ti => match ti.desc with
    | .struct fs => match fs.toList[f]? with
      | some fd => match X.tt fd.type with
        | some fi => some (fd.offset, fi)
        | none => none
      | none => none
    | _ => none
  | none => none

def placesL (X : Ctx) : List Field → Option (List (Nat × Nat))
  | [] => some []
  | f :: fs => match X.tt f.type, placesL X fs with
    | some ti, some l => some ((f.offset, ti.size) :: l)
    | _, _ => none

def shiftC : C → Nat → Option C
  | .lp t o, k => some (.lp t (o + k))
  | .ptr b o, k => some (.ptr b (o + k))
  | _, _ => none

def idxOf : V → Option Int
  | .one (.lit (.int _ i)) => some i
  | _ => none

def optIdx (σ : St) : Option Operand → Option (Option Int)
  | none => some none
  | some x => match ev σ x with
    | some v => (idxOf v).map some
    | none => none

/-- The bounds of a slice expression. -/
def bounds (len cap : Nat) (lo hi mx : Option Int) : Option (Nat × Nat × Nat) :=
  let m : Int := mx.getD cap
  let h : Int := hi.getD len
  let l : Int := lo.getD 0
  if (mx.isNone || hi.isSome) && decide (0 ≤ l) && decide (l ≤ h) && decide (h ≤ m) && decide (m ≤ cap) then some (l.toNat, h.toNat, m.toNat) else none

def capsOf : List V → Option (List (Nat × Nat))
  | [] => some []
  | .one (.ptr b o) :: l => (capsOf l).map ((b, o) :: ·)
  | _ => none

/-- How a map's keys compare. -/
inductive KD where
  | cell (k : CK)
  | cells (t : TypeId) (ks : List CK)

def keyEq : KD → Value → Value → Option Bool
  | .cell k, a, b => eqK1 k (.lit a) (.lit b)
  | .cells _ ks, .agg xs, .agg ys => eqK ks (xs.toList.map .lit) (ys.toList.map .lit)
  | _, _, _ => none

def findK (d : KD) (k : Value) : List (Value × V × Nat) → Option (Option (V × Nat))
  | [] => some none
  | (k', v, n) :: l => match keyEq d k k' with
    | some true => some (some (v, n))
    | some false => findK d k l
    | none => none

def keyKD (X : Ctx) (t : TypeId) : Option KD :=
  match X.tt t with
  | some ti => match ti.desc with
    | .int _ => some (.cell .i)
    | .string => some (.cell .s)
    | .bool => some (.cell .b)
    | .struct _ | .array _ _ => (X.flat t).map (.cells t)
    | _ => none
  | none => none

/-- Is a key one of its kind? -/
def keyOkE (d : KD) (k : Value) : Bool := (keyEq d k k).isSome

/-- Is the append of m elements to a slice of a block's end: the place where it begins, and what it has. -/
def sliceCells (σ : St) (sz : Nat) : C → Option (List C)
  | .lit (.slice none _ _) => some []
  | .sl b o len _ => match σ.h.get b with
    | some (.row _ _ cs) => rd cs o (len * sz)
    | _ => none
  | _ => none

def lenC : C → Option Nat
  | .lit (.slice none n _) => some n
  | .sl _ _ n _ => some n
  | .lit (.string s) => some s.data.toList.length
  | _ => none

/-- append(s, x...). -/
def appendC (ti : TI) (nm : Nat) (σ : St) (s x : C) : Option (C × St) :=
  match sliceCells σ ti.size x, lenC x with
  | some news, some m =>
    if decide (0 < ti.size) && news.all C.ok && decide (news.length = m * ti.size) then
      match s with
      | .lit (.slice none 0 0) =>
        if m = 0 then some (s, σ)
        else if decide (m ≤ 9223372036854775807) && decide (m * ti.bytes ≤ 140737488355328) then some (.sl nm 0 m m, { σ with h := σ.h.set nm (.row true ti.size news) }) else none
      | .sl b o len cap =>
        match σ.h.get b with
        | some (.row true sz cs) =>
          if m = 0 then some (s, σ)
          else if len + m ≤ cap then
            (wr cs (o + len * ti.size) news).map fun cs' => (.sl b o (len + m) cap, { σ with h := σ.h.set b (.row true sz cs') })
          else if decide (sz = ti.size) && decide (len = cap) && decide (o + cap * ti.size = cs.length) && decide (len + m ≤ 9223372036854775807) && decide ((len + m) * ti.bytes ≤ 140737488355328) then
            (rd cs o (len * ti.size)).map fun olds => (.sl nm 0 (len + m) (len + m), { σ with h := (σ.h.del b).set nm (.row true ti.size (olds ++ news)) })
          else none
        | _ => none
      | _ => none
    else none
  | _, _ => none

/-- What the machine is told of a function: how many slots; the slots of variables whose addresses stay in the frame; what is read behind each region. -/
structure Fi where
  nt : Nat
  prom : List Nat
  lives : List (Nat × List Nat)

def onC (σ : St) (x : Operand) (k : C → Option (V × St)) : Option (V × St) :=
  match ev σ x with
  | some (.one c) => k c
  | _ => none

def onV (σ : St) (x : Operand) (k : V → Option (V × St)) : Option (V × St) :=
  match ev σ x with
  | some v => k v
  | none => none

def onTI (X : Ctx) (t : TypeId) (k : TI → Option (V × St)) : Option (V × St) :=
  match X.tt t with
  | some ti => k ti
  | none => none

def elemTI (X : Ctx) (t : TypeId) : Option TI :=
  match X.tt t with
  | some ti => match ti.desc with
    | .slice e => X.tt e
    | .array _ e => X.tt e
    | _ => none
  | none => none

/-- A new variable: of the frame, or in a block. -/
def newVarE (fi : Fi) (nm : Nat) (d : Option Nat) (σ : St) (cs : List C) : Option (V × St) :=
  match d with
  | some t => cond (fi.prom.contains t)
      ((newBox σ t cs).map fun σ' => (.one (.lp t 0), σ'))
      ((newRowH σ nm 0 cs).map fun σ' => (.one (.ptr nm 0), σ'))
  | none => none

def idxAddr (X : Ctx) (t : TypeId) (x : C) (i : Int) : Option C :=
  match X.tt t with
  | some ti => match ti.desc with
    | .array len e => match X.tt e with
      | some et => if decide (0 ≤ i) && decide (i < len) then shiftC x (i.toNat * et.size) else none
      | none => none
    | .slice e => match X.tt e, x with
      | some et, .sl b o len _ => if decide (0 ≤ i) && decide (i < len) then some (.ptr b (o + i.toNat * et.size)) else none
      | _, _ => none
    | _ => none
  | none => none

def szOk (σ : St) (b sz l : Nat) : Bool :=
  Nat.beq l 0 || (match σ.h.get b with
    | some (.row _ sz' _) => Nat.beq sz' sz || Nat.beq sz' 0
    | _ => false)

def sliceE (X : Ctx) (σ : St) (t : TypeId) (x : C) (lo hi mx : Option Int) : Option C :=
  match X.tt t with
  | some ti => match ti.desc with
    | .slice e => match X.tt e, x with
      | some et, .sl b o len cap => match bounds len cap lo hi mx with
        | some (l, h, m) => if szOk σ b et.size l then some (.sl b (o + l * et.size) (h - l) (m - l)) else none
        | none => none
      | some _, .lit (.slice none 0 0) => match bounds 0 0 lo hi mx with
        | some _ => some (.lit (.slice none 0 0))
        | none => none
      | _, _ => none
    | .array n e => match X.tt e, x with
      | some et, .ptr b o => match bounds n n lo hi mx with
        | some (l, h, m) => if mx.isSome then none else some (.sl b (o + l * et.size) (h - l) (m - l))
        | none => none
      | _, _ => none
    | _ => none
  | none => none

def makeSliceE (et : TI) (nm : Nat) (σ : St) (n c : Int) : Option (V × St) :=
  match zeroC et with
  | some z =>
    if decide (0 < et.size) && decide (z.length = et.size) && decide (0 ≤ n) && decide (n ≤ c) && decide (c ≤ 9223372036854775807) && decide (c.toNat * et.bytes ≤ 140737488355328) then
      (newRowH σ nm et.size (zerosC z c.toNat)).map fun σ' => (.one (.sl nm 0 n.toNat c.toNat), σ')
    else none
  | none => none

/-- A map's entries; nil has none. -/
def entriesOf (σ : St) : C → Option (List (Value × V × Nat))
  | .lit (.map none) => some []
  | .mp b => match σ.h.get b with
    | some (.map es _) => some es
    | _ => none
  | _ => none

def V.ofCells (ti : TI) (cs : List C) : Option V := mkV (isAggD ti.desc) cs

def setK (d : KD) (k : Value) (v : V) : List (Value × V × Nat) → Option (List (Value × V × Nat))
  | [] => none
  | (k', u, n) :: l => match keyEq d k k' with
    | some true => some ((k, v, n) :: l)
    | some false => (setK d k v l).map ((k', u, n) :: ·)
    | none => none

def dropK (d : KD) (k : Value) : List (Value × V × Nat) → Option (List (Value × V × Nat))
  | [] => some []
  | (k', u, n) :: l => match keyEq d k k' with
    | some true => some l
    | some false => (dropK d k l).map ((k', u, n) :: ·)
    | none => none

/-- A map type's keys and elements. -/
def mapKD (X : Ctx) (t : TypeId) : Option (KD × TI) :=
  match X.tt t with
  | some ti => match ti.desc with
    | .map k e => match keyKD X k, X.tt e with
      | some d, some et => some (d, et)
      | _, _ => none
    | _ => none
  | none => none

def V.okV : V → Bool
  | .one c => c.ok
  | .agg cs => cs.all C.ok
  | .tup _ => false

def lookupE (X : Ctx) (t : TypeId) (σ : St) (m : C) (k : Value) (ok : Bool) : Option V :=
  match mapKD X t, entriesOf σ m with
  | some (d, et), some es =>
    if keyOkE d k then
      match findK d k es with
      | some (some (v, _)) => if ok then match v with
        | .tup _ => none
        | v => some (.tup [v, .one (.lit (.bool true))]) else some v
      | some none => match et.zero with
        | some z => some (if ok then .tup [V.ofVal z, .one (.lit (.bool false))] else V.ofVal z)
        | none => none
      | none => none
    else none
  | _, _ => none

def updateE (X : Ctx) (t : TypeId) (σ : St) (m : C) (k : Value) (v : V) : Option St :=
  match mapKD X t, m with
  | some (d, _), .mp b => match σ.h.get b with
    | some (.map es clock) =>
      if keyOkE d k && v.okV then
        match findK d k es with
        | some (some _) => (setK d k v es).map fun es' => { σ with h := σ.h.set b (.map es' clock) }
        | some none => some { σ with h := σ.h.set b (.map (es ++ [(k, v, clock)]) (clock + 1)) }
        | none => none
      else none
    | _ => none
  | _, _ => none

def deleteE (X : Ctx) (t : TypeId) (σ : St) (m : C) (k : Value) : Option St :=
  match mapKD X t, m with
  | some (d, _), .mp b => match σ.h.get b with
    | some (.map es clock) => if keyOkE d k then (dropK d k es).map fun es' => { σ with h := σ.h.set b (.map es' clock) } else none
    | _ => none
  | _, _ => none

def builtinE (X : Ctx) (nm : Nat) (σ : St) (b : Builtin) (ts : List TypeId) (vs : List V) : Option (V × St) :=
  match b, ts, vs with
  | .len, t :: _, [.one c] => match X.tt t with
    | some ti => match ti.desc with
      | .map _ _ => (entriesOf σ c).map fun es => (.one (.lit (.int .i64 (es.length : Int))), σ)
      | .array n _ => some (.one (.lit (.int .i64 n)), σ)
      | .slice _ => match c with
        | .lit (.string _) => none
        | c => (lenC c).map fun (n : Nat) => (.one (.lit (.int .i64 (n : Int))), σ)
      | .string => match c with
        | .lit (.string s) => some (.one (.lit (.int .i64 s.data.toList.length)), σ)
        | _ => none
      | _ => none
    | none => none
  | .append, [t, t'], [.one s, .one x] =>
    if t = t' then match elemTI X t, X.tt t with
      | some ti, some st => match st.desc with
        | .slice _ => (appendC ti nm σ s x).map fun p => (.one p.1, p.2)
        | _ => none
      | _, _ => none
    else none
  | .delete, t :: _, [.one m, k] => match k.val? with
    | some k => (deleteE X t σ m k).map fun σ' => (.one (.lit (.tuple #[])), σ')
    | none => none
  | .clear, t :: _, [.one c] => match elemTI X t, X.tt t, c with
    | some et, some st, .sl b o len _ => match st.desc, zeroC et, σ.h.get b with
      | .slice _, some z, some (.row true sz cs) => if decide (z.length = et.size) && z.all C.ok && decide (0 < len) && decide (0 < et.size) then (wr cs o (zerosC z len)).map fun cs' => (.one (.lit (.tuple #[])), { σ with h := σ.h.set b (.row true sz cs') })
        else if len = 0 then some (.one (.lit (.tuple #[])), σ) else none
      | _, _, _ => none
    | _, _, _ => none
  | _, _, _ => none

/-- What an operation gives and does; a call of a function is none of these. -/
def op (P : Program) (X : Ctx) (fi : Fi) (nm : Nat) (o : Oper) (σ : St) : Option (V × St) :=
  match o.op with
  | .move x | .assign x => onV σ x fun v => some (v, σ)
  | .pick c a b => onC σ c fun
    | .lit (.bool t) => onV σ (if t then a else b) fun v => some (v, σ)
    | _ => none
  | .extract x i => onV σ x fun
    | .tup vs => vs[i]?.map (·, σ)
    | _ => none
  | .alloc e => onTI X e fun ti => match zeroC ti with
    | some cs => if cs.length = ti.size then newVarE fi nm o.dst σ cs else none
    | none => none
  | .box _ x => onV σ x fun v => match v.cells with
    | some cs => newVarE fi nm o.dst σ cs
    | none => none
  | .load t x => onTI X t fun ti => onC σ x fun c => (load ti σ c).map (·, σ)
  | .store t x y => onTI X t fun ti => onC σ x fun c => onV σ y fun v => match v.cells with
    | some cs => if cs.length = ti.size then (storeC σ c cs).map fun σ' => (undefC, σ') else none
    | none => none
  | .nilCheck x => onC σ x fun c => match c with
    | .ptr .. | .lp .. => some (.one c, σ)
    | _ => none
  | .fieldAddr t x f => match fieldTI X t f with
    | some (off, fi') => if 0 < fi'.size then onC σ x fun c => (shiftC c off).map fun c' => (.one c', σ) else none
    | none => none
  | .field t x f => match fieldTI X t f with
    | some (off, fi') => onV σ x fun
      | .agg cs => (partV fi' cs off).map (·, σ)
      | _ => none
    | none => none
  | .indexAddr t x i => onC σ x fun c => onV σ i fun v => match idxOf v with
    | some j => (idxAddr X t c j).map fun c' => (.one c', σ)
    | none => none
  | .index t x i => match X.tt t, elemTI X t with
    | some ti, some et => onV σ x fun v => onV σ i fun u => match ti.desc, v, idxOf u with
      | .array n _, .agg cs, some j => if decide (0 ≤ j) && decide (j < n) then (partV et cs (j.toNat * et.size)).map (·, σ) else none
      | _, _, _ => none
    | _, _ => pureV P o σ
  | .slice t x lo hi mx => match optIdx σ lo, optIdx σ hi, optIdx σ mx with
    | some l, some h, some m => match ev σ x with
      | some (.one (.lit (.string _))) => pureV P o σ
      | some (.one c) => (sliceE X σ t c l h m).map fun c' => (.one c', σ)
      | _ => none
    | _, _, _ => none
  | .build t ps => onTI X t fun ti => match zeroC ti, evParts σ ps.toList with
    | some z, some vs => match ti.desc with
      | .struct fs => match placesL X fs.toList with
        | some pl => (fillC (fun i => pl[i]?) z vs).map fun cs => (.agg cs, σ)
        | none => none
      | .array _ _ => match elemTI X t with
        | some et => (fillC (fun i => some (i * et.size, et.size)) z vs).map fun cs => (.agg cs, σ)
        | none => none
      | _ => none
    | _, _ => none
  | .buildSlice t n ps => match elemTI X t, evParts σ ps.toList, X.tt t with
    | some et, some vs, some st => match st.desc, zeroC et with
      | .slice _, some z => if decide (n * et.size ≤ 16777216) && decide (0 < et.size) && decide (z.length = et.size) then
          match fillC (fun i => some (i * et.size, et.size)) (zerosC z n) vs with
          | some cs => (newRowH σ nm et.size cs).map fun σ' => (.one (.sl nm 0 n n), σ')
          | none => none
        else none
      | _, _ => none
    | _, _, _ => none
  | .makeSlice t l c => onV σ l fun u => onV σ c fun v => match elemTI X t, X.tt t, u, v with
    | some et, some st, .one (.lit (.int .i64 n)), .one (.lit (.int .i64 m)) => match st.desc with
      | .slice _ => makeSliceE et nm σ n m
      | _ => none
    | _, _, _, _ => none
  | .makeMap _ none => some (.one (.mp nm), { σ with h := σ.h.set nm (.map [] 0) })
  | .lookup t x i ok => onC σ x fun c => onV σ i fun v => match v.val? with
    | some k => (lookupE X t σ c k ok).map (·, σ)
    | none => none
  | .mapUpdate t m k x | .insert t m k x => onC σ m fun c => onV σ k fun kv => onV σ x fun v => match kv.val? with
    | some kv => (updateE X t σ c kv v).map fun σ' => (undefC, σ')
    | none => none
  | .makeFunc (.func f) fs caps => if fs.size = 0 then match evs σ caps.toList with
    | some vs => (capsOf vs).map fun l => (.one (.fn f l), σ)
    | none => none else none
  | .binOp b t x y _ => onV σ x fun u => onV σ y fun v => match binV X b t u v with
    | some r => some (.one (.lit r), σ)
    | none => pureV P o σ
  | .call c => match c.callee with
    | .builtin b => match evs σ c.args.toList with
      | some vs => builtinE X nm σ b c.argTypes.toList vs
      | none => none
    | _ => none
  | .unOp .. | .convert .. => pureV P o σ
  | _ => none
where
  pureV (P : Program) (o : Oper) (σ : St) : Option (V × St) := (pureOp P o σ).map (·, σ)

/-- The function that a call calls, and its arguments. -/
def callee (σ : St) (o : Oper) : Option (FuncId × List V) :=
  match o.op with
  | .call c => match c.callee with
    | .value f => match ev σ f, evs σ c.args.toList with
      | some (.one (.fn g caps)), some vs => some (g, vs ++ caps.map fun p => .one (.ptr p.1 p.2))
      | _, _ => none
    | _ => none
  | _ => none

def isCall (o : Oper) : Bool :=
  match o.op with
  | .call c => match c.callee with
    | .value _ => true
    | _ => false
  | _ => false

def put (fi : Fi) (d : Option Nat) (v : V) (σ : St) : Option St :=
  match d with
  | none => some σ
  | some t => if t < fi.nt then some { σ with env := (t, v) :: σ.env } else none

/-- Is an operation wanted: its guard. -/
def wanted (ops : List Oper) (o : Oper) (σ : St) : Option Bool :=
  match o.guard with
  | none => some true
  | some (j, want) => match ops[j]? with
    | some oj => match oj.dst with
      | some t => match get σ.env t with
        | some (.one (.lit (.bool b))) => some (b == want)
        | some (.one (.lit (.tuple _))) => some false
        | _ => none
      | none => none
    | none => none

/-- The operations that make a block. -/
def makes (fi : Fi) (o : Oper) : Bool :=
  match o.op with
  | .alloc _ | .box .. => match o.dst with
    | some t => !fi.prom.contains t
    | none => true
  | .buildSlice .. | .makeSlice .. | .makeMap .. => true
  | .call c => match c.callee with
    | .builtin .append => true
    | _ => false
  | _ => false

def bump (fi : Fi) (o : Oper) (h : Heap) : Heap := cond (makes fi o) { h with next := h.next + 1 } h

def keepEnv (l : List Nat) (env : List (Nat × V)) : List (Nat × V) := l.filterMap fun t => (get env t).map (t, ·)
def keepBx (l : List Nat) (bx : List (Nat × List C)) : List (Nat × List C) := l.filterMap fun t => (get bx t).map (t, ·)

/-- Behind a region: what is not read any more is forgotten. -/
def clean (fi : Fi) (id : Nat) (σ : St) : St :=
  match get fi.lives id with
  | some l => { env := keepEnv l σ.env, bx := keepBx l σ.bx, h := σ.h }
  | none => σ

end E
end Go.Proofs.Ytibdplfdmncgiaa

/-
  An abstract machine of this place's own: how its states stand to the model's; the lemmas on lists, cells and blocks. No condition.
-/
namespace Go.Proofs.Ytibdplfdmncgiaa
open Go.RowKit
namespace E

/-! ### Lists, two at a time -/
def All2 {α β : Type} (R : α → β → Prop) : List α → List β → Prop
  | [], [] => True
  | x :: xs, y :: ys => R x y ∧ All2 R xs ys
  | _, _ => False

section all2
variable {α β : Type} {R S : α → β → Prop}
theorem All2.length : ∀ {xs : List α} {ys : List β}, All2 R xs ys → xs.length = ys.length
  | [], [], _ => rfl
  | _ :: _, _ :: _, h => congrArg (· + 1) (All2.length h.2)
  | [], _ :: _, h => h.elim
  | _ :: _, [], h => h.elim
theorem All2.get : ∀ {xs : List α} {ys : List β}, All2 R xs ys → ∀ {i : Nat} {x : α}, xs[i]? = some x → ∃ y, ys[i]? = some y ∧ R x y
  | [], [], _, _, _, h => by simp at h
  | x :: _, y :: _, h, 0, _, e => ⟨y, rfl, by simp at e; subst e; exact h.1⟩
  | _ :: xs, _ :: ys, h, i + 1, _, e => by
    obtain ⟨y, h1, h2⟩ := All2.get h.2 (i := i) (by simpa using e)
    exact ⟨y, by simpa using h1, h2⟩
  | [], _ :: _, h, _, _, _ => h.elim
  | _ :: _, [], h, _, _, _ => h.elim
theorem All2.mono : ∀ {xs : List α} {ys : List β}, All2 R xs ys → (∀ x, x ∈ xs → ∀ y, R x y → S x y) → All2 S xs ys
  | [], [], _, _ => trivial
  | x :: xs, y :: ys, h, k => ⟨k x (by simp) y h.1, All2.mono h.2 fun a ha b => k a (by simp [ha]) b⟩
  | [], _ :: _, h, _ => h.elim
  | _ :: _, [], h, _ => h.elim
theorem All2.append : ∀ {xs xs' : List α} {ys ys' : List β}, All2 R xs ys → All2 R xs' ys' → All2 R (xs ++ xs') (ys ++ ys')
  | [], _, [], _, _, h => h
  | _ :: _, _, _ :: _, _, h, h' => ⟨h.1, All2.append h.2 h'⟩
  | [], _, _ :: _, _, h, _ => h.elim
  | _ :: _, _, [], _, h, _ => h.elim
theorem All2.take : ∀ (n : Nat) {xs : List α} {ys : List β}, All2 R xs ys → All2 R (xs.take n) (ys.take n)
  | 0, _, _, _ => by simp [All2]
  | _ + 1, [], [], _ => by simp [All2]
  | n + 1, _ :: _, _ :: _, h => ⟨h.1, All2.take n h.2⟩
  | _, [], _ :: _, h => h.elim
  | _, _ :: _, [], h => h.elim
theorem All2.drop : ∀ (n : Nat) {xs : List α} {ys : List β}, All2 R xs ys → All2 R (xs.drop n) (ys.drop n)
  | 0, _, _, h => h
  | _ + 1, [], [], _ => by simp [All2]
  | n + 1, _ :: _, _ :: _, h => All2.drop n h.2
  | _, [], _ :: _, h => h.elim
  | _, _ :: _, [], h => h.elim
theorem All2.map_left {γ : Type} {f : γ → α} : ∀ {xs : List γ} {ys : List β}, All2 (fun c y => R (f c) y) xs ys → All2 R (xs.map f) ys
  | [], [], _ => trivial
  | _ :: _, _ :: _, h => ⟨h.1, All2.map_left h.2⟩
  | [], _ :: _, h => h.elim
  | _ :: _, [], h => h.elim
theorem All2.map_right {γ : Type} {f : γ → β} : ∀ {xs : List α} {ys : List γ}, All2 (fun x c => R x (f c)) xs ys → All2 R xs (ys.map f)
  | [], [], _ => trivial
  | _ :: _, _ :: _, h => ⟨h.1, All2.map_right h.2⟩
  | [], _ :: _, h => h.elim
  | _ :: _, [], h => h.elim
theorem All2.one {x : α} {ys : List β} (h : All2 R [x] ys) : ∃ y, ys = [y] ∧ R x y := by
  match ys, h with
  | [y], h => exact ⟨y, rfl, h.1⟩
end all2

theorem nbeq_ne {k t : Nat} (h : k ≠ t) : Nat.beq k t = false := by
  cases hb : Nat.beq k t with
  | false => rfl
  | true => exact absurd (Nat.eq_of_beq_eq_true hb) h

theorem get_cons {α : Type} (k : Nat) (x : α) (l : List (Nat × α)) (t : Nat) : get ((k, x) :: l) t = if k = t then some x else get l t := by
  by_cases h : k = t
  · subst h; simp [get]
  · simp [get, nbeq_ne h, h]

theorem get_setL {α : Type} (b : Nat) (x : α) : ∀ (l : List (Nat × α)) (t : Nat), get (setL b x l) t = if b = t then some x else get l t
  | [], t => by rw [setL, get_cons]
  | (k, y) :: l, t => by
    have ih := get_setL b x l t
    by_cases hk : k = b
    · subst hk
      simp only [setL, Nat.beq_refl, cond_true, get_cons]
      split <;> rfl
    · simp only [setL, nbeq_ne hk, cond_false, get_cons, ih]
      by_cases hb : k = t
      · subst hb
        rw [if_pos rfl, if_neg (fun h : b = k => hk h.symm), if_pos rfl]
      · simp [hb]

theorem get_delL {α : Type} (b : Nat) : ∀ (l : List (Nat × α)) (t : Nat), get (delL b l) t = if b = t then none else get l t
  | [], t => by simp [delL, get]
  | (k, y) :: l, t => by
    have ih := get_delL b l t
    by_cases hk : k = b
    · subst hk
      simp only [delL, Nat.beq_refl, cond_true, ih, get_cons]
      split <;> rfl
    · simp only [delL, nbeq_ne hk, cond_false, get_cons, ih]
      by_cases hb : k = t
      · subst hb
        rw [if_pos rfl, if_neg (fun h : b = k => hk h.symm), if_pos rfl]
      · simp [hb]

theorem Heap.get_set (h : Heap) (b : Nat) (x : Blk) (t : Nat) : (h.set b x).get t = if b = t then some x else h.get t := get_setL b x h.bs t
theorem Heap.get_del (h : Heap) (b t : Nat) : (h.del b).get t = if b = t then none else h.get t := get_delL b h.bs t

/-! ### What stands for what -/
/-- Where a block lies: the model's block, the place of its first cell, how many cells that block has, how many of them are the row's, the cells of an element. -/
structure Pl where
  rb : Nat
  ro : Nat
  ext : Nat
  n : Nat
  sz : Nat

abbrev Pls := Nat → Option Pl
abbrev Fms := Nat → Option Nat
def noF : Fms := fun _ => none

def PtrRel (β : Pls) (c : Nat × Nat) (x : Value) : Prop := ∃ p, β c.1 = some p ∧ x = .pointer (some ⟨p.rb, p.ro + c.2, none⟩)

def CRel (β : Pls) (μ : Fms) : C → Value → Prop
  | .lit v, x => x = v
  | .ptr b o, x => ∃ p, β b = some p ∧ x = .pointer (some ⟨p.rb, p.ro + o, none⟩)
  | .lp t o, x => ∃ r, μ t = some r ∧ x = .pointer (some ⟨r, o, none⟩)
  | .sl b o len cap, x => ∃ p k rc, β b = some p ∧ x = .slice (some ⟨p.rb, k, none⟩) len rc ∧ len ≤ cap ∧ cap ≤ rc ∧ (rc ≠ 0 → k = p.ro + o) ∧ (rc = cap ∨ (0 < p.sz ∧ o + cap * p.sz = p.n ∧ p.ro + o + rc * p.sz ≤ p.ext))
  | .mp b, x => ∃ p, β b = some p ∧ x = .map (some p.rb)
  | .fn f caps, x => ∃ l, x = .func (.func f) #[] l ∧ All2 (PtrRel β) caps l.toList

def VRel1 (β : Pls) (μ : Fms) : V → Value → Prop
  | .one c, x => CRel β μ c x
  | .agg cs, x => ∃ l, x = .agg l ∧ All2 (CRel β μ) cs l.toList
  | .tup _, _ => False

def VRel (β : Pls) (μ : Fms) : V → Value → Prop
  | .one c, x => CRel β μ c x
  | .agg cs, x => ∃ l, x = .agg l ∧ All2 (CRel β μ) cs l.toList
  | .tup vs, x => ∃ l, x = .tuple l ∧ All2 (VRel1 β μ) vs l.toList

theorem VRel1.up {β : Pls} {μ : Fms} {v : V} {x : Value} (h : VRel1 β μ v x) : VRel β μ v x := by
  cases v with
  | one c => exact h
  | agg cs => exact h
  | tup vs => exact h.elim

def ERel (β : Pls) (p : Value × V × Nat) (e : MapEntry) : Prop := e.key = p.1 ∧ VRel β noF p.2.1 e.val ∧ e.born = p.2.2

/-- The cells xs lie in a row from place o on. -/
def winAt (arr : Array Value) (o : Nat) (xs : List Value) : Prop := ∀ j x, xs[j]? = some x → arr[o + j]? = some x

def BRel (β : Pls) (p : Pl) (blk : Blk) (w : World) : Prop :=
  match blk with
  | .row rw sz cs => p.sz = sz ∧ p.n = cs.length ∧ ∃ arr el fr xs, w.heap[p.rb]? = some (.cells arr el fr) ∧ winAt arr p.ro xs ∧ All2 (CRel β noF) cs xs ∧ p.ext = arr.size ∧ p.ro + cs.length ≤ arr.size ∧ (rw = true → fr = (0, 0))
  | .map es clock => p.ro = 0 ∧ ∃ arr, w.heap[p.rb]? = some (.map arr clock) ∧ All2 (ERel β) es arr.toList

structure HRel (N : Nat) (β : Pls) (h : Heap) (w : World) : Prop where
  fresh : ∀ b, N ≤ b → β b = none
  blk : ∀ b x, h.get b = some x → ∃ p, β b = some p ∧ BRel β p x w
  apart : ∀ b b' x x' p p', b ≠ b' → h.get b = some x → h.get b' = some x' → β b = some p → β b' = some p' → x.rw = true → p.rb ≠ p'.rb

/-- A variable of the frame. -/
def XRel (β : Pls) (r : Nat) (cs : List C) (w : World) : Prop :=
  ∃ arr el, w.heap[r]? = some (.cells arr el (0, 0)) ∧ All2 (CRel β noF) cs arr.toList

structure SRel (N : Nat) (β : Pls) (μ : Fms) (nt : Nat) (σ : St) (a : Act) (w : World) : Prop where
  heap : HRel N β σ.h w
  size : a.tmps.size = nt
  defers : a.defers = []
  env : ∀ t v, get σ.env t = some v → ∃ x, a.tmps[t]? = some x ∧ VRel β μ v x
  box : ∀ t cs, get σ.bx t = some cs → ∃ r, μ t = some r ∧ XRel β r cs w
  bxap : ∀ t t' cs cs' r, t ≠ t' → get σ.bx t = some cs → get σ.bx t' = some cs' → μ t = some r → μ t' ≠ some r
  hap : ∀ t cs b x p, get σ.bx t = some cs → σ.h.get b = some x → β b = some p → μ t ≠ some p.rb

/-- The model's blocks that the state may write. -/
def mine (β : Pls) (μ : Fms) (σ : St) (r : Nat) : Prop :=
  (∃ b x p, σ.h.get b = some x ∧ x.rw = true ∧ β b = some p ∧ p.rb = r) ∨ (∃ t cs, get σ.bx t = some cs ∧ μ t = some r)

structure Step (β : Pls) (μ : Fms) (σ : St) (w : World) (β' : Pls) (μ' : Fms) (σ' : St) (w' : World) : Prop where
  ext : ∀ b p, β b = some p → β' b = some p
  os : w'.os = w.os
  tape : w'.tape = w.tape
  output : w'.output = w.output
  size : w.heap.size ≤ w'.heap.size
  fr : ∀ r, r < w.heap.size → ¬ mine β μ σ r → w'.heap[r]? = w.heap[r]?
  own : ∀ r, mine β' μ' σ' r → mine β μ σ r ∨ w.heap.size ≤ r
  blks : ∀ b x p, σ'.h.get b = some x → β' b = some p → (∃ b0 x0 p0, σ.h.get b0 = some x0 ∧ β b0 = some p0 ∧ p0.rb = p.rb) ∨ w.heap.size ≤ p.rb

theorem Step.refl (β : Pls) (μ : Fms) (σ : St) (w : World) : Step β μ σ w β μ σ w := ⟨fun _ _ h => h, rfl, rfl, rfl, Nat.le_refl _, fun _ _ _ => rfl, fun _ h => .inl h, fun b x p h1 h2 => .inl ⟨b, x, p, h1, h2, rfl⟩⟩

theorem Step.trans {β β1 β2 : Pls} {μ μ1 μ2 : Fms} {σ σ1 σ2 : St} {w w1 w2 : World} (h : Step β μ σ w β1 μ1 σ1 w1) (k : Step β1 μ1 σ1 w1 β2 μ2 σ2 w2) : Step β μ σ w β2 μ2 σ2 w2 where
  ext := fun b p e => k.ext b p (h.ext b p e)
  os := k.os.trans h.os
  tape := k.tape.trans h.tape
  output := k.output.trans h.output
  size := Nat.le_trans h.size k.size
  fr := fun r hr hn => by
    rw [k.fr r (Nat.lt_of_lt_of_le hr h.size) (fun hm => (h.own r hm).elim hn (fun hge => absurd hr (Nat.not_lt.2 hge)))]
    exact h.fr r hr hn
  own := fun r hm => (k.own r hm).elim (h.own r) (fun hge => .inr (Nat.le_trans h.size hge))
  blks := fun b x p h1 h2 => (k.blks b x p h1 h2).elim (fun ⟨b1, x1, p1, g1, g2, g3⟩ => g3 ▸ h.blks b1 x1 p1 g1 g2) (fun hge => .inr (Nat.le_trans h.size hge))

/-! ### What grows -/
theorem PtrRel.up {β β' : Pls} (hx : ∀ b p, β b = some p → β' b = some p) {c : Nat × Nat} {x : Value} (h : PtrRel β c x) : PtrRel β' c x :=
  let ⟨p, h1, h2⟩ := h; ⟨p, hx _ _ h1, h2⟩

theorem CRel.up {β β' : Pls} {μ μ' : Fms} (hx : ∀ b p, β b = some p → β' b = some p) {c : C} {x : Value} (hm : ∀ t r, mentionsC t c = true → μ t = some r → μ' t = some r) (h : CRel β μ c x) : CRel β' μ' c x := by
  cases c with
  | lit v => exact h
  | ptr b o => obtain ⟨p, h1, h2⟩ := h; exact ⟨p, hx _ _ h1, h2⟩
  | lp t o => obtain ⟨r, h1, h2⟩ := h; exact ⟨r, hm t r (by simp [mentionsC]) h1, h2⟩
  | sl b o len cap => obtain ⟨p, k, rc, h1, h2⟩ := h; exact ⟨p, k, rc, hx _ _ h1, h2⟩
  | mp b => obtain ⟨p, h1, h2⟩ := h; exact ⟨p, hx _ _ h1, h2⟩
  | fn f caps => obtain ⟨l, h1, h2⟩ := h; exact ⟨l, h1, h2.mono fun _ _ _ => PtrRel.up hx⟩

theorem VRel1.ups {β β' : Pls} {μ μ' : Fms} (hx : ∀ b p, β b = some p → β' b = some p) {v : V} {x : Value} (hm : ∀ t r, mentionsV t v = true → μ t = some r → μ' t = some r) (h : VRel1 β μ v x) : VRel1 β' μ' v x := by
  cases v with
  | one c => exact CRel.up hx hm h
  | agg cs =>
    obtain ⟨l, h1, h2⟩ := h
    exact ⟨l, h1, h2.mono fun c hc _ => CRel.up hx fun t r ht => hm t r (by simp only [mentionsV, List.any_eq_true]; exact ⟨c, hc, ht⟩)⟩
  | tup vs => exact h.elim

theorem VRel.ups {β β' : Pls} {μ μ' : Fms} (hx : ∀ b p, β b = some p → β' b = some p) {v : V} {x : Value} (hm : ∀ t r, mentionsV t v = true → μ t = some r → μ' t = some r) (h : VRel β μ v x) : VRel β' μ' v x := by
  cases v with
  | one c => exact CRel.up hx hm h
  | agg cs =>
    obtain ⟨l, h1, h2⟩ := h
    exact ⟨l, h1, h2.mono fun c hc _ => CRel.up hx fun t r ht => hm t r (by simp only [mentionsV, List.any_eq_true]; exact ⟨c, hc, ht⟩)⟩
  | tup vs =>
    obtain ⟨l, h1, h2⟩ := h
    refine ⟨l, h1, h2.mono fun u hu y hy => VRel1.ups hx (fun t r ht => hm t r ?_) hy⟩
    simp only [mentionsV, List.any_eq_true]
    refine ⟨u, hu, ?_⟩
    cases u with
    | one c => exact ht
    | agg cs => exact ht
    | tup _ => rfl

theorem VRel.up {β β' : Pls} {μ : Fms} (hx : ∀ b p, β b = some p → β' b = some p) {v : V} {x : Value} (h : VRel β μ v x) : VRel β' μ v x := VRel.ups hx (fun _ _ _ h => h) h

/-- A cell that may be kept has no pointer into the frame. -/
theorem CRel.noF {β : Pls} {μ μ' : Fms} {c : C} {x : Value} (ho : c.ok = true) (h : CRel β μ c x) : CRel β μ' c x :=
  CRel.up (fun _ _ h => h) (fun t r ht => by cases c <;> simp_all [mentionsC, C.ok]) h

theorem CRel.oneCell {β : Pls} {μ : Fms} {c : C} {x : Value} (ho : c.ok = true) (h : CRel β μ c x) : x.oneCell' = true := by
  cases c with
  | lit v =>
    have hv : x = v := h
    subst hv
    cases x <;> simp_all [C.ok, Value.oneCell']
  | ptr b o => obtain ⟨p, h1, rfl⟩ := h; rfl
  | lp t o => obtain ⟨p, h1, rfl⟩ := h; rfl
  | sl b o len cap => obtain ⟨p, k, rc, h1, rfl, _⟩ := h; rfl
  | mp b => obtain ⟨p, h1, rfl⟩ := h; rfl
  | fn f caps => obtain ⟨l, rfl, h2⟩ := h; rfl

theorem all2_noF {β : Pls} {μ μ' : Fms} {cs : List C} {xs : List Value} (ho : cs.all C.ok = true) (h : All2 (CRel β μ) cs xs) : All2 (CRel β μ') cs xs :=
  h.mono fun c hc _ hr => CRel.noF (List.all_eq_true.1 ho c hc) hr

theorem all2_oneCell {β : Pls} {μ : Fms} : ∀ {cs : List C} {xs : List Value}, cs.all C.ok = true → All2 (CRel β μ) cs xs → ∀ x ∈ xs, x.oneCell' = true
  | [], [], _, _ => by simp
  | c :: cs, x :: xs, ho, h => by
    simp only [List.all_cons, Bool.and_eq_true] at ho
    intro y hy
    cases hy with
    | head => exact CRel.oneCell ho.1 h.1
    | tail _ hy => exact all2_oneCell ho.2 h.2 y hy
  | [], _ :: _, _, h => h.elim
  | _ :: _, [], _, h => h.elim

theorem ERel.up {β β' : Pls} (hx : ∀ b p, β b = some p → β' b = some p) {q : Value × V × Nat} {e : MapEntry} (h : ERel β q e) : ERel β' q e := ⟨h.1, VRel.up hx h.2.1, h.2.2⟩

theorem BRel.up {β β' : Pls} (hx : ∀ b p, β b = some p → β' b = some p) {p : Pl} {blk : Blk} {w w' : World} (hw : w'.heap[p.rb]? = w.heap[p.rb]?) (h : BRel β p blk w) : BRel β' p blk w' := by
  cases blk with
  | row rw sz cs =>
    obtain ⟨h1, h2, arr, el, fr, xs, h3, h4, h5, h6⟩ := h
    exact ⟨h1, h2, arr, el, fr, xs, by rw [hw]; exact h3, h4, h5.mono fun _ _ _ => CRel.up hx fun _ _ _ h => h, h6⟩
  | map es clock =>
    obtain ⟨h1, arr, h3, h4⟩ := h
    exact ⟨h1, arr, by rw [hw]; exact h3, h4.mono fun _ _ _ => ERel.up hx⟩

theorem XRel.up {β β' : Pls} (hx : ∀ b p, β b = some p → β' b = some p) {r : Nat} {cs : List C} {w w' : World} (hw : w'.heap[r]? = w.heap[r]?) (h : XRel β r cs w) : XRel β' r cs w' := by
  obtain ⟨arr, el, h1, h2⟩ := h
  exact ⟨arr, el, by rw [hw]; exact h1, h2.mono fun _ _ _ => CRel.up hx fun _ _ _ h => h⟩

/-! ### What is read -/
section reads
variable {P : Program} {N : Nat} {β : Pls} {μ : Fms} {nt : Nat} {σ : St} {a : Act} {w : World}

theorem vrel_ofVal (β : Pls) (μ : Fms) (v : Value) : VRel β μ (V.ofVal v) v := by
  have hagg : ∀ l : List Value, All2 (CRel β μ) (l.map .lit) l := fun l => by
    induction l with
    | nil => trivial
    | cons x l ih => exact ⟨rfl, ih⟩
  cases v with
  | agg cs => exact ⟨cs, rfl, hagg _⟩
  | _ => exact rfl

theorem eval_tmp {t : Tmp} {x : Value} (h : a.tmps[t]? = some x) : a.eval (.tmp t) = x := by
  simp [Act.eval, h]

theorem ev_ok (hS : SRel N β μ nt σ a w) {x : Operand} {v : V} (h : ev σ x = some v) : VRel β μ v (a.eval x) := by
  cases x with
  | tmp t =>
    obtain ⟨y, h1, h2⟩ := hS.env t v h
    rw [eval_tmp h1]; exact h2
  | const c =>
    simp only [ev, Option.some.injEq] at h
    subst h
    exact vrel_ofVal β μ c
  | global g => simp [ev] at h
  | func f =>
    simp only [ev, Option.some.injEq] at h
    subst h
    exact ⟨#[], rfl, trivial⟩

theorem evs_ok (hS : SRel N β μ nt σ a w) : ∀ {l : List Operand} {vs : List V}, evs σ l = some vs → All2 (VRel β μ) vs (l.map a.eval)
  | [], vs, h => by simp only [evs, Option.some.injEq] at h; subst h; trivial
  | x :: l, vs, h => by
    simp only [evs] at h
    split at h
    · rename_i v us h1 h2
      simp only [Option.some.injEq] at h
      subst h
      exact ⟨ev_ok hS h1, evs_ok hS h2⟩
    · cases h

theorem evParts_ok (hS : SRel N β μ nt σ a w) : ∀ {l : List (Nat × Operand)} {vs : List (Nat × V)}, evParts σ l = some vs → All2 (fun (p : Nat × V) (q : Nat × Value) => p.1 = q.1 ∧ VRel β μ p.2 q.2) vs (l.map fun p => (p.1, a.eval p.2))
  | [], vs, h => by simp only [evParts, Option.some.injEq] at h; subst h; trivial
  | (i, x) :: l, vs, h => by
    simp only [evParts] at h
    split at h
    · rename_i v us h1 h2
      simp only [Option.some.injEq] at h
      subst h
      exact ⟨⟨rfl, ev_ok hS h1⟩, evParts_ok hS h2⟩
    · cases h

theorem vals_ok {cs : List C} : ∀ {l : List Value} {xs : List Value}, vals? cs = some l → All2 (CRel β μ) cs xs → xs = l := by
  induction cs with
  | nil =>
    intro l xs h h2
    cases xs with
    | nil => simp only [vals?, Option.some.injEq] at h; exact h
    | cons => exact h2.elim
  | cons c cs ih =>
    intro l xs h h2
    simp only [vals?] at h
    split at h
    · rename_i v vs hc hv
      simp only [Option.some.injEq] at h
      subst h
      cases xs with
      | nil => exact h2.elim
      | cons x xs =>
        cases c <;> simp only [C.val?, Option.some.injEq, reduceCtorEq] at hc
        subst hc
        rw [ih hv h2.2, h2.1]
    · cases h

theorem val_ok {v : V} {u x : Value} (h : v.val? = some u) (hr : VRel β μ v x) : x = u := by
  cases v with
  | one c =>
    cases c <;> simp only [V.val?, C.val?, Option.some.injEq, reduceCtorEq] at h
    subst h
    exact hr
  | agg cs =>
    obtain ⟨l, rfl, h2⟩ := hr
    simp only [V.val?, Option.map_eq_some_iff] at h
    obtain ⟨l', h3, rfl⟩ := h
    rw [← vals_ok h3 h2]
  | tup vs => simp [V.val?] at h

theorem pureRun_ok {α : Type} (s : Sem α) : ∀ {x : α}, pureRun P s = some x → ∀ w, s.run P w = .ok x w := by
  induction s with
  | pure y => intro x h w; simp only [pureRun, Option.some.injEq] at h; subst h; rfl
  | program k ih => intro x h w; exact ih P h w
  | mark m k ih => intro x h w; exact ih h w
  | _ => intro x h; simp [pureRun] at h

theorem pureOp_ok (hS : SRel N β μ nt σ a w) {o : Oper} {v : V} (h : pureOp P o σ = some v) (hs : ∀ cs b, o.op ≠ .select cs b) :
    ∃ x, (execOp a.eval o).run P w = .ok (.value x) w ∧ VRel β μ v x := by
  simp only [pureOp] at h
  split at h
  · rename_i hall
    split at h
    · rename_i x hx
      simp only [Option.some.injEq] at h
      subst h
      refine ⟨x, ?_, vrel_ofVal β μ x⟩
      rw [execOp_congr (ρ := a.eval) (ρ' := ρ σ) o hs fun y hy => ?_]
      · exact pureRun_ok _ hx w
      · have h1 := List.all_eq_true.1 hall y (by simpa using hy)
        unfold litAt at h1
        split at h1
        · rename_i u hu
          obtain ⟨z, hz⟩ := Option.isSome_iff_exists.1 h1
          simp only [ρ, hu, hz, Option.getD_some]
          exact val_ok hz (ev_ok hS hu)
        · cases h1
    · cases h
  · cases h
end reads
end E
end Go.Proofs.Ytibdplfdmncgiaa
