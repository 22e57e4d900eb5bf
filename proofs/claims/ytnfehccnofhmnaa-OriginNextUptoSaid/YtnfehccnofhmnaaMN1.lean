/-
  An abstract machine of this place's own: its values, its memory, what each operation does to them. It computes; nothing is proved here. No condition.
-/
import Derived.Test.YtnfehccnofhmnaaProg
import Derived.WalkKit
import Derived.WalkSpells
import Derived.WalkLawsBesides
import Derived.Deep.MidRow
import Derived.Lib.Hide
set_option linter.all false
namespace Go.Proofs.Ytnfehccnofhmnaa
namespace E

/-- What a cell holds: a value without an address; a pointer into a block; a pointer into a variable of the frame; a slice; a map; a function with captured variables. -/
inductive C where
  | lit (v : Value)
  | ptr (b o : Nat)
  | lp (t o : Nat)
  | sl (b o len cap : Nat)
  | mp (b : Nat)
  | fn (f : FuncId) (caps : List (Nat × Nat))
  deriving Inhabited

/-- A value: of one cell, of cells, several results. -/
inductive V where
  | one (c : C)
  | agg (cs : List C)
  | tup (vs : List V)
  deriving Inhabited

/-- A block of memory: a row of cells (that may be written, or not); a map. -/
inductive Blk where
  | row (rw : Bool) (sz : Nat) (cs : List C)
  | map (es : List (Value × V × Nat)) (clock : Nat)
  deriving Inhabited

def Blk.rw : Blk → Bool
  | .row rw _ _ => rw
  | .map .. => true

def get {α : Type} : List (Nat × α) → Nat → Option α
  | [], _ => none
  | (k, x) :: l, t => cond (Nat.beq k t) (some x) (get l t)

def setL {α : Type} (b : Nat) (x : α) : List (Nat × α) → List (Nat × α)
  | [] => [(b, x)]
  | (k, y) :: l => cond (Nat.beq k b) ((k, x) :: l) ((k, y) :: setL b x l)

def delL {α : Type} (b : Nat) : List (Nat × α) → List (Nat × α)
  | [] => []
  | (k, y) :: l => cond (Nat.beq k b) (delL b l) ((k, y) :: delL b l)

/-- The blocks, and the number of the next one. -/
structure Heap where
  next : Nat
  bs : List (Nat × Blk)
  deriving Inhabited

def Heap.get (h : Heap) (b : Nat) : Option Blk := E.get h.bs b
def Heap.set (h : Heap) (b : Nat) (x : Blk) : Heap := { h with bs := setL b x h.bs }
def Heap.del (h : Heap) (b : Nat) : Heap := { h with bs := delL b h.bs }

/-- A frame's slots, its variables that lie in memory and whose addresses stay in the frame, and the blocks. -/
structure St where
  env : List (Nat × V)
  bx : List (Nat × List C)
  h : Heap
  deriving Inhabited

/-- What a type is. -/
structure TI where
  size : Nat
  bytes : Nat
  zero : Option Value
  desc : TypeDesc

def tiOf (P : Program) (t : TypeId) : Option TI :=
  match P.info? t, P.underlying t with
  | some i, some d => some ⟨i.size, i.bytes, i.zero, d⟩
  | _, _ => none

/-- What the machine is told of the program: the types; which types compare cell by cell. -/
inductive CK where
  | i | b | s
  deriving DecidableEq

structure Ctx where
  tt : TypeId → Option TI
  flat : TypeId → Option (List CK)

def undefC : V := .one (.lit undef)

def V.ofVal : Value → V
  | .agg cs => .agg (cs.toList.map .lit)
  | v => .one (.lit v)

/-- A cell that may be kept in memory. -/
def C.ok : C → Bool
  | .lit (.agg _) | .lit (.tuple _) | .lp .. => false
  | _ => true

def V.cells : V → Option (List C)
  | .one c => some [c]
  | .agg cs => some cs
  | .tup _ => none

def ev (σ : St) : Operand → Option V
  | .tmp t => get σ.env t
  | .const v => some (V.ofVal v)
  | .global _ => none
  | .func f => some (.one (.fn f []))

def rd (cs : List C) (o n : Nat) : Option (List C) := if o + n ≤ cs.length then some ((cs.drop o).take n) else none
def wr (cs : List C) (o : Nat) (xs : List C) : Option (List C) := if o + xs.length ≤ cs.length then some (cs.take o ++ (xs ++ cs.drop (o + xs.length))) else none

def loadC (σ : St) (c : C) (n : Nat) : Option (List C) :=
  match c with
  | .lp t o => (get σ.bx t).bind fun cs => rd cs o n
  | .ptr b o => match σ.h.get b with
    | some (.row _ _ cs) => rd cs o n
    | _ => none
  | _ => none

def storeC (σ : St) (c : C) (xs : List C) : Option St :=
  if xs.all C.ok then
    match c with
    | .lp t o => (get σ.bx t).bind fun cs => (wr cs o xs).map fun cs' => { σ with bx := setL t cs' σ.bx }
    | .ptr b o => match σ.h.get b with
      | some (.row true sz cs) => (wr cs o xs).map fun cs' => { σ with h := σ.h.set b (.row true sz cs') }
      | _ => none
    | _ => none
  else none

def isAggD : TypeDesc → Bool
  | .struct _ | .array _ _ => true
  | _ => false

def mkV : Bool → List C → Option V
  | true, cs => some (.agg cs)
  | false, [c] => some (.one c)
  | false, _ => none

def sizeV (ti : TI) : Nat := if isAggD ti.desc then ti.size else 1

def load (ti : TI) (σ : St) (c : C) : Option V := (loadC σ c (sizeV ti)).bind (mkV (isAggD ti.desc))

/-- A part of a value. -/
def partV (ti : TI) (cs : List C) (o : Nat) : Option V := (rd cs o (sizeV ti)).bind (mkV (isAggD ti.desc))

/-- Parts laid into cells. -/
def fillC (place : Nat → Option (Nat × Nat)) : List C → List (Nat × V) → Option (List C)
  | cs, [] => some cs
  | cs, (i, v) :: rest =>
    match place i, v.cells with
    | some (off, size), some xs => if decide (xs.length = size) && xs.all C.ok then (wr cs off xs).bind fun cs' => fillC place cs' rest else none
    | _, _ => none

def evs (σ : St) : List Operand → Option (List V)
  | [] => some []
  | x :: l => match ev σ x, evs σ l with
    | some v, some vs => some (v :: vs)
    | _, _ => none

def evParts (σ : St) : List (Nat × Operand) → Option (List (Nat × V))
  | [] => some []
  | (i, x) :: l => match ev σ x, evParts σ l with
    | some v, some vs => some ((i, v) :: vs)
    | _, _ => none

def zeroC (ti : TI) : Option (List C) := ti.zero.map fun z => z.cells.toList.map .lit

/-- Zeros, n times. -/
def zerosC (z : List C) : Nat → List C
  | 0 => []
  | n + 1 => z ++ zerosC z n

def newRowH (σ : St) (nm sz : Nat) (cs : List C) : Option St :=
  if cs.all C.ok then some { σ with h := σ.h.set nm (.row true sz cs) } else none

def mentionsC (t : Nat) : C → Bool
  | .lp u _ => Nat.beq u t
  | _ => false
def mentionsV (t : Nat) : V → Bool
  | .one c => mentionsC t c
  | .agg cs => cs.any (mentionsC t)
  | .tup vs => vs.any fun v => match v with
    | .one c => mentionsC t c
    | .agg cs => cs.any (mentionsC t)
    | .tup _ => true

/-- A new variable of the frame, in slot t. -/
def newBox (σ : St) (t : Nat) (cs : List C) : Option St :=
  if cs.all C.ok && (get σ.bx t).isNone && !(σ.env.any fun p => mentionsV t p.2) then some { σ with bx := (t, cs) :: σ.bx } else none

def binI (op : BinOp) (k : IntKind) (a b : Int) : Option Value :=
  match op with
  | .add => some (.int k (k.wrap (a + b)))
  | .sub => some (.int k (k.wrap (a - b)))
  | .mul => some (.int k (k.wrap (a * b)))
  | .eql => some (.bool (a == b))
  | .neq => some (.bool (a != b))
  | .lss => some (.bool (decide (a < b)))
  | .leq => some (.bool (decide (a ≤ b)))
  | .gtr => some (.bool (decide (a > b)))
  | .geq => some (.bool (decide (a ≥ b)))
  | _ => none

def strEq (a b : ByteArray) : Bool := a.data.toList == b.data.toList

def binS (op : BinOp) (a b : ByteArray) : Option Value :=
  match op with
  | .eql => some (.bool (strEq a b))
  | .neq => some (.bool (!strEq a b))
  | _ => none

/-- Two cells without addresses of one kind. -/
def eqK1 : CK → C → C → Option Bool
  | .i, .lit (.int j a), .lit (.int k b) => if j = k then some (a == b) else none
  | .b, .lit (.bool a), .lit (.bool b) => some (a == b)
  | .s, .lit (.string a), .lit (.string b) => some (strEq a b)
  | _, _, _ => none

def eqK : List CK → List C → List C → Option Bool
  | [], [], [] => some true
  | k :: ks, x :: xs, y :: ys => match eqK1 k x y, eqK ks xs ys with
    | some a, some b => some (a && b)
    | _, _ => none
  | _, _, _ => none

/-- Is a cell nil? -/
def nilC : C → Option Bool
  | .lit (.pointer none) | .lit (.slice none _ _) | .lit (.map none) | .lit .nilFunc => some true
  | .ptr .. | .lp .. | .sl .. | .mp _ | .fn .. => some false
  | _ => none

def kindC : C → Nat
  | .lit (.pointer _) | .ptr .. | .lp .. => 1
  | .lit (.slice ..) | .sl .. => 2
  | .lit (.map _) | .mp _ => 3
  | .lit .nilFunc | .fn .. => 4
  | _ => 0

def kindD : TypeDesc → Nat
  | .pointer _ => 1
  | .slice _ => 2
  | .map _ _ => 3
  | .func _ _ _ => 4
  | _ => 5

/-- x == y for a pointer, a slice, a map, a function, one of the two nil. -/
def nilEq (d : TypeDesc) (x y : C) : Option Bool :=
  if kindC x = kindD d && kindC y = kindD d then
    match nilC x, nilC y with
    | some true, some b => some b
    | some b, some true => some b
    | _, _ => none
  else none

def cellEq (X : Ctx) (t : TypeId) (x y : C) : Option Bool :=
  match X.tt t with
  | some ti => match ti.desc with
    | .bool => eqK1 .b x y
    | d => nilEq d x y
  | none => none

def binV (X : Ctx) (op : BinOp) (t : TypeId) (x y : V) : Option Value :=
  match x, y with
  | .one (.lit (.int j a)), .one (.lit (.int k b)) => if j = k then binI op j a b else none
  | .one (.lit (.string a)), .one (.lit (.string b)) => binS op a b
  | .one x, .one y => match op with
    | .eql => (cellEq X t x y).map .bool
    | .neq => (cellEq X t x y).map fun b => .bool (!b)
    | _ => none
  | .agg xs, .agg ys => match X.flat t with
    | some ks => match op with
      | .eql => (eqK ks xs ys).map .bool
      | .neq => (eqK ks xs ys).map fun b => .bool (!b)
      | _ => none
    | none => none
  | _, _ => none

/-- A value without an address, as the model has it. -/
def C.val? : C → Option Value
  | .lit v => some v
  | _ => none
def vals? : List C → Option (List Value)
  | [] => some []
  | c :: l => match c.val?, vals? l with
    | some v, some vs => some (v :: vs)
    | _, _ => none
def V.val? : V → Option Value
  | .one c => c.val?
  | .agg cs => (vals? cs).map fun l => .agg l.toArray
  | .tup _ => none

/-- A run that asks neither the memory nor anybody else. -/
def pureRun {α : Type} (P : Program) : Sem α → Option α
  | .pure a => some a
  | .program k => pureRun P (k P)
  | .mark _ k => pureRun P k
  | _ => none

def ρ (σ : St) (x : Operand) : Value := match ev σ x with
  | some v => (v.val?).getD undef
  | none => undef

def litAt (σ : St) (x : Operand) : Bool :=
  match ev σ x with
  | some v => v.val?.isSome
  | none => false

def pureOp (P : Program) (o : Oper) (σ : St) : Option V :=
  if o.op.operands.toList.all (litAt σ) then
    match pureRun P (execOp (ρ σ) o) with
    | some (.value v) => some (V.ofVal v)
    | _ => none
  else none

def fieldTI (X : Ctx) (t : TypeId) (f : Nat) : Option (Nat × TI) :=
  match X.tt t with
  | some ti => match ti.desc with
    | .struct fs => match fs.toList[f]? with
      | some fd => match X.tt fd.type with
        | some fi => some (fd.offset, fi)
        | none => none
      | none => none
    | _ => none
  | none => none

def placesL (X : Ctx) : List Field → Option (List (Nat × Nat))
  | [] => some []
  | f :: fs => match X.tt f.type, placesL X fs with
    | some ti, some l => some ((f.offset, ti.size) :: l)
    | _, _ => none

def shiftC : C → Nat → Option C
  | .lp t o, k => some (.lp t (o + k))
  | .ptr b o, k => some (.ptr b (o + k))
  | _, _ => none

def idxOf : V → Option Int
  | .one (.lit (.int _ i)) => some i
  | _ => none

def optIdx (σ : St) : Option Operand → Option (Option Int)
  | none => some none
  | some x => match ev σ x with
    | some v => (idxOf v).map some
    | none => none

/-- The bounds of a slice expression. -/
def bounds (len cap : Nat) (lo hi mx : Option Int) : Option (Nat × Nat × Nat) :=
  let m : Int := mx.getD cap
  let h : Int := hi.getD len
  let l : Int := lo.getD 0
  if (mx.isNone || hi.isSome) && decide (0 ≤ l) && decide (l ≤ h) && decide (h ≤ m) && decide (m ≤ cap) then some (l.toNat, h.toNat, m.toNat) else none

def capsOf : List V → Option (List (Nat × Nat))
  | [] => some []
  | .one (.ptr b o) :: l => (capsOf l).map ((b, o) :: ·)
  | _ => none

/-- How a map's keys compare. -/
inductive KD where
  | cell (k : CK)
  | cells (t : TypeId) (ks : List CK)

def keyEq : KD → Value → Value → Option Bool
  | .cell k, a, b => eqK1 k (.lit a) (.lit b)
  | .cells _ ks, .agg xs, .agg ys => eqK ks (xs.toList.map .lit) (ys.toList.map .lit)
  | _, _, _ => none

def findK (d : KD) (k : Value) : List (Value × V × Nat) → Option (Option (V × Nat))
  | [] => some none
  | (k', v, n) :: l => match keyEq d k k' with
    | some true => some (some (v, n))
    | some false => findK d k l
    | none => none

def keyKD (X : Ctx) (t : TypeId) : Option KD :=
  match X.tt t with
  | some ti => match ti.desc with
    | .int _ => some (.cell .i)
    | .string => some (.cell .s)
    | .bool => some (.cell .b)
    | .struct _ | .array _ _ => (X.flat t).map (.cells t)
    | _ => none
  | none => none

/-- Is a key one of its kind? -/
def keyOkE (d : KD) (k : Value) : Bool := (keyEq d k k).isSome

/-- Is the append of m elements to a slice of a block's end: the place where it begins, and what it has. -/
def sliceCells (σ : St) (sz : Nat) : C → Option (List C)
  | .lit (.slice none _ _) => some []
  | .sl b o len _ => match σ.h.get b with
    | some (.row _ _ cs) => rd cs o (len * sz)
    | _ => none
  | _ => none

def lenC : C → Option Nat
  | .lit (.slice none n _) => some n
  | .sl _ _ n _ => some n
  | .lit (.string s) => some s.data.toList.length
  | _ => none

/-- append(s, x...). -/
def appendC (ti : TI) (nm : Nat) (σ : St) (s x : C) : Option (C × St) :=
  match sliceCells σ ti.size x, lenC x with
  | some news, some m =>
    if decide (0 < ti.size) && news.all C.ok && decide (news.length = m * ti.size) then
      match s with
      | .lit (.slice none 0 0) =>
        if m = 0 then some (s, σ)
        else if decide (m ≤ 9223372036854775807) && decide (m * ti.bytes ≤ 140737488355328) then some (.sl nm 0 m m, { σ with h := σ.h.set nm (.row true ti.size news) }) else none
      | .sl b o len cap =>
        match σ.h.get b with
        | some (.row true sz cs) =>
          if m = 0 then some (s, σ)
          else if len + m ≤ cap then
            (wr cs (o + len * ti.size) news).map fun cs' => (.sl b o (len + m) cap, { σ with h := σ.h.set b (.row true sz cs') })
          else if decide (sz = ti.size) && decide (len = cap) && decide (o + cap * ti.size = cs.length) && decide (len + m ≤ 9223372036854775807) && decide ((len + m) * ti.bytes ≤ 140737488355328) then
            (rd cs o (len * ti.size)).map fun olds => (.sl nm 0 (len + m) (len + m), { σ with h := (σ.h.del b).set nm (.row true ti.size (olds ++ news)) })
          else none
        | _ => none
      | _ => none
    else none
  | _, _ => none

/-- What the machine is told of a function: how many slots; the slots of variables whose addresses stay in the frame; what is read behind each region. -/
structure Fi where
  nt : Nat
  prom : List Nat
  lives : List (Nat × List Nat)

def onC (σ : St) (x : Operand) (k : C → Option (V × St)) : Option (V × St) :=
  match ev σ x with
  | some (.one c) => k c
  | _ => none

def onV (σ : St) (x : Operand) (k : V → Option (V × St)) : Option (V × St) :=
  match ev σ x with
  | some v => k v
  | none => none

def onTI (X : Ctx) (t : TypeId) (k : TI → Option (V × St)) : Option (V × St) :=
  match X.tt t with
  | some ti => k ti
  | none => none

def elemTI (X : Ctx) (t : TypeId) : Option TI :=
  match X.tt t with
  | some ti => match ti.desc with
    | .slice e => X.tt e
    | .array _ e => X.tt e
    | _ => none
  | none => none

/-- A new variable: of the frame, or in a block. -/
def newVarE (fi : Fi) (nm : Nat) (d : Option Nat) (σ : St) (cs : List C) : Option (V × St) :=
  match d with
  | some t => cond (fi.prom.contains t)
      ((newBox σ t cs).map fun σ' => (.one (.lp t 0), σ'))
      ((newRowH σ nm 0 cs).map fun σ' => (.one (.ptr nm 0), σ'))
  | none => none

def idxAddr (X : Ctx) (t : TypeId) (x : C) (i : Int) : Option C :=
  match X.tt t with
  | some ti => match ti.desc with
    | .array len e => match X.tt e with
      | some et => if decide (0 ≤ i) && decide (i < len) then shiftC x (i.toNat * et.size) else none
      | none => none
    | .slice e => match X.tt e, x with
      | some et, .sl b o len _ => if decide (0 ≤ i) && decide (i < len) then some (.ptr b (o + i.toNat * et.size)) else none
      | _, _ => none
    | _ => none
  | none => none

def szOk (σ : St) (b sz l : Nat) : Bool :=
  Nat.beq l 0 || (match σ.h.get b with
    | some (.row _ sz' _) => Nat.beq sz' sz || Nat.beq sz' 0
    | _ => false)

def sliceE (X : Ctx) (σ : St) (t : TypeId) (x : C) (lo hi mx : Option Int) : Option C :=
  match X.tt t with
  | some ti => match ti.desc with
    | .slice e => match X.tt e, x with
      | some et, .sl b o len cap => match bounds len cap lo hi mx with
        | some (l, h, m) => if szOk σ b et.size l then some (.sl b (o + l * et.size) (h - l) (m - l)) else none
        | none => none
      | some _, .lit (.slice none 0 0) => match bounds 0 0 lo hi mx with
        | some _ => some (.lit (.slice none 0 0))
        | none => none
      | _, _ => none
    | .array n e => match X.tt e, x with
      | some et, .ptr b o => match bounds n n lo hi mx with
        | some (l, h, m) => if mx.isSome then none else some (.sl b (o + l * et.size) (h - l) (m - l))
        | none => none
      | _, _ => none
    | _ => none
  | none => none

def makeSliceE (et : TI) (nm : Nat) (σ : St) (n c : Int) : Option (V × St) :=
  match zeroC et with
  | some z =>
    if decide (0 < et.size) && decide (z.length = et.size) && decide (0 ≤ n) && decide (n ≤ c) && decide (c ≤ 9223372036854775807) && decide (c.toNat * et.bytes ≤ 140737488355328) then
      (newRowH σ nm et.size (zerosC z c.toNat)).map fun σ' => (.one (.sl nm 0 n.toNat c.toNat), σ')
    else none
  | none => none

/-- A map's entries; nil has none. -/
def entriesOf (σ : St) : C → Option (List (Value × V × Nat))
  | .lit (.map none) => some []
  | .mp b => match σ.h.get b with
    | some (.map es _) => some es
    | _ => none
  | _ => none

def V.ofCells (ti : TI) (cs : List C) : Option V := mkV (isAggD ti.desc) cs

def setK (d : KD) (k : Value) (v : V) : List (Value × V × Nat) → Option (List (Value × V × Nat))
  | [] => none
  | (k', u, n) :: l => match keyEq d k k' with
    | some true => some ((k, v, n) :: l)
    | some false => (setK d k v l).map ((k', u, n) :: ·)
    | none => none

def dropK (d : KD) (k : Value) : List (Value × V × Nat) → Option (List (Value × V × Nat))
  | [] => some []
  | (k', u, n) :: l => match keyEq d k k' with
    | some true => some l
    | some false => (dropK d k l).map ((k', u, n) :: ·)
    | none => none

/-- A map type's keys and elements. -/
def mapKD (X : Ctx) (t : TypeId) : Option (KD × TI) :=
  match X.tt t with
  | some ti => match ti.desc with
    | .map k e => match keyKD X k, X.tt e with
      | some d, some et => some (d, et)
      | _, _ => none
    | _ => none
  | none => none

def V.okV : V → Bool
  | .one c => c.ok
  | .agg cs => cs.all C.ok
  | .tup _ => false

def lookupE (X : Ctx) (t : TypeId) (σ : St) (m : C) (k : Value) (ok : Bool) : Option V :=
  match mapKD X t, entriesOf σ m with
  | some (d, et), some es =>
    if keyOkE d k then
      match findK d k es with
      | some (some (v, _)) => if ok then match v with
        | .tup _ => none
        | v => some (.tup [v, .one (.lit (.bool true))]) else some v
      | some none => match et.zero with
        | some z => some (if ok then .tup [V.ofVal z, .one (.lit (.bool false))] else V.ofVal z)
        | none => none
      | none => none
    else none
  | _, _ => none

def updateE (X : Ctx) (t : TypeId) (σ : St) (m : C) (k : Value) (v : V) : Option St :=
  match mapKD X t, m with
  | some (d, _), .mp b => match σ.h.get b with
    | some (.map es clock) =>
      if keyOkE d k && v.okV then
        match findK d k es with
        | some (some _) => (setK d k v es).map fun es' => { σ with h := σ.h.set b (.map es' clock) }
        | some none => some { σ with h := σ.h.set b (.map (es ++ [(k, v, clock)]) (clock + 1)) }
        | none => none
      else none
    | _ => none
  | _, _ => none

def deleteE (X : Ctx) (t : TypeId) (σ : St) (m : C) (k : Value) : Option St :=
  match mapKD X t, m with
  | some (d, _), .mp b => match σ.h.get b with
    | some (.map es clock) => if keyOkE d k then (dropK d k es).map fun es' => { σ with h := σ.h.set b (.map es' clock) } else none
    | _ => none
  | _, _ => none

def builtinE (X : Ctx) (nm : Nat) (σ : St) (b : Builtin) (ts : List TypeId) (vs : List V) : Option (V × St) :=
  match b, ts, vs with
  | .len, t :: _, [.one c] => match X.tt t with
    | some ti => match ti.desc with
      | .map _ _ => (entriesOf σ c).map fun es => (.one (.lit (.int .i64 (es.length : Int))), σ)
      | .array n _ => some (.one (.lit (.int .i64 n)), σ)
      | .slice _ => match c with
        | .lit (.string _) => none
        | c => (lenC c).map fun (n : Nat) => (.one (.lit (.int .i64 (n : Int))), σ)
      | .string => match c with
        | .lit (.string s) => some (.one (.lit (.int .i64 s.data.toList.length)), σ)
        | _ => none
      | _ => none
    | none => none
  | .append, [t, t'], [.one s, .one x] =>
    if t = t' then match elemTI X t, X.tt t with
      | some ti, some st => match st.desc with
        | .slice _ => (appendC ti nm σ s x).map fun p => (.one p.1, p.2)
        | _ => none
      | _, _ => none
    else none
  | .delete, t :: _, [.one m, k] => match k.val? with
    | some k => (deleteE X t σ m k).map fun σ' => (.one (.lit (.tuple #[])), σ')
    | none => none
  | .clear, t :: _, [.one c] => match elemTI X t, X.tt t, c with
    | some et, some st, .sl b o len _ => match st.desc, zeroC et, σ.h.get b with
      | .slice _, some z, some (.row true sz cs) => if decide (z.length = et.size) && z.all C.ok && decide (0 < len) && decide (0 < et.size) then (wr cs o (zerosC z len)).map fun cs' => (.one (.lit (.tuple #[])), { σ with h := σ.h.set b (.row true sz cs') })
        else if len = 0 then some (.one (.lit (.tuple #[])), σ) else none
      | _, _, _ => none
    | _, _, _ => none
  | _, _, _ => none

/-- What an operation gives and does; a call of a function is none of these. -/
def op (P : Program) (X : Ctx) (fi : Fi) (nm : Nat) (o : Oper) (σ : St) : Option (V × St) :=
  match o.op with
  | .move x | .assign x => onV σ x fun v => some (v, σ)
  | .pick c a b => onC σ c fun
    | .lit (.bool t) => onV σ (if t then a else b) fun v => some (v, σ)
    | _ => none
  | .extract x i => onV σ x fun
    | .tup vs => vs[i]?.map (·, σ)
    | _ => none
  | .alloc e => onTI X e fun ti => match zeroC ti with
    | some cs => if cs.length = ti.size then newVarE fi nm o.dst σ cs else none
    | none => none
  | .box _ x => onV σ x fun v => match v.cells with
    | some cs => newVarE fi nm o.dst σ cs
    | none => none
  | .load t x => onTI X t fun ti => onC σ x fun c => (load ti σ c).map (·, σ)
  | .store t x y => onTI X t fun ti => onC σ x fun c => onV σ y fun v => match v.cells with
    | some cs => if cs.length = ti.size then (storeC σ c cs).map fun σ' => (undefC, σ') else none
    | none => none
  | .nilCheck x => onC σ x fun c => match c with
    | .ptr .. | .lp .. => some (.one c, σ)
    | _ => none
  | .fieldAddr t x f => match fieldTI X t f with
    | some (off, fi') => if 0 < fi'.size then onC σ x fun c => (shiftC c off).map fun c' => (.one c', σ) else none
    | none => none
  | .field t x f => match fieldTI X t f with
    | some (off, fi') => onV σ x fun
      | .agg cs => (partV fi' cs off).map (·, σ)
      | _ => none
    | none => none
  | .indexAddr t x i => onC σ x fun c => onV σ i fun v => match idxOf v with
    | some j => (idxAddr X t c j).map fun c' => (.one c', σ)
    | none => none
  | .index t x i => match X.tt t, elemTI X t with
    | some ti, some et => onV σ x fun v => onV σ i fun u => match ti.desc, v, idxOf u with
      | .array n _, .agg cs, some j => if decide (0 ≤ j) && decide (j < n) then (partV et cs (j.toNat * et.size)).map (·, σ) else none
      | _, _, _ => none
    | _, _ => pureV P o σ
  | .slice t x lo hi mx => match optIdx σ lo, optIdx σ hi, optIdx σ mx with
    | some l, some h, some m => match ev σ x with
      | some (.one (.lit (.string _))) => pureV P o σ
      | some (.one c) => (sliceE X σ t c l h m).map fun c' => (.one c', σ)
      | _ => none
    | _, _, _ => none
  | .build t ps => onTI X t fun ti => match zeroC ti, evParts σ ps.toList with
    | some z, some vs => match ti.desc with
      | .struct fs => match placesL X fs.toList with
        | some pl => (fillC (fun i => pl[i]?) z vs).map fun cs => (.agg cs, σ)
        | none => none
      | .array _ _ => match elemTI X t with
        | some et => (fillC (fun i => some (i * et.size, et.size)) z vs).map fun cs => (.agg cs, σ)
        | none => none
      | _ => none
    | _, _ => none
  | .buildSlice t n ps => match elemTI X t, evParts σ ps.toList, X.tt t with
    | some et, some vs, some st => match st.desc, zeroC et with
      | .slice _, some z => if decide (n * et.size ≤ 16777216) && decide (0 < et.size) && decide (z.length = et.size) then
          match fillC (fun i => some (i * et.size, et.size)) (zerosC z n) vs with
          | some cs => (newRowH σ nm et.size cs).map fun σ' => (.one (.sl nm 0 n n), σ')
          | none => none
        else none
      | _, _ => none
    | _, _, _ => none
  | .makeSlice t l c => onV σ l fun u => onV σ c fun v => match elemTI X t, X.tt t, u, v with
    | some et, some st, .one (.lit (.int .i64 n)), .one (.lit (.int .i64 m)) => match st.desc with
      | .slice _ => makeSliceE et nm σ n m
      | _ => none
    | _, _, _, _ => none
  | .makeMap _ none => some (.one (.mp nm), { σ with h := σ.h.set nm (.map [] 0) })
  | .lookup t x i ok => onC σ x fun c => onV σ i fun v => match v.val? with
    | some k => (lookupE X t σ c k ok).map (·, σ)
    | none => none
  | .mapUpdate t m k x | .insert t m k x => onC σ m fun c => onV σ k fun kv => onV σ x fun v => match kv.val? with
    | some kv => (updateE X t σ c kv v).map fun σ' => (undefC, σ')
    | none => none
  | .makeFunc (.func f) fs caps => if fs.size = 0 then match evs σ caps.toList with
    | some vs => (capsOf vs).map fun l => (.one (.fn f l), σ)
    | none => none else none
  | .binOp b t x y _ => onV σ x fun u => onV σ y fun v => match binV X b t u v with
    | some r => some (.one (.lit r), σ)
    | none => pureV P o σ
  | .call c => match c.callee with
    | .builtin b => match evs σ c.args.toList with
      | some vs => builtinE X nm σ b c.argTypes.toList vs
      | none => none
    | _ => none
  | .unOp .. | .convert .. => pureV P o σ
  | _ => none
where
  pureV (P : Program) (o : Oper) (σ : St) : Option (V × St) := (pureOp P o σ).map (·, σ)

/-- The function that a call calls, and its arguments. -/
def callee (σ : St) (o : Oper) : Option (FuncId × List V) :=
  match o.op with
  | .call c => match c.callee with
    | .value f => match ev σ f, evs σ c.args.toList with
      | some (.one (.fn g caps)), some vs => some (g, vs ++ caps.map fun p => .one (.ptr p.1 p.2))
      | _, _ => none
    | _ => none
  | _ => none

def isCall (o : Oper) : Bool :=
  match o.op with
  | .call c => match c.callee with
    | .value _ => true
    | _ => false
  | _ => false

def put (fi : Fi) (d : Option Nat) (v : V) (σ : St) : Option St :=
  match d with
  | none => some σ
  | some t => if t < fi.nt then some { σ with env := (t, v) :: σ.env } else none

/-- Is an operation wanted: its guard. -/
def wanted (ops : List Oper) (o : Oper) (σ : St) : Option Bool :=
  match o.guard with
  | none => some true
  | some (j, want) => match ops[j]? with
    | some oj => match oj.dst with
      | some t => match get σ.env t with
        | some (.one (.lit (.bool b))) => some (b == want)
        | some (.one (.lit (.tuple _))) => some false
        | _ => none
      | none => none
    | none => none

/-- The operations that make a block. -/
def makes (fi : Fi) (o : Oper) : Bool :=
  match o.op with
  | .alloc _ | .box .. => match o.dst with
    | some t => !fi.prom.contains t
    | none => true
  | .buildSlice .. | .makeSlice .. | .makeMap .. => true
  | .call c => match c.callee with
    | .builtin .append => true
    | _ => false
  | _ => false

def bump (fi : Fi) (o : Oper) (h : Heap) : Heap := cond (makes fi o) { h with next := h.next + 1 } h

def keepEnv (l : List Nat) (env : List (Nat × V)) : List (Nat × V) := l.filterMap fun t => (get env t).map (t, ·)
def keepBx (l : List Nat) (bx : List (Nat × List C)) : List (Nat × List C) := l.filterMap fun t => (get bx t).map (t, ·)

/-- Behind a region: what is not read any more is forgotten. -/
def clean (fi : Fi) (id : Nat) (σ : St) : St :=
  match get fi.lives id with
  | some l => { env := keepEnv l σ.env, bx := keepBx l σ.bx, h := σ.h }
  | none => σ

end E
end Go.Proofs.Ytnfehccnofhmnaa

/-
  An abstract machine of this place's own: how its states stand to the model's; the lemmas on lists, cells and blocks. No condition.
-/
namespace Go.Proofs.Ytnfehccnofhmnaa
open Go.RowKit
namespace E

/-! ### Lists, two at a time -/
def All2 {α β : Type} (R : α → β → Prop) : List α → List β → Prop
  | [], [] => True
  | x :: xs, y :: ys => R x y ∧ All2 R xs ys
  | _, _ => False

section all2
variable {α β : Type} {R S : α → β → Prop}
theorem All2.length : ∀ {xs : List α} {ys : List β}, All2 R xs ys → xs.length = ys.length
  | [], [], _ => rfl
  | _ :: _, _ :: _, h => congrArg (· + 1) (All2.length h.2)
  | [], _ :: _, h => h.elim
  | _ :: _, [], h => h.elim
theorem All2.get : ∀ {xs : List α} {ys : List β}, All2 R xs ys → ∀ {i : Nat} {x : α}, xs[i]? = some x → ∃ y, ys[i]? = some y ∧ R x y
  | [], [], _, _, _, h => by simp at h
  | x :: _, y :: _, h, 0, _, e => ⟨y, rfl, by simp at e; subst e; exact h.1⟩
  | _ :: xs, _ :: ys, h, i + 1, _, e => by
    obtain ⟨y, h1, h2⟩ := All2.get h.2 (i := i) (by simpa using e)
    exact ⟨y, by simpa using h1, h2⟩
  | [], _ :: _, h, _, _, _ => h.elim
  | _ :: _, [], h, _, _, _ => h.elim
theorem All2.mono : ∀ {xs : List α} {ys : List β}, All2 R xs ys → (∀ x, x ∈ xs → ∀ y, R x y → S x y) → All2 S xs ys
  | [], [], _, _ => trivial
  | x :: xs, y :: ys, h, k => ⟨k x (by simp) y h.1, All2.mono h.2 fun a ha b => k a (by simp [ha]) b⟩
  | [], _ :: _, h, _ => h.elim
  | _ :: _, [], h, _ => h.elim
theorem All2.append : ∀ {xs xs' : List α} {ys ys' : List β}, All2 R xs ys → All2 R xs' ys' → All2 R (xs ++ xs') (ys ++ ys')
  | [], _, [], _, _, h => h
  | _ :: _, _, _ :: _, _, h, h' => ⟨h.1, All2.append h.2 h'⟩
  | [], _, _ :: _, _, h, _ => h.elim
  | _ :: _, _, [], _, h, _ => h.elim
theorem All2.take : ∀ (n : Nat) {xs : List α} {ys : List β}, All2 R xs ys → All2 R (xs.take n) (ys.take n)
  | 0, _, _, _ => by simp [All2]
  | _ + 1, [], [], _ => by simp [All2]
  | n + 1, _ :: _, _ :: _, h => ⟨h.1, All2.take n h.2⟩
  | _, [], _ :: _, h => h.elim
  | _, _ :: _, [], h => h.elim
theorem All2.drop : ∀ (n : Nat) {xs : List α} {ys : List β}, All2 R xs ys → All2 R (xs.drop n) (ys.drop n)
  | 0, _, _, h => h
  | _ + 1, [], [], _ => by simp [All2]
  | n + 1, _ :: _, _ :: _, h => All2.drop n h.2
  | _, [], _ :: _, h => h.elim
  | _, _ :: _, [], h => h.elim
theorem All2.map_left {γ : Type} {f : γ → α} : ∀ {xs : List γ} {ys : List β}, All2 (fun c y => R (f c) y) xs ys → All2 R (xs.map f) ys
  | [], [], _ => trivial
  | _ :: _, _ :: _, h => ⟨h.1, All2.map_left h.2⟩
  | [], _ :: _, h => h.elim
  | _ :: _, [], h => h.elim
theorem All2.map_right {γ : Type} {f : γ → β} : ∀ {xs : List α} {ys : List γ}, All2 (fun x c => R x (f c)) xs ys → All2 R xs (ys.map f)
  | [], [], _ => trivial
  | _ :: _, _ :: _, h => ⟨h.1, All2.map_right h.2⟩
  | [], _ :: _, h => h.elim
  | _ :: _, [], h => h.elim
theorem All2.one {x : α} {ys : List β} (h : All2 R [x] ys) : ∃ y, ys = [y] ∧ R x y := by
  match ys, h with
  | [y], h => exact ⟨y, rfl, h.1⟩
end all2

theorem nbeq_ne {k t : Nat} (h : k ≠ t) : Nat.beq k t = false := by
  cases hb : Nat.beq k t with
  | false => rfl
  | true => exact absurd (Nat.eq_of_beq_eq_true hb) h

theorem get_cons {α : Type} (k : Nat) (x : α) (l : List (Nat × α)) (t : Nat) : get ((k, x) :: l) t = if k = t then some x else get l t := by
  by_cases h : k = t
  · subst h; simp [get]
  · simp [get, nbeq_ne h, h]

theorem get_setL {α : Type} (b : Nat) (x : α) : ∀ (l : List (Nat × α)) (t : Nat), get (setL b x l) t = if b = t then some x else get l t
  | [], t => by rw [setL, get_cons]
  | (k, y) :: l, t => by
    have ih := get_setL b x l t
    by_cases hk : k = b
    · subst hk
      simp only [setL, Nat.beq_refl, cond_true, get_cons]
      split <;> rfl
    · simp only [setL, nbeq_ne hk, cond_false, get_cons, ih]
      by_cases hb : k = t
      · subst hb
        rw [if_pos rfl, if_neg (fun h : b = k => hk h.symm), if_pos rfl]
      · simp [hb]

theorem get_delL {α : Type} (b : Nat) : ∀ (l : List (Nat × α)) (t : Nat), get (delL b l) t = if b = t then none else get l t
  | [], t => by simp [delL, get]
  | (k, y) :: l, t => by
    have ih := get_delL b l t
    by_cases hk : k = b
    · subst hk
      simp only [delL, Nat.beq_refl, cond_true, ih, get_cons]
      split <;> rfl
    · simp only [delL, nbeq_ne hk, cond_false, get_cons, ih]
      by_cases hb : k = t
      · subst hb
        rw [if_pos rfl, if_neg (fun h : b = k => hk h.symm), if_pos rfl]
      · simp [hb]

theorem Heap.get_set (h : Heap) (b : Nat) (x : Blk) (t : Nat) : (h.set b x).get t = if b = t then some x else h.get t := get_setL b x h.bs t
theorem Heap.get_del (h : Heap) (b t : Nat) : (h.del b).get t = if b = t then none else h.get t := get_delL b h.bs t

/-! ### What stands for what -/
/-- Where a block lies: the model's block, the place of its first cell, how many cells that block has, how many of them are the row's, the cells of an element. -/
structure Pl where
  rb : Nat
  ro : Nat
  ext : Nat
  n : Nat
  sz : Nat

abbrev Pls := Nat → Option Pl
abbrev Fms := Nat → Option Nat
def noF : Fms := fun _ => none

def PtrRel (β : Pls) (c : Nat × Nat) (x : Value) : Prop := ∃ p, β c.1 = some p ∧ x = .pointer (some ⟨p.rb, p.ro + c.2, none⟩)

def CRel (β : Pls) (μ : Fms) : C → Value → Prop
  | .lit v, x => x = v
  | .ptr b o, x => ∃ p, β b = some p ∧ x = .pointer (some ⟨p.rb, p.ro + o, none⟩)
  | .lp t o, x => ∃ r, μ t = some r ∧ x = .pointer (some ⟨r, o, none⟩)
  | .sl b o len cap, x => ∃ p k rc, β b = some p ∧ x = .slice (some ⟨p.rb, k, none⟩) len rc ∧ len ≤ cap ∧ cap ≤ rc ∧ (rc ≠ 0 → k = p.ro + o) ∧ (rc = cap ∨ (0 < p.sz ∧ o + cap * p.sz = p.n ∧ p.ro + o + rc * p.sz ≤ p.ext))
  | .mp b, x => ∃ p, β b = some p ∧ x = .map (some p.rb)
  | .fn f caps, x => ∃ l, x = .func (.func f) #[] l ∧ All2 (PtrRel β) caps l.toList

def VRel1 (β : Pls) (μ : Fms) : V → Value → Prop
  | .one c, x => CRel β μ c x
  | .agg cs, x => ∃ l, x = .agg l ∧ All2 (CRel β μ) cs l.toList
  | .tup _, _ => False

def VRel (β : Pls) (μ : Fms) : V → Value → Prop
  | .one c, x => CRel β μ c x
  | .agg cs, x => ∃ l, x = .agg l ∧ All2 (CRel β μ) cs l.toList
  | .tup vs, x => ∃ l, x = .tuple l ∧ All2 (VRel1 β μ) vs l.toList

theorem VRel1.up {β : Pls} {μ : Fms} {v : V} {x : Value} (h : VRel1 β μ v x) : VRel β μ v x := by
  cases v with
  | one c => exact h
  | agg cs => exact h
  | tup vs => exact h.elim

def ERel (β : Pls) (p : Value × V × Nat) (e : MapEntry) : Prop := e.key = p.1 ∧ VRel β noF p.2.1 e.val ∧ e.born = p.2.2

/-- The cells xs lie in a row from place o on. -/
def winAt (arr : Array Value) (o : Nat) (xs : List Value) : Prop := ∀ j x, xs[j]? = some x → arr[o + j]? = some x

def BRel (β : Pls) (p : Pl) (blk : Blk) (w : World) : Prop :=
  match blk with
  | .row rw sz cs => p.sz = sz ∧ p.n = cs.length ∧ ∃ arr el fr xs, w.heap[p.rb]? = some (.cells arr el fr) ∧ winAt arr p.ro xs ∧ All2 (CRel β noF) cs xs ∧ p.ext = arr.size ∧ p.ro + cs.length ≤ arr.size ∧ (rw = true → fr = (0, 0))
  | .map es clock => p.ro = 0 ∧ ∃ arr, w.heap[p.rb]? = some (.map arr clock) ∧ All2 (ERel β) es arr.toList

structure HRel (N : Nat) (β : Pls) (h : Heap) (w : World) : Prop where
  fresh : ∀ b, N ≤ b → β b = none
  blk : ∀ b x, h.get b = some x → ∃ p, β b = some p ∧ BRel β p x w
  apart : ∀ b b' x x' p p', b ≠ b' → h.get b = some x → h.get b' = some x' → β b = some p → β b' = some p' → x.rw = true → p.rb ≠ p'.rb

/-- A variable of the frame. -/
def XRel (β : Pls) (r : Nat) (cs : List C) (w : World) : Prop :=
  ∃ arr el, w.heap[r]? = some (.cells arr el (0, 0)) ∧ All2 (CRel β noF) cs arr.toList

structure SRel (N : Nat) (β : Pls) (μ : Fms) (nt : Nat) (σ : St) (a : Act) (w : World) : Prop where
  heap : HRel N β σ.h w
  size : a.tmps.size = nt
  defers : a.defers = []
  env : ∀ t v, get σ.env t = some v → ∃ x, a.tmps[t]? = some x ∧ VRel β μ v x
  box : ∀ t cs, get σ.bx t = some cs → ∃ r, μ t = some r ∧ XRel β r cs w
  bxap : ∀ t t' cs cs' r, t ≠ t' → get σ.bx t = some cs → get σ.bx t' = some cs' → μ t = some r → μ t' ≠ some r
  hap : ∀ t cs b x p, get σ.bx t = some cs → σ.h.get b = some x → β b = some p → μ t ≠ some p.rb

/-- The model's blocks that the state may write. -/
def mine (β : Pls) (μ : Fms) (σ : St) (r : Nat) : Prop :=
  (∃ b x p, σ.h.get b = some x ∧ x.rw = true ∧ β b = some p ∧ p.rb = r) ∨ (∃ t cs, get σ.bx t = some cs ∧ μ t = some r)

structure Step (β : Pls) (μ : Fms) (σ : St) (w : World) (β' : Pls) (μ' : Fms) (σ' : St) (w' : World) : Prop where
  ext : ∀ b p, β b = some p → β' b = some p
  os : w'.os = w.os
  tape : w'.tape = w.tape
  output : w'.output = w.output
  size : w.heap.size ≤ w'.heap.size
  fr : ∀ r, r < w.heap.size → ¬ mine β μ σ r → w'.heap[r]? = w.heap[r]?
  own : ∀ r, mine β' μ' σ' r → mine β μ σ r ∨ w.heap.size ≤ r
  blks : ∀ b x p, σ'.h.get b = some x → β' b = some p → (∃ b0 x0 p0, σ.h.get b0 = some x0 ∧ β b0 = some p0 ∧ p0.rb = p.rb) ∨ w.heap.size ≤ p.rb

theorem Step.refl (β : Pls) (μ : Fms) (σ : St) (w : World) : Step β μ σ w β μ σ w := ⟨fun _ _ h => h, rfl, rfl, rfl, Nat.le_refl _, fun _ _ _ => rfl, fun _ h => .inl h, fun b x p h1 h2 => .inl ⟨b, x, p, h1, h2, rfl⟩⟩

theorem Step.trans {β β1 β2 : Pls} {μ μ1 μ2 : Fms} {σ σ1 σ2 : St} {w w1 w2 : World} (h : Step β μ σ w β1 μ1 σ1 w1) (k : Step β1 μ1 σ1 w1 β2 μ2 σ2 w2) : Step β μ σ w β2 μ2 σ2 w2 where
  ext := fun b p e => k.ext b p (h.ext b p e)
  os := k.os.trans h.os
  tape := k.tape.trans h.tape
  output := k.output.trans h.output
  size := Nat.le_trans h.size k.size
  fr := fun r hr hn => by
    rw [k.fr r (Nat.lt_of_lt_of_le hr h.size) (fun hm => (h.own r hm).elim hn (fun hge => absurd hr (Nat.not_lt.2 hge)))]
    exact h.fr r hr hn
  own := fun r hm => (k.own r hm).elim (h.own r) (fun hge => .inr (Nat.le_trans h.size hge))
  blks := fun b x p h1 h2 => (k.blks b x p h1 h2).elim (fun ⟨b1, x1, p1, g1, g2, g3⟩ => g3 ▸ h.blks b1 x1 p1 g1 g2) (fun hge => .inr (Nat.le_trans h.size hge))

/-! ### What grows -/
theorem PtrRel.up {β β' : Pls} (hx : ∀ b p, β b = some p → β' b = some p) {c : Nat × Nat} {x : Value} (h : PtrRel β c x) : PtrRel β' c x :=
  let ⟨p, h1, h2⟩ := h; ⟨p, hx _ _ h1, h2⟩

theorem CRel.up {β β' : Pls} {μ μ' : Fms} (hx : ∀ b p, β b = some p → β' b = some p) {c : C} {x : Value} (hm : ∀ t r, mentionsC t c = true → μ t = some r → μ' t = some r) (h : CRel β μ c x) : CRel β' μ' c x := by
  cases c with
  | lit v => exact h
  | ptr b o => obtain ⟨p, h1, h2⟩ := h; exact ⟨p, hx _ _ h1, h2⟩
  | lp t o => obtain ⟨r, h1, h2⟩ := h; exact ⟨r, hm t r (by simp [mentionsC]) h1, h2⟩
  | sl b o len cap => obtain ⟨p, k, rc, h1, h2⟩ := h; exact ⟨p, k, rc, hx _ _ h1, h2⟩
  | mp b => obtain ⟨p, h1, h2⟩ := h; exact ⟨p, hx _ _ h1, h2⟩
  | fn f caps => obtain ⟨l, h1, h2⟩ := h; exact ⟨l, h1, h2.mono fun _ _ _ => PtrRel.up hx⟩

theorem VRel1.ups {β β' : Pls} {μ μ' : Fms} (hx : ∀ b p, β b = some p → β' b = some p) {v : V} {x : Value} (hm : ∀ t r, mentionsV t v = true → μ t = some r → μ' t = some r) (h : VRel1 β μ v x) : VRel1 β' μ' v x := by
  cases v with
  | one c => exact CRel.up hx hm h
  | agg cs =>
    obtain ⟨l, h1, h2⟩ := h
    exact ⟨l, h1, h2.mono fun c hc _ => CRel.up hx fun t r ht => hm t r (by simp only [mentionsV, List.any_eq_true]; exact ⟨c, hc, ht⟩)⟩
  | tup vs => exact h.elim

theorem VRel.ups {β β' : Pls} {μ μ' : Fms} (hx : ∀ b p, β b = some p → β' b = some p) {v : V} {x : Value} (hm : ∀ t r, mentionsV t v = true → μ t = some r → μ' t = some r) (h : VRel β μ v x) : VRel β' μ' v x := by
  cases v with
  | one c => exact CRel.up hx hm h
  | agg cs =>
    obtain ⟨l, h1, h2⟩ := h
    exact ⟨l, h1, h2.mono fun c hc _ => CRel.up hx fun t r ht => hm t r (by simp only [mentionsV, List.any_eq_true]; exact ⟨c, hc, ht⟩)⟩
  | tup vs =>
    obtain ⟨l, h1, h2⟩ := h
    refine ⟨l, h1, h2.mono fun u hu y hy => VRel1.ups hx (fun t r ht => hm t r ?_) hy⟩
    simp only [mentionsV, List.any_eq_true]
    refine ⟨u, hu, ?_⟩
    cases u with
    | one c => exact ht
    | agg cs => exact ht
    | tup _ => rfl

theorem VRel.up {β β' : Pls} {μ : Fms} (hx : ∀ b p, β b = some p → β' b = some p) {v : V} {x : Value} (h : VRel β μ v x) : VRel β' μ v x := VRel.ups hx (fun _ _ _ h => h) h

/-- A cell that may be kept has no pointer into the frame. -/
theorem CRel.noF {β : Pls} {μ μ' : Fms} {c : C} {x : Value} (ho : c.ok = true) (h : CRel β μ c x) : CRel β μ' c x :=
  CRel.up (fun _ _ h => h) (fun t r ht => by cases c <;> simp_all [mentionsC, C.ok]) h

theorem CRel.oneCell {β : Pls} {μ : Fms} {c : C} {x : Value} (ho : c.ok = true) (h : CRel β μ c x) : x.oneCell' = true := by
  cases c with
  | lit v =>
    have hv : x = v := h
    subst hv
    cases x <;> simp_all [C.ok, Value.oneCell']
  | ptr b o => obtain ⟨p, h1, rfl⟩ := h; rfl
  | lp t o => obtain ⟨p, h1, rfl⟩ := h; rfl
  | sl b o len cap => obtain ⟨p, k, rc, h1, rfl, _⟩ := h; rfl
  | mp b => obtain ⟨p, h1, rfl⟩ := h; rfl
  | fn f caps => obtain ⟨l, rfl, h2⟩ := h; rfl

theorem all2_noF {β : Pls} {μ μ' : Fms} {cs : List C} {xs : List Value} (ho : cs.all C.ok = true) (h : All2 (CRel β μ) cs xs) : All2 (CRel β μ') cs xs :=
  h.mono fun c hc _ hr => CRel.noF (List.all_eq_true.1 ho c hc) hr

theorem all2_oneCell {β : Pls} {μ : Fms} : ∀ {cs : List C} {xs : List Value}, cs.all C.ok = true → All2 (CRel β μ) cs xs → ∀ x ∈ xs, x.oneCell' = true
  | [], [], _, _ => by simp
  | c :: cs, x :: xs, ho, h => by
    simp only [List.all_cons, Bool.and_eq_true] at ho
    intro y hy
    cases hy with
    | head => exact CRel.oneCell ho.1 h.1
    | tail _ hy => exact all2_oneCell ho.2 h.2 y hy
  | [], _ :: _, _, h => h.elim
  | _ :: _, [], _, h => h.elim

theorem ERel.up {β β' : Pls} (hx : ∀ b p, β b = some p → β' b = some p) {q : Value × V × Nat} {e : MapEntry} (h : ERel β q e) : ERel β' q e := ⟨h.1, VRel.up hx h.2.1, h.2.2⟩

theorem BRel.up {β β' : Pls} (hx : ∀ b p, β b = some p → β' b = some p) {p : Pl} {blk : Blk} {w w' : World} (hw : w'.heap[p.rb]? = w.heap[p.rb]?) (h : BRel β p blk w) : BRel β' p blk w' := by
  cases blk with
  | row rw sz cs =>
    obtain ⟨h1, h2, arr, el, fr, xs, h3, h4, h5, h6⟩ := h
    exact ⟨h1, h2, arr, el, fr, xs, by rw [hw]; exact h3, h4, h5.mono fun _ _ _ => CRel.up hx fun _ _ _ h => h, h6⟩
  | map es clock =>
    obtain ⟨h1, arr, h3, h4⟩ := h
    exact ⟨h1, arr, by rw [hw]; exact h3, h4.mono fun _ _ _ => ERel.up hx⟩

theorem XRel.up {β β' : Pls} (hx : ∀ b p, β b = some p → β' b = some p) {r : Nat} {cs : List C} {w w' : World} (hw : w'.heap[r]? = w.heap[r]?) (h : XRel β r cs w) : XRel β' r cs w' := by
  obtain ⟨arr, el, h1, h2⟩ := h
  exact ⟨arr, el, by rw [hw]; exact h1, h2.mono fun _ _ _ => CRel.up hx fun _ _ _ h => h⟩

/-! ### What is read -/
section reads
variable {P : Program} {N : Nat} {β : Pls} {μ : Fms} {nt : Nat} {σ : St} {a : Act} {w : World}

theorem vrel_ofVal (β : Pls) (μ : Fms) (v : Value) : VRel β μ (V.ofVal v) v := by
  have hagg : ∀ l : List Value, All2 (CRel β μ) (l.map .lit) l := fun l => by
    induction l with
    | nil => trivial
    | cons x l ih => exact ⟨rfl, ih⟩
  cases v with
  | agg cs => exact ⟨cs, rfl, hagg _⟩
  | _ => exact rfl

theorem eval_tmp {t : Tmp} {x : Value} (h : a.tmps[t]? = some x) : a.eval (.tmp t) = x := by
  simp [Act.eval, h]

theorem ev_ok (hS : SRel N β μ nt σ a w) {x : Operand} {v : V} (h : ev σ x = some v) : VRel β μ v (a.eval x) := by
  cases x with
  | tmp t =>
    obtain ⟨y, h1, h2⟩ := hS.env t v h
    rw [eval_tmp h1]; exact h2
  | const c =>
    simp only [ev, Option.some.injEq] at h
    subst h
    exact vrel_ofVal β μ c
  | global g => simp [ev] at h
  | func f =>
    simp only [ev, Option.some.injEq] at h
    subst h
    exact ⟨#[], rfl, trivial⟩

theorem evs_ok (hS : SRel N β μ nt σ a w) : ∀ {l : List Operand} {vs : List V}, evs σ l = some vs → All2 (VRel β μ) vs (l.map a.eval)
  | [], vs, h => by simp only [evs, Option.some.injEq] at h; subst h; trivial
  | x :: l, vs, h => by
    simp only [evs] at h
    split at h
    · rename_i v us h1 h2
      simp only [Option.some.injEq] at h
      subst h
      exact ⟨ev_ok hS h1, evs_ok hS h2⟩
    · cases h

theorem evParts_ok (hS : SRel N β μ nt σ a w) : ∀ {l : List (Nat × Operand)} {vs : List (Nat × V)}, evParts σ l = some vs → All2 (fun (p : Nat × V) (q : Nat × Value) => p.1 = q.1 ∧ VRel β μ p.2 q.2) vs (l.map fun p => (p.1, a.eval p.2))
  | [], vs, h => by simp only [evParts, Option.some.injEq] at h; subst h; trivial
  | (i, x) :: l, vs, h => by
    simp only [evParts] at h
    split at h
    · rename_i v us h1 h2
      simp only [Option.some.injEq] at h
      subst h
      exact ⟨⟨rfl, ev_ok hS h1⟩, evParts_ok hS h2⟩
    · cases h

theorem vals_ok {cs : List C} : ∀ {l : List Value} {xs : List Value}, vals? cs = some l → All2 (CRel β μ) cs xs → xs = l := by
  induction cs with
  | nil =>
    intro l xs h h2
    cases xs with
    | nil => simp only [vals?, Option.some.injEq] at h; exact h
    | cons => exact h2.elim
  | cons c cs ih =>
    intro l xs h h2
    simp only [vals?] at h
    split at h
    · rename_i v vs hc hv
      simp only [Option.some.injEq] at h
      subst h
      cases xs with
      | nil => exact h2.elim
      | cons x xs =>
        cases c <;> simp only [C.val?, Option.some.injEq, reduceCtorEq] at hc
        subst hc
        rw [ih hv h2.2, h2.1]
    · cases h

theorem val_ok {v : V} {u x : Value} (h : v.val? = some u) (hr : VRel β μ v x) : x = u := by
  cases v with
  | one c =>
    cases c <;> simp only [V.val?, C.val?, Option.some.injEq, reduceCtorEq] at h
    subst h
    exact hr
  | agg cs =>
    obtain ⟨l, rfl, h2⟩ := hr
    simp only [V.val?, Option.map_eq_some_iff] at h
    obtain ⟨l', h3, rfl⟩ := h
    rw [← vals_ok h3 h2]
  | tup vs => simp [V.val?] at h

theorem pureRun_ok {α : Type} (s : Sem α) : ∀ {x : α}, pureRun P s = some x → ∀ w, s.run P w = .ok x w := by
  induction s with
  | pure y => intro x h w; simp only [pureRun, Option.some.injEq] at h; subst h; rfl
  | program k ih => intro x h w; exact ih P h w
  | mark m k ih => intro x h w; exact ih h w
  | _ => intro x h; simp [pureRun] at h

theorem pureOp_ok (hS : SRel N β μ nt σ a w) {o : Oper} {v : V} (h : pureOp P o σ = some v) (hs : ∀ cs b, o.op ≠ .select cs b) :
    ∃ x, (execOp a.eval o).run P w = .ok (.value x) w ∧ VRel β μ v x := by
  simp only [pureOp] at h
  split at h
  · rename_i hall
    split at h
    · rename_i x hx
      simp only [Option.some.injEq] at h
      subst h
      refine ⟨x, ?_, vrel_ofVal β μ x⟩
      rw [execOp_congr (ρ := a.eval) (ρ' := ρ σ) o hs fun y hy => ?_]
      · exact pureRun_ok _ hx w
      · have h1 := List.all_eq_true.1 hall y (by simpa using hy)
        unfold litAt at h1
        split at h1
        · rename_i u hu
          obtain ⟨z, hz⟩ := Option.isSome_iff_exists.1 h1
          simp only [ρ, hu, hz, Option.getD_some]
          exact val_ok hz (ev_ok hS hu)
        · cases h1
    · cases h
  · cases h
end reads
end E
end Go.Proofs.Ytnfehccnofhmnaa

/-
  An abstract machine of this place's own: what becomes of a state when a block is written, made, handed on, forgotten. No condition.
-/
namespace Go.Proofs.Ytnfehccnofhmnaa
open Go.RowKit
namespace E
section blocks
variable {N N' : Nat} {β : Pls} {μ : Fms} {nt : Nat} {σ : St} {a : Act} {w w' : World}

def upd {α : Type} (β : Nat → Option α) (b : Nat) (p : α) : Nat → Option α := fun k => if k = b then some p else β k
theorem upd_same {α : Type} (β : Nat → Option α) (b : Nat) (p : α) : upd β b p b = some p := by simp [upd]
theorem upd_other {α : Type} (β : Nat → Option α) {b k : Nat} (p : α) (h : k ≠ b) : upd β b p k = β k := by simp [upd, h]
theorem upd_ext {α : Type} {β : Nat → Option α} {b : Nat} (p : α) (h : β b = none) : ∀ k q, β k = some q → upd β b p k = some q := fun k q e => by
  rw [upd_other β p (fun hk => by subst hk; rw [h] at e; cases e)]; exact e

theorem BRel.lt {p : Pl} {x : Blk} (h : BRel β p x w) : p.rb < w.heap.size := by
  cases x with
  | row rw sz cs => obtain ⟨_, _, arr, el, fr, xs, h3, _⟩ := h; exact (Array.getElem?_eq_some_iff.1 h3).1
  | map es clock => obtain ⟨_, arr, h3, _⟩ := h; exact (Array.getElem?_eq_some_iff.1 h3).1

theorem XRel.lt {r : Nat} {cs : List C} (h : XRel β r cs w) : r < w.heap.size := by
  obtain ⟨arr, el, h3, _⟩ := h; exact (Array.getElem?_eq_some_iff.1 h3).1

/-- The state stands in a world that differs only in what nobody reads. -/
theorem SRel.world (hS : SRel N β μ nt σ a w) (h : ∀ r, r < w.heap.size → w'.heap[r]? = w.heap[r]?) : SRel N β μ nt σ a w' where
  heap := ⟨hS.heap.fresh, fun b x hx => let ⟨p, h1, h2⟩ := hS.heap.blk b x hx; ⟨p, h1, h2.up (fun _ _ h => h) (h _ h2.lt)⟩, hS.heap.apart⟩
  size := hS.size
  defers := hS.defers
  env := hS.env
  box := fun t cs ht => let ⟨r, h1, h2⟩ := hS.box t cs ht; ⟨r, h1, h2.up (fun _ _ h => h) (h _ h2.lt)⟩
  bxap := hS.bxap
  hap := hS.hap

theorem SRel.wider (hS : SRel N β μ nt σ a w) (h : N ≤ N') : SRel N' β μ nt σ a w :=
  { hS with heap := ⟨fun b hb => hS.heap.fresh b (Nat.le_trans h hb), hS.heap.blk, hS.heap.apart⟩ }

/-- A block is forgotten. -/
theorem SRel.del (hS : SRel N β μ nt σ a w) (b : Nat) : SRel N β μ nt { σ with h := σ.h.del b } a w where
  heap := by
    have g : ∀ k x, (σ.h.del b).get k = some x → σ.h.get k = some x := fun k x hx => by
      rw [Heap.get_del] at hx; split at hx
      · cases hx
      · exact hx
    exact ⟨hS.heap.fresh, fun k x hx => hS.heap.blk k x (g k x hx), fun k k' x x' p p' hk h1 h2 => hS.heap.apart k k' x x' p p' hk (g k x h1) (g k' x' h2)⟩
  size := hS.size
  defers := hS.defers
  env := hS.env
  box := hS.box
  bxap := hS.bxap
  hap := fun t cs k x p ht hx => hS.hap t cs k x p ht (by
    have hx' : (σ.h.del b).get k = some x := hx
    rw [Heap.get_del] at hx'; split at hx'
    · cases hx'
    · exact hx')

/-- A block is made, where no other one lies. -/
theorem SRel.make (hS : SRel N β μ nt σ a w) (hN : N ≤ N') {nm : Nat} (hnm : nm < N') (hβ : β nm = none) {p : Pl} {x1 : Blk}
    (hch : ∀ r, r < w.heap.size → r ≠ p.rb → w'.heap[r]? = w.heap[r]?)
    (hfree : ∀ b x q, σ.h.get b = some x → β b = some q → q.rb ≠ p.rb) (hbox : ∀ t cs, get σ.bx t = some cs → μ t ≠ some p.rb)
    (hB : BRel (upd β nm p) p x1 w') : SRel N' (upd β nm p) μ nt { σ with h := σ.h.set nm x1 } a w' where
  heap := by
    have hx := upd_ext p hβ
    refine ⟨fun b hb => ?_, fun b x hb => ?_, fun b b' x x' q q' hne h1 h2 e1 e2 hrw => ?_⟩
    · rw [upd_other β p (by omega)]; exact hS.heap.fresh b (by omega)
    · by_cases hbn : b = nm
      · subst hbn
        have hb' : (σ.h.set b x1).get b = some x := hb
        rw [Heap.get_set, if_pos rfl, Option.some.injEq] at hb'
        subst hb'
        exact ⟨p, upd_same β b p, hB⟩
      · have hb' : (σ.h.set nm x1).get b = some x := hb
        rw [Heap.get_set, if_neg (fun h => hbn h.symm)] at hb'
        obtain ⟨q, h3, h4⟩ := hS.heap.blk b x hb'
        exact ⟨q, hx b q h3, h4.up hx (hch _ h4.lt (hfree b x q hb' h3))⟩
    · have h1' : (σ.h.set nm x1).get b = some x := h1
      have h2' : (σ.h.set nm x1).get b' = some x' := h2
      rw [Heap.get_set] at h1' h2'
      by_cases hbn : nm = b
      · subst hbn
        rw [upd_same, Option.some.injEq] at e1
        subst e1
        rw [if_neg hne] at h2'
        rw [upd_other β p (Ne.symm hne)] at e2
        exact fun h => hfree b' x' q' h2' e2 h.symm
      · rw [if_neg hbn] at h1'
        rw [upd_other β p (fun h => hbn h.symm)] at e1
        by_cases hbn' : nm = b'
        · subst hbn'
          rw [upd_same, Option.some.injEq] at e2
          subst e2
          exact hfree b x q h1' e1
        · rw [if_neg hbn'] at h2'
          rw [upd_other β p (fun h => hbn' h.symm)] at e2
          exact hS.heap.apart b b' x x' q q' hne h1' h2' e1 e2 hrw
  size := hS.size
  defers := hS.defers
  env := fun t v ht => let ⟨x, h1, h2⟩ := hS.env t v ht; ⟨x, h1, h2.up (upd_ext p hβ)⟩
  box := fun t cs ht => by
    obtain ⟨r, h1, h2⟩ := hS.box t cs ht
    refine ⟨r, h1, h2.up (upd_ext p hβ) (hch _ h2.lt fun h => ?_)⟩
    subst h
    exact hbox t cs ht h1
  bxap := hS.bxap
  hap := fun t cs b x q ht hx hq => by
    have hx' : (σ.h.set nm x1).get b = some x := hx
    rw [Heap.get_set] at hx'
    by_cases hbn : nm = b
    · subst hbn
      rw [upd_same, Option.some.injEq] at hq
      subst hq
      exact hbox t cs ht
    · rw [if_neg hbn] at hx'
      rw [upd_other β p (fun h => hbn h.symm)] at hq
      exact hS.hap t cs b x q ht hx' hq

/-- A block is written. -/
theorem SRel.write (hS : SRel N β μ nt σ a w) {b : Nat} {x0 x1 : Blk} {p : Pl} (hb : σ.h.get b = some x0) (hrw : x0.rw = true) (hβ : β b = some p)
    (hch : ∀ r, r < w.heap.size → r ≠ p.rb → w'.heap[r]? = w.heap[r]?) (hB : BRel β p x1 w') : SRel N β μ nt { σ with h := σ.h.set b x1 } a w' where
  heap := by
    refine ⟨hS.heap.fresh, fun k x hk => ?_, fun k k' x x' q q' hne h1 h2 e1 e2 hr => ?_⟩
    · have hk' : (σ.h.set b x1).get k = some x := hk
      rw [Heap.get_set] at hk'
      by_cases hbk : b = k
      · subst hbk
        rw [if_pos rfl, Option.some.injEq] at hk'
        subst hk'
        exact ⟨p, hβ, hB⟩
      · rw [if_neg hbk] at hk'
        obtain ⟨q, h3, h4⟩ := hS.heap.blk k x hk'
        exact ⟨q, h3, h4.up (fun _ _ h => h) (hch _ h4.lt (Ne.symm (hS.heap.apart b k x0 x p q hbk hb hk' hβ h3 hrw)))⟩
    · have h1' : (σ.h.set b x1).get k = some x := h1
      have h2' : (σ.h.set b x1).get k' = some x' := h2
      rw [Heap.get_set] at h1' h2'
      by_cases hbk : b = k
      · subst hbk
        rw [if_neg hne] at h2'
        rw [hβ, Option.some.injEq] at e1
        subst e1
        exact hS.heap.apart b k' x0 x' p q' hne hb h2' hβ e2 hrw
      · rw [if_neg hbk] at h1'
        by_cases hbk' : b = k'
        · subst hbk'
          rw [hβ, Option.some.injEq] at e2
          subst e2
          exact Ne.symm (hS.heap.apart b k x0 x p q hbk hb h1' hβ e1 hrw)
        · rw [if_neg hbk'] at h2'
          exact hS.heap.apart k k' x x' q q' hne h1' h2' e1 e2 hr
  size := hS.size
  defers := hS.defers
  env := hS.env
  box := fun t cs ht => by
    obtain ⟨r, h1, h2⟩ := hS.box t cs ht
    refine ⟨r, h1, h2.up (fun _ _ h => h) (hch _ h2.lt fun h => ?_)⟩
    subst h
    exact hS.hap t cs b x0 p ht hb hβ h1
  bxap := hS.bxap
  hap := fun t cs k x q ht hx hq => by
    have hx' : (σ.h.set b x1).get k = some x := hx
    rw [Heap.get_set] at hx'
    by_cases hbk : b = k
    · subst hbk
      rw [hβ, Option.some.injEq] at hq
      subst hq
      exact hS.hap t cs b x0 p ht hb hβ
    · rw [if_neg hbk] at hx'
      exact hS.hap t cs k x q ht hx' hq

/-- A variable of the frame is written. -/
theorem SRel.writeBox (hS : SRel N β μ nt σ a w) {t : Nat} {cs cs' : List C} {r : Nat} (ht : get σ.bx t = some cs) (hr : μ t = some r)
    (hch : ∀ k, k < w.heap.size → k ≠ r → w'.heap[k]? = w.heap[k]?) (hX : XRel β r cs' w') : SRel N β μ nt { σ with bx := setL t cs' σ.bx } a w' where
  heap := ⟨hS.heap.fresh, fun b x hb => by
    obtain ⟨p, h1, h2⟩ := hS.heap.blk b x hb
    exact ⟨p, h1, h2.up (fun _ _ h => h) (hch _ h2.lt fun h => by
      have := hS.hap t cs b x p ht hb h1
      rw [hr, h] at this
      exact this rfl)⟩, hS.heap.apart⟩
  size := hS.size
  defers := hS.defers
  env := hS.env
  box := fun u ds hu => by
    have hu' : get (setL t cs' σ.bx) u = some ds := hu
    rw [get_setL] at hu'
    by_cases h : t = u
    · subst h
      rw [if_pos rfl, Option.some.injEq] at hu'
      subst hu'
      exact ⟨r, hr, hX⟩
    · rw [if_neg h] at hu'
      obtain ⟨k, h1, h2⟩ := hS.box u ds hu'
      exact ⟨k, h1, h2.up (fun _ _ h => h) (hch _ h2.lt fun hk => by
        subst hk
        exact hS.bxap t u cs ds _ h ht hu' hr h1)⟩
  bxap := fun u u' ds ds' k hne h1 h2 e1 => by
    have f : ∀ v es, get (setL t cs' σ.bx) v = some es → ∃ fs, get σ.bx v = some fs := fun v es hv => by
      rw [get_setL] at hv
      by_cases h : t = v
      · subst h; exact ⟨cs, ht⟩
      · rw [if_neg h] at hv; exact ⟨es, hv⟩
    obtain ⟨fs, g1⟩ := f u ds h1
    obtain ⟨fs', g2⟩ := f u' ds' h2
    exact hS.bxap u u' fs fs' k hne g1 g2 e1
  hap := fun u ds b x p hu hx hp => by
    have hu' : get (setL t cs' σ.bx) u = some ds := hu
    rw [get_setL] at hu'
    by_cases h : t = u
    · subst h; exact hS.hap t cs b x p ht hx hp
    · rw [if_neg h] at hu'; exact hS.hap u ds b x p hu' hx hp

theorem mentionsV_env {σ : St} {t : Nat} (hm : (σ.env.any fun p => mentionsV t p.2) = false) : ∀ u v, get σ.env u = some v → mentionsV t v = false := by
  intro u v hu
  have key : ∀ l : List (Nat × V), (l.any fun p => mentionsV t p.2) = false → get l u = some v → mentionsV t v = false := by
    intro l
    induction l with
    | nil => intro _ h; simp [get] at h
    | cons q l ih =>
      intro hl h
      obtain ⟨k, y⟩ := q
      simp only [List.any_cons, Bool.or_eq_false_iff] at hl
      rw [get_cons] at h
      split at h
      · simp only [Option.some.injEq] at h; subst h; exact hl.1
      · exact ih hl.2 h
  exact key σ.env hm hu

/-- A variable of the frame is made. -/
theorem SRel.makeBox (hS : SRel N β μ nt σ a w) {t : Nat} {cs : List C} {r : Nat} (ht : get σ.bx t = none) (hm : (σ.env.any fun p => mentionsV t p.2) = false)
    (hch : ∀ k, k < w.heap.size → w'.heap[k]? = w.heap[k]?) (hr : w.heap.size ≤ r) (hX : XRel β r cs w') : SRel N β (upd μ t r) nt { σ with bx := (t, cs) :: σ.bx } a w' where
  heap := ⟨hS.heap.fresh, fun b x hb => by
    obtain ⟨p, h1, h2⟩ := hS.heap.blk b x hb
    exact ⟨p, h1, h2.up (fun _ _ h => h) (hch _ h2.lt)⟩, hS.heap.apart⟩
  size := hS.size
  defers := hS.defers
  env := fun u v hu => by
    obtain ⟨x, h1, h2⟩ := hS.env u v hu
    refine ⟨x, h1, h2.ups (fun _ _ h => h) fun k q hk hq => ?_⟩
    rw [upd_other μ r fun h => ?_]
    · exact hq
    · subst h
      rw [mentionsV_env hm u v hu] at hk
      cases hk
  box := fun u ds hu => by
    have hu' : get ((t, cs) :: σ.bx) u = some ds := hu
    rw [get_cons] at hu'
    by_cases h : t = u
    · subst h
      rw [if_pos rfl, Option.some.injEq] at hu'
      subst hu'
      exact ⟨r, upd_same μ t r, hX⟩
    · rw [if_neg h] at hu'
      obtain ⟨k, h1, h2⟩ := hS.box u ds hu'
      exact ⟨k, by rw [upd_other μ r (Ne.symm h)]; exact h1, h2.up (fun _ _ h => h) (hch _ h2.lt)⟩
  bxap := fun u u' ds ds' k hne h1 h2 e1 => by
    have h1' : get ((t, cs) :: σ.bx) u = some ds := h1
    have h2' : get ((t, cs) :: σ.bx) u' = some ds' := h2
    rw [get_cons] at h1' h2'
    have old : ∀ v es, get σ.bx v = some es → ∀ q, μ v = some q → q < w.heap.size := fun v es hv q hq => by
      obtain ⟨q', g1, g2⟩ := hS.box v es hv
      rw [hq, Option.some.injEq] at g1
      subst g1
      exact g2.lt
    by_cases h : t = u
    · subst h
      rw [if_neg hne] at h2'
      rw [upd_same, Option.some.injEq] at e1
      subst e1
      rw [upd_other μ _ (Ne.symm hne)]
      intro he
      have := old u' ds' h2' _ he
      omega
    · rw [if_neg h] at h1'
      rw [upd_other μ r (Ne.symm h)] at e1
      by_cases h' : t = u'
      · subst h'
        rw [upd_same]
        intro he
        simp only [Option.some.injEq] at he
        subst he
        have := old u ds h1' _ e1
        omega
      · rw [if_neg h'] at h2'
        rw [upd_other μ r (Ne.symm h')]
        exact hS.bxap u u' ds ds' k hne h1' h2' e1
  hap := fun u ds b x p hu hx hp => by
    have hu' : get ((t, cs) :: σ.bx) u = some ds := hu
    rw [get_cons] at hu'
    by_cases h : t = u
    · subst h
      rw [upd_same]
      intro he
      simp only [Option.some.injEq] at he
      obtain ⟨q, g1, g2⟩ := hS.heap.blk b x hx
      rw [hp, Option.some.injEq] at g1
      subst g1
      have := g2.lt
      omega
    · rw [if_neg h] at hu'
      rw [upd_other μ r (Ne.symm h)]
      exact hS.hap u ds b x p hu' hx hp

/-! ### The steps -/
structure Same (w w' : World) : Prop where
  os : w'.os = w.os
  tape : w'.tape = w.tape
  output : w'.output = w.output
  size : w.heap.size ≤ w'.heap.size

theorem Step.make (hs : Same w w') {nm : Nat} (hβ : β nm = none) {p : Pl} {x1 : Blk} (hp : w.heap.size ≤ p.rb)
    (hch : ∀ r, r < w.heap.size → w'.heap[r]? = w.heap[r]?) : Step β μ σ w (upd β nm p) μ { σ with h := σ.h.set nm x1 } w' where
  ext := upd_ext p hβ
  os := hs.os
  tape := hs.tape
  output := hs.output
  size := hs.size
  fr := fun r hr _ => hch r hr
  own := fun r hm => by
    rcases hm with ⟨b, x, q, h1, h2, h3, h4⟩ | ⟨t, cs, h1, h2⟩
    · have h1' : (σ.h.set nm x1).get b = some x := h1
      rw [Heap.get_set] at h1'
      by_cases h : nm = b
      · subst h
        rw [upd_same, Option.some.injEq] at h3
        subst h3
        exact .inr (by omega)
      · rw [if_neg h] at h1'
        rw [upd_other β p (Ne.symm h)] at h3
        exact .inl (.inl ⟨b, x, q, h1', h2, h3, h4⟩)
    · exact .inl (.inr ⟨t, cs, h1, h2⟩)
  blks := fun b x q h1 h3 => by
    have h1' : (σ.h.set nm x1).get b = some x := h1
    rw [Heap.get_set] at h1'
    by_cases h : nm = b
    · subst h
      rw [upd_same, Option.some.injEq] at h3
      subst h3
      exact .inr hp
    · rw [if_neg h] at h1'
      rw [upd_other β p (Ne.symm h)] at h3
      exact .inl ⟨b, x, q, h1', h3, rfl⟩

theorem Step.del (β : Pls) (μ : Fms) (σ : St) (w : World) (b : Nat) : Step β μ σ w β μ { σ with h := σ.h.del b } w where
  ext := fun _ _ h => h
  os := rfl
  tape := rfl
  output := rfl
  size := Nat.le_refl _
  fr := fun _ _ _ => rfl
  own := fun r hm => by
    rcases hm with ⟨k, x, q, h1, h2, h3, h4⟩ | ⟨t, cs, h1, h2⟩
    · have h1' : (σ.h.del b).get k = some x := h1
      rw [Heap.get_del] at h1'
      split at h1'
      · cases h1'
      · exact .inl (.inl ⟨k, x, q, h1', h2, h3, h4⟩)
    · exact .inl (.inr ⟨t, cs, h1, h2⟩)
  blks := fun k x q h1 h3 => by
    have h1' : (σ.h.del b).get k = some x := h1
    rw [Heap.get_del] at h1'
    split at h1'
    · cases h1'
    · exact .inl ⟨k, x, q, h1', h3, rfl⟩

/-- The block goes on under another name. -/
theorem Step.move (hs : Same w w') {b nm : Nat} {x0 x1 : Blk} {p p' : Pl} (hb : σ.h.get b = some x0) (hrw : x0.rw = true) (hp : β b = some p) (hβ : β nm = none) (hpp : p'.rb = p.rb)
    (hch : ∀ r, r < w.heap.size → r ≠ p.rb → w'.heap[r]? = w.heap[r]?) : Step β μ σ w (upd β nm p') μ { σ with h := (σ.h.del b).set nm x1 } w' where
  ext := upd_ext p' hβ
  os := hs.os
  tape := hs.tape
  output := hs.output
  size := hs.size
  fr := fun r hr hn => hch r hr fun h => hn (.inl ⟨b, x0, p, hb, hrw, hp, h.symm⟩)
  own := fun r hm => by
    rcases hm with ⟨k, x, q, h1, h2, h3, h4⟩ | ⟨t, cs, h1, h2⟩
    · have h1' : ((σ.h.del b).set nm x1).get k = some x := h1
      rw [Heap.get_set] at h1'
      by_cases h : nm = k
      · subst h
        rw [upd_same, Option.some.injEq] at h3
        subst h3
        exact .inl (.inl ⟨b, x0, p, hb, hrw, hp, by omega⟩)
      · rw [if_neg h, Heap.get_del] at h1'
        rw [upd_other β p' (Ne.symm h)] at h3
        split at h1'
        · cases h1'
        · exact .inl (.inl ⟨k, x, q, h1', h2, h3, h4⟩)
    · exact .inl (.inr ⟨t, cs, h1, h2⟩)
  blks := fun k x q h1 h3 => by
    have h1' : ((σ.h.del b).set nm x1).get k = some x := h1
    rw [Heap.get_set] at h1'
    by_cases h : nm = k
    · subst h
      rw [upd_same, Option.some.injEq] at h3
      subst h3
      exact .inl ⟨b, x0, p, hb, hp, hpp.symm⟩
    · rw [if_neg h, Heap.get_del] at h1'
      rw [upd_other β p' (Ne.symm h)] at h3
      split at h1'
      · cases h1'
      · exact .inl ⟨k, x, q, h1', h3, rfl⟩

theorem Step.write (hs : Same w w') {b : Nat} {x0 x1 : Blk} {p : Pl} (hb : σ.h.get b = some x0) (hrw : x0.rw = true) (hp : β b = some p)
    (hch : ∀ r, r < w.heap.size → r ≠ p.rb → w'.heap[r]? = w.heap[r]?) : Step β μ σ w β μ { σ with h := σ.h.set b x1 } w' where
  ext := fun _ _ h => h
  os := hs.os
  tape := hs.tape
  output := hs.output
  size := hs.size
  fr := fun r hr hn => hch r hr fun h => hn (.inl ⟨b, x0, p, hb, hrw, hp, h.symm⟩)
  own := fun r hm => by
    rcases hm with ⟨k, x, q, h1, h2, h3, h4⟩ | ⟨t, cs, h1, h2⟩
    · have h1' : (σ.h.set b x1).get k = some x := h1
      rw [Heap.get_set] at h1'
      by_cases h : b = k
      · subst h
        rw [hp, Option.some.injEq] at h3
        subst h3
        exact .inl (.inl ⟨b, x0, p, hb, hrw, hp, h4⟩)
      · rw [if_neg h] at h1'
        exact .inl (.inl ⟨k, x, q, h1', h2, h3, h4⟩)
    · exact .inl (.inr ⟨t, cs, h1, h2⟩)
  blks := fun k x q h1 h3 => by
    have h1' : (σ.h.set b x1).get k = some x := h1
    rw [Heap.get_set] at h1'
    by_cases h : b = k
    · subst h
      exact .inl ⟨b, x0, q, hb, h3, rfl⟩
    · rw [if_neg h] at h1'
      exact .inl ⟨k, x, q, h1', h3, rfl⟩

theorem Step.writeBox (hs : Same w w') {t : Nat} {cs cs' : List C} {r : Nat} (ht : get σ.bx t = some cs) (hr : μ t = some r)
    (hch : ∀ k, k < w.heap.size → k ≠ r → w'.heap[k]? = w.heap[k]?) : Step β μ σ w β μ { σ with bx := setL t cs' σ.bx } w' where
  ext := fun _ _ h => h
  os := hs.os
  tape := hs.tape
  output := hs.output
  size := hs.size
  fr := fun k hk hn => hch k hk fun h => hn (.inr ⟨t, cs, ht, by rw [h]; exact hr⟩)
  own := fun k hm => by
    rcases hm with h | ⟨u, ds, h1, h2⟩
    · exact .inl (.inl h)
    · have h1' : get (setL t cs' σ.bx) u = some ds := h1
      rw [get_setL] at h1'
      by_cases h : t = u
      · subst h
        exact .inl (.inr ⟨t, cs, ht, h2⟩)
      · rw [if_neg h] at h1'
        exact .inl (.inr ⟨u, ds, h1', h2⟩)
  blks := fun k x q h1 h3 => .inl ⟨k, x, q, h1, h3, rfl⟩

theorem Step.makeBox (hs : Same w w') {t : Nat} {cs : List C} {r : Nat} (hr : w.heap.size ≤ r)
    (hch : ∀ k, k < w.heap.size → w'.heap[k]? = w.heap[k]?) : Step β μ σ w β (upd μ t r) { σ with bx := (t, cs) :: σ.bx } w' where
  ext := fun _ _ h => h
  os := hs.os
  tape := hs.tape
  output := hs.output
  size := hs.size
  fr := fun k hk _ => hch k hk
  own := fun k hm => by
    rcases hm with h | ⟨u, ds, h1, h2⟩
    · exact .inl (.inl h)
    · have h1' : get ((t, cs) :: σ.bx) u = some ds := h1
      rw [get_cons] at h1'
      by_cases h : t = u
      · subst h
        rw [upd_same, Option.some.injEq] at h2
        exact .inr (by omega)
      · rw [if_neg h] at h1'
        rw [upd_other μ r (Ne.symm h)] at h2
        exact .inl (.inr ⟨u, ds, h1', h2⟩)
  blks := fun k x q h1 h3 => .inl ⟨k, x, q, h1, h3, rfl⟩

theorem same_alloc (w : World) (o : Obj) : Same w (w.alloc o) := ⟨rfl, rfl, rfl, by simp⟩
theorem same_setRow (w : World) (g : Nat) (cs : Array Value) : Same w (w.setRow g cs) := ⟨rfl, rfl, rfl, by simp⟩
theorem alloc_old (w : World) (o : Obj) (k : Nat) (h : k < w.heap.size) : (w.alloc o).heap[k]? = w.heap[k]? := Below.heap_alloc w o k h
theorem alloc_new (w : World) (o : Obj) : (w.alloc o).heap[w.heap.size]? = some o := by
  show (w.heap.push o)[w.heap.size]? = _
  simp
end blocks
end E
end Go.Proofs.Ytnfehccnofhmnaa

/-
  An abstract machine of this place's own: each operation that computes, reads, writes or makes a variable does in the model what it does here. No condition.
-/
namespace Go.Proofs.Ytnfehccnofhmnaa
open Go.RowKit
namespace E
section ops
variable {P : Program} {X : Ctx} {fi : Fi} {N N' nm : Nat} {β : Pls} {μ : Fms} {nt : Nat} {σ σ' : St} {a : Act} {w : World} {o : Oper} {v : V}

def OpOk (P : Program) (fi : Fi) (N' nm : Nat) (β : Pls) (μ : Fms) (nt : Nat) (σ : St) (a : Act) (w : World) (o : Oper) (v : V) (σ' : St) : Prop :=
  ∃ n x w' β' μ', (execOp a.eval o).run P w = .ok n w' ∧ (n = .value x ∨ (n = .skip ∧ x = undef)) ∧ VRel β' μ' v x ∧ SRel N' β' μ' nt σ' a w' ∧ Step β μ σ w β' μ' σ' w' ∧
    (∀ b, (b ≠ nm ∨ makes fi o = false) → β' b = β b) ∧ (∀ t, o.dst ≠ some t → μ' t = μ t) ∧ σ'.h.next = σ.h.next

theorem OpOk.val (hN : N ≤ N') (hS : SRel N β μ nt σ a w) {x : Value} (hr : (execOp a.eval o).run P w = .ok (.value x) w) (hv : VRel β μ v x) : OpOk P fi N' nm β μ nt σ a w o v σ :=
  ⟨_, x, w, β, μ, hr, .inl rfl, hv, hS.wider hN, Step.refl _ _ _ _, fun _ _ => rfl, fun _ _ => rfl, rfl⟩

/-- What the machine is told of the types is so. -/
def TtOk (P : Program) (X : Ctx) : Prop := ∀ t ti, X.tt t = some ti → tiOf P t = some ti ∧ ∃ z, ti.zero = some z ∧ z.cells.size = ti.size

theorem tt_info (hT : TtOk P X) {t : TypeId} {ti : TI} (h : X.tt t = some ti) : ∃ i, P.info? t = some i ∧ i.size = ti.size ∧ i.bytes = ti.bytes ∧ i.zero = ti.zero ∧ P.underlying t = some ti.desc := by
  have := (hT t ti h).1
  unfold tiOf at this
  split at this
  · rename_i i d h1 h2
    simp only [Option.some.injEq] at this
    subst this
    exact ⟨i, h1, rfl, rfl, rfl, h2⟩
  · cases this

theorem onV_some {x : Operand} {k : V → Option (V × St)} (h : onV σ x k = some (v, σ')) : ∃ u, ev σ x = some u ∧ k u = some (v, σ') := by
  unfold onV at h
  split at h
  · rename_i u hu; exact ⟨u, hu, h⟩
  · cases h

theorem onC_some {x : Operand} {k : C → Option (V × St)} (h : onC σ x k = some (v, σ')) : ∃ c, ev σ x = some (.one c) ∧ k c = some (v, σ') := by
  unfold onC at h
  split at h
  · rename_i u hu; exact ⟨u, hu, h⟩
  · cases h

theorem onTI_some {t : TypeId} {k : TI → Option (V × St)} (h : onTI X t k = some (v, σ')) : ∃ ti, X.tt t = some ti ∧ k ti = some (v, σ') := by
  unfold onTI at h
  split at h
  · rename_i u hu; exact ⟨u, hu, h⟩
  · cases h

theorem op_move (hN : N ≤ N') (hS : SRel N β μ nt σ a w) {x : Operand} (ho : o.op = .move x ∨ o.op = .assign x) (h : onV σ x (fun v => some (v, σ)) = some (v, σ')) : OpOk P fi N' nm β μ nt σ a w o v σ' := by
  obtain ⟨u, h1, h2⟩ := onV_some h
  simp only [Option.some.injEq, Prod.mk.injEq] at h2
  obtain ⟨rfl, rfl⟩ := h2
  refine OpOk.val hN hS (x := a.eval x) ?_ (ev_ok hS h1)
  unfold execOp
  rcases ho with ho | ho <;> simp only [ho] <;> rfl

theorem op_pick (hN : N ≤ N') (hS : SRel N β μ nt σ a w) {c x y : Operand} (ho : o.op = .pick c x y) (h : op P X fi nm o σ = some (v, σ')) : OpOk P fi N' nm β μ nt σ a w o v σ' := by
  simp only [op, ho] at h
  obtain ⟨k, h1, h2⟩ := onC_some h
  have hc := ev_ok hS h1
  split at h2
  · rename_i t
    obtain ⟨u, h3, h4⟩ := onV_some h2
    simp only [Option.some.injEq, Prod.mk.injEq] at h4
    obtain ⟨rfl, rfl⟩ := h4
    have hc' : a.eval c = .bool t := hc
    refine OpOk.val hN hS (x := a.eval (if t then x else y)) ?_ (ev_ok hS h3)
    unfold execOp
    simp only [ho, hc', asBool, Sem.run_bind, Sem.run_pure, Result.andThen_ok]
    cases t <;> rfl
  · cases h2

theorem op_extract (hN : N ≤ N') (hS : SRel N β μ nt σ a w) {x : Operand} {i : Nat} (ho : o.op = .extract x i) (h : op P X fi nm o σ = some (v, σ')) : OpOk P fi N' nm β μ nt σ a w o v σ' := by
  simp only [op, ho] at h
  obtain ⟨k, h1, h2⟩ := onV_some h
  have hc := ev_ok hS h1
  split at h2
  · rename_i vs
    obtain ⟨l, hl, hall⟩ := hc
    simp only [Option.map_eq_some_iff, Prod.mk.injEq] at h2
    obtain ⟨u, hu, rfl, rfl⟩ := h2
    obtain ⟨y, hy, hr⟩ := hall.get hu
    refine OpOk.val hN hS (x := y) ?_ hr.up
    have hy' : l[i]? = some y := by simpa using hy
    unfold execOp
    simp only [ho, hl, Instr.extract, hy', Sem.run_bind, Sem.run_pure, Result.andThen_ok]
  · cases h2

theorem vcells_ok {cs : List C} {x : Value} (hv : VRel β μ v x) (hc : v.cells = some cs) (hok : cs.all C.ok = true) : All2 (CRel β μ) cs x.cells.toList := by
  cases v with
  | one c =>
    simp only [V.cells, Option.some.injEq] at hc
    subst hc
    simp only [List.all_cons, List.all_nil, Bool.and_true] at hok
    have h1 := CRel.oneCell hok hv
    have : x.cells = #[x] := by cases x <;> simp_all [Value.cells, Value.oneCell']
    rw [this]
    exact ⟨hv, trivial⟩
  | agg ds =>
    simp only [V.cells, Option.some.injEq] at hc
    subst hc
    obtain ⟨l, rfl, h2⟩ := hv
    exact h2
  | tup vs => simp [V.cells] at hc

/-- A variable made: of the frame, or in a block. -/
theorem newVar_ok (hmk : ∀ t, o.dst = some t → makes fi o = !fi.prom.contains t) (hN : N ≤ N') (hnm : nm < N') (hβ : β nm = none) (hS : SRel N β μ nt σ a w) {cs : List C} {arr : Array Value} {e : TypeId}
    (hr : (execOp a.eval o).run P w = .ok (.value (.pointer (some ⟨w.heap.size, 0, none⟩))) (w.alloc (.cells arr e))) (hc : cs.all C.ok = true → All2 (CRel β μ) cs arr.toList)
    (h : newVarE fi nm o.dst σ cs = some (v, σ')) : OpOk P fi N' nm β μ nt σ a w o v σ' := by
  unfold newVarE at h
  split at h
  · rename_i t ht
    cases hp : fi.prom.contains t with
    | true =>
      rw [hp, cond_true] at h
      simp only [newBox, Option.map_eq_some_iff, Prod.mk.injEq] at h
      obtain ⟨σ1, h1, rfl, rfl⟩ := h
      split at h1
      · rename_i hc1
        simp only [Bool.and_eq_true, Bool.not_eq_true', Option.isNone_iff_eq_none] at hc1
        obtain ⟨⟨hok, hfree⟩, hm⟩ := hc1
        simp only [Option.some.injEq] at h1
        subst h1
        have hX : XRel β w.heap.size cs (w.alloc (.cells arr e)) := ⟨arr, e, alloc_new w _, all2_noF hok (hc hok)⟩
        have hS' := hS.makeBox (w' := w.alloc (.cells arr e)) hfree hm (fun k hk => alloc_old w _ k hk) (Nat.le_refl _) hX
        refine ⟨_, _, _, β, upd μ t w.heap.size, hr, .inl rfl, ⟨w.heap.size, upd_same μ t _, rfl⟩, hS'.wider hN, Step.makeBox (same_alloc w _) (Nat.le_refl _) (fun k hk => alloc_old w _ k hk), fun _ _ => rfl, fun u hu => ?_, rfl⟩
        exact upd_other μ _ fun h => hu (by rw [ht, h])
      · cases h1
    | false =>
      rw [hp, cond_false] at h
      simp only [newRowH, Option.map_eq_some_iff, Prod.mk.injEq] at h
      obtain ⟨σ1, h1, rfl, rfl⟩ := h
      split at h1
      · rename_i hok
        simp only [Option.some.injEq] at h1
        subst h1
        have hall := all2_noF (μ' := noF) hok (hc hok)
        have hlen : arr.size = cs.length := by have := hall.length; simp at this; omega
        let p : Pl := ⟨w.heap.size, 0, arr.size, cs.length, 0⟩
        have hB : BRel (upd β nm p) p (.row true 0 cs) (w.alloc (.cells arr e)) :=
          ⟨rfl, rfl, arr, e, (0, 0), arr.toList, alloc_new w _, fun j x hj => by simpa [p] using hj, hall.mono fun _ _ _ => CRel.up (upd_ext p hβ) fun _ _ _ h => h, rfl, by show 0 + cs.length ≤ arr.size; omega, fun _ => rfl⟩
        have hS' := hS.make (N' := N') (w' := w.alloc (.cells arr e)) hN hnm hβ (p := p) (x1 := .row true 0 cs) (fun r hr _ => alloc_old w _ r hr)
          (fun b x q hb hq => by obtain ⟨q', g1, g2⟩ := hS.heap.blk b x hb; rw [hq, Option.some.injEq] at g1; subst g1; exact Nat.ne_of_lt g2.lt)
          (fun u ds hu he => by obtain ⟨r, g1, g2⟩ := hS.box u ds hu; rw [he, Option.some.injEq] at g1; subst g1; exact absurd g2.lt (Nat.lt_irrefl _)) hB
        exact ⟨_, _, _, upd β nm p, μ, hr, .inl rfl, ⟨p, upd_same β nm p, rfl⟩, hS', Step.make (same_alloc w _) hβ (Nat.le_refl _) (fun k hk => alloc_old w _ k hk), fun b hb => upd_other β p (hb.resolve_right (by rw [hmk t ht, hp]; simp)), fun _ _ => rfl, rfl⟩
      · cases h1
  · cases h

theorem all2_lits : ∀ (l : List Value), All2 (CRel β μ) (l.map .lit) l
  | [] => trivial
  | _ :: l => ⟨rfl, all2_lits l⟩

theorem op_alloc (hT : TtOk P X) (hN : N ≤ N') (hnm : nm < N') (hβ : β nm = none) (hS : SRel N β μ nt σ a w) {e : TypeId} (ho : o.op = .alloc e) (h : op P X fi nm o σ = some (v, σ')) : OpOk P fi N' nm β μ nt σ a w o v σ' := by
  simp only [op, ho] at h
  obtain ⟨ti, h1, h2⟩ := onTI_some h
  obtain ⟨i, hi, hs, hb, hz, hu⟩ := tt_info hT h1
  split at h2
  · rename_i cs hcs
    split at h2
    · simp only [zeroC, Option.map_eq_some_iff] at hcs
      obtain ⟨z, hz1, rfl⟩ := hcs
      refine newVar_ok (fun t ht => by simp [makes, ho, ht]) hN hnm hβ hS (arr := z.cells) (e := e) ?_ (fun _ => all2_lits _) h2
      unfold execOp
      simp only [ho, Instr.alloc, zeroValue, typeInfo, program, Sem.run_bind, Sem.run, hi, hz, hz1, Sem.run_pure, Result.andThen_ok, newVar, newRow, newObj]
      rfl
    · cases h2
  · cases h2

theorem op_box (hN : N ≤ N') (hnm : nm < N') (hβ : β nm = none) (hS : SRel N β μ nt σ a w) {e : TypeId} {x : Operand} (ho : o.op = .box e x) (h : op P X fi nm o σ = some (v, σ')) : OpOk P fi N' nm β μ nt σ a w o v σ' := by
  simp only [op, ho] at h
  obtain ⟨u, h1, h2⟩ := onV_some h
  split at h2
  · rename_i cs hcs
    refine newVar_ok (fun t ht => by simp [makes, ho, ht]) hN hnm hβ hS (arr := (a.eval x).cells) (e := e) ?_ (fun hok => vcells_ok (ev_ok hS h1) hcs hok) h2
    unfold execOp
    simp only [ho, Instr.box, Sem.run_bind, Sem.run_pure, Result.andThen_ok, newVar, newRow, newObj, Sem.run]
    rfl
  · cases h2

theorem rd_some {cs ds : List C} {k n : Nat} (h : rd cs k n = some ds) : k + n ≤ cs.length ∧ ds = (cs.drop k).take n := by
  unfold rd at h
  split at h
  · rename_i hle
    simp only [Option.some.injEq] at h
    exact ⟨hle, h.symm⟩
  · cases h

theorem wr_some {cs xs ds : List C} {k : Nat} (h : wr cs k xs = some ds) : k + xs.length ≤ cs.length ∧ ds = cs.take k ++ (xs ++ cs.drop (k + xs.length)) := by
  unfold wr at h
  split at h
  · rename_i hle
    simp only [Option.some.injEq] at h
    exact ⟨hle, h.symm⟩
  · cases h

/-- Cells that lie somewhere, with an address, and what is read there. -/
def Lies (β : Pls) (μ : Fms) (w : World) (c : C) (n : Nat) (cs : List C) : Prop :=
  ∃ rb k xs, (∀ x, CRel β μ c x → x = .pointer (some ⟨rb, k, none⟩)) ∧ xs.length = n ∧ w.rangeAt rb k xs ∧ All2 (CRel β noF) cs xs

theorem cell_row {r k : Nat} {arr : Array Value} {el : TypeId} {fr : Nat × Nat} (h : w.heap[r]? = some (.cells arr el fr)) : w.cell? ⟨r, k, none⟩ = arr[k]? := cell_of_row w r k arr el fr h

theorem lies (hS : SRel N β μ nt σ a w) {c : C} {n : Nat} {cs : List C} (h : loadC σ c n = some cs) : Lies β μ w c n cs := by
  unfold loadC at h
  split at h
  · rename_i t k
    simp only [Option.bind_eq_some_iff] at h
    obtain ⟨bs, hb, hr⟩ := h
    obtain ⟨r, hμ, arr, el, hh, hall⟩ := hS.box t bs hb
    obtain ⟨hle, rfl⟩ := rd_some hr
    have hlen := hall.length
    refine ⟨r, k, (arr.toList.drop k).take n, fun x hx => ?_, ?_, fun j y hj => ?_, (hall.drop k).take n⟩
    · obtain ⟨r', g1, rfl⟩ := hx
      rw [hμ, Option.some.injEq] at g1
      subst g1
      rfl
    · simp only [List.length_take, List.length_drop]
      omega
    · rw [cell_row hh]
      rw [List.getElem?_take] at hj
      split at hj
      · simpa [List.getElem?_drop] using hj
      · cases hj
  · rename_i b k
    split at h
    · rename_i rw sz bs hb
      obtain ⟨p, hβ, hsz, hn, arr, el, fr, xs, hh, hw, hall, hext, hfit, hfr⟩ := hS.heap.blk b _ hb
      obtain ⟨hle, rfl⟩ := rd_some h
      have hlen := hall.length
      refine ⟨p.rb, p.ro + k, (xs.drop k).take n, fun x hx => ?_, ?_, fun j y hj => ?_, (hall.drop k).take n⟩
      · obtain ⟨p', g1, rfl⟩ := hx
        rw [hβ, Option.some.injEq] at g1
        subst g1
        rfl
      · simp only [List.length_take, List.length_drop]
        omega
      · rw [cell_row hh]
        rw [List.getElem?_take] at hj
        split at hj
        · have := hw (k + j) y (by simpa [List.getElem?_drop] using hj)
          simpa [Nat.add_assoc] using this
        · cases hj
    · cases h
  · cases h

theorem run_load_one {t : TypeId} {d : TypeDesc} (hu : P.underlying t = some d) (hd : isAggD d = false) {r k : Nat} {x : Value} (hx : w.cell? ⟨r, k, none⟩ = some x) :
    (loadVar t ⟨r, k, none⟩).run P w = .ok x w := by
  have hagg : (isAgg t).run P w = .ok false w := by
    unfold isAgg
    rw [Sem.run_bind, run_underlying hu w]
    cases d <;> simp_all [isAggD]
  simp [loadVar, Sem.run_bind, hagg, Go.load, Sem.run, hx]

theorem op_load (hT : TtOk P X) (hN : N ≤ N') (hS : SRel N β μ nt σ a w) {t : TypeId} {x : Operand} (ho : o.op = .load t x) (h : op P X fi nm o σ = some (v, σ')) : OpOk P fi N' nm β μ nt σ a w o v σ' := by
  simp only [op, ho] at h
  obtain ⟨ti, h1, h2⟩ := onTI_some h
  obtain ⟨i, hi, hs, hb, hz, hu⟩ := tt_info hT h1
  obtain ⟨c, h3, h4⟩ := onC_some h2
  simp only [load, Option.map_eq_some_iff, Option.bind_eq_some_iff, Prod.mk.injEq] at h4
  obtain ⟨v', ⟨cs, h5, h6⟩, rfl, rfl⟩ := h4
  obtain ⟨r, k, xs, hptr, hlen, hrange, hall⟩ := lies hS h5
  have hx := hptr _ (ev_ok hS h3)
  have hall' : All2 (CRel β μ) cs xs := hall.mono fun c _ y hc => hc.up (fun _ _ h => h) fun t r ht hn => by cases hn
  cases hd : isAggD ti.desc with
  | true =>
    rw [hd] at h6
    simp only [mkV, Option.some.injEq] at h6
    subst h6
    refine OpOk.val hN hS (x := .agg xs.toArray) ?_ ⟨xs.toArray, rfl, by simpa using hall'⟩
    have hrow : ti.desc.isRow = true := by cases hq : ti.desc <;> simp_all [isAggD, TypeDesc.isRow]
    have := run_loadVar_mid (P := P) w r k t xs ti.desc hrange hu hrow (by rw [hi]; simp only [Option.map_some, Option.some.injEq]; rw [hs, hlen, sizeV, if_pos hd])
    unfold execOp
    simp only [ho, hx, Instr.loadAt, Instr.sureAddr, Sem.run_bind, Sem.run_pure, Result.andThen_ok, this]
  | false =>
    have h1' : sizeV ti = 1 := by simp [sizeV, hd]
    rw [h1'] at hlen
    rw [hd] at h6
    match xs, hlen, cs, hall', h6 with
    | [y], _, [c'], hall', h6 =>
      simp only [mkV, Option.some.injEq] at h6
      subst h6
      refine OpOk.val hN hS (x := y) ?_ hall'.1
      have := run_load_one (P := P) hu hd (hrange 0 y rfl)
      simp only [Nat.add_zero] at this
      unfold execOp
      simp only [ho, hx, Instr.loadAt, Instr.sureAddr, Sem.run_bind, Sem.run_pure, Result.andThen_ok, this]
end ops
end E
end Go.Proofs.Ytnfehccnofhmnaa

/-
  An abstract machine of this place's own: stores, addresses, parts, comparisons: in the model as here. No condition.
-/
namespace Go.Proofs.Ytnfehccnofhmnaa
open Go.RowKit
namespace E
section ops
variable {P : Program} {X : Ctx} {fi : Fi} {N N' nm : Nat} {β : Pls} {μ : Fms} {nt : Nat} {σ σ' : St} {a : Act} {w : World} {o : Oper} {v : V}

theorem winAt_over {arr : Array Value} {k o : Nat} {xs ys : List Value} (h : winAt arr k xs) (hfit : k + xs.length ≤ arr.size) (hle : o + ys.length ≤ xs.length) :
    winAt (arr.toList.take (k + o) ++ ys ++ arr.toList.drop (k + o + ys.length)).toArray k (xs.take o ++ (ys ++ xs.drop (o + ys.length))) := by
  intro j x hj
  have hsz : arr.toList.length = arr.size := by simp
  simp only [List.getElem?_toArray]
  rcases Nat.lt_or_ge j o with h1 | h1
  · rw [List.append_assoc, List.getElem?_append_left (by simp; omega), List.getElem?_take, if_pos (by omega)]
    rw [List.getElem?_append_left (by simp; omega), List.getElem?_take, if_pos h1] at hj
    simpa using h j x hj
  · rw [List.getElem?_append_right (by simp; omega)] at hj
    rw [List.append_assoc, List.getElem?_append_right (by simp; omega)]
    have e1 : (xs.take o).length = o := by simp; omega
    have e2 : (arr.toList.take (k + o)).length = k + o := by simp; omega
    rw [e1] at hj
    rw [e2]
    rcases Nat.lt_or_ge j (o + ys.length) with h2 | h2
    · rw [List.getElem?_append_left (by omega)] at hj ⊢
      rw [show k + j - (k + o) = j - o by omega]
      exact hj
    · rw [List.getElem?_append_right (by omega)] at hj ⊢
      rw [List.getElem?_drop] at hj ⊢
      have e3 : o + ys.length + (j - o - ys.length) = j := by omega
      have e4 : k + o + ys.length + (k + j - (k + o) - ys.length) = k + j := by omega
      rw [e3] at hj
      rw [e4]
      simpa using h j x hj

theorem all2_over {β' : Pls} {μ' : Fms} {cs ds : List C} {xs ys : List Value} {k : Nat} (h : All2 (CRel β' μ') cs xs) (h' : All2 (CRel β' μ') ds ys) :
    All2 (CRel β' μ') (cs.take k ++ (ds ++ cs.drop (k + ds.length))) (xs.take k ++ (ys ++ xs.drop (k + ys.length))) := by
  rw [← h'.length]
  exact (h.take k).append (h'.append (h.drop _))

theorem size_over {arr : Array Value} {k : Nat} {ys : List Value} (hle : k + ys.length ≤ arr.size) : (arr.toList.take k ++ ys ++ arr.toList.drop (k + ys.length)).toArray.size = arr.size := by
  simp
  omega

/-- Cells written over others: the model's run, and the state behind it. -/
theorem storeC_ok (hN : N ≤ N') (hS : SRel N β μ nt σ a w) {c : C} {cs : List C} {ys : List Value} {x : Value} (hx : CRel β μ c x) (hall : All2 (CRel β μ) cs ys) (h : storeC σ c cs = some σ') :
    ∃ r k w', x = .pointer (some ⟨r, k, none⟩) ∧ (storeCells ⟨r, k, none⟩ ys).run P w = .ok () w' ∧ SRel N' β μ nt σ' a w' ∧ Step β μ σ w β μ σ' w' ∧ σ'.h.next = σ.h.next := by
  unfold storeC at h
  split at h
  · rename_i hok
    have h1 : ∀ y ∈ ys, y.oneCell' = true := all2_oneCell hok hall
    have hall0 := all2_noF (μ' := noF) hok hall
    have hlen := hall.length
    split at h
    · rename_i t k
      simp only [Option.bind_eq_some_iff, Option.map_eq_some_iff] at h
      obtain ⟨bs, hb, ds, hw, rfl⟩ := h
      obtain ⟨hle, rfl⟩ := wr_some hw
      obtain ⟨r, hμ, arr, el, hh, hbx⟩ := hS.box t bs hb
      obtain ⟨r', g1, rfl⟩ := hx
      rw [hμ, Option.some.injEq] at g1
      subst g1
      have hbl := hbx.length
      have hsz : arr.toList.length = arr.size := by simp
      have hrun := run_storeCells_at P r k el ys 0 arr w hh (by omega) h1
      simp only [Nat.add_zero] at hrun
      refine ⟨r, k, _, rfl, hrun, ?_, Step.writeBox (same_setRow w _ _) hb hμ (fun q _ hq => setRow_other w r q _ hq), rfl⟩
      refine (hS.writeBox hb hμ (fun q _ hq => setRow_other w r q _ hq) ⟨_, el, setRow_heap w r arr _ el (0, 0) hh, ?_⟩).wider hN
      have := all2_over (k := k) hbx hall0
      simpa [List.append_assoc] using this
    · rename_i b k
      split at h
      · rename_i sz bs hb
        simp only [Option.map_eq_some_iff] at h
        obtain ⟨ds, hw, rfl⟩ := h
        obtain ⟨hle, rfl⟩ := wr_some hw
        obtain ⟨p, hβ, hsz, hn, arr, el, fr, xs, hh, hwin, hbx, hext, hfit, hfr⟩ := hS.heap.blk b _ hb
        obtain rfl := hfr rfl
        obtain ⟨p', g1, rfl⟩ := hx
        rw [hβ, Option.some.injEq] at g1
        subst g1
        have hbl := hbx.length
        have hrun := run_storeCells_at P p.rb (p.ro + k) el ys 0 arr w hh (by omega) h1
        simp only [Nat.add_zero] at hrun
        refine ⟨p.rb, p.ro + k, _, rfl, hrun, ?_, Step.write (same_setRow w _ _) hb rfl hβ (fun q _ hq => setRow_other w p.rb q _ hq), rfl⟩
        refine (hS.write (x1 := .row true sz _) hb rfl hβ (fun q _ hq => setRow_other w p.rb q _ hq) ?_).wider hN
        refine ⟨hsz, ?_, _, el, (0, 0), xs.take k ++ (ys ++ xs.drop (k + ys.length)), setRow_heap w p.rb arr _ el (0, 0) hh, winAt_over hwin (by omega) (by omega), all2_over hbx hall0, ?_, ?_, fun _ => rfl⟩
        · rw [hn]; simp; omega
        · rw [hext, size_over (by omega)]
        · rw [size_over (by omega)]; simp; omega
      · cases h
    · cases h
  · cases h

theorem op_store (hT : TtOk P X) (hN : N ≤ N') (hS : SRel N β μ nt σ a w) {t : TypeId} {x y : Operand} (ho : o.op = .store t x y) (h : op P X fi nm o σ = some (v, σ')) : OpOk P fi N' nm β μ nt σ a w o v σ' := by
  simp only [op, ho] at h
  obtain ⟨ti, h1, h2⟩ := onTI_some h
  obtain ⟨i, hi, hs, hb, hz, hu⟩ := tt_info hT h1
  obtain ⟨c, h3, h4⟩ := onC_some h2
  obtain ⟨u, h5, h6⟩ := onV_some h4
  split at h6
  · rename_i cs hcs
    split at h6
    · rename_i hsz
      simp only [Option.map_eq_some_iff, Prod.mk.injEq] at h6
      obtain ⟨σ1, h7, rfl, rfl⟩ := h6
      have hok : cs.all C.ok = true := by
        unfold storeC at h7
        split at h7
        · assumption
        · cases h7
      have hall := vcells_ok (ev_ok hS h5) hcs hok
      obtain ⟨r, k, w', hx, hrun, hS', hst, hnx⟩ := storeC_ok (P := P) hN hS (ev_ok hS h3) hall h7
      refine ⟨.skip, undef, w', β, μ, ?_, .inr ⟨rfl, rfl⟩, rfl, hS', hst, fun _ _ => rfl, fun _ _ => rfl, hnx⟩
      have hl : (a.eval y).cells.size = i.size := by
        have := hall.length
        simp at this
        omega
      unfold execOp
      simp [ho, hx, Instr.storeAt, Instr.sureAddr, storeVar, Go.sizeOf, typeInfo, hi, hl, hrun]
    · cases h6
  · cases h6

theorem op_nilCheck (hN : N ≤ N') (hS : SRel N β μ nt σ a w) {x : Operand} (ho : o.op = .nilCheck x) (h : op P X fi nm o σ = some (v, σ')) : OpOk P fi N' nm β μ nt σ a w o v σ' := by
  simp only [op, ho] at h
  obtain ⟨c, h3, h4⟩ := onC_some h
  have hx := ev_ok hS h3
  split at h4
  · rename_i b k
    simp only [Option.some.injEq, Prod.mk.injEq] at h4
    obtain ⟨rfl, rfl⟩ := h4
    refine OpOk.val hN hS (x := a.eval x) ?_ hx
    obtain ⟨p, _, hx'⟩ := hx
    unfold execOp
    simp only [ho, hx']
    rfl
  · rename_i b k
    simp only [Option.some.injEq, Prod.mk.injEq] at h4
    obtain ⟨rfl, rfl⟩ := h4
    refine OpOk.val hN hS (x := a.eval x) ?_ hx
    obtain ⟨p, _, hx'⟩ := hx
    unfold execOp
    simp only [ho, hx']
    rfl
  · cases h4

theorem shift_ok {c c' : C} {k : Nat} {x : Value} (h : shiftC c k = some c') (hx : CRel β μ c x) : ∃ r q, x = .pointer (some ⟨r, q, none⟩) ∧ CRel β μ c' (.pointer (some ⟨r, q + k, none⟩)) := by
  unfold shiftC at h
  split at h
  · simp only [Option.some.injEq] at h
    subst h
    obtain ⟨r, h1, rfl⟩ := hx
    exact ⟨_, _, rfl, r, h1, rfl⟩
  · simp only [Option.some.injEq] at h
    subst h
    obtain ⟨p, h1, rfl⟩ := hx
    exact ⟨_, _, rfl, p, h1, by rw [Nat.add_assoc]⟩
  · cases h

theorem field_info (hT : TtOk P X) {t : TypeId} {f : Nat} {off : Nat} {fi' : TI} (h : fieldTI X t f = some (off, fi')) :
    ∃ fs fd i, P.underlying t = some (.struct fs) ∧ fs[f]? = some fd ∧ fd.offset = off ∧ X.tt fd.type = some fi' ∧ P.info? fd.type = some i ∧ i.size = fi'.size ∧ P.underlying fd.type = some fi'.desc := by
  unfold fieldTI at h
  split at h
  · rename_i ti hti
    split at h
    · rename_i fs hd
      split at h
      · rename_i fd hfd
        split at h
        · rename_i ft hft
          simp only [Option.some.injEq, Prod.mk.injEq] at h
          obtain ⟨rfl, rfl⟩ := h
          obtain ⟨i, hi, hs, hb, hz, hu⟩ := tt_info hT hti
          obtain ⟨i', hi', hs', hb', hz', hu'⟩ := tt_info hT hft
          exact ⟨fs, fd, i', by rw [hu, hd], by simpa using hfd, rfl, hft, hi', hs', hu'⟩
        · cases h
      · cases h
    · cases h
  · cases h

theorem op_fieldAddr (hT : TtOk P X) (hN : N ≤ N') (hS : SRel N β μ nt σ a w) {t : TypeId} {x : Operand} {f : Nat} (ho : o.op = .fieldAddr t x f) (h : op P X fi nm o σ = some (v, σ')) : OpOk P fi N' nm β μ nt σ a w o v σ' := by
  simp only [op, ho] at h
  split at h
  · rename_i off ft hft
    obtain ⟨fs, fd, i, hu, hfd, hoff, _, hi, hs, _⟩ := field_info hT hft
    split at h
    · rename_i hpos
      obtain ⟨c, h3, h4⟩ := onC_some h
      simp only [Option.map_eq_some_iff, Prod.mk.injEq] at h4
      obtain ⟨c', h5, rfl, rfl⟩ := h4
      obtain ⟨r, q, hx, hc'⟩ := shift_ok h5 (ev_ok hS h3)
      refine OpOk.val hN hS (x := .pointer (some ⟨r, q + off, none⟩)) ?_ hc'
      have hne : ¬ i.size = 0 := by omega
      unfold execOp
      simp [ho, hx, Instr.fieldAt, run_underlying hu, hfd, Instr.sureAddr, fieldPlace, Go.sizeOf, typeInfo, hi, hne, Addr.add_mid, hoff]
    · cases h
  · cases h

theorem part_ok {ti : TI} {i : TypeInfo} {t : TypeId} (hi : P.info? t = some i) (hs : i.size = ti.size) (hu : P.underlying t = some ti.desc) {arr : Array Value} {cs : List C} {off : Nat}
    (hall : All2 (CRel β μ) cs arr.toList) (h : partV ti cs off = some v) : ∃ x, (part t arr off).run P w = .ok x w ∧ VRel β μ v x := by
  simp only [partV, Option.bind_eq_some_iff] at h
  obtain ⟨ds, h1, h2⟩ := h
  obtain ⟨hle, rfl⟩ := rd_some h1
  have hagg : (isAgg t).run P w = .ok (isAggD ti.desc) w := by
    unfold isAgg
    rw [Sem.run_bind, run_underlying hu w]
    cases ti.desc <;> rfl
  have hall' := (hall.drop off).take (sizeV ti)
  cases hd : isAggD ti.desc with
  | true =>
    rw [hd] at h2 hagg
    simp only [mkV, Option.some.injEq] at h2
    subst h2
    have hsz : sizeV ti = ti.size := by simp [sizeV, hd]
    refine ⟨.agg (arr.extract off (off + i.size)), ?_, _, rfl, ?_⟩
    · simp [part, hagg, Go.sizeOf, typeInfo, hi]
    · rw [hs, ← hsz]
      simpa [List.extract_eq_take_drop, Array.toList_extract] using hall'
  | false =>
    rw [hd] at h2 hagg
    have hsz : sizeV ti = 1 := by simp [sizeV, hd]
    rw [hsz] at h2 hall' hle
    have hlt : off < cs.length := by omega
    have hc : (cs.drop off).take 1 = [cs[off]] := by
      rw [List.take_one, List.head?_drop]
      simp [List.getElem?_eq_getElem hlt]
    rw [hc] at h2
    simp only [mkV, Option.some.injEq] at h2
    subst h2
    obtain ⟨y, hy, hr⟩ := hall.get (i := off) (List.getElem?_eq_getElem hlt)
    refine ⟨y, ?_, hr⟩
    have hy' : arr[off]? = some y := by simpa using hy
    simp [part, hagg, hy']

theorem op_field (hT : TtOk P X) (hN : N ≤ N') (hS : SRel N β μ nt σ a w) {t : TypeId} {x : Operand} {f : Nat} (ho : o.op = .field t x f) (h : op P X fi nm o σ = some (v, σ')) : OpOk P fi N' nm β μ nt σ a w o v σ' := by
  simp only [op, ho] at h
  split at h
  · rename_i off ft hft
    obtain ⟨fs, fd, i, hu, hfd, hoff, _, hi, hs, hu'⟩ := field_info hT hft
    obtain ⟨u, h3, h4⟩ := onV_some h
    have hx := ev_ok hS h3
    split at h4
    · rename_i cs
      simp only [Option.map_eq_some_iff, Prod.mk.injEq] at h4
      obtain ⟨v', h5, rfl, rfl⟩ := h4
      obtain ⟨arr, hx', hall⟩ := hx
      obtain ⟨y, hrun, hr⟩ := part_ok (P := P) (w := w) hi hs hu' hall h5
      refine OpOk.val hN hS (x := y) ?_ hr
      unfold execOp
      simp [ho, hx', Instr.field, run_underlying hu, hfd, asAgg, hoff, hrun]
    · cases h4
  · cases h

theorem idx_ok {u : V} {x : Value} {j : Int} (h : idxOf u = some j) (hx : VRel β μ u x) : ∃ k, x = .int k j := by
  unfold idxOf at h
  split at h
  · rename_i k i
    simp only [Option.some.injEq] at h
    subst h
    exact ⟨k, hx⟩
  · cases h

theorem elem_info (hT : TtOk P X) {t : TypeId} {ti et : TI} {e : TypeId} (h : X.tt t = some ti) (hd : ti.desc = .slice e ∨ ∃ n, ti.desc = .array n e) (he : X.tt e = some et) :
    ∃ i, P.info? e = some i ∧ i.size = et.size ∧ i.bytes = et.bytes ∧ i.zero = et.zero ∧ P.underlying e = some et.desc ∧ P.underlying t = some ti.desc := by
  obtain ⟨i, hi, hs, hb, hz, hu⟩ := tt_info hT he
  obtain ⟨_, _, _, _, _, hu'⟩ := tt_info hT h
  exact ⟨i, hi, hs, hb, hz, hu, hu'⟩

theorem op_indexAddr (hT : TtOk P X) (hN : N ≤ N') (hS : SRel N β μ nt σ a w) {t : TypeId} {x y : Operand} (ho : o.op = .indexAddr t x y) (h : op P X fi nm o σ = some (v, σ')) : OpOk P fi N' nm β μ nt σ a w o v σ' := by
  simp only [op, ho] at h
  obtain ⟨c, h3, h4⟩ := onC_some h
  obtain ⟨u, h5, h6⟩ := onV_some h4
  split at h6
  · rename_i j hj
    obtain ⟨k, hy⟩ := idx_ok hj (ev_ok hS h5)
    have hx := ev_ok hS h3
    simp only [Option.map_eq_some_iff, Prod.mk.injEq] at h6
    obtain ⟨c', h7, rfl, rfl⟩ := h6
    unfold idxAddr at h7
    split at h7
    · rename_i ti hti
      split at h7
      · rename_i len e hd
        split at h7
        · rename_i et het
          obtain ⟨i, hi, hs, hb, hz, hue, hu⟩ := elem_info hT hti (.inr ⟨len, hd⟩) het
          rw [hd] at hu
          split at h7
          · rename_i hin
            simp only [Bool.and_eq_true, decide_eq_true_eq] at hin
            obtain ⟨r, q, hx', hc'⟩ := shift_ok h7 hx
            refine OpOk.val hN hS (x := .pointer (some ⟨r, q + j.toNat * et.size, none⟩)) ?_ hc'
            unfold execOp
            simp [ho, hx', hy, Instr.indexAt, asIntOf, run_underlying hu, Instr.sureAddr, hin, Go.sizeOf, typeInfo, hi, hs, Addr.add_mid]
          · cases h7
        · cases h7
      · rename_i e hd
        split at h7
        · rename_i et b q len cap het
          obtain ⟨i, hi, hs, hb, hz, hue, hu⟩ := elem_info hT hti (.inl hd) het
          rw [hd] at hu
          split at h7
          · rename_i hin
            simp only [Bool.and_eq_true, decide_eq_true_eq] at hin
            simp only [Option.some.injEq] at h7
            subst h7
            obtain ⟨p, k', rc, hβ, hx', hlc, hcr, hk, _⟩ := hx
            have hk' : k' = p.ro + q := hk (by omega)
            subst hk'
            refine OpOk.val hN hS (x := .pointer (some ⟨p.rb, p.ro + q + j.toNat * et.size, none⟩)) ?_ ⟨p, hβ, by rw [Nat.add_assoc]⟩
            unfold execOp
            simp [ho, hx', hy, Instr.indexAt, asIntOf, run_underlying hu, hin, Go.sizeOf, typeInfo, hi, hs, Addr.add_mid]
          · cases h7
        · cases h7
      · cases h7
    · cases h7
  · cases h6

theorem op_pure (hN : N ≤ N') (hS : SRel N β μ nt σ a w) (hs : ∀ cs b, o.op ≠ .select cs b) (h : op.pureV P o σ = some (v, σ')) : OpOk P fi N' nm β μ nt σ a w o v σ' := by
  simp only [op.pureV, Option.map_eq_some_iff, Prod.mk.injEq] at h
  obtain ⟨u, h1, rfl, rfl⟩ := h
  obtain ⟨x, hx, hr⟩ := pureOp_ok hS h1 hs
  exact OpOk.val hN hS hx hr

theorem op_index (hT : TtOk P X) (hN : N ≤ N') (hS : SRel N β μ nt σ a w) {t : TypeId} {x y : Operand} (ho : o.op = .index t x y) (h : op P X fi nm o σ = some (v, σ')) : OpOk P fi N' nm β μ nt σ a w o v σ' := by
  simp only [op, ho] at h
  split at h
  · rename_i ti et hti het
    obtain ⟨u, h3, h4⟩ := onV_some h
    obtain ⟨u', h5, h6⟩ := onV_some h4
    split at h6
    · rename_i len e cs j hd hj
      obtain ⟨k, hy⟩ := idx_ok hj (ev_ok hS h5)
      split at h6
      · rename_i hin
        simp only [Bool.and_eq_true, decide_eq_true_eq] at hin
        simp only [Option.map_eq_some_iff, Prod.mk.injEq] at h6
        obtain ⟨v', h7, rfl, rfl⟩ := h6
        have he : X.tt e = some et := by
          unfold elemTI at het
          rw [hti] at het
          simp only [hd] at het
          exact het
        obtain ⟨i, hi, hs, hb, hz, hue, hu⟩ := elem_info hT hti (.inr ⟨len, hd⟩) he
        rw [hd] at hu
        obtain ⟨arr, hx', hall⟩ := ev_ok hS h3
        obtain ⟨z, hrun, hr⟩ := part_ok (P := P) (w := w) hi hs hue hall h7
        refine OpOk.val hN hS (x := z) ?_ hr
        unfold execOp
        simp [ho, hx', hy, Instr.index, asIntOf, run_underlying hu, hin, Go.sizeOf, typeInfo, hi, hs, hrun]
      · cases h6
    · cases h6
  · exact op_pure hN hS (fun _ _ => by rw [ho]; exact fun h => by cases h) h

theorem caps_ok : ∀ {vs : List V} {l : List (Nat × Nat)} {xs : List Value}, capsOf vs = some l → All2 (VRel β μ) vs xs → All2 (PtrRel β) l xs
  | [], l, [], h, _ => by simp only [capsOf, Option.some.injEq] at h; subst h; trivial
  | v :: vs, l, x :: xs, h, hr => by
    match v, h with
    | .one (.ptr b k), h =>
      simp only [capsOf, Option.map_eq_some_iff] at h
      obtain ⟨l', h1, rfl⟩ := h
      exact ⟨hr.1, caps_ok h1 hr.2⟩
  | [], _, _ :: _, _, h => h.elim
  | _ :: _, _, [], _, h => h.elim

theorem op_makeFunc (hN : N ≤ N') (hS : SRel N β μ nt σ a w) {f : FuncId} {fs caps : Array Operand} (ho : o.op = .makeFunc (.func f) fs caps) (h : op P X fi nm o σ = some (v, σ')) : OpOk P fi N' nm β μ nt σ a w o v σ' := by
  simp only [op, ho] at h
  split at h
  · rename_i hfs
    split at h
    · rename_i vs hvs
      simp only [Option.map_eq_some_iff, Prod.mk.injEq] at h
      obtain ⟨l, h1, rfl, rfl⟩ := h
      have hall := caps_ok h1 (evs_ok hS hvs)
      have hf0 : fs = #[] := Array.eq_empty_of_size_eq_zero hfs
      subst hf0
      refine OpOk.val hN hS (x := .func (.func f) #[] (caps.map a.eval)) ?_ ⟨_, rfl, by simpa using hall⟩
      unfold execOp
      simp [ho, Instr.makeFunc]
    · cases h
  · cases h
end ops
end E
end Go.Proofs.Ytnfehccnofhmnaa

/-
  An abstract machine of this place's own: comparisons, sums, slices: in the model as here. No condition.
-/
namespace Go.Proofs.Ytnfehccnofhmnaa
open Go.RowKit
namespace E
section ops
variable {P : Program} {X : Ctx} {fi : Fi} {N N' nm : Nat} {β : Pls} {μ : Fms} {nt : Nat} {σ σ' : St} {a : Act} {w : World} {o : Oper} {v : V}

theorem strEq_eq (s t : ByteArray) : (s.toList == t.toList) = strEq s t := by
  rw [ByteArray.toList_eq, ByteArray.toList_eq]; rfl

/-- What the machine is told of the types that compare cell by cell is so. -/
def FlatOk (P : Program) (X : Ctx) : Prop := ∀ t ks, X.flat t = some ks → P.eqGuardType P.depth t = false ∧
  ∀ (xs ys : Array Value) r, eqK ks (xs.toList.map .lit) (ys.toList.map .lit) = some r → ∀ w, (Op.equal t (.agg xs) (.agg ys)).run P w = .ok r w ∧
    ∀ b, (Instr.checkKey b 10000 t (.agg xs)).run P w = .ok () w

theorem eqK1_lit {k : CK} {x y : C} {r : Bool} (h : eqK1 k x y = some r) : ∃ u v, x = .lit u ∧ y = .lit v := by
  unfold eqK1 at h
  split at h <;> first | exact ⟨_, _, rfl, rfl⟩ | cases h

theorem eqK_lits : ∀ {ks : List CK} {xs ys : List C} {l l' : List Value} {r : Bool}, eqK ks xs ys = some r → All2 (CRel β μ) xs l → All2 (CRel β μ) ys l' → eqK ks (l.map .lit) (l'.map .lit) = some r
  | [], [], [], [], [], r, h, _, _ => h
  | k :: ks, x :: xs, y :: ys, u :: l, u' :: l', r, h, hx, hy => by
    simp only [eqK] at h
    split at h
    · rename_i b1 b2 h1 h2
      obtain ⟨p, q, rfl, rfl⟩ := eqK1_lit h1
      have e1 : u = p := hx.1
      have e2 : u' = q := hy.1
      subst e1; subst e2
      simp only [List.map_cons, eqK, h1, eqK_lits h2 hx.2 hy.2]
      exact h
    · cases h
  | [], [], [], _ :: _, _, _, _, h, _ => h.elim
  | [], [], [], [], _ :: _, _, _, _, h => h.elim
  | _ :: _, _ :: _, _ :: _, [], _, _, _, h, _ => h.elim
  | _ :: _, _ :: _, _ :: _, _ :: _, [], _, _, _, h => h.elim
  | [], _ :: _, _, _, _, _, h, _, _ => by simp [eqK] at h
  | [], [], _ :: _, _, _, _, h, _, _ => by simp [eqK] at h
  | _ :: _, [], _, _, _, _, h, _, _ => by simp [eqK] at h
  | _ :: _, _ :: _, [], _, _, _, h, _, _ => by simp [eqK] at h

theorem guard_plain {b : BinOp} {t : TypeId} {x y : Operand} {u u' : Value} (h1 : u ≠ .nilIface) (h2 : ∀ l, u ≠ .agg l) : (eqGuard b t x y u u').run P w = .ok () w := by
  unfold eqGuard
  cases u with
  | nilIface => exact absurd rfl h1
  | agg l => exact absurd rfl (h2 l)
  | _ => cases b <;> rfl

theorem run_binI {b : BinOp} {t : TypeId} {k : IntKind} {i j : Int} {r : Value} (h : binI b k i j = some r) : (Go.binOp b t (.int k i) (.int k j)).run P w = .ok r w := by
  cases b <;> simp only [binI, Option.some.injEq, reduceCtorEq] at h <;> subst h <;> simp [Go.binOp, Op.intArith, Op.intCmp]

theorem run_binS {b : BinOp} {t : TypeId} {s s' : ByteArray} {r : Value} (h : binS b s s' = some r) : (Go.binOp b t (.string s) (.string s')).run P w = .ok r w := by
  cases b <;> simp only [binS, Option.some.injEq, reduceCtorEq] at h <;> subst h <;> simp [Go.binOp, Op.stringOp, strEq_eq]

theorem eqIn_ptr {t e : TypeId} (hu : P.underlying t = some (.pointer e)) {p q : Option Addr} (h : p = none ∨ q = none) (d : Nat) : (Op.equalIn (d + 1) t (.pointer p) (.pointer q)).run P w = .ok (p.isNone && q.isNone) w := by
  simp only [Op.equalIn, Sem.run_bind, run_underlying hu w, Result.andThen_ok]
  cases p <;> cases q <;> simp_all

theorem eqIn_slice {t e : TypeId} (hu : P.underlying t = some (.slice e)) {p q : Option Addr} {n m n' m' : Nat} (h : p = none ∨ q = none) (d : Nat) : (Op.equalIn (d + 1) t (.slice p n m) (.slice q n' m')).run P w = .ok (p.isNone && q.isNone) w := by
  simp only [Op.equalIn, Sem.run_bind, run_underlying hu w, Result.andThen_ok]
  cases p <;> cases q <;> simp_all

theorem eqIn_map {t k e : TypeId} (hu : P.underlying t = some (.map k e)) {p q : Option Nat} (h : p = none ∨ q = none) (d : Nat) : (Op.equalIn (d + 1) t (.map p) (.map q)).run P w = .ok (p.isNone && q.isNone) w := by
  simp only [Op.equalIn, Sem.run_bind, run_underlying hu w, Result.andThen_ok]
  cases p <;> cases q <;> simp_all

theorem eqIn_fn {t : TypeId} {ps rs : Array TypeId} {va : Bool} (hu : P.underlying t = some (.func ps rs va)) {f : Fn} {l l' : Array Value} (d : Nat) :
    (Op.equalIn (d + 1) t .nilFunc .nilFunc).run P w = .ok true w ∧ (Op.equalIn (d + 1) t .nilFunc (.func f l l')).run P w = .ok false w ∧ (Op.equalIn (d + 1) t (.func f l l') .nilFunc).run P w = .ok false w := by
  refine ⟨?_, ?_, ?_⟩ <;>
  · simp only [Op.equalIn, Sem.run_bind, run_underlying hu w, Result.andThen_ok]
    rfl

theorem eqIn_bool {t : TypeId} (hu : P.underlying t = some .bool) (x y : Bool) (d : Nat) : (Op.equalIn (d + 1) t (.bool x) (.bool y)).run P w = .ok (x == y) w := by
  simp only [Op.equalIn, Sem.run_bind, run_underlying hu w, Result.andThen_ok]
  rfl

theorem eq_ptr {t e : TypeId} (hu : P.underlying t = some (.pointer e)) {p q : Option Addr} (h : p = none ∨ q = none) : (Op.equal t (.pointer p) (.pointer q)).run P w = .ok (p.isNone && q.isNone) w := eqIn_ptr hu h 9999
theorem eq_slice {t e : TypeId} (hu : P.underlying t = some (.slice e)) {p q : Option Addr} {n m n' m' : Nat} (h : p = none ∨ q = none) : (Op.equal t (.slice p n m) (.slice q n' m')).run P w = .ok (p.isNone && q.isNone) w := eqIn_slice hu h 9999
theorem eq_map {t k e : TypeId} (hu : P.underlying t = some (.map k e)) {p q : Option Nat} (h : p = none ∨ q = none) : (Op.equal t (.map p) (.map q)).run P w = .ok (p.isNone && q.isNone) w := eqIn_map hu h 9999
theorem eq_fn {t : TypeId} {ps rs : Array TypeId} {va : Bool} (hu : P.underlying t = some (.func ps rs va)) {f : Fn} {l l' : Array Value} :
    (Op.equal t .nilFunc .nilFunc).run P w = .ok true w ∧ (Op.equal t .nilFunc (.func f l l')).run P w = .ok false w ∧ (Op.equal t (.func f l l') .nilFunc).run P w = .ok false w := eqIn_fn hu 9999
theorem eq_bool {t : TypeId} (hu : P.underlying t = some .bool) (x y : Bool) : (Op.equal t (.bool x) (.bool y)).run P w = .ok (x == y) w := eqIn_bool hu x y 9999

/-- The four kinds of value that may be nil. -/
inductive NilV : Nat → Bool → Value → Prop
  | ptr (p : Option Addr) : NilV 1 p.isNone (.pointer p)
  | slice (p : Option Addr) (n m : Nat) : NilV 2 p.isNone (.slice p n m)
  | map (p : Option Nat) : NilV 3 p.isNone (.map p)
  | nilF : NilV 4 true .nilFunc
  | fn (f : Fn) (l l' : Array Value) : NilV 4 false (.func f l l')

theorem nilV_of {c : C} {u : Value} {q : Bool} (hc : CRel β μ c u) (hq : nilC c = some q) : NilV (kindC c) q u := by
  cases c with
  | lit v =>
    have hv : u = v := hc
    subst hv
    unfold nilC at hq
    split at hq
    · rename_i hh; cases hh; cases hq; exact .ptr none
    · rename_i hh; cases hh; cases hq; exact .slice none _ _
    · rename_i hh; cases hh; cases hq; exact .map none
    · rename_i hh; cases hh; cases hq; exact .nilF
    all_goals first | (rename_i hh; cases hh; done) | (cases hq; done) | skip
  | ptr b k => obtain ⟨p, _, rfl⟩ := hc; cases hq; exact .ptr (some _)
  | lp b k => obtain ⟨p, _, rfl⟩ := hc; cases hq; exact .ptr (some _)
  | sl b k n m => obtain ⟨p, k', rc, _, rfl, _⟩ := hc; cases hq; exact .slice (some _) _ _
  | mp b => obtain ⟨p, _, rfl⟩ := hc; cases hq; exact .map (some _)
  | fn f l => obtain ⟨l', rfl, _⟩ := hc; cases hq; exact .fn _ _ _

theorem run_nilV {d : TypeDesc} {t : TypeId} (hu : P.underlying t = some d) {q q' : Bool} {u u' : Value} (hx : NilV (kindD d) q u) (hy : NilV (kindD d) q' u') (h : q = true ∨ q' = true) :
    (Op.equal t u u').run P w = .ok (q && q') w := by
  cases d <;> simp only [kindD] at hx hy
  case pointer e =>
    cases hx; cases hy
    exact eq_ptr hu (by simpa using h)
  case slice e =>
    cases hx; cases hy
    exact eq_slice hu (by simpa using h)
  case map k e =>
    cases hx; cases hy
    exact eq_map hu (by simpa using h)
  case func ps rs va =>
    cases hx with
    | nilF => cases hy with
      | nilF => exact (eq_fn hu (f := .func 0) (l := #[]) (l' := #[])).1
      | fn f l l' => exact (eq_fn hu).2.1
    | fn f l l' => cases hy with
      | nilF => exact (eq_fn hu).2.2
      | fn f l l' => simp at h
  all_goals cases hx

theorem NilV.plain {k : Nat} {q : Bool} {u : Value} (h : NilV k q u) : u ≠ .nilIface ∧ (∀ l, u ≠ .agg l) ∧ (∀ k n, u ≠ .int k n) ∧ (∀ s, u ≠ .string s) ∧ (∀ k n, u ≠ .float k n) ∧ (∀ k n m, u ≠ .complex k n m) := by
  cases h <;> simp

theorem run_nilEq {d : TypeDesc} {t : TypeId} (hu : P.underlying t = some d) {x y : C} {r : Bool} (h : nilEq d x y = some r) {u u' : Value} (hx : CRel β μ x u) (hy : CRel β μ y u') :
    (Op.equal t u u').run P w = .ok r w ∧ u ≠ .nilIface ∧ (∀ l, u ≠ .agg l) ∧ (∀ k n, u ≠ .int k n) ∧ (∀ s, u ≠ .string s) ∧ (∀ k n, u ≠ .float k n) ∧ (∀ k n m, u ≠ .complex k n m) := by
  unfold nilEq at h
  split at h
  · rename_i hk
    simp only [Bool.and_eq_true, decide_eq_true_eq] at hk
    obtain ⟨hk1, hk2⟩ := hk
    split at h
    · rename_i q h1 h2
      simp only [Option.some.injEq] at h
      subst h
      have g1 := nilV_of hx h1
      have g2 := nilV_of hy h2
      rw [hk1] at g1
      rw [hk2] at g2
      have := run_nilV (P := P) (w := w) hu g1 g2 (.inl rfl)
      rw [Bool.true_and] at this
      exact ⟨this, g1.plain⟩
    · rename_i q _ h1 h2
      simp only [Option.some.injEq] at h
      subst h
      have g1 := nilV_of hx h1
      have g2 := nilV_of hy h2
      rw [hk1] at g1
      rw [hk2] at g2
      have := run_nilV (P := P) (w := w) hu g1 g2 (.inr rfl)
      rw [Bool.and_true] at this
      exact ⟨this, g1.plain⟩
    · cases h
  · cases h

theorem eqK1_b {x y : C} {r : Bool} (h : eqK1 .b x y = some r) : ∃ p q, x = .lit (.bool p) ∧ y = .lit (.bool q) ∧ r = (p == q) := by
  unfold eqK1 at h
  split at h
  · rename_i hk; cases hk
  · simp only [Option.some.injEq] at h; exact ⟨_, _, rfl, rfl, h.symm⟩
  · rename_i hk; cases hk
  · cases h

theorem run_eqlOf {t : TypeId} {u u' : Value} {r : Bool} (h : (Op.equal t u u').run P w = .ok r w) (h3 : ∀ k n, u ≠ .int k n) (h4 : ∀ s, u ≠ .string s) (h5 : ∀ k n, u ≠ .float k n) (h6 : ∀ k n m, u ≠ .complex k n m) :
    (Go.binOp .eql t u u').run P w = .ok (.bool r) w ∧ (Go.binOp .neq t u u').run P w = .ok (.bool (!r)) w := by
  cases u <;> simp_all [Go.binOp]

theorem op_binOp (hT : TtOk P X) (hF : FlatOk P X) (hN : N ≤ N') (hS : SRel N β μ nt σ a w) {b : BinOp} {t t' : TypeId} {x y : Operand} (ho : o.op = .binOp b t x y t') (h : op P X fi nm o σ = some (v, σ')) : OpOk P fi N' nm β μ nt σ a w o v σ' := by
  simp only [op, ho] at h
  obtain ⟨u, h3, h4⟩ := onV_some h
  obtain ⟨u', h5, h6⟩ := onV_some h4
  have hx := ev_ok hS h3
  have hy := ev_ok hS h5
  split at h6
  · rename_i r hr
    simp only [Option.some.injEq, Prod.mk.injEq] at h6
    obtain ⟨rfl, rfl⟩ := h6
    suffices hh : (eqGuard b t x y (a.eval x) (a.eval y)).run P w = .ok () w ∧ (Go.binOp b t (a.eval x) (a.eval y)).run P w = .ok r w by
      refine OpOk.val hN hS (x := r) ?_ rfl
      unfold execOp
      simp [ho, hh.1, hh.2]
    unfold binV at hr
    split at hr
    · rename_i j i k i'
      split at hr
      · rename_i hjk
        subst hjk
        have e1 : a.eval x = .int j i := hx
        have e2 : a.eval y = .int j i' := hy
        rw [e1, e2]
        exact ⟨guard_plain (by simp) (by simp), run_binI hr⟩
      · cases hr
    · rename_i s s'
      have e1 : a.eval x = .string s := hx
      have e2 : a.eval y = .string s' := hy
      rw [e1, e2]
      exact ⟨guard_plain (by simp) (by simp), run_binS hr⟩
    · rename_i c c' _ _
      have both : ∀ q, cellEq X t c c' = some q → (Op.equal t (a.eval x) (a.eval y)).run P w = .ok q w ∧ a.eval x ≠ .nilIface ∧ (∀ l, a.eval x ≠ .agg l) ∧ (∀ k n, a.eval x ≠ .int k n) ∧ (∀ s, a.eval x ≠ .string s) ∧ (∀ k n, a.eval x ≠ .float k n) ∧ (∀ k n m, a.eval x ≠ .complex k n m) := by
        intro q hq
        unfold cellEq at hq
        split at hq
        · rename_i ti hti
          obtain ⟨i, hi, hs, hb, hz, hu⟩ := tt_info hT hti
          split at hq
          · rename_i hd
            rw [hd] at hu
            obtain ⟨p, q', rfl, rfl, rfl⟩ := eqK1_b hq
            have e1 : a.eval x = .bool p := hx
            have e2 : a.eval y = .bool q' := hy
            rw [e1, e2]
            refine ⟨?_, by simp, by simp, by simp, by simp, by simp, by simp⟩
            exact eq_bool hu p q'
          · exact run_nilEq (P := P) (w := w) hu hq hx hy
        · cases hq
      split at hr
      · simp only [Option.map_eq_some_iff] at hr
        obtain ⟨q, hq, rfl⟩ := hr
        obtain ⟨g1, g2, g3, g4, g5, g6, g7⟩ := both q hq
        exact ⟨guard_plain g2 g3, (run_eqlOf g1 g4 g5 g6 g7).1⟩
      · simp only [Option.map_eq_some_iff] at hr
        obtain ⟨q, hq, rfl⟩ := hr
        obtain ⟨g1, g2, g3, g4, g5, g6, g7⟩ := both q hq
        exact ⟨guard_plain g2 g3, (run_eqlOf g1 g4 g5 g6 g7).2⟩
      · cases hr
    · rename_i xs ys
      obtain ⟨l, e1, hl⟩ := hx
      obtain ⟨l', e2, hl'⟩ := hy
      split at hr
      · rename_i ks hks
        obtain ⟨hg, heq⟩ := hF t ks hks
        have guard : (eqGuard b t x y (a.eval x) (a.eval y)).run P w = .ok () w := by
          rw [e1, e2]
          unfold eqGuard
          cases b <;> simp [Sem.run_bind, program, Sem.run, hg]
        refine ⟨guard, ?_⟩
        rw [e1, e2]
        split at hr
        · simp only [Option.map_eq_some_iff] at hr
          obtain ⟨q, hq, rfl⟩ := hr
          exact (run_eqlOf ((heq l l' q (eqK_lits hq hl hl') w).1) (by simp) (by simp) (by simp) (by simp)).1
        · simp only [Option.map_eq_some_iff] at hr
          obtain ⟨q, hq, rfl⟩ := hr
          exact (run_eqlOf ((heq l l' q (eqK_lits hq hl hl') w).1) (by simp) (by simp) (by simp) (by simp)).2
        · cases hr
      · cases hr
    · cases hr
  · exact op_pure hN hS (fun _ _ => by rw [ho]; exact fun h => by cases h) h6
end ops
end E
end Go.Proofs.Ytnfehccnofhmnaa
