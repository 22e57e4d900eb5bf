/-
  An abstract machine of this place's own: regions that draw their order, said; a run that computes. No condition.
-/
import Derived.Test.YtnfehccnofhmnaaE14
set_option linter.all false
namespace Go.Proofs.Ytnfehccnofhmnaa
open Go.RowKit
namespace E

/-! ### Kinds of operation, for an order that is drawn -/
inductive OK where
  | pure | read | alloc | chain
  deriving DecidableEq

def okind (o : Oper) : OK :=
  match o.op with
  | .load .. | .lookup .. | .slice .. => .read
  | .alloc _ | .box .. | .buildSlice .. | .makeSlice .. | .makeMap .. => .alloc
  | .store .. | .mapUpdate .. | .insert .. => .chain
  | .call c => match c.callee with
    | .builtin .len => .read
    | _ => .chain
  | _ => .pure

/-- A reading that has to come to the same at other times of the region. -/
structure Rd where
  o : Oper
  env : List (Nat × V)
  v : V
  lo : Nat
  hi : Nat

abbrev Mem := List (Nat × List C) × Heap

def winOf : List (Nat × Nat × Nat) → Nat → Option (Nat × Nat)
  | [], _ => none
  | (k, lo, hi) :: l, i => cond (Nat.beq k i) (some (lo, hi)) (winOf l i)

section
variable (P : Program) (X : Ctx) (fi : Fi)

def readAt (r : Rd) (m : Mem) : Option V := (op P X fi 0 r.o ⟨r.env, m.1, m.2⟩).map (·.1)

/-- The readings come to the same: B: the memory behind each of the chain's operations, the newest first. -/
def RdOk (B : List Mem) (r : Rd) : Prop := ∀ k m, r.lo ≤ k → k ≤ r.hi → B.reverse[k]? = some m → readAt P X fi r m = some r.v

def nmOf (fi : Fi) (o : Oper) (nm : Nat) : Nat := cond (makes fi o) (nm + 1) nm

/-- Of a region that draws: an order of its operations, and the readings that stand between others. -/
abbrev Win := List Nat × List (Nat × Nat × Nat)

def wpDrawL (ops : List Oper) (wins : List (Nat × Nat × Nat)) : List Nat → Nat → List Mem → List Rd → St → (St → Prop) → Prop
  | [], _, B, R, σ, K => (∀ r, r ∈ R → RdOk P X fi B r) ∧ K σ
  | i :: l, nm, B, R, σ, K =>
    match ops[i]? with
    | none => False
    | some o =>
      match wanted ops o σ with
      | some false => ∃ σ', put fi o.dst undefC σ = some σ' ∧ wpDrawL ops wins l (nmOf fi o nm) (if okind o = .chain then (σ.bx, σ.h) :: B else B) R σ' K
      | some true =>
        if isCall o then ∃ f args v h' σ', callee σ o = some (f, args) ∧ args.all V.loose = true ∧ ACall P f args σ.h v h' ∧ put fi o.dst v { σ with h := h' } = some σ' ∧ wpDrawL ops wins l nm ((σ.bx, h') :: B) R σ' K
        else ∃ v σ1 σ', op P X fi nm o σ = some (v, σ1) ∧ put fi o.dst v σ1 = some σ' ∧
          wpDrawL ops wins l (nmOf fi o nm) (if okind o = .chain then (σ1.bx, σ1.h) :: B else B) (match winOf wins i with | some (lo, hi) => ⟨o, σ.env, v, lo, hi⟩ :: R | none => R) σ' K
      | none => False

def countMk (fi : Fi) (ops : List Oper) : List Nat → Nat
  | [] => 0
  | i :: l => match ops[i]? with
    | some o => cond (makes fi o) (countMk fi ops l + 1) (countMk fi ops l)
    | none => countMk fi ops l

def ordOf (w : Option Win) (n : Nat) : List Nat :=
  match w with
  | some ([], _) | none => List.range n
  | some (l, _) => l

def winsOf (w : Option Win) : List (Nat × Nat × Nat) :=
  match w with
  | some (_, l) => l
  | none => []

/-! ### What an order has to keep -/
/-- An operation laid into an order: its place in the text, the mask of those ahead of it, how many of the chain may stand ahead of it at most (a reading), whether nothing may be made between. -/
structure SI where
  i : Nat
  m : Nat
  o : Oper
  hi : Nat
  tight : Bool

def siFind : List SI → Nat → Option SI
  | [], _ => none
  | s :: l, i => cond (Nat.beq s.i i) (some s) (siFind l i)

def ancOf (done : List SI) : List Edge → Option Nat
  | [] => some 0
  | e :: es => cond (Region.binds .any e)
      (match siFind done e.on, ancOf done es with
        | some s, some m => some (m ||| (s.m ||| 1 <<< e.on))
        | _, _ => none)
      (ancOf done es)

def memN (t : Nat) : List Nat → Bool
  | [] => false
  | x :: l => Nat.beq x t || memN t l

def tmpsOf : List Operand → List Nat
  | [] => []
  | .tmp t :: l => t :: tmpsOf l
  | _ :: l => tmpsOf l

/-- The slots an operation looks at. -/
def looksE (ops : List Oper) (o : Oper) : List Nat :=
  (match o.guard with
    | some (g, _) => match ops[g]? with
      | some og => match og.dst with
        | some t => [t]
        | none => []
      | none => []
    | none => []) ++ tmpsOf o.op.operands.toList

def dstIn (d : Option Nat) (l : List Nat) : Bool :=
  match d with
  | some t => memN t l
  | none => false

def dstEq : Option Nat → Option Nat → Bool
  | some a, some b => Nat.beq a b
  | _, _ => false

def apartB (ops : List Oper) (x y : Oper) : Bool := !dstIn x.dst (looksE ops y) && !dstIn y.dst (looksE ops x) && !dstEq x.dst y.dst

def OK.isChain : OK → Bool
  | .chain => true
  | _ => false
def OK.isAlloc : OK → Bool
  | .alloc => true
  | _ => false

/-- Two operations, s laid ahead of t; c: how many of the chain are laid ahead of t. -/
def pairOk (ops : List Oper) (t : SI) (c : Nat) (s : SI) : Bool :=
  (!((okind s.o).isAlloc || (okind t.o).isAlloc) || !dstEq s.o.dst t.o.dst) &&
  (Nat.testBit t.m s.i || (apartB ops s.o t.o && (match okind t.o with
    | .chain => match okind s.o with
      | .chain | .alloc => false
      | .read => Nat.blt c s.hi
      | .pure => true
    | .read => !(t.tight && (okind s.o).isAlloc)
    | _ => true)))

def chainAnc (m : Nat) : List SI → Nat
  | [] => 0
  | s :: l => cond ((okind s.o).isChain && Nat.testBit m s.i) (chainAnc m l + 1) (chainAnc m l)

/-- The bounds of a reading: of the chain's operations, how many stand ahead of it at least, at most; whether nothing may be made between. -/
def boundsOf (wins : List (Nat × Nat × Nat)) (i c : Nat) : Nat × Nat × Bool :=
  match winOf wins i with
  | some (lo, hi) => (lo, hi, false)
  | none => (c, c, true)

def readOk (o : Oper) (lo hi c n : Nat) : Bool :=
  match okind o with
  | .read => Nat.ble lo n && Nat.ble c hi
  | _ => true

def regGo (ops : List Oper) (wins : List (Nat × Nat × Nat)) : List Nat → List SI → Nat → Bool
  | [], _, _ => true
  | i :: l, done, c => match ops[i]? with
    | none => false
    | some o => match ancOf done o.after.toList with
      | none => false
      | some m => (siFind done i).isNone && done.all (pairOk ops ⟨i, m, o, (boundsOf wins i c).2.1, (boundsOf wins i c).2.2⟩ c) &&
        readOk o (boundsOf wins i c).1 (boundsOf wins i c).2.1 c (chainAnc m done) &&
        regGo ops wins l (⟨i, m, o, (boundsOf wins i c).2.1, (boundsOf wins i c).2.2⟩ :: done) (cond (okind o).isChain (c + 1) c)

def regOk (w : Option Win) (ops : List Oper) : Bool :=
  (List.range ops.length).all (fun i => memN i (ordOf w ops.length)) && Nat.ble (ordOf w ops.length).length ops.length && regGo ops (winsOf w) (ordOf w ops.length) [] 0

def boxSlot (fi : Fi) (o : Oper) : Option Nat :=
  match o.op with
  | .alloc _ | .box .. => match o.dst with
    | some t => cond (fi.prom.contains t) (some t) none
    | none => none
  | _ => none

def startOk (fi : Fi) (ops : List Oper) (σ : St) : Bool := ops.all fun o => match boxSlot fi o with
  | some t => (get σ.bx t).isNone && !(σ.env.any fun p => mentionsV t p.2)
  | none => true

/-- What holds behind a region that draws its order. -/
def wpDraw (wins : List (Nat × Win)) (id : Nat) (ops : List Oper) (σ : St) (K : St → Prop) : Prop :=
  regOk (get wins id) ops = true ∧ startOk fi ops σ = true ∧
  wpDrawL P X fi ops (winsOf (get wins id)) (ordOf (get wins id) ops.length) σ.h.next [(σ.bx, { σ.h with next := σ.h.next + countMk fi ops (ordOf (get wins id) ops.length) })] [] { σ with h := { σ.h with next := σ.h.next + countMk fi ops (ordOf (get wins id) ops.length) } } K

/-! ### A run -/
variable (Γ : FuncId → List V → Heap → Option (V × Heap))

def C.beq : C → C → Bool
  | .lit (.int j a), .lit (.int k b) => decide (j = k) && decide (a = b)
  | .lit (.bool a), .lit (.bool b) => a == b
  | .lit (.string a), .lit (.string b) => strEq a b
  | .lit (.pointer none), .lit (.pointer none) => true
  | .lit (.slice none 0 0), .lit (.slice none 0 0) => true
  | .lit (.map none), .lit (.map none) => true
  | .lit .nilFunc, .lit .nilFunc => true
  | .ptr b k, .ptr c l => Nat.beq b c && Nat.beq k l
  | .lp b k, .lp c l => Nat.beq b c && Nat.beq k l
  | .sl b k m n, .sl c l p q => Nat.beq b c && Nat.beq k l && Nat.beq m p && Nat.beq n q
  | .mp b, .mp c => Nat.beq b c
  | .fn f [], .fn g [] => Nat.beq f g
  | _, _ => false

def cellsBeq : List C → List C → Bool
  | [], [] => true
  | x :: xs, y :: ys => C.beq x y && cellsBeq xs ys
  | _, _ => false

def V.beq : V → V → Bool
  | .one a, .one b => C.beq a b
  | .agg a, .agg b => cellsBeq a b
  | _, _ => false

def runOps (ops : List Oper) : List Oper → St → Option St
  | [], σ => some σ
  | o :: l, σ =>
    match wanted ops o σ with
    | some false => match put fi o.dst undefC σ with
      | some σ' => runOps ops l σ'
      | none => none
    | some true => cond (isCall o)
      (match callee σ o with
        | some (f, args) => cond (args.all V.loose)
          (match Γ f args σ.h with
            | some (v, h') => match put fi o.dst v { σ with h := h' } with
              | some σ' => runOps ops l σ'
              | none => none
            | none => none) none
        | none => none)
      (match op P X fi σ.h.next o σ with
        | some (v, σ1) => match put fi o.dst v { σ1 with h := bump fi o σ1.h } with
          | some σ' => runOps ops l σ'
          | none => none
        | none => none)
    | none => none

def rdOkB (B : List Mem) (r : Rd) : Bool := (((B.reverse.take (r.hi + 1)).drop r.lo)).all fun m => match readAt P X fi r m with
  | some v => V.beq v r.v
  | none => false

def runDrawL (ops : List Oper) (wins : List (Nat × Nat × Nat)) : List Nat → Nat → List Mem → List Rd → St → Option St
  | [], _, B, R, σ => cond (R.all (rdOkB P X fi B)) (some σ) none
  | i :: l, nm, B, R, σ =>
    match ops[i]? with
    | none => none
    | some o =>
      match wanted ops o σ with
      | some false => match put fi o.dst undefC σ with
        | some σ' => runDrawL ops wins l (nmOf fi o nm) (if okind o = .chain then (σ.bx, σ.h) :: B else B) R σ'
        | none => none
      | some true => cond (isCall o)
        (match callee σ o with
          | some (f, args) => cond (args.all V.loose)
            (match Γ f args σ.h with
              | some (v, h') => match put fi o.dst v { σ with h := h' } with
                | some σ' => runDrawL ops wins l nm ((σ.bx, h') :: B) R σ'
                | none => none
              | none => none) none
          | none => none)
        (match op P X fi nm o σ with
          | some (v, σ1) => match put fi o.dst v σ1 with
            | some σ' => runDrawL ops wins l (nmOf fi o nm) (if okind o = .chain then (σ1.bx, σ1.h) :: B else B) (match winOf wins i with | some (lo, hi) => ⟨o, σ.env, v, lo, hi⟩ :: R | none => R) σ'
            | none => none
          | none => none)
      | none => none

def runLoop (f : St → Option (Ex × St)) : Nat → St → Option (Ex × St)
  | 0, _ => none
  | n + 1, σ => match f σ with
    | some (.norm, σ') => runLoop f n σ'
    | r => r

def runC (wins : List (Nat × Win)) (n : Nat) : Code → St → Option (Ex × St)
  | .skip, σ => some (.norm, σ)
  | .ret, σ => some (.ret, σ)
  | .exit id, σ => some (.exit id, σ)
  | .seq a b, σ => match runC wins n a σ with
    | some (.norm, σ') => runC wins n b σ'
    | r => r
  | .cond c a b, σ => match ev σ c with
    | some (.one (.lit (.bool true))) => runC wins n a σ
    | some (.one (.lit (.bool false))) => runC wins n b σ
    | _ => none
  | .block id c, σ => match runC wins n c σ with
    | some (.exit id', σ') => cond (Nat.beq id' id) (some (.norm, σ')) (some (.exit id', σ'))
    | r => r
  | .loop c, σ => runLoop (runC wins n c) n σ
  | .region id ops draw, σ => match (cond draw
      (cond (startOk fi ops.toList σ) (runDrawL P X fi Γ ops.toList (winsOf (get wins id)) (ordOf (get wins id) ops.toList.length) σ.h.next [(σ.bx, { σ.h with next := σ.h.next + countMk fi ops.toList (ordOf (get wins id) ops.toList.length) })] [] { σ with h := { σ.h with next := σ.h.next + countMk fi ops.toList (ordOf (get wins id) ops.toList.length) } }) none)
      (runOps P X fi Γ ops.toList ops.toList σ)) with
    | some σ' => some (.norm, clean fi id σ')
    | none => none
  | _, _ => none
end

/-- Every region of a code that draws its order keeps what it has to. -/
def codeOk (wins : List (Nat × Win)) : Code → Bool
  | .seq a b => codeOk wins a && codeOk wins b
  | .cond _ a b => codeOk wins a && codeOk wins b
  | .block _ c => codeOk wins c
  | .loop c => codeOk wins c
  | .region id ops draw => !draw || regOk (get wins id) ops.toList
  | _ => true

/-- What the machine is told of a function. -/
structure Fn where
  fi : Fi
  wins : List (Nat × Win)
  body : Code
  res : List ResultVar
  keep : Bool

/-- The blocks that stay: those of the caller, and, if so said, the callee's. -/
def dropH (keep : Bool) (h h' : Heap) : Heap := cond keep h' { h' with bs := h'.bs.filter fun p => Nat.blt p.1 h.next }

def callN (P : Program) (X : Ctx) (F : FuncId → Option Fn) (loops : Nat) : Nat → FuncId → List V → Heap → Option (V × Heap)
  | 0, _, _, _ => none
  | n + 1, f, args, h =>
    match F f with
    | some fn => match runC P X fn.fi (callN P X F loops n) fn.wins loops fn.body ⟨argsEnv 0 args, [], h⟩ with
      | some (.norm, σ) | some (.ret, σ) => cond (Nat.ble h.next σ.h.next && Nat.ble args.length fn.fi.nt) ((resE X σ fn.res).map fun v => (v, dropH fn.keep h σ.h)) none
      | _ => none
    | none => none
end E
end Go.Proofs.Ytnfehccnofhmnaa
