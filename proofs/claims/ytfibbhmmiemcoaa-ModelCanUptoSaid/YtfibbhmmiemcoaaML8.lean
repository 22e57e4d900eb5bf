/-
  An abstract machine of this place's own: regions that draw their order, said; a run that computes. No condition.
-/
import Derived.Test.YtfibbhmmiemcoaaML7
set_option linter.all false
namespace Go.Proofs.Ytfibbhmmiemcoaa
open Go.RowKit
namespace E

/-! ### Kinds of operation, for an order that is drawn -/
inductive OK where
  | pure | read | alloc | chain
  deriving DecidableEq

def okind (o : Oper) : OK :=
  match o.op with
  | .load .. | .lookup .. | .slice .. => .read
  | .alloc _ | .box .. | .buildSlice .. | .makeSlice .. | .makeMap .. => .alloc
  | .store .. | .mapUpdate .. | .insert .. => .chain
  | .call c => match c.callee with
    | .builtin .len => .read
    | _ => .chain
  | _ => .pure

/-- A reading that has to come to the same at other times of the region. -/
structure Rd where
  o : Oper
  env : List (Nat × V)
  v : V
  lo : Nat
  hi : Nat

abbrev Mem := List (Nat × List C) × Heap

def winOf : List (Nat × Nat × Nat) → Nat → Option (Nat × Nat)
  | [], _ => none
  | (k, lo, hi) :: l, i => cond (Nat.beq k i) (some (lo, hi)) (winOf l i)

section
variable (P : Program) (X : Ctx) (fi : Fi)

def readAt (r : Rd) (m : Mem) : Option V := (op P X fi 0 r.o ⟨r.env, m.1, m.2⟩).map (·.1)

/-- The readings come to the same: B: the memory behind each of the chain's operations, the newest first. -/
def RdOk (B : List Mem) (r : Rd) : Prop := ∀ k m, r.lo ≤ k → k ≤ r.hi → B.reverse[k]? = some m → readAt P X fi r m = some r.v

def nmOf (fi : Fi) (o : Oper) (nm : Nat) : Nat := cond (makes fi o) (nm + 1) nm

/-- Of a region that draws: an order of its operations, and the readings that stand between others. -/
abbrev Win := List Nat × List (Nat × Nat × Nat)

def wpDrawL (ops : List Oper) (wins : List (Nat × Nat × Nat)) : List Nat → Nat → List Mem → List Rd → St → (St → Prop) → Prop
  | [], _, B, R, σ, K => (∀ r, r ∈ R → RdOk P X fi B r) ∧ K σ
  | i :: l, nm, B, R, σ, K =>
    match ops[i]? with
    | none => False
    | some o =>
      match wanted ops o σ with
      | some false => ∃ σ', put fi o.dst undefC σ = some σ' ∧ wpDrawL ops wins l (nmOf fi o nm) (if okind o = .chain then (σ.bx, σ.h) :: B else B) R σ' K
      | some true =>
        if isCall o then ∃ f args v h' σ', callee σ o = some (f, args) ∧ args.all V.loose = true ∧ ACall P f args σ.h v h' ∧ put fi o.dst v { σ with h := h' } = some σ' ∧ wpDrawL ops wins l nm ((σ.bx, h') :: B) R σ' K
        else ∃ v σ1 σ', op P X fi nm o σ = some (v, σ1) ∧ put fi o.dst v σ1 = some σ' ∧
          wpDrawL ops wins l (nmOf fi o nm) (if okind o = .chain then (σ1.bx, σ1.h) :: B else B) (match winOf wins i with | some (lo, hi) => ⟨o, σ.env, v, lo, hi⟩ :: R | none => R) σ' K
      | none => False

def countMk (fi : Fi) (ops : List Oper) : List Nat → Nat
  | [] => 0
  | i :: l => match ops[i]? with
    | some o => cond (makes fi o) (countMk fi ops l + 1) (countMk fi ops l)
    | none => countMk fi ops l

def ordOf (w : Option Win) (n : Nat) : List Nat :=
  match w with
  | some ([], _) | none => List.range n
  | some (l, _) => l

def winsOf (w : Option Win) : List (Nat × Nat × Nat) :=
  match w with
  | some (_, l) => l
  | none => []

/-! ### What an order has to keep -/
/-- An operation laid into an order: its place in the text, the mask of those ahead of it, how many of the chain may stand ahead of it at most (a reading), whether nothing may be made between. -/
structure SI where
  i : Nat
  m : Nat
  o : Oper
  hi : Nat
  tight : Bool

def siFind : List SI → Nat → Option SI
  | [], _ => none
  | s :: l, i => cond (Nat.beq s.i i) (some s) (siFind l i)

def ancOf (done : List SI) : List Edge → Option Nat
  | [] => some 0
  | e :: es => cond (Region.binds .any e)
      (match siFind done e.on, ancOf done es with
        | some s, some m => some (m ||| (s.m ||| 1 <<< e.on))
        | _, _ => none)
      (ancOf done es)

def memN (t : Nat) : List Nat → Bool
  | [] => false
  | x :: l => Nat.beq x t || memN t l

def tmpsOf : List Operand → List Nat
  | [] => []
  | .tmp t :: l => t :: tmpsOf l
  | _ :: l => tmpsOf l

/-- The slots an operation looks at. -/
def looksE (ops : List Oper) (o : Oper) : List Nat :=
  (match o.guard with
    | some (g, _) => match ops[g]? with
      | some og => match og.dst with
        | some t => [t]
        | none => []
      | none => []
    | none => []) ++ tmpsOf o.op.operands.toList

def dstIn (d : Option Nat) (l : List Nat) : Bool :=
  match d with
  | some t => memN t l
  | none => false

def dstEq : Option Nat → Option Nat → Bool
  | some a, some b => Nat.beq a b
  | _, _ => false

def apartB (ops : List Oper) (x y : Oper) : Bool := !dstIn x.dst (looksE ops y) && !dstIn y.dst (looksE ops x) && !dstEq x.dst y.dst

def OK.isChain : OK → Bool
  | .chain => true
  | _ => false
def OK.isAlloc : OK → Bool
  | .alloc => true
  | _ => false

/-- Two operations, s laid ahead of t; c: how many of the chain are laid ahead of t. -/
def pairOk (ops : List Oper) (t : SI) (c : Nat) (s : SI) : Bool :=
  (!((okind s.o).isAlloc || (okind t.o).isAlloc) || !dstEq s.o.dst t.o.dst) &&
  (Nat.testBit t.m s.i || (apartB ops s.o t.o && (match okind t.o with
    | .chain => match okind s.o with
      | .chain | .alloc => false
      | .read => Nat.blt c s.hi
      | .pure => true
    | .read => !(t.tight && (okind s.o).isAlloc)
    | _ => true)))

def chainAnc (m : Nat) : List SI → Nat
  | [] => 0
  | s :: l => cond ((okind s.o).isChain && Nat.testBit m s.i) (chainAnc m l + 1) (chainAnc m l)

/-- The bounds of a reading: of the chain's operations, how many stand ahead of it at least, at most; whether nothing may be made between. -/
def boundsOf (wins : List (Nat × Nat × Nat)) (i c : Nat) : Nat × Nat × Bool :=
  match winOf wins i with
  | some (lo, hi) => (lo, hi, false)
  | none => (c, c, true)

def readOk (o : Oper) (lo hi c n : Nat) : Bool :=
  match okind o with
  | .read => Nat.ble lo n && Nat.ble c hi
  | _ => true

def regGo (ops : List Oper) (wins : List (Nat × Nat × Nat)) : List Nat → List SI → Nat → Bool
  | [], _, _ => true
  | i :: l, done, c => match ops[i]? with
    | none => false
    | some o => match ancOf done o.after.toList with
      | none => false
      | some m => (siFind done i).isNone && done.all (pairOk ops ⟨i, m, o, (boundsOf wins i c).2.1, (boundsOf wins i c).2.2⟩ c) &&
        readOk o (boundsOf wins i c).1 (boundsOf wins i c).2.1 c (chainAnc m done) &&
        regGo ops wins l (⟨i, m, o, (boundsOf wins i c).2.1, (boundsOf wins i c).2.2⟩ :: done) (cond (okind o).isChain (c + 1) c)

def regOk (w : Option Win) (ops : List Oper) : Bool :=
  (List.range ops.length).all (fun i => memN i (ordOf w ops.length)) && Nat.ble (ordOf w ops.length).length ops.length && regGo ops (winsOf w) (ordOf w ops.length) [] 0

def boxSlot (fi : Fi) (o : Oper) : Option Nat :=
  match o.op with
  | .alloc _ | .box .. => match o.dst with
    | some t => cond (fi.prom.contains t) (some t) none
    | none => none
  | _ => none

def startOk (fi : Fi) (ops : List Oper) (σ : St) : Bool := ops.all fun o => match boxSlot fi o with
  | some t => (get σ.bx t).isNone && !(σ.env.any fun p => mentionsV t p.2)
  | none => true

/-- What holds behind a region that draws its order. -/
def wpDraw (wins : List (Nat × Win)) (id : Nat) (ops : List Oper) (σ : St) (K : St → Prop) : Prop :=
  regOk (get wins id) ops = true ∧ startOk fi ops σ = true ∧
  wpDrawL P X fi ops (winsOf (get wins id)) (ordOf (get wins id) ops.length) σ.h.next [(σ.bx, { σ.h with next := σ.h.next + countMk fi ops (ordOf (get wins id) ops.length) })] [] { σ with h := { σ.h with next := σ.h.next + countMk fi ops (ordOf (get wins id) ops.length) } } K

/-! ### A run -/
variable (Γ : FuncId → List V → Heap → Option (V × Heap))

def C.beq : C → C → Bool
  | .lit (.int j a), .lit (.int k b) => decide (j = k) && decide (a = b)
  | .lit (.bool a), .lit (.bool b) => a == b
  | .lit (.string a), .lit (.string b) => strEq a b
  | .lit (.pointer none), .lit (.pointer none) => true
  | .lit (.slice none 0 0), .lit (.slice none 0 0) => true
  | .lit (.map none), .lit (.map none) => true
  | .lit .nilFunc, .lit .nilFunc => true
  | .ptr b k, .ptr c l => Nat.beq b c && Nat.beq k l
  | .lp b k, .lp c l => Nat.beq b c && Nat.beq k l
  | .sl b k m n, .sl c l p q => Nat.beq b c && Nat.beq k l && Nat.beq m p && Nat.beq n q
  | .mp b, .mp c => Nat.beq b c
  | .fn f [], .fn g [] => Nat.beq f g
  | _, _ => false

def cellsBeq : List C → List C → Bool
  | [], [] => true
  | x :: xs, y :: ys => C.beq x y && cellsBeq xs ys
  | _, _ => false

def V.beq : V → V → Bool
  | .one a, .one b => C.beq a b
  | .agg a, .agg b => cellsBeq a b
  | _, _ => false

def runOps (ops : List Oper) : List Oper → St → Option St
  | [], σ => some σ
  | o :: l, σ =>
    match wanted ops o σ with
    | some false => match put fi o.dst undefC σ with
      | some σ' => runOps ops l σ'
      | none => none
    | some true => cond (isCall o)
      (match callee σ o with
        | some (f, args) => cond (args.all V.loose)
          (match Γ f args σ.h with
            | some (v, h') => match put fi o.dst v { σ with h := h' } with
              | some σ' => runOps ops l σ'
              | none => none
            | none => none) none
        | none => none)
      (match op P X fi σ.h.next o σ with
        | some (v, σ1) => match put fi o.dst v { σ1 with h := bump fi o σ1.h } with
          | some σ' => runOps ops l σ'
          | none => none
        | none => none)
    | none => none

def rdOkB (B : List Mem) (r : Rd) : Bool := (((B.reverse.take (r.hi + 1)).drop r.lo)).all fun m => match readAt P X fi r m with
  | some v => V.beq v r.v
  | none => false

def runDrawL (ops : List Oper) (wins : List (Nat × Nat × Nat)) : List Nat → Nat → List Mem → List Rd → St → Option St
  | [], _, B, R, σ => cond (R.all (rdOkB P X fi B)) (some σ) none
  | i :: l, nm, B, R, σ =>
    match ops[i]? with
    | none => none
    | some o =>
      match wanted ops o σ with
      | some false => match put fi o.dst undefC σ with
        | some σ' => runDrawL ops wins l (nmOf fi o nm) (if okind o = .chain then (σ.bx, σ.h) :: B else B) R σ'
        | none => none
      | some true => cond (isCall o)
        (match callee σ o with
          | some (f, args) => cond (args.all V.loose)
            (match Γ f args σ.h with
              | some (v, h') => match put fi o.dst v { σ with h := h' } with
                | some σ' => runDrawL ops wins l nm ((σ.bx, h') :: B) R σ'
                | none => none
              | none => none) none
          | none => none)
        (match op P X fi nm o σ with
          | some (v, σ1) => match put fi o.dst v σ1 with
            | some σ' => runDrawL ops wins l (nmOf fi o nm) (if okind o = .chain then (σ1.bx, σ1.h) :: B else B) (match winOf wins i with | some (lo, hi) => ⟨o, σ.env, v, lo, hi⟩ :: R | none => R) σ'
            | none => none
          | none => none)
      | none => none

def runLoop (f : St → Option (Ex × St)) : Nat → St → Option (Ex × St)
  | 0, _ => none
  | n + 1, σ => match f σ with
    | some (.norm, σ') => runLoop f n σ'
    | r => r

def runC (wins : List (Nat × Win)) (n : Nat) : Code → St → Option (Ex × St)
  | .skip, σ => some (.norm, σ)
  | .ret, σ => some (.ret, σ)
  | .exit id, σ => some (.exit id, σ)
  | .seq a b, σ => match runC wins n a σ with
    | some (.norm, σ') => runC wins n b σ'
    | r => r
  | .cond c a b, σ => match ev σ c with
    | some (.one (.lit (.bool true))) => runC wins n a σ
    | some (.one (.lit (.bool false))) => runC wins n b σ
    | _ => none
  | .block id c, σ => match runC wins n c σ with
    | some (.exit id', σ') => cond (Nat.beq id' id) (some (.norm, σ')) (some (.exit id', σ'))
    | r => r
  | .loop c, σ => runLoop (runC wins n c) n σ
  | .region id ops draw, σ => match (cond draw
      (cond (startOk fi ops.toList σ) (runDrawL P X fi Γ ops.toList (winsOf (get wins id)) (ordOf (get wins id) ops.toList.length) σ.h.next [(σ.bx, { σ.h with next := σ.h.next + countMk fi ops.toList (ordOf (get wins id) ops.toList.length) })] [] { σ with h := { σ.h with next := σ.h.next + countMk fi ops.toList (ordOf (get wins id) ops.toList.length) } }) none)
      (runOps P X fi Γ ops.toList ops.toList σ)) with
    | some σ' => some (.norm, clean fi id σ')
    | none => none
  | _, _ => none
end

/-- Every region of a code that draws its order keeps what it has to. -/
def codeOk (wins : List (Nat × Win)) : Code → Bool
  | .seq a b => codeOk wins a && codeOk wins b
  | .cond _ a b => codeOk wins a && codeOk wins b
  | .block _ c => codeOk wins c
  | .loop c => codeOk wins c
  | .region id ops draw => !draw || regOk (get wins id) ops.toList
  | _ => true

/-- What the machine is told of a function. -/
structure Fn where
  fi : Fi
  wins : List (Nat × Win)
  body : Code
  res : List ResultVar
  keep : Bool

/-- The blocks that stay: those of the caller, and, if so said, the callee's. -/
def dropH (keep : Bool) (h h' : Heap) : Heap := cond keep h' { h' with bs := h'.bs.filter fun p => Nat.blt p.1 h.next }

def callN (P : Program) (X : Ctx) (F : FuncId → Option Fn) (loops : Nat) : Nat → FuncId → List V → Heap → Option (V × Heap)
  | 0, _, _, _ => none
  | n + 1, f, args, h =>
    match F f with
    | some fn => match runC P X fn.fi (callN P X F loops n) fn.wins loops fn.body ⟨argsEnv 0 args, [], h⟩ with
      | some (.norm, σ) | some (.ret, σ) => cond (Nat.ble h.next σ.h.next && Nat.ble args.length fn.fi.nt) ((resE X σ fn.res).map fun v => (v, dropH fn.keep h σ.h)) none
      | _ => none
    | none => none
end E
end Go.Proofs.Ytfibbhmmiemcoaa

/-
  An abstract machine of this place's own: on what an operation hangs: its operands, and what it reads. No condition.
-/
namespace Go.Proofs.Ytfibbhmmiemcoaa
open Go.RowKit
namespace E

/-- One memory holds what another one holds. -/
def MemLe (σ τ : St) : Prop := (∀ t cs, get σ.bx t = some cs → get τ.bx t = some cs) ∧ (∀ b x, σ.h.get b = some x → τ.h.get b = some x)

section
variable {P : Program} {X : Ctx} {fi : Fi} {nm nm' : Nat} {σ τ σ' : St} {o : Oper} {v : V}

theorem onV_of {x : Operand} {u : V} {k : V → Option (V × St)} (h : ev τ x = some u) : onV τ x k = k u := by simp [onV, h]
theorem onC_of {x : Operand} {c : C} {k : C → Option (V × St)} (h : ev τ x = some (.one c)) : onC τ x k = k c := by simp [onC, h]
theorem onTI_of {t : TypeId} {ti : TI} {k : TI → Option (V × St)} (h : X.tt t = some ti) : onTI X t k = k ti := by simp [onTI, h]

theorem loadC_mono (hm : MemLe σ τ) {c : C} {n : Nat} {cs : List C} (h : loadC σ c n = some cs) : loadC τ c n = some cs := by
  unfold loadC at h ⊢
  split at h
  · rename_i t k
    simp only [Option.bind_eq_some_iff] at h ⊢
    obtain ⟨bs, h1, h2⟩ := h
    exact ⟨bs, hm.1 t bs h1, h2⟩
  · rename_i b k
    split at h
    · rename_i rw' sz bs hb
      simp only [hm.2 b _ hb]
      exact h
    · cases h
  · cases h

theorem entries_mono (hm : MemLe σ τ) {c : C} {es : List (Value × V × Nat)} (h : entriesOf σ c = some es) : entriesOf τ c = some es := by
  unfold entriesOf at h ⊢
  split at h
  · exact h
  · rename_i b
    split at h
    · rename_i es' cl hb
      simp only [hm.2 b _ hb]
      exact h
    · cases h
  · cases h

theorem szOk_mono (hm : MemLe σ τ) {b sz l : Nat} (h : szOk σ b sz l = true) : szOk τ b sz l = true := by
  simp only [szOk, Bool.or_eq_true] at h ⊢
  rcases h with h | h
  · exact .inl h
  · right
    split at h
    · rename_i rw' sz' cs hb
      simp only [hm.2 b _ hb]
      simpa using h
    · cases h

theorem pureOp_eq (hs : ∀ cs b, o.op ≠ .select cs b) (hev : ∀ x ∈ o.op.operands.toList, ev τ x = ev σ x) : pureOp P o τ = pureOp P o σ := by
  have h0 : ∀ x ∈ o.op.operands.toList, litAt τ x = litAt σ x := fun x hx => by unfold litAt; rw [hev x hx]
  have h1 : o.op.operands.toList.all (litAt τ) = o.op.operands.toList.all (litAt σ) := by
    rw [Bool.eq_iff_iff, List.all_eq_true, List.all_eq_true]
    exact ⟨fun h x hx => by rw [← h0 x hx]; exact h x hx, fun h x hx => by rw [h0 x hx]; exact h x hx⟩
  unfold pureOp
  rw [h1, execOp_congr (ρ := ρ τ) (ρ' := ρ σ) o hs fun x hx => by unfold ρ; rw [hev x (by simpa using hx)]]

theorem pureV_eq (hs : ∀ cs b, o.op ≠ .select cs b) (hev : ∀ x ∈ o.op.operands.toList, ev τ x = ev σ x) (h : op.pureV P o σ = some (v, σ')) : op.pureV P o τ = some (v, τ) ∧ σ' = σ := by
  simp only [op.pureV, Option.map_eq_some_iff, Prod.mk.injEq] at h
  obtain ⟨u, h1, rfl, rfl⟩ := h
  exact ⟨by simp only [op.pureV, pureOp_eq hs hev, h1, Option.map_some], rfl⟩

theorem evs_eq : ∀ {l : List Operand}, (∀ x ∈ l, ev τ x = ev σ x) → evs τ l = evs σ l
  | [], _ => rfl
  | x :: l, h => by
    have h1 := h x (by simp)
    have h2 := evs_eq (l := l) fun y hy => h y (by simp [hy])
    simp only [evs, h1, h2]

theorem evParts_eq : ∀ {l : List (Nat × Operand)}, (∀ x ∈ l.map (·.2), ev τ x = ev σ x) → evParts τ l = evParts σ l
  | [], _ => rfl
  | (i, x) :: l, h => by
    have h1 := h x (by simp)
    have h2 := evParts_eq (l := l) fun y hy => h y (by rw [List.map_cons]; exact List.mem_cons_of_mem _ hy)
    simp only [evParts, h1, h2]

theorem optIdx_eq {x : Option Operand} (h : ∀ y ∈ x, ev τ y = ev σ y) : optIdx τ x = optIdx σ x := by
  cases x with
  | none => rfl
  | some y => simp only [optIdx, h y rfl]

/-- An operation that only computes, or reads. -/
theorem op_float (hk : okind o = .pure ∨ okind o = .read) (hev : ∀ x ∈ o.op.operands.toList, ev τ x = ev σ x) (hm : okind o = .read → MemLe σ τ) (h : op P X fi nm o σ = some (v, σ')) : op P X fi nm' o τ = some (v, τ) ∧ σ' = σ := by
  have hs : ∀ cs b, o.op ≠ .select cs b := fun cs b he => by simp [op, he] at h
  cases ho : o.op with
  | move x =>
    simp only [op, ho] at h ⊢
    obtain ⟨u, h1, h2⟩ := onV_some h
    simp only [Option.some.injEq, Prod.mk.injEq] at h2
    obtain ⟨rfl, rfl⟩ := h2
    rw [onV_of (by rw [hev x (by simp [ho, Op.operands])]; exact h1)]
    exact ⟨rfl, rfl⟩
  | assign x =>
    simp only [op, ho] at h ⊢
    obtain ⟨u, h1, h2⟩ := onV_some h
    simp only [Option.some.injEq, Prod.mk.injEq] at h2
    obtain ⟨rfl, rfl⟩ := h2
    rw [onV_of (by rw [hev x (by simp [ho, Op.operands])]; exact h1)]
    exact ⟨rfl, rfl⟩
  | pick c x y =>
    simp only [op, ho] at h ⊢
    obtain ⟨k, h1, h2⟩ := onC_some h
    rw [onC_of (by rw [hev c (by simp [ho, Op.operands])]; exact h1)]
    split at h2
    · rename_i t
      obtain ⟨u, h3, h4⟩ := onV_some h2
      simp only [Option.some.injEq, Prod.mk.injEq] at h4
      obtain ⟨rfl, rfl⟩ := h4
      rw [onV_of (u := u) (by cases t <;> (simp only [if_true, Bool.false_eq_true, if_false] at h3 ⊢; rw [hev _ (by simp [ho, Op.operands])]; exact h3))]
      exact ⟨rfl, rfl⟩
    · cases h2
  | extract x i =>
    simp only [op, ho] at h ⊢
    obtain ⟨k, h1, h2⟩ := onV_some h
    rw [onV_of (by rw [hev x (by simp [ho, Op.operands])]; exact h1)]
    split at h2
    · simp only [Option.map_eq_some_iff, Prod.mk.injEq] at h2
      obtain ⟨u, hu, rfl, rfl⟩ := h2
      exact ⟨by rw [hu]; rfl, rfl⟩
    · cases h2
  | load t x =>
    have hm := hm (by simp [okind, ho])
    simp only [op, ho] at h ⊢
    obtain ⟨ti, h1, h2⟩ := onTI_some h
    obtain ⟨c, h3, h4⟩ := onC_some h2
    rw [onTI_of h1, onC_of (by rw [hev x (by simp [ho, Op.operands])]; exact h3)]
    simp only [load, Option.map_eq_some_iff, Option.bind_eq_some_iff, Prod.mk.injEq] at h4
    obtain ⟨v', ⟨cs, h5, h6⟩, rfl, rfl⟩ := h4
    exact ⟨by simp only [load, loadC_mono hm h5, Option.bind_some, h6, Option.map_some], rfl⟩
  | nilCheck x =>
    simp only [op, ho] at h ⊢
    obtain ⟨c, h3, h4⟩ := onC_some h
    rw [onC_of (by rw [hev x (by simp [ho, Op.operands])]; exact h3)]
    split at h4
    · simp only [Option.some.injEq, Prod.mk.injEq] at h4; obtain ⟨rfl, rfl⟩ := h4; exact ⟨rfl, rfl⟩
    · simp only [Option.some.injEq, Prod.mk.injEq] at h4; obtain ⟨rfl, rfl⟩ := h4; exact ⟨rfl, rfl⟩
    · cases h4
  | fieldAddr t x f =>
    simp only [op, ho] at h ⊢
    split at h
    · rename_i off ft hft
      split at h
      · rename_i hpos
        obtain ⟨c, h3, h4⟩ := onC_some h
        simp only [if_pos hpos]
        rw [onC_of (by rw [hev x (by simp [ho, Op.operands])]; exact h3)]
        simp only [Option.map_eq_some_iff, Prod.mk.injEq] at h4
        obtain ⟨c', h5, rfl, rfl⟩ := h4
        exact ⟨by rw [h5]; rfl, rfl⟩
      · cases h
    · cases h
  | field t x f =>
    simp only [op, ho] at h ⊢
    split at h
    · obtain ⟨u, h3, h4⟩ := onV_some h
      rw [onV_of (by rw [hev x (by simp [ho, Op.operands])]; exact h3)]
      split at h4
      · simp only [Option.map_eq_some_iff, Prod.mk.injEq] at h4
        obtain ⟨v', h5, rfl, rfl⟩ := h4
        exact ⟨by rw [h5]; rfl, rfl⟩
      · cases h4
    · cases h
  | indexAddr t x y =>
    simp only [op, ho] at h ⊢
    obtain ⟨c, h3, h4⟩ := onC_some h
    obtain ⟨u, h5, h6⟩ := onV_some h4
    rw [onC_of (by rw [hev x (by simp [ho, Op.operands])]; exact h3), onV_of (by rw [hev y (by simp [ho, Op.operands])]; exact h5)]
    split at h6
    · simp only [Option.map_eq_some_iff, Prod.mk.injEq] at h6
      obtain ⟨c', h7, rfl, rfl⟩ := h6
      exact ⟨by rw [h7]; rfl, rfl⟩
    · cases h6
  | index t x y =>
    simp only [op, ho] at h ⊢
    split at h
    · obtain ⟨u, h3, h4⟩ := onV_some h
      obtain ⟨u', h5, h6⟩ := onV_some h4
      rw [onV_of (by rw [hev x (by simp [ho, Op.operands])]; exact h3), onV_of (by rw [hev y (by simp [ho, Op.operands])]; exact h5)]
      split at h6
      · rename_i hd hj
        split at h6
        · rename_i hin
          simp only [if_pos hin]
          simp only [Option.map_eq_some_iff, Prod.mk.injEq] at h6
          obtain ⟨v', h7, rfl, rfl⟩ := h6
          exact ⟨by rw [h7]; rfl, rfl⟩
        · cases h6
      · cases h6
    · exact pureV_eq hs hev h
  | slice t x lo hi mx =>
    have hm := hm (by simp [okind, ho])
    simp only [op, ho] at h ⊢
    have e1 : optIdx τ lo = optIdx σ lo := optIdx_eq fun y hy => hev y (by simp [ho, Op.operands]; simp at hy; simp [hy])
    have e2 : optIdx τ hi = optIdx σ hi := optIdx_eq fun y hy => hev y (by simp [ho, Op.operands]; simp at hy; simp [hy])
    have e3 : optIdx τ mx = optIdx σ mx := optIdx_eq fun y hy => hev y (by simp [ho, Op.operands]; simp at hy; simp [hy])
    rw [e1, e2, e3, hev x (by simp [ho, Op.operands])]
    split at h
    case h_2 => cases h
    rename_i l h' m h1 h2 h3
    split at h
    · exact pureV_eq hs hev h
    · rename_i c _ hx
      simp only [Option.map_eq_some_iff, Prod.mk.injEq] at h
      obtain ⟨c', h7, rfl, rfl⟩ := h
      suffices hh : sliceE X τ t c l h' m = some c' by exact ⟨by simp only [hh, Option.map_some], rfl⟩
      unfold sliceE at h7 ⊢
      split at h7
      case h_2 => cases h7
      split at h7
      · split at h7
        · rename_i et b q len cap het _
          split at h7
          case h_2 => cases h7
          split at h7
          case isFalse => cases h7
          rename_i hz
          rw [if_pos (szOk_mono hm hz)]
          exact h7
        · exact h7
        · cases h7
      · exact h7
      · cases h7
    · cases h
  | build t ps =>
    simp only [op, ho] at h ⊢
    obtain ⟨ti, h1, h2⟩ := onTI_some h
    rw [onTI_of h1, evParts_eq (σ := σ) (τ := τ) fun x hx => hev x (by simpa [ho, Op.operands] using hx)]
    split at h2
    case h_2 => cases h2
    rename_i z vs hz hvs
    split at h2
    · split at h2
      · simp only [Option.map_eq_some_iff, Prod.mk.injEq] at h2
        obtain ⟨ds, hf, rfl, rfl⟩ := h2
        exact ⟨by rw [hf]; rfl, rfl⟩
      · cases h2
    · split at h2
      · simp only [Option.map_eq_some_iff, Prod.mk.injEq] at h2
        obtain ⟨ds, hf, rfl, rfl⟩ := h2
        exact ⟨by rw [hf]; rfl, rfl⟩
      · cases h2
    · cases h2
  | lookup t x y ok =>
    have hm := hm (by simp [okind, ho])
    simp only [op, ho] at h ⊢
    obtain ⟨c, h3, h4⟩ := onC_some h
    obtain ⟨u, h5, h6⟩ := onV_some h4
    rw [onC_of (by rw [hev x (by simp [ho, Op.operands])]; exact h3), onV_of (by rw [hev y (by simp [ho, Op.operands])]; exact h5)]
    split at h6
    case h_2 => cases h6
    simp only [Option.map_eq_some_iff, Prod.mk.injEq] at h6
    obtain ⟨v', h7, rfl, rfl⟩ := h6
    rename_i kk hkk
    suffices hh : lookupE X t τ c kk ok = some v' by exact ⟨by simp only [hh, Option.map_some], rfl⟩
    unfold lookupE at h7 ⊢
    split at h7
    case h_2 => cases h7
    rename_i hmk hes
    simp only [hmk, entries_mono hm hes]
    exact h7
  | makeFunc f fs caps =>
    cases f with
    | func f =>
      simp only [op, ho] at h ⊢
      split at h
      · rename_i hfs
        rw [if_pos hfs, evs_eq (σ := σ) (τ := τ) fun x hx => hev x (by simp [ho, Op.operands]; right; simpa using hx)]
        split at h
        · simp only [Option.map_eq_some_iff, Prod.mk.injEq] at h
          obtain ⟨l, h1, rfl, rfl⟩ := h
          exact ⟨by rw [h1]; rfl, rfl⟩
        · cases h
      · cases h
    | _ => simp [op, ho] at h
  | binOp b t x y t' =>
    simp only [op, ho] at h ⊢
    obtain ⟨u, h3, h4⟩ := onV_some h
    obtain ⟨u', h5, h6⟩ := onV_some h4
    rw [onV_of (by rw [hev x (by simp [ho, Op.operands])]; exact h3), onV_of (by rw [hev y (by simp [ho, Op.operands])]; exact h5)]
    split at h6
    · simp only [Option.some.injEq, Prod.mk.injEq] at h6
      obtain ⟨rfl, rfl⟩ := h6
      exact ⟨rfl, rfl⟩
    · exact pureV_eq hs hev h6
  | unOp u t x => simp only [op, ho] at h ⊢; exact pureV_eq hs hev h
  | convert s t x => simp only [op, ho] at h ⊢; exact pureV_eq hs hev h
  | call c =>
    simp only [okind, ho] at hk hm
    simp only [op, ho] at h ⊢
    split at h
    case h_2 => cases h
    rename_i b hb
    simp only [hb] at hk hm
    have hbl : b = .len := by cases b <;> simp at hk ⊢
    subst hbl
    have hm := hm rfl
    rw [evs_eq (σ := σ) (τ := τ) fun x hx => hev x (by simp [ho, Op.operands, Call.operands, hb]; simpa using hx)]
    split at h
    case h_2 => cases h
    rename_i vs hvs
    unfold builtinE at h ⊢
    split at h <;> try (cases h; done)
    · rename_i t rest c' hts
      split at h
      case h_2 => cases h
      split at h
      · simp only [Option.map_eq_some_iff, Prod.mk.injEq] at h
        obtain ⟨es, h1, rfl, rfl⟩ := h
        exact ⟨by rw [entries_mono hm h1]; rfl, rfl⟩
      · simp only [Option.some.injEq, Prod.mk.injEq] at h
        obtain ⟨rfl, rfl⟩ := h
        exact ⟨rfl, rfl⟩
      · split at h
        · cases h
        · simp only [Option.map_eq_some_iff, Prod.mk.injEq] at h
          obtain ⟨n, h1, rfl, rfl⟩ := h
          exact ⟨by rw [h1]; rfl, rfl⟩
      · split at h
        · simp only [Option.some.injEq, Prod.mk.injEq] at h
          obtain ⟨rfl, rfl⟩ := h
          exact ⟨rfl, rfl⟩
        · cases h
      · cases h
    all_goals (first | cases ‹Builtin.len = _› | skip)
  | _ => simp [op, ho, okind] at h hk
end
end E
end Go.Proofs.Ytfibbhmmiemcoaa

/-
  An abstract machine of this place's own: an operation that writes, or makes, at another frame. No condition.
-/
namespace Go.Proofs.Ytfibbhmmiemcoaa
open Go.RowKit
namespace E
section
variable {P : Program} {X : Ctx} {fi : Fi} {nm nm' : Nat} {σ τ σ' : St} {o : Oper} {v : V} {e : List (Nat × V)}

theorem storeC_env {c : C} {xs : List C} (h : storeC σ c xs = some σ') : storeC { σ with env := e } c xs = some { σ' with env := e } ∧ σ'.env = σ.env := by
  unfold storeC at h ⊢
  split at h
  · rename_i hok
    rw [if_pos hok]
    split at h
    · simp only [Option.bind_eq_some_iff, Option.map_eq_some_iff] at h
      obtain ⟨bs, h1, ds, h2, rfl⟩ := h
      exact ⟨by simp only [h1, Option.bind_some, h2, Option.map_some], rfl⟩
    · split at h
      · rename_i sz bs hb
        simp only [Option.map_eq_some_iff] at h
        obtain ⟨ds, h2, rfl⟩ := h
        exact ⟨by simp only [hb, h2, Option.map_some], rfl⟩
      · cases h
    · cases h
  · cases h

theorem appendC_env {ti : TI} {s x : C} {p : C × St} (h : appendC ti nm σ s x = some p) : appendC ti nm { σ with env := e } s x = some (p.1, { p.2 with env := e }) ∧ p.2.env = σ.env := by
  have hsc : sliceCells { σ with env := e } ti.size x = sliceCells σ ti.size x := by unfold sliceCells; rfl
  unfold appendC at h ⊢
  rw [hsc]
  split at h
  · rename_i news m hn hm
    split at h
    · rename_i hck
      rw [if_pos hck]
      split at h
      · split at h
        · rename_i hm0
          simp only [Option.some.injEq] at h
          subst h
          simp only [if_pos hm0]
          exact ⟨trivial, trivial⟩
        · rename_i hm0
          simp only [if_neg hm0]
          split at h
          · rename_i hk
            simp only [Option.some.injEq] at h
            subst h
            rw [if_pos hk]
            exact ⟨rfl, rfl⟩
          · cases h
      · split at h
        · rename_i sz cs hb
          simp only [hb]
          split at h
          · rename_i hm0
            simp only [Option.some.injEq] at h
            subst h
            simp only [if_pos hm0]
            exact ⟨trivial, trivial⟩
          · rename_i hm0
            simp only [if_neg hm0]
            split at h
            · rename_i hc
              simp only [Option.map_eq_some_iff] at h
              obtain ⟨ds, h1, rfl⟩ := h
              rw [if_pos hc, h1]
              exact ⟨rfl, rfl⟩
            · rename_i hc
              rw [if_neg hc]
              split at h
              · rename_i hk
                simp only [Option.map_eq_some_iff] at h
                obtain ⟨ds, h1, rfl⟩ := h
                rw [if_pos hk, h1]
                exact ⟨rfl, rfl⟩
              · cases h
        · cases h
      · cases h
    · cases h
  · cases h

theorem updateE_env {t : TypeId} {c : C} {k : Value} {u : V} (h : updateE X t σ c k u = some σ') : updateE X t { σ with env := e } c k u = some { σ' with env := e } ∧ σ'.env = σ.env := by
  unfold updateE at h ⊢
  split at h
  · rename_i d et b hm
    skip
    split at h
    · rename_i es cl hb
      try simp only [hb]
      split at h
      · rename_i hck
        rw [if_pos hck]
        split at h
        · rename_i hf
          simp only [Option.map_eq_some_iff] at h
          obtain ⟨es', h1, rfl⟩ := h
          simp only [h1, Option.map_some]
          exact ⟨trivial, trivial⟩
        · rename_i hf
          simp only [Option.some.injEq] at h
          subst h
          exact ⟨rfl, rfl⟩
        · cases h
      · cases h
    · cases h
  · cases h

theorem deleteE_env {t : TypeId} {c : C} {k : Value} (h : deleteE X t σ c k = some σ') : deleteE X t { σ with env := e } c k = some { σ' with env := e } ∧ σ'.env = σ.env := by
  unfold deleteE at h ⊢
  split at h
  · rename_i d et b hm
    skip
    split at h
    · rename_i es cl hb
      try simp only [hb]
      split at h
      · rename_i hck
        rw [if_pos hck]
        simp only [Option.map_eq_some_iff] at h
        obtain ⟨es', h1, rfl⟩ := h
        rw [h1]
        exact ⟨rfl, rfl⟩
      · cases h
    · cases h
  · cases h

/-- An operation of the chain, at another frame. -/
theorem op_chain (hk : okind o = .chain) (_hc : isCall o = false) (hev : ∀ x ∈ o.op.operands.toList, ev { σ with env := e } x = ev σ x) (h : op P X fi nm o σ = some (v, σ')) :
    op P X fi nm o { σ with env := e } = some (v, { σ' with env := e }) ∧ σ'.env = σ.env := by
  cases ho : o.op with
  | store t x y =>
    simp only [op, ho] at h ⊢
    obtain ⟨ti, h1, h2⟩ := onTI_some h
    obtain ⟨c, h3, h4⟩ := onC_some h2
    obtain ⟨u, h5, h6⟩ := onV_some h4
    rw [onTI_of h1, onC_of (by rw [hev x (by simp [ho, Op.operands])]; exact h3), onV_of (by rw [hev y (by simp [ho, Op.operands])]; exact h5)]
    split at h6
    · split at h6
      · rename_i hl
        simp only [Option.map_eq_some_iff, Prod.mk.injEq] at h6
        obtain ⟨σ1, h7, rfl, rfl⟩ := h6
        obtain ⟨g1, g2⟩ := storeC_env (e := e) h7
        rw [if_pos hl, g1]
        exact ⟨rfl, g2⟩
      · cases h6
    · cases h6
  | mapUpdate t m x y =>
    simp only [op, ho] at h ⊢
    obtain ⟨c, h3, h4⟩ := onC_some h
    obtain ⟨kv, h5, h6⟩ := onV_some h4
    obtain ⟨u, h7, h8⟩ := onV_some h6
    rw [onC_of (by rw [hev m (by simp [ho, Op.operands])]; exact h3), onV_of (by rw [hev x (by simp [ho, Op.operands])]; exact h5), onV_of (by rw [hev y (by simp [ho, Op.operands])]; exact h7)]
    split at h8
    · simp only [Option.map_eq_some_iff, Prod.mk.injEq] at h8
      obtain ⟨σ1, h9, rfl, rfl⟩ := h8
      obtain ⟨g1, g2⟩ := updateE_env (e := e) h9
      rw [g1]
      exact ⟨rfl, g2⟩
    · cases h8
  | insert t m x y =>
    simp only [op, ho] at h ⊢
    obtain ⟨c, h3, h4⟩ := onC_some h
    obtain ⟨kv, h5, h6⟩ := onV_some h4
    obtain ⟨u, h7, h8⟩ := onV_some h6
    rw [onC_of (by rw [hev m (by simp [ho, Op.operands])]; exact h3), onV_of (by rw [hev x (by simp [ho, Op.operands])]; exact h5), onV_of (by rw [hev y (by simp [ho, Op.operands])]; exact h7)]
    split at h8
    · simp only [Option.map_eq_some_iff, Prod.mk.injEq] at h8
      obtain ⟨σ1, h9, rfl, rfl⟩ := h8
      obtain ⟨g1, g2⟩ := updateE_env (e := e) h9
      rw [g1]
      exact ⟨rfl, g2⟩
    · cases h8
  | call c =>
    simp only [okind, ho] at hk
    simp only [op, ho] at h ⊢
    split at h
    case h_2 => cases h
    rename_i b hb
    rw [evs_eq (σ := σ) (τ := { σ with env := e }) fun x hx => hev x (by simp [ho, Op.operands, Call.operands, hb]; simpa using hx)]
    split at h
    case h_2 => cases h
    rename_i vs hvs
    unfold builtinE at h ⊢
    split at h
    · simp [hb] at hk
    · rename_i t t' s x hts
      split at h
      case isFalse => cases h
      rename_i htt
      rw [if_pos htt]
      split at h
      case h_2 => cases h
      split at h
      case h_2 => cases h
      simp only [Option.map_eq_some_iff, Prod.mk.injEq] at h
      obtain ⟨p, hp, rfl, rfl⟩ := h
      obtain ⟨g1, g2⟩ := appendC_env (e := e) hp
      rw [g1]
      exact ⟨rfl, g2⟩
    · split at h
      case h_2 => cases h
      simp only [Option.map_eq_some_iff, Prod.mk.injEq] at h
      obtain ⟨σ1, h1, rfl, rfl⟩ := h
      obtain ⟨g1, g2⟩ := deleteE_env (e := e) h1
      rw [g1]
      exact ⟨rfl, g2⟩
    · split at h
      case h_2 => cases h
      split at h
      case h_2 => cases h
      rename_i hd hz hbk
      split at h
      · rename_i hck
        simp only [Option.map_eq_some_iff, Prod.mk.injEq] at h
        obtain ⟨cs', h1, rfl, rfl⟩ := h
        simp only [hd, hz, hbk, if_pos hck, h1, Option.map_some]
        exact ⟨trivial, trivial⟩
      · rename_i hck
        split at h
        · rename_i hl
          simp only [Option.some.injEq, Prod.mk.injEq] at h
          obtain ⟨rfl, rfl⟩ := h
          simp only [hd, hz, hbk, if_neg hck, if_pos hl]
          exact ⟨trivial, trivial⟩
        · cases h
    · cases h
  | _ => simp [okind, ho] at hk

theorem op_nm (hk : okind o = .chain) (hm : makes fi o = false) (h : op P X fi nm o σ = some (v, σ')) : op P X fi nm' o σ = some (v, σ') := by
  cases ho : o.op with
  | store t x y => simp only [op, ho] at h ⊢; exact h
  | mapUpdate t m x y => simp only [op, ho] at h ⊢; exact h
  | insert t m x y => simp only [op, ho] at h ⊢; exact h
  | call c =>
    simp only [makes, ho] at hm
    simp only [op, ho] at h ⊢
    split at h
    case h_2 => cases h
    rename_i b hb
    simp only [hb] at hm
    split at h
    case h_2 => cases h
    unfold builtinE at h ⊢
    split at h <;> first | exact h | cases hm | cases h
  | _ => simp [okind, ho] at hk

theorem makes_kind (h : makes fi o = true) : okind o = .alloc ∨ okind o = .chain := by
  unfold makes at h
  unfold okind
  cases ho : o.op <;> simp_all
  rename_i c
  cases hc : c.callee <;> simp_all
  rename_i b
  cases b <;> simp_all

/-! ### What is made -/
inductive Add where
  | box (t : Nat) (cs : List C)
  | blk (b : Nat) (x : Blk)

def Add.on : Add → St → St
  | .box t cs, σ => { σ with bx := (t, cs) :: σ.bx }
  | .blk b x, σ => { σ with h := σ.h.set b x }

def Add.free : Add → St → Prop
  | .box t _, σ => get σ.bx t = none ∧ (σ.env.any fun p => mentionsV t p.2) = false
  | .blk .., _ => True

def Add.fits (fi : Fi) (nm : Nat) (o : Oper) : Add → Prop
  | .box t _ => boxSlot fi o = some t
  | .blk b x => b = nm ∧ makes fi o = true ∧ x.rw = true

theorem newVarE_add {d : Option Nat} {cs : List C} (hmk : ∀ t, d = some t → makes fi o = !fi.prom.contains t) (hd : ∀ t, d = some t → fi.prom.contains t = true → boxSlot fi o = some t) (h : newVarE fi nm d σ cs = some (v, σ')) :
    ∃ A : Add, σ' = A.on σ ∧ A.free σ ∧ A.fits fi nm o ∧ ∀ (τ : St) (nm' : Nat), A.free τ → (nm' = nm ∨ makes fi o = false) → newVarE fi nm' d τ cs = some (v, A.on τ) := by
  unfold newVarE at h
  split at h
  · rename_i t
    cases hp : fi.prom.contains t with
    | true =>
      rw [hp, cond_true] at h
      simp only [newBox, Option.map_eq_some_iff, Prod.mk.injEq] at h
      obtain ⟨σ1, h1, rfl, rfl⟩ := h
      split at h1
      · rename_i hc
        simp only [Option.some.injEq] at h1
        subst h1
        simp only [Bool.and_eq_true, Bool.not_eq_true', Option.isNone_iff_eq_none] at hc
        obtain ⟨⟨hok, hfree⟩, hm⟩ := hc
        refine ⟨.box t cs, rfl, ⟨hfree, hm⟩, hd t rfl hp, fun τ nm' hτ _ => ?_⟩
        simp only [newVarE, hp, cond_true, newBox, hok, hτ.1, hτ.2, Option.isNone_none, Bool.not_false, Bool.and_self, if_true, Option.map_some]
        rfl
      · cases h1
    | false =>
      rw [hp, cond_false] at h
      simp only [newRowH, Option.map_eq_some_iff, Prod.mk.injEq] at h
      obtain ⟨σ1, h1, rfl, rfl⟩ := h
      split at h1
      · rename_i hok
        simp only [Option.some.injEq] at h1
        subst h1
        refine ⟨.blk nm (.row true 0 cs), rfl, trivial, ⟨rfl, by rw [hmk t rfl, hp]; rfl, rfl⟩, fun τ nm' _ hn => ?_⟩
        rcases hn with rfl | hn
        case inr => rw [hmk t rfl, hp] at hn; cases hn
        simp only [newVarE, hp, cond_false, newRowH, if_pos hok, Option.map_some]
        rfl
      · cases h1
  · cases h

theorem newRowH_add {sz : Nat} {cs : List C} (h : newRowH σ nm sz cs = some σ') : ∃ x, σ' = (Add.blk nm x).on σ ∧ x.rw = true ∧ ∀ τ : St, newRowH τ nm sz cs = some ((Add.blk nm x).on τ) := by
  unfold newRowH at h
  split at h
  · rename_i hok
    simp only [Option.some.injEq] at h
    subst h
    exact ⟨.row true sz cs, rfl, rfl, fun τ => by simp only [newRowH, if_pos hok]; rfl⟩
  · cases h

/-- An operation that makes something, at another state. -/
theorem op_adds (hk : okind o = .alloc) (h : op P X fi nm o σ = some (v, σ')) : ∃ A : Add, σ' = A.on σ ∧ A.free σ ∧ A.fits fi nm o ∧
    ∀ (τ : St) (nm' : Nat), (∀ x ∈ o.op.operands.toList, ev τ x = ev σ x) → A.free τ → (nm' = nm ∨ makes fi o = false) → op P X fi nm' o τ = some (v, A.on τ) := by
  cases ho : o.op with
  | alloc t =>
    simp only [op, ho] at h ⊢
    obtain ⟨ti, h1, h2⟩ := onTI_some h
    split at h2
    · rename_i cs hcs
      split at h2
      · rename_i hl
        obtain ⟨A, g1, g2, g3, g4⟩ := newVarE_add (o := o) (fun t ht => by simp [makes, ho, ht]) (fun t ht hp => by simp only [boxSlot, ho, ht, hp, cond_true]) h2
        refine ⟨A, g1, g2, g3, fun τ nm' _ hf hn => ?_⟩
        rw [onTI_of h1, hcs]
        simp only [if_pos hl]
        exact g4 τ nm' hf hn
      · cases h2
    · cases h2
  | box t x =>
    simp only [op, ho] at h ⊢
    obtain ⟨u, h1, h2⟩ := onV_some h
    split at h2
    · rename_i cs hcs
      obtain ⟨A, g1, g2, g3, g4⟩ := newVarE_add (o := o) (fun t ht => by simp [makes, ho, ht]) (fun t ht hp => by simp only [boxSlot, ho, ht, hp, cond_true]) h2
      refine ⟨A, g1, g2, g3, fun τ nm' hev hf hn => ?_⟩
      rw [onV_of (by rw [hev x (by simp [Op.operands])]; exact h1), hcs]
      exact g4 τ nm' hf hn
    · cases h2
  | buildSlice t n ps =>
    simp only [op, ho] at h ⊢
    split at h
    case h_2 => cases h
    rename_i et vs st het hvs hst
    split at h
    case h_2 => cases h
    rename_i el z hd hz
    split at h
    case isFalse => cases h
    rename_i hck
    split at h
    case h_2 => cases h
    rename_i cs hcs
    simp only [Option.map_eq_some_iff, Prod.mk.injEq] at h
    obtain ⟨σ1, h1, rfl, rfl⟩ := h
    obtain ⟨x, rfl, hx, g⟩ := newRowH_add h1
    refine ⟨.blk nm x, rfl, trivial, ⟨rfl, by simp [makes, ho], hx⟩, fun τ nm' hev _ hn => ?_⟩
    rcases hn with rfl | hn
    case inr => simp [makes, ho] at hn
    rw [evParts_eq (σ := σ) (τ := τ) fun x hx => hev x (by simpa [Op.operands] using hx), hvs]
    simp only [het, hst, hd, hz, if_pos hck, hcs, g τ, Option.map_some]
  | makeSlice t l c =>
    simp only [op, ho] at h ⊢
    obtain ⟨u, h1, h2⟩ := onV_some h
    obtain ⟨u', h3, h4⟩ := onV_some h2
    split at h4
    case h_2 => cases h4
    rename_i et st n m het hst
    split at h4
    case h_2 => cases h4
    rename_i el hd
    unfold makeSliceE at h4
    split at h4
    case h_2 => cases h4
    rename_i z hz
    split at h4
    case isFalse => cases h4
    rename_i hck
    simp only [Option.map_eq_some_iff, Prod.mk.injEq] at h4
    obtain ⟨σ1, h5, rfl, rfl⟩ := h4
    obtain ⟨x, rfl, hx, g⟩ := newRowH_add h5
    refine ⟨.blk nm x, rfl, trivial, ⟨rfl, by simp [makes, ho], hx⟩, fun τ nm' hev _ hn => ?_⟩
    rcases hn with rfl | hn
    case inr => simp [makes, ho] at hn
    rw [onV_of (by rw [hev l (by simp [Op.operands])]; exact h1), onV_of (by rw [hev c (by simp [Op.operands])]; exact h3)]
    simp only [het, hst, hd, makeSliceE, hz, if_pos hck, g τ, Option.map_some]
  | makeMap t r =>
    cases r with
    | none =>
      simp only [op, ho, Option.some.injEq, Prod.mk.injEq] at h ⊢
      obtain ⟨rfl, rfl⟩ := h
      exact ⟨.blk nm (.map [] 0), rfl, trivial, ⟨rfl, by simp [makes, ho], rfl⟩, fun τ nm' _ _ hn => by
        rcases hn with rfl | hn
        · exact ⟨rfl, rfl⟩
        · simp [makes, ho] at hn⟩
    | some r => simp [op, ho] at h
  | call c =>
    simp only [okind, ho] at hk
    split at hk <;> cases hk
  | _ => simp [okind, ho] at hk

theorem callee_eq (hev : ∀ x ∈ o.op.operands.toList, ev τ x = ev σ x) : callee τ o = callee σ o := by
  unfold callee
  cases ho : o.op <;> simp only
  rename_i c
  cases hc : c.callee <;> simp only
  rename_i f
  have h1 : ev τ f = ev σ f := hev f (by simp [ho, Op.operands, Call.operands, hc])
  have h2 : evs τ c.args.toList = evs σ c.args.toList := evs_eq fun x hx => hev x (by simp [ho, Op.operands, Call.operands, hc]; right; simpa using hx)
  rw [h1, h2]

theorem wanted_eq {ops : List Oper} (h : ∀ j want oj t, o.guard = some (j, want) → ops[j]? = some oj → oj.dst = some t → get τ.env t = get σ.env t) : wanted ops o τ = wanted ops o σ := by
  unfold wanted
  cases hg : o.guard with
  | none => rfl
  | some p =>
    obtain ⟨j, want⟩ := p
    cases hj : ops[j]? with
    | none => simp only [hj]
    | some oj =>
      cases ht : oj.dst with
      | none => simp only [hj, ht]
      | some t => simp only [hj, ht, h j want oj t hg hj ht]
end
end E
end Go.Proofs.Ytfibbhmmiemcoaa
