/-
  An abstract machine of this place's own: a function's call. No condition.
-/
import Derived.Test.YtnfehccnofhmnaaMN2
import Derived.Orders
set_option linter.all false
namespace Go.Proofs.Ytnfehccnofhmnaa
open Go.RowKit
namespace E

def argsEnv : Nat → List V → List (Nat × V)
  | _, [] => []
  | k, v :: vs => (k, v) :: argsEnv (k + 1) vs

def res1 (X : Ctx) (σ : St) : ResultVar → Option V
  | .tmp t => get σ.env t
  | .cell t ty => match get σ.env t, X.tt ty with
    | some (.one c), some ti => load ti σ c
    | _, _ => none

def resL (X : Ctx) (σ : St) : List ResultVar → Option (List V)
  | [] => some []
  | r :: rs => match res1 X σ r, resL X σ rs with
    | some v, some vs => some (v :: vs)
    | _, _ => none

def V.isTup : V → Bool
  | .tup _ => true
  | _ => false

def resE (X : Ctx) (σ : St) (rs : List ResultVar) : Option V :=
  match resL X σ rs with
  | some [v] => if v.loose then some v else none
  | some vs => if vs.all (fun v => v.loose && !v.isTup) then some (.tup vs) else none
  | none => none

/-- The heap that is left has nothing that the state's has not. -/
def Sub (h' h : Heap) : Prop := h.next ≤ h'.next ∧ ∀ b x, h'.get b = some x → h.get b = some x

theorem Sub.refl (h : Heap) : Sub h h := ⟨Nat.le_refl _, fun _ _ h => h⟩

section sound
variable {P : Program} {X : Ctx} {fi : Fi} {N N' nm : Nat} {β : Pls} {μ : Fms} {nt : Nat} {σ σ' : St} {a : Act} {w : World} {v : V} {D : Nat → List Oper → St → (St → Prop) → Prop}

theorem load_ok (hT : TtOk P X) (hS : SRel N β μ nt σ a w) {t : TypeId} {ti : TI} (h1 : X.tt t = some ti) {c : C} {x : Value} (hc : CRel β μ c x) (h : load ti σ c = some v) :
    ∃ r k y, x = .pointer (some ⟨r, k, none⟩) ∧ (loadVar t ⟨r, k, none⟩).run P w = .ok y w ∧ VRel β μ v y := by
  obtain ⟨i, hi, hs, hb, hz, hu⟩ := tt_info hT h1
  simp only [load, Option.bind_eq_some_iff] at h
  obtain ⟨cs, h5, h6⟩ := h
  obtain ⟨r, k, xs, hptr, hlen, hrange, hall⟩ := lies hS h5
  have hx := hptr _ hc
  have hall' : All2 (CRel β μ) cs xs := hall.mono fun c _ y hc => hc.up (fun _ _ h => h) fun t r ht hn => by cases hn
  cases hd : isAggD ti.desc with
  | true =>
    rw [hd] at h6
    simp only [mkV, Option.some.injEq] at h6
    subst h6
    have hrow : ti.desc.isRow = true := by cases hq : ti.desc <;> simp_all [isAggD, TypeDesc.isRow]
    have := run_loadVar_mid (P := P) w r k t xs ti.desc hrange hu hrow (by rw [hi]; simp only [Option.map_some, Option.some.injEq]; rw [hs, hlen, sizeV, if_pos hd])
    exact ⟨r, k, _, hx, this, xs.toArray, rfl, by simpa using hall'⟩
  | false =>
    have h1' : sizeV ti = 1 := by simp [sizeV, hd]
    rw [h1'] at hlen
    rw [hd] at h6
    match xs, hlen, cs, hall', h6 with
    | [y], _, [c'], hall', h6 =>
      simp only [mkV, Option.some.injEq] at h6
      subst h6
      have := run_load_one (P := P) hu hd (hrange 0 y rfl)
      simp only [Nat.add_zero] at this
      exact ⟨r, k, y, hx, this, hall'.1⟩

def resSem (tmps : Array Value) : ResultVar → Sem Value
  | .tmp t => pure (tmps.getD t undef)
  | .cell p t => asAddr (tmps.getD p undef) >>= fun x => loadVar t x

theorem results_eq (fn : Func) (tmps : Array Value) : results fn tmps = (Functor.map List.toArray (fn.results.toList.mapM (resSem tmps))) >>= fun vs => pure (if h : vs.size = 1 then vs[0] else .tuple vs) := by
  unfold results
  rw [← Array.mapM_eq_mapM_toList]
  congr 1

theorem res1_ok (hT : TtOk P X) (hS : SRel N β μ nt σ a w) {r : ResultVar} (h : res1 X σ r = some v) :
    ∃ y, (resSem a.tmps r).run P w = .ok y w ∧ VRel β μ v y := by
  cases r with
  | tmp t =>
    obtain ⟨x, h1, h2⟩ := hS.env t v h
    exact ⟨x, by simp [resSem, h1], h2⟩
  | cell p t =>
    simp only [res1] at h
    split at h
    · rename_i c ti hc hti
      obtain ⟨x, h1, h2⟩ := hS.env p _ hc
      obtain ⟨r, k, y, rfl, h4, h5⟩ := load_ok (P := P) hT hS hti h2 h
      exact ⟨y, by simp [resSem, h1, asAddr, h4], h5⟩
    · cases h

theorem resL_ok (hT : TtOk P X) (hS : SRel N β μ nt σ a w) : ∀ {rs : List ResultVar} {vs : List V}, resL X σ rs = some vs →
    ∃ ys, (rs.mapM (resSem a.tmps)).run P w = .ok ys w ∧ All2 (VRel β μ) vs ys
  | [], vs, h => by simp only [resL, Option.some.injEq] at h; subst h; exact ⟨[], rfl, trivial⟩
  | r :: rs, vs, h => by
    simp only [resL] at h
    split at h
    · rename_i u us h1 h2
      simp only [Option.some.injEq] at h
      subst h
      obtain ⟨y, g1, g2⟩ := res1_ok (P := P) hT hS h1
      obtain ⟨ys, g3, g4⟩ := resL_ok hT hS h2
      refine ⟨y :: ys, ?_, g2, g4⟩
      rw [List.mapM_cons]
      simp only [Sem.run_bind, g1, Result.andThen_ok, g3]
      rfl
    · cases h

theorem resE_ok (hT : TtOk P X) (hS : SRel N β μ nt σ a w) {fn : Func} (h : resE X σ fn.results.toList = some v) : ∃ y, (results fn a.tmps).run P w = .ok y w ∧ VRel β noF v y := by
  unfold resE at h
  have fin : ∀ {vs : List V}, resL X σ fn.results.toList = some vs → ∃ ys : List Value, (results fn a.tmps).run P w = .ok (if h : ys.toArray.size = 1 then ys.toArray[0] else .tuple ys.toArray) w ∧ All2 (VRel β μ) vs ys := fun hvs => by
    obtain ⟨ys, g1, g2⟩ := resL_ok (P := P) hT hS hvs
    refine ⟨ys, ?_, g2⟩
    rw [results_eq]
    simp only [Sem.run_bind]
    have : (Functor.map List.toArray (fn.results.toList.mapM (resSem a.tmps))).run P w = .ok ys.toArray w := by
      simp [g1]
    rw [this]
    rfl
  split at h
  · rename_i u hvs
    split at h
    · rename_i hl
      simp only [Option.some.injEq] at h
      subst h
      obtain ⟨ys, g1, g2⟩ := fin hvs
      obtain ⟨y, rfl, g3⟩ := g2.one
      exact ⟨y, by simpa using g1, g3.loose hl⟩
    · cases h
  · rename_i vs hne hvs
    split at h
    · rename_i hl
      simp only [Option.some.injEq] at h
      subst h
      obtain ⟨ys, g1, g2⟩ := fin hvs
      have hlen := g2.length
      have h1 : ¬ ys.toArray.size = 1 := fun h1 => by
        simp at h1
        match vs, hlen with
        | [x], _ => exact hne x rfl
        | [], hlen => simp at hlen; omega
        | _ :: _ :: _, hlen => simp at hlen; omega
      rw [dif_neg h1] at g1
      refine ⟨_, g1, ys.toArray, rfl, ?_⟩
      refine All2.mono (R := VRel β μ) (by simpa using g2) fun u hu y hy => ?_
      have := List.all_eq_true.1 hl u hu
      simp only [Bool.and_eq_true, Bool.not_eq_true'] at this
      have hy' := hy.loose this.1
      cases u with
      | one c => exact hy'
      | agg cs => exact hy'
      | tup _ => simp [V.isTup] at this
    · cases h
  · cases h

theorem argsEnv_get : ∀ (vs : List V) (k t : Nat) {v : V}, get (argsEnv k vs) t = some v → k ≤ t ∧ vs[t - k]? = some v
  | [], k, t, v, h => by simp [argsEnv, get] at h
  | u :: vs, k, t, v, h => by
    rw [argsEnv, get_cons] at h
    split at h
    · rename_i hk
      subst hk
      simp only [Option.some.injEq] at h
      subst h
      simp
    · rename_i hk
      obtain ⟨h1, h2⟩ := argsEnv_get vs (k + 1) t h
      refine ⟨by omega, ?_⟩
      rw [show t - k = (t - (k + 1)) + 1 by omega]
      simpa using h2

/-- A call, out of what holds behind the function's code. -/
theorem acall (hT : TtOk P X) (hF : FlatOk P X) (hD : DrawOk P fi D) {f : FuncId} {fn : Func} {c : Code} (hf : P.funcs[f]? = some fn) (hb : fn.body = some c) (hn : fn.name ≠ "runtime.NumGoroutine") (hnt : fi.nt = fn.ntmps)
    {args : List V} (hargs : args.length ≤ fn.ntmps) {h h' : Heap} (hle : h.next ≤ h'.next)
    (hw : WP P X fi D c ⟨argsEnv 0 args, [], h⟩ fun e σ' => (e = .norm ∨ e = .ret) ∧ resE X σ' fn.results.toList = some v ∧ Sub h' σ'.h) : ACall P f args h v h' := by
  refine ⟨hle, ⟨fn, hf, by simp [hb], hn⟩, fun β w xs hH hxs => ?_⟩
  have hlen := hxs.length
  refine calls_of_wp hf hb ?_
  have hS : SRel h.next β noF fi.nt ⟨argsEnv 0 args, [], h⟩ { tmps := xs.toArray ++ Array.replicate (fn.ntmps - xs.toArray.size) undef, defers := [] } w := by
    refine ⟨hH, ?_, rfl, fun t u ht => ?_, fun t cs ht => by simp [get] at ht, fun t t' cs cs' r _ ht => by simp [get] at ht, fun t cs b x p ht => by simp [get] at ht⟩
    · simp
      omega
    · obtain ⟨_, h2⟩ := argsEnv_get args 0 t ht
      obtain ⟨x, h3, h4⟩ := hxs.get h2
      have hlt := (List.getElem?_eq_some_iff.1 h3).1
      refine ⟨x, ?_, h4⟩
      simp only [Nat.sub_zero] at h3 hlt
      rw [Array.getElem?_append_left (by simpa using hlt)]
      simpa using h3
  refine Go.wp_mono (WP_sound hT hF hD c _ _ β noF _ w hw hS) fun e a' w' he => ?_
  obtain ⟨ex, σ', β', μ', h1, ⟨h2, h3, h4⟩, h5, h6, h7, h8⟩ := he
  obtain ⟨y, g1, g2⟩ := resE_ok (P := P) hT h5 h3
  have fin : ∃ x β', Ending.returned y = .returned x ∧ VRel β' noF v x ∧ HRel h'.next β' h' w' ∧ Step β noF ⟨[], [], h⟩ w β' noF ⟨[], [], h'⟩ w' ∧ ∀ b, b < h.next → β' b = β b := by
    refine ⟨y, β', rfl, g2, ⟨fun b hb => h5.heap.fresh b (Nat.le_trans h4.1 hb), fun b x hx => h5.heap.blk b x (h4.2 b x hx), fun b b' x x' p p' e0 e1 e2 => h5.heap.apart b b' x x' p p' e0 (h4.2 b x e1) (h4.2 b' x' e2)⟩,
      ⟨h6.ext, h6.os, h6.tape, h6.output, h6.size, fun r hr hn => h6.fr r hr fun hm => hn ?_, fun r hm => (h6.own r ?_).imp ?_ id, fun b x p e1 e2 => h6.blks b x p (h4.2 b x e1) e2⟩, h8⟩
    · rcases hm with g | ⟨t, cs, g1, g2⟩
      · exact .inl g
      · simp [get] at g1
    · rcases hm with ⟨b, x, p, e1, e2⟩ | ⟨t, cs, g1, g2⟩
      · exact .inl ⟨b, x, p, h4.2 b x e1, e2⟩
      · simp [get] at g1
    · intro hm
      rcases hm with g | ⟨t, cs, g1, g2⟩
      · exact .inl g
      · simp [get] at g1
  cases e <;> cases ex <;> simp only [ExRel] at h1
  · exact ⟨h5.defers, y, g1, fin⟩
  · rcases h2 with h2 | h2 <;> cases h2
  · exact ⟨h5.defers, y, g1, fin⟩
end sound
end E
end Go.Proofs.Ytnfehccnofhmnaa

/-
  An abstract machine of this place's own: regions that draw their order, said; a run that computes. No condition.
-/
namespace Go.Proofs.Ytnfehccnofhmnaa
open Go.RowKit
namespace E

/-! ### Kinds of operation, for an order that is drawn -/
inductive OK where
  | pure | read | alloc | chain
  deriving DecidableEq

def okind (o : Oper) : OK :=
  match o.op with
  | .load .. | .lookup .. | .slice .. => .read
  | .alloc _ | .box .. | .buildSlice .. | .makeSlice .. | .makeMap .. => .alloc
  | .store .. | .mapUpdate .. | .insert .. => .chain
  | .call c => match c.callee with
    | .builtin .len => .read
    | _ => .chain
  | _ => .pure

/-- A reading that has to come to the same at other times of the region. -/
structure Rd where
  o : Oper
  env : List (Nat × V)
  v : V
  lo : Nat
  hi : Nat

abbrev Mem := List (Nat × List C) × Heap

def winOf : List (Nat × Nat × Nat) → Nat → Option (Nat × Nat)
  | [], _ => none
  | (k, lo, hi) :: l, i => cond (Nat.beq k i) (some (lo, hi)) (winOf l i)

section
variable (P : Program) (X : Ctx) (fi : Fi)

def readAt (r : Rd) (m : Mem) : Option V := (op P X fi 0 r.o ⟨r.env, m.1, m.2⟩).map (·.1)

/-- The readings come to the same: B: the memory behind each of the chain's operations, the newest first. -/
def RdOk (B : List Mem) (r : Rd) : Prop := ∀ k m, r.lo ≤ k → k ≤ r.hi → B.reverse[k]? = some m → readAt P X fi r m = some r.v

def nmOf (fi : Fi) (o : Oper) (nm : Nat) : Nat := cond (makes fi o) (nm + 1) nm

/-- Of a region that draws: an order of its operations, and the readings that stand between others. -/
abbrev Win := List Nat × List (Nat × Nat × Nat)

def wpDrawL (ops : List Oper) (wins : List (Nat × Nat × Nat)) : List Nat → Nat → List Mem → List Rd → St → (St → Prop) → Prop
  | [], _, B, R, σ, K => (∀ r, r ∈ R → RdOk P X fi B r) ∧ K σ
  | i :: l, nm, B, R, σ, K =>
    match ops[i]? with
    | none => False
    | some o =>
      match wanted ops o σ with
      | some false => ∃ σ', put fi o.dst undefC σ = some σ' ∧ wpDrawL ops wins l (nmOf fi o nm) (if okind o = .chain then (σ.bx, σ.h) :: B else B) R σ' K
      | some true =>
        if isCall o then ∃ f args v h' σ', callee σ o = some (f, args) ∧ args.all V.loose = true ∧ ACall P f args σ.h v h' ∧ put fi o.dst v { σ with h := h' } = some σ' ∧ wpDrawL ops wins l nm ((σ.bx, h') :: B) R σ' K
        else ∃ v σ1 σ', op P X fi nm o σ = some (v, σ1) ∧ put fi o.dst v σ1 = some σ' ∧
          wpDrawL ops wins l (nmOf fi o nm) (if okind o = .chain then (σ1.bx, σ1.h) :: B else B) (match winOf wins i with | some (lo, hi) => ⟨o, σ.env, v, lo, hi⟩ :: R | none => R) σ' K
      | none => False

def countMk (fi : Fi) (ops : List Oper) : List Nat → Nat
  | [] => 0
  | i :: l => match ops[i]? with
    | some o => cond (makes fi o) (countMk fi ops l + 1) (countMk fi ops l)
    | none => countMk fi ops l

def ordOf (w : Option Win) (n : Nat) : List Nat :=
  match w with
  | some ([], _) | none => List.range n
  | some (l, _) => l

def winsOf (w : Option Win) : List (Nat × Nat × Nat) :=
  match w with
  | some (_, l) => l
  | none => []

/-! ### What an order has to keep -/
/-- An operation laid into an order: its place in the text, the mask of those ahead of it, how many of the chain may stand ahead of it at most (a reading), whether nothing may be made between. -/
structure SI where
  i : Nat
  m : Nat
  o : Oper
  hi : Nat
  tight : Bool

def siFind : List SI → Nat → Option SI
  | [], _ => none
  | s :: l, i => cond (Nat.beq s.i i) (some s) (siFind l i)

def ancOf (done : List SI) : List Edge → Option Nat
  | [] => some 0
  | e :: es => cond (Region.binds .any e)
      (match siFind done e.on, ancOf done es with
        | some s, some m => some (m ||| (s.m ||| 1 <<< e.on))
        | _, _ => none)
      (ancOf done es)

def memN (t : Nat) : List Nat → Bool
  | [] => false
  | x :: l => Nat.beq x t || memN t l

def tmpsOf : List Operand → List Nat
  | [] => []
  | .tmp t :: l => t :: tmpsOf l
  | _ :: l => tmpsOf l

/-- The slots an operation looks at. -/
def looksE (ops : List Oper) (o : Oper) : List Nat :=
  (match o.guard with
    | some (g, _) => match ops[g]? with
      | some og => match og.dst with
        | some t => [t]
        | none => []
      | none => []
    | none => []) ++ tmpsOf o.op.operands.toList

def dstIn (d : Option Nat) (l : List Nat) : Bool :=
  match d with
  | some t => memN t l
  | none => false

def dstEq : Option Nat → Option Nat → Bool
  | some a, some b => Nat.beq a b
  | _, _ => false

def apartB (ops : List Oper) (x y : Oper) : Bool := !dstIn x.dst (looksE ops y) && !dstIn y.dst (looksE ops x) && !dstEq x.dst y.dst

def OK.isChain : OK → Bool
  | .chain => true
  | _ => false
def OK.isAlloc : OK → Bool
  | .alloc => true
  | _ => false

/-- Two operations, s laid ahead of t; c: how many of the chain are laid ahead of t. -/
def pairOk (ops : List Oper) (t : SI) (c : Nat) (s : SI) : Bool :=
  (!((okind s.o).isAlloc || (okind t.o).isAlloc) || !dstEq s.o.dst t.o.dst) &&
  (Nat.testBit t.m s.i || (apartB ops s.o t.o && (match okind t.o with
    | .chain => match okind s.o with
      | .chain | .alloc => false
      | .read => Nat.blt c s.hi
      | .pure => true
    | .read => !(t.tight && (okind s.o).isAlloc)
    | _ => true)))

def chainAnc (m : Nat) : List SI → Nat
  | [] => 0
  | s :: l => cond ((okind s.o).isChain && Nat.testBit m s.i) (chainAnc m l + 1) (chainAnc m l)

/-- The bounds of a reading: of the chain's operations, how many stand ahead of it at least, at most; whether nothing may be made between. -/
def boundsOf (wins : List (Nat × Nat × Nat)) (i c : Nat) : Nat × Nat × Bool :=
  match winOf wins i with
  | some (lo, hi) => (lo, hi, false)
  | none => (c, c, true)

def readOk (o : Oper) (lo hi c n : Nat) : Bool :=
  match okind o with
  | .read => Nat.ble lo n && Nat.ble c hi
  | _ => true

def regGo (ops : List Oper) (wins : List (Nat × Nat × Nat)) : List Nat → List SI → Nat → Bool
  | [], _, _ => true
  | i :: l, done, c => match ops[i]? with
    | none => false
    | some o => match ancOf done o.after.toList with
      | none => false
      | some m => (siFind done i).isNone && done.all (pairOk ops ⟨i, m, o, (boundsOf wins i c).2.1, (boundsOf wins i c).2.2⟩ c) &&
        readOk o (boundsOf wins i c).1 (boundsOf wins i c).2.1 c (chainAnc m done) &&
        regGo ops wins l (⟨i, m, o, (boundsOf wins i c).2.1, (boundsOf wins i c).2.2⟩ :: done) (cond (okind o).isChain (c + 1) c)

def regOk (w : Option Win) (ops : List Oper) : Bool :=
  (List.range ops.length).all (fun i => memN i (ordOf w ops.length)) && Nat.ble (ordOf w ops.length).length ops.length && regGo ops (winsOf w) (ordOf w ops.length) [] 0

def boxSlot (fi : Fi) (o : Oper) : Option Nat :=
  match o.op with
  | .alloc _ | .box .. => match o.dst with
    | some t => cond (fi.prom.contains t) (some t) none
    | none => none
  | _ => none

def startOk (fi : Fi) (ops : List Oper) (σ : St) : Bool := ops.all fun o => match boxSlot fi o with
  | some t => (get σ.bx t).isNone && !(σ.env.any fun p => mentionsV t p.2)
  | none => true

/-- What holds behind a region that draws its order. -/
def wpDraw (wins : List (Nat × Win)) (id : Nat) (ops : List Oper) (σ : St) (K : St → Prop) : Prop :=
  regOk (get wins id) ops = true ∧ startOk fi ops σ = true ∧
  wpDrawL P X fi ops (winsOf (get wins id)) (ordOf (get wins id) ops.length) σ.h.next [(σ.bx, { σ.h with next := σ.h.next + countMk fi ops (ordOf (get wins id) ops.length) })] [] { σ with h := { σ.h with next := σ.h.next + countMk fi ops (ordOf (get wins id) ops.length) } } K

/-! ### A run -/
variable (Γ : FuncId → List V → Heap → Option (V × Heap))

def C.beq : C → C → Bool
  | .lit (.int j a), .lit (.int k b) => decide (j = k) && decide (a = b)
  | .lit (.bool a), .lit (.bool b) => a == b
  | .lit (.string a), .lit (.string b) => strEq a b
  | .lit (.pointer none), .lit (.pointer none) => true
  | .lit (.slice none 0 0), .lit (.slice none 0 0) => true
  | .lit (.map none), .lit (.map none) => true
  | .lit .nilFunc, .lit .nilFunc => true
  | .ptr b k, .ptr c l => Nat.beq b c && Nat.beq k l
  | .lp b k, .lp c l => Nat.beq b c && Nat.beq k l
  | .sl b k m n, .sl c l p q => Nat.beq b c && Nat.beq k l && Nat.beq m p && Nat.beq n q
  | .mp b, .mp c => Nat.beq b c
  | .fn f [], .fn g [] => Nat.beq f g
  | _, _ => false

def cellsBeq : List C → List C → Bool
  | [], [] => true
  | x :: xs, y :: ys => C.beq x y && cellsBeq xs ys
  | _, _ => false

def V.beq : V → V → Bool
  | .one a, .one b => C.beq a b
  | .agg a, .agg b => cellsBeq a b
  | _, _ => false

def runOps (ops : List Oper) : List Oper → St → Option St
  | [], σ => some σ
  | o :: l, σ =>
    match wanted ops o σ with
    | some false => match put fi o.dst undefC σ with
      | some σ' => runOps ops l σ'
      | none => none
    | some true => cond (isCall o)
      (match callee σ o with
        | some (f, args) => cond (args.all V.loose)
          (match Γ f args σ.h with
            | some (v, h') => match put fi o.dst v { σ with h := h' } with
              | some σ' => runOps ops l σ'
              | none => none
            | none => none) none
        | none => none)
      (match op P X fi σ.h.next o σ with
        | some (v, σ1) => match put fi o.dst v { σ1 with h := bump fi o σ1.h } with
          | some σ' => runOps ops l σ'
          | none => none
        | none => none)
    | none => none

def rdOkB (B : List Mem) (r : Rd) : Bool := (((B.reverse.take (r.hi + 1)).drop r.lo)).all fun m => match readAt P X fi r m with
  | some v => V.beq v r.v
  | none => false

def runDrawL (ops : List Oper) (wins : List (Nat × Nat × Nat)) : List Nat → Nat → List Mem → List Rd → St → Option St
  | [], _, B, R, σ => cond (R.all (rdOkB P X fi B)) (some σ) none
  | i :: l, nm, B, R, σ =>
    match ops[i]? with
    | none => none
    | some o =>
      match wanted ops o σ with
      | some false => match put fi o.dst undefC σ with
        | some σ' => runDrawL ops wins l (nmOf fi o nm) (if okind o = .chain then (σ.bx, σ.h) :: B else B) R σ'
        | none => none
      | some true => cond (isCall o)
        (match callee σ o with
          | some (f, args) => cond (args.all V.loose)
            (match Γ f args σ.h with
              | some (v, h') => match put fi o.dst v { σ with h := h' } with
                | some σ' => runDrawL ops wins l nm ((σ.bx, h') :: B) R σ'
                | none => none
              | none => none) none
          | none => none)
        (match op P X fi nm o σ with
          | some (v, σ1) => match put fi o.dst v σ1 with
            | some σ' => runDrawL ops wins l (nmOf fi o nm) (if okind o = .chain then (σ1.bx, σ1.h) :: B else B) (match winOf wins i with | some (lo, hi) => ⟨o, σ.env, v, lo, hi⟩ :: R | none => R) σ'
            | none => none
          | none => none)
      | none => none

def runLoop (f : St → Option (Ex × St)) : Nat → St → Option (Ex × St)
  | 0, _ => none
  | n + 1, σ => match f σ with
    | some (.norm, σ') => runLoop f n σ'
    | r => r

def runC (wins : List (Nat × Win)) (n : Nat) : Code → St → Option (Ex × St)
  | .skip, σ => some (.norm, σ)
  | .ret, σ => some (.ret, σ)
  | .exit id, σ => some (.exit id, σ)
  | .seq a b, σ => match runC wins n a σ with
    | some (.norm, σ') => runC wins n b σ'
    | r => r
  | .cond c a b, σ => match ev σ c with
    | some (.one (.lit (.bool true))) => runC wins n a σ
    | some (.one (.lit (.bool false))) => runC wins n b σ
    | _ => none
  | .block id c, σ => match runC wins n c σ with
    | some (.exit id', σ') => cond (Nat.beq id' id) (some (.norm, σ')) (some (.exit id', σ'))
    | r => r
  | .loop c, σ => runLoop (runC wins n c) n σ
  | .region id ops draw, σ => match (cond draw
      (cond (startOk fi ops.toList σ) (runDrawL P X fi Γ ops.toList (winsOf (get wins id)) (ordOf (get wins id) ops.toList.length) σ.h.next [(σ.bx, { σ.h with next := σ.h.next + countMk fi ops.toList (ordOf (get wins id) ops.toList.length) })] [] { σ with h := { σ.h with next := σ.h.next + countMk fi ops.toList (ordOf (get wins id) ops.toList.length) } }) none)
      (runOps P X fi Γ ops.toList ops.toList σ)) with
    | some σ' => some (.norm, clean fi id σ')
    | none => none
  | _, _ => none
end

/-- Every region of a code that draws its order keeps what it has to. -/
def codeOk (wins : List (Nat × Win)) : Code → Bool
  | .seq a b => codeOk wins a && codeOk wins b
  | .cond _ a b => codeOk wins a && codeOk wins b
  | .block _ c => codeOk wins c
  | .loop c => codeOk wins c
  | .region id ops draw => !draw || regOk (get wins id) ops.toList
  | _ => true

/-- What the machine is told of a function. -/
structure Fn where
  fi : Fi
  wins : List (Nat × Win)
  body : Code
  res : List ResultVar
  keep : Bool

/-- The blocks that stay: those of the caller, and, if so said, the callee's. -/
def dropH (keep : Bool) (h h' : Heap) : Heap := cond keep h' { h' with bs := h'.bs.filter fun p => Nat.blt p.1 h.next }

def callN (P : Program) (X : Ctx) (F : FuncId → Option Fn) (loops : Nat) : Nat → FuncId → List V → Heap → Option (V × Heap)
  | 0, _, _, _ => none
  | n + 1, f, args, h =>
    match F f with
    | some fn => match runC P X fn.fi (callN P X F loops n) fn.wins loops fn.body ⟨argsEnv 0 args, [], h⟩ with
      | some (.norm, σ) | some (.ret, σ) => cond (Nat.ble h.next σ.h.next && Nat.ble args.length fn.fi.nt) ((resE X σ fn.res).map fun v => (v, dropH fn.keep h σ.h)) none
      | _ => none
    | none => none
end E
end Go.Proofs.Ytnfehccnofhmnaa

/-
  An abstract machine of this place's own: on what an operation hangs: its operands, and what it reads. No condition.
-/
namespace Go.Proofs.Ytnfehccnofhmnaa
open Go.RowKit
namespace E

/-- One memory holds what another one holds. -/
def MemLe (σ τ : St) : Prop := (∀ t cs, get σ.bx t = some cs → get τ.bx t = some cs) ∧ (∀ b x, σ.h.get b = some x → τ.h.get b = some x)

section
variable {P : Program} {X : Ctx} {fi : Fi} {nm nm' : Nat} {σ τ σ' : St} {o : Oper} {v : V}

theorem onV_of {x : Operand} {u : V} {k : V → Option (V × St)} (h : ev τ x = some u) : onV τ x k = k u := by simp [onV, h]
theorem onC_of {x : Operand} {c : C} {k : C → Option (V × St)} (h : ev τ x = some (.one c)) : onC τ x k = k c := by simp [onC, h]
theorem onTI_of {t : TypeId} {ti : TI} {k : TI → Option (V × St)} (h : X.tt t = some ti) : onTI X t k = k ti := by simp [onTI, h]

theorem loadC_mono (hm : MemLe σ τ) {c : C} {n : Nat} {cs : List C} (h : loadC σ c n = some cs) : loadC τ c n = some cs := by
  unfold loadC at h ⊢
  split at h
  · rename_i t k
    simp only [Option.bind_eq_some_iff] at h ⊢
    obtain ⟨bs, h1, h2⟩ := h
    exact ⟨bs, hm.1 t bs h1, h2⟩
  · rename_i b k
    split at h
    · rename_i rw' sz bs hb
      simp only [hm.2 b _ hb]
      exact h
    · cases h
  · cases h

theorem entries_mono (hm : MemLe σ τ) {c : C} {es : List (Value × V × Nat)} (h : entriesOf σ c = some es) : entriesOf τ c = some es := by
  unfold entriesOf at h ⊢
  split at h
  · exact h
  · rename_i b
    split at h
    · rename_i es' cl hb
      simp only [hm.2 b _ hb]
      exact h
    · cases h
  · cases h

theorem szOk_mono (hm : MemLe σ τ) {b sz l : Nat} (h : szOk σ b sz l = true) : szOk τ b sz l = true := by
  simp only [szOk, Bool.or_eq_true] at h ⊢
  rcases h with h | h
  · exact .inl h
  · right
    split at h
    · rename_i rw' sz' cs hb
      simp only [hm.2 b _ hb]
      simpa using h
    · cases h

theorem pureOp_eq (hs : ∀ cs b, o.op ≠ .select cs b) (hev : ∀ x ∈ o.op.operands.toList, ev τ x = ev σ x) : pureOp P o τ = pureOp P o σ := by
  have h0 : ∀ x ∈ o.op.operands.toList, litAt τ x = litAt σ x := fun x hx => by unfold litAt; rw [hev x hx]
  have h1 : o.op.operands.toList.all (litAt τ) = o.op.operands.toList.all (litAt σ) := by
    rw [Bool.eq_iff_iff, List.all_eq_true, List.all_eq_true]
    exact ⟨fun h x hx => by rw [← h0 x hx]; exact h x hx, fun h x hx => by rw [h0 x hx]; exact h x hx⟩
  unfold pureOp
  rw [h1, execOp_congr (ρ := ρ τ) (ρ' := ρ σ) o hs fun x hx => by unfold ρ; rw [hev x (by simpa using hx)]]

theorem pureV_eq (hs : ∀ cs b, o.op ≠ .select cs b) (hev : ∀ x ∈ o.op.operands.toList, ev τ x = ev σ x) (h : op.pureV P o σ = some (v, σ')) : op.pureV P o τ = some (v, τ) ∧ σ' = σ := by
  simp only [op.pureV, Option.map_eq_some_iff, Prod.mk.injEq] at h
  obtain ⟨u, h1, rfl, rfl⟩ := h
  exact ⟨by simp only [op.pureV, pureOp_eq hs hev, h1, Option.map_some], rfl⟩

theorem evs_eq : ∀ {l : List Operand}, (∀ x ∈ l, ev τ x = ev σ x) → evs τ l = evs σ l
  | [], _ => rfl
  | x :: l, h => by
    have h1 := h x (by simp)
    have h2 := evs_eq (l := l) fun y hy => h y (by simp [hy])
    simp only [evs, h1, h2]

theorem evParts_eq : ∀ {l : List (Nat × Operand)}, (∀ x ∈ l.map (·.2), ev τ x = ev σ x) → evParts τ l = evParts σ l
  | [], _ => rfl
  | (i, x) :: l, h => by
    have h1 := h x (by simp)
    have h2 := evParts_eq (l := l) fun y hy => h y (by rw [List.map_cons]; exact List.mem_cons_of_mem _ hy)
    simp only [evParts, h1, h2]

theorem optIdx_eq {x : Option Operand} (h : ∀ y ∈ x, ev τ y = ev σ y) : optIdx τ x = optIdx σ x := by
  cases x with
  | none => rfl
  | some y => simp only [optIdx, h y rfl]

/-- An operation that only computes, or reads. -/
theorem op_float (hk : okind o = .pure ∨ okind o = .read) (hev : ∀ x ∈ o.op.operands.toList, ev τ x = ev σ x) (hm : okind o = .read → MemLe σ τ) (h : op P X fi nm o σ = some (v, σ')) : op P X fi nm' o τ = some (v, τ) ∧ σ' = σ := by
  have hs : ∀ cs b, o.op ≠ .select cs b := fun cs b he => by simp [op, he] at h
  cases ho : o.op with
  | move x =>
    simp only [op, ho] at h ⊢
    obtain ⟨u, h1, h2⟩ := onV_some h
    simp only [Option.some.injEq, Prod.mk.injEq] at h2
    obtain ⟨rfl, rfl⟩ := h2
    rw [onV_of (by rw [hev x (by simp [ho, Op.operands])]; exact h1)]
    exact ⟨rfl, rfl⟩
  | assign x =>
    simp only [op, ho] at h ⊢
    obtain ⟨u, h1, h2⟩ := onV_some h
    simp only [Option.some.injEq, Prod.mk.injEq] at h2
    obtain ⟨rfl, rfl⟩ := h2
    rw [onV_of (by rw [hev x (by simp [ho, Op.operands])]; exact h1)]
    exact ⟨rfl, rfl⟩
  | pick c x y =>
    simp only [op, ho] at h ⊢
    obtain ⟨k, h1, h2⟩ := onC_some h
    rw [onC_of (by rw [hev c (by simp [ho, Op.operands])]; exact h1)]
    split at h2
    · rename_i t
      obtain ⟨u, h3, h4⟩ := onV_some h2
      simp only [Option.some.injEq, Prod.mk.injEq] at h4
      obtain ⟨rfl, rfl⟩ := h4
      rw [onV_of (u := u) (by cases t <;> (simp only [if_true, Bool.false_eq_true, if_false] at h3 ⊢; rw [hev _ (by simp [ho, Op.operands])]; exact h3))]
      exact ⟨rfl, rfl⟩
    · cases h2
  | extract x i =>
    simp only [op, ho] at h ⊢
    obtain ⟨k, h1, h2⟩ := onV_some h
    rw [onV_of (by rw [hev x (by simp [ho, Op.operands])]; exact h1)]
    split at h2
    · simp only [Option.map_eq_some_iff, Prod.mk.injEq] at h2
      obtain ⟨u, hu, rfl, rfl⟩ := h2
      exact ⟨by rw [hu]; rfl, rfl⟩
    · cases h2
  | load t x =>
    have hm := hm (by simp [okind, ho])
    simp only [op, ho] at h ⊢
    obtain ⟨ti, h1, h2⟩ := onTI_some h
    obtain ⟨c, h3, h4⟩ := onC_some h2
    rw [onTI_of h1, onC_of (by rw [hev x (by simp [ho, Op.operands])]; exact h3)]
    simp only [load, Option.map_eq_some_iff, Option.bind_eq_some_iff, Prod.mk.injEq] at h4
    obtain ⟨v', ⟨cs, h5, h6⟩, rfl, rfl⟩ := h4
    exact ⟨by simp only [load, loadC_mono hm h5, Option.bind_some, h6, Option.map_some], rfl⟩
  | nilCheck x =>
    simp only [op, ho] at h ⊢
    obtain ⟨c, h3, h4⟩ := onC_some h
    rw [onC_of (by rw [hev x (by simp [ho, Op.operands])]; exact h3)]
    split at h4
    · simp only [Option.some.injEq, Prod.mk.injEq] at h4; obtain ⟨rfl, rfl⟩ := h4; exact ⟨rfl, rfl⟩
    · simp only [Option.some.injEq, Prod.mk.injEq] at h4; obtain ⟨rfl, rfl⟩ := h4; exact ⟨rfl, rfl⟩
    · cases h4
  | fieldAddr t x f =>
    simp only [op, ho] at h ⊢
    split at h
    · rename_i off ft hft
      split at h
      · rename_i hpos
        obtain ⟨c, h3, h4⟩ := onC_some h
        simp only [if_pos hpos]
        rw [onC_of (by rw [hev x (by simp [ho, Op.operands])]; exact h3)]
        simp only [Option.map_eq_some_iff, Prod.mk.injEq] at h4
        obtain ⟨c', h5, rfl, rfl⟩ := h4
        exact ⟨by rw [h5]; rfl, rfl⟩
      · cases h
    · cases h
  | field t x f =>
    simp only [op, ho] at h ⊢
    split at h
    · obtain ⟨u, h3, h4⟩ := onV_some h
      rw [onV_of (by rw [hev x (by simp [ho, Op.operands])]; exact h3)]
      split at h4
      · simp only [Option.map_eq_some_iff, Prod.mk.injEq] at h4
        obtain ⟨v', h5, rfl, rfl⟩ := h4
        exact ⟨by rw [h5]; rfl, rfl⟩
      · cases h4
    · cases h
  | indexAddr t x y =>
    simp only [op, ho] at h ⊢
    obtain ⟨c, h3, h4⟩ := onC_some h
    obtain ⟨u, h5, h6⟩ := onV_some h4
    rw [onC_of (by rw [hev x (by simp [ho, Op.operands])]; exact h3), onV_of (by rw [hev y (by simp [ho, Op.operands])]; exact h5)]
    split at h6
    · simp only [Option.map_eq_some_iff, Prod.mk.injEq] at h6
      obtain ⟨c', h7, rfl, rfl⟩ := h6
      exact ⟨by rw [h7]; rfl, rfl⟩
    · cases h6
  | index t x y =>
    simp only [op, ho] at h ⊢
    split at h
    · obtain ⟨u, h3, h4⟩ := onV_some h
      obtain ⟨u', h5, h6⟩ := onV_some h4
      rw [onV_of (by rw [hev x (by simp [ho, Op.operands])]; exact h3), onV_of (by rw [hev y (by simp [ho, Op.operands])]; exact h5)]
      split at h6
      · rename_i hd hj
        split at h6
        · rename_i hin
          simp only [if_pos hin]
          simp only [Option.map_eq_some_iff, Prod.mk.injEq] at h6
          obtain ⟨v', h7, rfl, rfl⟩ := h6
          exact ⟨by rw [h7]; rfl, rfl⟩
        · cases h6
      · cases h6
    · exact pureV_eq hs hev h
  | slice t x lo hi mx =>
    have hm := hm (by simp [okind, ho])
    simp only [op, ho] at h ⊢
    have e1 : optIdx τ lo = optIdx σ lo := optIdx_eq fun y hy => hev y (by simp [ho, Op.operands]; simp at hy; simp [hy])
    have e2 : optIdx τ hi = optIdx σ hi := optIdx_eq fun y hy => hev y (by simp [ho, Op.operands]; simp at hy; simp [hy])
    have e3 : optIdx τ mx = optIdx σ mx := optIdx_eq fun y hy => hev y (by simp [ho, Op.operands]; simp at hy; simp [hy])
    rw [e1, e2, e3, hev x (by simp [ho, Op.operands])]
    split at h
    case h_2 => cases h
    rename_i l h' m h1 h2 h3
    split at h
    · exact pureV_eq hs hev h
    · rename_i c _ hx
      simp only [Option.map_eq_some_iff, Prod.mk.injEq] at h
      obtain ⟨c', h7, rfl, rfl⟩ := h
      suffices hh : sliceE X τ t c l h' m = some c' by exact ⟨by simp only [hh, Option.map_some], rfl⟩
      unfold sliceE at h7 ⊢
      split at h7
      case h_2 => cases h7
      split at h7
      · split at h7
        · rename_i et b q len cap het _
          split at h7
          case h_2 => cases h7
          split at h7
          case isFalse => cases h7
          rename_i hz
          rw [if_pos (szOk_mono hm hz)]
          exact h7
        · exact h7
        · cases h7
      · exact h7
      · cases h7
    · cases h
  | build t ps =>
    simp only [op, ho] at h ⊢
    obtain ⟨ti, h1, h2⟩ := onTI_some h
    rw [onTI_of h1, evParts_eq (σ := σ) (τ := τ) fun x hx => hev x (by simpa [ho, Op.operands] using hx)]
    split at h2
    case h_2 => cases h2
    rename_i z vs hz hvs
    split at h2
    · split at h2
      · simp only [Option.map_eq_some_iff, Prod.mk.injEq] at h2
        obtain ⟨ds, hf, rfl, rfl⟩ := h2
        exact ⟨by rw [hf]; rfl, rfl⟩
      · cases h2
    · split at h2
      · simp only [Option.map_eq_some_iff, Prod.mk.injEq] at h2
        obtain ⟨ds, hf, rfl, rfl⟩ := h2
        exact ⟨by rw [hf]; rfl, rfl⟩
      · cases h2
    · cases h2
  | lookup t x y ok =>
    have hm := hm (by simp [okind, ho])
    simp only [op, ho] at h ⊢
    obtain ⟨c, h3, h4⟩ := onC_some h
    obtain ⟨u, h5, h6⟩ := onV_some h4
    rw [onC_of (by rw [hev x (by simp [ho, Op.operands])]; exact h3), onV_of (by rw [hev y (by simp [ho, Op.operands])]; exact h5)]
    split at h6
    case h_2 => cases h6
    simp only [Option.map_eq_some_iff, Prod.mk.injEq] at h6
    obtain ⟨v', h7, rfl, rfl⟩ := h6
    rename_i kk hkk
    suffices hh : lookupE X t τ c kk ok = some v' by exact ⟨by simp only [hh, Option.map_some], rfl⟩
    unfold lookupE at h7 ⊢
    split at h7
    case h_2 => cases h7
    rename_i hmk hes
    simp only [hmk, entries_mono hm hes]
    exact h7
  | makeFunc f fs caps =>
    cases f with
    | func f =>
      simp only [op, ho] at h ⊢
      split at h
      · rename_i hfs
        rw [if_pos hfs, evs_eq (σ := σ) (τ := τ) fun x hx => hev x (by simp [ho, Op.operands]; right; simpa using hx)]
        split at h
        · simp only [Option.map_eq_some_iff, Prod.mk.injEq] at h
          obtain ⟨l, h1, rfl, rfl⟩ := h
          exact ⟨by rw [h1]; rfl, rfl⟩
        · cases h
      · cases h
    | _ => simp [op, ho] at h
  | binOp b t x y t' =>
    simp only [op, ho] at h ⊢
    obtain ⟨u, h3, h4⟩ := onV_some h
    obtain ⟨u', h5, h6⟩ := onV_some h4
    rw [onV_of (by rw [hev x (by simp [ho, Op.operands])]; exact h3), onV_of (by rw [hev y (by simp [ho, Op.operands])]; exact h5)]
    split at h6
    · simp only [Option.some.injEq, Prod.mk.injEq] at h6
      obtain ⟨rfl, rfl⟩ := h6
      exact ⟨rfl, rfl⟩
    · exact pureV_eq hs hev h6
  | unOp u t x => simp only [op, ho] at h ⊢; exact pureV_eq hs hev h
  | convert s t x => simp only [op, ho] at h ⊢; exact pureV_eq hs hev h
  | call c =>
    simp only [okind, ho] at hk hm
    simp only [op, ho] at h ⊢
    split at h
    case h_2 => cases h
    rename_i b hb
    simp only [hb] at hk hm
    have hbl : b = .len := by cases b <;> simp at hk ⊢
    subst hbl
    have hm := hm rfl
    rw [evs_eq (σ := σ) (τ := τ) fun x hx => hev x (by simp [ho, Op.operands, Call.operands, hb]; simpa using hx)]
    split at h
    case h_2 => cases h
    rename_i vs hvs
    unfold builtinE at h ⊢
    split at h <;> try (cases h; done)
    · rename_i t rest c' hts
      split at h
      case h_2 => cases h
      split at h
      · simp only [Option.map_eq_some_iff, Prod.mk.injEq] at h
        obtain ⟨es, h1, rfl, rfl⟩ := h
        exact ⟨by rw [entries_mono hm h1]; rfl, rfl⟩
      · simp only [Option.some.injEq, Prod.mk.injEq] at h
        obtain ⟨rfl, rfl⟩ := h
        exact ⟨rfl, rfl⟩
      · split at h
        · cases h
        · simp only [Option.map_eq_some_iff, Prod.mk.injEq] at h
          obtain ⟨n, h1, rfl, rfl⟩ := h
          exact ⟨by rw [h1]; rfl, rfl⟩
      · split at h
        · simp only [Option.some.injEq, Prod.mk.injEq] at h
          obtain ⟨rfl, rfl⟩ := h
          exact ⟨rfl, rfl⟩
        · cases h
      · cases h
    all_goals (first | cases ‹Builtin.len = _› | skip)
  | _ => simp [op, ho, okind] at h hk
end
end E
end Go.Proofs.Ytnfehccnofhmnaa

/-
  An abstract machine of this place's own: an operation that writes, or makes, at another frame. No condition.
-/
namespace Go.Proofs.Ytnfehccnofhmnaa
open Go.RowKit
namespace E
section
variable {P : Program} {X : Ctx} {fi : Fi} {nm nm' : Nat} {σ τ σ' : St} {o : Oper} {v : V} {e : List (Nat × V)}

theorem storeC_env {c : C} {xs : List C} (h : storeC σ c xs = some σ') : storeC { σ with env := e } c xs = some { σ' with env := e } ∧ σ'.env = σ.env := by
  unfold storeC at h ⊢
  split at h
  · rename_i hok
    rw [if_pos hok]
    split at h
    · simp only [Option.bind_eq_some_iff, Option.map_eq_some_iff] at h
      obtain ⟨bs, h1, ds, h2, rfl⟩ := h
      exact ⟨by simp only [h1, Option.bind_some, h2, Option.map_some], rfl⟩
    · split at h
      · rename_i sz bs hb
        simp only [Option.map_eq_some_iff] at h
        obtain ⟨ds, h2, rfl⟩ := h
        exact ⟨by simp only [hb, h2, Option.map_some], rfl⟩
      · cases h
    · cases h
  · cases h

theorem appendC_env {ti : TI} {s x : C} {p : C × St} (h : appendC ti nm σ s x = some p) : appendC ti nm { σ with env := e } s x = some (p.1, { p.2 with env := e }) ∧ p.2.env = σ.env := by
  have hsc : sliceCells { σ with env := e } ti.size x = sliceCells σ ti.size x := by unfold sliceCells; rfl
  unfold appendC at h ⊢
  rw [hsc]
  split at h
  · rename_i news m hn hm
    split at h
    · rename_i hck
      rw [if_pos hck]
      split at h
      · split at h
        · rename_i hm0
          simp only [Option.some.injEq] at h
          subst h
          simp only [if_pos hm0]
          exact ⟨trivial, trivial⟩
        · rename_i hm0
          simp only [if_neg hm0]
          split at h
          · rename_i hk
            simp only [Option.some.injEq] at h
            subst h
            rw [if_pos hk]
            exact ⟨rfl, rfl⟩
          · cases h
      · split at h
        · rename_i sz cs hb
          simp only [hb]
          split at h
          · rename_i hm0
            simp only [Option.some.injEq] at h
            subst h
            simp only [if_pos hm0]
            exact ⟨trivial, trivial⟩
          · rename_i hm0
            simp only [if_neg hm0]
            split at h
            · rename_i hc
              simp only [Option.map_eq_some_iff] at h
              obtain ⟨ds, h1, rfl⟩ := h
              rw [if_pos hc, h1]
              exact ⟨rfl, rfl⟩
            · rename_i hc
              rw [if_neg hc]
              split at h
              · rename_i hk
                simp only [Option.map_eq_some_iff] at h
                obtain ⟨ds, h1, rfl⟩ := h
                rw [if_pos hk, h1]
                exact ⟨rfl, rfl⟩
              · cases h
        · cases h
      · cases h
    · cases h
  · cases h

theorem updateE_env {t : TypeId} {c : C} {k : Value} {u : V} (h : updateE X t σ c k u = some σ') : updateE X t { σ with env := e } c k u = some { σ' with env := e } ∧ σ'.env = σ.env := by
  unfold updateE at h ⊢
  split at h
  · rename_i d et b hm
    skip
    split at h
    · rename_i es cl hb
      try simp only [hb]
      split at h
      · rename_i hck
        rw [if_pos hck]
        split at h
        · rename_i hf
          simp only [Option.map_eq_some_iff] at h
          obtain ⟨es', h1, rfl⟩ := h
          simp only [h1, Option.map_some]
          exact ⟨trivial, trivial⟩
        · rename_i hf
          simp only [Option.some.injEq] at h
          subst h
          exact ⟨rfl, rfl⟩
        · cases h
      · cases h
    · cases h
  · cases h

theorem deleteE_env {t : TypeId} {c : C} {k : Value} (h : deleteE X t σ c k = some σ') : deleteE X t { σ with env := e } c k = some { σ' with env := e } ∧ σ'.env = σ.env := by
  unfold deleteE at h ⊢
  split at h
  · rename_i d et b hm
    skip
    split at h
    · rename_i es cl hb
      try simp only [hb]
      split at h
      · rename_i hck
        rw [if_pos hck]
        simp only [Option.map_eq_some_iff] at h
        obtain ⟨es', h1, rfl⟩ := h
        rw [h1]
        exact ⟨rfl, rfl⟩
      · cases h
    · cases h
  · cases h

/-- An operation of the chain, at another frame. -/
theorem op_chain (hk : okind o = .chain) (_hc : isCall o = false) (hev : ∀ x ∈ o.op.operands.toList, ev { σ with env := e } x = ev σ x) (h : op P X fi nm o σ = some (v, σ')) :
    op P X fi nm o { σ with env := e } = some (v, { σ' with env := e }) ∧ σ'.env = σ.env := by
  cases ho : o.op with
  | store t x y =>
    simp only [op, ho] at h ⊢
    obtain ⟨ti, h1, h2⟩ := onTI_some h
    obtain ⟨c, h3, h4⟩ := onC_some h2
    obtain ⟨u, h5, h6⟩ := onV_some h4
    rw [onTI_of h1, onC_of (by rw [hev x (by simp [ho, Op.operands])]; exact h3), onV_of (by rw [hev y (by simp [ho, Op.operands])]; exact h5)]
    split at h6
    · split at h6
      · rename_i hl
        simp only [Option.map_eq_some_iff, Prod.mk.injEq] at h6
        obtain ⟨σ1, h7, rfl, rfl⟩ := h6
        obtain ⟨g1, g2⟩ := storeC_env (e := e) h7
        rw [if_pos hl, g1]
        exact ⟨rfl, g2⟩
      · cases h6
    · cases h6
  | mapUpdate t m x y =>
    simp only [op, ho] at h ⊢
    obtain ⟨c, h3, h4⟩ := onC_some h
    obtain ⟨kv, h5, h6⟩ := onV_some h4
    obtain ⟨u, h7, h8⟩ := onV_some h6
    rw [onC_of (by rw [hev m (by simp [ho, Op.operands])]; exact h3), onV_of (by rw [hev x (by simp [ho, Op.operands])]; exact h5), onV_of (by rw [hev y (by simp [ho, Op.operands])]; exact h7)]
    split at h8
    · simp only [Option.map_eq_some_iff, Prod.mk.injEq] at h8
      obtain ⟨σ1, h9, rfl, rfl⟩ := h8
      obtain ⟨g1, g2⟩ := updateE_env (e := e) h9
      rw [g1]
      exact ⟨rfl, g2⟩
    · cases h8
  | insert t m x y =>
    simp only [op, ho] at h ⊢
    obtain ⟨c, h3, h4⟩ := onC_some h
    obtain ⟨kv, h5, h6⟩ := onV_some h4
    obtain ⟨u, h7, h8⟩ := onV_some h6
    rw [onC_of (by rw [hev m (by simp [ho, Op.operands])]; exact h3), onV_of (by rw [hev x (by simp [ho, Op.operands])]; exact h5), onV_of (by rw [hev y (by simp [ho, Op.operands])]; exact h7)]
    split at h8
    · simp only [Option.map_eq_some_iff, Prod.mk.injEq] at h8
      obtain ⟨σ1, h9, rfl, rfl⟩ := h8
      obtain ⟨g1, g2⟩ := updateE_env (e := e) h9
      rw [g1]
      exact ⟨rfl, g2⟩
    · cases h8
  | call c =>
    simp only [okind, ho] at hk
    simp only [op, ho] at h ⊢
    split at h
    case h_2 => cases h
    rename_i b hb
    rw [evs_eq (σ := σ) (τ := { σ with env := e }) fun x hx => hev x (by simp [ho, Op.operands, Call.operands, hb]; simpa using hx)]
    split at h
    case h_2 => cases h
    rename_i vs hvs
    unfold builtinE at h ⊢
    split at h
    · simp [hb] at hk
    · rename_i t t' s x hts
      split at h
      case isFalse => cases h
      rename_i htt
      rw [if_pos htt]
      split at h
      case h_2 => cases h
      split at h
      case h_2 => cases h
      simp only [Option.map_eq_some_iff, Prod.mk.injEq] at h
      obtain ⟨p, hp, rfl, rfl⟩ := h
      obtain ⟨g1, g2⟩ := appendC_env (e := e) hp
      rw [g1]
      exact ⟨rfl, g2⟩
    · split at h
      case h_2 => cases h
      simp only [Option.map_eq_some_iff, Prod.mk.injEq] at h
      obtain ⟨σ1, h1, rfl, rfl⟩ := h
      obtain ⟨g1, g2⟩ := deleteE_env (e := e) h1
      rw [g1]
      exact ⟨rfl, g2⟩
    · split at h
      case h_2 => cases h
      split at h
      case h_2 => cases h
      rename_i hd hz hbk
      split at h
      · rename_i hck
        simp only [Option.map_eq_some_iff, Prod.mk.injEq] at h
        obtain ⟨cs', h1, rfl, rfl⟩ := h
        simp only [hd, hz, hbk, if_pos hck, h1, Option.map_some]
        exact ⟨trivial, trivial⟩
      · rename_i hck
        split at h
        · rename_i hl
          simp only [Option.some.injEq, Prod.mk.injEq] at h
          obtain ⟨rfl, rfl⟩ := h
          simp only [hd, hz, hbk, if_neg hck, if_pos hl]
          exact ⟨trivial, trivial⟩
        · cases h
    · cases h
  | _ => simp [okind, ho] at hk

theorem op_nm (hk : okind o = .chain) (hm : makes fi o = false) (h : op P X fi nm o σ = some (v, σ')) : op P X fi nm' o σ = some (v, σ') := by
  cases ho : o.op with
  | store t x y => simp only [op, ho] at h ⊢; exact h
  | mapUpdate t m x y => simp only [op, ho] at h ⊢; exact h
  | insert t m x y => simp only [op, ho] at h ⊢; exact h
  | call c =>
    simp only [makes, ho] at hm
    simp only [op, ho] at h ⊢
    split at h
    case h_2 => cases h
    rename_i b hb
    simp only [hb] at hm
    split at h
    case h_2 => cases h
    unfold builtinE at h ⊢
    split at h <;> first | exact h | cases hm | cases h
  | _ => simp [okind, ho] at hk

theorem makes_kind (h : makes fi o = true) : okind o = .alloc ∨ okind o = .chain := by
  unfold makes at h
  unfold okind
  cases ho : o.op <;> simp_all
  rename_i c
  cases hc : c.callee <;> simp_all
  rename_i b
  cases b <;> simp_all

/-! ### What is made -/
inductive Add where
  | box (t : Nat) (cs : List C)
  | blk (b : Nat) (x : Blk)

def Add.on : Add → St → St
  | .box t cs, σ => { σ with bx := (t, cs) :: σ.bx }
  | .blk b x, σ => { σ with h := σ.h.set b x }

def Add.free : Add → St → Prop
  | .box t _, σ => get σ.bx t = none ∧ (σ.env.any fun p => mentionsV t p.2) = false
  | .blk .., _ => True

def Add.fits (fi : Fi) (nm : Nat) (o : Oper) : Add → Prop
  | .box t _ => boxSlot fi o = some t
  | .blk b x => b = nm ∧ makes fi o = true ∧ x.rw = true

theorem newVarE_add {d : Option Nat} {cs : List C} (hmk : ∀ t, d = some t → makes fi o = !fi.prom.contains t) (hd : ∀ t, d = some t → fi.prom.contains t = true → boxSlot fi o = some t) (h : newVarE fi nm d σ cs = some (v, σ')) :
    ∃ A : Add, σ' = A.on σ ∧ A.free σ ∧ A.fits fi nm o ∧ ∀ (τ : St) (nm' : Nat), A.free τ → (nm' = nm ∨ makes fi o = false) → newVarE fi nm' d τ cs = some (v, A.on τ) := by
  unfold newVarE at h
  split at h
  · rename_i t
    cases hp : fi.prom.contains t with
    | true =>
      rw [hp, cond_true] at h
      simp only [newBox, Option.map_eq_some_iff, Prod.mk.injEq] at h
      obtain ⟨σ1, h1, rfl, rfl⟩ := h
      split at h1
      · rename_i hc
        simp only [Option.some.injEq] at h1
        subst h1
        simp only [Bool.and_eq_true, Bool.not_eq_true', Option.isNone_iff_eq_none] at hc
        obtain ⟨⟨hok, hfree⟩, hm⟩ := hc
        refine ⟨.box t cs, rfl, ⟨hfree, hm⟩, hd t rfl hp, fun τ nm' hτ _ => ?_⟩
        simp only [newVarE, hp, cond_true, newBox, hok, hτ.1, hτ.2, Option.isNone_none, Bool.not_false, Bool.and_self, if_true, Option.map_some]
        rfl
      · cases h1
    | false =>
      rw [hp, cond_false] at h
      simp only [newRowH, Option.map_eq_some_iff, Prod.mk.injEq] at h
      obtain ⟨σ1, h1, rfl, rfl⟩ := h
      split at h1
      · rename_i hok
        simp only [Option.some.injEq] at h1
        subst h1
        refine ⟨.blk nm (.row true 0 cs), rfl, trivial, ⟨rfl, by rw [hmk t rfl, hp]; rfl, rfl⟩, fun τ nm' _ hn => ?_⟩
        rcases hn with rfl | hn
        case inr => rw [hmk t rfl, hp] at hn; cases hn
        simp only [newVarE, hp, cond_false, newRowH, if_pos hok, Option.map_some]
        rfl
      · cases h1
  · cases h

theorem newRowH_add {sz : Nat} {cs : List C} (h : newRowH σ nm sz cs = some σ') : ∃ x, σ' = (Add.blk nm x).on σ ∧ x.rw = true ∧ ∀ τ : St, newRowH τ nm sz cs = some ((Add.blk nm x).on τ) := by
  unfold newRowH at h
  split at h
  · rename_i hok
    simp only [Option.some.injEq] at h
    subst h
    exact ⟨.row true sz cs, rfl, rfl, fun τ => by simp only [newRowH, if_pos hok]; rfl⟩
  · cases h

/-- An operation that makes something, at another state. -/
theorem op_adds (hk : okind o = .alloc) (h : op P X fi nm o σ = some (v, σ')) : ∃ A : Add, σ' = A.on σ ∧ A.free σ ∧ A.fits fi nm o ∧
    ∀ (τ : St) (nm' : Nat), (∀ x ∈ o.op.operands.toList, ev τ x = ev σ x) → A.free τ → (nm' = nm ∨ makes fi o = false) → op P X fi nm' o τ = some (v, A.on τ) := by
  cases ho : o.op with
  | alloc t =>
    simp only [op, ho] at h ⊢
    obtain ⟨ti, h1, h2⟩ := onTI_some h
    split at h2
    · rename_i cs hcs
      split at h2
      · rename_i hl
        obtain ⟨A, g1, g2, g3, g4⟩ := newVarE_add (o := o) (fun t ht => by simp [makes, ho, ht]) (fun t ht hp => by simp only [boxSlot, ho, ht, hp, cond_true]) h2
        refine ⟨A, g1, g2, g3, fun τ nm' _ hf hn => ?_⟩
        rw [onTI_of h1, hcs]
        simp only [if_pos hl]
        exact g4 τ nm' hf hn
      · cases h2
    · cases h2
  | box t x =>
    simp only [op, ho] at h ⊢
    obtain ⟨u, h1, h2⟩ := onV_some h
    split at h2
    · rename_i cs hcs
      obtain ⟨A, g1, g2, g3, g4⟩ := newVarE_add (o := o) (fun t ht => by simp [makes, ho, ht]) (fun t ht hp => by simp only [boxSlot, ho, ht, hp, cond_true]) h2
      refine ⟨A, g1, g2, g3, fun τ nm' hev hf hn => ?_⟩
      rw [onV_of (by rw [hev x (by simp [Op.operands])]; exact h1), hcs]
      exact g4 τ nm' hf hn
    · cases h2
  | buildSlice t n ps =>
    simp only [op, ho] at h ⊢
    split at h
    case h_2 => cases h
    rename_i et vs st het hvs hst
    split at h
    case h_2 => cases h
    rename_i el z hd hz
    split at h
    case isFalse => cases h
    rename_i hck
    split at h
    case h_2 => cases h
    rename_i cs hcs
    simp only [Option.map_eq_some_iff, Prod.mk.injEq] at h
    obtain ⟨σ1, h1, rfl, rfl⟩ := h
    obtain ⟨x, rfl, hx, g⟩ := newRowH_add h1
    refine ⟨.blk nm x, rfl, trivial, ⟨rfl, by simp [makes, ho], hx⟩, fun τ nm' hev _ hn => ?_⟩
    rcases hn with rfl | hn
    case inr => simp [makes, ho] at hn
    rw [evParts_eq (σ := σ) (τ := τ) fun x hx => hev x (by simpa [Op.operands] using hx), hvs]
    simp only [het, hst, hd, hz, if_pos hck, hcs, g τ, Option.map_some]
  | makeSlice t l c =>
    simp only [op, ho] at h ⊢
    obtain ⟨u, h1, h2⟩ := onV_some h
    obtain ⟨u', h3, h4⟩ := onV_some h2
    split at h4
    case h_2 => cases h4
    rename_i et st n m het hst
    split at h4
    case h_2 => cases h4
    rename_i el hd
    unfold makeSliceE at h4
    split at h4
    case h_2 => cases h4
    rename_i z hz
    split at h4
    case isFalse => cases h4
    rename_i hck
    simp only [Option.map_eq_some_iff, Prod.mk.injEq] at h4
    obtain ⟨σ1, h5, rfl, rfl⟩ := h4
    obtain ⟨x, rfl, hx, g⟩ := newRowH_add h5
    refine ⟨.blk nm x, rfl, trivial, ⟨rfl, by simp [makes, ho], hx⟩, fun τ nm' hev _ hn => ?_⟩
    rcases hn with rfl | hn
    case inr => simp [makes, ho] at hn
    rw [onV_of (by rw [hev l (by simp [Op.operands])]; exact h1), onV_of (by rw [hev c (by simp [Op.operands])]; exact h3)]
    simp only [het, hst, hd, makeSliceE, hz, if_pos hck, g τ, Option.map_some]
  | makeMap t r =>
    cases r with
    | none =>
      simp only [op, ho, Option.some.injEq, Prod.mk.injEq] at h ⊢
      obtain ⟨rfl, rfl⟩ := h
      exact ⟨.blk nm (.map [] 0), rfl, trivial, ⟨rfl, by simp [makes, ho], rfl⟩, fun τ nm' _ _ hn => by
        rcases hn with rfl | hn
        · exact ⟨rfl, rfl⟩
        · simp [makes, ho] at hn⟩
    | some r => simp [op, ho] at h
  | call c =>
    simp only [okind, ho] at hk
    split at hk <;> cases hk
  | _ => simp [okind, ho] at hk

theorem callee_eq (hev : ∀ x ∈ o.op.operands.toList, ev τ x = ev σ x) : callee τ o = callee σ o := by
  unfold callee
  cases ho : o.op <;> simp only
  rename_i c
  cases hc : c.callee <;> simp only
  rename_i f
  have h1 : ev τ f = ev σ f := hev f (by simp [ho, Op.operands, Call.operands, hc])
  have h2 : evs τ c.args.toList = evs σ c.args.toList := evs_eq fun x hx => hev x (by simp [ho, Op.operands, Call.operands, hc]; right; simpa using hx)
  rw [h1, h2]

theorem wanted_eq {ops : List Oper} (h : ∀ j want oj t, o.guard = some (j, want) → ops[j]? = some oj → oj.dst = some t → get τ.env t = get σ.env t) : wanted ops o τ = wanted ops o σ := by
  unfold wanted
  cases hg : o.guard with
  | none => rfl
  | some p =>
    obtain ⟨j, want⟩ := p
    cases hj : ops[j]? with
    | none => simp only [hj]
    | some oj =>
      cases ht : oj.dst with
      | none => simp only [hj, ht]
      | some t => simp only [hj, ht, h j want oj t hg hj ht]
end
end E
end Go.Proofs.Ytnfehccnofhmnaa

/-
  An abstract machine of this place's own: a region that draws its order: its record, and what a part of it comes to. No condition.
-/
namespace Go.Proofs.Ytnfehccnofhmnaa
open Go.RowKit
namespace E

inductive Eff where
  | nop
  | mem (bx : List (Nat × List C)) (h : Heap)
  | add (A : Add)

def Eff.on : Eff → St → St
  | .nop, σ => σ
  | .mem bx h, σ => { σ with bx := bx, h := h }
  | .add A, σ => A.on σ

def setE (d : Option Nat) (v : V) (σ : St) : St :=
  match d with
  | none => σ
  | some t => { σ with env := (t, v) :: σ.env }

/-- What one operation of the region did, in the one order that is run: pre: ahead of it. -/
structure Rec where
  s : SI
  c : Nat
  lo : Nat
  nm : Nat
  v : V
  eff : Eff
  pre : St

def Rec.act (r : Rec) (σ : St) : St := setE r.s.o.dst r.v (r.eff.on σ)

/-- What the operations of L come to. T: the record, the last one first. -/
def ab (L : Nat → Bool) (σ0 : St) : List Rec → St
  | [] => σ0
  | r :: T => cond (L r.s.i) (r.act (ab L σ0 T)) (ab L σ0 T)

def allL : Nat → Bool := fun _ => true

section
variable {L L' : Nat → Bool} {σ σ0 : St} {r : Rec} {T T1 T2 : List Rec}

@[simp] theorem setE_bx (d : Option Nat) (v : V) (σ : St) : (setE d v σ).bx = σ.bx := by cases d <;> rfl
@[simp] theorem setE_h (d : Option Nat) (v : V) (σ : St) : (setE d v σ).h = σ.h := by cases d <;> rfl
@[simp] theorem eff_env (e : Eff) (σ : St) : (e.on σ).env = σ.env := by
  cases e with
  | nop => rfl
  | mem => rfl
  | add A => cases A <;> rfl

theorem setE_env (d : Option Nat) (v : V) (σ : St) : (setE d v σ).env = (match d with | some t => (t, v) :: σ.env | none => σ.env) := by cases d <;> rfl

theorem get_setE (d : Option Nat) (v : V) (σ : St) (t : Nat) : get (setE d v σ).env t = if d = some t then some v else get σ.env t := by
  cases d with
  | none => simp [setE]
  | some u =>
    simp only [setE, get_cons, Option.some.injEq]

theorem ab_append : ab L σ0 (T2 ++ T1) = ab L (ab L σ0 T1) T2 := by
  induction T2 with
  | nil => rfl
  | cons r T2 ih => simp only [List.cons_append, ab, ih]

/-- A slot, behind two parts of the region that hold the same of those that write it. -/
theorem ab_env {t : Nat} {τ : St} (he : get σ0.env t = get τ.env t) (h : ∀ r ∈ T, r.s.o.dst = some t → L r.s.i = L' r.s.i) : get (ab L σ0 T).env t = get (ab L' τ T).env t := by
  induction T with
  | nil => exact he
  | cons r T ih =>
    have ih := ih fun r hr => h r (by simp [hr])
    by_cases hd : r.s.o.dst = some t
    · rw [ab, ab, h r (by simp) hd]
      cases L' r.s.i with
      | true => simp only [cond_true, Rec.act, get_setE, if_pos hd]
      | false => simpa only [cond_false] using ih
    · have key : ∀ (b : Bool) (σ : St), get (cond b (r.act σ) σ).env t = get σ.env t := fun b σ => by
        cases b with
        | true => simp only [cond_true, Rec.act, get_setE, if_neg hd, eff_env]
        | false => rfl
      rw [ab, ab, key, key, ih]

theorem ab_env_none {t : Nat} (h : ∀ r ∈ T, L r.s.i = true → r.s.o.dst ≠ some t) : get (ab L σ0 T).env t = get σ0.env t := by
  induction T with
  | nil => rfl
  | cons r T ih =>
    have ih := ih fun r hr => h r (by simp [hr])
    rw [ab]
    cases hl : L r.s.i with
    | true => simp only [cond_true, Rec.act, get_setE, if_neg (h r (by simp) hl), eff_env, ih]
    | false => simpa only [cond_false] using ih

/-- The entries of the frame. -/
theorem ab_mem {p : Nat × V} : p ∈ (ab L σ0 T).env ↔ p ∈ σ0.env ∨ ∃ r ∈ T, L r.s.i = true ∧ r.s.o.dst = some p.1 ∧ r.v = p.2 := by
  induction T with
  | nil => simp [ab]
  | cons r T ih =>
    rw [ab]
    cases hl : L r.s.i with
    | false =>
      rw [cond_false, ih]
      constructor
      · rintro (h | ⟨s, h1, h2⟩)
        · exact .inl h
        · exact .inr ⟨s, by simp [h1], h2⟩
      · rintro (h | ⟨s, h1, h2⟩)
        · exact .inl h
        · simp only [List.mem_cons] at h1
          rcases h1 with rfl | h1
          · rw [hl] at h2; exact absurd h2.1 (by simp)
          · exact .inr ⟨s, h1, h2⟩
    | true =>
      rw [cond_true, Rec.act, setE_env]
      have e : (r.eff.on (ab L σ0 T)).env = (ab L σ0 T).env := eff_env _ _
      cases hd : r.s.o.dst with
      | none =>
        simp only
        rw [e, ih]
        constructor
        · rintro (h | ⟨s, h1, h2⟩)
          · exact .inl h
          · exact .inr ⟨s, by simp [h1], h2⟩
        · rintro (h | ⟨s, h1, h2⟩)
          · exact .inl h
          · simp only [List.mem_cons] at h1
            rcases h1 with rfl | h1
            · rw [hd] at h2; exact absurd h2.2.1 (by simp)
            · exact .inr ⟨s, h1, h2⟩
      | some t =>
        simp only [List.mem_cons]
        rw [e, ih]
        constructor
        · rintro (rfl | h | ⟨s, h1, h2⟩)
          · exact .inr ⟨r, .inl rfl, hl, hd, rfl⟩
          · exact .inl h
          · exact .inr ⟨s, .inr h1, h2⟩
        · rintro (h | ⟨s, rfl | h1, h2⟩)
          · exact .inr (.inl h)
          · left
            rw [hd] at h2
            obtain ⟨_, h3, h4⟩ := h2
            simp only [Option.some.injEq] at h3
            rw [h3, h4]
          · exact .inr (.inr ⟨s, h1, h2⟩)

/-! ### The memory -/
def Eff.quiet : Eff → Bool
  | .nop => true
  | _ => false
def Eff.isMem : Eff → Bool
  | .mem .. => true
  | _ => false

def St.mem (σ : St) : Mem := (σ.bx, σ.h)
@[simp] theorem setE_mem (d : Option Nat) (v : V) (σ : St) : (setE d v σ).mem = σ.mem := by cases d <;> rfl

theorem eff_mem {e : Eff} {σ τ : St} (h : σ.mem = τ.mem) : (e.on σ).mem = (e.on τ).mem := by
  simp only [St.mem, Prod.mk.injEq] at h
  cases e with
  | nop => simp [Eff.on, St.mem, h]
  | mem => rfl
  | add A => cases A <;> simp [Eff.on, Add.on, St.mem, h]

/-- The memory behind two parts that hold the same of those that do something to it. -/
theorem ab_mem_eq {τ : St} (he : σ0.mem = τ.mem) (h : ∀ r ∈ T, r.eff.quiet = false → L r.s.i = L' r.s.i) : (ab L σ0 T).mem = (ab L' τ T).mem := by
  induction T with
  | nil => exact he
  | cons r T ih =>
    have ih := ih fun r hr => h r (by simp [hr])
    by_cases hq : r.eff.quiet = true
    · have hn : r.eff = .nop := by cases hr : r.eff <;> simp_all [Eff.quiet]
      have key : ∀ (b : Bool) (σ : St), (cond b (r.act σ) σ).mem = σ.mem := fun b σ => by
        cases b with
        | true => simp only [cond_true, Rec.act, setE_mem, hn]; rfl
        | false => rfl
      rw [ab, ab, key, key, ih]
    · rw [ab, ab, h r (by simp) (by simpa using hq)]
      cases L' r.s.i with
      | true => simp only [cond_true, Rec.act, setE_mem]; exact eff_mem ih
      | false => simpa only [cond_false] using ih

/-- The memory behind the last of the chain's operations. -/
def lastM (L : Nat → Bool) (m : Mem) : List Rec → Mem
  | [] => m
  | r :: T => match r.eff with
    | .mem bx h => cond (L r.s.i) (bx, h) (lastM L m T)
    | _ => lastM L m T

/-- All the memories that the chain comes to, the last one first. -/
def mems (m : Mem) : List Rec → List Mem
  | [] => [m]
  | r :: T => match r.eff with
    | .mem bx h => (bx, h) :: mems m T
    | _ => mems m T

def nMem (L : Nat → Bool) : List Rec → Nat
  | [] => 0
  | r :: T => cond (r.eff.isMem && L r.s.i) (nMem L T + 1) (nMem L T)

theorem mems_length (m : Mem) : ∀ T, (mems m T).length = nMem allL T + 1
  | [] => rfl
  | r :: T => by
    have ih := mems_length m T
    cases he : r.eff <;> simp [mems, nMem, he, Eff.isMem, allL] <;> simpa [allL] using ih

theorem nMem_le (T : List Rec) : nMem L T ≤ nMem allL T := by
  induction T with
  | nil => exact Nat.le_refl _
  | cons r T ih =>
    cases he : r.eff.isMem <;> cases hl : L r.s.i <;> simp [nMem, he, hl, show allL r.s.i = true from rfl] <;> omega

theorem nMem_all (h : ∀ r ∈ T, r.eff.isMem = true → L r.s.i = true) : nMem L T = nMem allL T := by
  induction T with
  | nil => rfl
  | cons r T ih =>
    have ih := ih fun r hr => h r (by simp [hr])
    have h0 := h r (by simp)
    cases he : r.eff.isMem with
    | false => simpa [nMem, he] using ih
    | true => simpa [nMem, he, h0 he, allL] using ih

theorem nMem_append : nMem L (T2 ++ T1) = nMem L T2 + nMem L T1 := by
  induction T2 with
  | nil => simp [nMem]
  | cons r T2 ih =>
    rw [List.cons_append, nMem, nMem, ih]
    cases r.eff.isMem && L r.s.i <;> simp <;> omega

/-- What is chained is taken in its order. -/
def PreOk (L : Nat → Bool) : List Rec → Prop
  | [] => True
  | r :: T => PreOk L T ∧ (r.eff.isMem = true → L r.s.i = true → ∀ s ∈ T, s.eff.isMem = true → L s.s.i = true)

theorem lastM_at (m : Mem) : ∀ {T}, PreOk L T → (mems m T).reverse[nMem L T]? = some (lastM L m T)
  | [], _ => rfl
  | r :: T, h => by
    have ih := lastM_at m h.1
    have hlen := mems_length m T
    have hle : nMem L T ≤ nMem allL T := nMem_le T
    cases he : r.eff with
    | nop => simpa [mems, nMem, lastM, he, Eff.isMem] using ih
    | add A => simpa [mems, nMem, lastM, he, Eff.isMem] using ih
    | mem bx h' =>
      have hm : r.eff.isMem = true := by rw [he]; rfl
      cases hl : L r.s.i with
      | true =>
        have hall := nMem_all (T := T) (h.2 hm hl)
        simp only [mems, nMem, lastM, he, hl, Eff.isMem, Bool.and_self, cond_true, List.reverse_cons]
        rw [List.getElem?_append_right (by simp [hlen, hall])]
        simp [hlen, hall]
      | false =>
        simp only [mems, nMem, lastM, he, hl, Eff.isMem, Bool.and_false, cond_false, List.reverse_cons]
        rw [List.getElem?_append_left (by simp [hlen]; omega)]
        exact ih
end
end E
end Go.Proofs.Ytnfehccnofhmnaa

/-
  An abstract machine of this place's own: what is made beside; what is taken from a state and given back behind a step. No condition.
-/
namespace Go.Proofs.Ytnfehccnofhmnaa
open Go.RowKit
namespace E

/-- The blocks that a part of a region has made. -/
def addH (L : Nat → Bool) : List Rec → Nat → Option Blk
  | [], _ => none
  | r :: T, b => match r.eff with
    | .add (.blk b' x) => if L r.s.i = true ∧ b' = b then some x else addH L T b
    | _ => addH L T b

/-- The frame's variables that it has made. -/
def addX (L : Nat → Bool) : List Rec → Nat → Option (List C)
  | [], _ => none
  | r :: T, t => match r.eff with
    | .add (.box t' x) => if L r.s.i = true ∧ t' = t then some x else addX L T t
    | _ => addX L T t

def NoMem (L : Nat → Bool) (T : List Rec) : Prop := ∀ r ∈ T, r.eff.isMem = true → L r.s.i = false

section
variable {L L' : Nat → Bool} {σ σ0 : St} {r : Rec} {T T1 T2 : List Rec}

theorem addH_mem {b : Nat} {x : Blk} (h : addH L T b = some x) : ∃ r ∈ T, L r.s.i = true ∧ r.eff = .add (.blk b x) := by
  induction T with
  | nil => cases h
  | cons r T ih =>
    rw [addH] at h
    split at h
    · rename_i b' y he
      split at h
      · rename_i hc
        simp only [Option.some.injEq] at h
        subst h
        obtain ⟨h1, rfl⟩ := hc
        exact ⟨r, by simp, h1, he⟩
      · obtain ⟨s, h1, h2⟩ := ih h
        exact ⟨s, by simp [h1], h2⟩
    · obtain ⟨s, h1, h2⟩ := ih h
      exact ⟨s, by simp [h1], h2⟩

theorem addX_mem {b : Nat} {x : List C} (h : addX L T b = some x) : ∃ r ∈ T, L r.s.i = true ∧ r.eff = .add (.box b x) := by
  induction T with
  | nil => cases h
  | cons r T ih =>
    rw [addX] at h
    split at h
    · rename_i b' y he
      split at h
      · rename_i hc
        simp only [Option.some.injEq] at h
        subst h
        obtain ⟨h1, rfl⟩ := hc
        exact ⟨r, by simp, h1, he⟩
      · obtain ⟨s, h1, h2⟩ := ih h
        exact ⟨s, by simp [h1], h2⟩
    · obtain ⟨s, h1, h2⟩ := ih h
      exact ⟨s, by simp [h1], h2⟩

theorem ab_h (hn : NoMem L T) (b : Nat) : (ab L σ T).h.get b = (addH L T b).or (σ.h.get b) := by
  induction T with
  | nil => rfl
  | cons r T ih =>
    have ih := ih fun s hs => hn s (by simp [hs])
    have h0 := hn r (by simp)
    rw [ab, addH]
    cases hl : L r.s.i with
    | false =>
      rw [cond_false, ih]
      cases he : r.eff with
      | add A => cases A <;> simp
      | _ => rfl
    | true =>
      rw [cond_true, Rec.act, setE_h]
      cases he : r.eff with
      | nop => exact ih
      | mem => rw [he] at h0; rw [h0 rfl] at hl; cases hl
      | add A =>
        cases A with
        | box t cs => exact ih
        | blk b' x =>
          simp only [Eff.on, Add.on, Heap.get_set, true_and]
          split
          · rfl
          · exact ih

theorem ab_bx (hn : NoMem L T) (t : Nat) : get (ab L σ T).bx t = (addX L T t).or (get σ.bx t) := by
  induction T with
  | nil => rfl
  | cons r T ih =>
    have ih := ih fun s hs => hn s (by simp [hs])
    have h0 := hn r (by simp)
    rw [ab, addX]
    cases hl : L r.s.i with
    | false =>
      rw [cond_false, ih]
      cases he : r.eff with
      | add A => cases A <;> simp
      | _ => rfl
    | true =>
      rw [cond_true, Rec.act, setE_bx]
      cases he : r.eff with
      | nop => exact ih
      | mem => rw [he] at h0; rw [h0 rfl] at hl; cases hl
      | add A =>
        cases A with
        | blk b x => exact ih
        | box t' x =>
          simp only [Eff.on, Add.on, get_cons, true_and]
          split
          · rfl
          · exact ih

theorem ab_next (hn : NoMem L T) : (ab L σ T).h.next = σ.h.next := by
  induction T with
  | nil => rfl
  | cons r T ih =>
    have ih := ih fun s hs => hn s (by simp [hs])
    have h0 := hn r (by simp)
    rw [ab]
    cases hl : L r.s.i with
    | false => exact ih
    | true =>
      rw [cond_true, Rec.act, setE_h]
      cases he : r.eff with
      | nop => exact ih
      | mem => rw [he] at h0; rw [h0 rfl] at hl; cases hl
      | add A => cases A <;> exact ih

/-- What was there ahead is there behind what is made. -/
theorem ab_le (hn : NoMem L T) (hb : ∀ b x, addH L T b = some x → σ.h.get b = none) (ht : ∀ t x, addX L T t = some x → get σ.bx t = none) : MemLe σ (ab L σ T) := by
  refine ⟨fun t cs h => ?_, fun b x h => ?_⟩
  · rw [ab_bx hn]
    cases hx : addX L T t with
    | none => exact h
    | some y => rw [ht t y hx] at h; cases h
  · rw [ab_h hn]
    cases hx : addH L T b with
    | none => exact h
    | some y => rw [hb b y hx] at h; cases h

theorem lastM_split (L : Nat → Bool) (σ0 : St) (T : List Rec) : ∃ T2 T1, T = T2 ++ T1 ∧ NoMem L T2 ∧ (ab L σ0 T1).mem = lastM L σ0.mem T := by
  induction T with
  | nil => exact ⟨[], [], rfl, (fun _ h => by cases h), rfl⟩
  | cons r T ih =>
    obtain ⟨T2, T1, h1, h2, h3⟩ := ih
    have ext : (r.eff.isMem = true → L r.s.i = false) → lastM L σ0.mem (r :: T) = lastM L σ0.mem T → ∃ T2 T1, r :: T = T2 ++ T1 ∧ NoMem L T2 ∧ (ab L σ0 T1).mem = lastM L σ0.mem (r :: T) := fun hr he =>
      ⟨r :: T2, T1, by rw [h1]; rfl, fun s hs => by
        simp only [List.mem_cons] at hs
        rcases hs with rfl | hs
        · exact hr
        · exact h2 s hs, by rw [he]; exact h3⟩
    cases he : r.eff with
    | nop => exact ext (by simp [he, Eff.isMem]) (by simp [lastM, he])
    | add A => exact ext (by simp [he, Eff.isMem]) (by simp [lastM, he])
    | mem bx h =>
      cases hl : L r.s.i with
      | false => exact ext (fun _ => hl) (by simp [lastM, he, hl])
      | true =>
        refine ⟨[], r :: T, rfl, fun _ h => (by cases h), ?_⟩
        simp only [ab, hl, cond_true, Rec.act, setE_mem, lastM, he]
        rfl

theorem lastM_noMem (hn : NoMem L T2) {m : Mem} : lastM L m (T2 ++ T1) = lastM L m T1 := by
  induction T2 with
  | nil => rfl
  | cons r T2 ih =>
    have ih := ih fun s hs => hn s (by simp [hs])
    have h0 := hn r (by simp)
    rw [List.cons_append, lastM]
    cases he : r.eff with
    | mem bx h => rw [he] at h0; simp only [h0 rfl, cond_false]; exact ih
    | _ => exact ih
end

/-! ### States that hold the same -/
section
variable {P : Program} {N N' nt : Nat} {β β' : Pls} {μ μ' : Fms} {σ σ1 σ' σ1' : St} {a : Act} {w w' : World}

/-- A part of a state. -/
theorem SRel.less (hS : SRel N β μ nt σ a w) (he : ∀ t v, get σ1.env t = some v → get σ.env t = some v) (hm : MemLe σ1 σ) : SRel N β μ nt σ1 a w where
  heap := ⟨hS.heap.fresh, fun b x h => hS.heap.blk b x (hm.2 b x h), fun b b' x x' p p' h0 h1 h2 => hS.heap.apart b b' x x' p p' h0 (hm.2 b x h1) (hm.2 b' x' h2)⟩
  size := hS.size
  defers := hS.defers
  env := fun t v h => hS.env t v (he t v h)
  box := fun t cs h => hS.box t cs (hm.1 t cs h)
  bxap := fun t t' cs cs' r h0 h1 h2 => hS.bxap t t' cs cs' r h0 (hm.1 t cs h1) (hm.1 t' cs' h2)
  hap := fun t cs b x p h1 h2 => hS.hap t cs b x p (hm.1 t cs h1) (hm.2 b x h2)

theorem mine_less (hm : MemLe σ1 σ) {r : Nat} (h : mine β μ σ1 r) : mine β μ σ r := by
  rcases h with ⟨b, x, p, h1, h2⟩ | ⟨t, cs, h1, h2⟩
  · exact .inl ⟨b, x, p, hm.2 b x h1, h2⟩
  · exact .inr ⟨t, cs, hm.1 t cs h1, h2⟩

theorem Step.same (hst : Step β μ σ w β' μ' σ1 w') (hm : MemLe σ' σ1) : Step β μ σ w β' μ' σ' w' :=
  ⟨hst.ext, hst.os, hst.tape, hst.output, hst.size, hst.fr, fun r h => hst.own r (mine_less hm h), fun b x p h1 h2 => hst.blks b x p (hm.2 b x h1) h2⟩

theorem MemLe.of_mem (h : σ.mem = σ1.mem) : MemLe σ σ1 := by
  simp only [St.mem, Prod.mk.injEq] at h
  exact ⟨fun t cs e => by rw [← h.1]; exact e, fun b x e => by rw [← h.2]; exact e⟩

theorem MemLe.trans {σ τ υ : St} (h : MemLe σ τ) (k : MemLe τ υ) : MemLe σ υ := ⟨fun t cs e => k.1 t cs (h.1 t cs e), fun b x e => k.2 b x (h.2 b x e)⟩

/-- A step of a part of a state is a step of the whole: what was not taken is as it was. -/
theorem readd (hS : SRel N β μ nt σ a w) (hm : MemLe σ1 σ) (hS' : SRel N' β' μ' nt σ1' a w') (hst : Step β μ σ1 w β' μ' σ1' w')
    (hh : ∀ b x, σ'.h.get b = some x → σ1'.h.get b = some x ∨ (σ.h.get b = some x ∧ σ1.h.get b = none ∧ x.rw = true))
    (hx : ∀ t cs, get σ'.bx t = some cs → get σ1'.bx t = some cs ∨ (get σ.bx t = some cs ∧ get σ1.bx t = none ∧ μ' t = μ t))
    (he : ∀ t v, get σ'.env t = some v → get σ1'.env t = some v) : SRel N' β' μ' nt σ' a w' ∧ Step β μ σ w β' μ' σ' w' := by
  -- what was not taken: blocks
  have hold : ∀ b x, σ.h.get b = some x → σ1.h.get b = none → x.rw = true → ∃ p, β b = some p ∧ β' b = some p ∧ BRel β p x w ∧ ¬ mine β μ σ1 p.rb ∧ w'.heap[p.rb]? = w.heap[p.rb]? := fun b x h1 h2 h3 => by
    obtain ⟨p, hp, hb⟩ := hS.heap.blk b x h1
    have hnm : ¬ mine β μ σ1 p.rb := fun hmn => by
      rcases hmn with ⟨b0, x0, p0, e1, e2, e3, e4⟩ | ⟨t, cs, e1, e2⟩
      · exact hS.heap.apart b0 b x0 x p0 p (fun e => by subst e; rw [h2] at e1; cases e1) (hm.2 b0 x0 e1) h1 e3 hp e2 e4
      · exact hS.hap t cs b x p (hm.1 t cs e1) h1 hp e2
    exact ⟨p, hp, hst.ext b p hp, hb, hnm, hst.fr _ hb.lt hnm⟩
  have holdx : ∀ t cs, get σ.bx t = some cs → get σ1.bx t = none → ∃ r, μ t = some r ∧ XRel β r cs w ∧ ¬ mine β μ σ1 r ∧ w'.heap[r]? = w.heap[r]? := fun t cs h1 h2 => by
    obtain ⟨r, hr, hb⟩ := hS.box t cs h1
    have hnm : ¬ mine β μ σ1 r := fun hmn => by
      rcases hmn with ⟨b0, x0, p0, e1, e2, e3, e4⟩ | ⟨t0, cs0, e1, e2⟩
      · exact hS.hap t cs b0 x0 p0 h1 (hm.2 b0 x0 e1) e3 (by rw [hr, e4])
      · exact hS.bxap t t0 cs cs0 r (fun e => by subst e; rw [h2] at e1; cases e1) h1 (hm.1 t0 cs0 e1) hr e2
    exact ⟨r, hr, hb, hnm, hst.fr _ hb.lt hnm⟩
  -- where a block of the new state lies, against one that was not taken
  have hnew : ∀ b x p, σ1'.h.get b = some x → β' b = some p → ∀ b' x' p', σ.h.get b' = some x' → σ1.h.get b' = none → x'.rw = true → β b' = some p' → p.rb ≠ p'.rb := fun b x p h1 h2 b' x' p' g1 g2 g3 g4 e => by
    rcases hst.blks b x p h1 h2 with ⟨b0, x0, p0, k1, k2, k3⟩ | hge
    · exact hS.heap.apart b' b0 x' x0 p' p0 (fun e => by subst e; rw [g2] at k1; cases k1) g1 (hm.2 b0 x0 k1) g4 k2 g3 (by rw [k3, e])
    · obtain ⟨q, hq, hb⟩ := hS.heap.blk b' x' g1
      rw [g4, Option.some.injEq] at hq
      subst hq
      have := hb.lt
      omega
  refine ⟨⟨⟨hS'.heap.fresh, fun b x h => ?_, fun b b' x x' p p' h0 h1 h2 h3 h4 h5 => ?_⟩, hS'.size, hS'.defers, fun t v h => hS'.env t v (he t v h), fun t cs h => ?_, fun t t' cs cs' r h0 h1 h2 h3 h4 => ?_, fun t cs b x p h1 h2 h3 h4 => ?_⟩, ?_⟩
  · rcases hh b x h with h | ⟨h1, h2, h3⟩
    · exact hS'.heap.blk b x h
    · obtain ⟨p, hp, hp', hb, _, hw⟩ := hold b x h1 h2 h3
      exact ⟨p, hp', hb.up hst.ext hw⟩
  · rcases hh b x h1 with g | ⟨g1, g2, g3⟩ <;> rcases hh b' x' h2 with k | ⟨k1, k2, k3⟩
    · exact hS'.heap.apart b b' x x' p p' h0 g k h3 h4 h5
    · obtain ⟨q, hq, hq', _⟩ := hold b' x' k1 k2 k3
      rw [hq', Option.some.injEq] at h4
      subst h4
      exact hnew b x p g h3 b' x' q k1 k2 k3 hq
    · obtain ⟨q, hq, hq', _⟩ := hold b x g1 g2 g3
      rw [hq', Option.some.injEq] at h3
      subst h3
      exact fun e => hnew b' x' p' k h4 b x q g1 g2 g3 hq e.symm
    · obtain ⟨q, hq, hq', _⟩ := hold b x g1 g2 g3
      obtain ⟨q', hk, hk', _⟩ := hold b' x' k1 k2 k3
      rw [hq', Option.some.injEq] at h3
      rw [hk', Option.some.injEq] at h4
      subst h3; subst h4
      exact hS.heap.apart b b' x x' q q' h0 g1 k1 hq hk h5
  · rcases hx t cs h with h | ⟨h1, h2, h3⟩
    · exact hS'.box t cs h
    · obtain ⟨r, hr, hb, _, hw⟩ := holdx t cs h1 h2
      exact ⟨r, by rw [h3]; exact hr, hb.up hst.ext hw⟩
  · have hmix : ∀ t cs t' cs', t ≠ t' → get σ1'.bx t = some cs → μ' t = some r → get σ.bx t' = some cs' → get σ1.bx t' = none → μ t' = some r → False := fun t cs t' cs' h0 h1 h2 g1 g2 g3 => by
      obtain ⟨r', hr', hb, hnm, _⟩ := holdx t' cs' g1 g2
      rw [g3, Option.some.injEq] at hr'
      subst hr'
      rcases hst.own r (.inr ⟨t, cs, h1, h2⟩) with h | h
      · exact hnm h
      · have := hb.lt
        omega
    rcases hx t cs h1 with g | ⟨g1, g2, g3⟩ <;> rcases hx t' cs' h2 with k | ⟨k1, k2, k3⟩
    · exact hS'.bxap t t' cs cs' r h0 g k h3 h4
    · exact hmix t cs t' cs' h0 g h3 k1 k2 (by rw [← k3]; exact h4)
    · exact hmix t' cs' t cs h0.symm k h4 g1 g2 (by rw [← g3]; exact h3)
    · exact hS.bxap t t' cs cs' r h0 g1 k1 (by rw [← g3]; exact h3) (by rw [← k3]; exact h4)
  · rcases hx t cs h1 with g | ⟨g1, g2, g3⟩ <;> rcases hh b x h2 with k | ⟨k1, k2, k3⟩
    · exact hS'.hap t cs b x p g k h3 h4
    · obtain ⟨q, hq, hq', hb, hnm, _⟩ := hold b x k1 k2 k3
      rw [hq', Option.some.injEq] at h3
      subst h3
      rcases hst.own q.rb (.inr ⟨t, cs, g, h4⟩) with h | h
      · exact hnm h
      · have := hb.lt
        omega
    · obtain ⟨r, hr, hb, _⟩ := holdx t cs g1 g2
      rw [g3, hr, Option.some.injEq] at h4
      rcases hst.blks b x p k h3 with ⟨b0, x0, p0, e1, e2, e3⟩ | hge
      · exact hS.hap t cs b0 x0 p0 g1 (hm.2 b0 x0 e1) e2 (by rw [hr, h4, e3])
      · have := hb.lt
        omega
    · obtain ⟨q, hq, hq', _⟩ := hold b x k1 k2 k3
      rw [hq', Option.some.injEq] at h3
      subst h3
      exact hS.hap t cs b x q g1 k1 hq (by rw [← g3]; exact h4)
  · refine ⟨hst.ext, hst.os, hst.tape, hst.output, hst.size, fun r hr hn => hst.fr r hr fun h => hn (mine_less hm h), fun r h => ?_, fun b x p h1 h2 => ?_⟩
    · rcases h with ⟨b, x, p, e1, e2, e3, e4⟩ | ⟨t, cs, e1, e2⟩
      · rcases hh b x e1 with g | ⟨g1, g2, g3⟩
        · exact (hst.own r (.inl ⟨b, x, p, g, e2, e3, e4⟩)).imp (mine_less hm) id
        · obtain ⟨q, hq, hq', _⟩ := hold b x g1 g2 g3
          rw [hq', Option.some.injEq] at e3
          subst e3
          exact .inl (.inl ⟨b, x, q, g1, e2, hq, e4⟩)
      · rcases hx t cs e1 with g | ⟨g1, g2, g3⟩
        · exact (hst.own r (.inr ⟨t, cs, g, e2⟩)).imp (mine_less hm) id
        · exact .inl (.inr ⟨t, cs, g1, by rw [← g3]; exact e2⟩)
    · rcases hh b x h1 with g | ⟨g1, g2, g3⟩
      · exact (hst.blks b x p g h2).imp (fun ⟨b0, x0, p0, k1, k2⟩ => ⟨b0, x0, p0, hm.2 b0 x0 k1, k2⟩) id
      · obtain ⟨q, hq, hq', _⟩ := hold b x g1 g2 g3
        rw [hq', Option.some.injEq] at h2
        subst h2
        exact .inl ⟨b, x, q, g1, hq, rfl⟩
end
end E
end Go.Proofs.Ytnfehccnofhmnaa

/-
  An abstract machine of this place's own: the record of a region that draws its order. No condition.
-/
namespace Go.Proofs.Ytnfehccnofhmnaa
open Go.RowKit
namespace E

section
variable (P : Program) (X : Ctx) (fi : Fi) (ops : List Oper) (wins : List (Nat × Nat × Nat)) (base top : Nat) (σ0 : St)

/-- What an operation that was wanted did. -/
def Did (r : Rec) : Prop :=
  (isCall r.s.o = true ∧ ∃ f args h', callee r.pre r.s.o = some (f, args) ∧ args.all V.loose = true ∧ ACall P f args r.pre.h r.v h' ∧ r.eff = .mem r.pre.bx h') ∨
  (isCall r.s.o = false ∧ ∃ σ1, op P X fi r.nm r.s.o r.pre = some (r.v, σ1) ∧
    (((okind r.s.o = .pure ∨ okind r.s.o = .read) ∧ r.eff = .nop) ∨ (okind r.s.o = .alloc ∧ ∃ A : Add, r.eff = .add A ∧ A.fits fi r.nm r.s.o ∧
      ∀ (τ : St) (nm' : Nat), (∀ x ∈ r.s.o.op.operands.toList, ev τ x = ev r.pre x) → A.free τ → (nm' = r.nm ∨ makes fi r.s.o = false) → op P X fi nm' r.s.o τ = some (r.v, A.on τ)) ∨ (okind r.s.o = .chain ∧ r.eff = .mem σ1.bx σ1.h)))

structure RecOk (r : Rec) (T : List Rec) : Prop where
  hop : ops[r.s.i]? = some r.s.o
  pre : r.pre = ab allL σ0 T
  dst : ∀ t, r.s.o.dst = some t → t < fi.nt
  did : (wanted ops r.s.o r.pre = some false ∧ r.v = undefC ∧ ((okind r.s.o ≠ .chain ∧ r.eff = .nop) ∨ (okind r.s.o = .chain ∧ r.eff = .mem r.pre.bx r.pre.h))) ∨ (wanted ops r.s.o r.pre = some true ∧ Did P X fi r)
  nmLo : base ≤ r.nm
  nmHi : makes fi r.s.o = true → r.nm < top
  nmD : ∀ s ∈ T, makes fi s.s.o = true → s.nm < r.nm
  cnt : r.c = nMem allL T
  anc : ancOf (T.map (·.s)) r.s.o.after.toList = some r.s.m
  new : siFind (T.map (·.s)) r.s.i = none
  pair : ∀ s ∈ T, pairOk ops r.s r.c s.s = true
  bnd : boundsOf wins r.s.i r.c = (r.lo, r.s.hi, r.s.tight)
  rd : readOk r.s.o r.lo r.s.hi r.c (chainAnc r.s.m (T.map (·.s))) = true

def TrOk : List Rec → Prop
  | [] => True
  | r :: T => TrOk T ∧ RecOk P X fi ops wins base top σ0 r T
end

section
variable {P : Program} {X : Ctx} {fi : Fi} {ops : List Oper} {wins : List (Nat × Nat × Nat)} {base top : Nat} {σ σ' σ0 : St} {o : Oper} {v : V} {nm : Nat}

theorem put_setE {d : Option Nat} (h : put fi d v σ = some σ') : σ' = setE d v σ ∧ ∀ t, d = some t → t < fi.nt := by
  unfold put at h
  split at h
  · simp only [Option.some.injEq] at h
    exact ⟨h.symm, fun t ht => by cases ht⟩
  · rename_i t
    split at h
    · rename_i hlt
      simp only [Option.some.injEq] at h
      exact ⟨h.symm, fun u hu => by simp only [Option.some.injEq] at hu; subst hu; exact hlt⟩
    · cases h

theorem isCall_chain (h : isCall o = true) : okind o = .chain := by
  unfold isCall at h
  unfold okind
  split at h
  · rename_i c ho
    simp only [ho]
    split at h
    · rename_i hc
      simp only [hc]
    · cases h
  · cases h

theorem okind_cases (o : Oper) : okind o = .pure ∨ okind o = .read ∨ okind o = .alloc ∨ okind o = .chain := by
  cases okind o <;> simp

/-- The record that a run of the region leaves. -/
theorem drawL_trace (K : St → Prop) : ∀ (l : List Nat) (nm : Nat) (B : List Mem) (R : List Rd) (σ : St) (T : List Rec), wpDrawL P X fi ops wins l nm B R σ K →
    regGo ops wins l (T.map (·.s)) (nMem allL T) = true → TrOk P X fi ops wins base top σ0 T → σ = ab allL σ0 T → B = mems σ0.mem T →
    (∀ r ∈ T, wanted ops r.s.o r.pre = some true → okind r.s.o = .read → r.s.tight = false → (⟨r.s.o, r.pre.env, r.v, r.lo, r.s.hi⟩ : Rd) ∈ R) →
    base ≤ nm → nm + countMk fi ops l = top → (∀ s ∈ T, makes fi s.s.o = true → s.nm < nm) →
    ∃ T', TrOk P X fi ops wins base top σ0 T' ∧ T'.map (·.s.i) = l.reverse ++ T.map (·.s.i) ∧ K (ab allL σ0 T') ∧
      ∀ r ∈ T', wanted ops r.s.o r.pre = some true → okind r.s.o = .read → r.s.tight = false → RdOk P X fi (mems σ0.mem T') ⟨r.s.o, r.pre.env, r.v, r.lo, r.s.hi⟩
  | [], nm, B, R, σ, T, h, hg, hT, hσ, hB, hR, hb, ht, hn => by
    refine ⟨T, hT, rfl, by rw [← hσ]; exact h.2, fun r hr h1 h2 h3 => ?_⟩
    rw [← hB]
    exact h.1 _ (hR r hr h1 h2 h3)
  | i :: l, nm, B, R, σ, T, h, hg, hT, hσ, hB, hR, hb, ht, hn => by
    simp only [wpDrawL] at h
    rw [regGo] at hg
    cases ho : ops[i]? with
    | none => rw [ho] at h; exact h.elim
    | some o =>
      rw [ho] at h hg
      simp only at h hg
      cases hanc : ancOf (T.map (·.s)) o.after.toList with
      | none => rw [hanc] at hg; cases hg
      | some m =>
        rw [hanc] at hg
        simp only [Bool.and_eq_true, Option.isNone_iff_eq_none] at hg
        obtain ⟨⟨⟨hnew, hpair⟩, hrd⟩, hgo⟩ := hg
        rw [countMk, ho] at ht
        simp only at ht
        have hnm' : base ≤ nmOf fi o nm := by
          unfold nmOf
          cases makes fi o <;> simp only [cond_true, cond_false] <;> omega
        have ht' : nmOf fi o nm + countMk fi ops l = top := by
          unfold nmOf
          cases hm : makes fi o <;> rw [hm] at ht <;> simp only [cond_true, cond_false] at ht ⊢ <;> omega
        have hhi : makes fi o = true → nm < top := fun hm => by
          rw [hm, cond_true] at ht
          omega
        -- one step, whatever it did
        have go : ∀ (v : V) (e : Eff) (σ' : St) (R' : List Rd) (B' : List Mem), (e.isMem = (okind o).isChain) → σ' = setE o.dst v (e.on σ) → (∀ t, o.dst = some t → t < fi.nt) →
            ((wanted ops o σ = some false ∧ v = undefC ∧ ((okind o ≠ .chain ∧ e = .nop) ∨ (okind o = .chain ∧ e = .mem σ.bx σ.h))) ∨ (wanted ops o σ = some true ∧ Did P X fi ⟨⟨i, m, o, (boundsOf wins i (nMem allL T)).2.1, (boundsOf wins i (nMem allL T)).2.2⟩, nMem allL T, (boundsOf wins i (nMem allL T)).1, nm, v, e, σ⟩)) →
            B' = (match e with | .mem bx h => (bx, h) :: B | _ => B) → (∀ rd ∈ R, rd ∈ R') →
            (wanted ops o σ = some true → okind o = .read → (boundsOf wins i (nMem allL T)).2.2 = false → (⟨o, σ.env, v, (boundsOf wins i (nMem allL T)).1, (boundsOf wins i (nMem allL T)).2.1⟩ : Rd) ∈ R') →
            wpDrawL P X fi ops wins l (nmOf fi o nm) B' R' σ' K →
            ∃ T', TrOk P X fi ops wins base top σ0 T' ∧ T'.map (·.s.i) = (i :: l).reverse ++ T.map (·.s.i) ∧ K (ab allL σ0 T') ∧
              ∀ r ∈ T', wanted ops r.s.o r.pre = some true → okind r.s.o = .read → r.s.tight = false → RdOk P X fi (mems σ0.mem T') ⟨r.s.o, r.pre.env, r.v, r.lo, r.s.hi⟩ := fun v e σ' R' B' he hs hd hdid hB' hRR hR' hw => by
          let r : Rec := ⟨⟨i, m, o, (boundsOf wins i (nMem allL T)).2.1, (boundsOf wins i (nMem allL T)).2.2⟩, nMem allL T, (boundsOf wins i (nMem allL T)).1, nm, v, e, σ⟩
          have hrok : RecOk P X fi ops wins base top σ0 r T := {
            hop := ho
            pre := hσ
            dst := hd
            did := hdid
            nmLo := hb
            nmHi := hhi
            nmD := hn
            cnt := rfl
            anc := hanc
            new := hnew
            pair := fun s hs => List.all_eq_true.1 hpair s.s (List.mem_map.2 ⟨s, hs, rfl⟩)
            bnd := rfl
            rd := hrd }
          have hg' : regGo ops wins l ((r :: T).map (·.s)) (nMem allL (r :: T)) = true := by
            have : nMem allL (r :: T) = cond (okind o).isChain (nMem allL T + 1) (nMem allL T) := by
              show cond (e.isMem && true) _ _ = _
              rw [Bool.and_true, he]
            rw [this]
            exact hgo
          obtain ⟨T', h1, h2, h3, h4⟩ := drawL_trace K l (nmOf fi o nm) B' R' σ' (r :: T) hw hg' ⟨hT, hrok⟩ (by rw [hs, hσ]; rfl) (by
              rw [hB', mems, hB]
              all_goals (cases e <;> rfl)) (fun s hs h1 h2 h3 => by
              simp only [List.mem_cons] at hs
              rcases hs with rfl | hs
              · exact hR' h1 h2 h3
              · exact hRR _ (hR s hs h1 h2 h3)) hnm' ht' (fun s hs hm => by
              simp only [List.mem_cons] at hs
              rcases hs with rfl | hs
              · show nm < nmOf fi o nm
                unfold nmOf
                have : makes fi o = true := hm
                rw [this, cond_true]
                omega
              · have := hn s hs hm
                unfold nmOf
                cases makes fi o <;> simp only [cond_true, cond_false] <;> omega)
          exact ⟨T', h1, by rw [h2]; simp [r], h3, h4⟩
        cases hwa : wanted ops o σ with
        | none => rw [hwa] at h; exact h.elim
        | some b =>
          rw [hwa] at h
          cases b with
          | false =>
            simp only at h
            obtain ⟨σ', hp, h'⟩ := h
            obtain ⟨e1, e2⟩ := put_setE hp
            by_cases hk : okind o = .chain
            · refine go undefC (.mem σ.bx σ.h) σ' R ((σ.bx, σ.h) :: B) (by rw [hk]; rfl) (by rw [e1]; rfl) e2 (.inl ⟨hwa, rfl, .inr ⟨hk, rfl⟩⟩) rfl (fun _ h => h) (fun h => by rw [hwa] at h; cases h) ?_
              simpa only [if_pos hk] using h'
            · refine go undefC .nop σ' R B (by cases h : okind o <;> simp_all [Eff.isMem, OK.isChain]) (by rw [e1]; rfl) e2 (.inl ⟨hwa, rfl, .inl ⟨hk, rfl⟩⟩) rfl (fun _ h => h) (fun h => by rw [hwa] at h; cases h) ?_
              simpa only [if_neg hk] using h'
          | true =>
            simp only at h
            cases hc : isCall o with
            | true =>
              rw [if_pos hc] at h
              obtain ⟨f, args, v, h', σ', hcal, hl, hA, hp, h2⟩ := h
              obtain ⟨e1, e2⟩ := put_setE hp
              have hk := isCall_chain hc
              have hmk : makes fi o = false := by
                unfold isCall at hc
                unfold makes
                split at hc
                · rename_i c hoc
                  simp only [hoc]
                  split at hc
                  · rename_i hcc; simp only [hcc]
                  · cases hc
                · cases hc
              refine go v (.mem σ.bx h') σ' R ((σ.bx, h') :: B) (by rw [hk]; rfl) (by rw [e1]; rfl) e2 (.inr ⟨hwa, .inl ⟨hc, f, args, h', hcal, hl, hA, rfl⟩⟩) rfl (fun _ h => h) (fun _ h => by rw [hk] at h; cases h) ?_
              unfold nmOf
              rw [hmk, cond_false]
              exact h2
            | false =>
              rw [if_neg (by simp [hc])] at h
              obtain ⟨v, σ1, σ', hop, hp, h2⟩ := h
              obtain ⟨e1, e2⟩ := put_setE hp
              have hmem : ∀ rd ∈ R, rd ∈ (match winOf wins i with | some (lo, hi) => (⟨o, σ.env, v, lo, hi⟩ : Rd) :: R | none => R) := fun rd hrd => by
                split
                · exact List.mem_cons_of_mem _ hrd
                · exact hrd
              have hwin : (boundsOf wins i (nMem allL T)).2.2 = false → (⟨o, σ.env, v, (boundsOf wins i (nMem allL T)).1, (boundsOf wins i (nMem allL T)).2.1⟩ : Rd) ∈ (match winOf wins i with | some (lo, hi) => (⟨o, σ.env, v, lo, hi⟩ : Rd) :: R | none => R) := fun hf => by
                unfold boundsOf at hf ⊢
                cases hwi : winOf wins i with
                | none => rw [hwi] at hf; cases hf
                | some q => obtain ⟨lo, hi⟩ := q; simp
              rcases okind_cases o with hk | hk | hk | hk
              · obtain ⟨_, rfl⟩ := op_float (nm' := nm) (τ := σ) (.inl hk) (fun _ _ => rfl) (fun h => by rw [hk] at h; cases h) hop
                refine go v .nop σ' _ B (by rw [hk]; rfl) (by rw [e1]; rfl) e2 (.inr ⟨hwa, .inr ⟨hc, σ1, hop, .inl ⟨.inl hk, rfl⟩⟩⟩) rfl hmem (fun _ h => by rw [hk] at h; cases h) ?_
                simp only [hk, reduceCtorEq, if_false] at h2
                exact h2
              · obtain ⟨_, rfl⟩ := op_float (nm' := nm) (τ := σ) (.inr hk) (fun _ _ => rfl) (fun _ => ⟨fun _ _ h => h, fun _ _ h => h⟩) hop
                refine go v .nop σ' _ B (by rw [hk]; rfl) (by rw [e1]; rfl) e2 (.inr ⟨hwa, .inr ⟨hc, σ1, hop, .inl ⟨.inr hk, rfl⟩⟩⟩) rfl hmem (fun _ _ h => hwin h) ?_
                simp only [hk, reduceCtorEq, if_false] at h2
                exact h2
              · obtain ⟨A, rfl, hfree, hfits, hall⟩ := op_adds hk hop
                refine go v (.add A) σ' _ B (by rw [hk]; rfl) (by rw [e1]; rfl) e2 (.inr ⟨hwa, .inr ⟨hc, _, hop, .inr (.inl ⟨hk, A, rfl, hfits, hall⟩)⟩⟩) rfl hmem (fun _ h => by rw [hk] at h; cases h) ?_
                simp only [hk, reduceCtorEq, if_false] at h2
                exact h2
              · obtain ⟨_, henv⟩ := op_chain (e := σ.env) hk hc (fun _ _ => rfl) hop
                have hs1 : (Eff.mem σ1.bx σ1.h).on σ = σ1 := by
                  show { σ with bx := σ1.bx, h := σ1.h } = σ1
                  rw [← henv]
                refine go v (.mem σ1.bx σ1.h) σ' _ ((σ1.bx, σ1.h) :: B) (by rw [hk]; rfl) (by rw [hs1, e1]) e2 (.inr ⟨hwa, .inr ⟨hc, σ1, hop, .inr (.inr ⟨hk, rfl⟩)⟩⟩) rfl hmem (fun _ h => by rw [hk] at h; cases h) ?_
                simp only [hk, if_true] at h2
                exact h2
end
end E
end Go.Proofs.Ytnfehccnofhmnaa

/-
  An abstract machine of this place's own: a region that draws its order: what may stand ahead of what. No condition.
-/
namespace Go.Proofs.Ytnfehccnofhmnaa
open Go.RowKit
namespace E

theorem memN_iff {t : Nat} : ∀ {l : List Nat}, memN t l = true ↔ t ∈ l
  | [] => by simp [memN]
  | x :: l => by
    have ih := memN_iff (t := t) (l := l)
    simp only [memN, Bool.or_eq_true, ih, List.mem_cons]
    constructor
    · rintro (h | h)
      · exact .inl (Nat.eq_of_beq_eq_true h).symm
      · exact .inr h
    · rintro (rfl | h)
      · exact .inl (Nat.beq_refl _)
      · exact .inr h

theorem siFind_some {i : Nat} {s : SI} : ∀ {done : List SI}, siFind done i = some s → s ∈ done ∧ s.i = i
  | [], h => by cases h
  | x :: l, h => by
    rw [siFind] at h
    cases hb : Nat.beq x.i i with
    | true =>
      rw [hb] at h
      simp only [cond_true, Option.some.injEq] at h
      subst h
      exact ⟨by simp, Nat.eq_of_beq_eq_true hb⟩
    | false =>
      rw [hb] at h
      obtain ⟨h1, h2⟩ := siFind_some (done := l) h
      exact ⟨by simp [h1], h2⟩

theorem siFind_none {i : Nat} : ∀ {done : List SI}, siFind done i = none → ∀ s ∈ done, s.i ≠ i
  | [], _ => by simp
  | x :: l, h => by
    rw [siFind] at h
    cases hb : Nat.beq x.i i with
    | true => rw [hb] at h; cases h
    | false =>
      rw [hb] at h
      intro s hs
      simp only [List.mem_cons] at hs
      rcases hs with rfl | hs
      · intro e
        rw [e, Nat.beq_refl] at hb
        cases hb
      · exact siFind_none (done := l) h s hs

theorem ancOf_in {L : Nat → Bool} {done : List SI} (hd : ∀ s ∈ done, L s.i = true → ∀ j, Nat.testBit s.m j = true → L j = true) : ∀ {es : List Edge} {m : Nat}, ancOf done es = some m → (∀ e ∈ es, Region.binds .any e = true → L e.on = true) → ∀ j, Nat.testBit m j = true → L j = true
  | [], m, h, _, j, hj => by
    simp only [ancOf, Option.some.injEq] at h
    subst h
    simp at hj
  | e :: es, m, h, he, j, hj => by
    rw [ancOf] at h
    cases hb : Region.binds .any e with
    | false =>
      rw [hb] at h
      exact ancOf_in hd (es := es) h (fun x hx => he x (by simp [hx])) j hj
    | true =>
      rw [hb, cond_true] at h
      split at h
      · rename_i s m' hs hm'
        simp only [Option.some.injEq] at h
        subst h
        obtain ⟨h1, h2⟩ := siFind_some hs
        have hon := he e (by simp) hb
        rw [Nat.testBit_or, Nat.testBit_or] at hj
        simp only [Bool.or_eq_true] at hj
        rcases hj with hj | hj | hj
        · exact ancOf_in hd (es := es) hm' (fun x hx => he x (by simp [hx])) j hj
        · exact hd s h1 (by rw [h2]; exact hon) j hj
        · rw [Nat.testBit_shiftLeft] at hj
          simp only [Bool.and_eq_true, decide_eq_true_eq] at hj
          obtain ⟨h3, h4⟩ := hj
          have : j - e.on = 0 := by
            by_cases h0 : j - e.on = 0
            · exact h0
            · exact absurd (Nat.testBit_one_eq_true_iff_self_eq_zero.1 h4) h0
          have : j = e.on := by omega
          rw [this]
          exact hon
      · cases h

section pairs
variable {ops : List Oper} {s t : SI} {c : Nat}

theorem pair_apart (h : pairOk ops t c s = true) (hb : Nat.testBit t.m s.i = false) : apartB ops s.o t.o = true := by
  unfold pairOk at h
  rw [hb, Bool.false_or] at h
  simp only [Bool.and_eq_true] at h
  exact h.2.1

theorem pair_chain (h : pairOk ops t c s = true) (hb : Nat.testBit t.m s.i = false) (hk : okind t.o = .chain) : okind s.o ≠ .chain ∧ okind s.o ≠ .alloc ∧ (okind s.o = .read → c < s.hi) := by
  unfold pairOk at h
  rw [hb, Bool.false_or] at h
  simp only [Bool.and_eq_true, hk] at h
  obtain ⟨_, _, h⟩ := h
  refine ⟨fun he => ?_, fun he => ?_, fun he => ?_⟩
  · rw [he] at h; cases h
  · rw [he] at h; cases h
  · rw [he] at h; simpa [Nat.blt_eq] using h

theorem pair_read (h : pairOk ops t c s = true) (hb : Nat.testBit t.m s.i = false) (hk : okind t.o = .read) (ht : t.tight = true) : okind s.o ≠ .alloc := by
  unfold pairOk at h
  rw [hb, Bool.false_or] at h
  simp only [Bool.and_eq_true, hk, ht, Bool.true_and] at h
  obtain ⟨_, _, h⟩ := h
  intro he
  rw [he] at h
  cases h

theorem dstEq_refl (d : Nat) : dstEq (some d) (some d) = true := Nat.beq_refl d

theorem pair_alloc (h : pairOk ops t c s = true) (hk : okind s.o = .alloc ∨ okind t.o = .alloc) : ∀ d, s.o.dst = some d → t.o.dst ≠ some d := by
  unfold pairOk at h
  simp only [Bool.and_eq_true] at h
  intro d h1 h2
  have h := h.1
  rw [h1, h2, dstEq_refl] at h
  rcases hk with hk | hk <;> rw [hk] at h <;> simp [OK.isAlloc] at h

theorem apart_l {x y : Oper} (h : apartB ops x y = true) : (∀ d, x.dst = some d → d ∉ looksE ops y) ∧ (∀ d, y.dst = some d → d ∉ looksE ops x) ∧ (∀ d, x.dst = some d → y.dst ≠ some d) := by
  unfold apartB at h
  simp only [Bool.and_eq_true, Bool.not_eq_true'] at h
  obtain ⟨⟨h1, h2⟩, h3⟩ := h
  refine ⟨fun d hd hm => ?_, fun d hd hm => ?_, fun d hd hy => ?_⟩
  · rw [hd] at h1
    have : memN d (looksE ops y) = true := memN_iff.2 hm
    simp only [dstIn, this] at h1
    cases h1
  · rw [hd] at h2
    have : memN d (looksE ops x) = true := memN_iff.2 hm
    simp only [dstIn, this] at h2
    cases h2
  · rw [hd, hy, dstEq_refl] at h3
    cases h3

theorem tmpsOf_mem {u : Nat} : ∀ {l : List Operand}, Operand.tmp u ∈ l → u ∈ tmpsOf l
  | [], h => by cases h
  | x :: l, h => by
    simp only [List.mem_cons] at h
    rcases h with rfl | h
    · simp [tmpsOf]
    · have := tmpsOf_mem h
      cases x <;> simp [tmpsOf, this]

theorem looks_op {o : Oper} {u : Nat} (h : Operand.tmp u ∈ o.op.operands.toList) : u ∈ looksE ops o := List.mem_append_right _ (tmpsOf_mem h)

theorem looks_guard {o oj : Oper} {j u : Nat} {want : Bool} (h1 : o.guard = some (j, want)) (h2 : ops[j]? = some oj) (h3 : oj.dst = some u) : u ∈ looksE ops o := by
  refine List.mem_append_left _ ?_
  rw [h1]
  simp [h2, h3]
end pairs

section
variable {P : Program} {X : Ctx} {fi : Fi} {ops : List Oper} {wins : List (Nat × Nat × Nat)} {base top : Nat} {σ0 : St} {L : Nat → Bool} {r s : Rec} {T T1 T2 : List Rec}

theorem RecOk.isMem (h : RecOk P X fi ops wins base top σ0 r T) : r.eff.isMem = true ↔ okind r.s.o = .chain := by
  rcases h.did with ⟨_, _, ⟨h1, h2⟩ | ⟨h1, h2⟩⟩ | ⟨_, ⟨h1, _, _, _, _, _, _, h2⟩ | ⟨_, _, _, ⟨h1, h2⟩ | ⟨h1, _, h2, _⟩ | ⟨h1, h2⟩⟩⟩
  · simp [h1, h2, Eff.isMem]
  · simp [h1, h2, Eff.isMem]
  · simp [isCall_chain h1, h2, Eff.isMem]
  · rcases h1 with h1 | h1 <;> simp [h1, h2, Eff.isMem]
  · simp [h1, h2, Eff.isMem]
  · simp [h1, h2, Eff.isMem]

theorem RecOk.add (h : RecOk P X fi ops wins base top σ0 r T) {A : Add} (he : r.eff = .add A) : okind r.s.o = .alloc ∧ A.fits fi r.nm r.s.o := by
  rcases h.did with ⟨_, _, ⟨h1, h2⟩ | ⟨h1, h2⟩⟩ | ⟨_, ⟨h1, _, _, _, _, _, _, h2⟩ | ⟨_, _, _, ⟨h1, h2⟩ | ⟨h1, _, h2, h3, _⟩ | ⟨h1, h2⟩⟩⟩ <;> rw [he] at h2 <;> try (cases h2; done)
  simp only [Eff.add.injEq] at h2
  subst h2
  exact ⟨h1, h3⟩

theorem TrOk.split : ∀ {T2 : List Rec}, TrOk P X fi ops wins base top σ0 (T2 ++ r :: T1) → RecOk P X fi ops wins base top σ0 r T1 ∧ TrOk P X fi ops wins base top σ0 T1
  | [], h => ⟨h.2, h.1⟩
  | _ :: _, h => TrOk.split h.1

theorem TrOk.tail : ∀ {T2 : List Rec}, TrOk P X fi ops wins base top σ0 (T2 ++ T1) → TrOk P X fi ops wins base top σ0 T1
  | [], h => h
  | _ :: _, h => TrOk.tail h.1

theorem TrOk.later (h : TrOk P X fi ops wins base top σ0 (T2 ++ r :: T1)) (hs : s ∈ T2) : ∃ T21 T22, T2 = T21 ++ s :: T22 ∧ RecOk P X fi ops wins base top σ0 s (T22 ++ r :: T1) := by
  obtain ⟨T21, T22, rfl⟩ := List.append_of_mem hs
  rw [List.append_assoc, List.cons_append] at h
  exact ⟨T21, T22, rfl, h.split.1⟩

theorem TrOk.mem (h : TrOk P X fi ops wins base top σ0 T) (hs : s ∈ T) : ∃ T21 T22, T = T21 ++ s :: T22 ∧ RecOk P X fi ops wins base top σ0 s T22 := by
  obtain ⟨T21, T22, rfl⟩ := List.append_of_mem hs
  exact ⟨T21, T22, rfl, h.split.1⟩

/-- Two operations of the region are one, or one is ahead of the other. -/
theorem two_cases {x y : Rec} (hx : x ∈ T) (hy : y ∈ T) : x = y ∨ (∃ A B C, T = A ++ x :: (B ++ y :: C)) ∨ (∃ A B C, T = A ++ y :: (B ++ x :: C)) := by
  obtain ⟨A, B, rfl⟩ := List.append_of_mem hx
  simp only [List.mem_append, List.mem_cons] at hy
  rcases hy with hy | rfl | hy
  · obtain ⟨C, D, rfl⟩ := List.append_of_mem hy
    exact .inr (.inr ⟨C, D, B, by simp⟩)
  · exact .inl rfl
  · obtain ⟨C, D, rfl⟩ := List.append_of_mem hy
    exact .inr (.inl ⟨A, C, D, rfl⟩)

def Closed (L : Nat → Bool) (T : List Rec) : Prop := ∀ s ∈ T, L s.s.i = true → ∀ e ∈ s.s.o.after.toList, Region.binds .any e = true → L e.on = true

theorem anc_L : ∀ {T : List Rec}, TrOk P X fi ops wins base top σ0 T → Closed L T → ∀ s ∈ T.map (·.s), L s.i = true → ∀ j, Nat.testBit s.m j = true → L j = true
  | [], _, _ => by simp
  | r :: T, h, hc => by
    have ih := anc_L h.1 fun s hs => hc s (by simp [hs])
    intro s hs hl
    simp only [List.map_cons, List.mem_cons] at hs
    rcases hs with rfl | hs
    · exact ancOf_in ih h.2.anc (hc r (by simp) hl)
    · exact ih s hs hl

/-- An operation that may be taken now. -/
structure Sit (P : Program) (X : Ctx) (fi : Fi) (ops : List Oper) (wins : List (Nat × Nat × Nat)) (base top : Nat) (σ0 : St) (L : Nat → Bool) (T2 : List Rec) (r : Rec) (T1 : List Rec) : Prop where
  tr : TrOk P X fi ops wins base top σ0 (T2 ++ r :: T1)
  cl : Closed L (T2 ++ r :: T1)
  nl : L r.s.i = false
  rdy : ∀ e ∈ r.s.o.after.toList, Region.binds .any e = true → L e.on = true

namespace Sit
variable (S : Sit P X fi ops wins base top σ0 L T2 r T1)
include S

theorem rok : RecOk P X fi ops wins base top σ0 r T1 := S.tr.split.1

theorem anc : ∀ j, Nat.testBit r.s.m j = true → L j = true :=
  ancOf_in (anc_L S.tr.split.2 fun s hs => S.cl s (by simp [hs])) S.rok.anc S.rdy

theorem ahead (_hs : s ∈ T1) (hl : L s.s.i = false) : Nat.testBit r.s.m s.s.i = false := by
  cases h : Nat.testBit r.s.m s.s.i with
  | false => rfl
  | true => rw [S.anc _ h] at hl; cases hl

theorem behind (hs : s ∈ T2) (hl : L s.s.i = true) : Nat.testBit s.s.m r.s.i = false := by
  cases h : Nat.testBit s.s.m r.s.i with
  | false => rfl
  | true =>
    have := anc_L S.tr S.cl s.s (List.mem_map.2 ⟨s, by simp [hs], rfl⟩) hl _ h
    rw [S.nl] at this
    cases this

theorem apart1 (hs : s ∈ T1) (hl : L s.s.i = false) : apartB ops s.s.o r.s.o = true := pair_apart (S.rok.pair s hs) (S.ahead hs hl)

theorem apart2 (hs : s ∈ T2) (hl : L s.s.i = true) : apartB ops r.s.o s.s.o = true := by
  obtain ⟨_, _, _, h⟩ := S.tr.later hs
  exact pair_apart (h.pair r (by simp)) (S.behind hs hl)

/-- What an operation looks at is as it was in the one order. -/
theorem look {t : Nat} (ht : t ∈ looksE ops r.s.o) : get (ab L σ0 (T2 ++ r :: T1)).env t = get r.pre.env t := by
  rw [ab_append, ab_env_none (fun s hs hl hd => (apart_l (S.apart2 hs hl)).2.1 t hd ht), ab, S.nl, cond_false, S.rok.pre]
  refine ab_env rfl fun s hs hd => ?_
  cases hl : L s.s.i with
  | true => rfl
  | false => exact absurd ht ((apart_l (S.apart1 hs hl)).1 t hd)

theorem evs_same : ∀ x ∈ r.s.o.op.operands.toList, ev (ab L σ0 (T2 ++ r :: T1)) x = ev r.pre x := fun x hx => by
  cases x with
  | tmp t => exact S.look (looks_op hx)
  | _ => rfl

theorem wanted_same : wanted ops r.s.o (ab L σ0 (T2 ++ r :: T1)) = wanted ops r.s.o r.pre :=
  wanted_eq fun _ _ _ _ h1 h2 h3 => S.look (looks_guard h1 h2 h3)

/-- Behind a reading that stands where it stood, or behind one of the chain, nothing is missing. -/
theorem mem_pre (h1 : ∀ s ∈ T1, okind s.s.o = .chain ∨ okind s.s.o = .alloc → L s.s.i = true) : (ab L σ0 T1).mem = r.pre.mem := by
  rw [S.rok.pre]
  refine ab_mem_eq rfl fun s hs hq => ?_
  obtain ⟨_, _, _, hok⟩ := S.tr.split.2.mem hs
  rw [h1 s hs ?_]
  · rfl
  · cases he : s.eff with
    | nop => rw [he] at hq; cases hq
    | mem bx h => exact .inl (hok.isMem.1 (by rw [he]; rfl))
    | add A => exact .inr (hok.add he).1

theorem chain1 (hk : okind r.s.o = .chain) : ∀ s ∈ T1, okind s.s.o = .chain ∨ okind s.s.o = .alloc → L s.s.i = true := fun s hs h => by
  cases hl : L s.s.i with
  | true => rfl
  | false =>
    obtain ⟨g1, g2, _⟩ := pair_chain (S.rok.pair s hs) (S.ahead hs hl) hk
    rcases h with h | h
    · exact absurd h g1
    · exact absurd h g2

/-- Behind an operation of the chain, or one that makes something, nothing of the chain has been taken. -/
theorem noMem2 (hk : okind r.s.o = .chain ∨ okind r.s.o = .alloc) : NoMem L T2 := fun s hs hm => by
  cases hl : L s.s.i with
  | false => rfl
  | true =>
    obtain ⟨_, _, _, h⟩ := S.tr.later hs
    obtain ⟨g1, g2, _⟩ := pair_chain (h.pair r (by simp)) (S.behind hs hl) (h.isMem.1 hm)
    rcases hk with hk | hk
    · exact absurd hk g1
    · exact absurd hk g2

end Sit

/-- The chain is taken in its order. -/
theorem preOk : ∀ {T : List Rec}, TrOk P X fi ops wins base top σ0 T → Closed L T → PreOk L T
  | [], _, _ => trivial
  | x :: T, h, hc => ⟨preOk h.1 fun s hs => hc s (by simp [hs]), fun hm hl s hs hm' => by
    cases hls : L s.s.i with
    | true => rfl
    | false =>
      obtain ⟨_, _, _, hs'⟩ := h.1.mem hs
      have hb : Nat.testBit x.s.m s.s.i = false := by
        cases hb : Nat.testBit x.s.m s.s.i with
        | false => rfl
        | true => rw [anc_L h hc x.s (by simp) hl _ hb] at hls; cases hls
      exact absurd (hs'.isMem.1 hm') (pair_chain (h.2.pair s hs) hb (h.2.isMem.1 hm)).1⟩
end
end E
end Go.Proofs.Ytnfehccnofhmnaa

/-
  An abstract machine of this place's own: a region that draws its order: what holds between its operations. No condition.
-/
namespace Go.Proofs.Ytnfehccnofhmnaa
open Go.RowKit
namespace E

def Add.fresh : Add → Mem → Prop
  | .box t _, m => get m.1 t = none
  | .blk b _, m => m.2.get b = none

def with1 (L : Nat → Bool) (i : Nat) : Nat → Bool := fun j => if j = i then true else L j

section
variable {P : Program} {X : Ctx} {fi : Fi} {ops : List Oper} {wins : List (Nat × Nat × Nat)} {base top : Nat} {σ σ0 : St} {L L' : Nat → Bool} {r s : Rec} {T T1 T2 : List Rec}

theorem with1_le {i j : Nat} (h : with1 L i j = false) : L j = false := by
  unfold with1 at h
  split at h
  · cases h
  · exact h
theorem with1_ne {i j : Nat} (h : j ≠ i) : with1 L i j = L j := by simp [with1, h]
theorem with1_same {i : Nat} : with1 L i i = true := by simp [with1]

theorem ab_congr (h : ∀ s ∈ T, L s.s.i = L' s.s.i) : ab L σ T = ab L' σ T := by
  induction T with
  | nil => rfl
  | cons r T ih => rw [ab, ab, ih fun s hs => h s (by simp [hs]), h r (by simp)]

theorem lastM_congr {m : Mem} (h : ∀ s ∈ T, s.eff.isMem = true → L s.s.i = L' s.s.i) : lastM L m T = lastM L' m T := by
  induction T with
  | nil => rfl
  | cons r T ih =>
    have ih := ih fun s hs => h s (by simp [hs])
    have h0 := h r (by simp)
    rw [lastM, lastM]
    cases he : r.eff with
    | mem bx h' => rw [he] at h0; simp only [h0 rfl, ih]
    | _ => exact ih

theorem boxSlot_dst {o : Oper} {t : Nat} (h : boxSlot fi o = some t) : o.dst = some t ∧ okind o = .alloc := by
  unfold boxSlot at h
  have key : (match o.dst with | some t => cond (fi.prom.contains t) (some t) none | none => none) = some t → o.dst = some t := fun h => by
    split at h
    · rename_i u hu
      cases hp : fi.prom.contains u <;> rw [hp] at h
      · cases h
      · simp only [cond_true, Option.some.injEq] at h
        rw [hu, h]
    · cases h
  split at h
  · rename_i ho
    exact ⟨key h, by simp [okind, ho]⟩
  · rename_i ho
    exact ⟨key h, by simp [okind, ho]⟩
  · cases h

/-- What is made behind a part of the region is not in that part. -/
theorem fresh_at (hT : TrOk P X fi ops wins base top σ0 (T2 ++ T1)) (hn : NoMem L T2)
    (hf : ∀ T2' s T1', T2 ++ T1 = T2' ++ s :: T1' → NoMem L T2' → ∀ A, s.eff = .add A → A.fresh (lastM L σ0.mem (T2 ++ T1)))
    (hs : s ∈ T2) {A : Add} (hA : s.eff = .add A) : A.fresh (ab L σ0 T1).mem := by
  obtain ⟨T21, T22, rfl⟩ := List.append_of_mem hs
  have hf := hf T21 s (T22 ++ T1) (by simp) (fun x hx => hn x (by simp [hx])) A hA
  rw [lastM_noMem hn] at hf
  obtain ⟨T12, T11, rfl, h2, h3⟩ := lastM_split L σ0 T1
  rw [← h3] at hf
  have hok : RecOk P X fi ops wins base top σ0 s (T22 ++ (T12 ++ T11)) := by
    rw [List.append_assoc, List.cons_append] at hT
    exact hT.split.1
  have hT2 : TrOk P X fi ops wins base top σ0 (T12 ++ T11) := hT.tail
  obtain ⟨hk, hfit⟩ := hok.add hA
  rw [ab_append]
  cases A with
  | box t cs =>
    show get (ab L (ab L σ0 T11) T12).bx t = none
    rw [ab_bx h2]
    cases hx : addX L T12 t with
    | none => exact hf
    | some y =>
      obtain ⟨q, g1, _, g3⟩ := addX_mem hx
      obtain ⟨_, T', _, hq⟩ := hT2.mem (List.mem_append_left _ g1)
      obtain ⟨_, gf⟩ := hq.add g3
      exact absurd (boxSlot_dst hfit).1 (pair_alloc (hok.pair q (by simp [g1])) (.inr hk) t (boxSlot_dst gf).1)
  | blk b x =>
    show (ab L (ab L σ0 T11) T12).h.get b = none
    rw [ab_h h2]
    cases hx : addH L T12 b with
    | none => exact hf
    | some y =>
      obtain ⟨q, g1, _, g3⟩ := addH_mem hx
      obtain ⟨_, T', _, hq⟩ := hT2.mem (List.mem_append_left _ g1)
      obtain ⟨_, gf⟩ := hq.add g3
      have := hok.nmD q (by simp [g1]) gf.2.1
      have e1 : b = q.nm := gf.1
      have e2 : b = s.nm := hfit.1
      omega

/-- What holds between the operations. -/
structure Inv (P : Program) (X : Ctx) (fi : Fi) (base top : Nat) (σ0 : St) (T : List Rec) (β0 : Pls) (μ0 : Fms) (w0 : World) (L : Nat → Bool) (a : Act) (w : World) (β : Pls) (μ : Fms) : Prop where
  s : SRel (ab L σ0 T).h.next β μ fi.nt (ab L σ0 T) a w
  st : Step β0 μ0 σ0 w0 β μ (ab L σ0 T) w
  old : ∀ b, b < base → β b = β0 b
  top : top ≤ (ab L σ0 T).h.next
  nms : ∀ r ∈ T, L r.s.i = false → makes fi r.s.o = true → β r.nm = none
  bxs : ∀ r ∈ T, L r.s.i = false → ∀ t, boxSlot fi r.s.o = some t → μ t = none ∧ ((ab L σ0 T).env.any fun p => mentionsV t p.2) = false
  fresh : ∀ T2 r T1, T = T2 ++ r :: T1 → NoMem L T2 → ∀ A, r.eff = .add A → A.fresh (lastM L σ0.mem T)

theorem mentions_none {β : Pls} {μ : Fms} {t : Nat} (hμ : μ t = none) {v : V} {x : Value} (h : VRel β μ v x) : mentionsV t v = false := by
  have key : ∀ {c : C} {x : Value}, CRel β μ c x → mentionsC t c = false := fun {c x} h => by
    cases c with
    | lp u o =>
      obtain ⟨r, h1, _⟩ := h
      show Nat.beq u t = false
      refine nbeq_ne fun e => ?_
      subst e
      rw [hμ] at h1
      cases h1
    | _ => rfl
  have keys : ∀ {cs : List C} {xs : List Value}, All2 (CRel β μ) cs xs → cs.any (mentionsC t) = false := fun {cs} => by
    induction cs with
    | nil => intro _ _; rfl
    | cons c cs ih =>
      intro xs h
      cases xs with
      | nil => exact h.elim
      | cons x xs => rw [List.any_cons, key h.1, ih h.2]; rfl
  cases v with
  | one c => exact key h
  | agg cs => obtain ⟨l, _, h2⟩ := h; exact keys h2
  | tup vs =>
    obtain ⟨l, _, h2⟩ := h
    rw [mentionsV, List.any_eq_false]
    intro u hu
    obtain ⟨i, hi⟩ := List.getElem?_of_mem hu
    obtain ⟨y, _, hy⟩ := h2.get hi
    cases u with
    | one c => show ¬ mentionsC t c = true; rw [key hy]; simp
    | agg cs => obtain ⟨l, _, h3⟩ := hy; show ¬ cs.any (mentionsC t) = true; rw [keys h3]; simp
    | tup _ => exact hy.elim

namespace Sit
variable (S : Sit P X fi ops wins base top σ0 L T2 r T1)
include S

theorem ne1 (hs : s ∈ T1) : s.s.i ≠ r.s.i := siFind_none S.rok.new s.s (List.mem_map.2 ⟨s, hs, rfl⟩)
theorem ne2 (hs : s ∈ T2) : s.s.i ≠ r.s.i := by
  obtain ⟨_, _, _, h⟩ := S.tr.later hs
  exact (siFind_none h.new r.s (List.mem_map.2 ⟨r, by simp, rfl⟩)).symm

theorem ab_old : ab L σ0 (T2 ++ r :: T1) = ab L (ab L σ0 T1) T2 := by rw [ab_append, ab, S.nl, cond_false]
theorem ab_new : ab (with1 L r.s.i) σ0 (T2 ++ r :: T1) = ab L (r.act (ab L σ0 T1)) T2 := by
  rw [ab_append, ab, with1_same, cond_true, ab_congr (T := T2) (L' := L) fun s hs => with1_ne (S.ne2 hs), ab_congr (T := T1) (L' := L) fun s hs => with1_ne (S.ne1 hs)]

theorem env_new (t : Nat) : get (ab (with1 L r.s.i) σ0 (T2 ++ r :: T1)).env t = if r.s.o.dst = some t then some r.v else get (ab L σ0 (T2 ++ r :: T1)).env t := by
  rw [S.ab_new, S.ab_old]
  split
  · rename_i hd
    rw [ab_env_none fun s hs hl => (apart_l (S.apart2 hs hl)).2.2 t hd, Rec.act, get_setE, if_pos hd]
  · rename_i hd
    refine ab_env ?_ fun _ _ _ => rfl
    rw [Rec.act, get_setE, if_neg hd, eff_env]

theorem mem_new {p : Nat × V} (h : p ∈ (ab (with1 L r.s.i) σ0 (T2 ++ r :: T1)).env) : p ∈ (ab L σ0 (T2 ++ r :: T1)).env ∨ p.2 = r.v := by
  rw [ab_mem] at h
  rcases h with h | ⟨s, h1, h2, h3, h4⟩
  · exact .inl (ab_mem.2 (.inl h))
  · by_cases he : s.s.i = r.s.i
    · right
      simp only [List.mem_append, List.mem_cons] at h1
      rcases h1 with h1 | rfl | h1
      · exact absurd he (S.ne2 h1)
      · exact h4.symm
      · exact absurd he (S.ne1 h1)
    · rw [with1_ne he] at h2
      exact .inl (ab_mem.2 (.inr ⟨s, h1, h2, h3, h4⟩))

/-- Two that make something have other names, other slots. -/
theorem names (hs : s ∈ T2 ++ r :: T1) (hne : s.s.i ≠ r.s.i) (h1 : makes fi s.s.o = true) (h2 : makes fi r.s.o = true) : s.nm ≠ r.nm := by
  simp only [List.mem_append, List.mem_cons] at hs
  rcases hs with hs | rfl | hs
  · obtain ⟨_, _, _, h⟩ := S.tr.later hs
    have := h.nmD r (by simp) h2
    omega
  · exact absurd rfl hne
  · have := S.rok.nmD s hs h1
    omega

theorem slots (hs : s ∈ T2 ++ r :: T1) (hne : s.s.i ≠ r.s.i) (hk : okind s.s.o = .alloc) {t : Nat} (hd : s.s.o.dst = some t) : r.s.o.dst ≠ some t := by
  simp only [List.mem_append, List.mem_cons] at hs
  rcases hs with hs | rfl | hs
  · obtain ⟨_, _, _, h⟩ := S.tr.later hs
    exact fun he => pair_alloc (h.pair r (by simp)) (.inr hk) t he hd
  · exact absurd rfl hne
  · exact pair_alloc (S.rok.pair s hs) (.inl hk) t hd

/-- Behind an operation: what holds then. -/
theorem fin {β β' β0 : Pls} {μ μ' μ0 : Fms} {a : Act} {w w' w0 : World} {σ1 : St} {x : Value}
    (hI : Inv P X fi base top σ0 (T2 ++ r :: T1) β0 μ0 w0 L a w β μ)
    (hS : SRel (ab (with1 L r.s.i) σ0 (T2 ++ r :: T1)).h.next β' μ' fi.nt σ1 a w')
    (hst : Step β μ (ab L σ0 (T2 ++ r :: T1)) w β' μ' σ1 w')
    (henv : σ1.env = (ab L σ0 (T2 ++ r :: T1)).env) (hmem : MemLe (ab (with1 L r.s.i) σ0 (T2 ++ r :: T1)) σ1) (hv : VRel β' μ' r.v x)
    (hN : (ab L σ0 (T2 ++ r :: T1)).h.next ≤ (ab (with1 L r.s.i) σ0 (T2 ++ r :: T1)).h.next)
    (hβ : ∀ b, b < top → (b ≠ r.nm ∨ makes fi r.s.o = false) → β' b = β b) (hμ : ∀ t, r.s.o.dst ≠ some t → μ' t = μ t)
    (hb : base ≤ top)
    (hfr : ∀ T2' s T1', T2 ++ r :: T1 = T2' ++ s :: T1' → NoMem (with1 L r.s.i) T2' → ∀ A, s.eff = .add A → A.fresh (lastM (with1 L r.s.i) σ0.mem (T2 ++ r :: T1))) :
    Inv P X fi base top σ0 (T2 ++ r :: T1) β0 μ0 w0 (with1 L r.s.i) (a.put r.s.o.dst x) w' β' μ' := by
  have hdst := S.rok.dst
  have hput : put fi r.s.o.dst r.v σ1 = some (setE r.s.o.dst r.v σ1) := by
    cases hd : r.s.o.dst with
    | none => rfl
    | some t => simp only [put, if_pos (hdst t hd)]; rfl
  obtain ⟨h1, h2, h3⟩ := put_ok hS hv hput
  have hnm : makes fi r.s.o = false ∨ r.nm ≥ base := .inr S.rok.nmLo
  refine ⟨h1.less (fun t v h => ?_) ⟨fun t cs h => ?_, fun b y h => ?_⟩, (hI.st.trans hst).same hmem, fun b hb' => ?_, Nat.le_trans hI.top hN, fun s hs hl hm => ?_, fun s hs hl t ht => ?_, hfr⟩
  · rw [S.env_new] at h
    rw [get_setE, henv]
    exact h
  · rw [h3]; exact hmem.1 t cs h
  · rw [h2]; exact hmem.2 b y h
  · rw [hβ b (Nat.lt_of_lt_of_le hb' hb) (.inl (by have := S.rok.nmLo; omega))]
    exact hI.old b hb'
  · obtain ⟨_, _, _, hok⟩ := S.tr.mem hs
    have hl' := with1_le hl
    have hne : s.s.i ≠ r.s.i := fun e => by rw [e, with1_same] at hl; cases hl
    rw [hβ _ (hok.nmHi hm) ?_]
    · exact hI.nms s hs hl' hm
    · cases hmr : makes fi r.s.o with
      | false => exact .inr rfl
      | true => exact .inl (S.names hs hne hm hmr)
  · have hl' := with1_le hl
    have hne : s.s.i ≠ r.s.i := fun e => by rw [e, with1_same] at hl; cases hl
    obtain ⟨hd, hk⟩ := boxSlot_dst ht
    obtain ⟨g1, g2⟩ := hI.bxs s hs hl' t ht
    have hμt : μ' t = none := by rw [hμ t (S.slots hs hne hk hd)]; exact g1
    refine ⟨hμt, ?_⟩
    rw [List.any_eq_false] at g2 ⊢
    intro p hp
    rcases S.mem_new hp with hp | hp
    · exact g2 p hp
    · rw [hp, mentions_none hμt hv]; simp

/-- .. of an operation that is none of the chain. -/
theorem fresh_other {β : Pls} {μ : Fms} {β0 : Pls} {μ0 : Fms} {a : Act} {w w0 : World} (hI : Inv P X fi base top σ0 (T2 ++ r :: T1) β0 μ0 w0 L a w β μ) (hm : r.eff.isMem = false) :
    ∀ T2' s T1', T2 ++ r :: T1 = T2' ++ s :: T1' → NoMem (with1 L r.s.i) T2' → ∀ A, s.eff = .add A → A.fresh (lastM (with1 L r.s.i) σ0.mem (T2 ++ r :: T1)) := fun T2' s T1' he hn A hA => by
  rw [lastM_congr (L := with1 L r.s.i) (L' := L) fun x hx hxm => with1_ne fun e => ?_]
  · exact hI.fresh T2' s T1' he (fun x hx hxm => with1_le (hn x hx hxm)) A hA
  · simp only [List.mem_append, List.mem_cons] at hx
    rcases hx with hx | rfl | hx
    · exact S.ne2 hx e
    · rw [hm] at hxm; cases hxm
    · exact S.ne1 hx e
end Sit
end
end E
end Go.Proofs.Ytnfehccnofhmnaa
