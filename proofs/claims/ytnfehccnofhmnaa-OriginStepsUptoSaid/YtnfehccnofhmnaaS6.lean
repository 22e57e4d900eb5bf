/-
  Symbols in the abstract machine: regions, code, calls: a run that forks where it has to ask. No condition.
-/
import Derived.Test.YtnfehccnofhmnaaS5
set_option linter.all false
namespace Go.Proofs.Ytnfehccnofhmnaa
namespace E

def C.beqS : C → C → Bool
  | .lit (.iface t x), .lit (.iface u y) => symB 20 (.iface t x) (.iface u y)
  | x, y => C.beq x y

def cellsBeqS : List C → List C → Bool
  | [], [] => true
  | x :: xs, y :: ys => C.beqS x y && cellsBeqS xs ys
  | _, _ => false

def V.beqS : V → V → Bool
  | .one a, .one b => C.beqS a b
  | .agg a, .agg b => cellsBeqS a b
  | _, _ => false

/-- No constant of a code holds a symbol. -/
def codeK : Code → Bool
  | .seq a b => codeK a && codeK b
  | .cond c a b => cfree c && codeK a && codeK b
  | .block _ c => codeK c
  | .loop c => codeK c
  | .region _ ops _ => ops.toList.all operOk
  | _ => true

section
variable (P : Program) (X : Ctx) (fi : Fi) (Γ : FuncId → List V → Heap → Know → Ways (V × Heap))

def runOpsS (ops : List Oper) : List Oper → St → Know → Ways St
  | [], σ, K => some [(K, σ)]
  | o :: l, σ, K =>
    match wanted ops o σ with
    | some false => match put fi o.dst undefC σ with
      | some σ' => runOpsS ops l σ' K
      | none => none
    | some true => cond (isCall o)
      (match callee σ o with
        | some (f, args) => cond (args.all V.loose)
          (bnd (Γ f args σ.h K) fun K' r => match put fi o.dst r.1 { σ with h := r.2 } with
              | some σ' => runOpsS ops l σ' K'
              | none => none) none
        | none => none)
      (bnd (opS P X fi σ.h.next o σ K) fun K' r => match put fi o.dst r.1 { r.2 with h := bump fi o r.2.h } with
          | some σ' => runOpsS ops l σ' K'
          | none => none)
    | none => none

def readAtS (r : Rd) (m : Mem) : Option V :=
  match natW P X fi 0 r.o ⟨r.env, m.1, m.2⟩ with
  | some p => some p.1
  | none => match symW X r.o ⟨r.env, m.1, m.2⟩ [] with
    | some [p] => some p.2.1
    | _ => none

def rdOkS (B : List Mem) (r : Rd) : Bool := operOk r.o && (((B.reverse.take (r.hi + 1)).drop r.lo)).all fun m => match readAtS P X fi r m with
  | some v => V.beqS v r.v
  | none => false

def runDrawLS (ops : List Oper) (wins : List (Nat × Nat × Nat)) : List Nat → Nat → List Mem → List Rd → St → Know → Ways St
  | [], _, B, R, σ, K => cond (R.all (rdOkS P X fi B)) (some [(K, σ)]) none
  | i :: l, nm, B, R, σ, K =>
    match ops[i]? with
    | none => none
    | some o =>
      match wanted ops o σ with
      | some false => match put fi o.dst undefC σ with
        | some σ' => runDrawLS ops wins l (nmOf fi o nm) (if okind o = .chain then (σ.bx, σ.h) :: B else B) R σ' K
        | none => none
      | some true => cond (isCall o)
        (match callee σ o with
          | some (f, args) => cond (args.all V.loose)
            (bnd (Γ f args σ.h K) fun K' r => match put fi o.dst r.1 { σ with h := r.2 } with
                | some σ' => runDrawLS ops wins l nm ((σ.bx, r.2) :: B) R σ' K'
                | none => none) none
          | none => none)
        (bnd (opS P X fi nm o σ K) fun K' r => match put fi o.dst r.1 r.2 with
            | some σ' => runDrawLS ops wins l (nmOf fi o nm) (if okind o = .chain then (r.2.bx, r.2.h) :: B else B) (match winOf wins i with | some (lo, hi) => ⟨o, σ.env, r.1, lo, hi⟩ :: R | none => R) σ' K'
            | none => none)
      | none => none

def runLoopS (f : St → Know → Ways (Ex × St)) : Nat → St → Know → Ways (Ex × St)
  | 0, _, _ => none
  | n + 1, σ, K => bnd (f σ K) fun K' r => match r with
    | (.norm, σ') => runLoopS f n σ' K'
    | r => some [(K', r)]

def runCS (wins : List (Nat × Win)) (n : Nat) : Code → St → Know → Ways (Ex × St)
  | .skip, σ, K => some [(K, (.norm, σ))]
  | .ret, σ, K => some [(K, (.ret, σ))]
  | .exit id, σ, K => some [(K, (.exit id, σ))]
  | .seq a b, σ, K => bnd (runCS wins n a σ K) fun K' r => match r with
    | (.norm, σ') => runCS wins n b σ' K'
    | r => some [(K', r)]
  | .cond c a b, σ, K => match ev σ c with
    | some (.one (.lit (.bool true))) => runCS wins n a σ K
    | some (.one (.lit (.bool false))) => runCS wins n b σ K
    | some (.one (.lit v)) => cond (isBool v) (bnd (some (ask false v (.bool true) K)) fun K' r => cond r (runCS wins n a σ K') (runCS wins n b σ K')) none
    | _ => none
  | .block id c, σ, K => bnd (runCS wins n c σ K) fun K' r => match r with
    | (.exit id', σ') => cond (Nat.beq id' id) (some [(K', (.norm, σ'))]) (some [(K', (.exit id', σ'))])
    | r => some [(K', r)]
  | .loop c, σ, K => runLoopS (runCS wins n c) n σ K
  | .region id ops draw, σ, K => bnd (cond draw
      (cond (startOk fi ops.toList σ) (runDrawLS P X fi Γ ops.toList (winsOf (get wins id)) (ordOf (get wins id) ops.toList.length) σ.h.next [(σ.bx, { σ.h with next := σ.h.next + countMk fi ops.toList (ordOf (get wins id) ops.toList.length) })] [] { σ with h := { σ.h with next := σ.h.next + countMk fi ops.toList (ordOf (get wins id) ops.toList.length) } } K) none)
      (runOpsS P X fi Γ ops.toList ops.toList σ K)) fun K' σ' => some [(K', (.norm, clean fi id σ'))]
  | _, _, _ => none
end

/-- The machine's calls, with some functions' answers given. -/
def callO (P : Program) (X : Ctx) (F : FuncId → Option Fn) (ov : FuncId → Bool) (G : FuncId → List V → Heap → Option (V × Heap)) (loops : Nat) : Nat → FuncId → List V → Heap → Option (V × Heap)
  | 0, _, _, _ => none
  | n + 1, f, args, h => cond (ov f) (G f args h)
    (match F f with
    | some fn => match runC P X fn.fi (callO P X F ov G loops n) fn.wins loops fn.body ⟨argsEnv 0 args, [], h⟩ with
      | some (.norm, σ) | some (.ret, σ) => cond (Nat.ble h.next σ.h.next && Nat.ble args.length fn.fi.nt) ((resE X σ fn.res).map fun v => (v, dropH fn.keep h σ.h)) none
      | _ => none
    | none => none)

def endS (X : Ctx) (fn : Fn) (args : List V) (h : Heap) (σ : St) (K : Know) : Ways (V × Heap) :=
  cond (Nat.ble h.next σ.h.next && Nat.ble args.length fn.fi.nt)
    (match resE X σ fn.res with
      | some v => some [(K, (v, dropH fn.keep h σ.h))]
      | none => none) none

def callS (P : Program) (X : Ctx) (F : FuncId → Option Fn) (ov : FuncId → Bool) (G : FuncId → List V → Heap → Know → Ways (V × Heap)) (loops : Nat) : Nat → FuncId → List V → Heap → Know → Ways (V × Heap)
  | 0, _, _, _, _ => none
  | n + 1, f, args, h, K => cond (ov f) (G f args h K)
    (match F f with
    | some fn => bnd (runCS P X fn.fi (callS P X F ov G loops n) fn.wins loops fn.body ⟨argsEnv 0 args, [], h⟩ K) fun K' r => match r with
      | (.norm, σ) | (.ret, σ) => endS X fn args h σ K'
      | _ => none
    | none => none)

section
variable {ρ : Env} {P : Program} {X : Ctx} {fi : Fi} {σ σ' : St} {o : Oper} {K : Know}

theorem put_den {d : Option Nat} {v : V} (h : put fi d v σ = some σ') : put fi d (v.den ρ) (σ.den ρ) = some (σ'.den ρ) := by
  unfold put at h ⊢
  split at h
  · cases h; rfl
  · split at h
    · rename_i hlt
      rw [if_pos hlt]
      cases h
      rfl
    · cases h

theorem put_undef {d : Option Nat} (h : put fi d undefC σ = some σ') : put fi d undefC (σ.den ρ) = some (σ'.den ρ) := by
  have := put_den (ρ := ρ) h
  rwa [V.den_free (ρ := ρ) (v := undefC) rfl] at this

theorem wanted_den {ops : List Oper} {b : Bool} (h : wanted ops o σ = some b) : wanted ops o (σ.den ρ) = some b := by
  unfold wanted at h ⊢
  split at h
  · exact h
  · split at h
    · split at h
      · rename_i t ht
        have hg : ∀ v, get σ.env t = some v → v.free = true → get (σ.den ρ).env t = some v := fun v hv hf => by
          show get (envDen ρ σ.env) t = _
          rw [get_envDen, hv, Option.map_some, V.den_free hf]
        split at h
        · rename_i q hq
          rw [hg _ hq rfl]
          exact h
        · rename_i l hq
          rw [hg _ hq rfl]
          exact h
        · cases h
      · cases h
    · cases h

theorem callee_den (hc : operOk o = true) {f : FuncId} {args : List V} (h : callee σ o = some (f, args)) : callee (σ.den ρ) o = some (f, args.map (V.den ρ)) := by
  unfold callee at h ⊢
  unfold operOk at hc
  split at h
  case h_2 => cases h
  rename_i c ho
  rw [ho] at hc
  have hca := cfree_args hc
  split at h
  case h_2 => cases h
  rename_i fo hcal
  have hcf : cfree fo = true := by
    have : c.operands.toList.all cfree = true := hc
    unfold Call.operands at this
    rw [hcal, Array.toList_append, List.all_append, Bool.and_eq_true] at this
    simpa using this.1
  rw [ev_den σ hcf, evs_den σ hca]
  split at h
  case h_2 => cases h
  rename_i g caps vs h1 h2
  simp only [Option.some.injEq, Prod.mk.injEq] at h
  obtain ⟨rfl, rfl⟩ := h
  simp only [h1, h2, Option.map_some, V.den, C.den, List.map_append, List.map_map, Function.comp_def]

theorem looseC_den (c : C) : (V.one (c.den ρ)).loose = (V.one c).loose := by cases c <;> rfl

theorem loose_den (v : V) : (v.den ρ).loose = v.loose := by
  have hcs : ∀ cs : List C, (cs.map (C.den ρ)).all (fun c => match c with | .lp .. => false | _ => true) = cs.all (fun c => match c with | .lp .. => false | _ => true) := fun cs => by
    rw [List.all_map]
    congr 1
    funext c
    cases c <;> rfl
  cases v with
  | one c => exact looseC_den c
  | agg cs => exact hcs cs
  | tup vs =>
    simp only [V.den, denL_eq, V.loose, List.all_map]
    congr 1
    funext v
    cases v with
    | one c => cases c <;> rfl
    | agg cs => exact hcs cs
    | tup _ => rfl

theorem allLoose_den (vs : List V) : (vs.map (V.den ρ)).all V.loose = vs.all V.loose := by
  rw [List.all_map]
  congr 1
  funext v
  exact loose_den v

theorem bump_den (h : Heap) : bump fi o (h.den ρ) = (bump fi o h).den ρ := by
  unfold bump
  cases makes fi o <;> rfl

section
variable {Γ : FuncId → List V → Heap → Option (V × Heap)} {ΓS : FuncId → List V → Heap → Know → Ways (V × Heap)}

/-- What the forking machine says of calls is what the other says. -/
def GSok (ρ : Env) (Γ : FuncId → List V → Heap → Option (V × Heap)) (ΓS : FuncId → List V → Heap → Know → Ways (V × Heap)) : Prop :=
  ∀ f args h K, Holds ρ K → Snd ρ (ΓS f args h K) fun r => Γ f (args.map (V.den ρ)) (h.den ρ) = some (r.1.den ρ, r.2.den ρ)

theorem runOpsS_ok (hZ : ZFree X) (hG : GSok ρ Γ ΓS) {ops : List Oper} : ∀ (l : List Oper) (σ : St) (K : Know), l.all operOk = true → Holds ρ K →
    Snd ρ (runOpsS P X fi ΓS ops l σ K) fun σ' => runOps P X fi Γ ops l (σ.den ρ) = some (σ'.den ρ)
  | [], σ, K, _, hK => Snd.one hK rfl
  | o :: l, σ, K, hc, hK => by
    simp only [List.all_cons, Bool.and_eq_true] at hc
    simp only [runOpsS, runOps]
    cases hw : wanted ops o σ with
    | none => exact Snd.none
    | some b =>
      rw [wanted_den hw]
      cases b with
      | false =>
        simp only
        cases hp : put fi o.dst undefC σ with
        | none => exact Snd.none
        | some σ1 =>
          simp only [put_undef hp]
          exact runOpsS_ok hZ hG l σ1 K hc.2 hK
      | true =>
        simp only
        cases hcall : isCall o with
        | true =>
          simp only [cond_true]
          cases hcal : callee σ o with
          | none => exact Snd.none
          | some p =>
            obtain ⟨f, args⟩ := p
            simp only [callee_den hc.1 hcal, allLoose_den]
            cases hl : args.all V.loose with
            | false => exact Snd.none
            | true =>
              simp only [cond_true]
              refine Snd.bnd (hG f args σ.h K hK) fun K' r hK' hr => ?_
              simp only [St.den] at hr ⊢
              rw [hr]
              simp only
              cases hp : put fi o.dst r.1 { σ with h := r.2 } with
              | none => exact Snd.none
              | some σ1 =>
                have := put_den (ρ := ρ) hp
                simp only [St.den] at this
                rw [this]
                exact runOpsS_ok hZ hG l σ1 K' hc.2 hK'
        | false =>
          simp only [cond_false]
          refine Snd.bnd (opS_ok hZ hc.1 hK) fun K' r hK' hr => ?_
          have hn : (σ.den ρ).h.next = σ.h.next := rfl
          rw [hn, hr]
          simp only
          cases hp : put fi o.dst r.1 { r.2 with h := bump fi o r.2.h } with
          | none => exact Snd.none
          | some σ1 =>
            have := put_den (ρ := ρ) hp
            simp only [St.den, ← bump_den] at this
            have h2 : ({ r.2.den ρ with h := bump fi o (r.2.den ρ).h } : St) = ⟨envDen ρ r.2.env, bxDen ρ r.2.bx, bump fi o (r.2.h.den ρ)⟩ := rfl
            rw [h2, this]
            exact runOpsS_ok hZ hG l σ1 K' hc.2 hK'
end
end
end E
end Go.Proofs.Ytnfehccnofhmnaa
