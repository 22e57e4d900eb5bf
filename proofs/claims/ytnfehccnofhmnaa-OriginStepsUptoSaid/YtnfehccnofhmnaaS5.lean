/-
  Symbols in the abstract machine: operations that ask. No condition.
-/
import Derived.Test.YtnfehccnofhmnaaS4
set_option linter.all false
namespace Go.Proofs.Ytnfehccnofhmnaa
namespace E

def symN (k : IntKind) (o : Int) (x y : Value) : Value := .iface 3 (.agg ⟨[.int k o, x, y]⟩)

def notV (b : Bool) : Value := .bool (!b)

def binW (b : BinOp) (x y : Value) (K : Know) : Ways Value :=
  match intK x, intK y with
  | some j, some k => cond (decide (j = k))
      (match b with
        | .add => some [(K, symN j 0 x y)]
        | .sub => some [(K, symN j 1 x y)]
        | .mul => some [(K, symN j 2 x y)]
        | .eql => some (mapW Value.bool (ask false x y K))
        | .neq => some (mapW notV (ask false x y K))
        | .lss => some (mapW Value.bool (ask true x y K))
        | .geq => some (mapW notV (ask true x y K))
        | .gtr => some (mapW Value.bool (ask true y x K))
        | .leq => some (mapW notV (ask true y x K))
        | _ => none) none
  | _, _ => cond (isStr x && isStr y)
      (match b with
        | .eql => some (mapW Value.bool (ask false x y K))
        | .neq => some (mapW notV (ask false x y K))
        | _ => none) none

def isFalse : Value → Bool
  | .bool false => true
  | _ => false

/-- An equality; one with false is one with true, turned. -/
def askE (x y : Value) (K : Know) : List (Know × Bool) :=
  cond (isFalse y) (mapW not (ask false x (.bool true) K)) (cond (isFalse x) (mapW not (ask false y (.bool true) K)) (ask false x y K))

def kindOk1 : CK → C → C → Bool
  | .i, .lit x, .lit y => match intK x, intK y with
    | some j, some k => decide (j = k)
    | _, _ => false
  | .b, .lit x, .lit y => isBool x && isBool y
  | .s, .lit x, .lit y => isStr x && isStr y
  | _, _, _ => false

def kindsOk : List CK → List C → List C → Bool
  | [], [], [] => true
  | k :: ks, x :: xs, y :: ys => kindOk1 k x y && kindsOk ks xs ys
  | _, _, _ => false

def eqKS : List C → List C → Know → List (Know × Bool)
  | .lit x :: xs, .lit y :: ys, K => match bndL (askE x y K) fun K' b => some (cond b (eqKS xs ys K') [(K', false)]) with
    | some l => l
    | none => []
  | _, _, K => [(K, true)]

section
variable (P : Program) (X : Ctx) (fi : Fi)

def natW (nm : Nat) (o : Oper) (σ : St) : Option (V × St) :=
  cond (natOk X σ o)
    (match op P X fi nm o σ with
      | some (v, σ') => cond (resOk X σ o v) (some (v, σ')) none
      | none => none) none

def symW (o : Oper) (σ : St) (K : Know) : Ways (V × St) :=
  match o.op with
  | .binOp b t x y _ => match ev σ x, ev σ y with
    | some (.one (.lit u)), some (.one (.lit v)) => match binW b u v K with
      | some l => some (mapW (fun r => (V.one (.lit r), σ)) l)
      | none => none
    | some (.agg xs), some (.agg ys) => match X.flat t with
      | some ks => cond (kindsOk ks xs ys)
        (match b with
          | .eql => some (mapW (fun r => (V.one (.lit (.bool r)), σ)) (eqKS xs ys K))
          | .neq => some (mapW (fun r => (V.one (.lit (notV r)), σ)) (eqKS xs ys K))
          | _ => none) none
      | none => none
    | _, _ => none
  | .call c => match c.callee, c.args.toList, c.argTypes.toList with
    | .builtin .len, [x], t :: _ => match ev σ x, X.tt t with
      | some (.one (.lit s)), some ti => match ti.desc with
        | .string => cond (isStr s) (some [(K, (V.one (.lit (.iface 2 s)), σ))]) none
        | _ => none
      | _, _ => none
    | _, _, _ => none
  | _ => none

def opS (nm : Nat) (o : Oper) (σ : St) (K : Know) : Ways (V × St) :=
  match natW P X fi nm o σ with
  | some r => some [(K, r)]
  | none => symW X o σ K
end

section
variable {ρ : Env} {P : Program} {X : Ctx} {fi : Fi} {nm : Nat} {σ : St} {o : Oper} {K : Know}

theorem den_bool (b : Bool) : den ρ (.bool b) = .bool b := den_lit rfl

theorem den_node {k : IntKind} {o : Int} {x y : Value} : den ρ (symN k o x y) = .int k (k.wrap (arith o (iOf (den ρ x)) (iOf (den ρ y)))) := by
  simp only [symN, den]

theorem binW_ok (hK : Holds ρ K) {b : BinOp} {t : TypeId} {x y : Value} : Snd ρ (binW b x y K) fun r => binV X b t (.one (.lit (den ρ x))) (.one (.lit (den ρ y))) = some (den ρ r) := by
  unfold binW
  split
  · rename_i j k hj hk
    obtain ⟨m, hm⟩ := intK_ok (ρ := ρ) hj
    obtain ⟨n, hn⟩ := intK_ok (ρ := ρ) hk
    cases hjk : decide (j = k) with
    | false => exact Snd.none
    | true =>
      rw [cond_true]
      have hjk := of_decide_eq_true hjk
      subst hjk
      have hbin : ∀ (b : BinOp), binV X b t (.one (.lit (den ρ x))) (.one (.lit (den ρ y))) = binI b j m n := fun b => by
        rw [hm, hn]
        simp [binV]
      cases b <;> simp only <;> first | exact Snd.none | skip
      all_goals first
        | (refine Snd.one hK ?_
           rw [hbin, den_node, hm, hn]
           rfl)
        | skip
      all_goals refine Snd.mapW ((ask_ok hK).mono fun r hr => ?_)
      all_goals
        rw [hbin]
        simp only [notV, den_bool, Atom, hm, hn, iOf, Value.int.injEq, true_and] at hr ⊢
        simp only [binI, Option.some.injEq, Value.bool.injEq]
        cases r <;> simp_all <;> omega
  · cases hs : (isStr x && isStr y) with
    | false => exact Snd.none
    | true =>
      rw [cond_true]
      simp only [Bool.and_eq_true] at hs
      obtain ⟨s, hs1⟩ := isStr_ok (ρ := ρ) hs.1
      obtain ⟨u, hu1⟩ := isStr_ok (ρ := ρ) hs.2
      have hbin : ∀ (b : BinOp), binV X b t (.one (.lit (den ρ x))) (.one (.lit (den ρ y))) = binS b s u := fun b => by
        rw [hs1, hu1]
        simp [binV]
      cases b <;> simp only <;> first | exact Snd.none | skip
      all_goals refine Snd.mapW ((ask_ok hK).mono fun r hr => ?_)
      all_goals
        rw [hbin]
        simp only [notV, den_bool, Atom, hs1, hu1, Value.string.injEq] at hr ⊢
        simp only [binS, Option.some.injEq, Value.bool.injEq]
        rw [← strEq_iff] at hr
        cases r <;> simp_all

theorem isFalse_eq {v : Value} (h : isFalse v = true) : v = .bool false := by
  unfold isFalse at h
  split at h
  · rfl
  · cases h

theorem askE_ok (hK : Holds ρ K) {x y : Value} (hb : (isFalse x = true ∨ isFalse y = true) → isBool x = true ∧ isBool y = true) : Snd ρ (some (askE x y K)) fun b => den ρ x = den ρ y ↔ b = true := by
  unfold askE
  cases hy : isFalse y with
  | true =>
    rw [cond_true]
    obtain ⟨m, hm⟩ := isBool_ok (ρ := ρ) (hb (.inr hy)).1
    refine Snd.mapW ((ask_ok hK).mono fun r hr => ?_)
    simp only [Atom] at hr
    rw [isFalse_eq hy, hm, den_bool]
    rw [hm, den_bool] at hr
    simp only [Value.bool.injEq] at hr ⊢
    cases m <;> cases r <;> simp_all
  | false =>
    rw [cond_false]
    cases hx : isFalse x with
    | true =>
      rw [cond_true]
      obtain ⟨m, hm⟩ := isBool_ok (ρ := ρ) (hb (.inl hx)).2
      refine Snd.mapW ((ask_ok hK).mono fun r hr => ?_)
      simp only [Atom] at hr
      rw [isFalse_eq hx, hm, den_bool]
      rw [hm, den_bool] at hr
      simp only [Value.bool.injEq] at hr ⊢
      cases m <;> cases r <;> simp_all
    | false => exact ask_ok hK

theorem kindOk1_bools {k : CK} {u v : Value} (h : kindOk1 k (.lit u) (.lit v) = true) : (isFalse u = true ∨ isFalse v = true) → isBool u = true ∧ isBool v = true := fun hf => by
  unfold kindOk1 at h
  split at h
  · rename_i x y e1 e2
    cases e1
    cases e2
    rcases hf with hf | hf
    · rw [isFalse_eq hf] at h
      simp [intK] at h
    · rw [isFalse_eq hf] at h
      cases hi : intK u <;> rw [hi] at h <;> simp [intK] at h
  · rename_i x y e1 e2
    cases e1
    cases e2
    simpa only [Bool.and_eq_true] using h
  · rename_i x y e1 e2
    cases e1
    cases e2
    simp only [Bool.and_eq_true] at h
    rcases hf with hf | hf
    · rw [isFalse_eq hf] at h
      simp [isStr] at h
    · rw [isFalse_eq hf] at h
      simp [isStr] at h
  · cases h

theorem eqKS_ok : ∀ {ks : List CK} {xs ys : List C} {K : Know}, Holds ρ K → kindsOk ks xs ys = true →
    Snd ρ (some (eqKS xs ys K)) fun b => eqK ks (xs.map (C.den ρ)) (ys.map (C.den ρ)) = some b
  | [], [], [], K, hK, _ => Snd.one hK rfl
  | [], [], _ :: _, _, _, h => by cases h
  | [], _ :: _, _, _, _, h => by cases h
  | _ :: _, [], _, _, _, h => by cases h
  | _ :: _, _ :: _, [], _, _, h => by cases h
  | k :: ks, x :: xs, y :: ys, K, hK, h => by
    simp only [kindsOk, Bool.and_eq_true] at h
    obtain ⟨h1, h2⟩ := h
    have hlit : ∃ u v, x = .lit u ∧ y = .lit v ∧ ∀ b, (den ρ u = den ρ v ↔ b = true) → eqK1 k (.lit (den ρ u)) (.lit (den ρ v)) = some b := by
      unfold kindOk1 at h1
      split at h1
      · rename_i u v
        refine ⟨u, v, rfl, rfl, fun b hb => ?_⟩
        split at h1
        · rename_i j k' hj hk
          have := of_decide_eq_true h1
          subst this
          obtain ⟨m, hm⟩ := intK_ok (ρ := ρ) hj
          obtain ⟨n, hn⟩ := intK_ok (ρ := ρ) hk
          rw [hm, hn] at hb ⊢
          simp only [Value.int.injEq, true_and] at hb
          simp only [eqK1, if_pos, Option.some.injEq]
          cases b <;> simp_all
        · cases h1
      · rename_i u v
        refine ⟨u, v, rfl, rfl, fun b hb => ?_⟩
        simp only [Bool.and_eq_true] at h1
        obtain ⟨m, hm⟩ := isBool_ok (ρ := ρ) h1.1
        obtain ⟨n, hn⟩ := isBool_ok (ρ := ρ) h1.2
        rw [hm, hn] at hb ⊢
        simp only [Value.bool.injEq] at hb
        simp only [eqK1, Option.some.injEq]
        cases b <;> cases m <;> cases n <;> simp_all
      · rename_i u v
        refine ⟨u, v, rfl, rfl, fun b hb => ?_⟩
        simp only [Bool.and_eq_true] at h1
        obtain ⟨m, hm⟩ := isStr_ok (ρ := ρ) h1.1
        obtain ⟨n, hn⟩ := isStr_ok (ρ := ρ) h1.2
        rw [hm, hn] at hb ⊢
        simp only [Value.string.injEq, ← strEq_iff] at hb
        simp only [eqK1, Option.some.injEq]
        cases b <;> simp_all
      · cases h1
    obtain ⟨u, v, rfl, rfl, hb⟩ := hlit
    simp only [eqKS]
    have hall : ∃ b, eqK ks (xs.map (C.den ρ)) (ys.map (C.den ρ)) = some b := by
      obtain ⟨p, _, _, hp⟩ := eqKS_ok hK h2 _ rfl
      exact ⟨_, hp⟩
    have key := Snd.bnd (f := fun K' b => some (cond b (eqKS xs ys K') [(K', false)])) (R := fun b => eqK (k :: ks) ((C.lit u :: xs).map (C.den ρ)) ((C.lit v :: ys).map (C.den ρ)) = some b)
      (askE_ok hK (kindOk1_bools h1)) fun K' b hK' hat => by
        have hk1 := hb b hat
        simp only [List.map_cons, eqK, C.den, hk1]
        cases b with
        | true =>
          refine (eqKS_ok hK' h2).mono fun b' hb' => ?_
          rw [hb']
          simp
        | false =>
          refine Snd.one hK' ?_
          obtain ⟨b', hb'⟩ := hall
          rw [hb']
          simp
    intro l hl
    split at hl
    · rename_i l' hl'
      simp only [Option.some.injEq] at hl
      subst hl
      exact key _ hl'
    · rename_i hl'
      exfalso
      have hne : ∀ (l : List (Know × Bool)), bndL l (fun K' b => some (cond b (eqKS xs ys K') [(K', false)])) ≠ none := fun l => by
        induction l with
        | nil => simp [bndL]
        | cons p l ih => cases l with
          | nil => simp [bndL]
          | cons q l =>
            simp only [bndL]
            split
            · simp
            · rename_i hh
              exact absurd hh ih
      exact hne _ hl'

theorem natW_ok (hZ : ZFree X) (hc : operOk o = true) {r : V × St} (h : natW P X fi nm o σ = some r) : op P X fi nm o (σ.den ρ) = some (r.1.den ρ, r.2.den ρ) := by
  unfold natW at h
  cases hn : natOk X σ o with
  | false => rw [hn] at h; cases h
  | true =>
    rw [hn, cond_true] at h
    split at h
    · rename_i v σ' ho
      cases hr : resOk X σ o v with
      | false => rw [hr] at h; cases h
      | true =>
        rw [hr, cond_true, Option.some.injEq] at h
        subst h
        exact op_nat hZ hc hn ho hr
    · cases h

theorem opS_ok (hZ : ZFree X) (hc : operOk o = true) (hK : Holds ρ K) : Snd ρ (opS P X fi nm o σ K) fun r => op P X fi nm o (σ.den ρ) = some (r.1.den ρ, r.2.den ρ) := by
  unfold opS
  split
  · rename_i r hr
    exact Snd.one hK (natW_ok hZ hc hr)
  · unfold symW
    unfold operOk at hc
    split
    · rename_i b t x y t' hop
      rw [hop] at hc
      simp only [Op.operands, List.all_cons, Bool.and_eq_true] at hc
      have hbin : ∀ {u v : V} {r : Value}, ev σ x = some u → ev σ y = some v → binV X b t (u.den ρ) (v.den ρ) = some (den ρ r) → Value.isSym r = false ∨ True → op P X fi nm o (σ.den ρ) = some (.one (.lit (den ρ r)), σ.den ρ) := fun hu hv hb _ => by
        unfold op
        simp only [hop]
        rw [onV_den hc.1 hu, onV_den hc.2.1 hv, hb]
      split
      · rename_i u v hu hv
        have := binW_ok (X := X) hK (b := b) (t := t) (x := u) (y := v)
        split
        · rename_i l hl
          rw [hl] at this
          exact Snd.mapW (this.mono fun r hr => hbin hu hv hr (.inr trivial))
        · exact Snd.none
      · rename_i xs ys hu hv
        split
        · rename_i ks hks
          cases hk : kindsOk ks xs ys with
          | false => exact Snd.none
          | true =>
            rw [cond_true]
            have := eqKS_ok hK hk
            split
            · refine Snd.mapW (this.mono fun r hr => ?_)
              have := hbin (r := .bool r) hu hv (by simp only [V.den, binV, hks, hr, den_bool, Option.map_some]) (.inr trivial)
              simpa only [V.den, C.den] using this
            · refine Snd.mapW (this.mono fun r hr => ?_)
              have := hbin (r := notV r) hu hv (by simp only [V.den, binV, hks, hr, notV, den_bool, Option.map_some]) (.inr trivial)
              simpa only [V.den, C.den] using this
            · exact Snd.none
        · exact Snd.none
      · exact Snd.none
    · rename_i c hop
      rw [hop] at hc
      have hca := cfree_args hc
      split
      · rename_i x t ts hcal hargs hts
        rw [hargs] at hca
        simp only [List.all_cons, Bool.and_eq_true] at hca
        split
        · rename_i s ti hs hti
          split
          · rename_i hd
            cases his : isStr s with
            | false => exact Snd.none
            | true =>
              rw [cond_true]
              refine Snd.one hK ?_
              obtain ⟨u, hu⟩ := isStr_ok (ρ := ρ) his
              unfold op
              simp only [hop, hcal, hargs, hts, evs, ev_den σ hca.1, hs, Option.map_some, V.den, C.den, builtinE, hti, hd, hu]
              simp [den, hu, sOf]
          · exact Snd.none
        · exact Snd.none
      · exact Snd.none
    · exact Snd.none
end
end E
end Go.Proofs.Ytnfehccnofhmnaa
