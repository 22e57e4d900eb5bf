/-
  Symbols in the abstract machine: what an operation does, it does whatever the symbols stand for. No condition.
-/
import Derived.Test.YtnfehccnofhmnaaS2
set_option linter.all false
namespace Go.Proofs.Ytnfehccnofhmnaa
namespace E

def freeAt (σ : St) (x : Operand) : Bool :=
  match ev σ x with
  | some v => v.free
  | none => false

def isAggAt (σ : St) (x : Operand) : Bool :=
  match ev σ x with
  | some (.agg _) => true
  | _ => false

def aggIdx (X : Ctx) (σ : St) (t : TypeId) (x : Operand) : Bool := isAggAt σ x && (elemTI X t).isSome

/-- May an operation be done as it stands: where it looks into values, there is no symbol. -/
def natOk (X : Ctx) (σ : St) (o : Oper) : Bool :=
  match o.op with
  | .binOp .. | .unOp .. | .convert .. | .slice .. | .lookup .. => o.op.operands.toList.all (freeAt σ)
  | .index t x _ => aggIdx X σ t x || o.op.operands.toList.all (freeAt σ)
  | .mapUpdate _ _ k _ | .insert _ _ k _ => freeAt σ k
  | .call c => match c.callee with
    | .builtin .delete => c.args.toList.all (freeAt σ)
    | _ => true
  | _ => true

def resOk (X : Ctx) (σ : St) (o : Oper) (v : V) : Bool :=
  match o.op with
  | .binOp .. | .unOp .. | .convert .. | .slice .. => v.free
  | .index t x _ => aggIdx X σ t x || v.free
  | _ => true

def operOk (o : Oper) : Bool := o.op.operands.toList.all cfree

def ZFree (X : Ctx) : Prop := ∀ t ti, X.tt t = some ti → tiFree ti = true

section
variable {ρ : Env} {P : Program} {X : Ctx} {fi : Fi} {nm : Nat} {σ σ' : St} {o : Oper} {v : V}

theorem ev_free {x : Operand} (hc : cfree x = true) (h : freeAt σ x = true) : ev (σ.den ρ) x = ev σ x := by
  rw [ev_den σ hc]
  unfold freeAt at h
  split at h
  · rename_i v hv
    rw [hv, Option.map_some, V.den_free h]
  · cases h

theorem free_of {x : Operand} {v : V} (h : freeAt σ x = true) (hv : ev σ x = some v) : v.free = true := by
  unfold freeAt at h
  rwa [hv] at h

theorem pureV_den (hc : operOk o = true) (hf : o.op.operands.toList.all (freeAt σ) = true) (hs : ∀ cs b, o.op ≠ .select cs b) (h : op.pureV P o σ = some (v, σ')) (hv : v.free = true) :
    op.pureV P o (σ.den ρ) = some (v.den ρ, σ'.den ρ) := by
  simp only [op.pureV, Option.map_eq_some_iff, Prod.mk.injEq] at h ⊢
  obtain ⟨u, h1, rfl, rfl⟩ := h
  refine ⟨u, ?_, (V.den_free hv).symm, rfl⟩
  rw [← h1]
  exact pureOp_eq hs fun x hx => ev_free (List.all_eq_true.1 hc x hx) (List.all_eq_true.1 hf x hx)

theorem onC_den {x : Operand} {k : C → Option (V × St)} {c : C} (hx : cfree x = true) (h : ev σ x = some (.one c)) : onC (σ.den ρ) x k = k (c.den ρ) := by
  unfold onC
  rw [ev_den σ hx, h]
  rfl
theorem onV_den {x : Operand} {k : V → Option (V × St)} {c : V} (hx : cfree x = true) (h : ev σ x = some c) : onV (σ.den ρ) x k = k (c.den ρ) := by
  unfold onV
  rw [ev_den σ hx, h]
  rfl
theorem onTI_eq {t : TypeId} {k : TI → Option (V × St)} {ti : TI} (h : X.tt t = some ti) : onTI X t k = k ti := by
  unfold onTI
  rw [h]

theorem newVarE_den {d : Option Nat} {cs : List C} (h : newVarE fi nm d σ cs = some (v, σ')) : newVarE fi nm d (σ.den ρ) (cs.map (C.den ρ)) = some (v.den ρ, σ'.den ρ) := by
  unfold newVarE at h ⊢
  cases d with
  | none => cases h
  | some t =>
    simp only at h ⊢
    cases hp : fi.prom.contains t with
    | true =>
      rw [hp, cond_true] at h
      rw [cond_true]
      simp only [Option.map_eq_some_iff, Prod.mk.injEq] at h ⊢
      obtain ⟨a, h1, rfl, rfl⟩ := h
      exact ⟨a.den ρ, by rw [newBox_den, h1]; rfl, rfl, rfl⟩
    | false =>
      rw [hp, cond_false] at h
      rw [cond_false]
      simp only [Option.map_eq_some_iff, Prod.mk.injEq] at h ⊢
      obtain ⟨a, h1, rfl, rfl⟩ := h
      exact ⟨a.den ρ, by rw [newRowH_den, h1]; rfl, rfl, rfl⟩

def esDen (ρ : Env) (es : List (Value × V × Nat)) : List (Value × V × Nat) := es.map fun e => (e.1, e.2.1.den ρ, e.2.2)

theorem entriesOf_den {c : C} (h : c.free = true) : entriesOf (σ.den ρ) c = (entriesOf σ c).map (esDen ρ) := by
  cases c with
  | lit v =>
    unfold entriesOf
    split <;> simp_all [esDen]
  | mp b =>
    simp only [entriesOf, St.den, Heap.get_den]
    cases σ.h.get b with
    | none => rfl
    | some x => cases x <;> rfl
  | _ => rfl

theorem findK_den (d : KD) (k : Value) : ∀ (es : List (Value × V × Nat)), findK d k (esDen ρ es) = (findK d k es).map (Option.map fun p => (p.1.den ρ, p.2))
  | [] => rfl
  | (k', u, n) :: es => by
    simp only [esDen, List.map_cons, findK]
    cases keyEq d k k' with
    | none => rfl
    | some b => cases b with
      | true => rfl
      | false => exact findK_den d k es

theorem setK_den (d : KD) (k : Value) (u : V) : ∀ (es : List (Value × V × Nat)), setK d k (u.den ρ) (esDen ρ es) = (setK d k u es).map (esDen ρ)
  | [] => rfl
  | (k', u', n) :: es => by
    simp only [esDen, List.map_cons, setK]
    cases keyEq d k k' with
    | none => rfl
    | some b => cases b with
      | true => rfl
      | false =>
        have := setK_den d k u es
        simp only [esDen] at this
        simp only [this]
        cases setK d k u es <;> rfl

theorem dropK_den (d : KD) (k : Value) : ∀ (es : List (Value × V × Nat)), dropK d k (esDen ρ es) = (dropK d k es).map (esDen ρ)
  | [] => rfl
  | (k', u', n) :: es => by
    simp only [esDen, List.map_cons, dropK]
    cases keyEq d k k' with
    | none => rfl
    | some b => cases b with
      | true => rfl
      | false =>
        have := dropK_den d k es
        simp only [esDen] at this
        simp only [this]
        cases dropK d k es <;> rfl

theorem okV_den (u : V) : (u.den ρ).okV = u.okV := by
  cases u with
  | one c => exact C.den_ok c
  | agg cs => exact all_ok_den cs
  | tup _ => rfl

theorem mapKD_tt {t : TypeId} {d : KD} {et : TI} (h : mapKD X t = some (d, et)) : ∃ e, X.tt e = some et := by
  unfold mapKD at h
  split at h <;> try (cases h; done)
  split at h <;> try (cases h; done)
  split at h <;> try (cases h; done)
  simp only [Option.some.injEq, Prod.mk.injEq] at h
  exact ⟨_, by rw [← h.2]; assumption⟩

theorem zero_free (hZ : ZFree X) {t : TypeId} {ti : TI} {z : Value} (h : X.tt t = some ti) (hz : ti.zero = some z) : (V.ofVal z).free = true := by
  have := hZ t ti h
  unfold tiFree at this
  rw [hz] at this
  exact ofVal_free this

theorem lookupE_den (hZ : ZFree X) {t : TypeId} {m : C} {k : Value} {ok : Bool} (hm : m.free = true) (h : lookupE X t σ m k ok = some v) : lookupE X t (σ.den ρ) m k ok = some (v.den ρ) := by
  unfold lookupE at h ⊢
  rw [entriesOf_den hm]
  split at h
  case h_2 => cases h
  rename_i d et es h1 h2
  rw [h1, h2]
  simp only [Option.map_some]
  split at h
  case isFalse => cases h
  rename_i hk
  rw [if_pos hk, findK_den]
  split at h
  · rename_i u n hf
    simp only [hf, Option.map_some]
    cases ok with
    | true =>
      rw [if_pos rfl] at h ⊢
      cases u <;> simp only [Option.some.injEq] at h <;> first | (cases h; done) | (subst h; rfl)
    | false =>
      rw [if_neg Bool.false_ne_true, Option.some.injEq] at h
      subst h
      rfl
  · rename_i hf
    simp only [hf, Option.map_some, Option.map_none]
    split at h
    · rename_i z hz
      try simp only [hz]
      obtain ⟨e, he⟩ := mapKD_tt h1
      have hfz := zero_free hZ he hz
      cases ok with
      | true =>
        rw [if_pos rfl, Option.some.injEq] at h
        rw [if_pos rfl, Option.some.injEq]
        subst h
        simp only [V.den, denL, V.den_free hfz, C.den, den_lit (ρ := ρ) (v := .bool false) rfl]
      | false =>
        simp only [Bool.false_eq_true, if_false, Option.some.injEq] at h ⊢
        subst h
        exact (V.den_free hfz).symm
    · cases h
  · cases h

theorem St.set_den (σ : St) (b : Nat) (x : Blk) : ({ σ.den ρ with h := (σ.den ρ).h.set b (x.den ρ) } : St) = ({ σ with h := σ.h.set b x } : St).den ρ := by
  simp only [St.den, Heap.set_den]

theorem updateE_den {t : TypeId} {m : C} {k : Value} {u : V} (h : updateE X t σ m k u = some σ') : updateE X t (σ.den ρ) (m.den ρ) k (u.den ρ) = some (σ'.den ρ) := by
  unfold updateE at h ⊢
  split at h
  case h_2 => cases h
  rename_i d et b h1
  rw [h1]
  simp only [C.den]
  split at h
  case h_2 => cases h
  rename_i es clock hb
  have hb' : (σ.den ρ).h.get b = some (.map (esDen ρ es) clock) := by
    simp only [St.den, Heap.get_den, hb]
    rfl
  simp only [hb', okV_den]
  split at h
  case isFalse => cases h
  rename_i hk
  rw [if_pos hk, findK_den]
  split at h
  · rename_i p hf
    simp only [hf, Option.map_some]
    rw [setK_den]
    cases hs : setK d k u es with
    | none => rw [hs] at h; cases h
    | some es' =>
      rw [hs] at h
      simp only [Option.map_some, Option.some.injEq] at h ⊢
      subst h
      exact St.set_den σ b (.map es' clock)
  · rename_i hf
    simp only [hf, Option.map_some, Option.map_none]
    simp only [Option.some.injEq] at h ⊢
    subst h
    have := St.set_den (ρ := ρ) σ b (.map (es ++ [(k, u, clock)]) (clock + 1))
    simp only [Blk.den, List.map_append, List.map_cons, List.map_nil] at this
    exact this
  · cases h

theorem deleteE_den {t : TypeId} {m : C} {k : Value} (h : deleteE X t σ m k = some σ') : deleteE X t (σ.den ρ) (m.den ρ) k = some (σ'.den ρ) := by
  unfold deleteE at h ⊢
  split at h
  case h_2 => cases h
  rename_i d et b h1
  rw [h1]
  simp only [C.den]
  split at h
  case h_2 => cases h
  rename_i es clock hb
  have hb' : (σ.den ρ).h.get b = some (.map (esDen ρ es) clock) := by
    simp only [St.den, Heap.get_den, hb]
    rfl
  simp only [hb']
  split at h
  case isFalse => cases h
  rename_i hk
  rw [if_pos hk, dropK_den]
  cases hs : dropK d k es with
  | none => rw [hs] at h; cases h
  | some es' =>
    rw [hs] at h
    simp only [Option.map_some, Option.some.injEq] at h ⊢
    subst h
    exact St.set_den σ b (.map es' clock)

theorem elemTI_tt {t : TypeId} {et : TI} (h : elemTI X t = some et) : ∃ e, X.tt e = some et := by
  unfold elemTI at h
  split at h <;> try (cases h; done)
  split at h <;> first | (cases h; done) | exact ⟨_, h⟩

theorem val?_free {u : V} {k : Value} (hu : u.free = true) (h : u.val? = some k) : (u.den ρ).val? = some k := by rw [V.den_free hu, h]

theorem len_den {t : TypeId} {c : C} {ts : List TypeId} (h : builtinE X nm σ .len (t :: ts) [.one c] = some (v, σ')) : builtinE X nm (σ.den ρ) .len (t :: ts) [.one (c.den ρ)] = some (v.den ρ, σ'.den ρ) := by
  unfold builtinE at h ⊢
  simp only at h ⊢
  cases hX : X.tt t with
  | none => rw [hX] at h; cases h
  | some ti =>
    rw [hX] at h
    simp only at h ⊢
    have hint : ∀ (n : Int), V.den ρ (.one (.lit (.int .i64 n))) = .one (.lit (.int .i64 n)) := fun n => V.den_free rfl
    cases hd : ti.desc <;> rw [hd] at h <;> simp only at h ⊢ <;> first | (cases h; done) | skip
    · -- string
      split at h
      · simp only [Option.some.injEq, Prod.mk.injEq] at h
        obtain ⟨rfl, rfl⟩ := h
        simp only [C.den, den_lit (ρ := ρ) (v := .string _) rfl, hint]
      · cases h
    · -- slice
      split at h
      · cases h
      · rename_i hns
        simp only [Option.map_eq_some_iff, Prod.mk.injEq] at h
        obtain ⟨n, h1, rfl, rfl⟩ := h
        rw [hint]
        have h2 := lenC_den (ρ := ρ) h1
        cases c with
        | lit w =>
          cases w <;> first | (cases h1; done) | skip
          · exact absurd rfl (hns _)
          · rename_i a n' c'
            cases a with
            | none =>
              simp only [C.den, den_lit (ρ := ρ) (v := .slice none _ _) rfl] at h2 ⊢
              rw [h2]; rfl
            | some _ => cases h1
        | _ => first | (cases h1; done) | (simp only [C.den] at h2 ⊢; rw [h2]; rfl)
    · -- array
      simp only [Option.some.injEq, Prod.mk.injEq] at h
      obtain ⟨rfl, rfl⟩ := h
      rw [hint]
    · -- map
      simp only [Option.map_eq_some_iff, Prod.mk.injEq] at h
      obtain ⟨es, h1, rfl, rfl⟩ := h
      rw [hint]
      have hcf : c.free = true := by
        unfold entriesOf at h1
        split at h1 <;> first | rfl | cases h1
      rw [C.den_free hcf, entriesOf_den hcf, h1]
      simp only [Option.map_some, esDen, List.length_map]

theorem cfree_args {c : Call} (h : c.operands.toList.all cfree = true) : c.args.toList.all cfree = true := by
  unfold Call.operands at h
  rw [Array.toList_append, List.all_append, Bool.and_eq_true] at h
  exact h.2

theorem ps_free {ps : List (Nat × Operand)} (h : ((ps.map (·.2)).toArray.toList).all cfree = true) : (ps.all fun p => cfree p.2) = true := by
  simpa [List.all_map, Function.comp_def] using h

theorem optIdx_free {x : Option Operand} (h : ∀ y, x = some y → freeAt σ y = true ∧ cfree y = true) : optIdx (σ.den ρ) x = optIdx σ x := by
  cases x with
  | none => rfl
  | some y =>
    obtain ⟨h1, h2⟩ := h y rfl
    simp only [optIdx, ev_free h2 h1]

theorem sliceE_den {t : TypeId} {x : C} {lo hi mx : Option Int} : sliceE X (σ.den ρ) t x lo hi mx = sliceE X σ t x lo hi mx := by
  unfold sliceE
  simp only [szOk_den]

theorem bi_den (hZ : ZFree X) {b : Builtin} {ts : List TypeId} {vs : List V} (hdel : b = .delete → freeL vs = true) (h : builtinE X nm σ b ts vs = some (v, σ')) : builtinE X nm (σ.den ρ) b ts (vs.map (V.den ρ)) = some (v.den ρ, σ'.den ρ) := by
  have h0 := h
  unfold builtinE at h
  split at h
  · exact len_den h0
  · rename_i t t' s x
    simp only [List.map_cons, List.map_nil, V.den, builtinE]
    split at h
    case isFalse => cases h
    rename_i htt
    rw [if_pos htt]
    split at h <;> try (cases h; done)
    rename_i ti st h1 h2
    try simp only [h1, h2]
    split at h <;> try (cases h; done)
    rename_i e hd
    try simp only [hd]
    simp only [Option.map_eq_some_iff, Prod.mk.injEq] at h ⊢
    obtain ⟨⟨r, σ1⟩, h3, rfl, rfl⟩ := h
    exact ⟨(r.den ρ, σ1.den ρ), appendC_den h3, rfl, rfl⟩
  · rename_i t ts m k
    have hf := hdel rfl
    simp only [freeL, Bool.and_true, Bool.and_eq_true] at hf
    simp only [List.map_cons, List.map_nil, V.den, builtinE]
    split at h <;> try (cases h; done)
    rename_i kv hk
    rw [val?_free hf.2 hk]
    simp only [Option.map_eq_some_iff, Prod.mk.injEq] at h ⊢
    obtain ⟨σ1, h3, rfl, rfl⟩ := h
    exact ⟨σ1.den ρ, deleteE_den h3, (V.den_free rfl).symm, rfl⟩
  · rename_i t ts c
    simp only [List.map_cons, List.map_nil, V.den, builtinE]
    split at h <;> try (cases h; done)
    rename_i et st b o len cap h1 h2
    try simp only [h1, h2]
    simp only [C.den]
    split at h <;> try (cases h; done)
    rename_i e z sz cs hd hz hb
    have hb' : (σ.den ρ).h.get b = some (.row true sz (cs.map (C.den ρ))) := by
      simp only [St.den, Heap.get_den, hb]
      rfl
    try simp only [hd, hz, hb']
    split at h
    · rename_i hc
      rw [if_pos hc]
      obtain ⟨e', he'⟩ := elemTI_tt h1
      have hzf := zeroC_free (ρ := ρ) (hZ _ _ he') hz
      have hw := wr_den (ρ := ρ) cs o (zerosC z len)
      rw [zerosC_den, hzf] at hw
      rw [hw]
      simp only [Option.map_eq_some_iff, Prod.mk.injEq] at h
      obtain ⟨cs', h3, rfl, rfl⟩ := h
      rw [h3]
      simp only [Option.map_some, Option.some.injEq, Prod.mk.injEq]
      exact ⟨(V.den_free rfl).symm, St.set_den σ b (.row true sz cs')⟩
    · rename_i hc
      rw [if_neg hc]
      split at h
      · rename_i hl
        rw [if_pos hl]
        simp only [Option.some.injEq, Prod.mk.injEq] at h
        obtain ⟨rfl, rfl⟩ := h
        rw [V.den_free (ρ := ρ) (v := .one (.lit (.tuple #[]))) rfl]
      · cases h
  · cases h
end
end E
end Go.Proofs.Ytnfehccnofhmnaa
