/-
  An abstract machine of this place's own: an operation that writes, or makes, at another frame. No condition.
-/
import Derived.Test.YtnfehccnofhmnaaE16
set_option linter.all false
namespace Go.Proofs.Ytnfehccnofhmnaa
open Go.RowKit
namespace E
section
variable {P : Program} {X : Ctx} {fi : Fi} {nm nm' : Nat} {σ τ σ' : St} {o : Oper} {v : V} {e : List (Nat × V)}

theorem storeC_env {c : C} {xs : List C} (h : storeC σ c xs = some σ') : storeC { σ with env := e } c xs = some { σ' with env := e } ∧ σ'.env = σ.env := by
  unfold storeC at h ⊢
  split at h
  · rename_i hok
    rw [if_pos hok]
    split at h
    · simp only [Option.bind_eq_some_iff, Option.map_eq_some_iff] at h
      obtain ⟨bs, h1, ds, h2, rfl⟩ := h
      exact ⟨by simp only [h1, Option.bind_some, h2, Option.map_some], rfl⟩
    · split at h
      · rename_i sz bs hb
        simp only [Option.map_eq_some_iff] at h
        obtain ⟨ds, h2, rfl⟩ := h
        exact ⟨by simp only [hb, h2, Option.map_some], rfl⟩
      · cases h
    · cases h
  · cases h

theorem appendC_env {ti : TI} {s x : C} {p : C × St} (h : appendC ti nm σ s x = some p) : appendC ti nm { σ with env := e } s x = some (p.1, { p.2 with env := e }) ∧ p.2.env = σ.env := by
  have hsc : sliceCells { σ with env := e } ti.size x = sliceCells σ ti.size x := by unfold sliceCells; rfl
  unfold appendC at h ⊢
  rw [hsc]
  split at h
  · rename_i news m hn hm
    split at h
    · rename_i hck
      rw [if_pos hck]
      split at h
      · split at h
        · rename_i hm0
          simp only [Option.some.injEq] at h
          subst h
          simp only [if_pos hm0]
          exact ⟨trivial, trivial⟩
        · rename_i hm0
          simp only [if_neg hm0]
          split at h
          · rename_i hk
            simp only [Option.some.injEq] at h
            subst h
            rw [if_pos hk]
            exact ⟨rfl, rfl⟩
          · cases h
      · split at h
        · rename_i sz cs hb
          simp only [hb]
          split at h
          · rename_i hm0
            simp only [Option.some.injEq] at h
            subst h
            simp only [if_pos hm0]
            exact ⟨trivial, trivial⟩
          · rename_i hm0
            simp only [if_neg hm0]
            split at h
            · rename_i hc
              simp only [Option.map_eq_some_iff] at h
              obtain ⟨ds, h1, rfl⟩ := h
              rw [if_pos hc, h1]
              exact ⟨rfl, rfl⟩
            · rename_i hc
              rw [if_neg hc]
              split at h
              · rename_i hk
                simp only [Option.map_eq_some_iff] at h
                obtain ⟨ds, h1, rfl⟩ := h
                rw [if_pos hk, h1]
                exact ⟨rfl, rfl⟩
              · cases h
        · cases h
      · cases h
    · cases h
  · cases h

theorem updateE_env {t : TypeId} {c : C} {k : Value} {u : V} (h : updateE X t σ c k u = some σ') : updateE X t { σ with env := e } c k u = some { σ' with env := e } ∧ σ'.env = σ.env := by
  unfold updateE at h ⊢
  split at h
  · rename_i d et b hm
    skip
    split at h
    · rename_i es cl hb
      try simp only [hb]
      split at h
      · rename_i hck
        rw [if_pos hck]
        split at h
        · rename_i hf
          simp only [Option.map_eq_some_iff] at h
          obtain ⟨es', h1, rfl⟩ := h
          simp only [h1, Option.map_some]
          exact ⟨trivial, trivial⟩
        · rename_i hf
          simp only [Option.some.injEq] at h
          subst h
          exact ⟨rfl, rfl⟩
        · cases h
      · cases h
    · cases h
  · cases h

theorem deleteE_env {t : TypeId} {c : C} {k : Value} (h : deleteE X t σ c k = some σ') : deleteE X t { σ with env := e } c k = some { σ' with env := e } ∧ σ'.env = σ.env := by
  unfold deleteE at h ⊢
  split at h
  · rename_i d et b hm
    skip
    split at h
    · rename_i es cl hb
      try simp only [hb]
      split at h
      · rename_i hck
        rw [if_pos hck]
        simp only [Option.map_eq_some_iff] at h
        obtain ⟨es', h1, rfl⟩ := h
        rw [h1]
        exact ⟨rfl, rfl⟩
      · cases h
    · cases h
  · cases h

/-- An operation of the chain, at another frame. -/
theorem op_chain (hk : okind o = .chain) (_hc : isCall o = false) (hev : ∀ x ∈ o.op.operands.toList, ev { σ with env := e } x = ev σ x) (h : op P X fi nm o σ = some (v, σ')) :
    op P X fi nm o { σ with env := e } = some (v, { σ' with env := e }) ∧ σ'.env = σ.env := by
  cases ho : o.op with
  | store t x y =>
    simp only [op, ho] at h ⊢
    obtain ⟨ti, h1, h2⟩ := onTI_some h
    obtain ⟨c, h3, h4⟩ := onC_some h2
    obtain ⟨u, h5, h6⟩ := onV_some h4
    rw [onTI_of h1, onC_of (by rw [hev x (by simp [ho, Op.operands])]; exact h3), onV_of (by rw [hev y (by simp [ho, Op.operands])]; exact h5)]
    split at h6
    · split at h6
      · rename_i hl
        simp only [Option.map_eq_some_iff, Prod.mk.injEq] at h6
        obtain ⟨σ1, h7, rfl, rfl⟩ := h6
        obtain ⟨g1, g2⟩ := storeC_env (e := e) h7
        rw [if_pos hl, g1]
        exact ⟨rfl, g2⟩
      · cases h6
    · cases h6
  | mapUpdate t m x y =>
    simp only [op, ho] at h ⊢
    obtain ⟨c, h3, h4⟩ := onC_some h
    obtain ⟨kv, h5, h6⟩ := onV_some h4
    obtain ⟨u, h7, h8⟩ := onV_some h6
    rw [onC_of (by rw [hev m (by simp [ho, Op.operands])]; exact h3), onV_of (by rw [hev x (by simp [ho, Op.operands])]; exact h5), onV_of (by rw [hev y (by simp [ho, Op.operands])]; exact h7)]
    split at h8
    · simp only [Option.map_eq_some_iff, Prod.mk.injEq] at h8
      obtain ⟨σ1, h9, rfl, rfl⟩ := h8
      obtain ⟨g1, g2⟩ := updateE_env (e := e) h9
      rw [g1]
      exact ⟨rfl, g2⟩
    · cases h8
  | insert t m x y =>
    simp only [op, ho] at h ⊢
    obtain ⟨c, h3, h4⟩ := onC_some h
    obtain ⟨kv, h5, h6⟩ := onV_some h4
    obtain ⟨u, h7, h8⟩ := onV_some h6
    rw [onC_of (by rw [hev m (by simp [ho, Op.operands])]; exact h3), onV_of (by rw [hev x (by simp [ho, Op.operands])]; exact h5), onV_of (by rw [hev y (by simp [ho, Op.operands])]; exact h7)]
    split at h8
    · simp only [Option.map_eq_some_iff, Prod.mk.injEq] at h8
      obtain ⟨σ1, h9, rfl, rfl⟩ := h8
      obtain ⟨g1, g2⟩ := updateE_env (e := e) h9
      rw [g1]
      exact ⟨rfl, g2⟩
    · cases h8
  | call c =>
    simp only [okind, ho] at hk
    simp only [op, ho] at h ⊢
    split at h
    case h_2 => cases h
    rename_i b hb
    rw [evs_eq (σ := σ) (τ := { σ with env := e }) fun x hx => hev x (by simp [ho, Op.operands, Call.operands, hb]; simpa using hx)]
    split at h
    case h_2 => cases h
    rename_i vs hvs
    unfold builtinE at h ⊢
    split at h
    · simp [hb] at hk
    · rename_i t t' s x hts
      split at h
      case isFalse => cases h
      rename_i htt
      rw [if_pos htt]
      split at h
      case h_2 => cases h
      split at h
      case h_2 => cases h
      simp only [Option.map_eq_some_iff, Prod.mk.injEq] at h
      obtain ⟨p, hp, rfl, rfl⟩ := h
      obtain ⟨g1, g2⟩ := appendC_env (e := e) hp
      rw [g1]
      exact ⟨rfl, g2⟩
    · split at h
      case h_2 => cases h
      simp only [Option.map_eq_some_iff, Prod.mk.injEq] at h
      obtain ⟨σ1, h1, rfl, rfl⟩ := h
      obtain ⟨g1, g2⟩ := deleteE_env (e := e) h1
      rw [g1]
      exact ⟨rfl, g2⟩
    · split at h
      case h_2 => cases h
      split at h
      case h_2 => cases h
      rename_i hd hz hbk
      split at h
      · rename_i hck
        simp only [Option.map_eq_some_iff, Prod.mk.injEq] at h
        obtain ⟨cs', h1, rfl, rfl⟩ := h
        simp only [hd, hz, hbk, if_pos hck, h1, Option.map_some]
        exact ⟨trivial, trivial⟩
      · rename_i hck
        split at h
        · rename_i hl
          simp only [Option.some.injEq, Prod.mk.injEq] at h
          obtain ⟨rfl, rfl⟩ := h
          simp only [hd, hz, hbk, if_neg hck, if_pos hl]
          exact ⟨trivial, trivial⟩
        · cases h
    · cases h
  | _ => simp [okind, ho] at hk

theorem op_nm (hk : okind o = .chain) (hm : makes fi o = false) (h : op P X fi nm o σ = some (v, σ')) : op P X fi nm' o σ = some (v, σ') := by
  cases ho : o.op with
  | store t x y => simp only [op, ho] at h ⊢; exact h
  | mapUpdate t m x y => simp only [op, ho] at h ⊢; exact h
  | insert t m x y => simp only [op, ho] at h ⊢; exact h
  | call c =>
    simp only [makes, ho] at hm
    simp only [op, ho] at h ⊢
    split at h
    case h_2 => cases h
    rename_i b hb
    simp only [hb] at hm
    split at h
    case h_2 => cases h
    unfold builtinE at h ⊢
    split at h <;> first | exact h | cases hm | cases h
  | _ => simp [okind, ho] at hk

theorem makes_kind (h : makes fi o = true) : okind o = .alloc ∨ okind o = .chain := by
  unfold makes at h
  unfold okind
  cases ho : o.op <;> simp_all
  rename_i c
  cases hc : c.callee <;> simp_all
  rename_i b
  cases b <;> simp_all

/-! ### What is made -/
inductive Add where
  | box (t : Nat) (cs : List C)
  | blk (b : Nat) (x : Blk)

def Add.on : Add → St → St
  | .box t cs, σ => { σ with bx := (t, cs) :: σ.bx }
  | .blk b x, σ => { σ with h := σ.h.set b x }

def Add.free : Add → St → Prop
  | .box t _, σ => get σ.bx t = none ∧ (σ.env.any fun p => mentionsV t p.2) = false
  | .blk .., _ => True

def Add.fits (fi : Fi) (nm : Nat) (o : Oper) : Add → Prop
  | .box t _ => boxSlot fi o = some t
  | .blk b x => b = nm ∧ makes fi o = true ∧ x.rw = true

theorem newVarE_add {d : Option Nat} {cs : List C} (hmk : ∀ t, d = some t → makes fi o = !fi.prom.contains t) (hd : ∀ t, d = some t → fi.prom.contains t = true → boxSlot fi o = some t) (h : newVarE fi nm d σ cs = some (v, σ')) :
    ∃ A : Add, σ' = A.on σ ∧ A.free σ ∧ A.fits fi nm o ∧ ∀ (τ : St) (nm' : Nat), A.free τ → (nm' = nm ∨ makes fi o = false) → newVarE fi nm' d τ cs = some (v, A.on τ) := by
  unfold newVarE at h
  split at h
  · rename_i t
    cases hp : fi.prom.contains t with
    | true =>
      rw [hp, cond_true] at h
      simp only [newBox, Option.map_eq_some_iff, Prod.mk.injEq] at h
      obtain ⟨σ1, h1, rfl, rfl⟩ := h
      split at h1
      · rename_i hc
        simp only [Option.some.injEq] at h1
        subst h1
        simp only [Bool.and_eq_true, Bool.not_eq_true', Option.isNone_iff_eq_none] at hc
        obtain ⟨⟨hok, hfree⟩, hm⟩ := hc
        refine ⟨.box t cs, rfl, ⟨hfree, hm⟩, hd t rfl hp, fun τ nm' hτ _ => ?_⟩
        simp only [newVarE, hp, cond_true, newBox, hok, hτ.1, hτ.2, Option.isNone_none, Bool.not_false, Bool.and_self, if_true, Option.map_some]
        rfl
      · cases h1
    | false =>
      rw [hp, cond_false] at h
      simp only [newRowH, Option.map_eq_some_iff, Prod.mk.injEq] at h
      obtain ⟨σ1, h1, rfl, rfl⟩ := h
      split at h1
      · rename_i hok
        simp only [Option.some.injEq] at h1
        subst h1
        refine ⟨.blk nm (.row true 0 cs), rfl, trivial, ⟨rfl, by rw [hmk t rfl, hp]; rfl, rfl⟩, fun τ nm' _ hn => ?_⟩
        rcases hn with rfl | hn
        case inr => rw [hmk t rfl, hp] at hn; cases hn
        simp only [newVarE, hp, cond_false, newRowH, if_pos hok, Option.map_some]
        rfl
      · cases h1
  · cases h

theorem newRowH_add {sz : Nat} {cs : List C} (h : newRowH σ nm sz cs = some σ') : ∃ x, σ' = (Add.blk nm x).on σ ∧ x.rw = true ∧ ∀ τ : St, newRowH τ nm sz cs = some ((Add.blk nm x).on τ) := by
  unfold newRowH at h
  split at h
  · rename_i hok
    simp only [Option.some.injEq] at h
    subst h
    exact ⟨.row true sz cs, rfl, rfl, fun τ => by simp only [newRowH, if_pos hok]; rfl⟩
  · cases h

/-- An operation that makes something, at another state. -/
theorem op_adds (hk : okind o = .alloc) (h : op P X fi nm o σ = some (v, σ')) : ∃ A : Add, σ' = A.on σ ∧ A.free σ ∧ A.fits fi nm o ∧
    ∀ (τ : St) (nm' : Nat), (∀ x ∈ o.op.operands.toList, ev τ x = ev σ x) → A.free τ → (nm' = nm ∨ makes fi o = false) → op P X fi nm' o τ = some (v, A.on τ) := by
  cases ho : o.op with
  | alloc t =>
    simp only [op, ho] at h ⊢
    obtain ⟨ti, h1, h2⟩ := onTI_some h
    split at h2
    · rename_i cs hcs
      split at h2
      · rename_i hl
        obtain ⟨A, g1, g2, g3, g4⟩ := newVarE_add (o := o) (fun t ht => by simp [makes, ho, ht]) (fun t ht hp => by simp only [boxSlot, ho, ht, hp, cond_true]) h2
        refine ⟨A, g1, g2, g3, fun τ nm' _ hf hn => ?_⟩
        rw [onTI_of h1, hcs]
        simp only [if_pos hl]
        exact g4 τ nm' hf hn
      · cases h2
    · cases h2
  | box t x =>
    simp only [op, ho] at h ⊢
    obtain ⟨u, h1, h2⟩ := onV_some h
    split at h2
    · rename_i cs hcs
      obtain ⟨A, g1, g2, g3, g4⟩ := newVarE_add (o := o) (fun t ht => by simp [makes, ho, ht]) (fun t ht hp => by simp only [boxSlot, ho, ht, hp, cond_true]) h2
      refine ⟨A, g1, g2, g3, fun τ nm' hev hf hn => ?_⟩
      rw [onV_of (by rw [hev x (by simp [Op.operands])]; exact h1), hcs]
      exact g4 τ nm' hf hn
    · cases h2
  | buildSlice t n ps =>
    simp only [op, ho] at h ⊢
    split at h
    case h_2 => cases h
    rename_i et vs st het hvs hst
    split at h
    case h_2 => cases h
    rename_i el z hd hz
    split at h
    case isFalse => cases h
    rename_i hck
    split at h
    case h_2 => cases h
    rename_i cs hcs
    simp only [Option.map_eq_some_iff, Prod.mk.injEq] at h
    obtain ⟨σ1, h1, rfl, rfl⟩ := h
    obtain ⟨x, rfl, hx, g⟩ := newRowH_add h1
    refine ⟨.blk nm x, rfl, trivial, ⟨rfl, by simp [makes, ho], hx⟩, fun τ nm' hev _ hn => ?_⟩
    rcases hn with rfl | hn
    case inr => simp [makes, ho] at hn
    rw [evParts_eq (σ := σ) (τ := τ) fun x hx => hev x (by simpa [Op.operands] using hx), hvs]
    simp only [het, hst, hd, hz, if_pos hck, hcs, g τ, Option.map_some]
  | makeSlice t l c =>
    simp only [op, ho] at h ⊢
    obtain ⟨u, h1, h2⟩ := onV_some h
    obtain ⟨u', h3, h4⟩ := onV_some h2
    split at h4
    case h_2 => cases h4
    rename_i et st n m het hst
    split at h4
    case h_2 => cases h4
    rename_i el hd
    unfold makeSliceE at h4
    split at h4
    case h_2 => cases h4
    rename_i z hz
    split at h4
    case isFalse => cases h4
    rename_i hck
    simp only [Option.map_eq_some_iff, Prod.mk.injEq] at h4
    obtain ⟨σ1, h5, rfl, rfl⟩ := h4
    obtain ⟨x, rfl, hx, g⟩ := newRowH_add h5
    refine ⟨.blk nm x, rfl, trivial, ⟨rfl, by simp [makes, ho], hx⟩, fun τ nm' hev _ hn => ?_⟩
    rcases hn with rfl | hn
    case inr => simp [makes, ho] at hn
    rw [onV_of (by rw [hev l (by simp [Op.operands])]; exact h1), onV_of (by rw [hev c (by simp [Op.operands])]; exact h3)]
    simp only [het, hst, hd, makeSliceE, hz, if_pos hck, g τ, Option.map_some]
  | makeMap t r =>
    cases r with
    | none =>
      simp only [op, ho, Option.some.injEq, Prod.mk.injEq] at h ⊢
      obtain ⟨rfl, rfl⟩ := h
      exact ⟨.blk nm (.map [] 0), rfl, trivial, ⟨rfl, by simp [makes, ho], rfl⟩, fun τ nm' _ _ hn => by
        rcases hn with rfl | hn
        · exact ⟨rfl, rfl⟩
        · simp [makes, ho] at hn⟩
    | some r => simp [op, ho] at h
  | call c =>
    simp only [okind, ho] at hk
    split at hk <;> cases hk
  | _ => simp [okind, ho] at hk

theorem callee_eq (hev : ∀ x ∈ o.op.operands.toList, ev τ x = ev σ x) : callee τ o = callee σ o := by
  unfold callee
  cases ho : o.op <;> simp only
  rename_i c
  cases hc : c.callee <;> simp only
  rename_i f
  have h1 : ev τ f = ev σ f := hev f (by simp [ho, Op.operands, Call.operands, hc])
  have h2 : evs τ c.args.toList = evs σ c.args.toList := evs_eq fun x hx => hev x (by simp [ho, Op.operands, Call.operands, hc]; right; simpa using hx)
  rw [h1, h2]

theorem wanted_eq {ops : List Oper} (h : ∀ j want oj t, o.guard = some (j, want) → ops[j]? = some oj → oj.dst = some t → get τ.env t = get σ.env t) : wanted ops o τ = wanted ops o σ := by
  unfold wanted
  cases hg : o.guard with
  | none => rfl
  | some p =>
    obtain ⟨j, want⟩ := p
    cases hj : ops[j]? with
    | none => simp only [hj]
    | some oj =>
      cases ht : oj.dst with
      | none => simp only [hj, ht]
      | some t => simp only [hj, ht, h j want oj t hg hj ht]
end
end E
end Go.Proofs.Ytnfehccnofhmnaa
