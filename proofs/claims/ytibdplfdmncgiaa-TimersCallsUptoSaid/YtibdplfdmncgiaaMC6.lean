/-
  An abstract machine of this place's own: on what an operation hangs: its operands, and what it reads. No condition.
-/
import Derived.Test.YtibdplfdmncgiaaMC5
import Derived.Orders
set_option linter.all false
namespace Go.Proofs.Ytibdplfdmncgiaa
open Go.RowKit
namespace E

/-- One memory holds what another one holds. -/
def MemLe (σ τ : St) : Prop := (∀ t cs, get σ.bx t = some cs → get τ.bx t = some cs) ∧ (∀ b x, σ.h.get b = some x → τ.h.get b = some x)

section
variable {P : Program} {X : Ctx} {fi : Fi} {nm nm' : Nat} {σ τ σ' : St} {o : Oper} {v : V}

theorem onV_of {x : Operand} {u : V} {k : V → Option (V × St)} (h : ev τ x = some u) : onV τ x k = k u := by simp [onV, h]
theorem onC_of {x : Operand} {c : C} {k : C → Option (V × St)} (h : ev τ x = some (.one c)) : onC τ x k = k c := by simp [onC, h]
theorem onTI_of {t : TypeId} {ti : TI} {k : TI → Option (V × St)} (h : X.tt t = some ti) : onTI X t k = k ti := by simp [onTI, h]

theorem loadC_mono (hm : MemLe σ τ) {c : C} {n : Nat} {cs : List C} (h : loadC σ c n = some cs) : loadC τ c n = some cs := by
  unfold loadC at h ⊢
  split at h
  · rename_i t k
    simp only [Option.bind_eq_some_iff] at h ⊢
    obtain ⟨bs, h1, h2⟩ := h
    exact ⟨bs, hm.1 t bs h1, h2⟩
  · rename_i b k
    split at h
    · rename_i rw' sz bs hb
      simp only [hm.2 b _ hb]
      exact h
    · cases h
  · cases h

theorem entries_mono (hm : MemLe σ τ) {c : C} {es : List (Value × V × Nat)} (h : entriesOf σ c = some es) : entriesOf τ c = some es := by
  unfold entriesOf at h ⊢
  split at h
  · exact h
  · rename_i b
    split at h
    · rename_i es' cl hb
      simp only [hm.2 b _ hb]
      exact h
    · cases h
  · cases h

theorem szOk_mono (hm : MemLe σ τ) {b sz l : Nat} (h : szOk σ b sz l = true) : szOk τ b sz l = true := by
  simp only [szOk, Bool.or_eq_true] at h ⊢
  rcases h with h | h
  · exact .inl h
  · right
    split at h
    · rename_i rw' sz' cs hb
      simp only [hm.2 b _ hb]
      simpa using h
    · cases h

theorem pureOp_eq (hs : ∀ cs b, o.op ≠ .select cs b) (hev : ∀ x ∈ o.op.operands.toList, ev τ x = ev σ x) : pureOp P o τ = pureOp P o σ := by
  have h0 : ∀ x ∈ o.op.operands.toList, litAt τ x = litAt σ x := fun x hx => by unfold litAt; rw [hev x hx]
  have h1 : o.op.operands.toList.all (litAt τ) = o.op.operands.toList.all (litAt σ) := by
    rw [Bool.eq_iff_iff, List.all_eq_true, List.all_eq_true]
    exact ⟨fun h x hx => by rw [← h0 x hx]; exact h x hx, fun h x hx => by rw [h0 x hx]; exact h x hx⟩
  unfold pureOp
  rw [h1, execOp_congr (ρ := ρ τ) (ρ' := ρ σ) o hs fun x hx => by unfold ρ; rw [hev x (by simpa using hx)]]

theorem pureV_eq (hs : ∀ cs b, o.op ≠ .select cs b) (hev : ∀ x ∈ o.op.operands.toList, ev τ x = ev σ x) (h : op.pureV P o σ = some (v, σ')) : op.pureV P o τ = some (v, τ) ∧ σ' = σ := by
  simp only [op.pureV, Option.map_eq_some_iff, Prod.mk.injEq] at h
  obtain ⟨u, h1, rfl, rfl⟩ := h
  exact ⟨by simp only [op.pureV, pureOp_eq hs hev, h1, Option.map_some], rfl⟩

theorem evs_eq : ∀ {l : List Operand}, (∀ x ∈ l, ev τ x = ev σ x) → evs τ l = evs σ l
  | [], _ => rfl
  | x :: l, h => by
    have h1 := h x (by simp)
    have h2 := evs_eq (l := l) fun y hy => h y (by simp [hy])
    simp only [evs, h1, h2]

theorem evParts_eq : ∀ {l : List (Nat × Operand)}, (∀ x ∈ l.map (·.2), ev τ x = ev σ x) → evParts τ l = evParts σ l
  | [], _ => rfl
  | (i, x) :: l, h => by
    have h1 := h x (by simp)
    have h2 := evParts_eq (l := l) fun y hy => h y (by rw [List.map_cons]; exact List.mem_cons_of_mem _ hy)
    simp only [evParts, h1, h2]

theorem optIdx_eq {x : Option Operand} (h : ∀ y ∈ x, ev τ y = ev σ y) : optIdx τ x = optIdx σ x := by
  cases x with
  | none => rfl
  | some y => simp only [optIdx, h y rfl]

/-- An operation that only computes, or reads. -/
theorem op_float (hk : okind o = .pure ∨ okind o = .read) (hev : ∀ x ∈ o.op.operands.toList, ev τ x = ev σ x) (hm : okind o = .read → MemLe σ τ) (h : op P X fi nm o σ = some (v, σ')) : op P X fi nm' o τ = some (v, τ) ∧ σ' = σ := by
  have hs : ∀ cs b, o.op ≠ .select cs b := fun cs b he => by simp [op, he] at h
  cases ho : o.op with
  | move x =>
    simp only [op, ho] at h ⊢
    obtain ⟨u, h1, h2⟩ := onV_some h
    simp only [Option.some.injEq, Prod.mk.injEq] at h2
    obtain ⟨rfl, rfl⟩ := h2
    rw [onV_of (by rw [hev x (by simp [ho, Op.operands])]; exact h1)]
    exact ⟨rfl, rfl⟩
  | assign x =>
    simp only [op, ho] at h ⊢
    obtain ⟨u, h1, h2⟩ := onV_some h
    simp only [Option.some.injEq, Prod.mk.injEq] at h2
    obtain ⟨rfl, rfl⟩ := h2
    rw [onV_of (by rw [hev x (by simp [ho, Op.operands])]; exact h1)]
    exact ⟨rfl, rfl⟩
  | pick c x y =>
    simp only [op, ho] at h ⊢
    obtain ⟨k, h1, h2⟩ := onC_some h
    rw [onC_of (by rw [hev c (by simp [ho, Op.operands])]; exact h1)]
    split at h2
    · rename_i t
      obtain ⟨u, h3, h4⟩ := onV_some h2
      simp only [Option.some.injEq, Prod.mk.injEq] at h4
      obtain ⟨rfl, rfl⟩ := h4
      rw [onV_of (u := u) (by cases t <;> (simp only [if_true, Bool.false_eq_true, if_false] at h3 ⊢; rw [hev _ (by simp [ho, Op.operands])]; exact h3))]
      exact ⟨rfl, rfl⟩
    · cases h2
  | extract x i =>
    simp only [op, ho] at h ⊢
    obtain ⟨k, h1, h2⟩ := onV_some h
    rw [onV_of (by rw [hev x (by simp [ho, Op.operands])]; exact h1)]
    split at h2
    · simp only [Option.map_eq_some_iff, Prod.mk.injEq] at h2
      obtain ⟨u, hu, rfl, rfl⟩ := h2
      exact ⟨by rw [hu]; rfl, rfl⟩
    · cases h2
  | load t x =>
    have hm := hm (by simp [okind, ho])
    simp only [op, ho] at h ⊢
    obtain ⟨ti, h1, h2⟩ := onTI_some h
    obtain ⟨c, h3, h4⟩ := onC_some h2
    rw [onTI_of h1, onC_of (by rw [hev x (by simp [ho, Op.operands])]; exact h3)]
    simp only [load, Option.map_eq_some_iff, Option.bind_eq_some_iff, Prod.mk.injEq] at h4
    obtain ⟨v', ⟨cs, h5, h6⟩, rfl, rfl⟩ := h4
    exact ⟨by simp only [load, loadC_mono hm h5, Option.bind_some, h6, Option.map_some], rfl⟩
  | nilCheck x =>
    simp only [op, ho] at h ⊢
    obtain ⟨c, h3, h4⟩ := onC_some h
    rw [onC_of (by rw [hev x (by simp [ho, Op.operands])]; exact h3)]
    split at h4
    · simp only [Option.some.injEq, Prod.mk.injEq] at h4; obtain ⟨rfl, rfl⟩ := h4; exact ⟨rfl, rfl⟩
    · simp only [Option.some.injEq, Prod.mk.injEq] at h4; obtain ⟨rfl, rfl⟩ := h4; exact ⟨rfl, rfl⟩
    · cases h4
  | fieldAddr t x f =>
    simp only [op, ho] at h ⊢
    split at h
    · rename_i off ft hft
      split at h
      · rename_i hpos
        obtain ⟨c, h3, h4⟩ := onC_some h
        simp only [if_pos hpos]
        rw [onC_of (by rw [hev x (by simp [ho, Op.operands])]; exact h3)]
        simp only [Option.map_eq_some_iff, Prod.mk.injEq] at h4
        obtain ⟨c', h5, rfl, rfl⟩ := h4
        exact ⟨by rw [h5]; rfl, rfl⟩
      · cases h
    · cases h
  | field t x f =>
    simp only [op, ho] at h ⊢
    split at h
    · obtain ⟨u, h3, h4⟩ := onV_some h
      rw [onV_of (by rw [hev x (by simp [ho, Op.operands])]; exact h3)]
      split at h4
      · simp only [Option.map_eq_some_iff, Prod.mk.injEq] at h4
        obtain ⟨v', h5, rfl, rfl⟩ := h4
        exact ⟨by rw [h5]; rfl, rfl⟩
      · cases h4
    · cases h
  | indexAddr t x y =>
    simp only [op, ho] at h ⊢
    obtain ⟨c, h3, h4⟩ := onC_some h
    obtain ⟨u, h5, h6⟩ := onV_some h4
    rw [onC_of (by rw [hev x (by simp [ho, Op.operands])]; exact h3), onV_of (by rw [hev y (by simp [ho, Op.operands])]; exact h5)]
    split at h6
    · simp only [Option.map_eq_some_iff, Prod.mk.injEq] at h6
      obtain ⟨c', h7, rfl, rfl⟩ := h6
      exact ⟨by rw [h7]; rfl, rfl⟩
    · cases h6
  | index t x y =>
    simp only [op, ho] at h ⊢
    split at h
    · obtain ⟨u, h3, h4⟩ := onV_some h
      obtain ⟨u', h5, h6⟩ := onV_some h4
      rw [onV_of (by rw [hev x (by simp [ho, Op.operands])]; exact h3), onV_of (by rw [hev y (by simp [ho, Op.operands])]; exact h5)]
      split at h6
      · rename_i hd hj
        split at h6
        · rename_i hin
          simp only [if_pos hin]
          simp only [Option.map_eq_some_iff, Prod.mk.injEq] at h6
          obtain ⟨v', h7, rfl, rfl⟩ := h6
          exact ⟨by rw [h7]; rfl, rfl⟩
        · cases h6
      · cases h6
    · exact pureV_eq hs hev h
  | slice t x lo hi mx =>
    have hm := hm (by simp [okind, ho])
    simp only [op, ho] at h ⊢
    have e1 : optIdx τ lo = optIdx σ lo := optIdx_eq fun y hy => hev y (by simp [ho, Op.operands]; simp at hy; simp [hy])
    have e2 : optIdx τ hi = optIdx σ hi := optIdx_eq fun y hy => hev y (by simp [ho, Op.operands]; simp at hy; simp [hy])
    have e3 : optIdx τ mx = optIdx σ mx := optIdx_eq fun y hy => hev y (by simp [ho, Op.operands]; simp at hy; simp [hy])
    rw [e1, e2, e3, hev x (by simp [ho, Op.operands])]
    split at h
    case h_2 => cases h
    rename_i l h' m h1 h2 h3
    split at h
    · exact pureV_eq hs hev h
    · rename_i c _ hx
      simp only [Option.map_eq_some_iff, Prod.mk.injEq] at h
      obtain ⟨c', h7, rfl, rfl⟩ := h
      suffices hh : sliceE X τ t c l h' m = some c' by exact ⟨by simp only [hh, Option.map_some], rfl⟩
      unfold sliceE at h7 ⊢
      split at h7
      case h_2 => cases h7
      split at h7
      · split at h7
        · rename_i et b q len cap het _
          split at h7
          case h_2 => cases h7
          split at h7
          case isFalse => cases h7
          rename_i hz
          rw [if_pos (szOk_mono hm hz)]
          exact h7
        · exact h7
        · cases h7
      · exact h7
      · cases h7
    · cases h
  | build t ps =>
    simp only [op, ho] at h ⊢
    obtain ⟨ti, h1, h2⟩ := onTI_some h
    rw [onTI_of h1, evParts_eq (σ := σ) (τ := τ) fun x hx => hev x (by simpa [ho, Op.operands] using hx)]
    split at h2
    case h_2 => cases h2
    rename_i z vs hz hvs
    split at h2
    · split at h2
      · simp only [Option.map_eq_some_iff, Prod.mk.injEq] at h2
        obtain ⟨ds, hf, rfl, rfl⟩ := h2
        exact ⟨by rw [hf]; rfl, rfl⟩
      · cases h2
    · split at h2
      · simp only [Option.map_eq_some_iff, Prod.mk.injEq] at h2
        obtain ⟨ds, hf, rfl, rfl⟩ := h2
        exact ⟨by rw [hf]; rfl, rfl⟩
      · cases h2
    · cases h2
  | lookup t x y ok =>
    have hm := hm (by simp [okind, ho])
    simp only [op, ho] at h ⊢
    obtain ⟨c, h3, h4⟩ := onC_some h
    obtain ⟨u, h5, h6⟩ := onV_some h4
    rw [onC_of (by rw [hev x (by simp [ho, Op.operands])]; exact h3), onV_of (by rw [hev y (by simp [ho, Op.operands])]; exact h5)]
    split at h6
    case h_2 => cases h6
    simp only [Option.map_eq_some_iff, Prod.mk.injEq] at h6
    obtain ⟨v', h7, rfl, rfl⟩ := h6
    rename_i kk hkk
    suffices hh : lookupE X t τ c kk ok = some v' by exact ⟨by simp only [hh, Option.map_some], rfl⟩
    unfold lookupE at h7 ⊢
    split at h7
    case h_2 => cases h7
    rename_i hmk hes
    simp only [hmk, entries_mono hm hes]
    exact h7
  | makeFunc f fs caps =>
    cases f with
    | func f =>
      simp only [op, ho] at h ⊢
      split at h
      · rename_i hfs
        rw [if_pos hfs, evs_eq (σ := σ) (τ := τ) fun x hx => hev x (by simp [ho, Op.operands]; right; simpa using hx)]
        split at h
        · simp only [Option.map_eq_some_iff, Prod.mk.injEq] at h
          obtain ⟨l, h1, rfl, rfl⟩ := h
          exact ⟨by rw [h1]; rfl, rfl⟩
        · cases h
      · cases h
    | _ => simp [op, ho] at h
  | binOp b t x y t' =>
    simp only [op, ho] at h ⊢
    obtain ⟨u, h3, h4⟩ := onV_some h
    obtain ⟨u', h5, h6⟩ := onV_some h4
    rw [onV_of (by rw [hev x (by simp [ho, Op.operands])]; exact h3), onV_of (by rw [hev y (by simp [ho, Op.operands])]; exact h5)]
    split at h6
    · simp only [Option.some.injEq, Prod.mk.injEq] at h6
      obtain ⟨rfl, rfl⟩ := h6
      exact ⟨rfl, rfl⟩
    · exact pureV_eq hs hev h6
  | unOp u t x => simp only [op, ho] at h ⊢; exact pureV_eq hs hev h
  | convert s t x => simp only [op, ho] at h ⊢; exact pureV_eq hs hev h
  | call c =>
    simp only [okind, ho] at hk hm
    simp only [op, ho] at h ⊢
    split at h
    case h_2 => cases h
    rename_i b hb
    simp only [hb] at hk hm
    have hbl : b = .len := by cases b <;> simp at hk ⊢
    subst hbl
    have hm := hm rfl
    rw [evs_eq (σ := σ) (τ := τ) fun x hx => hev x (by simp [ho, Op.operands, Call.operands, hb]; simpa using hx)]
    split at h
    case h_2 => cases h
    rename_i vs hvs
    unfold builtinE at h ⊢
    split at h <;> try (cases h; done)
    · rename_i t rest c' hts
      split at h
      case h_2 => cases h
      split at h
      · simp only [Option.map_eq_some_iff, Prod.mk.injEq] at h
        obtain ⟨es, h1, rfl, rfl⟩ := h
        exact ⟨by rw [entries_mono hm h1]; rfl, rfl⟩
      · simp only [Option.some.injEq, Prod.mk.injEq] at h
        obtain ⟨rfl, rfl⟩ := h
        exact ⟨rfl, rfl⟩
      · split at h
        · cases h
        · simp only [Option.map_eq_some_iff, Prod.mk.injEq] at h
          obtain ⟨n, h1, rfl, rfl⟩ := h
          exact ⟨by rw [h1]; rfl, rfl⟩
      · split at h
        · simp only [Option.some.injEq, Prod.mk.injEq] at h
          obtain ⟨rfl, rfl⟩ := h
          exact ⟨rfl, rfl⟩
        · cases h
      · cases h
    all_goals (first | cases ‹Builtin.len = _› | skip)
  | _ => simp [op, ho, okind] at h hk
end
end E
end Go.Proofs.Ytibdplfdmncgiaa

/-
  An abstract machine of this place's own: an operation that writes, or makes, at another frame. No condition.
-/
namespace Go.Proofs.Ytibdplfdmncgiaa
open Go.RowKit
namespace E
section
variable {P : Program} {X : Ctx} {fi : Fi} {nm nm' : Nat} {σ τ σ' : St} {o : Oper} {v : V} {e : List (Nat × V)}

theorem storeC_env {c : C} {xs : List C} (h : storeC σ c xs = some σ') : storeC { σ with env := e } c xs = some { σ' with env := e } ∧ σ'.env = σ.env := by
  unfold storeC at h ⊢
  split at h
  · rename_i hok
    rw [if_pos hok]
    split at h
    · simp only [Option.bind_eq_some_iff, Option.map_eq_some_iff] at h
      obtain ⟨bs, h1, ds, h2, rfl⟩ := h
      exact ⟨by simp only [h1, Option.bind_some, h2, Option.map_some], rfl⟩
    · split at h
      · rename_i sz bs hb
        simp only [Option.map_eq_some_iff] at h
        obtain ⟨ds, h2, rfl⟩ := h
        exact ⟨by simp only [hb, h2, Option.map_some], rfl⟩
      · cases h
    · cases h
  · cases h

theorem appendC_env {ti : TI} {s x : C} {p : C × St} (h : appendC ti nm σ s x = some p) : appendC ti nm { σ with env := e } s x = some (p.1, { p.2 with env := e }) ∧ p.2.env = σ.env := by
  have hsc : sliceCells { σ with env := e } ti.size x = sliceCells σ ti.size x := by unfold sliceCells; rfl
  unfold appendC at h ⊢
  rw [hsc]
  split at h
  · rename_i news m hn hm
    split at h
    · rename_i hck
      rw [if_pos hck]
      split at h
      · split at h
        · rename_i hm0
          simp only [Option.some.injEq] at h
          subst h
          simp only [if_pos hm0]
          exact ⟨trivial, trivial⟩
        · rename_i hm0
          simp only [if_neg hm0]
          split at h
          · rename_i hk
            simp only [Option.some.injEq] at h
            subst h
            rw [if_pos hk]
            exact ⟨rfl, rfl⟩
          · cases h
      · split at h
        · rename_i sz cs hb
          simp only [hb]
          split at h
          · rename_i hm0
            simp only [Option.some.injEq] at h
            subst h
            simp only [if_pos hm0]
            exact ⟨trivial, trivial⟩
          · rename_i hm0
            simp only [if_neg hm0]
            split at h
            · rename_i hc
              simp only [Option.map_eq_some_iff] at h
              obtain ⟨ds, h1, rfl⟩ := h
              rw [if_pos hc, h1]
              exact ⟨rfl, rfl⟩
            · rename_i hc
              rw [if_neg hc]
              split at h
              · rename_i hk
                simp only [Option.map_eq_some_iff] at h
                obtain ⟨ds, h1, rfl⟩ := h
                rw [if_pos hk, h1]
                exact ⟨rfl, rfl⟩
              · cases h
        · cases h
      · cases h
    · cases h
  · cases h

theorem updateE_env {t : TypeId} {c : C} {k : Value} {u : V} (h : updateE X t σ c k u = some σ') : updateE X t { σ with env := e } c k u = some { σ' with env := e } ∧ σ'.env = σ.env := by
  unfold updateE at h ⊢
  split at h
  · rename_i d et b hm
    skip
    split at h
    · rename_i es cl hb
      try simp only [hb]
      split at h
      · rename_i hck
        rw [if_pos hck]
        split at h
        · rename_i hf
          simp only [Option.map_eq_some_iff] at h
          obtain ⟨es', h1, rfl⟩ := h
          simp only [h1, Option.map_some]
          exact ⟨trivial, trivial⟩
        · rename_i hf
          simp only [Option.some.injEq] at h
          subst h
          exact ⟨rfl, rfl⟩
        · cases h
      · cases h
    · cases h
  · cases h

theorem deleteE_env {t : TypeId} {c : C} {k : Value} (h : deleteE X t σ c k = some σ') : deleteE X t { σ with env := e } c k = some { σ' with env := e } ∧ σ'.env = σ.env := by
  unfold deleteE at h ⊢
  split at h
  · rename_i d et b hm
    skip
    split at h
    · rename_i es cl hb
      try simp only [hb]
      split at h
      · rename_i hck
        rw [if_pos hck]
        simp only [Option.map_eq_some_iff] at h
        obtain ⟨es', h1, rfl⟩ := h
        rw [h1]
        exact ⟨rfl, rfl⟩
      · cases h
    · cases h
  · cases h

/-- An operation of the chain, at another frame. -/
theorem op_chain (hk : okind o = .chain) (_hc : isCall o = false) (hev : ∀ x ∈ o.op.operands.toList, ev { σ with env := e } x = ev σ x) (h : op P X fi nm o σ = some (v, σ')) :
    op P X fi nm o { σ with env := e } = some (v, { σ' with env := e }) ∧ σ'.env = σ.env := by
  cases ho : o.op with
  | store t x y =>
    simp only [op, ho] at h ⊢
    obtain ⟨ti, h1, h2⟩ := onTI_some h
    obtain ⟨c, h3, h4⟩ := onC_some h2
    obtain ⟨u, h5, h6⟩ := onV_some h4
    rw [onTI_of h1, onC_of (by rw [hev x (by simp [ho, Op.operands])]; exact h3), onV_of (by rw [hev y (by simp [ho, Op.operands])]; exact h5)]
    split at h6
    · split at h6
      · rename_i hl
        simp only [Option.map_eq_some_iff, Prod.mk.injEq] at h6
        obtain ⟨σ1, h7, rfl, rfl⟩ := h6
        obtain ⟨g1, g2⟩ := storeC_env (e := e) h7
        rw [if_pos hl, g1]
        exact ⟨rfl, g2⟩
      · cases h6
    · cases h6
  | mapUpdate t m x y =>
    simp only [op, ho] at h ⊢
    obtain ⟨c, h3, h4⟩ := onC_some h
    obtain ⟨kv, h5, h6⟩ := onV_some h4
    obtain ⟨u, h7, h8⟩ := onV_some h6
    rw [onC_of (by rw [hev m (by simp [ho, Op.operands])]; exact h3), onV_of (by rw [hev x (by simp [ho, Op.operands])]; exact h5), onV_of (by rw [hev y (by simp [ho, Op.operands])]; exact h7)]
    split at h8
    · simp only [Option.map_eq_some_iff, Prod.mk.injEq] at h8
      obtain ⟨σ1, h9, rfl, rfl⟩ := h8
      obtain ⟨g1, g2⟩ := updateE_env (e := e) h9
      rw [g1]
      exact ⟨rfl, g2⟩
    · cases h8
  | insert t m x y =>
    simp only [op, ho] at h ⊢
    obtain ⟨c, h3, h4⟩ := onC_some h
    obtain ⟨kv, h5, h6⟩ := onV_some h4
    obtain ⟨u, h7, h8⟩ := onV_some h6
    rw [onC_of (by rw [hev m (by simp [ho, Op.operands])]; exact h3), onV_of (by rw [hev x (by simp [ho, Op.operands])]; exact h5), onV_of (by rw [hev y (by simp [ho, Op.operands])]; exact h7)]
    split at h8
    · simp only [Option.map_eq_some_iff, Prod.mk.injEq] at h8
      obtain ⟨σ1, h9, rfl, rfl⟩ := h8
      obtain ⟨g1, g2⟩ := updateE_env (e := e) h9
      rw [g1]
      exact ⟨rfl, g2⟩
    · cases h8
  | call c =>
    simp only [okind, ho] at hk
    simp only [op, ho] at h ⊢
    split at h
    case h_2 => cases h
    rename_i b hb
    rw [evs_eq (σ := σ) (τ := { σ with env := e }) fun x hx => hev x (by simp [ho, Op.operands, Call.operands, hb]; simpa using hx)]
    split at h
    case h_2 => cases h
    rename_i vs hvs
    unfold builtinE at h ⊢
    split at h
    · simp [hb] at hk
    · rename_i t t' s x hts
      split at h
      case isFalse => cases h
      rename_i htt
      rw [if_pos htt]
      split at h
      case h_2 => cases h
      split at h
      case h_2 => cases h
      simp only [Option.map_eq_some_iff, Prod.mk.injEq] at h
      obtain ⟨p, hp, rfl, rfl⟩ := h
      obtain ⟨g1, g2⟩ := appendC_env (e := e) hp
      rw [g1]
      exact ⟨rfl, g2⟩
    · split at h
      case h_2 => cases h
      simp only [Option.map_eq_some_iff, Prod.mk.injEq] at h
      obtain ⟨σ1, h1, rfl, rfl⟩ := h
      obtain ⟨g1, g2⟩ := deleteE_env (e := e) h1
      rw [g1]
      exact ⟨rfl, g2⟩
    · split at h
      case h_2 => cases h
      split at h
      case h_2 => cases h
      rename_i hd hz hbk
      split at h
      · rename_i hck
        simp only [Option.map_eq_some_iff, Prod.mk.injEq] at h
        obtain ⟨cs', h1, rfl, rfl⟩ := h
        simp only [hd, hz, hbk, if_pos hck, h1, Option.map_some]
        exact ⟨trivial, trivial⟩
      · rename_i hck
        split at h
        · rename_i hl
          simp only [Option.some.injEq, Prod.mk.injEq] at h
          obtain ⟨rfl, rfl⟩ := h
          simp only [hd, hz, hbk, if_neg hck, if_pos hl]
          exact ⟨trivial, trivial⟩
        · cases h
    · cases h
  | _ => simp [okind, ho] at hk

theorem op_nm (hk : okind o = .chain) (hm : makes fi o = false) (h : op P X fi nm o σ = some (v, σ')) : op P X fi nm' o σ = some (v, σ') := by
  cases ho : o.op with
  | store t x y => simp only [op, ho] at h ⊢; exact h
  | mapUpdate t m x y => simp only [op, ho] at h ⊢; exact h
  | insert t m x y => simp only [op, ho] at h ⊢; exact h
  | call c =>
    simp only [makes, ho] at hm
    simp only [op, ho] at h ⊢
    split at h
    case h_2 => cases h
    rename_i b hb
    simp only [hb] at hm
    split at h
    case h_2 => cases h
    unfold builtinE at h ⊢
    split at h <;> first | exact h | cases hm | cases h
  | _ => simp [okind, ho] at hk

theorem makes_kind (h : makes fi o = true) : okind o = .alloc ∨ okind o = .chain := by
  unfold makes at h
  unfold okind
  cases ho : o.op <;> simp_all
  rename_i c
  cases hc : c.callee <;> simp_all
  rename_i b
  cases b <;> simp_all

/-! ### What is made -/
inductive Add where
  | box (t : Nat) (cs : List C)
  | blk (b : Nat) (x : Blk)

def Add.on : Add → St → St
  | .box t cs, σ => { σ with bx := (t, cs) :: σ.bx }
  | .blk b x, σ => { σ with h := σ.h.set b x }

def Add.free : Add → St → Prop
  | .box t _, σ => get σ.bx t = none ∧ (σ.env.any fun p => mentionsV t p.2) = false
  | .blk .., _ => True

def Add.fits (fi : Fi) (nm : Nat) (o : Oper) : Add → Prop
  | .box t _ => boxSlot fi o = some t
  | .blk b x => b = nm ∧ makes fi o = true ∧ x.rw = true

theorem newVarE_add {d : Option Nat} {cs : List C} (hmk : ∀ t, d = some t → makes fi o = !fi.prom.contains t) (hd : ∀ t, d = some t → fi.prom.contains t = true → boxSlot fi o = some t) (h : newVarE fi nm d σ cs = some (v, σ')) :
    ∃ A : Add, σ' = A.on σ ∧ A.free σ ∧ A.fits fi nm o ∧ ∀ (τ : St) (nm' : Nat), A.free τ → (nm' = nm ∨ makes fi o = false) → newVarE fi nm' d τ cs = some (v, A.on τ) := by
  unfold newVarE at h
  split at h
  · rename_i t
    cases hp : fi.prom.contains t with
    | true =>
      rw [hp, cond_true] at h
      simp only [newBox, Option.map_eq_some_iff, Prod.mk.injEq] at h
      obtain ⟨σ1, h1, rfl, rfl⟩ := h
      split at h1
      · rename_i hc
        simp only [Option.some.injEq] at h1
        subst h1
        simp only [Bool.and_eq_true, Bool.not_eq_true', Option.isNone_iff_eq_none] at hc
        obtain ⟨⟨hok, hfree⟩, hm⟩ := hc
        refine ⟨.box t cs, rfl, ⟨hfree, hm⟩, hd t rfl hp, fun τ nm' hτ _ => ?_⟩
        simp only [newVarE, hp, cond_true, newBox, hok, hτ.1, hτ.2, Option.isNone_none, Bool.not_false, Bool.and_self, if_true, Option.map_some]
        rfl
      · cases h1
    | false =>
      rw [hp, cond_false] at h
      simp only [newRowH, Option.map_eq_some_iff, Prod.mk.injEq] at h
      obtain ⟨σ1, h1, rfl, rfl⟩ := h
      split at h1
      · rename_i hok
        simp only [Option.some.injEq] at h1
        subst h1
        refine ⟨.blk nm (.row true 0 cs), rfl, trivial, ⟨rfl, by rw [hmk t rfl, hp]; rfl, rfl⟩, fun τ nm' _ hn => ?_⟩
        rcases hn with rfl | hn
        case inr => rw [hmk t rfl, hp] at hn; cases hn
        simp only [newVarE, hp, cond_false, newRowH, if_pos hok, Option.map_some]
        rfl
      · cases h1
  · cases h

theorem newRowH_add {sz : Nat} {cs : List C} (h : newRowH σ nm sz cs = some σ') : ∃ x, σ' = (Add.blk nm x).on σ ∧ x.rw = true ∧ ∀ τ : St, newRowH τ nm sz cs = some ((Add.blk nm x).on τ) := by
  unfold newRowH at h
  split at h
  · rename_i hok
    simp only [Option.some.injEq] at h
    subst h
    exact ⟨.row true sz cs, rfl, rfl, fun τ => by simp only [newRowH, if_pos hok]; rfl⟩
  · cases h

/-- An operation that makes something, at another state. -/
theorem op_adds (hk : okind o = .alloc) (h : op P X fi nm o σ = some (v, σ')) : ∃ A : Add, σ' = A.on σ ∧ A.free σ ∧ A.fits fi nm o ∧
    ∀ (τ : St) (nm' : Nat), (∀ x ∈ o.op.operands.toList, ev τ x = ev σ x) → A.free τ → (nm' = nm ∨ makes fi o = false) → op P X fi nm' o τ = some (v, A.on τ) := by
  cases ho : o.op with
  | alloc t =>
    simp only [op, ho] at h ⊢
    obtain ⟨ti, h1, h2⟩ := onTI_some h
    split at h2
    · rename_i cs hcs
      split at h2
      · rename_i hl
        obtain ⟨A, g1, g2, g3, g4⟩ := newVarE_add (o := o) (fun t ht => by simp [makes, ho, ht]) (fun t ht hp => by simp only [boxSlot, ho, ht, hp, cond_true]) h2
        refine ⟨A, g1, g2, g3, fun τ nm' _ hf hn => ?_⟩
        rw [onTI_of h1, hcs]
        simp only [if_pos hl]
        exact g4 τ nm' hf hn
      · cases h2
    · cases h2
  | box t x =>
    simp only [op, ho] at h ⊢
    obtain ⟨u, h1, h2⟩ := onV_some h
    split at h2
    · rename_i cs hcs
      obtain ⟨A, g1, g2, g3, g4⟩ := newVarE_add (o := o) (fun t ht => by simp [makes, ho, ht]) (fun t ht hp => by simp only [boxSlot, ho, ht, hp, cond_true]) h2
      refine ⟨A, g1, g2, g3, fun τ nm' hev hf hn => ?_⟩
      rw [onV_of (by rw [hev x (by simp [Op.operands])]; exact h1), hcs]
      exact g4 τ nm' hf hn
    · cases h2
  | buildSlice t n ps =>
    simp only [op, ho] at h ⊢
    split at h
    case h_2 => cases h
    rename_i et vs st het hvs hst
    split at h
    case h_2 => cases h
    rename_i el z hd hz
    split at h
    case isFalse => cases h
    rename_i hck
    split at h
    case h_2 => cases h
    rename_i cs hcs
    simp only [Option.map_eq_some_iff, Prod.mk.injEq] at h
    obtain ⟨σ1, h1, rfl, rfl⟩ := h
    obtain ⟨x, rfl, hx, g⟩ := newRowH_add h1
    refine ⟨.blk nm x, rfl, trivial, ⟨rfl, by simp [makes, ho], hx⟩, fun τ nm' hev _ hn => ?_⟩
    rcases hn with rfl | hn
    case inr => simp [makes, ho] at hn
    rw [evParts_eq (σ := σ) (τ := τ) fun x hx => hev x (by simpa [Op.operands] using hx), hvs]
    simp only [het, hst, hd, hz, if_pos hck, hcs, g τ, Option.map_some]
  | makeSlice t l c =>
    simp only [op, ho] at h ⊢
    obtain ⟨u, h1, h2⟩ := onV_some h
    obtain ⟨u', h3, h4⟩ := onV_some h2
    split at h4
    case h_2 => cases h4
    rename_i et st n m het hst
    split at h4
    case h_2 => cases h4
    rename_i el hd
    unfold makeSliceE at h4
    split at h4
    case h_2 => cases h4
    rename_i z hz
    split at h4
    case isFalse => cases h4
    rename_i hck
    simp only [Option.map_eq_some_iff, Prod.mk.injEq] at h4
    obtain ⟨σ1, h5, rfl, rfl⟩ := h4
    obtain ⟨x, rfl, hx, g⟩ := newRowH_add h5
    refine ⟨.blk nm x, rfl, trivial, ⟨rfl, by simp [makes, ho], hx⟩, fun τ nm' hev _ hn => ?_⟩
    rcases hn with rfl | hn
    case inr => simp [makes, ho] at hn
    rw [onV_of (by rw [hev l (by simp [Op.operands])]; exact h1), onV_of (by rw [hev c (by simp [Op.operands])]; exact h3)]
    simp only [het, hst, hd, makeSliceE, hz, if_pos hck, g τ, Option.map_some]
  | makeMap t r =>
    cases r with
    | none =>
      simp only [op, ho, Option.some.injEq, Prod.mk.injEq] at h ⊢
      obtain ⟨rfl, rfl⟩ := h
      exact ⟨.blk nm (.map [] 0), rfl, trivial, ⟨rfl, by simp [makes, ho], rfl⟩, fun τ nm' _ _ hn => by
        rcases hn with rfl | hn
        · exact ⟨rfl, rfl⟩
        · simp [makes, ho] at hn⟩
    | some r => simp [op, ho] at h
  | call c =>
    simp only [okind, ho] at hk
    split at hk <;> cases hk
  | _ => simp [okind, ho] at hk

theorem callee_eq (hev : ∀ x ∈ o.op.operands.toList, ev τ x = ev σ x) : callee τ o = callee σ o := by
  unfold callee
  cases ho : o.op <;> simp only
  rename_i c
  cases hc : c.callee <;> simp only
  rename_i f
  have h1 : ev τ f = ev σ f := hev f (by simp [ho, Op.operands, Call.operands, hc])
  have h2 : evs τ c.args.toList = evs σ c.args.toList := evs_eq fun x hx => hev x (by simp [ho, Op.operands, Call.operands, hc]; right; simpa using hx)
  rw [h1, h2]

theorem wanted_eq {ops : List Oper} (h : ∀ j want oj t, o.guard = some (j, want) → ops[j]? = some oj → oj.dst = some t → get τ.env t = get σ.env t) : wanted ops o τ = wanted ops o σ := by
  unfold wanted
  cases hg : o.guard with
  | none => rfl
  | some p =>
    obtain ⟨j, want⟩ := p
    cases hj : ops[j]? with
    | none => simp only [hj]
    | some oj =>
      cases ht : oj.dst with
      | none => simp only [hj, ht]
      | some t => simp only [hj, ht, h j want oj t hg hj ht]
end
end E
end Go.Proofs.Ytibdplfdmncgiaa

/-
  An abstract machine of this place's own: a region that draws its order: its record, and what a part of it comes to. No condition.
-/
namespace Go.Proofs.Ytibdplfdmncgiaa
open Go.RowKit
namespace E

inductive Eff where
  | nop
  | mem (bx : List (Nat × List C)) (h : Heap)
  | add (A : Add)

def Eff.on : Eff → St → St
  | .nop, σ => σ
  | .mem bx h, σ => { σ with bx := bx, h := h }
  | .add A, σ => A.on σ

def setE (d : Option Nat) (v : V) (σ : St) : St :=
  match d with
  | none => σ
  | some t => { σ with env := (t, v) :: σ.env }

/-- What one operation of the region did, in the one order that is run: pre: ahead of it. -/
structure Rec where
  s : SI
  c : Nat
  lo : Nat
  nm : Nat
  v : V
  eff : Eff
  pre : St

def Rec.act (r : Rec) (σ : St) : St := setE r.s.o.dst r.v (r.eff.on σ)

/-- What the operations of L come to. T: the record, the last one first. -/
def ab (L : Nat → Bool) (σ0 : St) : List Rec → St
  | [] => σ0
  | r :: T => cond (L r.s.i) (r.act (ab L σ0 T)) (ab L σ0 T)

def allL : Nat → Bool := fun _ => true

section
variable {L L' : Nat → Bool} {σ σ0 : St} {r : Rec} {T T1 T2 : List Rec}

@[simp] theorem setE_bx (d : Option Nat) (v : V) (σ : St) : (setE d v σ).bx = σ.bx := by cases d <;> rfl
@[simp] theorem setE_h (d : Option Nat) (v : V) (σ : St) : (setE d v σ).h = σ.h := by cases d <;> rfl
@[simp] theorem eff_env (e : Eff) (σ : St) : (e.on σ).env = σ.env := by
  cases e with
  | nop => rfl
  | mem => rfl
  | add A => cases A <;> rfl

theorem setE_env (d : Option Nat) (v : V) (σ : St) : (setE d v σ).env = (match d with | some t => (t, v) :: σ.env | none => σ.env) := by cases d <;> rfl

theorem get_setE (d : Option Nat) (v : V) (σ : St) (t : Nat) : get (setE d v σ).env t = if d = some t then some v else get σ.env t := by
  cases d with
  | none => simp [setE]
  | some u =>
    simp only [setE, get_cons, Option.some.injEq]

theorem ab_append : ab L σ0 (T2 ++ T1) = ab L (ab L σ0 T1) T2 := by
  induction T2 with
  | nil => rfl
  | cons r T2 ih => simp only [List.cons_append, ab, ih]

/-- A slot, behind two parts of the region that hold the same of those that write it. -/
theorem ab_env {t : Nat} {τ : St} (he : get σ0.env t = get τ.env t) (h : ∀ r ∈ T, r.s.o.dst = some t → L r.s.i = L' r.s.i) : get (ab L σ0 T).env t = get (ab L' τ T).env t := by
  induction T with
  | nil => exact he
  | cons r T ih =>
    have ih := ih fun r hr => h r (by simp [hr])
    by_cases hd : r.s.o.dst = some t
    · rw [ab, ab, h r (by simp) hd]
      cases L' r.s.i with
      | true => simp only [cond_true, Rec.act, get_setE, if_pos hd]
      | false => simpa only [cond_false] using ih
    · have key : ∀ (b : Bool) (σ : St), get (cond b (r.act σ) σ).env t = get σ.env t := fun b σ => by
        cases b with
        | true => simp only [cond_true, Rec.act, get_setE, if_neg hd, eff_env]
        | false => rfl
      rw [ab, ab, key, key, ih]

theorem ab_env_none {t : Nat} (h : ∀ r ∈ T, L r.s.i = true → r.s.o.dst ≠ some t) : get (ab L σ0 T).env t = get σ0.env t := by
  induction T with
  | nil => rfl
  | cons r T ih =>
    have ih := ih fun r hr => h r (by simp [hr])
    rw [ab]
    cases hl : L r.s.i with
    | true => simp only [cond_true, Rec.act, get_setE, if_neg (h r (by simp) hl), eff_env, ih]
    | false => simpa only [cond_false] using ih

/-- The entries of the frame. -/
theorem ab_mem {p : Nat × V} : p ∈ (ab L σ0 T).env ↔ p ∈ σ0.env ∨ ∃ r ∈ T, L r.s.i = true ∧ r.s.o.dst = some p.1 ∧ r.v = p.2 := by
  induction T with
  | nil => simp [ab]
  | cons r T ih =>
    rw [ab]
    cases hl : L r.s.i with
    | false =>
      rw [cond_false, ih]
      constructor
      · rintro (h | ⟨s, h1, h2⟩)
        · exact .inl h
        · exact .inr ⟨s, by simp [h1], h2⟩
      · rintro (h | ⟨s, h1, h2⟩)
        · exact .inl h
        · simp only [List.mem_cons] at h1
          rcases h1 with rfl | h1
          · rw [hl] at h2; exact absurd h2.1 (by simp)
          · exact .inr ⟨s, h1, h2⟩
    | true =>
      rw [cond_true, Rec.act, setE_env]
      have e : (r.eff.on (ab L σ0 T)).env = (ab L σ0 T).env := eff_env _ _
      cases hd : r.s.o.dst with
      | none =>
        simp only
        rw [e, ih]
        constructor
        · rintro (h | ⟨s, h1, h2⟩)
          · exact .inl h
          · exact .inr ⟨s, by simp [h1], h2⟩
        · rintro (h | ⟨s, h1, h2⟩)
          · exact .inl h
          · simp only [List.mem_cons] at h1
            rcases h1 with rfl | h1
            · rw [hd] at h2; exact absurd h2.2.1 (by simp)
            · exact .inr ⟨s, h1, h2⟩
      | some t =>
        simp only [List.mem_cons]
        rw [e, ih]
        constructor
        · rintro (rfl | h | ⟨s, h1, h2⟩)
          · exact .inr ⟨r, .inl rfl, hl, hd, rfl⟩
          · exact .inl h
          · exact .inr ⟨s, .inr h1, h2⟩
        · rintro (h | ⟨s, rfl | h1, h2⟩)
          · exact .inr (.inl h)
          · left
            rw [hd] at h2
            obtain ⟨_, h3, h4⟩ := h2
            simp only [Option.some.injEq] at h3
            rw [h3, h4]
          · exact .inr (.inr ⟨s, h1, h2⟩)

/-! ### The memory -/
def Eff.quiet : Eff → Bool
  | .nop => true
  | _ => false
def Eff.isMem : Eff → Bool
  | .mem .. => true
  | _ => false

def St.mem (σ : St) : Mem := (σ.bx, σ.h)
@[simp] theorem setE_mem (d : Option Nat) (v : V) (σ : St) : (setE d v σ).mem = σ.mem := by cases d <;> rfl

theorem eff_mem {e : Eff} {σ τ : St} (h : σ.mem = τ.mem) : (e.on σ).mem = (e.on τ).mem := by
  simp only [St.mem, Prod.mk.injEq] at h
  cases e with
  | nop => simp [Eff.on, St.mem, h]
  | mem => rfl
  | add A => cases A <;> simp [Eff.on, Add.on, St.mem, h]

/-- The memory behind two parts that hold the same of those that do something to it. -/
theorem ab_mem_eq {τ : St} (he : σ0.mem = τ.mem) (h : ∀ r ∈ T, r.eff.quiet = false → L r.s.i = L' r.s.i) : (ab L σ0 T).mem = (ab L' τ T).mem := by
  induction T with
  | nil => exact he
  | cons r T ih =>
    have ih := ih fun r hr => h r (by simp [hr])
    by_cases hq : r.eff.quiet = true
    · have hn : r.eff = .nop := by cases hr : r.eff <;> simp_all [Eff.quiet]
      have key : ∀ (b : Bool) (σ : St), (cond b (r.act σ) σ).mem = σ.mem := fun b σ => by
        cases b with
        | true => simp only [cond_true, Rec.act, setE_mem, hn]; rfl
        | false => rfl
      rw [ab, ab, key, key, ih]
    · rw [ab, ab, h r (by simp) (by simpa using hq)]
      cases L' r.s.i with
      | true => simp only [cond_true, Rec.act, setE_mem]; exact eff_mem ih
      | false => simpa only [cond_false] using ih

/-- The memory behind the last of the chain's operations. -/
def lastM (L : Nat → Bool) (m : Mem) : List Rec → Mem
  | [] => m
  | r :: T => match r.eff with
    | .mem bx h => cond (L r.s.i) (bx, h) (lastM L m T)
    | _ => lastM L m T

/-- All the memories that the chain comes to, the last one first. -/
def mems (m : Mem) : List Rec → List Mem
  | [] => [m]
  | r :: T => match r.eff with
    | .mem bx h => (bx, h) :: mems m T
    | _ => mems m T

def nMem (L : Nat → Bool) : List Rec → Nat
  | [] => 0
  | r :: T => cond (r.eff.isMem && L r.s.i) (nMem L T + 1) (nMem L T)

theorem mems_length (m : Mem) : ∀ T, (mems m T).length = nMem allL T + 1
  | [] => rfl
  | r :: T => by
    have ih := mems_length m T
    cases he : r.eff <;> simp [mems, nMem, he, Eff.isMem, allL] <;> simpa [allL] using ih

theorem nMem_le (T : List Rec) : nMem L T ≤ nMem allL T := by
  induction T with
  | nil => exact Nat.le_refl _
  | cons r T ih =>
    cases he : r.eff.isMem <;> cases hl : L r.s.i <;> simp [nMem, he, hl, show allL r.s.i = true from rfl] <;> omega

theorem nMem_all (h : ∀ r ∈ T, r.eff.isMem = true → L r.s.i = true) : nMem L T = nMem allL T := by
  induction T with
  | nil => rfl
  | cons r T ih =>
    have ih := ih fun r hr => h r (by simp [hr])
    have h0 := h r (by simp)
    cases he : r.eff.isMem with
    | false => simpa [nMem, he] using ih
    | true => simpa [nMem, he, h0 he, allL] using ih

theorem nMem_append : nMem L (T2 ++ T1) = nMem L T2 + nMem L T1 := by
  induction T2 with
  | nil => simp [nMem]
  | cons r T2 ih =>
    rw [List.cons_append, nMem, nMem, ih]
    cases r.eff.isMem && L r.s.i <;> simp <;> omega

/-- What is chained is taken in its order. -/
def PreOk (L : Nat → Bool) : List Rec → Prop
  | [] => True
  | r :: T => PreOk L T ∧ (r.eff.isMem = true → L r.s.i = true → ∀ s ∈ T, s.eff.isMem = true → L s.s.i = true)

theorem lastM_at (m : Mem) : ∀ {T}, PreOk L T → (mems m T).reverse[nMem L T]? = some (lastM L m T)
  | [], _ => rfl
  | r :: T, h => by
    have ih := lastM_at m h.1
    have hlen := mems_length m T
    have hle : nMem L T ≤ nMem allL T := nMem_le T
    cases he : r.eff with
    | nop => simpa [mems, nMem, lastM, he, Eff.isMem] using ih
    | add A => simpa [mems, nMem, lastM, he, Eff.isMem] using ih
    | mem bx h' =>
      have hm : r.eff.isMem = true := by rw [he]; rfl
      cases hl : L r.s.i with
      | true =>
        have hall := nMem_all (T := T) (h.2 hm hl)
        simp only [mems, nMem, lastM, he, hl, Eff.isMem, Bool.and_self, cond_true, List.reverse_cons]
        rw [List.getElem?_append_right (by simp [hlen, hall])]
        simp [hlen, hall]
      | false =>
        simp only [mems, nMem, lastM, he, hl, Eff.isMem, Bool.and_false, cond_false, List.reverse_cons]
        rw [List.getElem?_append_left (by simp [hlen]; omega)]
        exact ih
end
end E
end Go.Proofs.Ytibdplfdmncgiaa

/-
  An abstract machine of this place's own: what is made beside; what is taken from a state and given back behind a step. No condition.
-/
namespace Go.Proofs.Ytibdplfdmncgiaa
open Go.RowKit
namespace E

/-- The blocks that a part of a region has made. -/
def addH (L : Nat → Bool) : List Rec → Nat → Option Blk
  | [], _ => none
  | r :: T, b => match r.eff with
    | .add (.blk b' x) => if L r.s.i = true ∧ b' = b then some x else addH L T b
    | _ => addH L T b

/-- The frame's variables that it has made. -/
def addX (L : Nat → Bool) : List Rec → Nat → Option (List C)
  | [], _ => none
  | r :: T, t => match r.eff with
    | .add (.box t' x) => if L r.s.i = true ∧ t' = t then some x else addX L T t
    | _ => addX L T t

def NoMem (L : Nat → Bool) (T : List Rec) : Prop := ∀ r ∈ T, r.eff.isMem = true → L r.s.i = false

section
variable {L L' : Nat → Bool} {σ σ0 : St} {r : Rec} {T T1 T2 : List Rec}

theorem addH_mem {b : Nat} {x : Blk} (h : addH L T b = some x) : ∃ r ∈ T, L r.s.i = true ∧ r.eff = .add (.blk b x) := by
  induction T with
  | nil => cases h
  | cons r T ih =>
    rw [addH] at h
    split at h
    · rename_i b' y he
      split at h
      · rename_i hc
        simp only [Option.some.injEq] at h
        subst h
        obtain ⟨h1, rfl⟩ := hc
        exact ⟨r, by simp, h1, he⟩
      · obtain ⟨s, h1, h2⟩ := ih h
        exact ⟨s, by simp [h1], h2⟩
    · obtain ⟨s, h1, h2⟩ := ih h
      exact ⟨s, by simp [h1], h2⟩

theorem addX_mem {b : Nat} {x : List C} (h : addX L T b = some x) : ∃ r ∈ T, L r.s.i = true ∧ r.eff = .add (.box b x) := by
  induction T with
  | nil => cases h
  | cons r T ih =>
    rw [addX] at h
    split at h
    · rename_i b' y he
      split at h
      · rename_i hc
        simp only [Option.some.injEq] at h
        subst h
        obtain ⟨h1, rfl⟩ := hc
        exact ⟨r, by simp, h1, he⟩
      · obtain ⟨s, h1, h2⟩ := ih h
        exact ⟨s, by simp [h1], h2⟩
    · obtain ⟨s, h1, h2⟩ := ih h
      exact ⟨s, by simp [h1], h2⟩

theorem ab_h (hn : NoMem L T) (b : Nat) : (ab L σ T).h.get b = (addH L T b).or (σ.h.get b) := by
  induction T with
  | nil => rfl
  | cons r T ih =>
    have ih := ih fun s hs => hn s (by simp [hs])
    have h0 := hn r (by simp)
    rw [ab, addH]
    cases hl : L r.s.i with
    | false =>
      rw [cond_false, ih]
      cases he : r.eff with
      | add A => cases A <;> simp
      | _ => rfl
    | true =>
      rw [cond_true, Rec.act, setE_h]
      cases he : r.eff with
      | nop => exact ih
      | mem => rw [he] at h0; rw [h0 rfl] at hl; cases hl
      | add A =>
        cases A with
        | box t cs => exact ih
        | blk b' x =>
          simp only [Eff.on, Add.on, Heap.get_set, true_and]
          split
          · rfl
          · exact ih

theorem ab_bx (hn : NoMem L T) (t : Nat) : get (ab L σ T).bx t = (addX L T t).or (get σ.bx t) := by
  induction T with
  | nil => rfl
  | cons r T ih =>
    have ih := ih fun s hs => hn s (by simp [hs])
    have h0 := hn r (by simp)
    rw [ab, addX]
    cases hl : L r.s.i with
    | false =>
      rw [cond_false, ih]
      cases he : r.eff with
      | add A => cases A <;> simp
      | _ => rfl
    | true =>
      rw [cond_true, Rec.act, setE_bx]
      cases he : r.eff with
      | nop => exact ih
      | mem => rw [he] at h0; rw [h0 rfl] at hl; cases hl
      | add A =>
        cases A with
        | blk b x => exact ih
        | box t' x =>
          simp only [Eff.on, Add.on, get_cons, true_and]
          split
          · rfl
          · exact ih

theorem ab_next (hn : NoMem L T) : (ab L σ T).h.next = σ.h.next := by
  induction T with
  | nil => rfl
  | cons r T ih =>
    have ih := ih fun s hs => hn s (by simp [hs])
    have h0 := hn r (by simp)
    rw [ab]
    cases hl : L r.s.i with
    | false => exact ih
    | true =>
      rw [cond_true, Rec.act, setE_h]
      cases he : r.eff with
      | nop => exact ih
      | mem => rw [he] at h0; rw [h0 rfl] at hl; cases hl
      | add A => cases A <;> exact ih

/-- What was there ahead is there behind what is made. -/
theorem ab_le (hn : NoMem L T) (hb : ∀ b x, addH L T b = some x → σ.h.get b = none) (ht : ∀ t x, addX L T t = some x → get σ.bx t = none) : MemLe σ (ab L σ T) := by
  refine ⟨fun t cs h => ?_, fun b x h => ?_⟩
  · rw [ab_bx hn]
    cases hx : addX L T t with
    | none => exact h
    | some y => rw [ht t y hx] at h; cases h
  · rw [ab_h hn]
    cases hx : addH L T b with
    | none => exact h
    | some y => rw [hb b y hx] at h; cases h

theorem lastM_split (L : Nat → Bool) (σ0 : St) (T : List Rec) : ∃ T2 T1, T = T2 ++ T1 ∧ NoMem L T2 ∧ (ab L σ0 T1).mem = lastM L σ0.mem T := by
  induction T with
  | nil => exact ⟨[], [], rfl, (fun _ h => by cases h), rfl⟩
  | cons r T ih =>
    obtain ⟨T2, T1, h1, h2, h3⟩ := ih
    have ext : (r.eff.isMem = true → L r.s.i = false) → lastM L σ0.mem (r :: T) = lastM L σ0.mem T → ∃ T2 T1, r :: T = T2 ++ T1 ∧ NoMem L T2 ∧ (ab L σ0 T1).mem = lastM L σ0.mem (r :: T) := fun hr he =>
      ⟨r :: T2, T1, by rw [h1]; rfl, fun s hs => by
        simp only [List.mem_cons] at hs
        rcases hs with rfl | hs
        · exact hr
        · exact h2 s hs, by rw [he]; exact h3⟩
    cases he : r.eff with
    | nop => exact ext (by simp [he, Eff.isMem]) (by simp [lastM, he])
    | add A => exact ext (by simp [he, Eff.isMem]) (by simp [lastM, he])
    | mem bx h =>
      cases hl : L r.s.i with
      | false => exact ext (fun _ => hl) (by simp [lastM, he, hl])
      | true =>
        refine ⟨[], r :: T, rfl, fun _ h => (by cases h), ?_⟩
        simp only [ab, hl, cond_true, Rec.act, setE_mem, lastM, he]
        rfl

theorem lastM_noMem (hn : NoMem L T2) {m : Mem} : lastM L m (T2 ++ T1) = lastM L m T1 := by
  induction T2 with
  | nil => rfl
  | cons r T2 ih =>
    have ih := ih fun s hs => hn s (by simp [hs])
    have h0 := hn r (by simp)
    rw [List.cons_append, lastM]
    cases he : r.eff with
    | mem bx h => rw [he] at h0; simp only [h0 rfl, cond_false]; exact ih
    | _ => exact ih
end

/-! ### States that hold the same -/
section
variable {P : Program} {N N' nt : Nat} {β β' : Pls} {μ μ' : Fms} {σ σ1 σ' σ1' : St} {a : Act} {w w' : World}

/-- A part of a state. -/
theorem SRel.less (hS : SRel N β μ nt σ a w) (he : ∀ t v, get σ1.env t = some v → get σ.env t = some v) (hm : MemLe σ1 σ) : SRel N β μ nt σ1 a w where
  heap := ⟨hS.heap.fresh, fun b x h => hS.heap.blk b x (hm.2 b x h), fun b b' x x' p p' h0 h1 h2 => hS.heap.apart b b' x x' p p' h0 (hm.2 b x h1) (hm.2 b' x' h2)⟩
  size := hS.size
  defers := hS.defers
  env := fun t v h => hS.env t v (he t v h)
  box := fun t cs h => hS.box t cs (hm.1 t cs h)
  bxap := fun t t' cs cs' r h0 h1 h2 => hS.bxap t t' cs cs' r h0 (hm.1 t cs h1) (hm.1 t' cs' h2)
  hap := fun t cs b x p h1 h2 => hS.hap t cs b x p (hm.1 t cs h1) (hm.2 b x h2)

theorem mine_less (hm : MemLe σ1 σ) {r : Nat} (h : mine β μ σ1 r) : mine β μ σ r := by
  rcases h with ⟨b, x, p, h1, h2⟩ | ⟨t, cs, h1, h2⟩
  · exact .inl ⟨b, x, p, hm.2 b x h1, h2⟩
  · exact .inr ⟨t, cs, hm.1 t cs h1, h2⟩

theorem Step.same (hst : Step β μ σ w β' μ' σ1 w') (hm : MemLe σ' σ1) : Step β μ σ w β' μ' σ' w' :=
  ⟨hst.ext, hst.os, hst.tape, hst.output, hst.size, hst.fr, fun r h => hst.own r (mine_less hm h), fun b x p h1 h2 => hst.blks b x p (hm.2 b x h1) h2⟩

theorem MemLe.of_mem (h : σ.mem = σ1.mem) : MemLe σ σ1 := by
  simp only [St.mem, Prod.mk.injEq] at h
  exact ⟨fun t cs e => by rw [← h.1]; exact e, fun b x e => by rw [← h.2]; exact e⟩

theorem MemLe.trans {σ τ υ : St} (h : MemLe σ τ) (k : MemLe τ υ) : MemLe σ υ := ⟨fun t cs e => k.1 t cs (h.1 t cs e), fun b x e => k.2 b x (h.2 b x e)⟩

/-- A step of a part of a state is a step of the whole: what was not taken is as it was. -/
theorem readd (hS : SRel N β μ nt σ a w) (hm : MemLe σ1 σ) (hS' : SRel N' β' μ' nt σ1' a w') (hst : Step β μ σ1 w β' μ' σ1' w')
    (hh : ∀ b x, σ'.h.get b = some x → σ1'.h.get b = some x ∨ (σ.h.get b = some x ∧ σ1.h.get b = none ∧ x.rw = true))
    (hx : ∀ t cs, get σ'.bx t = some cs → get σ1'.bx t = some cs ∨ (get σ.bx t = some cs ∧ get σ1.bx t = none ∧ μ' t = μ t))
    (he : ∀ t v, get σ'.env t = some v → get σ1'.env t = some v) : SRel N' β' μ' nt σ' a w' ∧ Step β μ σ w β' μ' σ' w' := by
  -- what was not taken: blocks
  have hold : ∀ b x, σ.h.get b = some x → σ1.h.get b = none → x.rw = true → ∃ p, β b = some p ∧ β' b = some p ∧ BRel β p x w ∧ ¬ mine β μ σ1 p.rb ∧ w'.heap[p.rb]? = w.heap[p.rb]? := fun b x h1 h2 h3 => by
    obtain ⟨p, hp, hb⟩ := hS.heap.blk b x h1
    have hnm : ¬ mine β μ σ1 p.rb := fun hmn => by
      rcases hmn with ⟨b0, x0, p0, e1, e2, e3, e4⟩ | ⟨t, cs, e1, e2⟩
      · exact hS.heap.apart b0 b x0 x p0 p (fun e => by subst e; rw [h2] at e1; cases e1) (hm.2 b0 x0 e1) h1 e3 hp e2 e4
      · exact hS.hap t cs b x p (hm.1 t cs e1) h1 hp e2
    exact ⟨p, hp, hst.ext b p hp, hb, hnm, hst.fr _ hb.lt hnm⟩
  have holdx : ∀ t cs, get σ.bx t = some cs → get σ1.bx t = none → ∃ r, μ t = some r ∧ XRel β r cs w ∧ ¬ mine β μ σ1 r ∧ w'.heap[r]? = w.heap[r]? := fun t cs h1 h2 => by
    obtain ⟨r, hr, hb⟩ := hS.box t cs h1
    have hnm : ¬ mine β μ σ1 r := fun hmn => by
      rcases hmn with ⟨b0, x0, p0, e1, e2, e3, e4⟩ | ⟨t0, cs0, e1, e2⟩
      · exact hS.hap t cs b0 x0 p0 h1 (hm.2 b0 x0 e1) e3 (by rw [hr, e4])
      · exact hS.bxap t t0 cs cs0 r (fun e => by subst e; rw [h2] at e1; cases e1) h1 (hm.1 t0 cs0 e1) hr e2
    exact ⟨r, hr, hb, hnm, hst.fr _ hb.lt hnm⟩
  -- where a block of the new state lies, against one that was not taken
  have hnew : ∀ b x p, σ1'.h.get b = some x → β' b = some p → ∀ b' x' p', σ.h.get b' = some x' → σ1.h.get b' = none → x'.rw = true → β b' = some p' → p.rb ≠ p'.rb := fun b x p h1 h2 b' x' p' g1 g2 g3 g4 e => by
    rcases hst.blks b x p h1 h2 with ⟨b0, x0, p0, k1, k2, k3⟩ | hge
    · exact hS.heap.apart b' b0 x' x0 p' p0 (fun e => by subst e; rw [g2] at k1; cases k1) g1 (hm.2 b0 x0 k1) g4 k2 g3 (by rw [k3, e])
    · obtain ⟨q, hq, hb⟩ := hS.heap.blk b' x' g1
      rw [g4, Option.some.injEq] at hq
      subst hq
      have := hb.lt
      omega
  refine ⟨⟨⟨hS'.heap.fresh, fun b x h => ?_, fun b b' x x' p p' h0 h1 h2 h3 h4 h5 => ?_⟩, hS'.size, hS'.defers, fun t v h => hS'.env t v (he t v h), fun t cs h => ?_, fun t t' cs cs' r h0 h1 h2 h3 h4 => ?_, fun t cs b x p h1 h2 h3 h4 => ?_⟩, ?_⟩
  · rcases hh b x h with h | ⟨h1, h2, h3⟩
    · exact hS'.heap.blk b x h
    · obtain ⟨p, hp, hp', hb, _, hw⟩ := hold b x h1 h2 h3
      exact ⟨p, hp', hb.up hst.ext hw⟩
  · rcases hh b x h1 with g | ⟨g1, g2, g3⟩ <;> rcases hh b' x' h2 with k | ⟨k1, k2, k3⟩
    · exact hS'.heap.apart b b' x x' p p' h0 g k h3 h4 h5
    · obtain ⟨q, hq, hq', _⟩ := hold b' x' k1 k2 k3
      rw [hq', Option.some.injEq] at h4
      subst h4
      exact hnew b x p g h3 b' x' q k1 k2 k3 hq
    · obtain ⟨q, hq, hq', _⟩ := hold b x g1 g2 g3
      rw [hq', Option.some.injEq] at h3
      subst h3
      exact fun e => hnew b' x' p' k h4 b x q g1 g2 g3 hq e.symm
    · obtain ⟨q, hq, hq', _⟩ := hold b x g1 g2 g3
      obtain ⟨q', hk, hk', _⟩ := hold b' x' k1 k2 k3
      rw [hq', Option.some.injEq] at h3
      rw [hk', Option.some.injEq] at h4
      subst h3; subst h4
      exact hS.heap.apart b b' x x' q q' h0 g1 k1 hq hk h5
  · rcases hx t cs h with h | ⟨h1, h2, h3⟩
    · exact hS'.box t cs h
    · obtain ⟨r, hr, hb, _, hw⟩ := holdx t cs h1 h2
      exact ⟨r, by rw [h3]; exact hr, hb.up hst.ext hw⟩
  · have hmix : ∀ t cs t' cs', t ≠ t' → get σ1'.bx t = some cs → μ' t = some r → get σ.bx t' = some cs' → get σ1.bx t' = none → μ t' = some r → False := fun t cs t' cs' h0 h1 h2 g1 g2 g3 => by
      obtain ⟨r', hr', hb, hnm, _⟩ := holdx t' cs' g1 g2
      rw [g3, Option.some.injEq] at hr'
      subst hr'
      rcases hst.own r (.inr ⟨t, cs, h1, h2⟩) with h | h
      · exact hnm h
      · have := hb.lt
        omega
    rcases hx t cs h1 with g | ⟨g1, g2, g3⟩ <;> rcases hx t' cs' h2 with k | ⟨k1, k2, k3⟩
    · exact hS'.bxap t t' cs cs' r h0 g k h3 h4
    · exact hmix t cs t' cs' h0 g h3 k1 k2 (by rw [← k3]; exact h4)
    · exact hmix t' cs' t cs h0.symm k h4 g1 g2 (by rw [← g3]; exact h3)
    · exact hS.bxap t t' cs cs' r h0 g1 k1 (by rw [← g3]; exact h3) (by rw [← k3]; exact h4)
  · rcases hx t cs h1 with g | ⟨g1, g2, g3⟩ <;> rcases hh b x h2 with k | ⟨k1, k2, k3⟩
    · exact hS'.hap t cs b x p g k h3 h4
    · obtain ⟨q, hq, hq', hb, hnm, _⟩ := hold b x k1 k2 k3
      rw [hq', Option.some.injEq] at h3
      subst h3
      rcases hst.own q.rb (.inr ⟨t, cs, g, h4⟩) with h | h
      · exact hnm h
      · have := hb.lt
        omega
    · obtain ⟨r, hr, hb, _⟩ := holdx t cs g1 g2
      rw [g3, hr, Option.some.injEq] at h4
      rcases hst.blks b x p k h3 with ⟨b0, x0, p0, e1, e2, e3⟩ | hge
      · exact hS.hap t cs b0 x0 p0 g1 (hm.2 b0 x0 e1) e2 (by rw [hr, h4, e3])
      · have := hb.lt
        omega
    · obtain ⟨q, hq, hq', _⟩ := hold b x k1 k2 k3
      rw [hq', Option.some.injEq] at h3
      subst h3
      exact hS.hap t cs b x q g1 k1 hq (by rw [← g3]; exact h4)
  · refine ⟨hst.ext, hst.os, hst.tape, hst.output, hst.size, fun r hr hn => hst.fr r hr fun h => hn (mine_less hm h), fun r h => ?_, fun b x p h1 h2 => ?_⟩
    · rcases h with ⟨b, x, p, e1, e2, e3, e4⟩ | ⟨t, cs, e1, e2⟩
      · rcases hh b x e1 with g | ⟨g1, g2, g3⟩
        · exact (hst.own r (.inl ⟨b, x, p, g, e2, e3, e4⟩)).imp (mine_less hm) id
        · obtain ⟨q, hq, hq', _⟩ := hold b x g1 g2 g3
          rw [hq', Option.some.injEq] at e3
          subst e3
          exact .inl (.inl ⟨b, x, q, g1, e2, hq, e4⟩)
      · rcases hx t cs e1 with g | ⟨g1, g2, g3⟩
        · exact (hst.own r (.inr ⟨t, cs, g, e2⟩)).imp (mine_less hm) id
        · exact .inl (.inr ⟨t, cs, g1, by rw [← g3]; exact e2⟩)
    · rcases hh b x h1 with g | ⟨g1, g2, g3⟩
      · exact (hst.blks b x p g h2).imp (fun ⟨b0, x0, p0, k1, k2⟩ => ⟨b0, x0, p0, hm.2 b0 x0 k1, k2⟩) id
      · obtain ⟨q, hq, hq', _⟩ := hold b x g1 g2 g3
        rw [hq', Option.some.injEq] at h2
        subst h2
        exact .inl ⟨b, x, q, g1, hq, rfl⟩
end
end E
end Go.Proofs.Ytibdplfdmncgiaa
