/-
  An abstract machine of this place's own: on what an operation hangs: its operands, and what it reads. No condition.
-/
import Derived.Test.YtnfehccnofhmnaaE15
set_option linter.all false
namespace Go.Proofs.Ytnfehccnofhmnaa
open Go.RowKit
namespace E

/-- One memory holds what another one holds. -/
def MemLe (σ τ : St) : Prop := (∀ t cs, get σ.bx t = some cs → get τ.bx t = some cs) ∧ (∀ b x, σ.h.get b = some x → τ.h.get b = some x)

section
variable {P : Program} {X : Ctx} {fi : Fi} {nm nm' : Nat} {σ τ σ' : St} {o : Oper} {v : V}

theorem onV_of {x : Operand} {u : V} {k : V → Option (V × St)} (h : ev τ x = some u) : onV τ x k = k u := by simp [onV, h]
theorem onC_of {x : Operand} {c : C} {k : C → Option (V × St)} (h : ev τ x = some (.one c)) : onC τ x k = k c := by simp [onC, h]
theorem onTI_of {t : TypeId} {ti : TI} {k : TI → Option (V × St)} (h : X.tt t = some ti) : onTI X t k = k ti := by simp [onTI, h]

theorem loadC_mono (hm : MemLe σ τ) {c : C} {n : Nat} {cs : List C} (h : loadC σ c n = some cs) : loadC τ c n = some cs := by
  unfold loadC at h ⊢
  split at h
  · rename_i t k
    simp only [Option.bind_eq_some_iff] at h ⊢
    obtain ⟨bs, h1, h2⟩ := h
    exact ⟨bs, hm.1 t bs h1, h2⟩
  · rename_i b k
    split at h
    · rename_i rw' sz bs hb
      simp only [hm.2 b _ hb]
      exact h
    · cases h
  · cases h

theorem entries_mono (hm : MemLe σ τ) {c : C} {es : List (Value × V × Nat)} (h : entriesOf σ c = some es) : entriesOf τ c = some es := by
  unfold entriesOf at h ⊢
  split at h
  · exact h
  · rename_i b
    split at h
    · rename_i es' cl hb
      simp only [hm.2 b _ hb]
      exact h
    · cases h
  · cases h

theorem szOk_mono (hm : MemLe σ τ) {b sz l : Nat} (h : szOk σ b sz l = true) : szOk τ b sz l = true := by
  simp only [szOk, Bool.or_eq_true] at h ⊢
  rcases h with h | h
  · exact .inl h
  · right
    split at h
    · rename_i rw' sz' cs hb
      simp only [hm.2 b _ hb]
      simpa using h
    · cases h

theorem pureOp_eq (hs : ∀ cs b, o.op ≠ .select cs b) (hev : ∀ x ∈ o.op.operands.toList, ev τ x = ev σ x) : pureOp P o τ = pureOp P o σ := by
  have h0 : ∀ x ∈ o.op.operands.toList, litAt τ x = litAt σ x := fun x hx => by unfold litAt; rw [hev x hx]
  have h1 : o.op.operands.toList.all (litAt τ) = o.op.operands.toList.all (litAt σ) := by
    rw [Bool.eq_iff_iff, List.all_eq_true, List.all_eq_true]
    exact ⟨fun h x hx => by rw [← h0 x hx]; exact h x hx, fun h x hx => by rw [h0 x hx]; exact h x hx⟩
  unfold pureOp
  rw [h1, execOp_congr (ρ := ρ τ) (ρ' := ρ σ) o hs fun x hx => by unfold ρ; rw [hev x (by simpa using hx)]]

theorem pureV_eq (hs : ∀ cs b, o.op ≠ .select cs b) (hev : ∀ x ∈ o.op.operands.toList, ev τ x = ev σ x) (h : op.pureV P o σ = some (v, σ')) : op.pureV P o τ = some (v, τ) ∧ σ' = σ := by
  simp only [op.pureV, Option.map_eq_some_iff, Prod.mk.injEq] at h
  obtain ⟨u, h1, rfl, rfl⟩ := h
  exact ⟨by simp only [op.pureV, pureOp_eq hs hev, h1, Option.map_some], rfl⟩

theorem evs_eq : ∀ {l : List Operand}, (∀ x ∈ l, ev τ x = ev σ x) → evs τ l = evs σ l
  | [], _ => rfl
  | x :: l, h => by
    have h1 := h x (by simp)
    have h2 := evs_eq (l := l) fun y hy => h y (by simp [hy])
    simp only [evs, h1, h2]

theorem evParts_eq : ∀ {l : List (Nat × Operand)}, (∀ x ∈ l.map (·.2), ev τ x = ev σ x) → evParts τ l = evParts σ l
  | [], _ => rfl
  | (i, x) :: l, h => by
    have h1 := h x (by simp)
    have h2 := evParts_eq (l := l) fun y hy => h y (by rw [List.map_cons]; exact List.mem_cons_of_mem _ hy)
    simp only [evParts, h1, h2]

theorem optIdx_eq {x : Option Operand} (h : ∀ y ∈ x, ev τ y = ev σ y) : optIdx τ x = optIdx σ x := by
  cases x with
  | none => rfl
  | some y => simp only [optIdx, h y rfl]

/-- An operation that only computes, or reads. -/
theorem op_float (hk : okind o = .pure ∨ okind o = .read) (hev : ∀ x ∈ o.op.operands.toList, ev τ x = ev σ x) (hm : okind o = .read → MemLe σ τ) (h : op P X fi nm o σ = some (v, σ')) : op P X fi nm' o τ = some (v, τ) ∧ σ' = σ := by
  have hs : ∀ cs b, o.op ≠ .select cs b := fun cs b he => by simp [op, he] at h
  cases ho : o.op with
  | move x =>
    simp only [op, ho] at h ⊢
    obtain ⟨u, h1, h2⟩ := onV_some h
    simp only [Option.some.injEq, Prod.mk.injEq] at h2
    obtain ⟨rfl, rfl⟩ := h2
    rw [onV_of (by rw [hev x (by simp [ho, Op.operands])]; exact h1)]
    exact ⟨rfl, rfl⟩
  | assign x =>
    simp only [op, ho] at h ⊢
    obtain ⟨u, h1, h2⟩ := onV_some h
    simp only [Option.some.injEq, Prod.mk.injEq] at h2
    obtain ⟨rfl, rfl⟩ := h2
    rw [onV_of (by rw [hev x (by simp [ho, Op.operands])]; exact h1)]
    exact ⟨rfl, rfl⟩
  | pick c x y =>
    simp only [op, ho] at h ⊢
    obtain ⟨k, h1, h2⟩ := onC_some h
    rw [onC_of (by rw [hev c (by simp [ho, Op.operands])]; exact h1)]
    split at h2
    · rename_i t
      obtain ⟨u, h3, h4⟩ := onV_some h2
      simp only [Option.some.injEq, Prod.mk.injEq] at h4
      obtain ⟨rfl, rfl⟩ := h4
      rw [onV_of (u := u) (by cases t <;> (simp only [if_true, Bool.false_eq_true, if_false] at h3 ⊢; rw [hev _ (by simp [ho, Op.operands])]; exact h3))]
      exact ⟨rfl, rfl⟩
    · cases h2
  | extract x i =>
    simp only [op, ho] at h ⊢
    obtain ⟨k, h1, h2⟩ := onV_some h
    rw [onV_of (by rw [hev x (by simp [ho, Op.operands])]; exact h1)]
    split at h2
    · simp only [Option.map_eq_some_iff, Prod.mk.injEq] at h2
      obtain ⟨u, hu, rfl, rfl⟩ := h2
      exact ⟨by rw [hu]; rfl, rfl⟩
    · cases h2
  | load t x =>
    have hm := hm (by simp [okind, ho])
    simp only [op, ho] at h ⊢
    obtain ⟨ti, h1, h2⟩ := onTI_some h
    obtain ⟨c, h3, h4⟩ := onC_some h2
    rw [onTI_of h1, onC_of (by rw [hev x (by simp [ho, Op.operands])]; exact h3)]
    simp only [load, Option.map_eq_some_iff, Option.bind_eq_some_iff, Prod.mk.injEq] at h4
    obtain ⟨v', ⟨cs, h5, h6⟩, rfl, rfl⟩ := h4
    exact ⟨by simp only [load, loadC_mono hm h5, Option.bind_some, h6, Option.map_some], rfl⟩
  | nilCheck x =>
    simp only [op, ho] at h ⊢
    obtain ⟨c, h3, h4⟩ := onC_some h
    rw [onC_of (by rw [hev x (by simp [ho, Op.operands])]; exact h3)]
    split at h4
    · simp only [Option.some.injEq, Prod.mk.injEq] at h4; obtain ⟨rfl, rfl⟩ := h4; exact ⟨rfl, rfl⟩
    · simp only [Option.some.injEq, Prod.mk.injEq] at h4; obtain ⟨rfl, rfl⟩ := h4; exact ⟨rfl, rfl⟩
    · cases h4
  | fieldAddr t x f =>
    simp only [op, ho] at h ⊢
    split at h
    · rename_i off ft hft
      split at h
      · rename_i hpos
        obtain ⟨c, h3, h4⟩ := onC_some h
        simp only [if_pos hpos]
        rw [onC_of (by rw [hev x (by simp [ho, Op.operands])]; exact h3)]
        simp only [Option.map_eq_some_iff, Prod.mk.injEq] at h4
        obtain ⟨c', h5, rfl, rfl⟩ := h4
        exact ⟨by rw [h5]; rfl, rfl⟩
      · cases h
    · cases h
  | field t x f =>
    simp only [op, ho] at h ⊢
    split at h
    · obtain ⟨u, h3, h4⟩ := onV_some h
      rw [onV_of (by rw [hev x (by simp [ho, Op.operands])]; exact h3)]
      split at h4
      · simp only [Option.map_eq_some_iff, Prod.mk.injEq] at h4
        obtain ⟨v', h5, rfl, rfl⟩ := h4
        exact ⟨by rw [h5]; rfl, rfl⟩
      · cases h4
    · cases h
  | indexAddr t x y =>
    simp only [op, ho] at h ⊢
    obtain ⟨c, h3, h4⟩ := onC_some h
    obtain ⟨u, h5, h6⟩ := onV_some h4
    rw [onC_of (by rw [hev x (by simp [ho, Op.operands])]; exact h3), onV_of (by rw [hev y (by simp [ho, Op.operands])]; exact h5)]
    split at h6
    · simp only [Option.map_eq_some_iff, Prod.mk.injEq] at h6
      obtain ⟨c', h7, rfl, rfl⟩ := h6
      exact ⟨by rw [h7]; rfl, rfl⟩
    · cases h6
  | index t x y =>
    simp only [op, ho] at h ⊢
    split at h
    · obtain ⟨u, h3, h4⟩ := onV_some h
      obtain ⟨u', h5, h6⟩ := onV_some h4
      rw [onV_of (by rw [hev x (by simp [ho, Op.operands])]; exact h3), onV_of (by rw [hev y (by simp [ho, Op.operands])]; exact h5)]
      split at h6
      · rename_i hd hj
        split at h6
        · rename_i hin
          simp only [if_pos hin]
          simp only [Option.map_eq_some_iff, Prod.mk.injEq] at h6
          obtain ⟨v', h7, rfl, rfl⟩ := h6
          exact ⟨by rw [h7]; rfl, rfl⟩
        · cases h6
      · cases h6
    · exact pureV_eq hs hev h
  | slice t x lo hi mx =>
    have hm := hm (by simp [okind, ho])
    simp only [op, ho] at h ⊢
    have e1 : optIdx τ lo = optIdx σ lo := optIdx_eq fun y hy => hev y (by simp [ho, Op.operands]; simp at hy; simp [hy])
    have e2 : optIdx τ hi = optIdx σ hi := optIdx_eq fun y hy => hev y (by simp [ho, Op.operands]; simp at hy; simp [hy])
    have e3 : optIdx τ mx = optIdx σ mx := optIdx_eq fun y hy => hev y (by simp [ho, Op.operands]; simp at hy; simp [hy])
    rw [e1, e2, e3, hev x (by simp [ho, Op.operands])]
    split at h
    case h_2 => cases h
    rename_i l h' m h1 h2 h3
    split at h
    · exact pureV_eq hs hev h
    · rename_i c _ hx
      simp only [Option.map_eq_some_iff, Prod.mk.injEq] at h
      obtain ⟨c', h7, rfl, rfl⟩ := h
      suffices hh : sliceE X τ t c l h' m = some c' by exact ⟨by simp only [hh, Option.map_some], rfl⟩
      unfold sliceE at h7 ⊢
      split at h7
      case h_2 => cases h7
      split at h7
      · split at h7
        · rename_i et b q len cap het _
          split at h7
          case h_2 => cases h7
          split at h7
          case isFalse => cases h7
          rename_i hz
          rw [if_pos (szOk_mono hm hz)]
          exact h7
        · exact h7
        · cases h7
      · exact h7
      · cases h7
    · cases h
  | build t ps =>
    simp only [op, ho] at h ⊢
    obtain ⟨ti, h1, h2⟩ := onTI_some h
    rw [onTI_of h1, evParts_eq (σ := σ) (τ := τ) fun x hx => hev x (by simpa [ho, Op.operands] using hx)]
    split at h2
    case h_2 => cases h2
    rename_i z vs hz hvs
    split at h2
    · split at h2
      · simp only [Option.map_eq_some_iff, Prod.mk.injEq] at h2
        obtain ⟨ds, hf, rfl, rfl⟩ := h2
        exact ⟨by rw [hf]; rfl, rfl⟩
      · cases h2
    · split at h2
      · simp only [Option.map_eq_some_iff, Prod.mk.injEq] at h2
        obtain ⟨ds, hf, rfl, rfl⟩ := h2
        exact ⟨by rw [hf]; rfl, rfl⟩
      · cases h2
    · cases h2
  | lookup t x y ok =>
    have hm := hm (by simp [okind, ho])
    simp only [op, ho] at h ⊢
    obtain ⟨c, h3, h4⟩ := onC_some h
    obtain ⟨u, h5, h6⟩ := onV_some h4
    rw [onC_of (by rw [hev x (by simp [ho, Op.operands])]; exact h3), onV_of (by rw [hev y (by simp [ho, Op.operands])]; exact h5)]
    split at h6
    case h_2 => cases h6
    simp only [Option.map_eq_some_iff, Prod.mk.injEq] at h6
    obtain ⟨v', h7, rfl, rfl⟩ := h6
    rename_i kk hkk
    suffices hh : lookupE X t τ c kk ok = some v' by exact ⟨by simp only [hh, Option.map_some], rfl⟩
    unfold lookupE at h7 ⊢
    split at h7
    case h_2 => cases h7
    rename_i hmk hes
    simp only [hmk, entries_mono hm hes]
    exact h7
  | makeFunc f fs caps =>
    cases f with
    | func f =>
      simp only [op, ho] at h ⊢
      split at h
      · rename_i hfs
        rw [if_pos hfs, evs_eq (σ := σ) (τ := τ) fun x hx => hev x (by simp [ho, Op.operands]; right; simpa using hx)]
        split at h
        · simp only [Option.map_eq_some_iff, Prod.mk.injEq] at h
          obtain ⟨l, h1, rfl, rfl⟩ := h
          exact ⟨by rw [h1]; rfl, rfl⟩
        · cases h
      · cases h
    | _ => simp [op, ho] at h
  | binOp b t x y t' =>
    simp only [op, ho] at h ⊢
    obtain ⟨u, h3, h4⟩ := onV_some h
    obtain ⟨u', h5, h6⟩ := onV_some h4
    rw [onV_of (by rw [hev x (by simp [ho, Op.operands])]; exact h3), onV_of (by rw [hev y (by simp [ho, Op.operands])]; exact h5)]
    split at h6
    · simp only [Option.some.injEq, Prod.mk.injEq] at h6
      obtain ⟨rfl, rfl⟩ := h6
      exact ⟨rfl, rfl⟩
    · exact pureV_eq hs hev h6
  | unOp u t x => simp only [op, ho] at h ⊢; exact pureV_eq hs hev h
  | convert s t x => simp only [op, ho] at h ⊢; exact pureV_eq hs hev h
  | call c =>
    simp only [okind, ho] at hk hm
    simp only [op, ho] at h ⊢
    split at h
    case h_2 => cases h
    rename_i b hb
    simp only [hb] at hk hm
    have hbl : b = .len := by cases b <;> simp at hk ⊢
    subst hbl
    have hm := hm rfl
    rw [evs_eq (σ := σ) (τ := τ) fun x hx => hev x (by simp [ho, Op.operands, Call.operands, hb]; simpa using hx)]
    split at h
    case h_2 => cases h
    rename_i vs hvs
    unfold builtinE at h ⊢
    split at h <;> try (cases h; done)
    · rename_i t rest c' hts
      split at h
      case h_2 => cases h
      split at h
      · simp only [Option.map_eq_some_iff, Prod.mk.injEq] at h
        obtain ⟨es, h1, rfl, rfl⟩ := h
        exact ⟨by rw [entries_mono hm h1]; rfl, rfl⟩
      · simp only [Option.some.injEq, Prod.mk.injEq] at h
        obtain ⟨rfl, rfl⟩ := h
        exact ⟨rfl, rfl⟩
      · split at h
        · cases h
        · simp only [Option.map_eq_some_iff, Prod.mk.injEq] at h
          obtain ⟨n, h1, rfl, rfl⟩ := h
          exact ⟨by rw [h1]; rfl, rfl⟩
      · split at h
        · simp only [Option.some.injEq, Prod.mk.injEq] at h
          obtain ⟨rfl, rfl⟩ := h
          exact ⟨rfl, rfl⟩
        · cases h
      · cases h
    all_goals (first | cases ‹Builtin.len = _› | skip)
  | _ => simp [op, ho, okind] at h hk
end
end E
end Go.Proofs.Ytnfehccnofhmnaa
