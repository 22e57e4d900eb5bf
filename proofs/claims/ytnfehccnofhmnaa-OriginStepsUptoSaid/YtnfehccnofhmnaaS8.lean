/-
  Symbols in the abstract machine: what holds of this seat's program; a law whose arguments are symbols. No condition.
-/
import Derived.Test.YtnfehccnofhmnaaE28
import Derived.Test.YtnfehccnofhmnaaS7
set_option linter.all false
namespace Go.Proofs.Ytnfehccnofhmnaa
open Go.RowKit
namespace E

theorem types_free : (Try.prog.types.toList.all fun i => match i.zero with
    | some z => z.cells.toList.all fun v => !Value.isSym v
    | none => true) = true := by kernel_rfl

noncomputable def tabSize : Nat := Try.prog.types.size

/-- What the machine is told: of the types of the table alone. -/
noncomputable def X1 : Ctx := { tt := fun t => cond (Nat.blt t tabSize) (ttOf Try.prog t) none, flat := flatOf Try.prog }

theorem x1_tt {t : TypeId} {ti : TI} (h : X1.tt t = some ti) : t < tabSize ∧ ttOf Try.prog t = some ti := by
  simp only [X1] at h
  cases hb : Nat.blt t tabSize with
  | false => rw [hb] at h; cases h
  | true => rw [hb, cond_true] at h; rw [Nat.blt_eq] at hb; exact ⟨hb, h⟩

theorem ttOk1 : TtOk Try.prog X1 := fun t ti h => ttOk t ti (by simp only [ctxOf]; exact (x1_tt h).2)
theorem flatOk1 : FlatOk Try.prog X1 := fun t ks h => by
  simp only [X1] at h
  exact flatOk t ks (by simp only [ctxOf]; exact h)

theorem zfree : ZFree X1 := fun t ti h => by
  obtain ⟨hlt, h⟩ := x1_tt h
  unfold ttOf at h
  split at h
  · rename_i ti' h1
    have hti : ti' = ti := by
      split at h
      · rename_i z hz
        cases hb : Nat.beq z.cells.size ti'.size with
        | false => rw [hb] at h; cases h
        | true => rw [hb, cond_true, Option.some.injEq] at h; exact h
      · cases h
    subst hti
    unfold tiOf at h1
    split at h1
    · rename_i i d hi hd
      cases h1
      have hm : i ∈ Try.prog.types.toList := by
        have hi : Try.prog.toTables.info? t = some i := hi
        unfold Tables.info? at hi
        rw [if_pos (show t < Try.prog.types.size from hlt)] at hi
        exact List.mem_of_getElem? (by simpa using hi)
      exact List.all_eq_true.1 types_free i hm
    · cases h1
  · cases h

theorem funcs_K : (Try.prog.funcs.toList.all fun g => match g.body with
    | some c => codeK c
    | none => true) = true := by kernel_rfl

theorem ftK : ∀ f fn, FT f = some fn → codeK fn.body = true := fun f fn h => by
  obtain ⟨g, g1, g2, _⟩ := (ftOk f fn h).ok
  have hm : g ∈ Try.prog.funcs.toList := List.mem_of_getElem? (by simpa using g1)
  have := List.all_eq_true.1 funcs_K g hm
  simp only [g2] at this
  exact this

/-- The answer of a law's own run without arguments, given ahead. -/
def gLive (l : FuncId) (f : FuncId) (args : List V) (h : Heap) : Option (V × Heap) :=
  match args with
  | [] => cond (Nat.beq f l) (some (.one (.lit (.bool true)), h)) none
  | _ => none

def gLiveS (l : FuncId) (f : FuncId) (args : List V) (h : Heap) (K : Know) : Ways (V × Heap) :=
  match args with
  | [] => cond (Nat.beq f l) (some [(K, (.one (.lit (.bool true)), h))]) none
  | _ => none

theorem gLive_ok {l : FuncId} (hl : isTrue (callN Try.prog X0 FT 100 100 l [] ⟨0, []⟩) = true) : GOk Try.prog (gLive l) := fun f args h v h' e => by
  unfold gLive at e
  split at e
  · cases hf : Nat.beq f l with
    | false => rw [hf] at e; cases e
    | true =>
      rw [hf, cond_true, Option.some.injEq, Prod.mk.injEq] at e
      obtain ⟨rfl, rfl⟩ := e
      have := Nat.eq_of_beq_eq_true hf
      subst this
      obtain ⟨h', hr⟩ := isTrue_some hl
      obtain ⟨_, h2, hc⟩ := gok 100 100 _ _ _ _ _ hr
      refine ⟨Nat.le_refl _, h2, fun β w xs hH hxs => ?_⟩
      have hx : xs = [] := by cases xs with
        | nil => rfl
        | cons _ _ => exact hxs.elim
      subst hx
      refine (hc (fun _ => none) w [] ⟨fun _ _ => rfl, (fun b x e => by cases e), (fun b b' x x' p p' _ e => by cases e)⟩ trivial).mono fun e w' he => ?_
      obtain ⟨x, β', rfl, hv, _, hst, _⟩ := he
      have hfr : ∀ r, r < w.heap.size → w'.heap[r]? = w.heap[r]? := fun r hr => hst.fr r hr fun hm => by
        rcases hm with ⟨b, x, p, e1, e2, _⟩ | ⟨t, cs, e1, _⟩
        · cases e1
        · cases e1
      refine ⟨x, β, rfl, ?_, ⟨hH.fresh, fun b y hy => ?_, hH.apart⟩, ⟨fun _ _ h => h, hst.os, hst.tape, hst.output, hst.size, fun r hr _ => hfr r hr, fun r hm => .inl hm, fun b y p h1 h2 => .inl ⟨b, y, p, h1, h2, rfl⟩⟩, fun _ _ => rfl⟩
      · have hx : x = .bool true := hv
        subst hx
        rfl
      · obtain ⟨p, h1, h2⟩ := hH.blk b y hy
        exact ⟨p, h1, h2.up (fun _ _ h => h) (hfr p.rb h2.lt)⟩
  · cases e

theorem gLiveS_ok {ρ : Env} {l : FuncId} : GSok ρ (gLive l) (gLiveS l) := fun f args h K hK => by
  unfold gLiveS gLive
  cases args with
  | nil =>
    simp only [List.map_nil]
    cases Nat.beq f l with
    | false => exact Snd.none
    | true => exact Snd.one hK (by rw [V.den_free (ρ := ρ) (v := .one (.lit (.bool true))) rfl]; rfl)
  | cons _ _ => exact Snd.none
end E
end Go.Proofs.Ytnfehccnofhmnaa
