/-
  An abstract machine of this place's own: the code of a function, calls, regions in the text's order. No condition.
-/
import Derived.Test.YtnfehccnofhmnaaE11
import Derived.LoopN
set_option linter.all false
namespace Go.Proofs.Ytnfehccnofhmnaa
open Go.RowKit
namespace E

inductive Ex where
  | norm
  | exit (id : Nat)
  | ret

/-- A call of a function does in every world that stands for the first heap what is said, and leaves one that stands for the second. -/
def ACall (P : Program) (f : FuncId) (args : List V) (h : Heap) (v : V) (h' : Heap) : Prop :=
  h.next ≤ h'.next ∧ (∃ fn, P.funcs[f]? = some fn ∧ fn.body.isSome = true ∧ fn.name ≠ "runtime.NumGoroutine") ∧ ∀ β w xs, HRel h.next β h w → All2 (VRel β noF) args xs →
    Calls P f xs.toArray w fun e w' => ∃ x β', e = .returned x ∧ VRel β' noF v x ∧ HRel h'.next β' h' w' ∧ Step β noF ⟨[], [], h⟩ w β' noF ⟨[], [], h'⟩ w' ∧ ∀ b, b < h.next → β' b = β b

def V.loose : V → Bool
  | .one c => match c with | .lp .. => false | _ => true
  | .agg cs => cs.all fun c => match c with | .lp .. => false | _ => true
  | .tup vs => vs.all fun v => match v with
    | .one (.lp ..) => false
    | .agg cs => cs.all fun c => match c with | .lp .. => false | _ => true
    | _ => true

section
variable (P : Program) (X : Ctx) (fi : Fi)

def wpOpsE (ops : List Oper) : List Oper → St → (St → Prop) → Prop
  | [], σ, K => K σ
  | o :: l, σ, K =>
    match wanted ops o σ with
    | some false => ∃ σ', put fi o.dst undefC σ = some σ' ∧ wpOpsE ops l σ' K
    | some true =>
      if isCall o then ∃ f args v h' σ', callee σ o = some (f, args) ∧ args.all V.loose = true ∧ ACall P f args σ.h v h' ∧ put fi o.dst v { σ with h := h' } = some σ' ∧ wpOpsE ops l σ' K
      else ∃ v σ1 σ', op P X fi σ.h.next o σ = some (v, σ1) ∧ put fi o.dst v { σ1 with h := bump fi o σ1.h } = some σ' ∧ wpOpsE ops l σ' K
    | none => False

def LoopW (f : St → (Ex → St → Prop) → Prop) : Nat → St → (Ex → St → Prop) → Prop
  | 0, _, _ => False
  | n + 1, σ, Q => f σ fun e σ' => match e with
    | .norm => LoopW f n σ' Q
    | e => Q e σ'
end

section sound
variable {P : Program} {X : Ctx} {fi : Fi} {N N' nm : Nat} {β : Pls} {μ : Fms} {nt : Nat} {σ σ' : St} {a : Act} {w : World} {o : Oper} {v : V}

theorem VRel.loose {v : V} {x : Value} (hl : v.loose = true) (hv : VRel β μ v x) : VRel β noF v x := by
  refine hv.ups (fun _ _ h => h) fun t r ht hr => ?_
  cases v with
  | one c => cases c <;> simp_all [V.loose, mentionsV, mentionsC]
  | agg cs =>
    simp only [mentionsV, List.any_eq_true] at ht
    obtain ⟨c, hc, ht⟩ := ht
    have := List.all_eq_true.1 hl c hc
    cases c <;> simp_all [mentionsC]
  | tup vs =>
    simp only [mentionsV, List.any_eq_true] at ht
    obtain ⟨u, hu, ht⟩ := ht
    have := List.all_eq_true.1 hl u hu
    cases u with
    | one c => cases c <;> simp_all [mentionsC]
    | agg cs =>
      simp only [List.any_eq_true] at ht
      obtain ⟨c, hc, ht⟩ := ht
      have h2 := List.all_eq_true.1 this c hc
      cases c <;> simp_all [mentionsC]
    | tup _ =>
      obtain ⟨l, _, hall⟩ := hv
      obtain ⟨i, hi⟩ := List.getElem?_of_mem hu
      obtain ⟨y, _, hy⟩ := hall.get hi
      exact hy.elim

/-- A slot is written. -/
theorem put_ok (hS : SRel N β μ fi.nt σ a w) {d : Option Nat} {x : Value} (hv : VRel β μ v x) (h : put fi d v σ = some σ') : SRel N β μ fi.nt σ' (a.put d x) w ∧ σ'.h = σ.h ∧ σ'.bx = σ.bx := by
  unfold put at h
  split at h
  · simp only [Option.some.injEq] at h
    subst h
    exact ⟨hS, rfl, rfl⟩
  · rename_i t
    split at h
    · rename_i hlt
      simp only [Option.some.injEq] at h
      subst h
      refine ⟨⟨hS.heap, by simp [Act.put, hS.size], hS.defers, fun u y hu => ?_, hS.box, hS.bxap, hS.hap⟩, rfl, rfl⟩
      have hu' : get ((t, v) :: σ.env) u = some y := hu
      rw [get_cons] at hu'
      by_cases h : t = u
      · subst h
        rw [if_pos rfl, Option.some.injEq] at hu'
        subst hu'
        refine ⟨x, ?_, hv⟩
        have := hS.size
        simp [Act.put, hlt, this]
      · rw [if_neg h] at hu'
        obtain ⟨z, h1, h2⟩ := hS.env u y hu'
        exact ⟨z, by simp [Act.put, Array.getElem?_setIfInBounds_ne h, h1], h2⟩
    · cases h

theorem yield_ok (hS : SRel N β μ nt σ a w) {ops : Array Oper} {b : Bool} (h : wanted ops.toList o σ = some b) : Region.wanted o (yielded ops a.tmps) = b := by
  unfold wanted at h
  unfold Region.wanted
  split at h
  · rename_i hg
    simp only [Option.some.injEq] at h
    subst h
    simp [hg]
  · rename_i j want hg
    simp only [hg]
    split at h
    · rename_i oj hj
      split at h
      · rename_i t ht
        split at h
        · rename_i q hq
          simp only [Option.some.injEq] at h
          subst h
          obtain ⟨x, h1, h2⟩ := hS.env t _ hq
          have hx : x = .bool q := h2
          subst hx
          have hj' : ops[j]? = some oj := by simpa using hj
          simp [yielded, hj', ht, h1]
        · rename_i l hq
          simp only [Option.some.injEq] at h
          subst h
          obtain ⟨x, h1, h2⟩ := hS.env t _ hq
          have hx : x = .tuple l := h2
          subst hx
          have hj' : ops[j]? = some oj := by simpa using hj
          simp [yielded, hj', ht, h1]
        · cases h
      · cases h
    · cases h

/-- What a call leaves, seen from the caller. -/
theorem call_back (hS : SRel N β μ nt σ a w) {β' : Pls} {h' : Heap} {w' : World} (hH : HRel N' β' h' w') (hst : Step β noF ⟨[], [], σ.h⟩ w β' noF ⟨[], [], h'⟩ w') :
    SRel N' β' μ nt { σ with h := h' } a w' ∧ Step β μ σ w β' μ { σ with h := h' } w' := by
  have hbox : ∀ t cs, get σ.bx t = some cs → ∃ r, μ t = some r ∧ XRel β r cs w ∧ w'.heap[r]? = w.heap[r]? := fun t cs ht => by
    obtain ⟨r, h1, h2⟩ := hS.box t cs ht
    refine ⟨r, h1, h2, hst.fr r h2.lt fun hm => ?_⟩
    rcases hm with ⟨b, x, p, g1, g2, g3, g4⟩ | ⟨u, ds, g1, g2⟩
    · exact hS.hap t cs b x p ht g1 g3 (by rw [h1, g4])
    · simp [get] at g1
  refine ⟨⟨hH, hS.size, hS.defers, fun t v ht => ?_, fun t cs ht => ?_, hS.bxap, fun t cs b x p ht hb hp he => ?_⟩, ?_⟩
  · obtain ⟨x, h1, h2⟩ := hS.env t v ht
    exact ⟨x, h1, h2.up hst.ext⟩
  · obtain ⟨r, h1, h2, h3⟩ := hbox t cs ht
    exact ⟨r, h1, h2.up hst.ext h3⟩
  · obtain ⟨r, h1, h2, h3⟩ := hbox t cs ht
    rw [h1, Option.some.injEq] at he
    rcases hst.blks b x p hb hp with ⟨b0, x0, p0, g1, g2, g3⟩ | hge
    · exact hS.hap t cs b0 x0 p0 ht g1 g2 (by rw [h1, he, g3])
    · have := h2.lt
      omega
  · refine ⟨hst.ext, hst.os, hst.tape, hst.output, hst.size, fun r hr hn => hst.fr r hr fun hm => ?_, fun r hm => ?_, fun b x p h1 h2 => hst.blks b x p h1 h2⟩
    · rcases hm with g | ⟨u, ds, g1, g2⟩
      · exact hn (.inl g)
      · simp [get] at g1
    · rcases hm with g | ⟨u, ds, g1, g2⟩
      · rcases hst.own r (.inl g) with (g | ⟨u, ds, g1, g2⟩) | hge
        · exact .inl (.inl g)
        · simp [get] at g1
        · exact .inr hge
      · exact .inl (.inr ⟨u, ds, g1, g2⟩)

theorem callee_ok (hS : SRel N β μ nt σ a w) {f : FuncId} {args : List V} (h : callee σ o = some (f, args)) (hl : args.all V.loose = true)
    (hf : ∃ fn, P.funcs[f]? = some fn ∧ fn.body.isSome = true ∧ fn.name ≠ "runtime.NumGoroutine") : ∃ xs : List Value, All2 (VRel β noF) args xs ∧ (execOp a.eval o).run P w = .ok (.enter f xs.toArray) w := by
  unfold callee at h
  split at h
  case h_2 => cases h
  rename_i c ho
  split at h
  case h_2 => cases h
  rename_i fo hc
  split at h
  case h_2 => cases h
  rename_i g caps vs hfo hvs
  simp only [Option.some.injEq, Prod.mk.injEq] at h
  obtain ⟨rfl, rfl⟩ := h
  obtain ⟨l, hfx, hcaps⟩ := ev_ok hS hfo
  have hargs := evs_ok hS hvs
  rw [List.all_append, Bool.and_eq_true] at hl
  refine ⟨c.args.toList.map a.eval ++ l.toList, ?_, ?_⟩
  · refine All2.append (hargs.mono fun u hu y hy => hy.loose (List.all_eq_true.1 hl.1 u hu)) (All2.map_left ?_)
    exact hcaps.mono fun q _ y hy => by
      obtain ⟨p, h1, h2⟩ := hy
      exact ⟨p, h1, h2⟩
  · obtain ⟨fn, hfn, hb, hnm⟩ := hf
    have hnone : fn.body.isNone = false := by cases h : fn.body <;> simp_all
    have hname : (fn.name == "runtime.NumGoroutine") = false := by simpa using hnm
    unfold execOp
    simp only [ho, resolve, hc, Sem.run_bind, hfx, Deferred.ofValue, Sem.run_pure, Result.andThen_ok, invoke, callFunc, program, Sem.run, hfn, hname, hnone, Bool.false_eq_true, if_false]
    congr 2
    apply Array.ext'
    simp
end sound
end E
end Go.Proofs.Ytnfehccnofhmnaa
