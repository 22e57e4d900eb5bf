/-
  An abstract machine of this place's own: what a run that computes says. No condition.
-/
import Derived.Test.YtnfehccnofhmnaaE25
set_option linter.all false
namespace Go.Proofs.Ytnfehccnofhmnaa
open Go.RowKit
namespace E

theorem strEq_same {a b : ByteArray} (h : strEq a b = true) : a = b := by
  have h : (a.data.toList == b.data.toList) = true := h
  have := eq_of_beq h
  exact ByteArray.ext (Array.toList_inj.1 this)

theorem C.beq_eq {x y : C} (h : C.beq x y = true) : x = y := by
  unfold C.beq at h
  split at h <;> (try simp only [Bool.and_eq_true, decide_eq_true_eq, beq_iff_eq, Bool.false_eq_true] at h)
  · obtain ⟨rfl, rfl⟩ := h; rfl
  · subst h; rfl
  · rw [strEq_same h]
  · rfl
  · rfl
  · rfl
  · rfl
  · obtain ⟨h1, h2⟩ := h
    rw [Nat.eq_of_beq_eq_true h1, Nat.eq_of_beq_eq_true h2]
  · obtain ⟨h1, h2⟩ := h
    rw [Nat.eq_of_beq_eq_true h1, Nat.eq_of_beq_eq_true h2]
  · obtain ⟨⟨⟨h1, h2⟩, h3⟩, h4⟩ := h
    rw [Nat.eq_of_beq_eq_true h1, Nat.eq_of_beq_eq_true h2, Nat.eq_of_beq_eq_true h3, Nat.eq_of_beq_eq_true h4]
  · rw [Nat.eq_of_beq_eq_true h]
  · rw [Nat.eq_of_beq_eq_true h]

theorem cellsBeq_eq : ∀ {xs ys : List C}, cellsBeq xs ys = true → xs = ys
  | [], [], _ => rfl
  | x :: xs, y :: ys, h => by
    simp only [cellsBeq, Bool.and_eq_true] at h
    rw [C.beq_eq h.1, cellsBeq_eq h.2]
  | [], _ :: _, h => by cases h
  | _ :: _, [], h => by cases h

theorem V.beq_eq {x y : V} (h : V.beq x y = true) : x = y := by
  unfold V.beq at h
  split at h
  · rw [C.beq_eq h]
  · rw [cellsBeq_eq h]
  · cases h

section
variable {P : Program} {X : Ctx} {fi : Fi} {Γ : FuncId → List V → Heap → Option (V × Heap)} {wins : List (Nat × Win)} {σ σ' : St}

theorem rdOkB_ok {B : List Mem} {r : Rd} (h : rdOkB P X fi B r = true) : RdOk P X fi B r := fun k m h1 h2 h3 => by
  have hm : m ∈ (B.reverse.take (r.hi + 1)).drop r.lo := by
    refine List.mem_of_getElem? (i := k - r.lo) ?_
    rw [List.getElem?_drop, List.getElem?_take]
    rw [show r.lo + (k - r.lo) = k by omega, if_pos (by omega)]
    exact h3
  have := List.all_eq_true.1 h m hm
  split at this
  · rename_i v hv
    rw [hv, V.beq_eq this]
  · cases this

/-- What the machine says of calls is so. -/
def GOk (P : Program) (Γ : FuncId → List V → Heap → Option (V × Heap)) : Prop := ∀ f args h v h', Γ f args h = some (v, h') → ACall P f args h v h'

theorem runOps_ok (hG : GOk P Γ) {ops : List Oper} {K : St → Prop} : ∀ (l : List Oper) (σ : St), runOps P X fi Γ ops l σ = some σ' → K σ' → wpOpsE P X fi ops l σ K
  | [], σ, h, hK => by
    simp only [runOps, Option.some.injEq] at h
    subst h
    exact hK
  | o :: l, σ, h, hK => by
    simp only [runOps] at h
    simp only [wpOpsE]
    cases hw : wanted ops o σ with
    | none => rw [hw] at h; cases h
    | some b =>
      rw [hw] at h
      cases b with
      | false =>
        simp only at h ⊢
        cases hp : put fi o.dst undefC σ with
        | none => rw [hp] at h; cases h
        | some σ1 => rw [hp] at h; exact ⟨σ1, rfl, runOps_ok hG l σ1 h hK⟩
      | true =>
        simp only at h ⊢
        cases hc : isCall o with
        | true =>
          rw [hc, cond_true] at h
          rw [if_pos rfl]
          cases hcal : callee σ o with
          | none => rw [hcal] at h; cases h
          | some p =>
            obtain ⟨f, args⟩ := p
            rw [hcal] at h
            simp only at h
            cases hl : args.all V.loose with
            | false => rw [hl] at h; cases h
            | true =>
              rw [hl, cond_true] at h
              cases hg : Γ f args σ.h with
              | none => rw [hg] at h; cases h
              | some q =>
                obtain ⟨v, h'⟩ := q
                rw [hg] at h
                simp only at h
                cases hp : put fi o.dst v { σ with h := h' } with
                | none => rw [hp] at h; cases h
                | some σ1 =>
                  rw [hp] at h
                  exact ⟨f, args, v, h', σ1, rfl, hl, hG _ _ _ _ _ hg, hp, runOps_ok hG l σ1 h hK⟩
        | false =>
          rw [hc, cond_false] at h
          rw [if_neg (by simp)]
          cases hop : op P X fi σ.h.next o σ with
          | none => rw [hop] at h; cases h
          | some q =>
            obtain ⟨v, σ1⟩ := q
            rw [hop] at h
            simp only at h
            cases hp : put fi o.dst v { σ1 with h := bump fi o σ1.h } with
            | none => rw [hp] at h; cases h
            | some σ2 =>
              rw [hp] at h
              exact ⟨v, σ1, σ2, rfl, hp, runOps_ok hG l σ2 h hK⟩

theorem runDrawL_ok (hG : GOk P Γ) {ops : List Oper} {ws : List (Nat × Nat × Nat)} {K : St → Prop} : ∀ (l : List Nat) (nm : Nat) (B : List Mem) (R : List Rd) (σ : St), runDrawL P X fi Γ ops ws l nm B R σ = some σ' → K σ' → wpDrawL P X fi ops ws l nm B R σ K
  | [], nm, B, R, σ, h, hK => by
    simp only [runDrawL] at h
    cases hr : R.all (rdOkB P X fi B) with
    | false => rw [hr] at h; cases h
    | true =>
      rw [hr, cond_true, Option.some.injEq] at h
      subst h
      exact ⟨fun r hr' => rdOkB_ok (List.all_eq_true.1 hr r hr'), hK⟩
  | i :: l, nm, B, R, σ, h, hK => by
    simp only [runDrawL] at h
    simp only [wpDrawL]
    cases ho : ops[i]? with
    | none => rw [ho] at h; cases h
    | some o =>
      rw [ho] at h
      simp only at h ⊢
      cases hw : wanted ops o σ with
      | none => rw [hw] at h; cases h
      | some b =>
        rw [hw] at h
        cases b with
        | false =>
          simp only at h ⊢
          cases hp : put fi o.dst undefC σ with
          | none => rw [hp] at h; cases h
          | some σ1 => rw [hp] at h; exact ⟨σ1, rfl, runDrawL_ok hG l _ _ _ σ1 h hK⟩
        | true =>
          simp only at h ⊢
          cases hc : isCall o with
          | true =>
            rw [hc, cond_true] at h
            rw [if_pos rfl]
            cases hcal : callee σ o with
            | none => rw [hcal] at h; cases h
            | some p =>
              obtain ⟨f, args⟩ := p
              rw [hcal] at h
              simp only at h
              cases hl : args.all V.loose with
              | false => rw [hl] at h; cases h
              | true =>
                rw [hl, cond_true] at h
                cases hg : Γ f args σ.h with
                | none => rw [hg] at h; cases h
                | some q =>
                  obtain ⟨v, h'⟩ := q
                  rw [hg] at h
                  simp only at h
                  cases hp : put fi o.dst v { σ with h := h' } with
                  | none => rw [hp] at h; cases h
                  | some σ1 =>
                    rw [hp] at h
                    exact ⟨f, args, v, h', σ1, rfl, hl, hG _ _ _ _ _ hg, hp, runDrawL_ok hG l _ _ _ σ1 h hK⟩
          | false =>
            rw [hc, cond_false] at h
            rw [if_neg (by simp)]
            cases hop : op P X fi nm o σ with
            | none => rw [hop] at h; cases h
            | some q =>
              obtain ⟨v, σ1⟩ := q
              rw [hop] at h
              simp only at h
              cases hp : put fi o.dst v σ1 with
              | none => rw [hp] at h; cases h
              | some σ2 =>
                rw [hp] at h
                exact ⟨v, σ1, σ2, rfl, hp, runDrawL_ok hG l _ _ _ σ2 h hK⟩

theorem runLoop_ok {f : St → Option (Ex × St)} {g : St → (Ex → St → Prop) → Prop} (hfg : ∀ σ e σ' Q, f σ = some (e, σ') → Q e σ' → g σ Q) {e : Ex} {Q : Ex → St → Prop} : ∀ (n : Nat) (σ : St), runLoop f n σ = some (e, σ') → Q e σ' → LoopW g n σ Q
  | 0, σ, h, _ => by cases h
  | n + 1, σ, h, hQ => by
    simp only [runLoop] at h
    rw [LoopW]
    split at h
    · rename_i σ1 h1
      exact hfg _ _ _ _ h1 (runLoop_ok hfg n σ1 h hQ)
    · rename_i r hne
      refine hfg _ _ _ _ h ?_
      cases e with
      | norm => exact absurd h (hne σ')
      | exit id => exact hQ
      | ret => exact hQ

theorem runC_ok (hG : GOk P Γ) {n : Nat} : ∀ (c : Code) (σ : St) (e : Ex) (σ' : St) (Q : Ex → St → Prop), codeOk wins c = true → runC P X fi Γ wins n c σ = some (e, σ') → Q e σ' → WP P X fi (wpDraw P X fi wins) c σ Q
  | .skip, σ, e, σ', Q, _, h, hQ => by
    simp only [runC, Option.some.injEq, Prod.mk.injEq] at h
    obtain ⟨rfl, rfl⟩ := h
    exact hQ
  | .ret, σ, e, σ', Q, _, h, hQ => by
    simp only [runC, Option.some.injEq, Prod.mk.injEq] at h
    obtain ⟨rfl, rfl⟩ := h
    exact hQ
  | .exit id, σ, e, σ', Q, _, h, hQ => by
    simp only [runC, Option.some.injEq, Prod.mk.injEq] at h
    obtain ⟨rfl, rfl⟩ := h
    exact hQ
  | .seq a b, σ, e, σ', Q, hc, h, hQ => by
    simp only [codeOk, Bool.and_eq_true] at hc
    simp only [runC] at h
    simp only [WP]
    split at h
    · rename_i σ1 h1
      exact runC_ok hG a σ _ _ _ hc.1 h1 (runC_ok hG b σ1 e σ' Q hc.2 h hQ)
    · rename_i hne
      refine runC_ok hG a σ _ _ _ hc.1 h ?_
      cases e with
      | norm => exact absurd h (hne σ')
      | exit id => exact hQ
      | ret => exact hQ
  | .cond x a b, σ, e, σ', Q, hc, h, hQ => by
    simp only [codeOk, Bool.and_eq_true] at hc
    simp only [runC] at h
    simp only [WP]
    split at h
    · rename_i hx
      simp only [hx]
      exact runC_ok hG a σ e σ' Q hc.1 h hQ
    · rename_i hx
      simp only [hx]
      exact runC_ok hG b σ e σ' Q hc.2 h hQ
    · cases h
  | .block id c, σ, e, σ', Q, hc, h, hQ => by
    simp only [codeOk] at hc
    simp only [runC] at h
    simp only [WP]
    split at h
    · rename_i id' σ1 h1
      refine runC_ok hG c σ _ _ _ hc h1 ?_
      cases hb : Nat.beq id' id with
      | true =>
        rw [hb, cond_true] at h
        simp only [Option.some.injEq, Prod.mk.injEq] at h
        obtain ⟨rfl, rfl⟩ := h
        simp only [Nat.eq_of_beq_eq_true hb, if_true]
        exact hQ
      | false =>
        rw [hb, cond_false] at h
        simp only [Option.some.injEq, Prod.mk.injEq] at h
        obtain ⟨rfl, rfl⟩ := h
        simp only
        rw [if_neg (fun e => by rw [e, Nat.beq_refl] at hb; cases hb)]
        exact hQ
    · rename_i hne
      refine runC_ok hG c σ _ _ _ hc h ?_
      cases e with
      | norm => exact hQ
      | exit id' => exact absurd h (hne id' σ')
      | ret => exact hQ
  | .loop c, σ, e, σ', Q, hc, h, hQ => by
    simp only [codeOk] at hc
    simp only [runC] at h
    simp only [WP]
    exact ⟨n, runLoop_ok (fun σ e σ' Q h1 h2 => runC_ok hG c σ e σ' Q hc h1 h2) n σ h hQ⟩
  | .region id ops draw, σ, e, σ', Q, hc, h, hQ => by
    simp only [codeOk] at hc
    simp only [runC] at h
    simp only [WP]
    cases draw with
    | true =>
      rw [cond_true] at h
      simp only [Bool.not_true, Bool.false_or] at hc
      cases hs : startOk fi ops.toList σ with
      | false => rw [hs] at h; cases h
      | true =>
        rw [hs, cond_true] at h
        split at h
        · rename_i σ1 h1
          simp only [Option.some.injEq, Prod.mk.injEq] at h
          obtain ⟨rfl, rfl⟩ := h
          exact ⟨hc, hs, runDrawL_ok hG _ _ _ _ _ h1 hQ⟩
        · cases h
    | false =>
      rw [cond_false] at h
      split at h
      · rename_i σ1 h1
        simp only [Option.some.injEq, Prod.mk.injEq] at h
        obtain ⟨rfl, rfl⟩ := h
        exact runOps_ok hG _ _ h1 hQ
      · cases h
  | .rangeFunc .., _, _, _, _, _, h, _ => by simp [runC] at h
  | .scope _, _, _, _, _, _, h, _ => by simp [runC] at h
  | .label _, _, _, _, _, _, h, _ => by simp [runC] at h
  | .goto _, _, _, _, _, _, h, _ => by simp [runC] at h
  | .refuse _, _, _, _, _, _, h, _ => by simp [runC] at h

/-- What the machine is told of a function is so. -/
structure FnOk (P : Program) (f : FuncId) (fn : Fn) : Prop where
  ok : ∃ g : Func, P.funcs[f]? = some g ∧ g.body = some fn.body ∧ g.name ≠ "runtime.NumGoroutine" ∧ fn.fi.nt = g.ntmps ∧ g.results.toList = fn.res
  code : codeOk fn.wins fn.body = true

theorem get_filter {α : Type} (p : Nat × α → Bool) (hp : ∀ k x y, p (k, x) = p (k, y)) : ∀ (l : List (Nat × α)) (t : Nat) {x : α}, get (l.filter p) t = some x → get l t = some x
  | [], t, x, h => by simp [get] at h
  | (k, y) :: l, t, x, h => by
    rw [get_cons]
    cases hk : p (k, y) with
    | true =>
      rw [List.filter_cons_of_pos hk, get_cons] at h
      split
      · rename_i he
        rw [if_pos he] at h
        exact h
      · rename_i he
        rw [if_neg he] at h
        exact get_filter p hp l t h
    | false =>
      rw [List.filter_cons_of_neg (by simp [hk])] at h
      have := get_filter p hp l t h
      split
      · rename_i he
        subst he
        exfalso
        -- a key that is dropped is dropped wherever it stands
        have hno : ∀ l' : List (Nat × α), get (l'.filter p) k = none := fun l' => by
          induction l' with
          | nil => rfl
          | cons q l' ih =>
            obtain ⟨k', z⟩ := q
            cases hq : p (k', z) with
            | true =>
              rw [List.filter_cons_of_pos hq, get_cons, if_neg (fun e => by subst e; rw [hp k' y z, hq] at hk; cases hk)]
              exact ih
            | false => rw [List.filter_cons_of_neg (by simp [hq])]; exact ih
        rw [hno] at h
        cases h
      · exact this

theorem dropH_sub (keep : Bool) (h h' : Heap) : Sub (dropH keep h h') h' := by
  cases keep with
  | true => exact Sub.refl _
  | false => exact ⟨Nat.le_refl _, fun b x hx => get_filter (fun p => Nat.blt p.1 h.next) (fun _ _ _ => rfl) _ _ hx⟩

theorem callN_ok (hT : TtOk P X) (hF : FlatOk P X) (hm : P.follows .mixedOrders = true) {F : FuncId → Option Fn} (hfn : ∀ f fn, F f = some fn → FnOk P f fn) (loops : Nat) : ∀ n, GOk P (callN P X F loops n)
  | 0 => fun f args h v h' e => by cases e
  | n + 1 => fun f args h v h' e => by
    rw [callN] at e
    cases hf : F f with
    | none => rw [hf] at e; cases e
    | some fn =>
      rw [hf] at e
      simp only at e
      obtain ⟨⟨g, g1, g2, g3, g4, g5⟩, hcode⟩ := hfn f fn hf
      have ih := callN_ok hT hF hm hfn loops n
      have fin : ∀ ex σ, (ex = Ex.norm ∨ ex = Ex.ret) → runC P X fn.fi (callN P X F loops n) fn.wins loops fn.body ⟨argsEnv 0 args, [], h⟩ = some (ex, σ) →
          cond (Nat.ble h.next σ.h.next && Nat.ble args.length fn.fi.nt) ((resE X σ fn.res).map fun v => (v, dropH fn.keep h σ.h)) none = some (v, h') → ACall P f args h v h' := fun ex σ hex hr e => by
        cases hb : Nat.ble h.next σ.h.next && Nat.ble args.length fn.fi.nt with
        | false => rw [hb] at e; cases e
        | true =>
          rw [hb, cond_true] at e
          simp only [Bool.and_eq_true, Nat.ble_eq] at hb
          simp only [Option.map_eq_some_iff, Prod.mk.injEq] at e
          obtain ⟨v', e1, rfl, rfl⟩ := e
          refine acall (fi := fn.fi) (D := wpDraw P X fn.fi fn.wins) (X := X) hT hF (drawOk hT hF hm fn.wins) g1 g2 g3 g4 (by rw [← g4]; exact hb.2) (Nat.le_trans hb.1 (dropH_sub fn.keep h σ.h).1) ?_
          exact runC_ok ih fn.body _ ex σ _ hcode hr ⟨hex, by rw [g5]; exact e1, dropH_sub fn.keep h σ.h⟩
      split at e
      · rename_i σ hr
        exact fin _ σ (.inl rfl) hr e
      · rename_i σ hr
        exact fin _ σ (.inr rfl) hr e
      · cases e
end
end E
end Go.Proofs.Ytnfehccnofhmnaa
