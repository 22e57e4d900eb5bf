/-
  An abstract machine of this place's own: the code of a function, calls, regions in the text's order. No condition.
-/
import Derived.Test.YtfibbhmmiemcoaaML6
import Derived.LoopN
set_option linter.all false
namespace Go.Proofs.Ytfibbhmmiemcoaa
open Go.RowKit
namespace E

inductive Ex where
  | norm
  | exit (id : Nat)
  | ret

/-- A call of a function does in every world that stands for the first heap what is said, and leaves one that stands for the second. -/
def ACall (P : Program) (f : FuncId) (args : List V) (h : Heap) (v : V) (h' : Heap) : Prop :=
  h.next ≤ h'.next ∧ (∃ fn, P.funcs[f]? = some fn ∧ fn.body.isSome = true ∧ fn.name ≠ "runtime.NumGoroutine") ∧ ∀ β w xs, HRel h.next β h w → All2 (VRel β noF) args xs →
    Calls P f xs.toArray w fun e w' => ∃ x β', e = .returned x ∧ VRel β' noF v x ∧ HRel h'.next β' h' w' ∧ Step β noF ⟨[], [], h⟩ w β' noF ⟨[], [], h'⟩ w' ∧ ∀ b, b < h.next → β' b = β b

def V.loose : V → Bool
  | .one c => match c with | .lp .. => false | _ => true
  | .agg cs => cs.all fun c => match c with | .lp .. => false | _ => true
  | .tup vs => vs.all fun v => match v with
    | .one (.lp ..) => false
    | .agg cs => cs.all fun c => match c with | .lp .. => false | _ => true
    | _ => true

section
variable (P : Program) (X : Ctx) (fi : Fi)

def wpOpsE (ops : List Oper) : List Oper → St → (St → Prop) → Prop
  | [], σ, K => K σ
  | o :: l, σ, K =>
    match wanted ops o σ with
    | some false => ∃ σ', put fi o.dst undefC σ = some σ' ∧ wpOpsE ops l σ' K
    | some true =>
      if isCall o then ∃ f args v h' σ', callee σ o = some (f, args) ∧ args.all V.loose = true ∧ ACall P f args σ.h v h' ∧ put fi o.dst v { σ with h := h' } = some σ' ∧ wpOpsE ops l σ' K
      else ∃ v σ1 σ', op P X fi σ.h.next o σ = some (v, σ1) ∧ put fi o.dst v { σ1 with h := bump fi o σ1.h } = some σ' ∧ wpOpsE ops l σ' K
    | none => False

def LoopW (f : St → (Ex → St → Prop) → Prop) : Nat → St → (Ex → St → Prop) → Prop
  | 0, _, _ => False
  | n + 1, σ, Q => f σ fun e σ' => match e with
    | .norm => LoopW f n σ' Q
    | e => Q e σ'
end

section sound
variable {P : Program} {X : Ctx} {fi : Fi} {N N' nm : Nat} {β : Pls} {μ : Fms} {nt : Nat} {σ σ' : St} {a : Act} {w : World} {o : Oper} {v : V}

theorem VRel.loose {v : V} {x : Value} (hl : v.loose = true) (hv : VRel β μ v x) : VRel β noF v x := by
  refine hv.ups (fun _ _ h => h) fun t r ht hr => ?_
  cases v with
  | one c => cases c <;> simp_all [V.loose, mentionsV, mentionsC]
  | agg cs =>
    simp only [mentionsV, List.any_eq_true] at ht
    obtain ⟨c, hc, ht⟩ := ht
    have := List.all_eq_true.1 hl c hc
    cases c <;> simp_all [mentionsC]
  | tup vs =>
    simp only [mentionsV, List.any_eq_true] at ht
    obtain ⟨u, hu, ht⟩ := ht
    have := List.all_eq_true.1 hl u hu
    cases u with
    | one c => cases c <;> simp_all [mentionsC]
    | agg cs =>
      simp only [List.any_eq_true] at ht
      obtain ⟨c, hc, ht⟩ := ht
      have h2 := List.all_eq_true.1 this c hc
      cases c <;> simp_all [mentionsC]
    | tup _ =>
      obtain ⟨l, _, hall⟩ := hv
      obtain ⟨i, hi⟩ := List.getElem?_of_mem hu
      obtain ⟨y, _, hy⟩ := hall.get hi
      exact hy.elim

/-- A slot is written. -/
theorem put_ok (hS : SRel N β μ fi.nt σ a w) {d : Option Nat} {x : Value} (hv : VRel β μ v x) (h : put fi d v σ = some σ') : SRel N β μ fi.nt σ' (a.put d x) w ∧ σ'.h = σ.h ∧ σ'.bx = σ.bx := by
  unfold put at h
  split at h
  · simp only [Option.some.injEq] at h
    subst h
    exact ⟨hS, rfl, rfl⟩
  · rename_i t
    split at h
    · rename_i hlt
      simp only [Option.some.injEq] at h
      subst h
      refine ⟨⟨hS.heap, by simp [Act.put, hS.size], hS.defers, fun u y hu => ?_, hS.box, hS.bxap, hS.hap⟩, rfl, rfl⟩
      have hu' : get ((t, v) :: σ.env) u = some y := hu
      rw [get_cons] at hu'
      by_cases h : t = u
      · subst h
        rw [if_pos rfl, Option.some.injEq] at hu'
        subst hu'
        refine ⟨x, ?_, hv⟩
        have := hS.size
        simp [Act.put, hlt, this]
      · rw [if_neg h] at hu'
        obtain ⟨z, h1, h2⟩ := hS.env u y hu'
        exact ⟨z, by simp [Act.put, Array.getElem?_setIfInBounds_ne h, h1], h2⟩
    · cases h

theorem yield_ok (hS : SRel N β μ nt σ a w) {ops : Array Oper} {b : Bool} (h : wanted ops.toList o σ = some b) : Region.wanted o (yielded ops a.tmps) = b := by
  unfold wanted at h
  unfold Region.wanted
  split at h
  · rename_i hg
    simp only [Option.some.injEq] at h
    subst h
    simp [hg]
  · rename_i j want hg
    simp only [hg]
    split at h
    · rename_i oj hj
      split at h
      · rename_i t ht
        split at h
        · rename_i q hq
          simp only [Option.some.injEq] at h
          subst h
          obtain ⟨x, h1, h2⟩ := hS.env t _ hq
          have hx : x = .bool q := h2
          subst hx
          have hj' : ops[j]? = some oj := by simpa using hj
          simp [yielded, hj', ht, h1]
        · rename_i l hq
          simp only [Option.some.injEq] at h
          subst h
          obtain ⟨x, h1, h2⟩ := hS.env t _ hq
          have hx : x = .tuple l := h2
          subst hx
          have hj' : ops[j]? = some oj := by simpa using hj
          simp [yielded, hj', ht, h1]
        · cases h
      · cases h
    · cases h

/-- What a call leaves, seen from the caller. -/
theorem call_back (hS : SRel N β μ nt σ a w) {β' : Pls} {h' : Heap} {w' : World} (hH : HRel N' β' h' w') (hst : Step β noF ⟨[], [], σ.h⟩ w β' noF ⟨[], [], h'⟩ w') :
    SRel N' β' μ nt { σ with h := h' } a w' ∧ Step β μ σ w β' μ { σ with h := h' } w' := by
  have hbox : ∀ t cs, get σ.bx t = some cs → ∃ r, μ t = some r ∧ XRel β r cs w ∧ w'.heap[r]? = w.heap[r]? := fun t cs ht => by
    obtain ⟨r, h1, h2⟩ := hS.box t cs ht
    refine ⟨r, h1, h2, hst.fr r h2.lt fun hm => ?_⟩
    rcases hm with ⟨b, x, p, g1, g2, g3, g4⟩ | ⟨u, ds, g1, g2⟩
    · exact hS.hap t cs b x p ht g1 g3 (by rw [h1, g4])
    · simp [get] at g1
  refine ⟨⟨hH, hS.size, hS.defers, fun t v ht => ?_, fun t cs ht => ?_, hS.bxap, fun t cs b x p ht hb hp he => ?_⟩, ?_⟩
  · obtain ⟨x, h1, h2⟩ := hS.env t v ht
    exact ⟨x, h1, h2.up hst.ext⟩
  · obtain ⟨r, h1, h2, h3⟩ := hbox t cs ht
    exact ⟨r, h1, h2.up hst.ext h3⟩
  · obtain ⟨r, h1, h2, h3⟩ := hbox t cs ht
    rw [h1, Option.some.injEq] at he
    rcases hst.blks b x p hb hp with ⟨b0, x0, p0, g1, g2, g3⟩ | hge
    · exact hS.hap t cs b0 x0 p0 ht g1 g2 (by rw [h1, he, g3])
    · have := h2.lt
      omega
  · refine ⟨hst.ext, hst.os, hst.tape, hst.output, hst.size, fun r hr hn => hst.fr r hr fun hm => ?_, fun r hm => ?_, fun b x p h1 h2 => hst.blks b x p h1 h2⟩
    · rcases hm with g | ⟨u, ds, g1, g2⟩
      · exact hn (.inl g)
      · simp [get] at g1
    · rcases hm with g | ⟨u, ds, g1, g2⟩
      · rcases hst.own r (.inl g) with (g | ⟨u, ds, g1, g2⟩) | hge
        · exact .inl (.inl g)
        · simp [get] at g1
        · exact .inr hge
      · exact .inl (.inr ⟨u, ds, g1, g2⟩)

theorem callee_ok (hS : SRel N β μ nt σ a w) {f : FuncId} {args : List V} (h : callee σ o = some (f, args)) (hl : args.all V.loose = true)
    (hf : ∃ fn, P.funcs[f]? = some fn ∧ fn.body.isSome = true ∧ fn.name ≠ "runtime.NumGoroutine") : ∃ xs : List Value, All2 (VRel β noF) args xs ∧ (execOp a.eval o).run P w = .ok (.enter f xs.toArray) w := by
  unfold callee at h
  split at h
  case h_2 => cases h
  rename_i c ho
  split at h
  case h_2 => cases h
  rename_i fo hc
  split at h
  case h_2 => cases h
  rename_i g caps vs hfo hvs
  simp only [Option.some.injEq, Prod.mk.injEq] at h
  obtain ⟨rfl, rfl⟩ := h
  obtain ⟨l, hfx, hcaps⟩ := ev_ok hS hfo
  have hargs := evs_ok hS hvs
  rw [List.all_append, Bool.and_eq_true] at hl
  refine ⟨c.args.toList.map a.eval ++ l.toList, ?_, ?_⟩
  · refine All2.append (hargs.mono fun u hu y hy => hy.loose (List.all_eq_true.1 hl.1 u hu)) (All2.map_left ?_)
    exact hcaps.mono fun q _ y hy => by
      obtain ⟨p, h1, h2⟩ := hy
      exact ⟨p, h1, h2⟩
  · obtain ⟨fn, hfn, hb, hnm⟩ := hf
    have hnone : fn.body.isNone = false := by cases h : fn.body <;> simp_all
    have hname : (fn.name == "runtime.NumGoroutine") = false := by simpa using hnm
    unfold execOp
    simp only [ho, resolve, hc, Sem.run_bind, hfx, Deferred.ofValue, Sem.run_pure, Result.andThen_ok, invoke, callFunc, program, Sem.run, hfn, hname, hnone, Bool.false_eq_true, if_false]
    congr 2
    apply Array.ext'
    simp
end sound
end E
end Go.Proofs.Ytfibbhmmiemcoaa

/-
  An abstract machine of this place's own: what it computes of a function's code is what the model does. No condition.
-/
namespace Go.Proofs.Ytfibbhmmiemcoaa
open Go.RowKit
namespace E

section
variable (P : Program) (X : Ctx) (fi : Fi) (D : Nat → List Oper → St → (St → Prop) → Prop)

/-- What holds behind a code: D: of a region that draws its order. -/
def WP : Code → St → (Ex → St → Prop) → Prop
  | .skip, σ, Q => Q .norm σ
  | .ret, σ, Q => Q .ret σ
  | .exit id, σ, Q => Q (.exit id) σ
  | .seq a b, σ, Q => WP a σ fun e σ' => match e with
    | .norm => WP b σ' Q
    | e => Q e σ'
  | .cond c a b, σ, Q => match ev σ c with
    | some (.one (.lit (.bool true))) => WP a σ Q
    | some (.one (.lit (.bool false))) => WP b σ Q
    | _ => False
  | .block id c, σ, Q => WP c σ fun e σ' => match e with
    | .exit id' => if id' = id then Q .norm σ' else Q (.exit id') σ'
    | e => Q e σ'
  | .loop c, σ, Q => ∃ n, LoopW (WP c) n σ Q
  | .region id ops draw, σ, Q => if draw then D id ops.toList σ fun σ' => Q .norm (clean fi id σ') else wpOpsE P X fi ops.toList ops.toList σ fun σ' => Q .norm (clean fi id σ')
  | _, _, _ => False
end

section sound
variable {P : Program} {X : Ctx} {fi : Fi} {D : Nat → List Oper → St → (St → Prop) → Prop}

def ExRel : Exit → Ex → Prop
  | .normal, .norm => True
  | .exit i, .exit j => i = j
  | .ret, .ret => True
  | _, _ => False

/-- What a region that draws its order has to come to. -/
def DrawOk (P : Program) (fi : Fi) (D : Nat → List Oper → St → (St → Prop) → Prop) : Prop :=
  ∀ (id : Nat) (ops : Array Oper) (σ : St) (K : St → Prop) (β : Pls) (μ : Fms) (a : Act) (w : World) (Q : Exit → Act → World → Prop), D id ops.toList σ K → SRel σ.h.next β μ fi.nt σ a w →
    (∀ σ' β' μ' a' w', K σ' → SRel σ'.h.next β' μ' fi.nt σ' a' w' → Step β μ σ w β' μ' σ' w' → σ.h.next ≤ σ'.h.next → (∀ b, b < σ.h.next → β' b = β b) → Q .normal a' w') → (Code.region id ops true).wp P Q a w

theorem wpOpsE_sound (hT : TtOk P X) (hF : FlatOk P X) {ops : Array Oper} {Q : Exit → Act → World → Prop} : ∀ (l : List Oper) (σ : St) (K : St → Prop) (β : Pls) (μ : Fms) (a : Act) (w : World), wpOpsE P X fi ops.toList l σ K → SRel σ.h.next β μ fi.nt σ a w →
    (∀ σ' β' μ' a' w', K σ' → SRel σ'.h.next β' μ' fi.nt σ' a' w' → Step β μ σ w β' μ' σ' w' → σ.h.next ≤ σ'.h.next → (∀ b, b < σ.h.next → β' b = β b) → Q .normal a' w') → wpList P ops Q l a w
  | [], σ, K, β, μ, a, w, h, hS, hQ => hQ σ β μ a w h hS (Step.refl _ _ _ _) (Nat.le_refl _) (fun _ _ => rfl)
  | o :: l, σ, K, β, μ, a, w, h, hS, hQ => by
    simp only [wpOpsE] at h
    unfold wpList
    split at h
    · rename_i hw
      obtain ⟨σ', hp, h'⟩ := h
      rw [yield_ok hS hw, if_neg (by simp)]
      obtain ⟨g1, g2, g3⟩ := put_ok hS (v := undefC) (x := undef) rfl hp
      refine wpOpsE_sound hT hF l σ' K β μ _ w h' (by rw [g2]; exact g1) fun σ2 β2 μ2 a2 w2 k1 k2 k3 k4 k5 => hQ σ2 β2 μ2 a2 w2 k1 k2 ⟨k3.ext, k3.os, k3.tape, k3.output, k3.size, fun r hr hn => k3.fr r hr fun hm => hn ?_, fun r hm => (k3.own r hm).imp ?_ id, fun b x p e1 e2 => (k3.blks b x p e1 e2).imp ?_ id⟩ (by rw [← g2]; exact k4) (by rw [← g2]; exact k5)
      · simpa only [mine, g2, g3] using hm
      · intro hm; simpa only [mine, g2, g3] using hm
      · intro hm; simpa only [g2] using hm
    · rename_i hw
      rw [yield_ok hS hw, if_pos rfl]
      refine .inl ?_
      split at h
      · obtain ⟨f, args, v, h', σ', hc, hl, hA, hp, h2⟩ := h
        obtain ⟨hnx, hfn, hcall⟩ := hA
        obtain ⟨xs, hxs, hrun⟩ := callee_ok (P := P) hS hc hl hfn
        unfold Oper.wp
        rw [hrun, Oper.upon_enter]
        refine (hcall β w xs hS.heap hxs).mono fun e w' he => ?_
        obtain ⟨x, β', rfl, hv, hH, hst, hold⟩ := he
        obtain ⟨g1, g2⟩ := call_back hS hH hst
        obtain ⟨k1, k2, k3⟩ := put_ok g1 (hv.ups (μ' := μ) (fun _ _ h => h) (fun _ _ _ h => by cases h)) hp
        refine wpOpsE_sound hT hF l σ' K β' μ _ w' h2 (by rw [k2]; exact k1) fun σ2 β2 μ2 a2 w2 m1 m2 m3 m4 m5 => hQ σ2 β2 μ2 a2 w2 m1 m2 (g2.trans ⟨m3.ext, m3.os, m3.tape, m3.output, m3.size, fun r hr hn => m3.fr r hr fun hm => hn ?_, fun r hm => (m3.own r hm).imp ?_ id, fun b x p e1 e2 => (m3.blks b x p e1 e2).imp ?_ id⟩) (Nat.le_trans hnx (by rw [k2] at m4; exact m4)) (fun b hb => (m5 b (by rw [k2]; exact Nat.lt_of_lt_of_le hb hnx)).trans (hold b hb))
        · simpa only [mine, k2, k3] using hm
        · intro hm; simpa only [mine, k2, k3] using hm
        · intro hm; simpa only [k2] using hm
      · obtain ⟨v, σ1, σ', hop, hp, h2⟩ := h
        obtain ⟨n, x, w', β', μ', hrun, hn, hv, hS1, hst, hnm, hμ, hnx⟩ := op_ok (P := P) (N' := σ.h.next + 1) (nm := σ.h.next) hT hF (Nat.le_succ _) (Nat.lt_succ_self _) (hS.heap.fresh _ (Nat.le_refl _)) hS hop
        have hS2 : SRel (bump fi o σ1.h).next β' μ' fi.nt { σ1 with h := bump fi o σ1.h } a w' := by
          have hget : ∀ b, (bump fi o σ1.h).get b = σ1.h.get b := fun b => by
            unfold bump
            cases makes fi o <;> rfl
          refine ⟨⟨fun b hb => ?_, fun b y hy => hS1.heap.blk b y (by rw [← hget]; exact hy), fun b b' y y' p p' e0 e1 e2 => hS1.heap.apart b b' y y' p p' e0 (by rw [← hget]; exact e1) (by rw [← hget]; exact e2)⟩, hS1.size, hS1.defers, hS1.env, hS1.box, hS1.bxap, fun t cs b y p e1 e2 => hS1.hap t cs b y p e1 (by rw [← hget]; exact e2)⟩
          unfold bump at hb
          cases hmk : makes fi o with
          | true =>
            rw [hmk, cond_true] at hb
            exact hS1.heap.fresh b (by simp only at hb; omega)
          | false =>
            rw [hmk, cond_false] at hb
            rw [hnm b (.inr hmk)]
            exact hS.heap.fresh b (by omega)
        obtain ⟨k1, k2, k3⟩ := put_ok hS2 hv hp
        have hbx : { σ1 with h := bump fi o σ1.h }.bx = σ1.bx := rfl
        have hget : ∀ b, σ'.h.get b = σ1.h.get b := fun b => by
          rw [k2]
          show (bump fi o σ1.h).get b = _
          unfold bump
          cases makes fi o <;> rfl
        have hmine : ∀ r, mine β' μ' σ' r → mine β' μ' σ1 r := fun r hm => by
          rcases hm with ⟨b, y, p, e1, e2, e3, e4⟩ | ⟨t, cs, e1, e2⟩
          · exact .inl ⟨b, y, p, by rw [← hget]; exact e1, e2, e3, e4⟩
          · exact .inr ⟨t, cs, by rw [k3] at e1; exact e1, e2⟩
        have hmine' : ∀ r, mine β' μ' σ1 r → mine β' μ' σ' r := fun r hm => by
          rcases hm with ⟨b, y, p, e1, e2, e3, e4⟩ | ⟨t, cs, e1, e2⟩
          · exact .inl ⟨b, y, p, by rw [hget]; exact e1, e2, e3, e4⟩
          · exact .inr ⟨t, cs, by rw [k3]; exact e1, e2⟩
        have hle : σ.h.next ≤ σ'.h.next := by
          rw [k2]
          show _ ≤ (bump fi o σ1.h).next
          unfold bump
          cases makes fi o with
          | true => show _ ≤ σ1.h.next + 1; omega
          | false => show _ ≤ σ1.h.next; omega
        have key : wpList P ops Q l (a.put o.dst x) w' := by
          refine wpOpsE_sound hT hF l σ' K β' μ' _ w' h2 (by rw [k2]; exact k1) fun σ2 β2 μ2 a2 w2 m1 m2 m3 m4 m5 => hQ σ2 β2 μ2 a2 w2 m1 m2 (hst.trans ⟨m3.ext, m3.os, m3.tape, m3.output, m3.size, fun r hr hn => m3.fr r hr fun hm => hn (hmine r hm), fun r hm => (m3.own r hm).imp (hmine r) id, fun b y p e1 e2 => (m3.blks b y p e1 e2).imp ?_ id⟩) (Nat.le_trans hle m4) (fun b hb => (m5 b (Nat.lt_of_lt_of_le hb hle)).trans (hnm b (.inl (by omega))))
          rintro ⟨b0, x0, p0, e1, e2, e3⟩
          exact ⟨b0, x0, p0, by rw [← hget]; exact e1, e2, e3⟩
        unfold Oper.wp
        rw [hrun]
        rcases hn with rfl | ⟨rfl, rfl⟩
        · exact key
        · exact key
    · exact h.elim

/-- What is forgotten behind a region. -/
theorem get_keepEnv {l : List Nat} {env : List (Nat × V)} {t : Nat} {v : V} : get (keepEnv l env) t = some v → get env t = some v := by
  induction l with
  | nil => intro h; simp [keepEnv, get] at h
  | cons u l ih =>
    intro h
    simp only [keepEnv, List.filterMap_cons] at h
    cases hu : get env u with
    | none => rw [hu] at h; exact ih h
    | some y =>
      rw [hu] at h
      simp only [Option.map_some] at h
      rw [get_cons] at h
      split at h
      · rename_i he
        subst he
        simp only [Option.some.injEq] at h
        subst h
        exact hu
      · exact ih h

theorem get_keepBx {l : List Nat} {bx : List (Nat × List C)} {t : Nat} {v : List C} : get (keepBx l bx) t = some v → get bx t = some v := by
  induction l with
  | nil => intro h; simp [keepBx, get] at h
  | cons u l ih =>
    intro h
    simp only [keepBx, List.filterMap_cons] at h
    cases hu : get bx u with
    | none => rw [hu] at h; exact ih h
    | some y =>
      rw [hu] at h
      simp only [Option.map_some] at h
      rw [get_cons] at h
      split at h
      · rename_i he
        subst he
        simp only [Option.some.injEq] at h
        subst h
        exact hu
      · exact ih h

theorem clean_ok {N : Nat} {β : Pls} {μ : Fms} {nt id : Nat} {σ : St} {a : Act} {w : World} (hS : SRel N β μ nt σ a w) : SRel N β μ nt (clean fi id σ) a w ∧ Step β μ σ w β μ (clean fi id σ) w ∧ (clean fi id σ).h = σ.h := by
  unfold clean
  split
  · rename_i l hl
    refine ⟨⟨hS.heap, hS.size, hS.defers, fun t v h => hS.env t v (get_keepEnv h), fun t cs h => hS.box t cs (get_keepBx h), fun t t' cs cs' r h0 h1 h2 => hS.bxap t t' cs cs' r h0 (get_keepBx h1) (get_keepBx h2), fun t cs b x p h1 => hS.hap t cs b x p (get_keepBx h1)⟩,
      ⟨fun _ _ h => h, rfl, rfl, rfl, Nat.le_refl _, fun _ _ _ => rfl, fun r hm => .inl ?_, fun b x p h1 h2 => .inl ⟨b, x, p, h1, h2, rfl⟩⟩, rfl⟩
    rcases hm with h | ⟨t, cs, h1, h2⟩
    · exact .inl h
    · exact .inr ⟨t, cs, get_keepBx h1, h2⟩
  · exact ⟨hS, Step.refl _ _ _ _, rfl⟩

/-- What stands behind a code, in the model. -/
def Post (fi : Fi) (β : Pls) (μ : Fms) (σ : St) (w : World) (Q : Ex → St → Prop) : Exit → Act → World → Prop := fun e a' w' =>
  ∃ ex σ' β' μ', ExRel e ex ∧ Q ex σ' ∧ SRel σ'.h.next β' μ' fi.nt σ' a' w' ∧ Step β μ σ w β' μ' σ' w' ∧ σ.h.next ≤ σ'.h.next ∧ ∀ b, b < σ.h.next → β' b = β b

theorem WP_sound (hT : TtOk P X) (hF : FlatOk P X) (hD : DrawOk P fi D) : ∀ (c : Code) (σ : St) (Q : Ex → St → Prop) (β : Pls) (μ : Fms) (a : Act) (w : World), WP P X fi D c σ Q → SRel σ.h.next β μ fi.nt σ a w → c.wp P (Post fi β μ σ w Q) a w
  | .skip, σ, Q, β, μ, a, w, h, hS => wp_skip ⟨.norm, σ, β, μ, trivial, h, hS, Step.refl _ _ _ _, Nat.le_refl _, fun _ _ => rfl⟩
  | .ret, σ, Q, β, μ, a, w, h, hS => wp_ret ⟨.ret, σ, β, μ, trivial, h, hS, Step.refl _ _ _ _, Nat.le_refl _, fun _ _ => rfl⟩
  | .exit id, σ, Q, β, μ, a, w, h, hS => wp_exit ⟨.exit id, σ, β, μ, rfl, h, hS, Step.refl _ _ _ _, Nat.le_refl _, fun _ _ => rfl⟩
  | .seq c d, σ, Q, β, μ, a, w, h, hS => by
    refine wp_seq (Go.wp_mono (WP_sound hT hF hD c σ _ β μ a w h hS) fun e a' w' he => ?_)
    obtain ⟨ex, σ', β', μ', h1, h2, h3, h4, h5, h6⟩ := he
    cases e <;> cases ex <;> simp only [ExRel] at h1
    · exact Go.wp_mono (WP_sound hT hF hD d σ' _ β' μ' a' w' h2 h3) fun e a2 w2 ⟨ex, σ2, β2, μ2, k1, k2, k3, k4, k5, k6⟩ => ⟨ex, σ2, β2, μ2, k1, k2, k3, h4.trans k4, Nat.le_trans h5 k5, fun b hb => (k6 b (Nat.lt_of_lt_of_le hb h5)).trans (h6 b hb)⟩
    · subst h1
      exact ⟨.exit _, σ', β', μ', rfl, h2, h3, h4, h5, h6⟩
    · exact ⟨.ret, σ', β', μ', trivial, h2, h3, h4, h5, h6⟩
  | .cond x c d, σ, Q, β, μ, a, w, h, hS => by
    simp only [WP] at h
    split at h
    · rename_i hx
      exact wp_cond (t := true) (ev_ok hS hx) (WP_sound hT hF hD c σ Q β μ a w h hS)
    · rename_i hx
      exact wp_cond (t := false) (ev_ok hS hx) (WP_sound hT hF hD d σ Q β μ a w h hS)
    · exact h.elim
  | .block id c, σ, Q, β, μ, a, w, h, hS => by
    refine wp_block (Go.wp_mono (WP_sound hT hF hD c σ _ β μ a w h hS) fun e a' w' he => ?_)
    obtain ⟨ex, σ', β', μ', h1, h2, h3, h4, h5, h6⟩ := he
    cases e <;> cases ex <;> simp only [ExRel] at h1
    · exact ⟨.norm, σ', β', μ', trivial, h2, h3, h4, h5, h6⟩
    · subst h1
      rename_i id'
      simp only at h2
      simp only [Exit.inBlock]
      by_cases hid : id' = id
      · rw [if_pos hid] at h2 ⊢
        exact ⟨.norm, σ', β', μ', trivial, h2, h3, h4, h5, h6⟩
      · rw [if_neg hid] at h2 ⊢
        exact ⟨.exit _, σ', β', μ', rfl, h2, h3, h4, h5, h6⟩
    · exact ⟨.ret, σ', β', μ', trivial, h2, h3, h4, h5, h6⟩
  | .loop c, σ, Q, β, μ, a, w, h, hS => by
    obtain ⟨n, h⟩ := h
    refine wp_loop_rounds n ?_
    have key : ∀ (n : Nat) (σ : St) (β1 : Pls) (μ1 : Fms) (σ1 : St) (a : Act) (w : World) (w1 : World), LoopW (WP P X fi D c) n σ1 Q → SRel σ1.h.next β1 μ1 fi.nt σ1 a w1 → Step β μ σ w β1 μ1 σ1 w1 → σ.h.next ≤ σ1.h.next → (∀ b, b < σ.h.next → β1 b = β b) →
        Code.rounds P c (Post fi β μ σ w Q) n a w1 := by
      intro n
      induction n with
      | zero => intro _ _ _ _ _ _ _ h; exact h.elim
      | succ n ih =>
        intro σ β1 μ1 σ1 a w w1 h hS1 hst hle hold
        rw [rounds_succ]
        refine Go.wp_mono (WP_sound hT hF hD c σ1 _ β1 μ1 a w1 h hS1) fun e a' w' he => ?_
        obtain ⟨ex, σ', β', μ', h1, h2, h3, h4, h5, h6⟩ := he
        cases e <;> cases ex <;> simp only [ExRel] at h1
        · exact ih σ β' μ' σ' a' w w' h2 h3 (hst.trans h4) (Nat.le_trans hle h5) (fun b hb => (h6 b (Nat.lt_of_lt_of_le hb hle)).trans (hold b hb))
        · subst h1
          exact ⟨.exit _, σ', β', μ', rfl, h2, h3, hst.trans h4, Nat.le_trans hle h5, fun b hb => (h6 b (Nat.lt_of_lt_of_le hb hle)).trans (hold b hb)⟩
        · exact ⟨.ret, σ', β', μ', trivial, h2, h3, hst.trans h4, Nat.le_trans hle h5, fun b hb => (h6 b (Nat.lt_of_lt_of_le hb hle)).trans (hold b hb)⟩
    exact key n σ β μ σ a w w h hS (Step.refl _ _ _ _) (Nat.le_refl _) (fun _ _ => rfl)
  | .region id ops draw, σ, Q, β, μ, a, w, h, hS => by
    simp only [WP] at h
    have fin : ∀ σ' β' μ' a' w', Q .norm (clean fi id σ') → SRel σ'.h.next β' μ' fi.nt σ' a' w' → Step β μ σ w β' μ' σ' w' → σ.h.next ≤ σ'.h.next → (∀ b, b < σ.h.next → β' b = β b) → Post fi β μ σ w Q .normal a' w' := fun σ' β' μ' a' w' k1 k2 k3 k4 k5 => by
      obtain ⟨g1, g2, g3⟩ := clean_ok (fi := fi) (id := id) k2
      exact ⟨.norm, _, β', μ', trivial, k1, by rw [g3]; exact g1, k3.trans g2, by rw [g3]; exact k4, k5⟩
    cases draw with
    | true => exact hD id ops σ _ β μ a w _ h hS fin
    | false => exact wp_region_list (wpOpsE_sound hT hF ops.toList σ _ β μ a w h hS fin)
  | .rangeFunc .., _, _, _, _, _, _, h, _ => h.elim
  | .scope _, _, _, _, _, _, _, h, _ => h.elim
  | .label _, _, _, _, _, _, _, h, _ => h.elim
  | .goto _, _, _, _, _, _, _, h, _ => h.elim
  | .refuse _, _, _, _, _, _, _, h, _ => h.elim
end sound
end E
end Go.Proofs.Ytfibbhmmiemcoaa

/-
  An abstract machine of this place's own: a function's call. No condition.
-/
namespace Go.Proofs.Ytfibbhmmiemcoaa
open Go.RowKit
namespace E

def argsEnv : Nat → List V → List (Nat × V)
  | _, [] => []
  | k, v :: vs => (k, v) :: argsEnv (k + 1) vs

def res1 (X : Ctx) (σ : St) : ResultVar → Option V
  | .tmp t => get σ.env t
  | .cell t ty => match get σ.env t, X.tt ty with
    | some (.one c), some ti => load ti σ c
    | _, _ => none

def resL (X : Ctx) (σ : St) : List ResultVar → Option (List V)
  | [] => some []
  | r :: rs => match res1 X σ r, resL X σ rs with
    | some v, some vs => some (v :: vs)
    | _, _ => none

def V.isTup : V → Bool
  | .tup _ => true
  | _ => false

def resE (X : Ctx) (σ : St) (rs : List ResultVar) : Option V :=
  match resL X σ rs with
  | some [v] => if v.loose then some v else none
  | some vs => if vs.all (fun v => v.loose && !v.isTup) then some (.tup vs) else none
  | none => none

/-- The heap that is left has nothing that the state's has not. -/
def Sub (h' h : Heap) : Prop := h.next ≤ h'.next ∧ ∀ b x, h'.get b = some x → h.get b = some x

theorem Sub.refl (h : Heap) : Sub h h := ⟨Nat.le_refl _, fun _ _ h => h⟩

section sound
variable {P : Program} {X : Ctx} {fi : Fi} {N N' nm : Nat} {β : Pls} {μ : Fms} {nt : Nat} {σ σ' : St} {a : Act} {w : World} {v : V} {D : Nat → List Oper → St → (St → Prop) → Prop}

theorem load_ok (hT : TtOk P X) (hS : SRel N β μ nt σ a w) {t : TypeId} {ti : TI} (h1 : X.tt t = some ti) {c : C} {x : Value} (hc : CRel β μ c x) (h : load ti σ c = some v) :
    ∃ r k y, x = .pointer (some ⟨r, k, none⟩) ∧ (loadVar t ⟨r, k, none⟩).run P w = .ok y w ∧ VRel β μ v y := by
  obtain ⟨i, hi, hs, hb, hz, hu⟩ := tt_info hT h1
  simp only [load, Option.bind_eq_some_iff] at h
  obtain ⟨cs, h5, h6⟩ := h
  obtain ⟨r, k, xs, hptr, hlen, hrange, hall⟩ := lies hS h5
  have hx := hptr _ hc
  have hall' : All2 (CRel β μ) cs xs := hall.mono fun c _ y hc => hc.up (fun _ _ h => h) fun t r ht hn => by cases hn
  cases hd : isAggD ti.desc with
  | true =>
    rw [hd] at h6
    simp only [mkV, Option.some.injEq] at h6
    subst h6
    have hrow : ti.desc.isRow = true := by cases hq : ti.desc <;> simp_all [isAggD, TypeDesc.isRow]
    have := run_loadVar_mid (P := P) w r k t xs ti.desc hrange hu hrow (by rw [hi]; simp only [Option.map_some, Option.some.injEq]; rw [hs, hlen, sizeV, if_pos hd])
    exact ⟨r, k, _, hx, this, xs.toArray, rfl, by simpa using hall'⟩
  | false =>
    have h1' : sizeV ti = 1 := by simp [sizeV, hd]
    rw [h1'] at hlen
    rw [hd] at h6
    match xs, hlen, cs, hall', h6 with
    | [y], _, [c'], hall', h6 =>
      simp only [mkV, Option.some.injEq] at h6
      subst h6
      have := run_load_one (P := P) hu hd (hrange 0 y rfl)
      simp only [Nat.add_zero] at this
      exact ⟨r, k, y, hx, this, hall'.1⟩

def resSem (tmps : Array Value) : ResultVar → Sem Value
  | .tmp t => pure (tmps.getD t undef)
  | .cell p t => asAddr (tmps.getD p undef) >>= fun x => loadVar t x

theorem results_eq (fn : Func) (tmps : Array Value) : results fn tmps = (Functor.map List.toArray (fn.results.toList.mapM (resSem tmps))) >>= fun vs => pure (if h : vs.size = 1 then vs[0] else .tuple vs) := by
  unfold results
  rw [← Array.mapM_eq_mapM_toList]
  congr 1

theorem res1_ok (hT : TtOk P X) (hS : SRel N β μ nt σ a w) {r : ResultVar} (h : res1 X σ r = some v) :
    ∃ y, (resSem a.tmps r).run P w = .ok y w ∧ VRel β μ v y := by
  cases r with
  | tmp t =>
    obtain ⟨x, h1, h2⟩ := hS.env t v h
    exact ⟨x, by simp [resSem, h1], h2⟩
  | cell p t =>
    simp only [res1] at h
    split at h
    · rename_i c ti hc hti
      obtain ⟨x, h1, h2⟩ := hS.env p _ hc
      obtain ⟨r, k, y, rfl, h4, h5⟩ := load_ok (P := P) hT hS hti h2 h
      exact ⟨y, by simp [resSem, h1, asAddr, h4], h5⟩
    · cases h

theorem resL_ok (hT : TtOk P X) (hS : SRel N β μ nt σ a w) : ∀ {rs : List ResultVar} {vs : List V}, resL X σ rs = some vs →
    ∃ ys, (rs.mapM (resSem a.tmps)).run P w = .ok ys w ∧ All2 (VRel β μ) vs ys
  | [], vs, h => by simp only [resL, Option.some.injEq] at h; subst h; exact ⟨[], rfl, trivial⟩
  | r :: rs, vs, h => by
    simp only [resL] at h
    split at h
    · rename_i u us h1 h2
      simp only [Option.some.injEq] at h
      subst h
      obtain ⟨y, g1, g2⟩ := res1_ok (P := P) hT hS h1
      obtain ⟨ys, g3, g4⟩ := resL_ok hT hS h2
      refine ⟨y :: ys, ?_, g2, g4⟩
      rw [List.mapM_cons]
      simp only [Sem.run_bind, g1, Result.andThen_ok, g3]
      rfl
    · cases h

theorem resE_ok (hT : TtOk P X) (hS : SRel N β μ nt σ a w) {fn : Func} (h : resE X σ fn.results.toList = some v) : ∃ y, (results fn a.tmps).run P w = .ok y w ∧ VRel β noF v y := by
  unfold resE at h
  have fin : ∀ {vs : List V}, resL X σ fn.results.toList = some vs → ∃ ys : List Value, (results fn a.tmps).run P w = .ok (if h : ys.toArray.size = 1 then ys.toArray[0] else .tuple ys.toArray) w ∧ All2 (VRel β μ) vs ys := fun hvs => by
    obtain ⟨ys, g1, g2⟩ := resL_ok (P := P) hT hS hvs
    refine ⟨ys, ?_, g2⟩
    rw [results_eq]
    simp only [Sem.run_bind]
    have : (Functor.map List.toArray (fn.results.toList.mapM (resSem a.tmps))).run P w = .ok ys.toArray w := by
      simp [g1]
    rw [this]
    rfl
  split at h
  · rename_i u hvs
    split at h
    · rename_i hl
      simp only [Option.some.injEq] at h
      subst h
      obtain ⟨ys, g1, g2⟩ := fin hvs
      obtain ⟨y, rfl, g3⟩ := g2.one
      exact ⟨y, by simpa using g1, g3.loose hl⟩
    · cases h
  · rename_i vs hne hvs
    split at h
    · rename_i hl
      simp only [Option.some.injEq] at h
      subst h
      obtain ⟨ys, g1, g2⟩ := fin hvs
      have hlen := g2.length
      have h1 : ¬ ys.toArray.size = 1 := fun h1 => by
        simp at h1
        match vs, hlen with
        | [x], _ => exact hne x rfl
        | [], hlen => simp at hlen; omega
        | _ :: _ :: _, hlen => simp at hlen; omega
      rw [dif_neg h1] at g1
      refine ⟨_, g1, ys.toArray, rfl, ?_⟩
      refine All2.mono (R := VRel β μ) (by simpa using g2) fun u hu y hy => ?_
      have := List.all_eq_true.1 hl u hu
      simp only [Bool.and_eq_true, Bool.not_eq_true'] at this
      have hy' := hy.loose this.1
      cases u with
      | one c => exact hy'
      | agg cs => exact hy'
      | tup _ => simp [V.isTup] at this
    · cases h
  · cases h

theorem argsEnv_get : ∀ (vs : List V) (k t : Nat) {v : V}, get (argsEnv k vs) t = some v → k ≤ t ∧ vs[t - k]? = some v
  | [], k, t, v, h => by simp [argsEnv, get] at h
  | u :: vs, k, t, v, h => by
    rw [argsEnv, get_cons] at h
    split at h
    · rename_i hk
      subst hk
      simp only [Option.some.injEq] at h
      subst h
      simp
    · rename_i hk
      obtain ⟨h1, h2⟩ := argsEnv_get vs (k + 1) t h
      refine ⟨by omega, ?_⟩
      rw [show t - k = (t - (k + 1)) + 1 by omega]
      simpa using h2

/-- A call, out of what holds behind the function's code. -/
theorem acall (hT : TtOk P X) (hF : FlatOk P X) (hD : DrawOk P fi D) {f : FuncId} {fn : Func} {c : Code} (hf : P.funcs[f]? = some fn) (hb : fn.body = some c) (hn : fn.name ≠ "runtime.NumGoroutine") (hnt : fi.nt = fn.ntmps)
    {args : List V} (hargs : args.length ≤ fn.ntmps) {h h' : Heap} (hle : h.next ≤ h'.next)
    (hw : WP P X fi D c ⟨argsEnv 0 args, [], h⟩ fun e σ' => (e = .norm ∨ e = .ret) ∧ resE X σ' fn.results.toList = some v ∧ Sub h' σ'.h) : ACall P f args h v h' := by
  refine ⟨hle, ⟨fn, hf, by simp [hb], hn⟩, fun β w xs hH hxs => ?_⟩
  have hlen := hxs.length
  refine calls_of_wp hf hb ?_
  have hS : SRel h.next β noF fi.nt ⟨argsEnv 0 args, [], h⟩ { tmps := xs.toArray ++ Array.replicate (fn.ntmps - xs.toArray.size) undef, defers := [] } w := by
    refine ⟨hH, ?_, rfl, fun t u ht => ?_, fun t cs ht => by simp [get] at ht, fun t t' cs cs' r _ ht => by simp [get] at ht, fun t cs b x p ht => by simp [get] at ht⟩
    · simp
      omega
    · obtain ⟨_, h2⟩ := argsEnv_get args 0 t ht
      obtain ⟨x, h3, h4⟩ := hxs.get h2
      have hlt := (List.getElem?_eq_some_iff.1 h3).1
      refine ⟨x, ?_, h4⟩
      simp only [Nat.sub_zero] at h3 hlt
      rw [Array.getElem?_append_left (by simpa using hlt)]
      simpa using h3
  refine Go.wp_mono (WP_sound hT hF hD c _ _ β noF _ w hw hS) fun e a' w' he => ?_
  obtain ⟨ex, σ', β', μ', h1, ⟨h2, h3, h4⟩, h5, h6, h7, h8⟩ := he
  obtain ⟨y, g1, g2⟩ := resE_ok (P := P) hT h5 h3
  have fin : ∃ x β', Ending.returned y = .returned x ∧ VRel β' noF v x ∧ HRel h'.next β' h' w' ∧ Step β noF ⟨[], [], h⟩ w β' noF ⟨[], [], h'⟩ w' ∧ ∀ b, b < h.next → β' b = β b := by
    refine ⟨y, β', rfl, g2, ⟨fun b hb => h5.heap.fresh b (Nat.le_trans h4.1 hb), fun b x hx => h5.heap.blk b x (h4.2 b x hx), fun b b' x x' p p' e0 e1 e2 => h5.heap.apart b b' x x' p p' e0 (h4.2 b x e1) (h4.2 b' x' e2)⟩,
      ⟨h6.ext, h6.os, h6.tape, h6.output, h6.size, fun r hr hn => h6.fr r hr fun hm => hn ?_, fun r hm => (h6.own r ?_).imp ?_ id, fun b x p e1 e2 => h6.blks b x p (h4.2 b x e1) e2⟩, h8⟩
    · rcases hm with g | ⟨t, cs, g1, g2⟩
      · exact .inl g
      · simp [get] at g1
    · rcases hm with ⟨b, x, p, e1, e2⟩ | ⟨t, cs, g1, g2⟩
      · exact .inl ⟨b, x, p, h4.2 b x e1, e2⟩
      · simp [get] at g1
    · intro hm
      rcases hm with g | ⟨t, cs, g1, g2⟩
      · exact .inl g
      · simp [get] at g1
  cases e <;> cases ex <;> simp only [ExRel] at h1
  · exact ⟨h5.defers, y, g1, fin⟩
  · rcases h2 with h2 | h2 <;> cases h2
  · exact ⟨h5.defers, y, g1, fin⟩
end sound
end E
end Go.Proofs.Ytfibbhmmiemcoaa
