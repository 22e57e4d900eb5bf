/-
  An abstract machine of this place's own: every operation at once. No condition.
-/
import Derived.Test.YtibdplfdmncgiaaMC4
import Derived.LoopN
set_option linter.all false
namespace Go.Proofs.Ytibdplfdmncgiaa
open Go.RowKit
namespace E
section ops
variable {P : Program} {X : Ctx} {fi : Fi} {N N' nm : Nat} {β : Pls} {μ : Fms} {nt : Nat} {σ σ' : St} {a : Act} {w : World} {o : Oper} {v : V}

theorem zeros_all {z : List C} (h : z.all C.ok = true) : ∀ n, (zerosC z n).all C.ok = true
  | 0 => rfl
  | n + 1 => by simp [zerosC, h, zeros_all h n]

theorem op_clear (hT : TtOk P X) (hN : N ≤ N') (hS : SRel N β μ nt σ a w) {ts : Array TypeId} {c : C} {x : Value} {vs : List V} (hvs : vs = [.one c]) (hx : CRel β μ c x)
    (h : builtinE X nm σ .clear ts.toList vs = some (v, σ')) {ty : TypeId} (hrun : ∀ y w', (Builtin.clear_ ts ty #[x]).run P w = .ok y w' → (execOp a.eval o).run P w = .ok (.value y) w') : OpOk P fi N' nm β μ nt σ a w o v σ' := by
  subst hvs
  obtain ⟨ts⟩ := ts
  cases ts with
  | nil => simp [builtinE] at h
  | cons t rest =>
    simp only [builtinE] at h
    split at h
    case h_2 => cases h
    rename_i et st b q len cap het hst
    split at h
    case h_2 => cases h
    rename_i e z sz cs hd hzc hb
    obtain ⟨i, hi, hs, hby, hz, hue, hu⟩ := elem_info hT hst (.inl hd) (elemTI_slice hst hd het)
    rw [hd] at hu
    have hx0 := hx
    obtain ⟨p, k, rc, hβ, rfl, hlc, hcr, hk, hgrow⟩ := hx
    split at h
    · rename_i hck
      simp only [Bool.and_eq_true, decide_eq_true_eq] at hck
      obtain ⟨⟨⟨hzl, hzo⟩, hlen⟩, hpos⟩ := hck
      simp only [Option.map_eq_some_iff, Prod.mk.injEq] at h
      obtain ⟨cs', hw, rfl, rfl⟩ := h
      simp only [zeroC, Option.map_eq_some_iff] at hzc
      obtain ⟨zv, hzv, rfl⟩ := hzc
      have hzs : 0 < zv.cells.size := by simp at hzl; omega
      have hall := zeros_ok (β := β) (μ := μ) zv hzs len
      have hst' : storeC σ (.ptr b q) (zerosC (zv.cells.toList.map .lit) len) = some { σ with h := σ.h.set b (.row true sz cs') } := by
        unfold storeC
        rw [if_pos (zeros_all hzo len)]
        simp only [hb, hw, Option.map_some]
      have hk' := hk (by omega)
      subst hk'
      obtain ⟨r, k, w', hxe, hrun', hS', hst, hnx⟩ := storeC_ok (P := P) hN hS (c := .ptr b q) ⟨p, hβ, rfl⟩ hall hst'
      cases hxe
      refine ⟨_, .tuple #[], w', β, μ, hrun _ _ ?_, .inl rfl, rfl, hS', hst, fun _ _ => rfl, fun _ _ => rfl, rfl⟩
      obtain ⟨len', rfl⟩ : ∃ l, len = l + 1 := ⟨len - 1, by omega⟩
      simp only [Builtin.clear_]
      simp [run_underlying hu, zeroValue, typeInfo, hi, hz, hzv, Builtin.zeroCells]
      simp at hrun'
      rw [hrun']
      rfl
    · split at h
      · rename_i hl0
        simp only [Option.some.injEq, Prod.mk.injEq] at h
        obtain ⟨rfl, rfl⟩ := h
        subst hl0
        refine OpOk.val hN hS (x := .tuple #[]) (hrun _ _ ?_) rfl
        simp only [Builtin.clear_]
        simp [run_underlying hu]
      · cases h

theorem op_call (hT : TtOk P X) (hF : FlatOk P X) (hN : N ≤ N') (hnm : nm < N') (hβ : β nm = none) (hS : SRel N β μ nt σ a w) {c : Call} (ho : o.op = .call c) (h : op P X fi nm o σ = some (v, σ')) : OpOk P fi N' nm β μ nt σ a w o v σ' := by
  simp only [op, ho] at h
  split at h
  case h_2 => cases h
  rename_i b hcal
  split at h
  case h_2 => cases h
  rename_i vs hvs
  have hargs := evs_ok hS hvs
  have hrun := run_builtinOp (P := P) (a := a) (w := w) ho hcal
  have hmap : (c.args.map a.eval).toList = c.args.toList.map a.eval := by simp
  rw [← hmap] at hargs
  have one : ∀ {y z : V} {xs : List Value}, All2 (VRel β μ) [y] xs → ∃ x, xs = [x] ∧ VRel β μ y x := fun h => h.one
  cases b <;> try (simp [builtinE] at h; done)
  case len =>
    unfold builtinE at h
    split at h <;> try cases h
    case h_1 =>
      rename_i t rest c' hts
      obtain ⟨x, hx1, hx2⟩ := hargs.one
      have harr : c.args.map a.eval = #[x] := by rw [← Array.toList_inj]; exact hx1
      refine op_len (ts := c.argTypes) (ty := o.type) hT hN hS rfl hx2 (nm := nm) (by rw [hts]; unfold builtinE; exact h) fun y w' hy => ?_
      rw [hrun, harr]
      simp [builtin, hy]
    all_goals first | (cases ‹Builtin.len = _›) | skip
  case append =>
    unfold builtinE at h
    split at h
    · cases ‹Builtin.append = _›
    · rename_i t t' s x hts
      split at h
      case isFalse => cases h
      rename_i htt
      subst htt
      split at h
      case h_2 => cases h
      rename_i ti st het hst
      split at h
      case h_2 => cases h
      rename_i e hd
      simp only [Option.map_eq_some_iff, Prod.mk.injEq] at h
      obtain ⟨p, hp, rfl, rfl⟩ := h
      match hxs : (c.args.map a.eval).toList, hargs with
      | [us, ux], hargs =>
        have harr := list2 hxs
        have hty := list2 hts
        refine op_append (by simp [makes, ho, hcal]) (ty := o.type) hT hN hnm hβ hS hst hd (elemTI_slice hst hd het) hargs.1 hargs.2.1 hp fun y w' hy => ?_
        rw [hrun, harr, hty]
        simp [builtin, hy]
    · cases ‹Builtin.append = _›
    · cases ‹Builtin.append = _›
    · cases h
  case delete =>
    unfold builtinE at h
    split at h
    · cases ‹Builtin.delete = _›
    · cases ‹Builtin.delete = _›
    · rename_i t rest m k hts
      split at h
      case h_2 => cases h
      rename_i kv hk
      simp only [Option.map_eq_some_iff, Prod.mk.injEq] at h
      obtain ⟨σ1, h1, rfl, rfl⟩ := h
      match hxs : (c.args.map a.eval).toList, hargs with
      | [um, uk], hargs =>
        have harr := list2 hxs
        have huk : uk = kv := val_ok hk hargs.2.1
        subst huk
        refine op_delete (ts := c.argTypes) (ty := o.type) hT hF hN hS (by rw [← Array.getElem?_toList, ‹c.argTypes.toList = _›]; rfl) hargs.1 h1 fun y w' hy => ?_
        rw [hrun, harr]
        simp [builtin, hy]
    · cases ‹Builtin.delete = _›
    · cases h
  case clear =>
    unfold builtinE at h
    split at h
    · cases ‹Builtin.clear = _›
    · cases ‹Builtin.clear = _›
    · cases ‹Builtin.clear = _›
    · rename_i t rest c' hts
      obtain ⟨x, hx1, hx2⟩ := hargs.one
      have harr : c.args.map a.eval = #[x] := by rw [← Array.toList_inj]; exact hx1
      refine op_clear (ts := c.argTypes) (ty := o.type) hT hN hS rfl hx2 (nm := nm) (by rw [hts]; unfold builtinE; exact h) fun y w' hy => ?_
      rw [hrun, harr]
      simp [builtin, hy]
    · cases h

theorem op_ok (hT : TtOk P X) (hF : FlatOk P X) (hN : N ≤ N') (hnm : nm < N') (hβ : β nm = none) (hS : SRel N β μ nt σ a w) (h : op P X fi nm o σ = some (v, σ')) : OpOk P fi N' nm β μ nt σ a w o v σ' := by
  cases ho : o.op with
  | move x => exact op_move hN hS (.inl ho) (by simpa only [op, ho] using h)
  | assign x => exact op_move hN hS (.inr ho) (by simpa only [op, ho] using h)
  | pick c x y => exact op_pick hN hS ho h
  | extract x i => exact op_extract hN hS ho h
  | alloc e => exact op_alloc hT hN hnm hβ hS ho h
  | box e x => exact op_box hN hnm hβ hS ho h
  | load t x => exact op_load hT hN hS ho h
  | store t x y => exact op_store hT hN hS ho h
  | nilCheck x => exact op_nilCheck hN hS ho h
  | fieldAddr t x f => exact op_fieldAddr hT hN hS ho h
  | field t x f => exact op_field hT hN hS ho h
  | indexAddr t x y => exact op_indexAddr hT hN hS ho h
  | index t x y => exact op_index hT hN hS ho h
  | slice t x lo hi mx => exact op_slice hT hN hS ho h
  | build t ps => exact op_build hT hN hS ho h
  | buildSlice t n ps => exact op_buildSlice hT hN hnm hβ hS ho h
  | makeSlice t l c => exact op_makeSlice hT hN hnm hβ hS ho h
  | makeMap t r =>
    cases r with
    | none => exact op_makeMap hN hnm hβ hS ho h
    | some r => simp [op, ho] at h
  | lookup t x y ok => exact op_lookup hT hF hN hS ho h
  | mapUpdate t m x y => exact op_mapUpdate hT hF hN hS (.inl ho) h
  | insert t m x y => exact op_mapUpdate hT hF hN hS (.inr ho) h
  | makeFunc f fs caps =>
    cases f with
    | func f => exact op_makeFunc hN hS ho h
    | _ => simp [op, ho] at h
  | binOp b t x y t' => exact op_binOp hT hF hN hS ho h
  | call c => exact op_call hT hF hN hnm hβ hS ho h
  | unOp u t x => exact op_pure hN hS (fun _ _ => by rw [ho]; exact fun h => by cases h) (by simpa only [op, ho] using h)
  | convert s t x => exact op_pure hN hS (fun _ _ => by rw [ho]; exact fun h => by cases h) (by simpa only [op, ho] using h)
  | _ => simp [op, ho] at h
end ops
end E
end Go.Proofs.Ytibdplfdmncgiaa

/-
  An abstract machine of this place's own: the code of a function, calls, regions in the text's order. No condition.
-/
namespace Go.Proofs.Ytibdplfdmncgiaa
open Go.RowKit
namespace E

inductive Ex where
  | norm
  | exit (id : Nat)
  | ret

/-- A call of a function does in every world that stands for the first heap what is said, and leaves one that stands for the second. -/
def ACall (P : Program) (f : FuncId) (args : List V) (h : Heap) (v : V) (h' : Heap) : Prop :=
  h.next ≤ h'.next ∧ (∃ fn, P.funcs[f]? = some fn ∧ fn.body.isSome = true ∧ fn.name ≠ "runtime.NumGoroutine") ∧ ∀ β w xs, HRel h.next β h w → All2 (VRel β noF) args xs →
    Calls P f xs.toArray w fun e w' => ∃ x β', e = .returned x ∧ VRel β' noF v x ∧ HRel h'.next β' h' w' ∧ Step β noF ⟨[], [], h⟩ w β' noF ⟨[], [], h'⟩ w' ∧ ∀ b, b < h.next → β' b = β b

def V.loose : V → Bool
  | .one c => match c with | .lp .. => false | _ => true
  | .agg cs => cs.all fun c => match c with | .lp .. => false | _ => true
  | .tup vs => vs.all fun v => match v with
    | .one (.lp ..) => false
    | .agg cs => cs.all fun c => match c with | .lp .. => false | _ => true
    | _ => true

section
variable (P : Program) (X : Ctx) (fi : Fi)

def wpOpsE (ops : List Oper) : List Oper → St → (St → Prop) → Prop
  | [], σ, K => K σ
  | o :: l, σ, K =>
    match wanted ops o σ with
    | some false => ∃ σ', put fi o.dst undefC σ = some σ' ∧ wpOpsE ops l σ' K
    | some true =>
      if isCall o then ∃ f args v h' σ', callee σ o = some (f, args) ∧ args.all V.loose = true ∧ ACall P f args σ.h v h' ∧ put fi o.dst v { σ with h := h' } = some σ' ∧ wpOpsE ops l σ' K
      else ∃ v σ1 σ', op P X fi σ.h.next o σ = some (v, σ1) ∧ put fi o.dst v { σ1 with h := bump fi o σ1.h } = some σ' ∧ wpOpsE ops l σ' K
    | none => False

def LoopW (f : St → (Ex → St → Prop) → Prop) : Nat → St → (Ex → St → Prop) → Prop
  | 0, _, _ => False
  | n + 1, σ, Q => f σ fun e σ' => match e with
    | .norm => LoopW f n σ' Q
    | e => Q e σ'
end

section sound
variable {P : Program} {X : Ctx} {fi : Fi} {N N' nm : Nat} {β : Pls} {μ : Fms} {nt : Nat} {σ σ' : St} {a : Act} {w : World} {o : Oper} {v : V}

theorem VRel.loose {v : V} {x : Value} (hl : v.loose = true) (hv : VRel β μ v x) : VRel β noF v x := by
  refine hv.ups (fun _ _ h => h) fun t r ht hr => ?_
  cases v with
  | one c => cases c <;> simp_all [V.loose, mentionsV, mentionsC]
  | agg cs =>
    simp only [mentionsV, List.any_eq_true] at ht
    obtain ⟨c, hc, ht⟩ := ht
    have := List.all_eq_true.1 hl c hc
    cases c <;> simp_all [mentionsC]
  | tup vs =>
    simp only [mentionsV, List.any_eq_true] at ht
    obtain ⟨u, hu, ht⟩ := ht
    have := List.all_eq_true.1 hl u hu
    cases u with
    | one c => cases c <;> simp_all [mentionsC]
    | agg cs =>
      simp only [List.any_eq_true] at ht
      obtain ⟨c, hc, ht⟩ := ht
      have h2 := List.all_eq_true.1 this c hc
      cases c <;> simp_all [mentionsC]
    | tup _ =>
      obtain ⟨l, _, hall⟩ := hv
      obtain ⟨i, hi⟩ := List.getElem?_of_mem hu
      obtain ⟨y, _, hy⟩ := hall.get hi
      exact hy.elim

/-- A slot is written. -/
theorem put_ok (hS : SRel N β μ fi.nt σ a w) {d : Option Nat} {x : Value} (hv : VRel β μ v x) (h : put fi d v σ = some σ') : SRel N β μ fi.nt σ' (a.put d x) w ∧ σ'.h = σ.h ∧ σ'.bx = σ.bx := by
  unfold put at h
  split at h
  · simp only [Option.some.injEq] at h
    subst h
    exact ⟨hS, rfl, rfl⟩
  · rename_i t
    split at h
    · rename_i hlt
      simp only [Option.some.injEq] at h
      subst h
      refine ⟨⟨hS.heap, by simp [Act.put, hS.size], hS.defers, fun u y hu => ?_, hS.box, hS.bxap, hS.hap⟩, rfl, rfl⟩
      have hu' : get ((t, v) :: σ.env) u = some y := hu
      rw [get_cons] at hu'
      by_cases h : t = u
      · subst h
        rw [if_pos rfl, Option.some.injEq] at hu'
        subst hu'
        refine ⟨x, ?_, hv⟩
        have := hS.size
        simp [Act.put, hlt, this]
      · rw [if_neg h] at hu'
        obtain ⟨z, h1, h2⟩ := hS.env u y hu'
        exact ⟨z, by simp [Act.put, Array.getElem?_setIfInBounds_ne h, h1], h2⟩
    · cases h

theorem yield_ok (hS : SRel N β μ nt σ a w) {ops : Array Oper} {b : Bool} (h : wanted ops.toList o σ = some b) : Region.wanted o (yielded ops a.tmps) = b := by
  unfold wanted at h
  unfold Region.wanted
  split at h
  · rename_i hg
    simp only [Option.some.injEq] at h
    subst h
    simp [hg]
  · rename_i j want hg
    simp only [hg]
    split at h
    · rename_i oj hj
      split at h
      · rename_i t ht
        split at h
        · rename_i q hq
          simp only [Option.some.injEq] at h
          subst h
          obtain ⟨x, h1, h2⟩ := hS.env t _ hq
          have hx : x = .bool q := h2
          subst hx
          have hj' : ops[j]? = some oj := by simpa using hj
          simp [yielded, hj', ht, h1]
        · rename_i l hq
          simp only [Option.some.injEq] at h
          subst h
          obtain ⟨x, h1, h2⟩ := hS.env t _ hq
          have hx : x = .tuple l := h2
          subst hx
          have hj' : ops[j]? = some oj := by simpa using hj
          simp [yielded, hj', ht, h1]
        · cases h
      · cases h
    · cases h

/-- What a call leaves, seen from the caller. -/
theorem call_back (hS : SRel N β μ nt σ a w) {β' : Pls} {h' : Heap} {w' : World} (hH : HRel N' β' h' w') (hst : Step β noF ⟨[], [], σ.h⟩ w β' noF ⟨[], [], h'⟩ w') :
    SRel N' β' μ nt { σ with h := h' } a w' ∧ Step β μ σ w β' μ { σ with h := h' } w' := by
  have hbox : ∀ t cs, get σ.bx t = some cs → ∃ r, μ t = some r ∧ XRel β r cs w ∧ w'.heap[r]? = w.heap[r]? := fun t cs ht => by
    obtain ⟨r, h1, h2⟩ := hS.box t cs ht
    refine ⟨r, h1, h2, hst.fr r h2.lt fun hm => ?_⟩
    rcases hm with ⟨b, x, p, g1, g2, g3, g4⟩ | ⟨u, ds, g1, g2⟩
    · exact hS.hap t cs b x p ht g1 g3 (by rw [h1, g4])
    · simp [get] at g1
  refine ⟨⟨hH, hS.size, hS.defers, fun t v ht => ?_, fun t cs ht => ?_, hS.bxap, fun t cs b x p ht hb hp he => ?_⟩, ?_⟩
  · obtain ⟨x, h1, h2⟩ := hS.env t v ht
    exact ⟨x, h1, h2.up hst.ext⟩
  · obtain ⟨r, h1, h2, h3⟩ := hbox t cs ht
    exact ⟨r, h1, h2.up hst.ext h3⟩
  · obtain ⟨r, h1, h2, h3⟩ := hbox t cs ht
    rw [h1, Option.some.injEq] at he
    rcases hst.blks b x p hb hp with ⟨b0, x0, p0, g1, g2, g3⟩ | hge
    · exact hS.hap t cs b0 x0 p0 ht g1 g2 (by rw [h1, he, g3])
    · have := h2.lt
      omega
  · refine ⟨hst.ext, hst.os, hst.tape, hst.output, hst.size, fun r hr hn => hst.fr r hr fun hm => ?_, fun r hm => ?_, fun b x p h1 h2 => hst.blks b x p h1 h2⟩
    · rcases hm with g | ⟨u, ds, g1, g2⟩
      · exact hn (.inl g)
      · simp [get] at g1
    · rcases hm with g | ⟨u, ds, g1, g2⟩
      · rcases hst.own r (.inl g) with (g | ⟨u, ds, g1, g2⟩) | hge
        · exact .inl (.inl g)
        · simp [get] at g1
        · exact .inr hge
      · exact .inl (.inr ⟨u, ds, g1, g2⟩)

theorem callee_ok (hS : SRel N β μ nt σ a w) {f : FuncId} {args : List V} (h : callee σ o = some (f, args)) (hl : args.all V.loose = true)
    (hf : ∃ fn, P.funcs[f]? = some fn ∧ fn.body.isSome = true ∧ fn.name ≠ "runtime.NumGoroutine") : ∃ xs : List Value, All2 (VRel β noF) args xs ∧ (execOp a.eval o).run P w = .ok (.enter f xs.toArray) w := by
  unfold callee at h
  split at h
  case h_2 => cases h
  rename_i c ho
  split at h
  case h_2 => cases h
  rename_i fo hc
  split at h
  case h_2 => cases h
  rename_i g caps vs hfo hvs
  simp only [Option.some.injEq, Prod.mk.injEq] at h
  obtain ⟨rfl, rfl⟩ := h
  obtain ⟨l, hfx, hcaps⟩ := ev_ok hS hfo
  have hargs := evs_ok hS hvs
  rw [List.all_append, Bool.and_eq_true] at hl
  refine ⟨c.args.toList.map a.eval ++ l.toList, ?_, ?_⟩
  · refine All2.append (hargs.mono fun u hu y hy => hy.loose (List.all_eq_true.1 hl.1 u hu)) (All2.map_left ?_)
    exact hcaps.mono fun q _ y hy => by
      obtain ⟨p, h1, h2⟩ := hy
      exact ⟨p, h1, h2⟩
  · obtain ⟨fn, hfn, hb, hnm⟩ := hf
    have hnone : fn.body.isNone = false := by cases h : fn.body <;> simp_all
    have hname : (fn.name == "runtime.NumGoroutine") = false := by simpa using hnm
    unfold execOp
    simp only [ho, resolve, hc, Sem.run_bind, hfx, Deferred.ofValue, Sem.run_pure, Result.andThen_ok, invoke, callFunc, program, Sem.run, hfn, hname, hnone, Bool.false_eq_true, if_false]
    congr 2
    apply Array.ext'
    simp
end sound
end E
end Go.Proofs.Ytibdplfdmncgiaa

/-
  An abstract machine of this place's own: what it computes of a function's code is what the model does. No condition.
-/
namespace Go.Proofs.Ytibdplfdmncgiaa
open Go.RowKit
namespace E

section
variable (P : Program) (X : Ctx) (fi : Fi) (D : Nat → List Oper → St → (St → Prop) → Prop)

/-- What holds behind a code: D: of a region that draws its order. -/
def WP : Code → St → (Ex → St → Prop) → Prop
  | .skip, σ, Q => Q .norm σ
  | .ret, σ, Q => Q .ret σ
  | .exit id, σ, Q => Q (.exit id) σ
  | .seq a b, σ, Q => WP a σ fun e σ' => match e with
    | .norm => WP b σ' Q
    | e => Q e σ'
  | .cond c a b, σ, Q => match ev σ c with
    | some (.one (.lit (.bool true))) => WP a σ Q
    | some (.one (.lit (.bool false))) => WP b σ Q
    | _ => False
  | .block id c, σ, Q => WP c σ fun e σ' => match e with
    | .exit id' => if id' = id then Q .norm σ' else Q (.exit id') σ'
    | e => Q e σ'
  | .loop c, σ, Q => ∃ n, LoopW (WP c) n σ Q
  | .region id ops draw, σ, Q => if draw then D id ops.toList σ fun σ' => Q .norm (clean fi id σ') else wpOpsE P X fi ops.toList ops.toList σ fun σ' => Q .norm (clean fi id σ')
  | _, _, _ => False
end

section sound
variable {P : Program} {X : Ctx} {fi : Fi} {D : Nat → List Oper → St → (St → Prop) → Prop}

def ExRel : Exit → Ex → Prop
  | .normal, .norm => True
  | .exit i, .exit j => i = j
  | .ret, .ret => True
  | _, _ => False

/-- What a region that draws its order has to come to. -/
def DrawOk (P : Program) (fi : Fi) (D : Nat → List Oper → St → (St → Prop) → Prop) : Prop :=
  ∀ (id : Nat) (ops : Array Oper) (σ : St) (K : St → Prop) (β : Pls) (μ : Fms) (a : Act) (w : World) (Q : Exit → Act → World → Prop), D id ops.toList σ K → SRel σ.h.next β μ fi.nt σ a w →
    (∀ σ' β' μ' a' w', K σ' → SRel σ'.h.next β' μ' fi.nt σ' a' w' → Step β μ σ w β' μ' σ' w' → σ.h.next ≤ σ'.h.next → (∀ b, b < σ.h.next → β' b = β b) → Q .normal a' w') → (Code.region id ops true).wp P Q a w

theorem wpOpsE_sound (hT : TtOk P X) (hF : FlatOk P X) {ops : Array Oper} {Q : Exit → Act → World → Prop} : ∀ (l : List Oper) (σ : St) (K : St → Prop) (β : Pls) (μ : Fms) (a : Act) (w : World), wpOpsE P X fi ops.toList l σ K → SRel σ.h.next β μ fi.nt σ a w →
    (∀ σ' β' μ' a' w', K σ' → SRel σ'.h.next β' μ' fi.nt σ' a' w' → Step β μ σ w β' μ' σ' w' → σ.h.next ≤ σ'.h.next → (∀ b, b < σ.h.next → β' b = β b) → Q .normal a' w') → wpList P ops Q l a w
  | [], σ, K, β, μ, a, w, h, hS, hQ => hQ σ β μ a w h hS (Step.refl _ _ _ _) (Nat.le_refl _) (fun _ _ => rfl)
  | o :: l, σ, K, β, μ, a, w, h, hS, hQ => by
    simp only [wpOpsE] at h
    unfold wpList
    split at h
    · rename_i hw
      obtain ⟨σ', hp, h'⟩ := h
      rw [yield_ok hS hw, if_neg (by simp)]
      obtain ⟨g1, g2, g3⟩ := put_ok hS (v := undefC) (x := undef) rfl hp
      refine wpOpsE_sound hT hF l σ' K β μ _ w h' (by rw [g2]; exact g1) fun σ2 β2 μ2 a2 w2 k1 k2 k3 k4 k5 => hQ σ2 β2 μ2 a2 w2 k1 k2 ⟨k3.ext, k3.os, k3.tape, k3.output, k3.size, fun r hr hn => k3.fr r hr fun hm => hn ?_, fun r hm => (k3.own r hm).imp ?_ id, fun b x p e1 e2 => (k3.blks b x p e1 e2).imp ?_ id⟩ (by rw [← g2]; exact k4) (by rw [← g2]; exact k5)
      · simpa only [mine, g2, g3] using hm
      · intro hm; simpa only [mine, g2, g3] using hm
      · intro hm; simpa only [g2] using hm
    · rename_i hw
      rw [yield_ok hS hw, if_pos rfl]
      refine .inl ?_
      split at h
      · obtain ⟨f, args, v, h', σ', hc, hl, hA, hp, h2⟩ := h
        obtain ⟨hnx, hfn, hcall⟩ := hA
        obtain ⟨xs, hxs, hrun⟩ := callee_ok (P := P) hS hc hl hfn
        unfold Oper.wp
        rw [hrun, Oper.upon_enter]
        refine (hcall β w xs hS.heap hxs).mono fun e w' he => ?_
        obtain ⟨x, β', rfl, hv, hH, hst, hold⟩ := he
        obtain ⟨g1, g2⟩ := call_back hS hH hst
        obtain ⟨k1, k2, k3⟩ := put_ok g1 (hv.ups (μ' := μ) (fun _ _ h => h) (fun _ _ _ h => by cases h)) hp
        refine wpOpsE_sound hT hF l σ' K β' μ _ w' h2 (by rw [k2]; exact k1) fun σ2 β2 μ2 a2 w2 m1 m2 m3 m4 m5 => hQ σ2 β2 μ2 a2 w2 m1 m2 (g2.trans ⟨m3.ext, m3.os, m3.tape, m3.output, m3.size, fun r hr hn => m3.fr r hr fun hm => hn ?_, fun r hm => (m3.own r hm).imp ?_ id, fun b x p e1 e2 => (m3.blks b x p e1 e2).imp ?_ id⟩) (Nat.le_trans hnx (by rw [k2] at m4; exact m4)) (fun b hb => (m5 b (by rw [k2]; exact Nat.lt_of_lt_of_le hb hnx)).trans (hold b hb))
        · simpa only [mine, k2, k3] using hm
        · intro hm; simpa only [mine, k2, k3] using hm
        · intro hm; simpa only [k2] using hm
      · obtain ⟨v, σ1, σ', hop, hp, h2⟩ := h
        obtain ⟨n, x, w', β', μ', hrun, hn, hv, hS1, hst, hnm, hμ, hnx⟩ := op_ok (P := P) (N' := σ.h.next + 1) (nm := σ.h.next) hT hF (Nat.le_succ _) (Nat.lt_succ_self _) (hS.heap.fresh _ (Nat.le_refl _)) hS hop
        have hS2 : SRel (bump fi o σ1.h).next β' μ' fi.nt { σ1 with h := bump fi o σ1.h } a w' := by
          have hget : ∀ b, (bump fi o σ1.h).get b = σ1.h.get b := fun b => by
            unfold bump
            cases makes fi o <;> rfl
          refine ⟨⟨fun b hb => ?_, fun b y hy => hS1.heap.blk b y (by rw [← hget]; exact hy), fun b b' y y' p p' e0 e1 e2 => hS1.heap.apart b b' y y' p p' e0 (by rw [← hget]; exact e1) (by rw [← hget]; exact e2)⟩, hS1.size, hS1.defers, hS1.env, hS1.box, hS1.bxap, fun t cs b y p e1 e2 => hS1.hap t cs b y p e1 (by rw [← hget]; exact e2)⟩
          unfold bump at hb
          cases hmk : makes fi o with
          | true =>
            rw [hmk, cond_true] at hb
            exact hS1.heap.fresh b (by simp only at hb; omega)
          | false =>
            rw [hmk, cond_false] at hb
            rw [hnm b (.inr hmk)]
            exact hS.heap.fresh b (by omega)
        obtain ⟨k1, k2, k3⟩ := put_ok hS2 hv hp
        have hbx : { σ1 with h := bump fi o σ1.h }.bx = σ1.bx := rfl
        have hget : ∀ b, σ'.h.get b = σ1.h.get b := fun b => by
          rw [k2]
          show (bump fi o σ1.h).get b = _
          unfold bump
          cases makes fi o <;> rfl
        have hmine : ∀ r, mine β' μ' σ' r → mine β' μ' σ1 r := fun r hm => by
          rcases hm with ⟨b, y, p, e1, e2, e3, e4⟩ | ⟨t, cs, e1, e2⟩
          · exact .inl ⟨b, y, p, by rw [← hget]; exact e1, e2, e3, e4⟩
          · exact .inr ⟨t, cs, by rw [k3] at e1; exact e1, e2⟩
        have hmine' : ∀ r, mine β' μ' σ1 r → mine β' μ' σ' r := fun r hm => by
          rcases hm with ⟨b, y, p, e1, e2, e3, e4⟩ | ⟨t, cs, e1, e2⟩
          · exact .inl ⟨b, y, p, by rw [hget]; exact e1, e2, e3, e4⟩
          · exact .inr ⟨t, cs, by rw [k3]; exact e1, e2⟩
        have hle : σ.h.next ≤ σ'.h.next := by
          rw [k2]
          show _ ≤ (bump fi o σ1.h).next
          unfold bump
          cases makes fi o with
          | true => show _ ≤ σ1.h.next + 1; omega
          | false => show _ ≤ σ1.h.next; omega
        have key : wpList P ops Q l (a.put o.dst x) w' := by
          refine wpOpsE_sound hT hF l σ' K β' μ' _ w' h2 (by rw [k2]; exact k1) fun σ2 β2 μ2 a2 w2 m1 m2 m3 m4 m5 => hQ σ2 β2 μ2 a2 w2 m1 m2 (hst.trans ⟨m3.ext, m3.os, m3.tape, m3.output, m3.size, fun r hr hn => m3.fr r hr fun hm => hn (hmine r hm), fun r hm => (m3.own r hm).imp (hmine r) id, fun b y p e1 e2 => (m3.blks b y p e1 e2).imp ?_ id⟩) (Nat.le_trans hle m4) (fun b hb => (m5 b (Nat.lt_of_lt_of_le hb hle)).trans (hnm b (.inl (by omega))))
          rintro ⟨b0, x0, p0, e1, e2, e3⟩
          exact ⟨b0, x0, p0, by rw [← hget]; exact e1, e2, e3⟩
        unfold Oper.wp
        rw [hrun]
        rcases hn with rfl | ⟨rfl, rfl⟩
        · exact key
        · exact key
    · exact h.elim

/-- What is forgotten behind a region. -/
theorem get_keepEnv {l : List Nat} {env : List (Nat × V)} {t : Nat} {v : V} : get (keepEnv l env) t = some v → get env t = some v := by
  induction l with
  | nil => intro h; simp [keepEnv, get] at h
  | cons u l ih =>
    intro h
    simp only [keepEnv, List.filterMap_cons] at h
    cases hu : get env u with
    | none => rw [hu] at h; exact ih h
    | some y =>
      rw [hu] at h
      simp only [Option.map_some] at h
      rw [get_cons] at h
      split at h
      · rename_i he
        subst he
        simp only [Option.some.injEq] at h
        subst h
        exact hu
      · exact ih h

theorem get_keepBx {l : List Nat} {bx : List (Nat × List C)} {t : Nat} {v : List C} : get (keepBx l bx) t = some v → get bx t = some v := by
  induction l with
  | nil => intro h; simp [keepBx, get] at h
  | cons u l ih =>
    intro h
    simp only [keepBx, List.filterMap_cons] at h
    cases hu : get bx u with
    | none => rw [hu] at h; exact ih h
    | some y =>
      rw [hu] at h
      simp only [Option.map_some] at h
      rw [get_cons] at h
      split at h
      · rename_i he
        subst he
        simp only [Option.some.injEq] at h
        subst h
        exact hu
      · exact ih h

theorem clean_ok {N : Nat} {β : Pls} {μ : Fms} {nt id : Nat} {σ : St} {a : Act} {w : World} (hS : SRel N β μ nt σ a w) : SRel N β μ nt (clean fi id σ) a w ∧ Step β μ σ w β μ (clean fi id σ) w ∧ (clean fi id σ).h = σ.h := by
  unfold clean
  split
  · rename_i l hl
    refine ⟨⟨hS.heap, hS.size, hS.defers, fun t v h => hS.env t v (get_keepEnv h), fun t cs h => hS.box t cs (get_keepBx h), fun t t' cs cs' r h0 h1 h2 => hS.bxap t t' cs cs' r h0 (get_keepBx h1) (get_keepBx h2), fun t cs b x p h1 => hS.hap t cs b x p (get_keepBx h1)⟩,
      ⟨fun _ _ h => h, rfl, rfl, rfl, Nat.le_refl _, fun _ _ _ => rfl, fun r hm => .inl ?_, fun b x p h1 h2 => .inl ⟨b, x, p, h1, h2, rfl⟩⟩, rfl⟩
    rcases hm with h | ⟨t, cs, h1, h2⟩
    · exact .inl h
    · exact .inr ⟨t, cs, get_keepBx h1, h2⟩
  · exact ⟨hS, Step.refl _ _ _ _, rfl⟩

/-- What stands behind a code, in the model. -/
def Post (fi : Fi) (β : Pls) (μ : Fms) (σ : St) (w : World) (Q : Ex → St → Prop) : Exit → Act → World → Prop := fun e a' w' =>
  ∃ ex σ' β' μ', ExRel e ex ∧ Q ex σ' ∧ SRel σ'.h.next β' μ' fi.nt σ' a' w' ∧ Step β μ σ w β' μ' σ' w' ∧ σ.h.next ≤ σ'.h.next ∧ ∀ b, b < σ.h.next → β' b = β b

theorem WP_sound (hT : TtOk P X) (hF : FlatOk P X) (hD : DrawOk P fi D) : ∀ (c : Code) (σ : St) (Q : Ex → St → Prop) (β : Pls) (μ : Fms) (a : Act) (w : World), WP P X fi D c σ Q → SRel σ.h.next β μ fi.nt σ a w → c.wp P (Post fi β μ σ w Q) a w
  | .skip, σ, Q, β, μ, a, w, h, hS => wp_skip ⟨.norm, σ, β, μ, trivial, h, hS, Step.refl _ _ _ _, Nat.le_refl _, fun _ _ => rfl⟩
  | .ret, σ, Q, β, μ, a, w, h, hS => wp_ret ⟨.ret, σ, β, μ, trivial, h, hS, Step.refl _ _ _ _, Nat.le_refl _, fun _ _ => rfl⟩
  | .exit id, σ, Q, β, μ, a, w, h, hS => wp_exit ⟨.exit id, σ, β, μ, rfl, h, hS, Step.refl _ _ _ _, Nat.le_refl _, fun _ _ => rfl⟩
  | .seq c d, σ, Q, β, μ, a, w, h, hS => by
    refine wp_seq (Go.wp_mono (WP_sound hT hF hD c σ _ β μ a w h hS) fun e a' w' he => ?_)
    obtain ⟨ex, σ', β', μ', h1, h2, h3, h4, h5, h6⟩ := he
    cases e <;> cases ex <;> simp only [ExRel] at h1
    · exact Go.wp_mono (WP_sound hT hF hD d σ' _ β' μ' a' w' h2 h3) fun e a2 w2 ⟨ex, σ2, β2, μ2, k1, k2, k3, k4, k5, k6⟩ => ⟨ex, σ2, β2, μ2, k1, k2, k3, h4.trans k4, Nat.le_trans h5 k5, fun b hb => (k6 b (Nat.lt_of_lt_of_le hb h5)).trans (h6 b hb)⟩
    · subst h1
      exact ⟨.exit _, σ', β', μ', rfl, h2, h3, h4, h5, h6⟩
    · exact ⟨.ret, σ', β', μ', trivial, h2, h3, h4, h5, h6⟩
  | .cond x c d, σ, Q, β, μ, a, w, h, hS => by
    simp only [WP] at h
    split at h
    · rename_i hx
      exact wp_cond (t := true) (ev_ok hS hx) (WP_sound hT hF hD c σ Q β μ a w h hS)
    · rename_i hx
      exact wp_cond (t := false) (ev_ok hS hx) (WP_sound hT hF hD d σ Q β μ a w h hS)
    · exact h.elim
  | .block id c, σ, Q, β, μ, a, w, h, hS => by
    refine wp_block (Go.wp_mono (WP_sound hT hF hD c σ _ β μ a w h hS) fun e a' w' he => ?_)
    obtain ⟨ex, σ', β', μ', h1, h2, h3, h4, h5, h6⟩ := he
    cases e <;> cases ex <;> simp only [ExRel] at h1
    · exact ⟨.norm, σ', β', μ', trivial, h2, h3, h4, h5, h6⟩
    · subst h1
      rename_i id'
      simp only at h2
      simp only [Exit.inBlock]
      by_cases hid : id' = id
      · rw [if_pos hid] at h2 ⊢
        exact ⟨.norm, σ', β', μ', trivial, h2, h3, h4, h5, h6⟩
      · rw [if_neg hid] at h2 ⊢
        exact ⟨.exit _, σ', β', μ', rfl, h2, h3, h4, h5, h6⟩
    · exact ⟨.ret, σ', β', μ', trivial, h2, h3, h4, h5, h6⟩
  | .loop c, σ, Q, β, μ, a, w, h, hS => by
    obtain ⟨n, h⟩ := h
    refine wp_loop_rounds n ?_
    have key : ∀ (n : Nat) (σ : St) (β1 : Pls) (μ1 : Fms) (σ1 : St) (a : Act) (w : World) (w1 : World), LoopW (WP P X fi D c) n σ1 Q → SRel σ1.h.next β1 μ1 fi.nt σ1 a w1 → Step β μ σ w β1 μ1 σ1 w1 → σ.h.next ≤ σ1.h.next → (∀ b, b < σ.h.next → β1 b = β b) →
        Code.rounds P c (Post fi β μ σ w Q) n a w1 := by
      intro n
      induction n with
      | zero => intro _ _ _ _ _ _ _ h; exact h.elim
      | succ n ih =>
        intro σ β1 μ1 σ1 a w w1 h hS1 hst hle hold
        rw [rounds_succ]
        refine Go.wp_mono (WP_sound hT hF hD c σ1 _ β1 μ1 a w1 h hS1) fun e a' w' he => ?_
        obtain ⟨ex, σ', β', μ', h1, h2, h3, h4, h5, h6⟩ := he
        cases e <;> cases ex <;> simp only [ExRel] at h1
        · exact ih σ β' μ' σ' a' w w' h2 h3 (hst.trans h4) (Nat.le_trans hle h5) (fun b hb => (h6 b (Nat.lt_of_lt_of_le hb hle)).trans (hold b hb))
        · subst h1
          exact ⟨.exit _, σ', β', μ', rfl, h2, h3, hst.trans h4, Nat.le_trans hle h5, fun b hb => (h6 b (Nat.lt_of_lt_of_le hb hle)).trans (hold b hb)⟩
        · exact ⟨.ret, σ', β', μ', trivial, h2, h3, hst.trans h4, Nat.le_trans hle h5, fun b hb => (h6 b (Nat.lt_of_lt_of_le hb hle)).trans (hold b hb)⟩
    exact key n σ β μ σ a w w h hS (Step.refl _ _ _ _) (Nat.le_refl _) (fun _ _ => rfl)
  | .region id ops draw, σ, Q, β, μ, a, w, h, hS => by
    simp only [WP] at h
    have fin : ∀ σ' β' μ' a' w', Q .norm (clean fi id σ') → SRel σ'.h.next β' μ' fi.nt σ' a' w' → Step β μ σ w β' μ' σ' w' → σ.h.next ≤ σ'.h.next → (∀ b, b < σ.h.next → β' b = β b) → Post fi β μ σ w Q .normal a' w' := fun σ' β' μ' a' w' k1 k2 k3 k4 k5 => by
      obtain ⟨g1, g2, g3⟩ := clean_ok (fi := fi) (id := id) k2
      exact ⟨.norm, _, β', μ', trivial, k1, by rw [g3]; exact g1, k3.trans g2, by rw [g3]; exact k4, k5⟩
    cases draw with
    | true => exact hD id ops σ _ β μ a w _ h hS fin
    | false => exact wp_region_list (wpOpsE_sound hT hF ops.toList σ _ β μ a w h hS fin)
  | .rangeFunc .., _, _, _, _, _, _, h, _ => h.elim
  | .scope _, _, _, _, _, _, _, h, _ => h.elim
  | .label _, _, _, _, _, _, _, h, _ => h.elim
  | .goto _, _, _, _, _, _, _, h, _ => h.elim
  | .refuse _, _, _, _, _, _, _, h, _ => h.elim
end sound
end E
end Go.Proofs.Ytibdplfdmncgiaa

/-
  An abstract machine of this place's own: a function's call. No condition.
-/
namespace Go.Proofs.Ytibdplfdmncgiaa
open Go.RowKit
namespace E

def argsEnv : Nat → List V → List (Nat × V)
  | _, [] => []
  | k, v :: vs => (k, v) :: argsEnv (k + 1) vs

def res1 (X : Ctx) (σ : St) : ResultVar → Option V
  | .tmp t => get σ.env t
  | .cell t ty => match get σ.env t, X.tt ty with
    | some (.one c), some ti => load ti σ c
    | _, _ => none

def resL (X : Ctx) (σ : St) : List ResultVar → Option (List V)
  | [] => some []
  | r :: rs => match res1 X σ r, resL X σ rs with
    | some v, some vs => some (v :: vs)
    | _, _ => none

def V.isTup : V → Bool
  | .tup _ => true
  | _ => false

def resE (X : Ctx) (σ : St) (rs : List ResultVar) : Option V :=
  match resL X σ rs with
  | some [v] => if v.loose then some v else none
  | some vs => if vs.all (fun v => v.loose && !v.isTup) then some (.tup vs) else none
  | none => none

/-- The heap that is left has nothing that the state's has not. -/
def Sub (h' h : Heap) : Prop := h.next ≤ h'.next ∧ ∀ b x, h'.get b = some x → h.get b = some x

theorem Sub.refl (h : Heap) : Sub h h := ⟨Nat.le_refl _, fun _ _ h => h⟩

section sound
variable {P : Program} {X : Ctx} {fi : Fi} {N N' nm : Nat} {β : Pls} {μ : Fms} {nt : Nat} {σ σ' : St} {a : Act} {w : World} {v : V} {D : Nat → List Oper → St → (St → Prop) → Prop}

theorem load_ok (hT : TtOk P X) (hS : SRel N β μ nt σ a w) {t : TypeId} {ti : TI} (h1 : X.tt t = some ti) {c : C} {x : Value} (hc : CRel β μ c x) (h : load ti σ c = some v) :
    ∃ r k y, x = .pointer (some ⟨r, k, none⟩) ∧ (loadVar t ⟨r, k, none⟩).run P w = .ok y w ∧ VRel β μ v y := by
  obtain ⟨i, hi, hs, hb, hz, hu⟩ := tt_info hT h1
  simp only [load, Option.bind_eq_some_iff] at h
  obtain ⟨cs, h5, h6⟩ := h
  obtain ⟨r, k, xs, hptr, hlen, hrange, hall⟩ := lies hS h5
  have hx := hptr _ hc
  have hall' : All2 (CRel β μ) cs xs := hall.mono fun c _ y hc => hc.up (fun _ _ h => h) fun t r ht hn => by cases hn
  cases hd : isAggD ti.desc with
  | true =>
    rw [hd] at h6
    simp only [mkV, Option.some.injEq] at h6
    subst h6
    have hrow : ti.desc.isRow = true := by cases hq : ti.desc <;> simp_all [isAggD, TypeDesc.isRow]
    have := run_loadVar_mid (P := P) w r k t xs ti.desc hrange hu hrow (by rw [hi]; simp only [Option.map_some, Option.some.injEq]; rw [hs, hlen, sizeV, if_pos hd])
    exact ⟨r, k, _, hx, this, xs.toArray, rfl, by simpa using hall'⟩
  | false =>
    have h1' : sizeV ti = 1 := by simp [sizeV, hd]
    rw [h1'] at hlen
    rw [hd] at h6
    match xs, hlen, cs, hall', h6 with
    | [y], _, [c'], hall', h6 =>
      simp only [mkV, Option.some.injEq] at h6
      subst h6
      have := run_load_one (P := P) hu hd (hrange 0 y rfl)
      simp only [Nat.add_zero] at this
      exact ⟨r, k, y, hx, this, hall'.1⟩

def resSem (tmps : Array Value) : ResultVar → Sem Value
  | .tmp t => pure (tmps.getD t undef)
  | .cell p t => asAddr (tmps.getD p undef) >>= fun x => loadVar t x

theorem results_eq (fn : Func) (tmps : Array Value) : results fn tmps = (Functor.map List.toArray (fn.results.toList.mapM (resSem tmps))) >>= fun vs => pure (if h : vs.size = 1 then vs[0] else .tuple vs) := by
  unfold results
  rw [← Array.mapM_eq_mapM_toList]
  congr 1

theorem res1_ok (hT : TtOk P X) (hS : SRel N β μ nt σ a w) {r : ResultVar} (h : res1 X σ r = some v) :
    ∃ y, (resSem a.tmps r).run P w = .ok y w ∧ VRel β μ v y := by
  cases r with
  | tmp t =>
    obtain ⟨x, h1, h2⟩ := hS.env t v h
    exact ⟨x, by simp [resSem, h1], h2⟩
  | cell p t =>
    simp only [res1] at h
    split at h
    · rename_i c ti hc hti
      obtain ⟨x, h1, h2⟩ := hS.env p _ hc
      obtain ⟨r, k, y, rfl, h4, h5⟩ := load_ok (P := P) hT hS hti h2 h
      exact ⟨y, by simp [resSem, h1, asAddr, h4], h5⟩
    · cases h

theorem resL_ok (hT : TtOk P X) (hS : SRel N β μ nt σ a w) : ∀ {rs : List ResultVar} {vs : List V}, resL X σ rs = some vs →
    ∃ ys, (rs.mapM (resSem a.tmps)).run P w = .ok ys w ∧ All2 (VRel β μ) vs ys
  | [], vs, h => by simp only [resL, Option.some.injEq] at h; subst h; exact ⟨[], rfl, trivial⟩
  | r :: rs, vs, h => by
    simp only [resL] at h
    split at h
    · rename_i u us h1 h2
      simp only [Option.some.injEq] at h
      subst h
      obtain ⟨y, g1, g2⟩ := res1_ok (P := P) hT hS h1
      obtain ⟨ys, g3, g4⟩ := resL_ok hT hS h2
      refine ⟨y :: ys, ?_, g2, g4⟩
      rw [List.mapM_cons]
      simp only [Sem.run_bind, g1, Result.andThen_ok, g3]
      rfl
    · cases h

theorem resE_ok (hT : TtOk P X) (hS : SRel N β μ nt σ a w) {fn : Func} (h : resE X σ fn.results.toList = some v) : ∃ y, (results fn a.tmps).run P w = .ok y w ∧ VRel β noF v y := by
  unfold resE at h
  have fin : ∀ {vs : List V}, resL X σ fn.results.toList = some vs → ∃ ys : List Value, (results fn a.tmps).run P w = .ok (if h : ys.toArray.size = 1 then ys.toArray[0] else .tuple ys.toArray) w ∧ All2 (VRel β μ) vs ys := fun hvs => by
    obtain ⟨ys, g1, g2⟩ := resL_ok (P := P) hT hS hvs
    refine ⟨ys, ?_, g2⟩
    rw [results_eq]
    simp only [Sem.run_bind]
    have : (Functor.map List.toArray (fn.results.toList.mapM (resSem a.tmps))).run P w = .ok ys.toArray w := by
      simp [g1]
    rw [this]
    rfl
  split at h
  · rename_i u hvs
    split at h
    · rename_i hl
      simp only [Option.some.injEq] at h
      subst h
      obtain ⟨ys, g1, g2⟩ := fin hvs
      obtain ⟨y, rfl, g3⟩ := g2.one
      exact ⟨y, by simpa using g1, g3.loose hl⟩
    · cases h
  · rename_i vs hne hvs
    split at h
    · rename_i hl
      simp only [Option.some.injEq] at h
      subst h
      obtain ⟨ys, g1, g2⟩ := fin hvs
      have hlen := g2.length
      have h1 : ¬ ys.toArray.size = 1 := fun h1 => by
        simp at h1
        match vs, hlen with
        | [x], _ => exact hne x rfl
        | [], hlen => simp at hlen; omega
        | _ :: _ :: _, hlen => simp at hlen; omega
      rw [dif_neg h1] at g1
      refine ⟨_, g1, ys.toArray, rfl, ?_⟩
      refine All2.mono (R := VRel β μ) (by simpa using g2) fun u hu y hy => ?_
      have := List.all_eq_true.1 hl u hu
      simp only [Bool.and_eq_true, Bool.not_eq_true'] at this
      have hy' := hy.loose this.1
      cases u with
      | one c => exact hy'
      | agg cs => exact hy'
      | tup _ => simp [V.isTup] at this
    · cases h
  · cases h

theorem argsEnv_get : ∀ (vs : List V) (k t : Nat) {v : V}, get (argsEnv k vs) t = some v → k ≤ t ∧ vs[t - k]? = some v
  | [], k, t, v, h => by simp [argsEnv, get] at h
  | u :: vs, k, t, v, h => by
    rw [argsEnv, get_cons] at h
    split at h
    · rename_i hk
      subst hk
      simp only [Option.some.injEq] at h
      subst h
      simp
    · rename_i hk
      obtain ⟨h1, h2⟩ := argsEnv_get vs (k + 1) t h
      refine ⟨by omega, ?_⟩
      rw [show t - k = (t - (k + 1)) + 1 by omega]
      simpa using h2

/-- A call, out of what holds behind the function's code. -/
theorem acall (hT : TtOk P X) (hF : FlatOk P X) (hD : DrawOk P fi D) {f : FuncId} {fn : Func} {c : Code} (hf : P.funcs[f]? = some fn) (hb : fn.body = some c) (hn : fn.name ≠ "runtime.NumGoroutine") (hnt : fi.nt = fn.ntmps)
    {args : List V} (hargs : args.length ≤ fn.ntmps) {h h' : Heap} (hle : h.next ≤ h'.next)
    (hw : WP P X fi D c ⟨argsEnv 0 args, [], h⟩ fun e σ' => (e = .norm ∨ e = .ret) ∧ resE X σ' fn.results.toList = some v ∧ Sub h' σ'.h) : ACall P f args h v h' := by
  refine ⟨hle, ⟨fn, hf, by simp [hb], hn⟩, fun β w xs hH hxs => ?_⟩
  have hlen := hxs.length
  refine calls_of_wp hf hb ?_
  have hS : SRel h.next β noF fi.nt ⟨argsEnv 0 args, [], h⟩ { tmps := xs.toArray ++ Array.replicate (fn.ntmps - xs.toArray.size) undef, defers := [] } w := by
    refine ⟨hH, ?_, rfl, fun t u ht => ?_, fun t cs ht => by simp [get] at ht, fun t t' cs cs' r _ ht => by simp [get] at ht, fun t cs b x p ht => by simp [get] at ht⟩
    · simp
      omega
    · obtain ⟨_, h2⟩ := argsEnv_get args 0 t ht
      obtain ⟨x, h3, h4⟩ := hxs.get h2
      have hlt := (List.getElem?_eq_some_iff.1 h3).1
      refine ⟨x, ?_, h4⟩
      simp only [Nat.sub_zero] at h3 hlt
      rw [Array.getElem?_append_left (by simpa using hlt)]
      simpa using h3
  refine Go.wp_mono (WP_sound hT hF hD c _ _ β noF _ w hw hS) fun e a' w' he => ?_
  obtain ⟨ex, σ', β', μ', h1, ⟨h2, h3, h4⟩, h5, h6, h7, h8⟩ := he
  obtain ⟨y, g1, g2⟩ := resE_ok (P := P) hT h5 h3
  have fin : ∃ x β', Ending.returned y = .returned x ∧ VRel β' noF v x ∧ HRel h'.next β' h' w' ∧ Step β noF ⟨[], [], h⟩ w β' noF ⟨[], [], h'⟩ w' ∧ ∀ b, b < h.next → β' b = β b := by
    refine ⟨y, β', rfl, g2, ⟨fun b hb => h5.heap.fresh b (Nat.le_trans h4.1 hb), fun b x hx => h5.heap.blk b x (h4.2 b x hx), fun b b' x x' p p' e0 e1 e2 => h5.heap.apart b b' x x' p p' e0 (h4.2 b x e1) (h4.2 b' x' e2)⟩,
      ⟨h6.ext, h6.os, h6.tape, h6.output, h6.size, fun r hr hn => h6.fr r hr fun hm => hn ?_, fun r hm => (h6.own r ?_).imp ?_ id, fun b x p e1 e2 => h6.blks b x p (h4.2 b x e1) e2⟩, h8⟩
    · rcases hm with g | ⟨t, cs, g1, g2⟩
      · exact .inl g
      · simp [get] at g1
    · rcases hm with ⟨b, x, p, e1, e2⟩ | ⟨t, cs, g1, g2⟩
      · exact .inl ⟨b, x, p, h4.2 b x e1, e2⟩
      · simp [get] at g1
    · intro hm
      rcases hm with g | ⟨t, cs, g1, g2⟩
      · exact .inl g
      · simp [get] at g1
  cases e <;> cases ex <;> simp only [ExRel] at h1
  · exact ⟨h5.defers, y, g1, fin⟩
  · rcases h2 with h2 | h2 <;> cases h2
  · exact ⟨h5.defers, y, g1, fin⟩
end sound
end E
end Go.Proofs.Ytibdplfdmncgiaa

/-
  An abstract machine of this place's own: regions that draw their order, said; a run that computes. No condition.
-/
namespace Go.Proofs.Ytibdplfdmncgiaa
open Go.RowKit
namespace E

/-! ### Kinds of operation, for an order that is drawn -/
inductive OK where
  | pure | read | alloc | chain
  deriving DecidableEq

def okind (o : Oper) : OK :=
  match o.op with
  | .load .. | .lookup .. | .slice .. => .read
  | .alloc _ | .box .. | .buildSlice .. | .makeSlice .. | .makeMap .. => .alloc
  | .store .. | .mapUpdate .. | .insert .. => .chain
  | .call c => match c.callee with
    | .builtin .len => .read
    | _ => .chain
  | _ => .pure

/-- A reading that has to come to the same at other times of the region. -/
structure Rd where
  o : Oper
  env : List (Nat × V)
  v : V
  lo : Nat
  hi : Nat

abbrev Mem := List (Nat × List C) × Heap

def winOf : List (Nat × Nat × Nat) → Nat → Option (Nat × Nat)
  | [], _ => none
  | (k, lo, hi) :: l, i => cond (Nat.beq k i) (some (lo, hi)) (winOf l i)

section
variable (P : Program) (X : Ctx) (fi : Fi)

def readAt (r : Rd) (m : Mem) : Option V := (op P X fi 0 r.o ⟨r.env, m.1, m.2⟩).map (·.1)

/-- The readings come to the same: B: the memory behind each of the chain's operations, the newest first. -/
def RdOk (B : List Mem) (r : Rd) : Prop := ∀ k m, r.lo ≤ k → k ≤ r.hi → B.reverse[k]? = some m → readAt P X fi r m = some r.v

def nmOf (fi : Fi) (o : Oper) (nm : Nat) : Nat := cond (makes fi o) (nm + 1) nm

/-- Of a region that draws: an order of its operations, and the readings that stand between others. -/
abbrev Win := List Nat × List (Nat × Nat × Nat)

def wpDrawL (ops : List Oper) (wins : List (Nat × Nat × Nat)) : List Nat → Nat → List Mem → List Rd → St → (St → Prop) → Prop
  | [], _, B, R, σ, K => (∀ r, r ∈ R → RdOk P X fi B r) ∧ K σ
  | i :: l, nm, B, R, σ, K =>
    match ops[i]? with
    | none => False
    | some o =>
      match wanted ops o σ with
      | some false => ∃ σ', put fi o.dst undefC σ = some σ' ∧ wpDrawL ops wins l (nmOf fi o nm) (if okind o = .chain then (σ.bx, σ.h) :: B else B) R σ' K
      | some true =>
        if isCall o then ∃ f args v h' σ', callee σ o = some (f, args) ∧ args.all V.loose = true ∧ ACall P f args σ.h v h' ∧ put fi o.dst v { σ with h := h' } = some σ' ∧ wpDrawL ops wins l nm ((σ.bx, h') :: B) R σ' K
        else ∃ v σ1 σ', op P X fi nm o σ = some (v, σ1) ∧ put fi o.dst v σ1 = some σ' ∧
          wpDrawL ops wins l (nmOf fi o nm) (if okind o = .chain then (σ1.bx, σ1.h) :: B else B) (match winOf wins i with | some (lo, hi) => ⟨o, σ.env, v, lo, hi⟩ :: R | none => R) σ' K
      | none => False

def countMk (fi : Fi) (ops : List Oper) : List Nat → Nat
  | [] => 0
  | i :: l => match ops[i]? with
    | some o => cond (makes fi o) (countMk fi ops l + 1) (countMk fi ops l)
    | none => countMk fi ops l

def ordOf (w : Option Win) (n : Nat) : List Nat :=
  match w with
  | some ([], _) | none => List.range n
  | some (l, _) => l

def winsOf (w : Option Win) : List (Nat × Nat × Nat) :=
  match w with
  | some (_, l) => l
  | none => []

/-! ### What an order has to keep -/
/-- An operation laid into an order: its place in the text, the mask of those ahead of it, how many of the chain may stand ahead of it at most (a reading), whether nothing may be made between. -/
structure SI where
  i : Nat
  m : Nat
  o : Oper
  hi : Nat
  tight : Bool

def siFind : List SI → Nat → Option SI
  | [], _ => none
  | s :: l, i => cond (Nat.beq s.i i) (some s) (siFind l i)

def ancOf (done : List SI) : List Edge → Option Nat
  | [] => some 0
  | e :: es => cond (Region.binds .any e)
      (match siFind done e.on, ancOf done es with
        | some s, some m => some (m ||| (s.m ||| 1 <<< e.on))
        | _, _ => none)
      (ancOf done es)

def memN (t : Nat) : List Nat → Bool
  | [] => false
  | x :: l => Nat.beq x t || memN t l

def tmpsOf : List Operand → List Nat
  | [] => []
  | .tmp t :: l => t :: tmpsOf l
  | _ :: l => tmpsOf l

/-- The slots an operation looks at. -/
def looksE (ops : List Oper) (o : Oper) : List Nat :=
  (match o.guard with
    | some (g, _) => match ops[g]? with
      | some og => match og.dst with
        | some t => [t]
        | none => []
      | none => []
    | none => []) ++ tmpsOf o.op.operands.toList

def dstIn (d : Option Nat) (l : List Nat) : Bool :=
  match d with
  | some t => memN t l
  | none => false

def dstEq : Option Nat → Option Nat → Bool
  | some a, some b => Nat.beq a b
  | _, _ => false

def apartB (ops : List Oper) (x y : Oper) : Bool := !dstIn x.dst (looksE ops y) && !dstIn y.dst (looksE ops x) && !dstEq x.dst y.dst

def OK.isChain : OK → Bool
  | .chain => true
  | _ => false
def OK.isAlloc : OK → Bool
  | .alloc => true
  | _ => false

/-- Two operations, s laid ahead of t; c: how many of the chain are laid ahead of t. -/
def pairOk (ops : List Oper) (t : SI) (c : Nat) (s : SI) : Bool :=
  (!((okind s.o).isAlloc || (okind t.o).isAlloc) || !dstEq s.o.dst t.o.dst) &&
  (Nat.testBit t.m s.i || (apartB ops s.o t.o && (match okind t.o with
    | .chain => match okind s.o with
      | .chain | .alloc => false
      | .read => Nat.blt c s.hi
      | .pure => true
    | .read => !(t.tight && (okind s.o).isAlloc)
    | _ => true)))

def chainAnc (m : Nat) : List SI → Nat
  | [] => 0
  | s :: l => cond ((okind s.o).isChain && Nat.testBit m s.i) (chainAnc m l + 1) (chainAnc m l)

/-- The bounds of a reading: of the chain's operations, how many stand ahead of it at least, at most; whether nothing may be made between. -/
def boundsOf (wins : List (Nat × Nat × Nat)) (i c : Nat) : Nat × Nat × Bool :=
  match winOf wins i with
  | some (lo, hi) => (lo, hi, false)
  | none => (c, c, true)

def readOk (o : Oper) (lo hi c n : Nat) : Bool :=
  match okind o with
  | .read => Nat.ble lo n && Nat.ble c hi
  | _ => true

def regGo (ops : List Oper) (wins : List (Nat × Nat × Nat)) : List Nat → List SI → Nat → Bool
  | [], _, _ => true
  | i :: l, done, c => match ops[i]? with
    | none => false
    | some o => match ancOf done o.after.toList with
      | none => false
      | some m => (siFind done i).isNone && done.all (pairOk ops ⟨i, m, o, (boundsOf wins i c).2.1, (boundsOf wins i c).2.2⟩ c) &&
        readOk o (boundsOf wins i c).1 (boundsOf wins i c).2.1 c (chainAnc m done) &&
        regGo ops wins l (⟨i, m, o, (boundsOf wins i c).2.1, (boundsOf wins i c).2.2⟩ :: done) (cond (okind o).isChain (c + 1) c)

def regOk (w : Option Win) (ops : List Oper) : Bool :=
  (List.range ops.length).all (fun i => memN i (ordOf w ops.length)) && Nat.ble (ordOf w ops.length).length ops.length && regGo ops (winsOf w) (ordOf w ops.length) [] 0

def boxSlot (fi : Fi) (o : Oper) : Option Nat :=
  match o.op with
  | .alloc _ | .box .. => match o.dst with
    | some t => cond (fi.prom.contains t) (some t) none
    | none => none
  | _ => none

def startOk (fi : Fi) (ops : List Oper) (σ : St) : Bool := ops.all fun o => match boxSlot fi o with
  | some t => (get σ.bx t).isNone && !(σ.env.any fun p => mentionsV t p.2)
  | none => true

/-- What holds behind a region that draws its order. -/
def wpDraw (wins : List (Nat × Win)) (id : Nat) (ops : List Oper) (σ : St) (K : St → Prop) : Prop :=
  regOk (get wins id) ops = true ∧ startOk fi ops σ = true ∧
  wpDrawL P X fi ops (winsOf (get wins id)) (ordOf (get wins id) ops.length) σ.h.next [(σ.bx, { σ.h with next := σ.h.next + countMk fi ops (ordOf (get wins id) ops.length) })] [] { σ with h := { σ.h with next := σ.h.next + countMk fi ops (ordOf (get wins id) ops.length) } } K

/-! ### A run -/
variable (Γ : FuncId → List V → Heap → Option (V × Heap))

def C.beq : C → C → Bool
  | .lit (.int j a), .lit (.int k b) => decide (j = k) && decide (a = b)
  | .lit (.bool a), .lit (.bool b) => a == b
  | .lit (.string a), .lit (.string b) => strEq a b
  | .lit (.pointer none), .lit (.pointer none) => true
  | .lit (.slice none 0 0), .lit (.slice none 0 0) => true
  | .lit (.map none), .lit (.map none) => true
  | .lit .nilFunc, .lit .nilFunc => true
  | .ptr b k, .ptr c l => Nat.beq b c && Nat.beq k l
  | .lp b k, .lp c l => Nat.beq b c && Nat.beq k l
  | .sl b k m n, .sl c l p q => Nat.beq b c && Nat.beq k l && Nat.beq m p && Nat.beq n q
  | .mp b, .mp c => Nat.beq b c
  | .fn f [], .fn g [] => Nat.beq f g
  | _, _ => false

def cellsBeq : List C → List C → Bool
  | [], [] => true
  | x :: xs, y :: ys => C.beq x y && cellsBeq xs ys
  | _, _ => false

def V.beq : V → V → Bool
  | .one a, .one b => C.beq a b
  | .agg a, .agg b => cellsBeq a b
  | _, _ => false

def runOps (ops : List Oper) : List Oper → St → Option St
  | [], σ => some σ
  | o :: l, σ =>
    match wanted ops o σ with
    | some false => match put fi o.dst undefC σ with
      | some σ' => runOps ops l σ'
      | none => none
    | some true => cond (isCall o)
      (match callee σ o with
        | some (f, args) => cond (args.all V.loose)
          (match Γ f args σ.h with
            | some (v, h') => match put fi o.dst v { σ with h := h' } with
              | some σ' => runOps ops l σ'
              | none => none
            | none => none) none
        | none => none)
      (match op P X fi σ.h.next o σ with
        | some (v, σ1) => match put fi o.dst v { σ1 with h := bump fi o σ1.h } with
          | some σ' => runOps ops l σ'
          | none => none
        | none => none)
    | none => none

def rdOkB (B : List Mem) (r : Rd) : Bool := (((B.reverse.take (r.hi + 1)).drop r.lo)).all fun m => match readAt P X fi r m with
  | some v => V.beq v r.v
  | none => false

def runDrawL (ops : List Oper) (wins : List (Nat × Nat × Nat)) : List Nat → Nat → List Mem → List Rd → St → Option St
  | [], _, B, R, σ => cond (R.all (rdOkB P X fi B)) (some σ) none
  | i :: l, nm, B, R, σ =>
    match ops[i]? with
    | none => none
    | some o =>
      match wanted ops o σ with
      | some false => match put fi o.dst undefC σ with
        | some σ' => runDrawL ops wins l (nmOf fi o nm) (if okind o = .chain then (σ.bx, σ.h) :: B else B) R σ'
        | none => none
      | some true => cond (isCall o)
        (match callee σ o with
          | some (f, args) => cond (args.all V.loose)
            (match Γ f args σ.h with
              | some (v, h') => match put fi o.dst v { σ with h := h' } with
                | some σ' => runDrawL ops wins l nm ((σ.bx, h') :: B) R σ'
                | none => none
              | none => none) none
          | none => none)
        (match op P X fi nm o σ with
          | some (v, σ1) => match put fi o.dst v σ1 with
            | some σ' => runDrawL ops wins l (nmOf fi o nm) (if okind o = .chain then (σ1.bx, σ1.h) :: B else B) (match winOf wins i with | some (lo, hi) => ⟨o, σ.env, v, lo, hi⟩ :: R | none => R) σ'
            | none => none
          | none => none)
      | none => none

def runLoop (f : St → Option (Ex × St)) : Nat → St → Option (Ex × St)
  | 0, _ => none
  | n + 1, σ => match f σ with
    | some (.norm, σ') => runLoop f n σ'
    | r => r

def runC (wins : List (Nat × Win)) (n : Nat) : Code → St → Option (Ex × St)
  | .skip, σ => some (.norm, σ)
  | .ret, σ => some (.ret, σ)
  | .exit id, σ => some (.exit id, σ)
  | .seq a b, σ => match runC wins n a σ with
    | some (.norm, σ') => runC wins n b σ'
    | r => r
  | .cond c a b, σ => match ev σ c with
    | some (.one (.lit (.bool true))) => runC wins n a σ
    | some (.one (.lit (.bool false))) => runC wins n b σ
    | _ => none
  | .block id c, σ => match runC wins n c σ with
    | some (.exit id', σ') => cond (Nat.beq id' id) (some (.norm, σ')) (some (.exit id', σ'))
    | r => r
  | .loop c, σ => runLoop (runC wins n c) n σ
  | .region id ops draw, σ => match (cond draw
      (cond (startOk fi ops.toList σ) (runDrawL P X fi Γ ops.toList (winsOf (get wins id)) (ordOf (get wins id) ops.toList.length) σ.h.next [(σ.bx, { σ.h with next := σ.h.next + countMk fi ops.toList (ordOf (get wins id) ops.toList.length) })] [] { σ with h := { σ.h with next := σ.h.next + countMk fi ops.toList (ordOf (get wins id) ops.toList.length) } }) none)
      (runOps P X fi Γ ops.toList ops.toList σ)) with
    | some σ' => some (.norm, clean fi id σ')
    | none => none
  | _, _ => none
end

/-- Every region of a code that draws its order keeps what it has to. -/
def codeOk (wins : List (Nat × Win)) : Code → Bool
  | .seq a b => codeOk wins a && codeOk wins b
  | .cond _ a b => codeOk wins a && codeOk wins b
  | .block _ c => codeOk wins c
  | .loop c => codeOk wins c
  | .region id ops draw => !draw || regOk (get wins id) ops.toList
  | _ => true

/-- What the machine is told of a function. -/
structure Fn where
  fi : Fi
  wins : List (Nat × Win)
  body : Code
  res : List ResultVar
  keep : Bool

/-- The blocks that stay: those of the caller, and, if so said, the callee's. -/
def dropH (keep : Bool) (h h' : Heap) : Heap := cond keep h' { h' with bs := h'.bs.filter fun p => Nat.blt p.1 h.next }

def callN (P : Program) (X : Ctx) (F : FuncId → Option Fn) (loops : Nat) : Nat → FuncId → List V → Heap → Option (V × Heap)
  | 0, _, _, _ => none
  | n + 1, f, args, h =>
    match F f with
    | some fn => match runC P X fn.fi (callN P X F loops n) fn.wins loops fn.body ⟨argsEnv 0 args, [], h⟩ with
      | some (.norm, σ) | some (.ret, σ) => cond (Nat.ble h.next σ.h.next && Nat.ble args.length fn.fi.nt) ((resE X σ fn.res).map fun v => (v, dropH fn.keep h σ.h)) none
      | _ => none
    | none => none
end E
end Go.Proofs.Ytibdplfdmncgiaa
