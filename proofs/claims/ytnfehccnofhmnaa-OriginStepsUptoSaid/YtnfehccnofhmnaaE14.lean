/-
  An abstract machine of this place's own: a function's call. No condition.
-/
import Derived.Test.YtnfehccnofhmnaaE13
set_option linter.all false
namespace Go.Proofs.Ytnfehccnofhmnaa
open Go.RowKit
namespace E

def argsEnv : Nat → List V → List (Nat × V)
  | _, [] => []
  | k, v :: vs => (k, v) :: argsEnv (k + 1) vs

def res1 (X : Ctx) (σ : St) : ResultVar → Option V
  | .tmp t => get σ.env t
  | .cell t ty => match get σ.env t, X.tt ty with
    | some (.one c), some ti => load ti σ c
    | _, _ => none

def resL (X : Ctx) (σ : St) : List ResultVar → Option (List V)
  | [] => some []
  | r :: rs => match res1 X σ r, resL X σ rs with
    | some v, some vs => some (v :: vs)
    | _, _ => none

def V.isTup : V → Bool
  | .tup _ => true
  | _ => false

def resE (X : Ctx) (σ : St) (rs : List ResultVar) : Option V :=
  match resL X σ rs with
  | some [v] => if v.loose then some v else none
  | some vs => if vs.all (fun v => v.loose && !v.isTup) then some (.tup vs) else none
  | none => none

/-- The heap that is left has nothing that the state's has not. -/
def Sub (h' h : Heap) : Prop := h.next ≤ h'.next ∧ ∀ b x, h'.get b = some x → h.get b = some x

theorem Sub.refl (h : Heap) : Sub h h := ⟨Nat.le_refl _, fun _ _ h => h⟩

section sound
variable {P : Program} {X : Ctx} {fi : Fi} {N N' nm : Nat} {β : Pls} {μ : Fms} {nt : Nat} {σ σ' : St} {a : Act} {w : World} {v : V} {D : Nat → List Oper → St → (St → Prop) → Prop}

theorem load_ok (hT : TtOk P X) (hS : SRel N β μ nt σ a w) {t : TypeId} {ti : TI} (h1 : X.tt t = some ti) {c : C} {x : Value} (hc : CRel β μ c x) (h : load ti σ c = some v) :
    ∃ r k y, x = .pointer (some ⟨r, k, none⟩) ∧ (loadVar t ⟨r, k, none⟩).run P w = .ok y w ∧ VRel β μ v y := by
  obtain ⟨i, hi, hs, hb, hz, hu⟩ := tt_info hT h1
  simp only [load, Option.bind_eq_some_iff] at h
  obtain ⟨cs, h5, h6⟩ := h
  obtain ⟨r, k, xs, hptr, hlen, hrange, hall⟩ := lies hS h5
  have hx := hptr _ hc
  have hall' : All2 (CRel β μ) cs xs := hall.mono fun c _ y hc => hc.up (fun _ _ h => h) fun t r ht hn => by cases hn
  cases hd : isAggD ti.desc with
  | true =>
    rw [hd] at h6
    simp only [mkV, Option.some.injEq] at h6
    subst h6
    have hrow : ti.desc.isRow = true := by cases hq : ti.desc <;> simp_all [isAggD, TypeDesc.isRow]
    have := run_loadVar_mid (P := P) w r k t xs ti.desc hrange hu hrow (by rw [hi]; simp only [Option.map_some, Option.some.injEq]; rw [hs, hlen, sizeV, if_pos hd])
    exact ⟨r, k, _, hx, this, xs.toArray, rfl, by simpa using hall'⟩
  | false =>
    have h1' : sizeV ti = 1 := by simp [sizeV, hd]
    rw [h1'] at hlen
    rw [hd] at h6
    match xs, hlen, cs, hall', h6 with
    | [y], _, [c'], hall', h6 =>
      simp only [mkV, Option.some.injEq] at h6
      subst h6
      have := run_load_one (P := P) hu hd (hrange 0 y rfl)
      simp only [Nat.add_zero] at this
      exact ⟨r, k, y, hx, this, hall'.1⟩

def resSem (tmps : Array Value) : ResultVar → Sem Value
  | .tmp t => pure (tmps.getD t undef)
  | .cell p t => asAddr (tmps.getD p undef) >>= fun x => loadVar t x

theorem results_eq (fn : Func) (tmps : Array Value) : results fn tmps = (Functor.map List.toArray (fn.results.toList.mapM (resSem tmps))) >>= fun vs => pure (if h : vs.size = 1 then vs[0] else .tuple vs) := by
  unfold results
  rw [← Array.mapM_eq_mapM_toList]
  congr 1

theorem res1_ok (hT : TtOk P X) (hS : SRel N β μ nt σ a w) {r : ResultVar} (h : res1 X σ r = some v) :
    ∃ y, (resSem a.tmps r).run P w = .ok y w ∧ VRel β μ v y := by
  cases r with
  | tmp t =>
    obtain ⟨x, h1, h2⟩ := hS.env t v h
    exact ⟨x, by simp [resSem, h1], h2⟩
  | cell p t =>
    simp only [res1] at h
    split at h
    · rename_i c ti hc hti
      obtain ⟨x, h1, h2⟩ := hS.env p _ hc
      obtain ⟨r, k, y, rfl, h4, h5⟩ := load_ok (P := P) hT hS hti h2 h
      exact ⟨y, by simp [resSem, h1, asAddr, h4], h5⟩
    · cases h

theorem resL_ok (hT : TtOk P X) (hS : SRel N β μ nt σ a w) : ∀ {rs : List ResultVar} {vs : List V}, resL X σ rs = some vs →
    ∃ ys, (rs.mapM (resSem a.tmps)).run P w = .ok ys w ∧ All2 (VRel β μ) vs ys
  | [], vs, h => by simp only [resL, Option.some.injEq] at h; subst h; exact ⟨[], rfl, trivial⟩
  | r :: rs, vs, h => by
    simp only [resL] at h
    split at h
    · rename_i u us h1 h2
      simp only [Option.some.injEq] at h
      subst h
      obtain ⟨y, g1, g2⟩ := res1_ok (P := P) hT hS h1
      obtain ⟨ys, g3, g4⟩ := resL_ok hT hS h2
      refine ⟨y :: ys, ?_, g2, g4⟩
      rw [List.mapM_cons]
      simp only [Sem.run_bind, g1, Result.andThen_ok, g3]
      rfl
    · cases h

theorem resE_ok (hT : TtOk P X) (hS : SRel N β μ nt σ a w) {fn : Func} (h : resE X σ fn.results.toList = some v) : ∃ y, (results fn a.tmps).run P w = .ok y w ∧ VRel β noF v y := by
  unfold resE at h
  have fin : ∀ {vs : List V}, resL X σ fn.results.toList = some vs → ∃ ys : List Value, (results fn a.tmps).run P w = .ok (if h : ys.toArray.size = 1 then ys.toArray[0] else .tuple ys.toArray) w ∧ All2 (VRel β μ) vs ys := fun hvs => by
    obtain ⟨ys, g1, g2⟩ := resL_ok (P := P) hT hS hvs
    refine ⟨ys, ?_, g2⟩
    rw [results_eq]
    simp only [Sem.run_bind]
    have : (Functor.map List.toArray (fn.results.toList.mapM (resSem a.tmps))).run P w = .ok ys.toArray w := by
      simp [g1]
    rw [this]
    rfl
  split at h
  · rename_i u hvs
    split at h
    · rename_i hl
      simp only [Option.some.injEq] at h
      subst h
      obtain ⟨ys, g1, g2⟩ := fin hvs
      obtain ⟨y, rfl, g3⟩ := g2.one
      exact ⟨y, by simpa using g1, g3.loose hl⟩
    · cases h
  · rename_i vs hne hvs
    split at h
    · rename_i hl
      simp only [Option.some.injEq] at h
      subst h
      obtain ⟨ys, g1, g2⟩ := fin hvs
      have hlen := g2.length
      have h1 : ¬ ys.toArray.size = 1 := fun h1 => by
        simp at h1
        match vs, hlen with
        | [x], _ => exact hne x rfl
        | [], hlen => simp at hlen; omega
        | _ :: _ :: _, hlen => simp at hlen; omega
      rw [dif_neg h1] at g1
      refine ⟨_, g1, ys.toArray, rfl, ?_⟩
      refine All2.mono (R := VRel β μ) (by simpa using g2) fun u hu y hy => ?_
      have := List.all_eq_true.1 hl u hu
      simp only [Bool.and_eq_true, Bool.not_eq_true'] at this
      have hy' := hy.loose this.1
      cases u with
      | one c => exact hy'
      | agg cs => exact hy'
      | tup _ => simp [V.isTup] at this
    · cases h
  · cases h

theorem argsEnv_get : ∀ (vs : List V) (k t : Nat) {v : V}, get (argsEnv k vs) t = some v → k ≤ t ∧ vs[t - k]? = some v
  | [], k, t, v, h => by simp [argsEnv, get] at h
  | u :: vs, k, t, v, h => by
    rw [argsEnv, get_cons] at h
    split at h
    · rename_i hk
      subst hk
      simp only [Option.some.injEq] at h
      subst h
      simp
    · rename_i hk
      obtain ⟨h1, h2⟩ := argsEnv_get vs (k + 1) t h
      refine ⟨by omega, ?_⟩
      rw [show t - k = (t - (k + 1)) + 1 by omega]
      simpa using h2

/-- A call, out of what holds behind the function's code. -/
theorem acall (hT : TtOk P X) (hF : FlatOk P X) (hD : DrawOk P fi D) {f : FuncId} {fn : Func} {c : Code} (hf : P.funcs[f]? = some fn) (hb : fn.body = some c) (hn : fn.name ≠ "runtime.NumGoroutine") (hnt : fi.nt = fn.ntmps)
    {args : List V} (hargs : args.length ≤ fn.ntmps) {h h' : Heap} (hle : h.next ≤ h'.next)
    (hw : WP P X fi D c ⟨argsEnv 0 args, [], h⟩ fun e σ' => (e = .norm ∨ e = .ret) ∧ resE X σ' fn.results.toList = some v ∧ Sub h' σ'.h) : ACall P f args h v h' := by
  refine ⟨hle, ⟨fn, hf, by simp [hb], hn⟩, fun β w xs hH hxs => ?_⟩
  have hlen := hxs.length
  refine calls_of_wp hf hb ?_
  have hS : SRel h.next β noF fi.nt ⟨argsEnv 0 args, [], h⟩ { tmps := xs.toArray ++ Array.replicate (fn.ntmps - xs.toArray.size) undef, defers := [] } w := by
    refine ⟨hH, ?_, rfl, fun t u ht => ?_, fun t cs ht => by simp [get] at ht, fun t t' cs cs' r _ ht => by simp [get] at ht, fun t cs b x p ht => by simp [get] at ht⟩
    · simp
      omega
    · obtain ⟨_, h2⟩ := argsEnv_get args 0 t ht
      obtain ⟨x, h3, h4⟩ := hxs.get h2
      have hlt := (List.getElem?_eq_some_iff.1 h3).1
      refine ⟨x, ?_, h4⟩
      simp only [Nat.sub_zero] at h3 hlt
      rw [Array.getElem?_append_left (by simpa using hlt)]
      simpa using h3
  refine Go.wp_mono (WP_sound hT hF hD c _ _ β noF _ w hw hS) fun e a' w' he => ?_
  obtain ⟨ex, σ', β', μ', h1, ⟨h2, h3, h4⟩, h5, h6, h7, h8⟩ := he
  obtain ⟨y, g1, g2⟩ := resE_ok (P := P) hT h5 h3
  have fin : ∃ x β', Ending.returned y = .returned x ∧ VRel β' noF v x ∧ HRel h'.next β' h' w' ∧ Step β noF ⟨[], [], h⟩ w β' noF ⟨[], [], h'⟩ w' ∧ ∀ b, b < h.next → β' b = β b := by
    refine ⟨y, β', rfl, g2, ⟨fun b hb => h5.heap.fresh b (Nat.le_trans h4.1 hb), fun b x hx => h5.heap.blk b x (h4.2 b x hx), fun b b' x x' p p' e0 e1 e2 => h5.heap.apart b b' x x' p p' e0 (h4.2 b x e1) (h4.2 b' x' e2)⟩,
      ⟨h6.ext, h6.os, h6.tape, h6.output, h6.size, fun r hr hn => h6.fr r hr fun hm => hn ?_, fun r hm => (h6.own r ?_).imp ?_ id, fun b x p e1 e2 => h6.blks b x p (h4.2 b x e1) e2⟩, h8⟩
    · rcases hm with g | ⟨t, cs, g1, g2⟩
      · exact .inl g
      · simp [get] at g1
    · rcases hm with ⟨b, x, p, e1, e2⟩ | ⟨t, cs, g1, g2⟩
      · exact .inl ⟨b, x, p, h4.2 b x e1, e2⟩
      · simp [get] at g1
    · intro hm
      rcases hm with g | ⟨t, cs, g1, g2⟩
      · exact .inl g
      · simp [get] at g1
  cases e <;> cases ex <;> simp only [ExRel] at h1
  · exact ⟨h5.defers, y, g1, fin⟩
  · rcases h2 with h2 | h2 <;> cases h2
  · exact ⟨h5.defers, y, g1, fin⟩
end sound
end E
end Go.Proofs.Ytnfehccnofhmnaa
