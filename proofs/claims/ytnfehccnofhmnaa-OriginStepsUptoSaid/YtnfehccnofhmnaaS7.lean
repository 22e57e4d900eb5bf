/-
  Symbols in the abstract machine: a run that forks is one of the runs, whatever the symbols stand for. No condition.
-/
import Derived.Test.YtnfehccnofhmnaaS6
set_option linter.all false
namespace Go.Proofs.Ytnfehccnofhmnaa
namespace E

def memDen (ρ : Env) (m : Mem) : Mem := (bxDen ρ m.1, m.2.den ρ)
def Rd.den (ρ : Env) (r : Rd) : Rd := ⟨r.o, envDen ρ r.env, r.v.den ρ, r.lo, r.hi⟩

section
variable {ρ : Env} {P : Program} {X : Ctx} {fi : Fi} {σ σ' : St} {o : Oper} {K : Know}

theorem beq_plain {v : Value} (h : Value.plain v = true) : C.beq (.lit v) (.lit v) = true := by
  cases v <;> first | (cases h; done) | skip
  · simp [C.beq]
  · simp [C.beq]
  · simp [C.beq, strEq_iff]

theorem beq_free {x y : C} (h : C.beq x y = true) : x.free = true := by
  unfold C.beq at h
  split at h <;> first | rfl | cases h

theorem beqS_ok {x y : C} (h : C.beqS x y = true) : C.beq (x.den ρ) (y.den ρ) = true := by
  unfold C.beqS at h
  split at h
  · have := symB_eq _ h
    rw [this]
    exact beq_plain (den_sym rfl)
  · have he := C.beq_eq h
    have hf := beq_free h
    subst he
    rw [C.den_free hf]
    exact h

theorem cellsBeqS_ok : ∀ {xs ys : List C}, cellsBeqS xs ys = true → cellsBeq (xs.map (C.den ρ)) (ys.map (C.den ρ)) = true
  | [], [], _ => rfl
  | x :: xs, y :: ys, h => by
    simp only [cellsBeqS, Bool.and_eq_true] at h
    simp only [List.map_cons, cellsBeq, beqS_ok h.1, cellsBeqS_ok h.2, Bool.and_true]
  | [], _ :: _, h => by cases h
  | _ :: _, [], h => by cases h

theorem vbeqS_ok {x y : V} (h : V.beqS x y = true) : V.beq (x.den ρ) (y.den ρ) = true := by
  unfold V.beqS at h
  split at h
  · exact beqS_ok h
  · exact cellsBeqS_ok h
  · cases h

theorem readAtS_ok (hZ : ZFree X) {r : Rd} (hc : operOk r.o = true) {m : Mem} {v : V} (h : readAtS P X fi r m = some v) : readAt P X fi (r.den ρ) (memDen ρ m) = some (v.den ρ) := by
  have hop : ∃ σ', op P X fi 0 r.o (⟨envDen ρ r.env, bxDen ρ m.1, m.2.den ρ⟩ : St) = some (v.den ρ, σ') := by
    unfold readAtS at h
    split at h
    · rename_i p hp
      cases h
      exact ⟨_, natW_ok hZ hc hp⟩
    · rename_i hn
      split at h
      · rename_i p hp
        simp only [Option.some.injEq] at h
        have := opS_ok (ρ := ρ) (P := P) (X := X) (fi := fi) (nm := 0) (σ := ⟨r.env, m.1, m.2⟩) (o := r.o) (K := []) hZ hc (fun _ hf => by cases hf)
        unfold opS at this
        rw [hn] at this
        simp only at this
        rw [hp] at this
        obtain ⟨q, hq, _, hop⟩ := this _ rfl
        rw [List.mem_singleton.1 hq] at hop
        rw [← h]
        exact ⟨_, hop⟩
      · cases h
  obtain ⟨σ', hop⟩ := hop
  show (op P X fi 0 r.o (⟨envDen ρ r.env, bxDen ρ m.1, m.2.den ρ⟩ : St)).map (·.1) = _
  rw [hop]
  rfl

theorem rdOkS_ok (hZ : ZFree X) {B : List Mem} {r : Rd} (h : rdOkS P X fi B r = true) : rdOkB P X fi (B.map (memDen ρ)) (r.den ρ) = true := by
  unfold rdOkS at h
  rw [Bool.and_eq_true] at h
  obtain ⟨hc, h⟩ := h
  unfold rdOkB
  show (((B.map (memDen ρ)).reverse.take (r.hi + 1)).drop r.lo).all _ = true
  rw [← List.map_reverse, ← List.map_take, ← List.map_drop, List.all_map]
  refine List.all_eq_true.2 fun m hm => ?_
  have := List.all_eq_true.1 h m hm
  simp only [Function.comp_apply]
  split at this
  · rename_i v hv
    rw [readAtS_ok hZ hc hv]
    exact vbeqS_ok this
  · cases this

section
variable {Γ : FuncId → List V → Heap → Option (V × Heap)} {ΓS : FuncId → List V → Heap → Know → Ways (V × Heap)}

theorem runDrawLS_ok (hZ : ZFree X) (hG : GSok ρ Γ ΓS) {ops : List Oper} (hc : ops.all operOk = true) {wins : List (Nat × Nat × Nat)} : ∀ (l : List Nat) (nm : Nat) (B : List Mem) (R : List Rd) (σ : St) (K : Know), Holds ρ K →
    Snd ρ (runDrawLS P X fi ΓS ops wins l nm B R σ K) fun σ' => runDrawL P X fi Γ ops wins l nm (B.map (memDen ρ)) (R.map (Rd.den ρ)) (σ.den ρ) = some (σ'.den ρ)
  | [], nm, B, R, σ, K, hK => by
    simp only [runDrawLS, runDrawL]
    cases hr : R.all (rdOkS P X fi B) with
    | false => exact Snd.none
    | true =>
      refine Snd.one hK ?_
      have : (R.map (Rd.den ρ)).all (rdOkB P X fi (B.map (memDen ρ))) = true := by
        rw [List.all_map]
        exact List.all_eq_true.2 fun r hr' => rdOkS_ok hZ (List.all_eq_true.1 hr r hr')
      rw [this]
      rfl
  | i :: l, nm, B, R, σ, K, hK => by
    simp only [runDrawLS, runDrawL]
    cases ho : ops[i]? with
    | none => exact Snd.none
    | some o =>
      have hco : operOk o = true := List.all_eq_true.1 hc o (List.mem_of_getElem? ho)
      simp only
      cases hw : wanted ops o σ with
      | none => exact Snd.none
      | some b =>
        rw [wanted_den hw]
        cases b with
        | false =>
          simp only
          cases hp : put fi o.dst undefC σ with
          | none => exact Snd.none
          | some σ1 =>
            simp only [put_undef hp]
            have := runDrawLS_ok hZ hG hc (wins := wins) l (nmOf fi o nm) (if okind o = .chain then (σ.bx, σ.h) :: B else B) R σ1 K hK
            split at this
            · rename_i hch
              simp only [if_pos hch]
              exact this
            · rename_i hch
              simp only [if_neg hch]
              exact this
        | true =>
          simp only
          cases hcall : isCall o with
          | true =>
            simp only [cond_true]
            cases hcal : callee σ o with
            | none => exact Snd.none
            | some p =>
              obtain ⟨f, args⟩ := p
              simp only [callee_den hco hcal, allLoose_den]
              cases hl : args.all V.loose with
              | false => exact Snd.none
              | true =>
                simp only [cond_true]
                refine Snd.bnd (hG f args σ.h K hK) fun K' r hK' hr => ?_
                simp only [St.den] at hr ⊢
                rw [hr]
                simp only
                cases hp : put fi o.dst r.1 { σ with h := r.2 } with
                | none => exact Snd.none
                | some σ1 =>
                  have := put_den (ρ := ρ) hp
                  simp only [St.den] at this
                  rw [this]
                  exact runDrawLS_ok hZ hG hc l nm ((σ.bx, r.2) :: B) R σ1 K' hK'
          | false =>
            simp only [cond_false]
            refine Snd.bnd (opS_ok hZ hco hK) fun K' r hK' hr => ?_
            rw [hr]
            simp only
            cases hp : put fi o.dst r.1 r.2 with
            | none => exact Snd.none
            | some σ1 =>
              rw [put_den (ρ := ρ) hp]
              have := runDrawLS_ok hZ hG hc (wins := wins) l (nmOf fi o nm) (if okind o = .chain then (r.2.bx, r.2.h) :: B else B) (match winOf wins i with | some (lo, hi) => ⟨o, σ.env, r.1, lo, hi⟩ :: R | none => R) σ1 K' hK'
              cases hwn : winOf wins i with
              | none =>
                rw [hwn] at this
                split at this
                · rename_i hch
                  simp only [if_pos hch]
                  exact this
                · rename_i hch
                  simp only [if_neg hch]
                  exact this
              | some p =>
                rw [hwn] at this
                split at this
                · rename_i hch
                  simp only [if_pos hch]
                  exact this
                · rename_i hch
                  simp only [if_neg hch]
                  exact this

theorem keepEnv_den (l : List Nat) (e : List (Nat × V)) : keepEnv l (envDen ρ e) = envDen ρ (keepEnv l e) := by
  unfold keepEnv
  induction l with
  | nil => rfl
  | cons t l ih =>
    rw [List.filterMap_cons, List.filterMap_cons, get_envDen, ih]
    cases get e t with
    | none => rfl
    | some v => rfl

theorem keepBx_den (l : List Nat) (e : List (Nat × List C)) : keepBx l (bxDen ρ e) = bxDen ρ (keepBx l e) := by
  unfold keepBx
  induction l with
  | nil => rfl
  | cons t l ih =>
    rw [List.filterMap_cons, List.filterMap_cons, get_bxDen, ih]
    cases get e t with
    | none => rfl
    | some v => rfl

theorem clean_den (id : Nat) (σ : St) : clean fi id (σ.den ρ) = (clean fi id σ).den ρ := by
  unfold clean
  cases get fi.lives id with
  | none => rfl
  | some l =>
    simp only [St.den, keepEnv_den, keepBx_den]

theorem startOk_den (ops : List Oper) (σ : St) : startOk fi ops (σ.den ρ) = startOk fi ops σ := by
  unfold startOk
  congr 1
  funext o
  cases boxSlot fi o with
  | none => rfl
  | some t =>
    have h1 : (get (σ.den ρ).bx t).isNone = (get σ.bx t).isNone := by
      show (get (bxDen ρ σ.bx) t).isNone = _
      rw [get_bxDen]
      cases get σ.bx t <;> rfl
    have h2 : ((σ.den ρ).env.any fun p => mentionsV t p.2) = σ.env.any fun p => mentionsV t p.2 := by
      show ((envDen ρ σ.env).any fun p => mentionsV t p.2) = _
      rw [envDen, List.any_map]
      congr 1
      funext p
      exact mentionsV_den t p.2
    simp only [h1, h2]

theorem runLoopS_ok {f : St → Option (Ex × St)} {fS : St → Know → Ways (Ex × St)} (hf : ∀ σ K, Holds ρ K → Snd ρ (fS σ K) fun r => f (σ.den ρ) = some (r.1, r.2.den ρ)) : ∀ (n : Nat) (σ : St) (K : Know), Holds ρ K →
    Snd ρ (runLoopS fS n σ K) fun r => runLoop f n (σ.den ρ) = some (r.1, r.2.den ρ)
  | 0, _, _, _ => Snd.none
  | n + 1, σ, K, hK => by
    simp only [runLoopS, runLoop]
    refine Snd.bnd (hf σ K hK) fun K' r hK' hr => ?_
    rw [hr]
    obtain ⟨e, σ1⟩ := r
    cases e with
    | norm => exact runLoopS_ok hf n σ1 K' hK'
    | exit id => exact Snd.one hK' rfl
    | ret => exact Snd.one hK' rfl

theorem runCS_ok (hZ : ZFree X) (hG : GSok ρ Γ ΓS) {wins : List (Nat × Win)} {n : Nat} : ∀ (c : Code) (σ : St) (K : Know), codeK c = true → Holds ρ K →
    Snd ρ (runCS P X fi ΓS wins n c σ K) fun r => runC P X fi Γ wins n c (σ.den ρ) = some (r.1, r.2.den ρ)
  | .skip, σ, K, _, hK => Snd.one hK rfl
  | .ret, σ, K, _, hK => Snd.one hK rfl
  | .exit id, σ, K, _, hK => Snd.one hK rfl
  | .seq a b, σ, K, hc, hK => by
    simp only [codeK, Bool.and_eq_true] at hc
    simp only [runCS, runC]
    refine Snd.bnd (runCS_ok hZ hG a σ K hc.1 hK) fun K' r hK' hr => ?_
    rw [hr]
    obtain ⟨e, σ1⟩ := r
    cases e with
    | norm => exact runCS_ok hZ hG b σ1 K' hc.2 hK'
    | exit id => exact Snd.one hK' rfl
    | ret => exact Snd.one hK' rfl
  | .cond x a b, σ, K, hc, hK => by
    simp only [codeK, Bool.and_eq_true] at hc
    simp only [runCS, runC, ev_den σ hc.1.1]
    split
    · rename_i hx
      simp only [hx, Option.map_some, V.den, C.den, den_bool]
      exact runCS_ok hZ hG a σ K hc.1.2 hK
    · rename_i hx
      simp only [hx, Option.map_some, V.den, C.den, den_bool]
      exact runCS_ok hZ hG b σ K hc.2 hK
    · rename_i v _ _ hx
      cases hb : isBool v with
      | false => exact Snd.none
      | true =>
        rw [cond_true]
        obtain ⟨m, hm⟩ := isBool_ok (ρ := ρ) hb
        simp only [hx, Option.map_some, V.den, C.den, hm]
        refine Snd.bnd (ask_ok hK) fun K' r hK' hr => ?_
        simp only [Atom, hm, den_bool, Value.bool.injEq] at hr
        cases r with
        | true =>
          rw [cond_true]
          have : m = true := by simpa using hr
          subst this
          exact runCS_ok hZ hG a σ K' hc.1.2 hK'
        | false =>
          rw [cond_false]
          have : m = false := by simpa using hr
          subst this
          exact runCS_ok hZ hG b σ K' hc.2 hK'
    · exact Snd.none
  | .block id c, σ, K, hc, hK => by
    simp only [codeK] at hc
    simp only [runCS, runC]
    refine Snd.bnd (runCS_ok hZ hG c σ K hc hK) fun K' r hK' hr => ?_
    rw [hr]
    obtain ⟨e, σ1⟩ := r
    cases e with
    | norm => exact Snd.one hK' rfl
    | exit id' =>
      simp only
      cases Nat.beq id' id with
      | true => exact Snd.one hK' rfl
      | false => exact Snd.one hK' rfl
    | ret => exact Snd.one hK' rfl
  | .loop c, σ, K, hc, hK => by
    simp only [codeK] at hc
    simp only [runCS, runC]
    exact runLoopS_ok (fun σ K hK => runCS_ok hZ hG c σ K hc hK) n σ K hK
  | .region id ops draw, σ, K, hc, hK => by
    simp only [codeK] at hc
    simp only [runCS, runC]
    have fin : ∀ {m : Ways St} {r : Option St}, Snd ρ m (fun σ' => r = some (σ'.den ρ)) → Snd ρ (bnd m fun K' σ' => some [(K', (Ex.norm, clean fi id σ'))]) fun q => (match r with
        | some σ' => some (Ex.norm, clean fi id σ')
        | none => none) = some (q.1, q.2.den ρ) := fun h => Snd.bnd h fun K' σ1 hK' hr => by
      refine Snd.one hK' ?_
      rw [hr]
      simp only [clean_den]
    refine fin ?_
    cases draw with
    | true =>
      simp only [cond_true, startOk_den]
      cases startOk fi ops.toList σ with
      | false => exact Snd.none
      | true => exact runDrawLS_ok hZ hG hc _ _ [(σ.bx, { σ.h with next := σ.h.next + countMk fi ops.toList (ordOf (get wins id) ops.toList.length) })] [] { σ with h := { σ.h with next := σ.h.next + countMk fi ops.toList (ordOf (get wins id) ops.toList.length) } } K hK
    | false => exact runOpsS_ok hZ hG ops.toList σ K hc hK
  | .rangeFunc .., _, _, _, _ => Snd.none
  | .scope _, _, _, _, _ => Snd.none
  | .label _, _, _, _, _ => Snd.none
  | .goto _, _, _, _, _ => Snd.none
  | .refuse _, _, _, _, _ => Snd.none
end

theorem argsEnv_den : ∀ (k : Nat) (vs : List V), argsEnv k (vs.map (V.den ρ)) = envDen ρ (argsEnv k vs)
  | _, [] => rfl
  | k, v :: vs => by
    simp only [List.map_cons, argsEnv, argsEnv_den (k + 1) vs]
    rfl

theorem res1_den {r : ResultVar} {v : V} (h : res1 X σ r = some v) : res1 X (σ.den ρ) r = some (v.den ρ) := by
  cases r with
  | tmp t =>
    show get (envDen ρ σ.env) t = _
    have h : get σ.env t = some v := h
    rw [get_envDen, h]
    rfl
  | cell t ty =>
    simp only [res1] at h ⊢
    split at h
    · rename_i c ti hc hti
      have : get (σ.den ρ).env t = some (V.one (c.den ρ)) := by
        show get (envDen ρ σ.env) t = _
        rw [get_envDen, hc]
        rfl
      rw [this, hti]
      show load ti (σ.den ρ) (c.den ρ) = _
      rw [load_den, h]
      rfl
    · cases h

theorem resL_den : ∀ {rs : List ResultVar} {vs : List V}, resL X σ rs = some vs → resL X (σ.den ρ) rs = some (vs.map (V.den ρ))
  | [], vs, h => by cases h; rfl
  | r :: rs, vs, h => by
    simp only [resL] at h ⊢
    split at h
    · rename_i v vs' h1 h2
      rw [res1_den h1, resL_den h2]
      cases h
      rfl
    · cases h

theorem isTup_den (v : V) : (v.den ρ).isTup = v.isTup := by cases v <;> rfl

theorem resE_den {rs : List ResultVar} {v : V} (h : resE X σ rs = some v) : resE X (σ.den ρ) rs = some (v.den ρ) := by
  unfold resE at h ⊢
  split at h
  · rename_i u hu
    rw [resL_den hu]
    simp only [List.map_cons, List.map_nil, loose_den]
    split at h
    · rename_i hl
      rw [if_pos hl]
      cases h
      rfl
    · cases h
  · rename_i vs hne hu
    rw [resL_den hu]
    split at h
    · rename_i hl
      have hl' : ((vs.map (V.den ρ)).all fun v => v.loose && !v.isTup) = true := by
        rw [List.all_map]
        rw [← hl]
        congr 1
        funext v
        simp only [Function.comp_apply, loose_den, isTup_den]
      cases h
      cases vs with
      | nil => rfl
      | cons a vs => cases vs with
        | nil => exact absurd rfl (hne a)
        | cons b vs =>
          simp only [List.map_cons] at hl' ⊢
          rw [if_pos hl']
          simp only [V.den, denL_eq, List.map_cons]
    · cases h
  · cases h

theorem dropH_den (keep : Bool) (h h' : Heap) : dropH keep (h.den ρ) (h'.den ρ) = (dropH keep h h').den ρ := by
  cases keep with
  | true => rfl
  | false =>
    simp only [dropH, cond_false, Heap.den, bsDen, List.filter_map, Function.comp_def]

theorem endS_ok {fn : Fn} {args : List V} {h : Heap} (hK : Holds ρ K) : Snd ρ (endS X fn args h σ K) fun r =>
    cond (Nat.ble (h.den ρ).next (σ.den ρ).h.next && Nat.ble (args.map (V.den ρ)).length fn.fi.nt) ((resE X (σ.den ρ) fn.res).map fun v => (v, dropH fn.keep (h.den ρ) (σ.den ρ).h)) none = some (r.1.den ρ, r.2.den ρ) := by
  unfold endS
  have h1 : (h.den ρ).next = h.next := rfl
  have h2 : (σ.den ρ).h.next = σ.h.next := rfl
  rw [h1, h2, List.length_map]
  cases Nat.ble h.next σ.h.next && Nat.ble args.length fn.fi.nt with
  | false => exact Snd.none
  | true =>
    simp only [cond_true]
    cases hr : resE X σ fn.res with
    | none => exact Snd.none
    | some v =>
      refine Snd.one hK ?_
      rw [resE_den hr]
      simp only [Option.map_some, Option.some.injEq, Prod.mk.injEq, true_and]
      exact dropH_den fn.keep h σ.h

theorem callS_ok (hZ : ZFree X) {F : FuncId → Option Fn} (hF : ∀ f fn, F f = some fn → codeK fn.body = true) {ov : FuncId → Bool} {G : FuncId → List V → Heap → Option (V × Heap)} {GS : FuncId → List V → Heap → Know → Ways (V × Heap)}
    (hG : GSok ρ G GS) (loops : Nat) : ∀ n, GSok ρ (callO P X F ov G loops n) (callS P X F ov GS loops n)
  | 0 => fun _ _ _ _ _ => Snd.none
  | n + 1 => fun f args h K hK => by
    simp only [callS, callO]
    cases ov f with
    | true => exact hG f args h K hK
    | false =>
      simp only [cond_false]
      cases hf : F f with
      | none => exact Snd.none
      | some fn =>
        simp only
        refine Snd.bnd (runCS_ok hZ (callS_ok hZ hF hG loops n) fn.body ⟨argsEnv 0 args, [], h⟩ K (hF f fn hf) hK) fun K' r hK' hr => ?_
        have hst : (⟨argsEnv 0 (args.map (V.den ρ)), [], h.den ρ⟩ : St) = (⟨argsEnv 0 args, [], h⟩ : St).den ρ := by
          simp only [St.den, argsEnv_den, bxDen, List.map_nil]
        rw [hst, hr]
        obtain ⟨e, σ1⟩ := r
        cases e with
        | norm => exact endS_ok hK'
        | exit id => exact Snd.none
        | ret => exact endS_ok hK'
end

theorem callO_ok {P : Program} {X : Ctx} (hT : TtOk P X) (hF : FlatOk P X) (hm : P.follows .mixedOrders = true) {F : FuncId → Option Fn} (hfn : ∀ f fn, F f = some fn → FnOk P f fn) {ov : FuncId → Bool} {G : FuncId → List V → Heap → Option (V × Heap)} (hG : GOk P G) (loops : Nat) : ∀ n, GOk P (callO P X F ov G loops n)
  | 0 => fun f args h v h' e => by cases e
  | n + 1 => fun f args h v h' e => by
    rw [callO] at e
    cases hov : ov f with
    | true =>
      rw [hov, cond_true] at e
      exact hG _ _ _ _ _ e
    | false =>
    rw [hov, cond_false] at e
    cases hf : F f with
    | none => rw [hf] at e; cases e
    | some fn =>
      rw [hf] at e
      simp only at e
      obtain ⟨⟨g, g1, g2, g3, g4, g5⟩, hcode⟩ := hfn f fn hf
      have ih := callO_ok hT hF hm hfn hG loops n (ov := ov)
      have fin : ∀ ex σ, (ex = Ex.norm ∨ ex = Ex.ret) → runC P X fn.fi (callO P X F ov G loops n) fn.wins loops fn.body ⟨argsEnv 0 args, [], h⟩ = some (ex, σ) →
          cond (Nat.ble h.next σ.h.next && Nat.ble args.length fn.fi.nt) ((resE X σ fn.res).map fun v => (v, dropH fn.keep h σ.h)) none = some (v, h') → ACall P f args h v h' := fun ex σ hex hr e => by
        cases hb : Nat.ble h.next σ.h.next && Nat.ble args.length fn.fi.nt with
        | false => rw [hb] at e; cases e
        | true =>
          rw [hb, cond_true] at e
          simp only [Bool.and_eq_true, Nat.ble_eq] at hb
          simp only [Option.map_eq_some_iff, Prod.mk.injEq] at e
          obtain ⟨v', e1, rfl, rfl⟩ := e
          refine acall (fi := fn.fi) (D := wpDraw P X fn.fi fn.wins) (X := X) hT hF (drawOk hT hF hm fn.wins) g1 g2 g3 g4 (by rw [← g4]; exact hb.2) (Nat.le_trans hb.1 (dropH_sub fn.keep h σ.h).1) ?_
          exact runC_ok ih fn.body _ ex σ _ hcode hr ⟨hex, by rw [g5]; exact e1, dropH_sub fn.keep h σ.h⟩
      split at e
      · rename_i σ hr
        exact fin _ σ (.inl rfl) hr e
      · rename_i σ hr
        exact fin _ σ (.inr rfl) hr e
      · cases e
end E
end Go.Proofs.Ytnfehccnofhmnaa
