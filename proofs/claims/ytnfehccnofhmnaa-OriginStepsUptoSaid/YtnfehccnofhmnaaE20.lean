/-
  An abstract machine of this place's own: the record of a region that draws its order. No condition.
-/
import Derived.Test.YtnfehccnofhmnaaE19
set_option linter.all false
namespace Go.Proofs.Ytnfehccnofhmnaa
open Go.RowKit
namespace E

section
variable (P : Program) (X : Ctx) (fi : Fi) (ops : List Oper) (wins : List (Nat × Nat × Nat)) (base top : Nat) (σ0 : St)

/-- What an operation that was wanted did. -/
def Did (r : Rec) : Prop :=
  (isCall r.s.o = true ∧ ∃ f args h', callee r.pre r.s.o = some (f, args) ∧ args.all V.loose = true ∧ ACall P f args r.pre.h r.v h' ∧ r.eff = .mem r.pre.bx h') ∨
  (isCall r.s.o = false ∧ ∃ σ1, op P X fi r.nm r.s.o r.pre = some (r.v, σ1) ∧
    (((okind r.s.o = .pure ∨ okind r.s.o = .read) ∧ r.eff = .nop) ∨ (okind r.s.o = .alloc ∧ ∃ A : Add, r.eff = .add A ∧ A.fits fi r.nm r.s.o ∧
      ∀ (τ : St) (nm' : Nat), (∀ x ∈ r.s.o.op.operands.toList, ev τ x = ev r.pre x) → A.free τ → (nm' = r.nm ∨ makes fi r.s.o = false) → op P X fi nm' r.s.o τ = some (r.v, A.on τ)) ∨ (okind r.s.o = .chain ∧ r.eff = .mem σ1.bx σ1.h)))

structure RecOk (r : Rec) (T : List Rec) : Prop where
  hop : ops[r.s.i]? = some r.s.o
  pre : r.pre = ab allL σ0 T
  dst : ∀ t, r.s.o.dst = some t → t < fi.nt
  did : (wanted ops r.s.o r.pre = some false ∧ r.v = undefC ∧ ((okind r.s.o ≠ .chain ∧ r.eff = .nop) ∨ (okind r.s.o = .chain ∧ r.eff = .mem r.pre.bx r.pre.h))) ∨ (wanted ops r.s.o r.pre = some true ∧ Did P X fi r)
  nmLo : base ≤ r.nm
  nmHi : makes fi r.s.o = true → r.nm < top
  nmD : ∀ s ∈ T, makes fi s.s.o = true → s.nm < r.nm
  cnt : r.c = nMem allL T
  anc : ancOf (T.map (·.s)) r.s.o.after.toList = some r.s.m
  new : siFind (T.map (·.s)) r.s.i = none
  pair : ∀ s ∈ T, pairOk ops r.s r.c s.s = true
  bnd : boundsOf wins r.s.i r.c = (r.lo, r.s.hi, r.s.tight)
  rd : readOk r.s.o r.lo r.s.hi r.c (chainAnc r.s.m (T.map (·.s))) = true

def TrOk : List Rec → Prop
  | [] => True
  | r :: T => TrOk T ∧ RecOk P X fi ops wins base top σ0 r T
end

section
variable {P : Program} {X : Ctx} {fi : Fi} {ops : List Oper} {wins : List (Nat × Nat × Nat)} {base top : Nat} {σ σ' σ0 : St} {o : Oper} {v : V} {nm : Nat}

theorem put_setE {d : Option Nat} (h : put fi d v σ = some σ') : σ' = setE d v σ ∧ ∀ t, d = some t → t < fi.nt := by
  unfold put at h
  split at h
  · simp only [Option.some.injEq] at h
    exact ⟨h.symm, fun t ht => by cases ht⟩
  · rename_i t
    split at h
    · rename_i hlt
      simp only [Option.some.injEq] at h
      exact ⟨h.symm, fun u hu => by simp only [Option.some.injEq] at hu; subst hu; exact hlt⟩
    · cases h

theorem isCall_chain (h : isCall o = true) : okind o = .chain := by
  unfold isCall at h
  unfold okind
  split at h
  · rename_i c ho
    simp only [ho]
    split at h
    · rename_i hc
      simp only [hc]
    · cases h
  · cases h

theorem okind_cases (o : Oper) : okind o = .pure ∨ okind o = .read ∨ okind o = .alloc ∨ okind o = .chain := by
  cases okind o <;> simp

/-- The record that a run of the region leaves. -/
theorem drawL_trace (K : St → Prop) : ∀ (l : List Nat) (nm : Nat) (B : List Mem) (R : List Rd) (σ : St) (T : List Rec), wpDrawL P X fi ops wins l nm B R σ K →
    regGo ops wins l (T.map (·.s)) (nMem allL T) = true → TrOk P X fi ops wins base top σ0 T → σ = ab allL σ0 T → B = mems σ0.mem T →
    (∀ r ∈ T, wanted ops r.s.o r.pre = some true → okind r.s.o = .read → r.s.tight = false → (⟨r.s.o, r.pre.env, r.v, r.lo, r.s.hi⟩ : Rd) ∈ R) →
    base ≤ nm → nm + countMk fi ops l = top → (∀ s ∈ T, makes fi s.s.o = true → s.nm < nm) →
    ∃ T', TrOk P X fi ops wins base top σ0 T' ∧ T'.map (·.s.i) = l.reverse ++ T.map (·.s.i) ∧ K (ab allL σ0 T') ∧
      ∀ r ∈ T', wanted ops r.s.o r.pre = some true → okind r.s.o = .read → r.s.tight = false → RdOk P X fi (mems σ0.mem T') ⟨r.s.o, r.pre.env, r.v, r.lo, r.s.hi⟩
  | [], nm, B, R, σ, T, h, hg, hT, hσ, hB, hR, hb, ht, hn => by
    refine ⟨T, hT, rfl, by rw [← hσ]; exact h.2, fun r hr h1 h2 h3 => ?_⟩
    rw [← hB]
    exact h.1 _ (hR r hr h1 h2 h3)
  | i :: l, nm, B, R, σ, T, h, hg, hT, hσ, hB, hR, hb, ht, hn => by
    simp only [wpDrawL] at h
    rw [regGo] at hg
    cases ho : ops[i]? with
    | none => rw [ho] at h; exact h.elim
    | some o =>
      rw [ho] at h hg
      simp only at h hg
      cases hanc : ancOf (T.map (·.s)) o.after.toList with
      | none => rw [hanc] at hg; cases hg
      | some m =>
        rw [hanc] at hg
        simp only [Bool.and_eq_true, Option.isNone_iff_eq_none] at hg
        obtain ⟨⟨⟨hnew, hpair⟩, hrd⟩, hgo⟩ := hg
        rw [countMk, ho] at ht
        simp only at ht
        have hnm' : base ≤ nmOf fi o nm := by
          unfold nmOf
          cases makes fi o <;> simp only [cond_true, cond_false] <;> omega
        have ht' : nmOf fi o nm + countMk fi ops l = top := by
          unfold nmOf
          cases hm : makes fi o <;> rw [hm] at ht <;> simp only [cond_true, cond_false] at ht ⊢ <;> omega
        have hhi : makes fi o = true → nm < top := fun hm => by
          rw [hm, cond_true] at ht
          omega
        -- one step, whatever it did
        have go : ∀ (v : V) (e : Eff) (σ' : St) (R' : List Rd) (B' : List Mem), (e.isMem = (okind o).isChain) → σ' = setE o.dst v (e.on σ) → (∀ t, o.dst = some t → t < fi.nt) →
            ((wanted ops o σ = some false ∧ v = undefC ∧ ((okind o ≠ .chain ∧ e = .nop) ∨ (okind o = .chain ∧ e = .mem σ.bx σ.h))) ∨ (wanted ops o σ = some true ∧ Did P X fi ⟨⟨i, m, o, (boundsOf wins i (nMem allL T)).2.1, (boundsOf wins i (nMem allL T)).2.2⟩, nMem allL T, (boundsOf wins i (nMem allL T)).1, nm, v, e, σ⟩)) →
            B' = (match e with | .mem bx h => (bx, h) :: B | _ => B) → (∀ rd ∈ R, rd ∈ R') →
            (wanted ops o σ = some true → okind o = .read → (boundsOf wins i (nMem allL T)).2.2 = false → (⟨o, σ.env, v, (boundsOf wins i (nMem allL T)).1, (boundsOf wins i (nMem allL T)).2.1⟩ : Rd) ∈ R') →
            wpDrawL P X fi ops wins l (nmOf fi o nm) B' R' σ' K →
            ∃ T', TrOk P X fi ops wins base top σ0 T' ∧ T'.map (·.s.i) = (i :: l).reverse ++ T.map (·.s.i) ∧ K (ab allL σ0 T') ∧
              ∀ r ∈ T', wanted ops r.s.o r.pre = some true → okind r.s.o = .read → r.s.tight = false → RdOk P X fi (mems σ0.mem T') ⟨r.s.o, r.pre.env, r.v, r.lo, r.s.hi⟩ := fun v e σ' R' B' he hs hd hdid hB' hRR hR' hw => by
          let r : Rec := ⟨⟨i, m, o, (boundsOf wins i (nMem allL T)).2.1, (boundsOf wins i (nMem allL T)).2.2⟩, nMem allL T, (boundsOf wins i (nMem allL T)).1, nm, v, e, σ⟩
          have hrok : RecOk P X fi ops wins base top σ0 r T := {
            hop := ho
            pre := hσ
            dst := hd
            did := hdid
            nmLo := hb
            nmHi := hhi
            nmD := hn
            cnt := rfl
            anc := hanc
            new := hnew
            pair := fun s hs => List.all_eq_true.1 hpair s.s (List.mem_map.2 ⟨s, hs, rfl⟩)
            bnd := rfl
            rd := hrd }
          have hg' : regGo ops wins l ((r :: T).map (·.s)) (nMem allL (r :: T)) = true := by
            have : nMem allL (r :: T) = cond (okind o).isChain (nMem allL T + 1) (nMem allL T) := by
              show cond (e.isMem && true) _ _ = _
              rw [Bool.and_true, he]
            rw [this]
            exact hgo
          obtain ⟨T', h1, h2, h3, h4⟩ := drawL_trace K l (nmOf fi o nm) B' R' σ' (r :: T) hw hg' ⟨hT, hrok⟩ (by rw [hs, hσ]; rfl) (by
              rw [hB', mems, hB]
              cases e <;> rfl) (fun s hs h1 h2 h3 => by
              simp only [List.mem_cons] at hs
              rcases hs with rfl | hs
              · exact hR' h1 h2 h3
              · exact hRR _ (hR s hs h1 h2 h3)) hnm' ht' (fun s hs hm => by
              simp only [List.mem_cons] at hs
              rcases hs with rfl | hs
              · show nm < nmOf fi o nm
                unfold nmOf
                have : makes fi o = true := hm
                rw [this, cond_true]
                omega
              · have := hn s hs hm
                unfold nmOf
                cases makes fi o <;> simp only [cond_true, cond_false] <;> omega)
          exact ⟨T', h1, by rw [h2]; simp [r], h3, h4⟩
        cases hwa : wanted ops o σ with
        | none => rw [hwa] at h; exact h.elim
        | some b =>
          rw [hwa] at h
          cases b with
          | false =>
            simp only at h
            obtain ⟨σ', hp, h'⟩ := h
            obtain ⟨e1, e2⟩ := put_setE hp
            by_cases hk : okind o = .chain
            · refine go undefC (.mem σ.bx σ.h) σ' R ((σ.bx, σ.h) :: B) (by rw [hk]; rfl) (by rw [e1]; rfl) e2 (.inl ⟨hwa, rfl, .inr ⟨hk, rfl⟩⟩) rfl (fun _ h => h) (fun h => by rw [hwa] at h; cases h) ?_
              simpa only [if_pos hk] using h'
            · refine go undefC .nop σ' R B (by cases h : okind o <;> simp_all [Eff.isMem, OK.isChain]) (by rw [e1]; rfl) e2 (.inl ⟨hwa, rfl, .inl ⟨hk, rfl⟩⟩) rfl (fun _ h => h) (fun h => by rw [hwa] at h; cases h) ?_
              simpa only [if_neg hk] using h'
          | true =>
            simp only at h
            cases hc : isCall o with
            | true =>
              rw [if_pos hc] at h
              obtain ⟨f, args, v, h', σ', hcal, hl, hA, hp, h2⟩ := h
              obtain ⟨e1, e2⟩ := put_setE hp
              have hk := isCall_chain hc
              have hmk : makes fi o = false := by
                unfold isCall at hc
                unfold makes
                split at hc
                · rename_i c hoc
                  simp only [hoc]
                  split at hc
                  · rename_i hcc; simp only [hcc]
                  · cases hc
                · cases hc
              refine go v (.mem σ.bx h') σ' R ((σ.bx, h') :: B) (by rw [hk]; rfl) (by rw [e1]; rfl) e2 (.inr ⟨hwa, .inl ⟨hc, f, args, h', hcal, hl, hA, rfl⟩⟩) rfl (fun _ h => h) (fun _ h => by rw [hk] at h; cases h) ?_
              unfold nmOf
              rw [hmk, cond_false]
              exact h2
            | false =>
              rw [if_neg (by simp [hc])] at h
              obtain ⟨v, σ1, σ', hop, hp, h2⟩ := h
              obtain ⟨e1, e2⟩ := put_setE hp
              have hmem : ∀ rd ∈ R, rd ∈ (match winOf wins i with | some (lo, hi) => (⟨o, σ.env, v, lo, hi⟩ : Rd) :: R | none => R) := fun rd hrd => by
                split
                · exact List.mem_cons_of_mem _ hrd
                · exact hrd
              have hwin : (boundsOf wins i (nMem allL T)).2.2 = false → (⟨o, σ.env, v, (boundsOf wins i (nMem allL T)).1, (boundsOf wins i (nMem allL T)).2.1⟩ : Rd) ∈ (match winOf wins i with | some (lo, hi) => (⟨o, σ.env, v, lo, hi⟩ : Rd) :: R | none => R) := fun hf => by
                unfold boundsOf at hf ⊢
                cases hwi : winOf wins i with
                | none => rw [hwi] at hf; cases hf
                | some q => obtain ⟨lo, hi⟩ := q; simp
              rcases okind_cases o with hk | hk | hk | hk
              · obtain ⟨_, rfl⟩ := op_float (nm' := nm) (τ := σ) (.inl hk) (fun _ _ => rfl) (fun h => by rw [hk] at h; cases h) hop
                refine go v .nop σ' _ B (by rw [hk]; rfl) (by rw [e1]; rfl) e2 (.inr ⟨hwa, .inr ⟨hc, σ1, hop, .inl ⟨.inl hk, rfl⟩⟩⟩) rfl hmem (fun _ h => by rw [hk] at h; cases h) ?_
                simp only [hk, reduceCtorEq, if_false] at h2
                exact h2
              · obtain ⟨_, rfl⟩ := op_float (nm' := nm) (τ := σ) (.inr hk) (fun _ _ => rfl) (fun _ => ⟨fun _ _ h => h, fun _ _ h => h⟩) hop
                refine go v .nop σ' _ B (by rw [hk]; rfl) (by rw [e1]; rfl) e2 (.inr ⟨hwa, .inr ⟨hc, σ1, hop, .inl ⟨.inr hk, rfl⟩⟩⟩) rfl hmem (fun _ _ h => hwin h) ?_
                simp only [hk, reduceCtorEq, if_false] at h2
                exact h2
              · obtain ⟨A, rfl, hfree, hfits, hall⟩ := op_adds hk hop
                refine go v (.add A) σ' _ B (by rw [hk]; rfl) (by rw [e1]; rfl) e2 (.inr ⟨hwa, .inr ⟨hc, _, hop, .inr (.inl ⟨hk, A, rfl, hfits, hall⟩)⟩⟩) rfl hmem (fun _ h => by rw [hk] at h; cases h) ?_
                simp only [hk, reduceCtorEq, if_false] at h2
                exact h2
              · obtain ⟨_, henv⟩ := op_chain (e := σ.env) hk hc (fun _ _ => rfl) hop
                have hs1 : (Eff.mem σ1.bx σ1.h).on σ = σ1 := by
                  show { σ with bx := σ1.bx, h := σ1.h } = σ1
                  rw [← henv]
                refine go v (.mem σ1.bx σ1.h) σ' _ ((σ1.bx, σ1.h) :: B) (by rw [hk]; rfl) (by rw [hs1, e1]) e2 (.inr ⟨hwa, .inr ⟨hc, σ1, hop, .inr (.inr ⟨hk, rfl⟩)⟩⟩) rfl hmem (fun _ h => by rw [hk] at h; cases h) ?_
                simp only [hk, if_true] at h2
                exact h2
end
end E
end Go.Proofs.Ytnfehccnofhmnaa
