/-
  An abstract machine of this place's own: the record of a region that draws its order. No condition.
-/
import Derived.Test.YtibdplfdmncgiaaMC6
set_option linter.all false
namespace Go.Proofs.Ytibdplfdmncgiaa
open Go.RowKit
namespace E

section
variable (P : Program) (X : Ctx) (fi : Fi) (ops : List Oper) (wins : List (Nat × Nat × Nat)) (base top : Nat) (σ0 : St)

/-- What an operation that was wanted did. -/
def Did (r : Rec) : Prop :=
  (isCall r.s.o = true ∧ ∃ f args h', callee r.pre r.s.o = some (f, args) ∧ args.all V.loose = true ∧ ACall P f args r.pre.h r.v h' ∧ r.eff = .mem r.pre.bx h') ∨
  (isCall r.s.o = false ∧ ∃ σ1, op P X fi r.nm r.s.o r.pre = some (r.v, σ1) ∧
    (((okind r.s.o = .pure ∨ okind r.s.o = .read) ∧ r.eff = .nop) ∨ (okind r.s.o = .alloc ∧ ∃ A : Add, r.eff = .add A ∧ A.fits fi r.nm r.s.o ∧
      ∀ (τ : St) (nm' : Nat), (∀ x ∈ r.s.o.op.operands.toList, ev τ x = ev r.pre x) → A.free τ → (nm' = r.nm ∨ makes fi r.s.o = false) → op P X fi nm' r.s.o τ = some (r.v, A.on τ)) ∨ (okind r.s.o = .chain ∧ r.eff = .mem σ1.bx σ1.h)))

structure RecOk (r : Rec) (T : List Rec) : Prop where
  hop : ops[r.s.i]? = some r.s.o
  pre : r.pre = ab allL σ0 T
  dst : ∀ t, r.s.o.dst = some t → t < fi.nt
  did : (wanted ops r.s.o r.pre = some false ∧ r.v = undefC ∧ ((okind r.s.o ≠ .chain ∧ r.eff = .nop) ∨ (okind r.s.o = .chain ∧ r.eff = .mem r.pre.bx r.pre.h))) ∨ (wanted ops r.s.o r.pre = some true ∧ Did P X fi r)
  nmLo : base ≤ r.nm
  nmHi : makes fi r.s.o = true → r.nm < top
  nmD : ∀ s ∈ T, makes fi s.s.o = true → s.nm < r.nm
  cnt : r.c = nMem allL T
  anc : ancOf (T.map (·.s)) r.s.o.after.toList = some r.s.m
  new : siFind (T.map (·.s)) r.s.i = none
  pair : ∀ s ∈ T, pairOk ops r.s r.c s.s = true
  bnd : boundsOf wins r.s.i r.c = (r.lo, r.s.hi, r.s.tight)
  rd : readOk r.s.o r.lo r.s.hi r.c (chainAnc r.s.m (T.map (·.s))) = true

def TrOk : List Rec → Prop
  | [] => True
  | r :: T => TrOk T ∧ RecOk P X fi ops wins base top σ0 r T
end

section
variable {P : Program} {X : Ctx} {fi : Fi} {ops : List Oper} {wins : List (Nat × Nat × Nat)} {base top : Nat} {σ σ' σ0 : St} {o : Oper} {v : V} {nm : Nat}

theorem put_setE {d : Option Nat} (h : put fi d v σ = some σ') : σ' = setE d v σ ∧ ∀ t, d = some t → t < fi.nt := by
  unfold put at h
  split at h
  · simp only [Option.some.injEq] at h
    exact ⟨h.symm, fun t ht => by cases ht⟩
  · rename_i t
    split at h
    · rename_i hlt
      simp only [Option.some.injEq] at h
      exact ⟨h.symm, fun u hu => by simp only [Option.some.injEq] at hu; subst hu; exact hlt⟩
    · cases h

theorem isCall_chain (h : isCall o = true) : okind o = .chain := by
  unfold isCall at h
  unfold okind
  split at h
  · rename_i c ho
    simp only [ho]
    split at h
    · rename_i hc
      simp only [hc]
    · cases h
  · cases h

theorem okind_cases (o : Oper) : okind o = .pure ∨ okind o = .read ∨ okind o = .alloc ∨ okind o = .chain := by
  cases okind o <;> simp

/-- The record that a run of the region leaves. -/
theorem drawL_trace (K : St → Prop) : ∀ (l : List Nat) (nm : Nat) (B : List Mem) (R : List Rd) (σ : St) (T : List Rec), wpDrawL P X fi ops wins l nm B R σ K →
    regGo ops wins l (T.map (·.s)) (nMem allL T) = true → TrOk P X fi ops wins base top σ0 T → σ = ab allL σ0 T → B = mems σ0.mem T →
    (∀ r ∈ T, wanted ops r.s.o r.pre = some true → okind r.s.o = .read → r.s.tight = false → (⟨r.s.o, r.pre.env, r.v, r.lo, r.s.hi⟩ : Rd) ∈ R) →
    base ≤ nm → nm + countMk fi ops l = top → (∀ s ∈ T, makes fi s.s.o = true → s.nm < nm) →
    ∃ T', TrOk P X fi ops wins base top σ0 T' ∧ T'.map (·.s.i) = l.reverse ++ T.map (·.s.i) ∧ K (ab allL σ0 T') ∧
      ∀ r ∈ T', wanted ops r.s.o r.pre = some true → okind r.s.o = .read → r.s.tight = false → RdOk P X fi (mems σ0.mem T') ⟨r.s.o, r.pre.env, r.v, r.lo, r.s.hi⟩
  | [], nm, B, R, σ, T, h, hg, hT, hσ, hB, hR, hb, ht, hn => by
    refine ⟨T, hT, rfl, by rw [← hσ]; exact h.2, fun r hr h1 h2 h3 => ?_⟩
    rw [← hB]
    exact h.1 _ (hR r hr h1 h2 h3)
  | i :: l, nm, B, R, σ, T, h, hg, hT, hσ, hB, hR, hb, ht, hn => by
    simp only [wpDrawL] at h
    rw [regGo] at hg
    cases ho : ops[i]? with
    | none => rw [ho] at h; exact h.elim
    | some o =>
      rw [ho] at h hg
      simp only at h hg
      cases hanc : ancOf (T.map (·.s)) o.after.toList with
      | none => rw [hanc] at hg; cases hg
      | some m =>
        rw [hanc] at hg
        simp only [Bool.and_eq_true, Option.isNone_iff_eq_none] at hg
        obtain ⟨⟨⟨hnew, hpair⟩, hrd⟩, hgo⟩ := hg
        rw [countMk, ho] at ht
        simp only at ht
        have hnm' : base ≤ nmOf fi o nm := by
          unfold nmOf
          cases makes fi o <;> simp only [cond_true, cond_false] <;> omega
        have ht' : nmOf fi o nm + countMk fi ops l = top := by
          unfold nmOf
          cases hm : makes fi o <;> rw [hm] at ht <;> simp only [cond_true, cond_false] at ht ⊢ <;> omega
        have hhi : makes fi o = true → nm < top := fun hm => by
          rw [hm, cond_true] at ht
          omega
        -- one step, whatever it did
        have go : ∀ (v : V) (e : Eff) (σ' : St) (R' : List Rd) (B' : List Mem), (e.isMem = (okind o).isChain) → σ' = setE o.dst v (e.on σ) → (∀ t, o.dst = some t → t < fi.nt) →
            ((wanted ops o σ = some false ∧ v = undefC ∧ ((okind o ≠ .chain ∧ e = .nop) ∨ (okind o = .chain ∧ e = .mem σ.bx σ.h))) ∨ (wanted ops o σ = some true ∧ Did P X fi ⟨⟨i, m, o, (boundsOf wins i (nMem allL T)).2.1, (boundsOf wins i (nMem allL T)).2.2⟩, nMem allL T, (boundsOf wins i (nMem allL T)).1, nm, v, e, σ⟩)) →
            B' = (match e with | .mem bx h => (bx, h) :: B | _ => B) → (∀ rd ∈ R, rd ∈ R') →
            (wanted ops o σ = some true → okind o = .read → (boundsOf wins i (nMem allL T)).2.2 = false → (⟨o, σ.env, v, (boundsOf wins i (nMem allL T)).1, (boundsOf wins i (nMem allL T)).2.1⟩ : Rd) ∈ R') →
            wpDrawL P X fi ops wins l (nmOf fi o nm) B' R' σ' K →
            ∃ T', TrOk P X fi ops wins base top σ0 T' ∧ T'.map (·.s.i) = (i :: l).reverse ++ T.map (·.s.i) ∧ K (ab allL σ0 T') ∧
              ∀ r ∈ T', wanted ops r.s.o r.pre = some true → okind r.s.o = .read → r.s.tight = false → RdOk P X fi (mems σ0.mem T') ⟨r.s.o, r.pre.env, r.v, r.lo, r.s.hi⟩ := fun v e σ' R' B' he hs hd hdid hB' hRR hR' hw => by
          let r : Rec := ⟨⟨i, m, o, (boundsOf wins i (nMem allL T)).2.1, (boundsOf wins i (nMem allL T)).2.2⟩, nMem allL T, (boundsOf wins i (nMem allL T)).1, nm, v, e, σ⟩
          have hrok : RecOk P X fi ops wins base top σ0 r T := {
            hop := ho
            pre := hσ
            dst := hd
            did := hdid
            nmLo := hb
            nmHi := hhi
            nmD := hn
            cnt := rfl
            anc := hanc
            new := hnew
            pair := fun s hs => List.all_eq_true.1 hpair s.s (List.mem_map.2 ⟨s, hs, rfl⟩)
            bnd := rfl
            rd := hrd }
          have hg' : regGo ops wins l ((r :: T).map (·.s)) (nMem allL (r :: T)) = true := by
            have : nMem allL (r :: T) = cond (okind o).isChain (nMem allL T + 1) (nMem allL T) := by
              show cond (e.isMem && true) _ _ = _
              rw [Bool.and_true, he]
            rw [this]
            exact hgo
          obtain ⟨T', h1, h2, h3, h4⟩ := drawL_trace K l (nmOf fi o nm) B' R' σ' (r :: T) hw hg' ⟨hT, hrok⟩ (by rw [hs, hσ]; rfl) (by
              rw [hB', mems, hB]
              all_goals (cases e <;> rfl)) (fun s hs h1 h2 h3 => by
              simp only [List.mem_cons] at hs
              rcases hs with rfl | hs
              · exact hR' h1 h2 h3
              · exact hRR _ (hR s hs h1 h2 h3)) hnm' ht' (fun s hs hm => by
              simp only [List.mem_cons] at hs
              rcases hs with rfl | hs
              · show nm < nmOf fi o nm
                unfold nmOf
                have : makes fi o = true := hm
                rw [this, cond_true]
                omega
              · have := hn s hs hm
                unfold nmOf
                cases makes fi o <;> simp only [cond_true, cond_false] <;> omega)
          exact ⟨T', h1, by rw [h2]; simp [r], h3, h4⟩
        cases hwa : wanted ops o σ with
        | none => rw [hwa] at h; exact h.elim
        | some b =>
          rw [hwa] at h
          cases b with
          | false =>
            simp only at h
            obtain ⟨σ', hp, h'⟩ := h
            obtain ⟨e1, e2⟩ := put_setE hp
            by_cases hk : okind o = .chain
            · refine go undefC (.mem σ.bx σ.h) σ' R ((σ.bx, σ.h) :: B) (by rw [hk]; rfl) (by rw [e1]; rfl) e2 (.inl ⟨hwa, rfl, .inr ⟨hk, rfl⟩⟩) rfl (fun _ h => h) (fun h => by rw [hwa] at h; cases h) ?_
              simpa only [if_pos hk] using h'
            · refine go undefC .nop σ' R B (by cases h : okind o <;> simp_all [Eff.isMem, OK.isChain]) (by rw [e1]; rfl) e2 (.inl ⟨hwa, rfl, .inl ⟨hk, rfl⟩⟩) rfl (fun _ h => h) (fun h => by rw [hwa] at h; cases h) ?_
              simpa only [if_neg hk] using h'
          | true =>
            simp only at h
            cases hc : isCall o with
            | true =>
              rw [if_pos hc] at h
              obtain ⟨f, args, v, h', σ', hcal, hl, hA, hp, h2⟩ := h
              obtain ⟨e1, e2⟩ := put_setE hp
              have hk := isCall_chain hc
              have hmk : makes fi o = false := by
                unfold isCall at hc
                unfold makes
                split at hc
                · rename_i c hoc
                  simp only [hoc]
                  split at hc
                  · rename_i hcc; simp only [hcc]
                  · cases hc
                · cases hc
              refine go v (.mem σ.bx h') σ' R ((σ.bx, h') :: B) (by rw [hk]; rfl) (by rw [e1]; rfl) e2 (.inr ⟨hwa, .inl ⟨hc, f, args, h', hcal, hl, hA, rfl⟩⟩) rfl (fun _ h => h) (fun _ h => by rw [hk] at h; cases h) ?_
              unfold nmOf
              rw [hmk, cond_false]
              exact h2
            | false =>
              rw [if_neg (by simp [hc])] at h
              obtain ⟨v, σ1, σ', hop, hp, h2⟩ := h
              obtain ⟨e1, e2⟩ := put_setE hp
              have hmem : ∀ rd ∈ R, rd ∈ (match winOf wins i with | some (lo, hi) => (⟨o, σ.env, v, lo, hi⟩ : Rd) :: R | none => R) := fun rd hrd => by
                split
                · exact List.mem_cons_of_mem _ hrd
                · exact hrd
              have hwin : (boundsOf wins i (nMem allL T)).2.2 = false → (⟨o, σ.env, v, (boundsOf wins i (nMem allL T)).1, (boundsOf wins i (nMem allL T)).2.1⟩ : Rd) ∈ (match winOf wins i with | some (lo, hi) => (⟨o, σ.env, v, lo, hi⟩ : Rd) :: R | none => R) := fun hf => by
                unfold boundsOf at hf ⊢
                cases hwi : winOf wins i with
                | none => rw [hwi] at hf; cases hf
                | some q => obtain ⟨lo, hi⟩ := q; simp
              rcases okind_cases o with hk | hk | hk | hk
              · obtain ⟨_, rfl⟩ := op_float (nm' := nm) (τ := σ) (.inl hk) (fun _ _ => rfl) (fun h => by rw [hk] at h; cases h) hop
                refine go v .nop σ' _ B (by rw [hk]; rfl) (by rw [e1]; rfl) e2 (.inr ⟨hwa, .inr ⟨hc, σ1, hop, .inl ⟨.inl hk, rfl⟩⟩⟩) rfl hmem (fun _ h => by rw [hk] at h; cases h) ?_
                simp only [hk, reduceCtorEq, if_false] at h2
                exact h2
              · obtain ⟨_, rfl⟩ := op_float (nm' := nm) (τ := σ) (.inr hk) (fun _ _ => rfl) (fun _ => ⟨fun _ _ h => h, fun _ _ h => h⟩) hop
                refine go v .nop σ' _ B (by rw [hk]; rfl) (by rw [e1]; rfl) e2 (.inr ⟨hwa, .inr ⟨hc, σ1, hop, .inl ⟨.inr hk, rfl⟩⟩⟩) rfl hmem (fun _ _ h => hwin h) ?_
                simp only [hk, reduceCtorEq, if_false] at h2
                exact h2
              · obtain ⟨A, rfl, hfree, hfits, hall⟩ := op_adds hk hop
                refine go v (.add A) σ' _ B (by rw [hk]; rfl) (by rw [e1]; rfl) e2 (.inr ⟨hwa, .inr ⟨hc, _, hop, .inr (.inl ⟨hk, A, rfl, hfits, hall⟩)⟩⟩) rfl hmem (fun _ h => by rw [hk] at h; cases h) ?_
                simp only [hk, reduceCtorEq, if_false] at h2
                exact h2
              · obtain ⟨_, henv⟩ := op_chain (e := σ.env) hk hc (fun _ _ => rfl) hop
                have hs1 : (Eff.mem σ1.bx σ1.h).on σ = σ1 := by
                  show { σ with bx := σ1.bx, h := σ1.h } = σ1
                  rw [← henv]
                refine go v (.mem σ1.bx σ1.h) σ' _ ((σ1.bx, σ1.h) :: B) (by rw [hk]; rfl) (by rw [hs1, e1]) e2 (.inr ⟨hwa, .inr ⟨hc, σ1, hop, .inr (.inr ⟨hk, rfl⟩)⟩⟩) rfl hmem (fun _ h => by rw [hk] at h; cases h) ?_
                simp only [hk, if_true] at h2
                exact h2
end
end E
end Go.Proofs.Ytibdplfdmncgiaa

/-
  An abstract machine of this place's own: a region that draws its order: what may stand ahead of what. No condition.
-/
namespace Go.Proofs.Ytibdplfdmncgiaa
open Go.RowKit
namespace E

theorem memN_iff {t : Nat} : ∀ {l : List Nat}, memN t l = true ↔ t ∈ l
  | [] => by simp [memN]
  | x :: l => by
    have ih := memN_iff (t := t) (l := l)
    simp only [memN, Bool.or_eq_true, ih, List.mem_cons]
    constructor
    · rintro (h | h)
      · exact .inl (Nat.eq_of_beq_eq_true h).symm
      · exact .inr h
    · rintro (rfl | h)
      · exact .inl (Nat.beq_refl _)
      · exact .inr h

theorem siFind_some {i : Nat} {s : SI} : ∀ {done : List SI}, siFind done i = some s → s ∈ done ∧ s.i = i
  | [], h => by cases h
  | x :: l, h => by
    rw [siFind] at h
    cases hb : Nat.beq x.i i with
    | true =>
      rw [hb] at h
      simp only [cond_true, Option.some.injEq] at h
      subst h
      exact ⟨by simp, Nat.eq_of_beq_eq_true hb⟩
    | false =>
      rw [hb] at h
      obtain ⟨h1, h2⟩ := siFind_some (done := l) h
      exact ⟨by simp [h1], h2⟩

theorem siFind_none {i : Nat} : ∀ {done : List SI}, siFind done i = none → ∀ s ∈ done, s.i ≠ i
  | [], _ => by simp
  | x :: l, h => by
    rw [siFind] at h
    cases hb : Nat.beq x.i i with
    | true => rw [hb] at h; cases h
    | false =>
      rw [hb] at h
      intro s hs
      simp only [List.mem_cons] at hs
      rcases hs with rfl | hs
      · intro e
        rw [e, Nat.beq_refl] at hb
        cases hb
      · exact siFind_none (done := l) h s hs

theorem ancOf_in {L : Nat → Bool} {done : List SI} (hd : ∀ s ∈ done, L s.i = true → ∀ j, Nat.testBit s.m j = true → L j = true) : ∀ {es : List Edge} {m : Nat}, ancOf done es = some m → (∀ e ∈ es, Region.binds .any e = true → L e.on = true) → ∀ j, Nat.testBit m j = true → L j = true
  | [], m, h, _, j, hj => by
    simp only [ancOf, Option.some.injEq] at h
    subst h
    simp at hj
  | e :: es, m, h, he, j, hj => by
    rw [ancOf] at h
    cases hb : Region.binds .any e with
    | false =>
      rw [hb] at h
      exact ancOf_in hd (es := es) h (fun x hx => he x (by simp [hx])) j hj
    | true =>
      rw [hb, cond_true] at h
      split at h
      · rename_i s m' hs hm'
        simp only [Option.some.injEq] at h
        subst h
        obtain ⟨h1, h2⟩ := siFind_some hs
        have hon := he e (by simp) hb
        rw [Nat.testBit_or, Nat.testBit_or] at hj
        simp only [Bool.or_eq_true] at hj
        rcases hj with hj | hj | hj
        · exact ancOf_in hd (es := es) hm' (fun x hx => he x (by simp [hx])) j hj
        · exact hd s h1 (by rw [h2]; exact hon) j hj
        · rw [Nat.testBit_shiftLeft] at hj
          simp only [Bool.and_eq_true, decide_eq_true_eq] at hj
          obtain ⟨h3, h4⟩ := hj
          have : j - e.on = 0 := by
            by_cases h0 : j - e.on = 0
            · exact h0
            · exact absurd (Nat.testBit_one_eq_true_iff_self_eq_zero.1 h4) h0
          have : j = e.on := by omega
          rw [this]
          exact hon
      · cases h

section pairs
variable {ops : List Oper} {s t : SI} {c : Nat}

theorem pair_apart (h : pairOk ops t c s = true) (hb : Nat.testBit t.m s.i = false) : apartB ops s.o t.o = true := by
  unfold pairOk at h
  rw [hb, Bool.false_or] at h
  simp only [Bool.and_eq_true] at h
  exact h.2.1

theorem pair_chain (h : pairOk ops t c s = true) (hb : Nat.testBit t.m s.i = false) (hk : okind t.o = .chain) : okind s.o ≠ .chain ∧ okind s.o ≠ .alloc ∧ (okind s.o = .read → c < s.hi) := by
  unfold pairOk at h
  rw [hb, Bool.false_or] at h
  simp only [Bool.and_eq_true, hk] at h
  obtain ⟨_, _, h⟩ := h
  refine ⟨fun he => ?_, fun he => ?_, fun he => ?_⟩
  · rw [he] at h; cases h
  · rw [he] at h; cases h
  · rw [he] at h; simpa [Nat.blt_eq] using h

theorem pair_read (h : pairOk ops t c s = true) (hb : Nat.testBit t.m s.i = false) (hk : okind t.o = .read) (ht : t.tight = true) : okind s.o ≠ .alloc := by
  unfold pairOk at h
  rw [hb, Bool.false_or] at h
  simp only [Bool.and_eq_true, hk, ht, Bool.true_and] at h
  obtain ⟨_, _, h⟩ := h
  intro he
  rw [he] at h
  cases h

theorem dstEq_refl (d : Nat) : dstEq (some d) (some d) = true := Nat.beq_refl d

theorem pair_alloc (h : pairOk ops t c s = true) (hk : okind s.o = .alloc ∨ okind t.o = .alloc) : ∀ d, s.o.dst = some d → t.o.dst ≠ some d := by
  unfold pairOk at h
  simp only [Bool.and_eq_true] at h
  intro d h1 h2
  have h := h.1
  rw [h1, h2, dstEq_refl] at h
  rcases hk with hk | hk <;> rw [hk] at h <;> simp [OK.isAlloc] at h

theorem apart_l {x y : Oper} (h : apartB ops x y = true) : (∀ d, x.dst = some d → d ∉ looksE ops y) ∧ (∀ d, y.dst = some d → d ∉ looksE ops x) ∧ (∀ d, x.dst = some d → y.dst ≠ some d) := by
  unfold apartB at h
  simp only [Bool.and_eq_true, Bool.not_eq_true'] at h
  obtain ⟨⟨h1, h2⟩, h3⟩ := h
  refine ⟨fun d hd hm => ?_, fun d hd hm => ?_, fun d hd hy => ?_⟩
  · rw [hd] at h1
    have : memN d (looksE ops y) = true := memN_iff.2 hm
    simp only [dstIn, this] at h1
    cases h1
  · rw [hd] at h2
    have : memN d (looksE ops x) = true := memN_iff.2 hm
    simp only [dstIn, this] at h2
    cases h2
  · rw [hd, hy, dstEq_refl] at h3
    cases h3

theorem tmpsOf_mem {u : Nat} : ∀ {l : List Operand}, Operand.tmp u ∈ l → u ∈ tmpsOf l
  | [], h => by cases h
  | x :: l, h => by
    simp only [List.mem_cons] at h
    rcases h with rfl | h
    · simp [tmpsOf]
    · have := tmpsOf_mem h
      cases x <;> simp [tmpsOf, this]

theorem looks_op {o : Oper} {u : Nat} (h : Operand.tmp u ∈ o.op.operands.toList) : u ∈ looksE ops o := List.mem_append_right _ (tmpsOf_mem h)

theorem looks_guard {o oj : Oper} {j u : Nat} {want : Bool} (h1 : o.guard = some (j, want)) (h2 : ops[j]? = some oj) (h3 : oj.dst = some u) : u ∈ looksE ops o := by
  refine List.mem_append_left _ ?_
  rw [h1]
  simp [h2, h3]
end pairs

section
variable {P : Program} {X : Ctx} {fi : Fi} {ops : List Oper} {wins : List (Nat × Nat × Nat)} {base top : Nat} {σ0 : St} {L : Nat → Bool} {r s : Rec} {T T1 T2 : List Rec}

theorem RecOk.isMem (h : RecOk P X fi ops wins base top σ0 r T) : r.eff.isMem = true ↔ okind r.s.o = .chain := by
  rcases h.did with ⟨_, _, ⟨h1, h2⟩ | ⟨h1, h2⟩⟩ | ⟨_, ⟨h1, _, _, _, _, _, _, h2⟩ | ⟨_, _, _, ⟨h1, h2⟩ | ⟨h1, _, h2, _⟩ | ⟨h1, h2⟩⟩⟩
  · simp [h1, h2, Eff.isMem]
  · simp [h1, h2, Eff.isMem]
  · simp [isCall_chain h1, h2, Eff.isMem]
  · rcases h1 with h1 | h1 <;> simp [h1, h2, Eff.isMem]
  · simp [h1, h2, Eff.isMem]
  · simp [h1, h2, Eff.isMem]

theorem RecOk.add (h : RecOk P X fi ops wins base top σ0 r T) {A : Add} (he : r.eff = .add A) : okind r.s.o = .alloc ∧ A.fits fi r.nm r.s.o := by
  rcases h.did with ⟨_, _, ⟨h1, h2⟩ | ⟨h1, h2⟩⟩ | ⟨_, ⟨h1, _, _, _, _, _, _, h2⟩ | ⟨_, _, _, ⟨h1, h2⟩ | ⟨h1, _, h2, h3, _⟩ | ⟨h1, h2⟩⟩⟩ <;> rw [he] at h2 <;> try (cases h2; done)
  simp only [Eff.add.injEq] at h2
  subst h2
  exact ⟨h1, h3⟩

theorem TrOk.split : ∀ {T2 : List Rec}, TrOk P X fi ops wins base top σ0 (T2 ++ r :: T1) → RecOk P X fi ops wins base top σ0 r T1 ∧ TrOk P X fi ops wins base top σ0 T1
  | [], h => ⟨h.2, h.1⟩
  | _ :: _, h => TrOk.split h.1

theorem TrOk.tail : ∀ {T2 : List Rec}, TrOk P X fi ops wins base top σ0 (T2 ++ T1) → TrOk P X fi ops wins base top σ0 T1
  | [], h => h
  | _ :: _, h => TrOk.tail h.1

theorem TrOk.later (h : TrOk P X fi ops wins base top σ0 (T2 ++ r :: T1)) (hs : s ∈ T2) : ∃ T21 T22, T2 = T21 ++ s :: T22 ∧ RecOk P X fi ops wins base top σ0 s (T22 ++ r :: T1) := by
  obtain ⟨T21, T22, rfl⟩ := List.append_of_mem hs
  rw [List.append_assoc, List.cons_append] at h
  exact ⟨T21, T22, rfl, h.split.1⟩

theorem TrOk.mem (h : TrOk P X fi ops wins base top σ0 T) (hs : s ∈ T) : ∃ T21 T22, T = T21 ++ s :: T22 ∧ RecOk P X fi ops wins base top σ0 s T22 := by
  obtain ⟨T21, T22, rfl⟩ := List.append_of_mem hs
  exact ⟨T21, T22, rfl, h.split.1⟩

/-- Two operations of the region are one, or one is ahead of the other. -/
theorem two_cases {x y : Rec} (hx : x ∈ T) (hy : y ∈ T) : x = y ∨ (∃ A B C, T = A ++ x :: (B ++ y :: C)) ∨ (∃ A B C, T = A ++ y :: (B ++ x :: C)) := by
  obtain ⟨A, B, rfl⟩ := List.append_of_mem hx
  simp only [List.mem_append, List.mem_cons] at hy
  rcases hy with hy | rfl | hy
  · obtain ⟨C, D, rfl⟩ := List.append_of_mem hy
    exact .inr (.inr ⟨C, D, B, by simp⟩)
  · exact .inl rfl
  · obtain ⟨C, D, rfl⟩ := List.append_of_mem hy
    exact .inr (.inl ⟨A, C, D, rfl⟩)

def Closed (L : Nat → Bool) (T : List Rec) : Prop := ∀ s ∈ T, L s.s.i = true → ∀ e ∈ s.s.o.after.toList, Region.binds .any e = true → L e.on = true

theorem anc_L : ∀ {T : List Rec}, TrOk P X fi ops wins base top σ0 T → Closed L T → ∀ s ∈ T.map (·.s), L s.i = true → ∀ j, Nat.testBit s.m j = true → L j = true
  | [], _, _ => by simp
  | r :: T, h, hc => by
    have ih := anc_L h.1 fun s hs => hc s (by simp [hs])
    intro s hs hl
    simp only [List.map_cons, List.mem_cons] at hs
    rcases hs with rfl | hs
    · exact ancOf_in ih h.2.anc (hc r (by simp) hl)
    · exact ih s hs hl

/-- An operation that may be taken now. -/
structure Sit (P : Program) (X : Ctx) (fi : Fi) (ops : List Oper) (wins : List (Nat × Nat × Nat)) (base top : Nat) (σ0 : St) (L : Nat → Bool) (T2 : List Rec) (r : Rec) (T1 : List Rec) : Prop where
  tr : TrOk P X fi ops wins base top σ0 (T2 ++ r :: T1)
  cl : Closed L (T2 ++ r :: T1)
  nl : L r.s.i = false
  rdy : ∀ e ∈ r.s.o.after.toList, Region.binds .any e = true → L e.on = true

namespace Sit
variable (S : Sit P X fi ops wins base top σ0 L T2 r T1)
include S

theorem rok : RecOk P X fi ops wins base top σ0 r T1 := S.tr.split.1

theorem anc : ∀ j, Nat.testBit r.s.m j = true → L j = true :=
  ancOf_in (anc_L S.tr.split.2 fun s hs => S.cl s (by simp [hs])) S.rok.anc S.rdy

theorem ahead (_hs : s ∈ T1) (hl : L s.s.i = false) : Nat.testBit r.s.m s.s.i = false := by
  cases h : Nat.testBit r.s.m s.s.i with
  | false => rfl
  | true => rw [S.anc _ h] at hl; cases hl

theorem behind (hs : s ∈ T2) (hl : L s.s.i = true) : Nat.testBit s.s.m r.s.i = false := by
  cases h : Nat.testBit s.s.m r.s.i with
  | false => rfl
  | true =>
    have := anc_L S.tr S.cl s.s (List.mem_map.2 ⟨s, by simp [hs], rfl⟩) hl _ h
    rw [S.nl] at this
    cases this

theorem apart1 (hs : s ∈ T1) (hl : L s.s.i = false) : apartB ops s.s.o r.s.o = true := pair_apart (S.rok.pair s hs) (S.ahead hs hl)

theorem apart2 (hs : s ∈ T2) (hl : L s.s.i = true) : apartB ops r.s.o s.s.o = true := by
  obtain ⟨_, _, _, h⟩ := S.tr.later hs
  exact pair_apart (h.pair r (by simp)) (S.behind hs hl)

/-- What an operation looks at is as it was in the one order. -/
theorem look {t : Nat} (ht : t ∈ looksE ops r.s.o) : get (ab L σ0 (T2 ++ r :: T1)).env t = get r.pre.env t := by
  rw [ab_append, ab_env_none (fun s hs hl hd => (apart_l (S.apart2 hs hl)).2.1 t hd ht), ab, S.nl, cond_false, S.rok.pre]
  refine ab_env rfl fun s hs hd => ?_
  cases hl : L s.s.i with
  | true => rfl
  | false => exact absurd ht ((apart_l (S.apart1 hs hl)).1 t hd)

theorem evs_same : ∀ x ∈ r.s.o.op.operands.toList, ev (ab L σ0 (T2 ++ r :: T1)) x = ev r.pre x := fun x hx => by
  cases x with
  | tmp t => exact S.look (looks_op hx)
  | _ => rfl

theorem wanted_same : wanted ops r.s.o (ab L σ0 (T2 ++ r :: T1)) = wanted ops r.s.o r.pre :=
  wanted_eq fun _ _ _ _ h1 h2 h3 => S.look (looks_guard h1 h2 h3)

/-- Behind a reading that stands where it stood, or behind one of the chain, nothing is missing. -/
theorem mem_pre (h1 : ∀ s ∈ T1, okind s.s.o = .chain ∨ okind s.s.o = .alloc → L s.s.i = true) : (ab L σ0 T1).mem = r.pre.mem := by
  rw [S.rok.pre]
  refine ab_mem_eq rfl fun s hs hq => ?_
  obtain ⟨_, _, _, hok⟩ := S.tr.split.2.mem hs
  rw [h1 s hs ?_]
  · rfl
  · cases he : s.eff with
    | nop => rw [he] at hq; cases hq
    | mem bx h => exact .inl (hok.isMem.1 (by rw [he]; rfl))
    | add A => exact .inr (hok.add he).1

theorem chain1 (hk : okind r.s.o = .chain) : ∀ s ∈ T1, okind s.s.o = .chain ∨ okind s.s.o = .alloc → L s.s.i = true := fun s hs h => by
  cases hl : L s.s.i with
  | true => rfl
  | false =>
    obtain ⟨g1, g2, _⟩ := pair_chain (S.rok.pair s hs) (S.ahead hs hl) hk
    rcases h with h | h
    · exact absurd h g1
    · exact absurd h g2

/-- Behind an operation of the chain, or one that makes something, nothing of the chain has been taken. -/
theorem noMem2 (hk : okind r.s.o = .chain ∨ okind r.s.o = .alloc) : NoMem L T2 := fun s hs hm => by
  cases hl : L s.s.i with
  | false => rfl
  | true =>
    obtain ⟨_, _, _, h⟩ := S.tr.later hs
    obtain ⟨g1, g2, _⟩ := pair_chain (h.pair r (by simp)) (S.behind hs hl) (h.isMem.1 hm)
    rcases hk with hk | hk
    · exact absurd hk g1
    · exact absurd hk g2

end Sit

/-- The chain is taken in its order. -/
theorem preOk : ∀ {T : List Rec}, TrOk P X fi ops wins base top σ0 T → Closed L T → PreOk L T
  | [], _, _ => trivial
  | x :: T, h, hc => ⟨preOk h.1 fun s hs => hc s (by simp [hs]), fun hm hl s hs hm' => by
    cases hls : L s.s.i with
    | true => rfl
    | false =>
      obtain ⟨_, _, _, hs'⟩ := h.1.mem hs
      have hb : Nat.testBit x.s.m s.s.i = false := by
        cases hb : Nat.testBit x.s.m s.s.i with
        | false => rfl
        | true => rw [anc_L h hc x.s (by simp) hl _ hb] at hls; cases hls
      exact absurd (hs'.isMem.1 hm') (pair_chain (h.2.pair s hs) hb (h.2.isMem.1 hm)).1⟩
end
end E
end Go.Proofs.Ytibdplfdmncgiaa

/-
  An abstract machine of this place's own: a region that draws its order: what holds between its operations. No condition.
-/
namespace Go.Proofs.Ytibdplfdmncgiaa
open Go.RowKit
namespace E

def Add.fresh : Add → Mem → Prop
  | .box t _, m => get m.1 t = none
  | .blk b _, m => m.2.get b = none

def with1 (L : Nat → Bool) (i : Nat) : Nat → Bool := fun j => if j = i then true else L j

section
variable {P : Program} {X : Ctx} {fi : Fi} {ops : List Oper} {wins : List (Nat × Nat × Nat)} {base top : Nat} {σ σ0 : St} {L L' : Nat → Bool} {r s : Rec} {T T1 T2 : List Rec}

theorem with1_le {i j : Nat} (h : with1 L i j = false) : L j = false := by
  unfold with1 at h
  split at h
  · cases h
  · exact h
theorem with1_ne {i j : Nat} (h : j ≠ i) : with1 L i j = L j := by simp [with1, h]
theorem with1_same {i : Nat} : with1 L i i = true := by simp [with1]

theorem ab_congr (h : ∀ s ∈ T, L s.s.i = L' s.s.i) : ab L σ T = ab L' σ T := by
  induction T with
  | nil => rfl
  | cons r T ih => rw [ab, ab, ih fun s hs => h s (by simp [hs]), h r (by simp)]

theorem lastM_congr {m : Mem} (h : ∀ s ∈ T, s.eff.isMem = true → L s.s.i = L' s.s.i) : lastM L m T = lastM L' m T := by
  induction T with
  | nil => rfl
  | cons r T ih =>
    have ih := ih fun s hs => h s (by simp [hs])
    have h0 := h r (by simp)
    rw [lastM, lastM]
    cases he : r.eff with
    | mem bx h' => rw [he] at h0; simp only [h0 rfl, ih]
    | _ => exact ih

theorem boxSlot_dst {o : Oper} {t : Nat} (h : boxSlot fi o = some t) : o.dst = some t ∧ okind o = .alloc := by
  unfold boxSlot at h
  have key : (match o.dst with | some t => cond (fi.prom.contains t) (some t) none | none => none) = some t → o.dst = some t := fun h => by
    split at h
    · rename_i u hu
      cases hp : fi.prom.contains u <;> rw [hp] at h
      · cases h
      · simp only [cond_true, Option.some.injEq] at h
        rw [hu, h]
    · cases h
  split at h
  · rename_i ho
    exact ⟨key h, by simp [okind, ho]⟩
  · rename_i ho
    exact ⟨key h, by simp [okind, ho]⟩
  · cases h

/-- What is made behind a part of the region is not in that part. -/
theorem fresh_at (hT : TrOk P X fi ops wins base top σ0 (T2 ++ T1)) (hn : NoMem L T2)
    (hf : ∀ T2' s T1', T2 ++ T1 = T2' ++ s :: T1' → NoMem L T2' → ∀ A, s.eff = .add A → A.fresh (lastM L σ0.mem (T2 ++ T1)))
    (hs : s ∈ T2) {A : Add} (hA : s.eff = .add A) : A.fresh (ab L σ0 T1).mem := by
  obtain ⟨T21, T22, rfl⟩ := List.append_of_mem hs
  have hf := hf T21 s (T22 ++ T1) (by simp) (fun x hx => hn x (by simp [hx])) A hA
  rw [lastM_noMem hn] at hf
  obtain ⟨T12, T11, rfl, h2, h3⟩ := lastM_split L σ0 T1
  rw [← h3] at hf
  have hok : RecOk P X fi ops wins base top σ0 s (T22 ++ (T12 ++ T11)) := by
    rw [List.append_assoc, List.cons_append] at hT
    exact hT.split.1
  have hT2 : TrOk P X fi ops wins base top σ0 (T12 ++ T11) := hT.tail
  obtain ⟨hk, hfit⟩ := hok.add hA
  rw [ab_append]
  cases A with
  | box t cs =>
    show get (ab L (ab L σ0 T11) T12).bx t = none
    rw [ab_bx h2]
    cases hx : addX L T12 t with
    | none => exact hf
    | some y =>
      obtain ⟨q, g1, _, g3⟩ := addX_mem hx
      obtain ⟨_, T', _, hq⟩ := hT2.mem (List.mem_append_left _ g1)
      obtain ⟨_, gf⟩ := hq.add g3
      exact absurd (boxSlot_dst hfit).1 (pair_alloc (hok.pair q (by simp [g1])) (.inr hk) t (boxSlot_dst gf).1)
  | blk b x =>
    show (ab L (ab L σ0 T11) T12).h.get b = none
    rw [ab_h h2]
    cases hx : addH L T12 b with
    | none => exact hf
    | some y =>
      obtain ⟨q, g1, _, g3⟩ := addH_mem hx
      obtain ⟨_, T', _, hq⟩ := hT2.mem (List.mem_append_left _ g1)
      obtain ⟨_, gf⟩ := hq.add g3
      have := hok.nmD q (by simp [g1]) gf.2.1
      have e1 : b = q.nm := gf.1
      have e2 : b = s.nm := hfit.1
      omega

/-- What holds between the operations. -/
structure Inv (P : Program) (X : Ctx) (fi : Fi) (base top : Nat) (σ0 : St) (T : List Rec) (β0 : Pls) (μ0 : Fms) (w0 : World) (L : Nat → Bool) (a : Act) (w : World) (β : Pls) (μ : Fms) : Prop where
  s : SRel (ab L σ0 T).h.next β μ fi.nt (ab L σ0 T) a w
  st : Step β0 μ0 σ0 w0 β μ (ab L σ0 T) w
  old : ∀ b, b < base → β b = β0 b
  top : top ≤ (ab L σ0 T).h.next
  nms : ∀ r ∈ T, L r.s.i = false → makes fi r.s.o = true → β r.nm = none
  bxs : ∀ r ∈ T, L r.s.i = false → ∀ t, boxSlot fi r.s.o = some t → μ t = none ∧ ((ab L σ0 T).env.any fun p => mentionsV t p.2) = false
  fresh : ∀ T2 r T1, T = T2 ++ r :: T1 → NoMem L T2 → ∀ A, r.eff = .add A → A.fresh (lastM L σ0.mem T)

theorem mentions_none {β : Pls} {μ : Fms} {t : Nat} (hμ : μ t = none) {v : V} {x : Value} (h : VRel β μ v x) : mentionsV t v = false := by
  have key : ∀ {c : C} {x : Value}, CRel β μ c x → mentionsC t c = false := fun {c x} h => by
    cases c with
    | lp u o =>
      obtain ⟨r, h1, _⟩ := h
      show Nat.beq u t = false
      refine nbeq_ne fun e => ?_
      subst e
      rw [hμ] at h1
      cases h1
    | _ => rfl
  have keys : ∀ {cs : List C} {xs : List Value}, All2 (CRel β μ) cs xs → cs.any (mentionsC t) = false := fun {cs} => by
    induction cs with
    | nil => intro _ _; rfl
    | cons c cs ih =>
      intro xs h
      cases xs with
      | nil => exact h.elim
      | cons x xs => rw [List.any_cons, key h.1, ih h.2]; rfl
  cases v with
  | one c => exact key h
  | agg cs => obtain ⟨l, _, h2⟩ := h; exact keys h2
  | tup vs =>
    obtain ⟨l, _, h2⟩ := h
    rw [mentionsV, List.any_eq_false]
    intro u hu
    obtain ⟨i, hi⟩ := List.getElem?_of_mem hu
    obtain ⟨y, _, hy⟩ := h2.get hi
    cases u with
    | one c => show ¬ mentionsC t c = true; rw [key hy]; simp
    | agg cs => obtain ⟨l, _, h3⟩ := hy; show ¬ cs.any (mentionsC t) = true; rw [keys h3]; simp
    | tup _ => exact hy.elim

namespace Sit
variable (S : Sit P X fi ops wins base top σ0 L T2 r T1)
include S

theorem ne1 (hs : s ∈ T1) : s.s.i ≠ r.s.i := siFind_none S.rok.new s.s (List.mem_map.2 ⟨s, hs, rfl⟩)
theorem ne2 (hs : s ∈ T2) : s.s.i ≠ r.s.i := by
  obtain ⟨_, _, _, h⟩ := S.tr.later hs
  exact (siFind_none h.new r.s (List.mem_map.2 ⟨r, by simp, rfl⟩)).symm

theorem ab_old : ab L σ0 (T2 ++ r :: T1) = ab L (ab L σ0 T1) T2 := by rw [ab_append, ab, S.nl, cond_false]
theorem ab_new : ab (with1 L r.s.i) σ0 (T2 ++ r :: T1) = ab L (r.act (ab L σ0 T1)) T2 := by
  rw [ab_append, ab, with1_same, cond_true, ab_congr (T := T2) (L' := L) fun s hs => with1_ne (S.ne2 hs), ab_congr (T := T1) (L' := L) fun s hs => with1_ne (S.ne1 hs)]

theorem env_new (t : Nat) : get (ab (with1 L r.s.i) σ0 (T2 ++ r :: T1)).env t = if r.s.o.dst = some t then some r.v else get (ab L σ0 (T2 ++ r :: T1)).env t := by
  rw [S.ab_new, S.ab_old]
  split
  · rename_i hd
    rw [ab_env_none fun s hs hl => (apart_l (S.apart2 hs hl)).2.2 t hd, Rec.act, get_setE, if_pos hd]
  · rename_i hd
    refine ab_env ?_ fun _ _ _ => rfl
    rw [Rec.act, get_setE, if_neg hd, eff_env]

theorem mem_new {p : Nat × V} (h : p ∈ (ab (with1 L r.s.i) σ0 (T2 ++ r :: T1)).env) : p ∈ (ab L σ0 (T2 ++ r :: T1)).env ∨ p.2 = r.v := by
  rw [ab_mem] at h
  rcases h with h | ⟨s, h1, h2, h3, h4⟩
  · exact .inl (ab_mem.2 (.inl h))
  · by_cases he : s.s.i = r.s.i
    · right
      simp only [List.mem_append, List.mem_cons] at h1
      rcases h1 with h1 | rfl | h1
      · exact absurd he (S.ne2 h1)
      · exact h4.symm
      · exact absurd he (S.ne1 h1)
    · rw [with1_ne he] at h2
      exact .inl (ab_mem.2 (.inr ⟨s, h1, h2, h3, h4⟩))

/-- Two that make something have other names, other slots. -/
theorem names (hs : s ∈ T2 ++ r :: T1) (hne : s.s.i ≠ r.s.i) (h1 : makes fi s.s.o = true) (h2 : makes fi r.s.o = true) : s.nm ≠ r.nm := by
  simp only [List.mem_append, List.mem_cons] at hs
  rcases hs with hs | rfl | hs
  · obtain ⟨_, _, _, h⟩ := S.tr.later hs
    have := h.nmD r (by simp) h2
    omega
  · exact absurd rfl hne
  · have := S.rok.nmD s hs h1
    omega

theorem slots (hs : s ∈ T2 ++ r :: T1) (hne : s.s.i ≠ r.s.i) (hk : okind s.s.o = .alloc) {t : Nat} (hd : s.s.o.dst = some t) : r.s.o.dst ≠ some t := by
  simp only [List.mem_append, List.mem_cons] at hs
  rcases hs with hs | rfl | hs
  · obtain ⟨_, _, _, h⟩ := S.tr.later hs
    exact fun he => pair_alloc (h.pair r (by simp)) (.inr hk) t he hd
  · exact absurd rfl hne
  · exact pair_alloc (S.rok.pair s hs) (.inl hk) t hd

/-- Behind an operation: what holds then. -/
theorem fin {β β' β0 : Pls} {μ μ' μ0 : Fms} {a : Act} {w w' w0 : World} {σ1 : St} {x : Value}
    (hI : Inv P X fi base top σ0 (T2 ++ r :: T1) β0 μ0 w0 L a w β μ)
    (hS : SRel (ab (with1 L r.s.i) σ0 (T2 ++ r :: T1)).h.next β' μ' fi.nt σ1 a w')
    (hst : Step β μ (ab L σ0 (T2 ++ r :: T1)) w β' μ' σ1 w')
    (henv : σ1.env = (ab L σ0 (T2 ++ r :: T1)).env) (hmem : MemLe (ab (with1 L r.s.i) σ0 (T2 ++ r :: T1)) σ1) (hv : VRel β' μ' r.v x)
    (hN : (ab L σ0 (T2 ++ r :: T1)).h.next ≤ (ab (with1 L r.s.i) σ0 (T2 ++ r :: T1)).h.next)
    (hβ : ∀ b, b < top → (b ≠ r.nm ∨ makes fi r.s.o = false) → β' b = β b) (hμ : ∀ t, r.s.o.dst ≠ some t → μ' t = μ t)
    (hb : base ≤ top)
    (hfr : ∀ T2' s T1', T2 ++ r :: T1 = T2' ++ s :: T1' → NoMem (with1 L r.s.i) T2' → ∀ A, s.eff = .add A → A.fresh (lastM (with1 L r.s.i) σ0.mem (T2 ++ r :: T1))) :
    Inv P X fi base top σ0 (T2 ++ r :: T1) β0 μ0 w0 (with1 L r.s.i) (a.put r.s.o.dst x) w' β' μ' := by
  have hdst := S.rok.dst
  have hput : put fi r.s.o.dst r.v σ1 = some (setE r.s.o.dst r.v σ1) := by
    cases hd : r.s.o.dst with
    | none => rfl
    | some t => simp only [put, if_pos (hdst t hd)]; rfl
  obtain ⟨h1, h2, h3⟩ := put_ok hS hv hput
  have hnm : makes fi r.s.o = false ∨ r.nm ≥ base := .inr S.rok.nmLo
  refine ⟨h1.less (fun t v h => ?_) ⟨fun t cs h => ?_, fun b y h => ?_⟩, (hI.st.trans hst).same hmem, fun b hb' => ?_, Nat.le_trans hI.top hN, fun s hs hl hm => ?_, fun s hs hl t ht => ?_, hfr⟩
  · rw [S.env_new] at h
    rw [get_setE, henv]
    exact h
  · rw [h3]; exact hmem.1 t cs h
  · rw [h2]; exact hmem.2 b y h
  · rw [hβ b (Nat.lt_of_lt_of_le hb' hb) (.inl (by have := S.rok.nmLo; omega))]
    exact hI.old b hb'
  · obtain ⟨_, _, _, hok⟩ := S.tr.mem hs
    have hl' := with1_le hl
    have hne : s.s.i ≠ r.s.i := fun e => by rw [e, with1_same] at hl; cases hl
    rw [hβ _ (hok.nmHi hm) ?_]
    · exact hI.nms s hs hl' hm
    · cases hmr : makes fi r.s.o with
      | false => exact .inr rfl
      | true => exact .inl (S.names hs hne hm hmr)
  · have hl' := with1_le hl
    have hne : s.s.i ≠ r.s.i := fun e => by rw [e, with1_same] at hl; cases hl
    obtain ⟨hd, hk⟩ := boxSlot_dst ht
    obtain ⟨g1, g2⟩ := hI.bxs s hs hl' t ht
    have hμt : μ' t = none := by rw [hμ t (S.slots hs hne hk hd)]; exact g1
    refine ⟨hμt, ?_⟩
    rw [List.any_eq_false] at g2 ⊢
    intro p hp
    rcases S.mem_new hp with hp | hp
    · exact g2 p hp
    · rw [hp, mentions_none hμt hv]; simp

/-- .. of an operation that is none of the chain. -/
theorem fresh_other {β : Pls} {μ : Fms} {β0 : Pls} {μ0 : Fms} {a : Act} {w w0 : World} (hI : Inv P X fi base top σ0 (T2 ++ r :: T1) β0 μ0 w0 L a w β μ) (hm : r.eff.isMem = false) :
    ∀ T2' s T1', T2 ++ r :: T1 = T2' ++ s :: T1' → NoMem (with1 L r.s.i) T2' → ∀ A, s.eff = .add A → A.fresh (lastM (with1 L r.s.i) σ0.mem (T2 ++ r :: T1)) := fun T2' s T1' he hn A hA => by
  rw [lastM_congr (L := with1 L r.s.i) (L' := L) fun x hx hxm => with1_ne fun e => ?_]
  · exact hI.fresh T2' s T1' he (fun x hx hxm => with1_le (hn x hx hxm)) A hA
  · simp only [List.mem_append, List.mem_cons] at hx
    rcases hx with hx | rfl | hx
    · exact S.ne2 hx e
    · rw [hm] at hxm; cases hxm
    · exact S.ne1 hx e
end Sit
end
end E
end Go.Proofs.Ytibdplfdmncgiaa

/-
  An abstract machine of this place's own: a region that draws its order: an operation that is taken now. No condition.
-/
namespace Go.Proofs.Ytibdplfdmncgiaa
open Go.RowKit
namespace E

section
variable {P : Program} {X : Ctx} {fi : Fi} {ops : List Oper} {wins : List (Nat × Nat × Nat)} {base top : Nat} {σ σ1 σ1' σ' σ0 : St} {L L' : Nat → Bool} {r s : Rec} {T T1 T2 : List Rec}
variable {N N' nm nt : Nat} {β β' β0 : Pls} {μ μ' μ0 : Fms} {a : Act} {w w' w0 : World} {o : Oper} {v : V} {x : Value}

theorem after_fresh (hS : SRel N β μ nt σ a w) (hm : MemLe σ1 σ) (hst : Step β μ σ1 w β' μ' σ1' w') (_hS' : SRel N' β' μ' nt σ1' a w') {b : Nat} {y : Blk} (h1 : σ.h.get b = some y) (h2 : σ1.h.get b = none) (h3 : y.rw = true) : σ1'.h.get b = none := by
  cases hz : σ1'.h.get b with
  | none => rfl
  | some z =>
    exfalso
    obtain ⟨p, hp, hb⟩ := hS.heap.blk b y h1
    rcases hst.blks b z p hz (hst.ext b p hp) with ⟨b0, x0, p0, k1, k2, k3⟩ | hge
    · exact hS.heap.apart b b0 y x0 p p0 (fun e => by subst e; rw [h2] at k1; cases k1) h1 (hm.2 b0 x0 k1) hp k2 h3 k3.symm
    · have := hb.lt
      omega

theorem after_freshX (hS : SRel N β μ nt σ a w) (hm : MemLe σ1 σ) (hst : Step β μ σ1 w β' μ' σ1' w') {t : Nat} {y : List C} (h1 : get σ.bx t = some y) (h2 : get σ1.bx t = none) (h3 : μ' t = μ t) : get σ1'.bx t = none := by
  cases hz : get σ1'.bx t with
  | none => rfl
  | some z =>
    exfalso
    obtain ⟨q, hq, hb⟩ := hS.box t y h1
    rcases hst.own q (.inr ⟨t, z, hz, by rw [h3]; exact hq⟩) with hmn | hge
    · rcases hmn with ⟨b0, x0, p0, e1, e2, e3, e4⟩ | ⟨t0, cs0, e1, e2⟩
      · exact hS.hap t y b0 x0 p0 h1 (hm.2 b0 x0 e1) e3 (by rw [hq, e4])
      · exact hS.bxap t t0 y cs0 q (fun e => by subst e; rw [h2] at e1; cases e1) h1 (hm.1 t0 cs0 e1) hq e2
    · have := hb.lt
      omega

theorem addH_some {b : Nat} {y : Blk} (hs : s ∈ T) (hl : L s.s.i = true) (he : s.eff = .add (.blk b y)) : ∃ z, addH L T b = some z := by
  induction T with
  | nil => cases hs
  | cons r T ih =>
    rw [addH]
    simp only [List.mem_cons] at hs
    rcases hs with rfl | hs
    · rw [he]
      simp [hl]
    · obtain ⟨z, hz⟩ := ih hs
      split
      · split
        · exact ⟨_, rfl⟩
        · exact ⟨z, hz⟩
      · exact ⟨z, hz⟩

theorem addX_some {b : Nat} {y : List C} (hs : s ∈ T) (hl : L s.s.i = true) (he : s.eff = .add (.box b y)) : ∃ z, addX L T b = some z := by
  induction T with
  | nil => cases hs
  | cons r T ih =>
    rw [addX]
    simp only [List.mem_cons] at hs
    rcases hs with rfl | hs
    · rw [he]
      simp [hl]
    · obtain ⟨z, hz⟩ := ih hs
      split
      · split
        · exact ⟨_, rfl⟩
        · exact ⟨z, hz⟩
      · exact ⟨z, hz⟩

/-- An operation, in the model: names only where something is made. -/
theorem op_at (hT : TtOk P X) (hF : FlatOk P X) (hS : SRel N β μ nt σ a w) (h1 : makes fi o = true → nm < N ∧ β nm = none) (h : ∀ nm', (nm' = nm ∨ makes fi o = false) → op P X fi nm' o σ = some (v, σ')) : OpOk P fi N nm β μ nt σ a w o v σ' := by
  cases hm : makes fi o with
  | true =>
    obtain ⟨g1, g2⟩ := h1 hm
    exact op_ok hT hF (Nat.le_refl _) g1 g2 hS (h nm (.inl rfl))
  | false =>
    obtain ⟨n, x, w', β', μ', k1, k2, k3, k4, k5, k6, k7, k8⟩ := op_ok (N' := N + 1) (nm := N) hT hF (Nat.le_succ _) (Nat.lt_succ_self _) (hS.heap.fresh _ (Nat.le_refl _)) hS (h N (.inr hm))
    refine ⟨n, x, w', β', μ', k1, k2, k3, ⟨⟨fun b hb => ?_, k4.heap.blk, k4.heap.apart⟩, k4.size, k4.defers, k4.env, k4.box, k4.bxap, k4.hap⟩, k5, fun b _ => k6 b (.inr hm), k7, k8⟩
    rw [k6 b (.inr hm)]
    exact hS.heap.fresh b hb

theorem nMem_tight : ∀ {T : List Rec}, nMem allL T ≤ nMem L T → ∀ s ∈ T, s.eff.isMem = true → L s.s.i = true := fun {T} => by
  induction T with
  | nil => intro _ s hs; cases hs
  | cons r T ih =>
    intro h
    have hle : nMem L T ≤ nMem allL T := nMem_le T
    have key : (r.eff.isMem = true → L r.s.i = true) ∧ nMem allL T ≤ nMem L T := by
      cases hm : r.eff.isMem <;> cases hl : L r.s.i <;> simp [nMem, hm, hl, show allL r.s.i = true from rfl] at h ⊢ <;> omega
    intro s hs hm
    simp only [List.mem_cons] at hs
    rcases hs with rfl | hs
    · exact key.1 hm
    · exact ih key.2 s hs hm

theorem chainAnc_le {m : Nat} (hm : ∀ j, Nat.testBit m j = true → L j = true) : ∀ {T : List Rec}, TrOk P X fi ops wins base top σ0 T → chainAnc m (T.map (·.s)) ≤ nMem L T := fun {T} => by
  induction T with
  | nil => intro _; exact Nat.le_refl _
  | cons r T ih =>
    intro h
    have ih := ih h.1
    rw [List.map_cons, chainAnc, nMem]
    cases hb : Nat.testBit m r.s.i with
    | false =>
      rw [Bool.and_false, cond_false]
      cases r.eff.isMem && L r.s.i <;> simp only [cond_true, cond_false] <;> omega
    | true =>
      rw [hm _ hb, Bool.and_true, Bool.and_true]
      have : (okind r.s.o).isChain = r.eff.isMem := by
        have := h.2.isMem
        cases he : r.eff.isMem with
        | true => rw [this.1 he]; rfl
        | false =>
          cases hk : okind r.s.o with
          | chain => rw [this.2 hk] at he; cases he
          | _ => rfl
      rw [this]
      cases r.eff.isMem <;> simp only [cond_true, cond_false] <;> omega

namespace Sit
variable (S : Sit P X fi ops wins base top σ0 L T2 r T1)
include S

/-- What is made behind the operation is not in what stands ahead of it. -/
theorem freshH (hI : Inv P X fi base top σ0 (T2 ++ r :: T1) β0 μ0 w0 L a w β μ) (hn : NoMem L T2) {A : Add} (hs : s ∈ T2) (hA : s.eff = .add A) : A.fresh (ab L σ0 T1).mem := by
  have := fresh_at (T1 := r :: T1) S.tr hn (hI.fresh) hs hA
  rw [ab, S.nl, cond_false] at this
  exact this

theorem le1 (hI : Inv P X fi base top σ0 (T2 ++ r :: T1) β0 μ0 w0 L a w β μ) (hn : NoMem L T2) : MemLe (ab L σ0 T1) (ab L σ0 (T2 ++ r :: T1)) := by
  rw [S.ab_old]
  refine ab_le hn (fun b y h => ?_) fun t y h => ?_
  · obtain ⟨s, h1, _, h3⟩ := addH_mem h
    exact S.freshH hI hn h1 h3
  · obtain ⟨s, h1, _, h3⟩ := addX_mem h
    exact S.freshH hI hn h1 h3

theorem nnew : (ab (with1 L r.s.i) σ0 (T2 ++ r :: T1)).h.next = (ab L (r.act (ab L σ0 T1)) T2).h.next := by rw [S.ab_new]

/-- An operation of the chain. -/
theorem chain_fin (hI : Inv P X fi base top σ0 (T2 ++ r :: T1) β0 μ0 w0 L a w β μ) (hk : okind r.s.o = .chain) {bx' : List (Nat × List C)} {h' : Heap} (he : r.eff = .mem bx' h') (hb : base ≤ top)
    (hS' : SRel h'.next β' μ' fi.nt ⟨(ab L σ0 (T2 ++ r :: T1)).env, bx', h'⟩ a w')
    (hst : Step β μ ⟨(ab L σ0 (T2 ++ r :: T1)).env, r.pre.bx, r.pre.h⟩ w β' μ' ⟨(ab L σ0 (T2 ++ r :: T1)).env, bx', h'⟩ w')
    (hv : VRel β' μ' r.v x) (hN : (ab L σ0 (T2 ++ r :: T1)).h.next ≤ h'.next)
    (hβ : ∀ b, b < top → (b ≠ r.nm ∨ makes fi r.s.o = false) → β' b = β b) (hμ : ∀ t, r.s.o.dst ≠ some t → μ' t = μ t) :
    Inv P X fi base top σ0 (T2 ++ r :: T1) β0 μ0 w0 (with1 L r.s.i) (a.put r.s.o.dst x) w' β' μ' := by
  have hn := S.noMem2 (.inl hk)
  have hpre := S.mem_pre (S.chain1 hk)
  have hp1 : (ab L σ0 T1).bx = r.pre.bx := congrArg Prod.fst hpre
  have hp2 : (ab L σ0 T1).h = r.pre.h := congrArg Prod.snd hpre
  have hm : MemLe ⟨(ab L σ0 (T2 ++ r :: T1)).env, r.pre.bx, r.pre.h⟩ (ab L σ0 (T2 ++ r :: T1)) := by
    have := S.le1 hI hn
    refine ⟨fun t cs h => this.1 t cs (by rw [hp1]; exact h), fun b y h => this.2 b y (by rw [hp2]; exact h)⟩
  have hact : (r.act (ab L σ0 T1)).bx = bx' ∧ (r.act (ab L σ0 T1)).h = h' := by
    simp only [Rec.act, setE_bx, setE_h, he, Eff.on, and_self]
  have hnext : (ab (with1 L r.s.i) σ0 (T2 ++ r :: T1)).h.next = h'.next := by
    rw [S.ab_new, ab_next hn, hact.2]
  -- what the later ones have made
  have hslot : ∀ s ∈ T2, ∀ t cs, s.eff = .add (.box t cs) → μ' t = μ t := fun s hs t cs hA => by
    obtain ⟨_, _, _, hok⟩ := S.tr.later hs
    obtain ⟨_, hf⟩ := hok.add hA
    obtain ⟨hd, hka⟩ := boxSlot_dst hf
    exact hμ t (S.slots (by simp [hs]) (S.ne2 hs) hka hd)
  obtain ⟨k1, k2⟩ := readd (σ' := { ab (with1 L r.s.i) σ0 (T2 ++ r :: T1) with env := (ab L σ0 (T2 ++ r :: T1)).env }) hI.s hm hS' hst (fun b y h => by
      have h : (ab (with1 L r.s.i) σ0 (T2 ++ r :: T1)).h.get b = some y := h
      rw [S.ab_new, ab_h hn, hact.2] at h
      cases hx : addH L T2 b with
      | none => rw [hx] at h; exact .inl h
      | some z =>
        rw [hx] at h
        simp only [Option.some_or, Option.some.injEq] at h
        subst h
        right
        obtain ⟨s, g1, g2, g3⟩ := addH_mem hx
        have hfr : (ab L σ0 T1).h.get b = none := S.freshH hI hn g1 g3
        obtain ⟨_, _, _, hok⟩ := S.tr.later g1
        refine ⟨?_, by rw [← hp2]; exact hfr, (hok.add g3).2.2.2⟩
        rw [S.ab_old, ab_h hn, hx]
        rfl) (fun t cs h => by
      have h : get (ab (with1 L r.s.i) σ0 (T2 ++ r :: T1)).bx t = some cs := h
      rw [S.ab_new, ab_bx hn, hact.1] at h
      cases hx : addX L T2 t with
      | none => rw [hx] at h; exact .inl h
      | some z =>
        rw [hx] at h
        simp only [Option.some_or, Option.some.injEq] at h
        subst h
        right
        obtain ⟨s, g1, g2, g3⟩ := addX_mem hx
        have hfr : get (ab L σ0 T1).bx t = none := S.freshH hI hn g1 g3
        refine ⟨?_, by rw [← hp1]; exact hfr, hslot s g1 t _ g3⟩
        rw [S.ab_old, ab_bx hn, hx]
        rfl) (fun _ _ h => h)
  refine S.fin hI (by rw [hnext]; exact k1) k2 rfl ⟨fun _ _ h => h, fun _ _ h => h⟩ hv (by rw [hnext]; exact hN) hβ hμ hb fun T2' s T1' hdec hn' A hA => ?_
  have hlast : lastM (with1 L r.s.i) σ0.mem (T2 ++ r :: T1) = (bx', h') := by
    rw [lastM_noMem fun x hx hxm => by rw [with1_ne (S.ne2 hx)]; exact hn x hx hxm]
    simp only [lastM, he, with1_same, cond_true]
  rw [hlast]
  have hs2 : s ∈ T2 := by
    have hne : s ≠ r := fun e => by rw [e, he] at hA; cases hA
    rcases List.append_eq_append_iff.1 hdec with ⟨us, e1, e2⟩ | ⟨us, e1, e2⟩
    · cases us with
      | nil => simp only [List.nil_append, List.cons.injEq] at e2; exact absurd e2.1.symm hne
      | cons c us =>
        simp only [List.cons_append, List.cons.injEq] at e2
        have := hn' r (by rw [e1, ← e2.1]; simp) (by rw [he]; rfl)
        rw [with1_same] at this
        cases this
    · cases us with
      | nil => simp only [List.nil_append, List.cons.injEq] at e2; exact absurd e2.1 hne
      | cons c us =>
        simp only [List.cons_append, List.cons.injEq] at e2
        rw [e1, ← e2.1]
        simp
  obtain ⟨_, _, _, hok⟩ := S.tr.later hs2
  obtain ⟨hka, hfit⟩ := hok.add hA
  have hfr := S.freshH hI hn hs2 hA
  cases A with
  | box t cs =>
    show get bx' t = none
    obtain ⟨hd, _⟩ := boxSlot_dst hfit
    cases hl : L s.s.i with
    | false =>
      cases hz : get bx' t with
      | none => rfl
      | some z =>
        obtain ⟨q, hq, _⟩ := hS'.box t z hz
        rw [hslot s hs2 t cs hA, (hI.bxs s (by simp [hs2]) hl t hfit).1] at hq
        cases hq
    | true =>
      obtain ⟨z, hz⟩ := addX_some (L := L) hs2 hl hA
      refine after_freshX (σ1' := ⟨(ab L σ0 (T2 ++ r :: T1)).env, bx', h'⟩) (y := z) hI.s hm hst ?_ ?_ (hslot s hs2 t cs hA)
      · rw [S.ab_old, ab_bx hn, hz]; rfl
      · show get r.pre.bx t = none
        rw [← hp1]; exact hfr
  | blk b y =>
    show h'.get b = none
    obtain ⟨hb1, hmk, hrw⟩ := hfit
    cases hl : L s.s.i with
    | false =>
      cases hz : h'.get b with
      | none => rfl
      | some z =>
        obtain ⟨q, hq, _⟩ := hS'.heap.blk b z hz
        rw [hβ b (by rw [hb1]; exact hok.nmHi hmk) ?_, hb1, hI.nms s (by simp [hs2]) hl hmk] at hq
        · cases hq
        · cases hmr : makes fi r.s.o with
          | false => exact .inr rfl
          | true => rw [hb1]; exact .inl (S.names (by simp [hs2]) (S.ne2 hs2) hmk hmr)
    | true =>
      obtain ⟨z, hz⟩ := addH_some (L := L) hs2 hl hA
      obtain ⟨s', g1, _, g3⟩ := addH_mem hz
      obtain ⟨_, _, _, hok'⟩ := S.tr.later g1
      refine after_fresh (σ1' := ⟨(ab L σ0 (T2 ++ r :: T1)).env, bx', h'⟩) (y := z) hI.s hm hst hS' ?_ ?_ (hok'.add g3).2.2.2
      · rw [S.ab_old, ab_h hn, hz]; rfl
      · show r.pre.h.get b = none
        rw [← hp2]; exact hfr

/-- A part of the state: what the chain's operation had ahead of it. -/
theorem weak (hI : Inv P X fi base top σ0 (T2 ++ r :: T1) β0 μ0 w0 L a w β μ) (hk : okind r.s.o = .chain) :
    SRel r.pre.h.next β μ fi.nt ⟨(ab L σ0 (T2 ++ r :: T1)).env, r.pre.bx, r.pre.h⟩ a w ∧ (ab L σ0 (T2 ++ r :: T1)).h.next = r.pre.h.next := by
  have hn := S.noMem2 (.inl hk)
  have hpre := S.mem_pre (S.chain1 hk)
  have hp1 : (ab L σ0 T1).bx = r.pre.bx := congrArg Prod.fst hpre
  have hp2 : (ab L σ0 T1).h = r.pre.h := congrArg Prod.snd hpre
  have hnx : (ab L σ0 (T2 ++ r :: T1)).h.next = r.pre.h.next := by rw [S.ab_old, ab_next hn, hp2]
  have := S.le1 hI hn
  refine ⟨?_, hnx⟩
  rw [← hnx]
  exact hI.s.less (fun _ _ h => h) ⟨fun t cs h => this.1 t cs (by rw [hp1]; exact h), fun b y h => this.2 b y (by rw [hp2]; exact h)⟩

/-- What a reading reads now. -/
theorem reading (hI : Inv P X fi base top σ0 (T2 ++ r :: T1) β0 μ0 w0 L a w β μ) (hk : okind r.s.o = .read) (hw : wanted ops r.s.o r.pre = some true)
    (hR : r.s.tight = false → RdOk P X fi (mems σ0.mem (T2 ++ r :: T1)) ⟨r.s.o, r.pre.env, r.v, r.lo, r.s.hi⟩) (nm' : Nat) :
    op P X fi nm' r.s.o (ab L σ0 (T2 ++ r :: T1)) = some (r.v, ab L σ0 (T2 ++ r :: T1)) := by
  have hrd := S.rok.rd
  rw [readOk, hk] at hrd
  simp only [Bool.and_eq_true, Nat.ble_eq] at hrd
  obtain ⟨hlo, hhi⟩ := hrd
  have hlo' : r.lo ≤ nMem L T1 := Nat.le_trans hlo (chainAnc_le S.anc S.tr.split.2)
  have hrm : r.eff.isMem = false := by
    cases h : r.eff.isMem with
    | false => rfl
    | true => rw [S.rok.isMem.1 h] at hk; cases hk
  have hr0 : ∀ L : Nat → Bool, nMem L (r :: T1) = nMem L T1 := fun L => by rw [nMem, hrm, Bool.false_and, cond_false]
  cases ht : r.s.tight with
  | true =>
    have hb := S.rok.bnd
    rw [ht, boundsOf] at hb
    split at hb
    · simp at hb
    simp only [Prod.mk.injEq, and_true] at hb
    obtain ⟨hb1, hb2⟩ := hb
    have hcnt := S.rok.cnt
    have hall := nMem_tight (L := L) (T := T1) (by omega)
    have h1 : ∀ s ∈ T1, okind s.s.o = .chain ∨ okind s.s.o = .alloc → L s.s.i = true := fun s hs h => by
      obtain ⟨_, _, _, hok⟩ := S.tr.split.2.mem hs
      rcases h with h | h
      · exact hall s hs (hok.isMem.2 h)
      · cases hl : L s.s.i with
        | true => rfl
        | false => exact absurd h (pair_read (S.rok.pair s hs) (S.ahead hs hl) hk ht)
    have hn : NoMem L T2 := fun s hs hm => by
      cases hl : L s.s.i with
      | false => rfl
      | true =>
        obtain ⟨T21, T22, _, h⟩ := S.tr.later hs
        have := (pair_chain (h.pair r (by simp)) (S.behind hs hl) (h.isMem.1 hm)).2.2 hk
        have hc := h.cnt
        rw [nMem_append, hr0] at hc
        omega
    have hpre := S.mem_pre h1
    have hm : MemLe r.pre (ab L σ0 (T2 ++ r :: T1)) := (MemLe.of_mem hpre.symm).trans (S.le1 hI hn)
    rcases S.rok.did with ⟨h, _⟩ | ⟨_, ⟨h, _⟩ | ⟨_, σ1, hop, _⟩⟩
    · rw [hw] at h; cases h
    · rw [isCall_chain h] at hk; cases hk
    · exact (op_float (.inr hk) S.evs_same (fun _ => hm) hop).1
  | false =>
    have hR := hR ht
    have hpo := preOk S.tr S.cl
    have hat := lastM_at σ0.mem hpo
    have hk1 : r.lo ≤ nMem L (T2 ++ r :: T1) := by rw [nMem_append, hr0]; omega
    have hk2 : nMem L (T2 ++ r :: T1) ≤ r.s.hi := by
      have hcnt := S.rok.cnt
      have hle : nMem L T1 ≤ nMem allL T1 := nMem_le T1
      have key : ∀ T2' T3, T2 = T3 ++ T2' → nMem L T2' + nMem allL T1 ≤ r.s.hi := fun T2' => by
        induction T2' with
        | nil => intro _ _; rw [nMem]; omega
        | cons s T2' ih =>
          intro T3 e
          have ih := ih (T3 ++ [s]) (by rw [e]; simp)
          rw [nMem]
          cases hsm : s.eff.isMem with
          | false => rw [Bool.false_and, cond_false]; exact ih
          | true =>
            cases hl : L s.s.i with
            | false => rw [Bool.and_false, cond_false]; exact ih
            | true =>
              rw [Bool.and_true, cond_true]
              have htr := S.tr
              rw [e, List.append_assoc, List.cons_append] at htr
              have hok := htr.split.1
              have hb := S.behind (s := s) (by rw [e]; simp) hl
              have := (pair_chain (hok.pair r (by simp)) hb (hok.isMem.1 hsm)).2.2 hk
              have hc := hok.cnt
              rw [nMem_append, hr0] at hc
              have : nMem L T2' ≤ nMem allL T2' := nMem_le T2'
              omega
      have := key T2 [] rfl
      rw [nMem_append, hr0]
      omega
    have hval := hR _ _ hk1 hk2 hat
    simp only [readAt, Option.map_eq_some_iff] at hval
    obtain ⟨⟨v', σ2⟩, hop, hv⟩ := hval
    simp only at hv
    subst hv
    refine (op_float (.inr hk) (fun y hy => ?_) (fun _ => ?_) hop).1
    · rw [S.evs_same y hy]
      cases y <;> rfl
    · obtain ⟨T3, T4, e1, e2, e3⟩ := lastM_split L σ0 (T2 ++ r :: T1)
      have htr := S.tr
      rw [e1] at htr ⊢
      have hfr := hI.fresh
      rw [e1] at hfr
      refine MemLe.trans (τ := ab L σ0 T4) (MemLe.of_mem ?_) ?_
      · rw [e3, e1]; rfl
      · rw [ab_append]
        refine ab_le e2 (fun b y h => ?_) fun t y h => ?_
        · obtain ⟨s, h1, _, h3⟩ := addH_mem h
          exact fresh_at htr e2 hfr h1 h3
        · obtain ⟨s, h1, _, h3⟩ := addX_mem h
          exact fresh_at htr e2 hfr h1 h3
end Sit
end
end E
end Go.Proofs.Ytibdplfdmncgiaa
