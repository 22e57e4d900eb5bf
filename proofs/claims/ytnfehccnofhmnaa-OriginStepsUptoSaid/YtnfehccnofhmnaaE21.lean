/-
  An abstract machine of this place's own: a region that draws its order: what may stand ahead of what. No condition.
-/
import Derived.Test.YtnfehccnofhmnaaE20
set_option linter.all false
namespace Go.Proofs.Ytnfehccnofhmnaa
open Go.RowKit
namespace E

theorem memN_iff {t : Nat} : ∀ {l : List Nat}, memN t l = true ↔ t ∈ l
  | [] => by simp [memN]
  | x :: l => by
    have ih := memN_iff (t := t) (l := l)
    simp only [memN, Bool.or_eq_true, ih, List.mem_cons]
    constructor
    · rintro (h | h)
      · exact .inl (Nat.eq_of_beq_eq_true h).symm
      · exact .inr h
    · rintro (rfl | h)
      · exact .inl (Nat.beq_refl _)
      · exact .inr h

theorem siFind_some {i : Nat} {s : SI} : ∀ {done : List SI}, siFind done i = some s → s ∈ done ∧ s.i = i
  | [], h => by cases h
  | x :: l, h => by
    rw [siFind] at h
    cases hb : Nat.beq x.i i with
    | true =>
      rw [hb] at h
      simp only [cond_true, Option.some.injEq] at h
      subst h
      exact ⟨by simp, Nat.eq_of_beq_eq_true hb⟩
    | false =>
      rw [hb] at h
      obtain ⟨h1, h2⟩ := siFind_some (done := l) h
      exact ⟨by simp [h1], h2⟩

theorem siFind_none {i : Nat} : ∀ {done : List SI}, siFind done i = none → ∀ s ∈ done, s.i ≠ i
  | [], _ => by simp
  | x :: l, h => by
    rw [siFind] at h
    cases hb : Nat.beq x.i i with
    | true => rw [hb] at h; cases h
    | false =>
      rw [hb] at h
      intro s hs
      simp only [List.mem_cons] at hs
      rcases hs with rfl | hs
      · intro e
        rw [e, Nat.beq_refl] at hb
        cases hb
      · exact siFind_none (done := l) h s hs

theorem ancOf_in {L : Nat → Bool} {done : List SI} (hd : ∀ s ∈ done, L s.i = true → ∀ j, Nat.testBit s.m j = true → L j = true) : ∀ {es : List Edge} {m : Nat}, ancOf done es = some m → (∀ e ∈ es, Region.binds .any e = true → L e.on = true) → ∀ j, Nat.testBit m j = true → L j = true
  | [], m, h, _, j, hj => by
    simp only [ancOf, Option.some.injEq] at h
    subst h
    simp at hj
  | e :: es, m, h, he, j, hj => by
    rw [ancOf] at h
    cases hb : Region.binds .any e with
    | false =>
      rw [hb] at h
      exact ancOf_in hd (es := es) h (fun x hx => he x (by simp [hx])) j hj
    | true =>
      rw [hb, cond_true] at h
      split at h
      · rename_i s m' hs hm'
        simp only [Option.some.injEq] at h
        subst h
        obtain ⟨h1, h2⟩ := siFind_some hs
        have hon := he e (by simp) hb
        rw [Nat.testBit_or, Nat.testBit_or] at hj
        simp only [Bool.or_eq_true] at hj
        rcases hj with hj | hj | hj
        · exact ancOf_in hd (es := es) hm' (fun x hx => he x (by simp [hx])) j hj
        · exact hd s h1 (by rw [h2]; exact hon) j hj
        · rw [Nat.testBit_shiftLeft] at hj
          simp only [Bool.and_eq_true, decide_eq_true_eq] at hj
          obtain ⟨h3, h4⟩ := hj
          have : j - e.on = 0 := by
            by_cases h0 : j - e.on = 0
            · exact h0
            · exact absurd (Nat.testBit_one_eq_true_iff_self_eq_zero.1 h4) h0
          have : j = e.on := by omega
          rw [this]
          exact hon
      · cases h

section pairs
variable {ops : List Oper} {s t : SI} {c : Nat}

theorem pair_apart (h : pairOk ops t c s = true) (hb : Nat.testBit t.m s.i = false) : apartB ops s.o t.o = true := by
  unfold pairOk at h
  rw [hb, Bool.false_or] at h
  simp only [Bool.and_eq_true] at h
  exact h.2.1

theorem pair_chain (h : pairOk ops t c s = true) (hb : Nat.testBit t.m s.i = false) (hk : okind t.o = .chain) : okind s.o ≠ .chain ∧ okind s.o ≠ .alloc ∧ (okind s.o = .read → c < s.hi) := by
  unfold pairOk at h
  rw [hb, Bool.false_or] at h
  simp only [Bool.and_eq_true, hk] at h
  obtain ⟨_, _, h⟩ := h
  refine ⟨fun he => ?_, fun he => ?_, fun he => ?_⟩
  · rw [he] at h; cases h
  · rw [he] at h; cases h
  · rw [he] at h; simpa [Nat.blt_eq] using h

theorem pair_read (h : pairOk ops t c s = true) (hb : Nat.testBit t.m s.i = false) (hk : okind t.o = .read) (ht : t.tight = true) : okind s.o ≠ .alloc := by
  unfold pairOk at h
  rw [hb, Bool.false_or] at h
  simp only [Bool.and_eq_true, hk, ht, Bool.true_and] at h
  obtain ⟨_, _, h⟩ := h
  intro he
  rw [he] at h
  cases h

theorem dstEq_refl (d : Nat) : dstEq (some d) (some d) = true := Nat.beq_refl d

theorem pair_alloc (h : pairOk ops t c s = true) (hk : okind s.o = .alloc ∨ okind t.o = .alloc) : ∀ d, s.o.dst = some d → t.o.dst ≠ some d := by
  unfold pairOk at h
  simp only [Bool.and_eq_true] at h
  intro d h1 h2
  have h := h.1
  rw [h1, h2, dstEq_refl] at h
  rcases hk with hk | hk <;> rw [hk] at h <;> simp [OK.isAlloc] at h

theorem apart_l {x y : Oper} (h : apartB ops x y = true) : (∀ d, x.dst = some d → d ∉ looksE ops y) ∧ (∀ d, y.dst = some d → d ∉ looksE ops x) ∧ (∀ d, x.dst = some d → y.dst ≠ some d) := by
  unfold apartB at h
  simp only [Bool.and_eq_true, Bool.not_eq_true'] at h
  obtain ⟨⟨h1, h2⟩, h3⟩ := h
  refine ⟨fun d hd hm => ?_, fun d hd hm => ?_, fun d hd hy => ?_⟩
  · rw [hd] at h1
    have : memN d (looksE ops y) = true := memN_iff.2 hm
    simp only [dstIn, this] at h1
    cases h1
  · rw [hd] at h2
    have : memN d (looksE ops x) = true := memN_iff.2 hm
    simp only [dstIn, this] at h2
    cases h2
  · rw [hd, hy, dstEq_refl] at h3
    cases h3

theorem tmpsOf_mem {u : Nat} : ∀ {l : List Operand}, Operand.tmp u ∈ l → u ∈ tmpsOf l
  | [], h => by cases h
  | x :: l, h => by
    simp only [List.mem_cons] at h
    rcases h with rfl | h
    · simp [tmpsOf]
    · have := tmpsOf_mem h
      cases x <;> simp [tmpsOf, this]

theorem looks_op {o : Oper} {u : Nat} (h : Operand.tmp u ∈ o.op.operands.toList) : u ∈ looksE ops o := List.mem_append_right _ (tmpsOf_mem h)

theorem looks_guard {o oj : Oper} {j u : Nat} {want : Bool} (h1 : o.guard = some (j, want)) (h2 : ops[j]? = some oj) (h3 : oj.dst = some u) : u ∈ looksE ops o := by
  refine List.mem_append_left _ ?_
  rw [h1]
  simp [h2, h3]
end pairs

section
variable {P : Program} {X : Ctx} {fi : Fi} {ops : List Oper} {wins : List (Nat × Nat × Nat)} {base top : Nat} {σ0 : St} {L : Nat → Bool} {r s : Rec} {T T1 T2 : List Rec}

theorem RecOk.isMem (h : RecOk P X fi ops wins base top σ0 r T) : r.eff.isMem = true ↔ okind r.s.o = .chain := by
  rcases h.did with ⟨_, _, ⟨h1, h2⟩ | ⟨h1, h2⟩⟩ | ⟨_, ⟨h1, _, _, _, _, _, _, h2⟩ | ⟨_, _, _, ⟨h1, h2⟩ | ⟨h1, _, h2, _⟩ | ⟨h1, h2⟩⟩⟩
  · simp [h1, h2, Eff.isMem]
  · simp [h1, h2, Eff.isMem]
  · simp [isCall_chain h1, h2, Eff.isMem]
  · rcases h1 with h1 | h1 <;> simp [h1, h2, Eff.isMem]
  · simp [h1, h2, Eff.isMem]
  · simp [h1, h2, Eff.isMem]

theorem RecOk.add (h : RecOk P X fi ops wins base top σ0 r T) {A : Add} (he : r.eff = .add A) : okind r.s.o = .alloc ∧ A.fits fi r.nm r.s.o := by
  rcases h.did with ⟨_, _, ⟨h1, h2⟩ | ⟨h1, h2⟩⟩ | ⟨_, ⟨h1, _, _, _, _, _, _, h2⟩ | ⟨_, _, _, ⟨h1, h2⟩ | ⟨h1, _, h2, h3, _⟩ | ⟨h1, h2⟩⟩⟩ <;> rw [he] at h2 <;> try (cases h2; done)
  simp only [Eff.add.injEq] at h2
  subst h2
  exact ⟨h1, h3⟩

theorem TrOk.split : ∀ {T2 : List Rec}, TrOk P X fi ops wins base top σ0 (T2 ++ r :: T1) → RecOk P X fi ops wins base top σ0 r T1 ∧ TrOk P X fi ops wins base top σ0 T1
  | [], h => ⟨h.2, h.1⟩
  | _ :: _, h => TrOk.split h.1

theorem TrOk.tail : ∀ {T2 : List Rec}, TrOk P X fi ops wins base top σ0 (T2 ++ T1) → TrOk P X fi ops wins base top σ0 T1
  | [], h => h
  | _ :: _, h => TrOk.tail h.1

theorem TrOk.later (h : TrOk P X fi ops wins base top σ0 (T2 ++ r :: T1)) (hs : s ∈ T2) : ∃ T21 T22, T2 = T21 ++ s :: T22 ∧ RecOk P X fi ops wins base top σ0 s (T22 ++ r :: T1) := by
  obtain ⟨T21, T22, rfl⟩ := List.append_of_mem hs
  rw [List.append_assoc, List.cons_append] at h
  exact ⟨T21, T22, rfl, h.split.1⟩

theorem TrOk.mem (h : TrOk P X fi ops wins base top σ0 T) (hs : s ∈ T) : ∃ T21 T22, T = T21 ++ s :: T22 ∧ RecOk P X fi ops wins base top σ0 s T22 := by
  obtain ⟨T21, T22, rfl⟩ := List.append_of_mem hs
  exact ⟨T21, T22, rfl, h.split.1⟩

/-- Two operations of the region are one, or one is ahead of the other. -/
theorem two_cases {x y : Rec} (hx : x ∈ T) (hy : y ∈ T) : x = y ∨ (∃ A B C, T = A ++ x :: (B ++ y :: C)) ∨ (∃ A B C, T = A ++ y :: (B ++ x :: C)) := by
  obtain ⟨A, B, rfl⟩ := List.append_of_mem hx
  simp only [List.mem_append, List.mem_cons] at hy
  rcases hy with hy | rfl | hy
  · obtain ⟨C, D, rfl⟩ := List.append_of_mem hy
    exact .inr (.inr ⟨C, D, B, by simp⟩)
  · exact .inl rfl
  · obtain ⟨C, D, rfl⟩ := List.append_of_mem hy
    exact .inr (.inl ⟨A, C, D, rfl⟩)

def Closed (L : Nat → Bool) (T : List Rec) : Prop := ∀ s ∈ T, L s.s.i = true → ∀ e ∈ s.s.o.after.toList, Region.binds .any e = true → L e.on = true

theorem anc_L : ∀ {T : List Rec}, TrOk P X fi ops wins base top σ0 T → Closed L T → ∀ s ∈ T.map (·.s), L s.i = true → ∀ j, Nat.testBit s.m j = true → L j = true
  | [], _, _ => by simp
  | r :: T, h, hc => by
    have ih := anc_L h.1 fun s hs => hc s (by simp [hs])
    intro s hs hl
    simp only [List.map_cons, List.mem_cons] at hs
    rcases hs with rfl | hs
    · exact ancOf_in ih h.2.anc (hc r (by simp) hl)
    · exact ih s hs hl

/-- An operation that may be taken now. -/
structure Sit (P : Program) (X : Ctx) (fi : Fi) (ops : List Oper) (wins : List (Nat × Nat × Nat)) (base top : Nat) (σ0 : St) (L : Nat → Bool) (T2 : List Rec) (r : Rec) (T1 : List Rec) : Prop where
  tr : TrOk P X fi ops wins base top σ0 (T2 ++ r :: T1)
  cl : Closed L (T2 ++ r :: T1)
  nl : L r.s.i = false
  rdy : ∀ e ∈ r.s.o.after.toList, Region.binds .any e = true → L e.on = true

namespace Sit
variable (S : Sit P X fi ops wins base top σ0 L T2 r T1)
include S

theorem rok : RecOk P X fi ops wins base top σ0 r T1 := S.tr.split.1

theorem anc : ∀ j, Nat.testBit r.s.m j = true → L j = true :=
  ancOf_in (anc_L S.tr.split.2 fun s hs => S.cl s (by simp [hs])) S.rok.anc S.rdy

theorem ahead (_hs : s ∈ T1) (hl : L s.s.i = false) : Nat.testBit r.s.m s.s.i = false := by
  cases h : Nat.testBit r.s.m s.s.i with
  | false => rfl
  | true => rw [S.anc _ h] at hl; cases hl

theorem behind (hs : s ∈ T2) (hl : L s.s.i = true) : Nat.testBit s.s.m r.s.i = false := by
  cases h : Nat.testBit s.s.m r.s.i with
  | false => rfl
  | true =>
    have := anc_L S.tr S.cl s.s (List.mem_map.2 ⟨s, by simp [hs], rfl⟩) hl _ h
    rw [S.nl] at this
    cases this

theorem apart1 (hs : s ∈ T1) (hl : L s.s.i = false) : apartB ops s.s.o r.s.o = true := pair_apart (S.rok.pair s hs) (S.ahead hs hl)

theorem apart2 (hs : s ∈ T2) (hl : L s.s.i = true) : apartB ops r.s.o s.s.o = true := by
  obtain ⟨_, _, _, h⟩ := S.tr.later hs
  exact pair_apart (h.pair r (by simp)) (S.behind hs hl)

/-- What an operation looks at is as it was in the one order. -/
theorem look {t : Nat} (ht : t ∈ looksE ops r.s.o) : get (ab L σ0 (T2 ++ r :: T1)).env t = get r.pre.env t := by
  rw [ab_append, ab_env_none (fun s hs hl hd => (apart_l (S.apart2 hs hl)).2.1 t hd ht), ab, S.nl, cond_false, S.rok.pre]
  refine ab_env rfl fun s hs hd => ?_
  cases hl : L s.s.i with
  | true => rfl
  | false => exact absurd ht ((apart_l (S.apart1 hs hl)).1 t hd)

theorem evs_same : ∀ x ∈ r.s.o.op.operands.toList, ev (ab L σ0 (T2 ++ r :: T1)) x = ev r.pre x := fun x hx => by
  cases x with
  | tmp t => exact S.look (looks_op hx)
  | _ => rfl

theorem wanted_same : wanted ops r.s.o (ab L σ0 (T2 ++ r :: T1)) = wanted ops r.s.o r.pre :=
  wanted_eq fun _ _ _ _ h1 h2 h3 => S.look (looks_guard h1 h2 h3)

/-- Behind a reading that stands where it stood, or behind one of the chain, nothing is missing. -/
theorem mem_pre (h1 : ∀ s ∈ T1, okind s.s.o = .chain ∨ okind s.s.o = .alloc → L s.s.i = true) : (ab L σ0 T1).mem = r.pre.mem := by
  rw [S.rok.pre]
  refine ab_mem_eq rfl fun s hs hq => ?_
  obtain ⟨_, _, _, hok⟩ := S.tr.split.2.mem hs
  rw [h1 s hs ?_]
  · rfl
  · cases he : s.eff with
    | nop => rw [he] at hq; cases hq
    | mem bx h => exact .inl (hok.isMem.1 (by rw [he]; rfl))
    | add A => exact .inr (hok.add he).1

theorem chain1 (hk : okind r.s.o = .chain) : ∀ s ∈ T1, okind s.s.o = .chain ∨ okind s.s.o = .alloc → L s.s.i = true := fun s hs h => by
  cases hl : L s.s.i with
  | true => rfl
  | false =>
    obtain ⟨g1, g2, _⟩ := pair_chain (S.rok.pair s hs) (S.ahead hs hl) hk
    rcases h with h | h
    · exact absurd h g1
    · exact absurd h g2

/-- Behind an operation of the chain, or one that makes something, nothing of the chain has been taken. -/
theorem noMem2 (hk : okind r.s.o = .chain ∨ okind r.s.o = .alloc) : NoMem L T2 := fun s hs hm => by
  cases hl : L s.s.i with
  | false => rfl
  | true =>
    obtain ⟨_, _, _, h⟩ := S.tr.later hs
    obtain ⟨g1, g2, _⟩ := pair_chain (h.pair r (by simp)) (S.behind hs hl) (h.isMem.1 hm)
    rcases hk with hk | hk
    · exact absurd hk g1
    · exact absurd hk g2

end Sit

/-- The chain is taken in its order. -/
theorem preOk : ∀ {T : List Rec}, TrOk P X fi ops wins base top σ0 T → Closed L T → PreOk L T
  | [], _, _ => trivial
  | x :: T, h, hc => ⟨preOk h.1 fun s hs => hc s (by simp [hs]), fun hm hl s hs hm' => by
    cases hls : L s.s.i with
    | true => rfl
    | false =>
      obtain ⟨_, _, _, hs'⟩ := h.1.mem hs
      have hb : Nat.testBit x.s.m s.s.i = false := by
        cases hb : Nat.testBit x.s.m s.s.i with
        | false => rfl
        | true => rw [anc_L h hc x.s (by simp) hl _ hb] at hls; cases hls
      exact absurd (hs'.isMem.1 hm') (pair_chain (h.2.pair s hs) hb (h.2.isMem.1 hm)).1⟩
end
end E
end Go.Proofs.Ytnfehccnofhmnaa
