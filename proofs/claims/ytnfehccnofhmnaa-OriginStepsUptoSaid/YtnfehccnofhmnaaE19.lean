/-
  An abstract machine of this place's own: what is made beside; what is taken from a state and given back behind a step. No condition.
-/
import Derived.Test.YtnfehccnofhmnaaE18
set_option linter.all false
namespace Go.Proofs.Ytnfehccnofhmnaa
open Go.RowKit
namespace E

/-- The blocks that a part of a region has made. -/
def addH (L : Nat → Bool) : List Rec → Nat → Option Blk
  | [], _ => none
  | r :: T, b => match r.eff with
    | .add (.blk b' x) => if L r.s.i = true ∧ b' = b then some x else addH L T b
    | _ => addH L T b

/-- The frame's variables that it has made. -/
def addX (L : Nat → Bool) : List Rec → Nat → Option (List C)
  | [], _ => none
  | r :: T, t => match r.eff with
    | .add (.box t' x) => if L r.s.i = true ∧ t' = t then some x else addX L T t
    | _ => addX L T t

def NoMem (L : Nat → Bool) (T : List Rec) : Prop := ∀ r ∈ T, r.eff.isMem = true → L r.s.i = false

section
variable {L L' : Nat → Bool} {σ σ0 : St} {r : Rec} {T T1 T2 : List Rec}

theorem addH_mem {b : Nat} {x : Blk} (h : addH L T b = some x) : ∃ r ∈ T, L r.s.i = true ∧ r.eff = .add (.blk b x) := by
  induction T with
  | nil => cases h
  | cons r T ih =>
    rw [addH] at h
    split at h
    · rename_i b' y he
      split at h
      · rename_i hc
        simp only [Option.some.injEq] at h
        subst h
        obtain ⟨h1, rfl⟩ := hc
        exact ⟨r, by simp, h1, he⟩
      · obtain ⟨s, h1, h2⟩ := ih h
        exact ⟨s, by simp [h1], h2⟩
    · obtain ⟨s, h1, h2⟩ := ih h
      exact ⟨s, by simp [h1], h2⟩

theorem addX_mem {b : Nat} {x : List C} (h : addX L T b = some x) : ∃ r ∈ T, L r.s.i = true ∧ r.eff = .add (.box b x) := by
  induction T with
  | nil => cases h
  | cons r T ih =>
    rw [addX] at h
    split at h
    · rename_i b' y he
      split at h
      · rename_i hc
        simp only [Option.some.injEq] at h
        subst h
        obtain ⟨h1, rfl⟩ := hc
        exact ⟨r, by simp, h1, he⟩
      · obtain ⟨s, h1, h2⟩ := ih h
        exact ⟨s, by simp [h1], h2⟩
    · obtain ⟨s, h1, h2⟩ := ih h
      exact ⟨s, by simp [h1], h2⟩

theorem ab_h (hn : NoMem L T) (b : Nat) : (ab L σ T).h.get b = (addH L T b).or (σ.h.get b) := by
  induction T with
  | nil => rfl
  | cons r T ih =>
    have ih := ih fun s hs => hn s (by simp [hs])
    have h0 := hn r (by simp)
    rw [ab, addH]
    cases hl : L r.s.i with
    | false =>
      rw [cond_false, ih]
      cases he : r.eff with
      | add A => cases A <;> simp
      | _ => rfl
    | true =>
      rw [cond_true, Rec.act, setE_h]
      cases he : r.eff with
      | nop => exact ih
      | mem => rw [he] at h0; rw [h0 rfl] at hl; cases hl
      | add A =>
        cases A with
        | box t cs => exact ih
        | blk b' x =>
          simp only [Eff.on, Add.on, Heap.get_set, true_and]
          split
          · rfl
          · exact ih

theorem ab_bx (hn : NoMem L T) (t : Nat) : get (ab L σ T).bx t = (addX L T t).or (get σ.bx t) := by
  induction T with
  | nil => rfl
  | cons r T ih =>
    have ih := ih fun s hs => hn s (by simp [hs])
    have h0 := hn r (by simp)
    rw [ab, addX]
    cases hl : L r.s.i with
    | false =>
      rw [cond_false, ih]
      cases he : r.eff with
      | add A => cases A <;> simp
      | _ => rfl
    | true =>
      rw [cond_true, Rec.act, setE_bx]
      cases he : r.eff with
      | nop => exact ih
      | mem => rw [he] at h0; rw [h0 rfl] at hl; cases hl
      | add A =>
        cases A with
        | blk b x => exact ih
        | box t' x =>
          simp only [Eff.on, Add.on, get_cons, true_and]
          split
          · rfl
          · exact ih

theorem ab_next (hn : NoMem L T) : (ab L σ T).h.next = σ.h.next := by
  induction T with
  | nil => rfl
  | cons r T ih =>
    have ih := ih fun s hs => hn s (by simp [hs])
    have h0 := hn r (by simp)
    rw [ab]
    cases hl : L r.s.i with
    | false => exact ih
    | true =>
      rw [cond_true, Rec.act, setE_h]
      cases he : r.eff with
      | nop => exact ih
      | mem => rw [he] at h0; rw [h0 rfl] at hl; cases hl
      | add A => cases A <;> exact ih

/-- What was there ahead is there behind what is made. -/
theorem ab_le (hn : NoMem L T) (hb : ∀ b x, addH L T b = some x → σ.h.get b = none) (ht : ∀ t x, addX L T t = some x → get σ.bx t = none) : MemLe σ (ab L σ T) := by
  refine ⟨fun t cs h => ?_, fun b x h => ?_⟩
  · rw [ab_bx hn]
    cases hx : addX L T t with
    | none => exact h
    | some y => rw [ht t y hx] at h; cases h
  · rw [ab_h hn]
    cases hx : addH L T b with
    | none => exact h
    | some y => rw [hb b y hx] at h; cases h

theorem lastM_split (L : Nat → Bool) (σ0 : St) (T : List Rec) : ∃ T2 T1, T = T2 ++ T1 ∧ NoMem L T2 ∧ (ab L σ0 T1).mem = lastM L σ0.mem T := by
  induction T with
  | nil => exact ⟨[], [], rfl, (fun _ h => by cases h), rfl⟩
  | cons r T ih =>
    obtain ⟨T2, T1, h1, h2, h3⟩ := ih
    have ext : (r.eff.isMem = true → L r.s.i = false) → lastM L σ0.mem (r :: T) = lastM L σ0.mem T → ∃ T2 T1, r :: T = T2 ++ T1 ∧ NoMem L T2 ∧ (ab L σ0 T1).mem = lastM L σ0.mem (r :: T) := fun hr he =>
      ⟨r :: T2, T1, by rw [h1]; rfl, fun s hs => by
        simp only [List.mem_cons] at hs
        rcases hs with rfl | hs
        · exact hr
        · exact h2 s hs, by rw [he]; exact h3⟩
    cases he : r.eff with
    | nop => exact ext (by simp [he, Eff.isMem]) (by simp [lastM, he])
    | add A => exact ext (by simp [he, Eff.isMem]) (by simp [lastM, he])
    | mem bx h =>
      cases hl : L r.s.i with
      | false => exact ext (fun _ => hl) (by simp [lastM, he, hl])
      | true =>
        refine ⟨[], r :: T, rfl, fun _ h => (by cases h), ?_⟩
        simp only [ab, hl, cond_true, Rec.act, setE_mem, lastM, he]
        rfl

theorem lastM_noMem (hn : NoMem L T2) {m : Mem} : lastM L m (T2 ++ T1) = lastM L m T1 := by
  induction T2 with
  | nil => rfl
  | cons r T2 ih =>
    have ih := ih fun s hs => hn s (by simp [hs])
    have h0 := hn r (by simp)
    rw [List.cons_append, lastM]
    cases he : r.eff with
    | mem bx h => rw [he] at h0; simp only [h0 rfl, cond_false]; exact ih
    | _ => exact ih
end

/-! ### States that hold the same -/
section
variable {P : Program} {N N' nt : Nat} {β β' : Pls} {μ μ' : Fms} {σ σ1 σ' σ1' : St} {a : Act} {w w' : World}

/-- A part of a state. -/
theorem SRel.less (hS : SRel N β μ nt σ a w) (he : ∀ t v, get σ1.env t = some v → get σ.env t = some v) (hm : MemLe σ1 σ) : SRel N β μ nt σ1 a w where
  heap := ⟨hS.heap.fresh, fun b x h => hS.heap.blk b x (hm.2 b x h), fun b b' x x' p p' h0 h1 h2 => hS.heap.apart b b' x x' p p' h0 (hm.2 b x h1) (hm.2 b' x' h2)⟩
  size := hS.size
  defers := hS.defers
  env := fun t v h => hS.env t v (he t v h)
  box := fun t cs h => hS.box t cs (hm.1 t cs h)
  bxap := fun t t' cs cs' r h0 h1 h2 => hS.bxap t t' cs cs' r h0 (hm.1 t cs h1) (hm.1 t' cs' h2)
  hap := fun t cs b x p h1 h2 => hS.hap t cs b x p (hm.1 t cs h1) (hm.2 b x h2)

theorem mine_less (hm : MemLe σ1 σ) {r : Nat} (h : mine β μ σ1 r) : mine β μ σ r := by
  rcases h with ⟨b, x, p, h1, h2⟩ | ⟨t, cs, h1, h2⟩
  · exact .inl ⟨b, x, p, hm.2 b x h1, h2⟩
  · exact .inr ⟨t, cs, hm.1 t cs h1, h2⟩

theorem Step.same (hst : Step β μ σ w β' μ' σ1 w') (hm : MemLe σ' σ1) : Step β μ σ w β' μ' σ' w' :=
  ⟨hst.ext, hst.os, hst.tape, hst.output, hst.size, hst.fr, fun r h => hst.own r (mine_less hm h), fun b x p h1 h2 => hst.blks b x p (hm.2 b x h1) h2⟩

theorem MemLe.of_mem (h : σ.mem = σ1.mem) : MemLe σ σ1 := by
  simp only [St.mem, Prod.mk.injEq] at h
  exact ⟨fun t cs e => by rw [← h.1]; exact e, fun b x e => by rw [← h.2]; exact e⟩

theorem MemLe.trans {σ τ υ : St} (h : MemLe σ τ) (k : MemLe τ υ) : MemLe σ υ := ⟨fun t cs e => k.1 t cs (h.1 t cs e), fun b x e => k.2 b x (h.2 b x e)⟩

/-- A step of a part of a state is a step of the whole: what was not taken is as it was. -/
theorem readd (hS : SRel N β μ nt σ a w) (hm : MemLe σ1 σ) (hS' : SRel N' β' μ' nt σ1' a w') (hst : Step β μ σ1 w β' μ' σ1' w')
    (hh : ∀ b x, σ'.h.get b = some x → σ1'.h.get b = some x ∨ (σ.h.get b = some x ∧ σ1.h.get b = none ∧ x.rw = true))
    (hx : ∀ t cs, get σ'.bx t = some cs → get σ1'.bx t = some cs ∨ (get σ.bx t = some cs ∧ get σ1.bx t = none ∧ μ' t = μ t))
    (he : ∀ t v, get σ'.env t = some v → get σ1'.env t = some v) : SRel N' β' μ' nt σ' a w' ∧ Step β μ σ w β' μ' σ' w' := by
  -- what was not taken: blocks
  have hold : ∀ b x, σ.h.get b = some x → σ1.h.get b = none → x.rw = true → ∃ p, β b = some p ∧ β' b = some p ∧ BRel β p x w ∧ ¬ mine β μ σ1 p.rb ∧ w'.heap[p.rb]? = w.heap[p.rb]? := fun b x h1 h2 h3 => by
    obtain ⟨p, hp, hb⟩ := hS.heap.blk b x h1
    have hnm : ¬ mine β μ σ1 p.rb := fun hmn => by
      rcases hmn with ⟨b0, x0, p0, e1, e2, e3, e4⟩ | ⟨t, cs, e1, e2⟩
      · exact hS.heap.apart b0 b x0 x p0 p (fun e => by subst e; rw [h2] at e1; cases e1) (hm.2 b0 x0 e1) h1 e3 hp e2 e4
      · exact hS.hap t cs b x p (hm.1 t cs e1) h1 hp e2
    exact ⟨p, hp, hst.ext b p hp, hb, hnm, hst.fr _ hb.lt hnm⟩
  have holdx : ∀ t cs, get σ.bx t = some cs → get σ1.bx t = none → ∃ r, μ t = some r ∧ XRel β r cs w ∧ ¬ mine β μ σ1 r ∧ w'.heap[r]? = w.heap[r]? := fun t cs h1 h2 => by
    obtain ⟨r, hr, hb⟩ := hS.box t cs h1
    have hnm : ¬ mine β μ σ1 r := fun hmn => by
      rcases hmn with ⟨b0, x0, p0, e1, e2, e3, e4⟩ | ⟨t0, cs0, e1, e2⟩
      · exact hS.hap t cs b0 x0 p0 h1 (hm.2 b0 x0 e1) e3 (by rw [hr, e4])
      · exact hS.bxap t t0 cs cs0 r (fun e => by subst e; rw [h2] at e1; cases e1) h1 (hm.1 t0 cs0 e1) hr e2
    exact ⟨r, hr, hb, hnm, hst.fr _ hb.lt hnm⟩
  -- where a block of the new state lies, against one that was not taken
  have hnew : ∀ b x p, σ1'.h.get b = some x → β' b = some p → ∀ b' x' p', σ.h.get b' = some x' → σ1.h.get b' = none → x'.rw = true → β b' = some p' → p.rb ≠ p'.rb := fun b x p h1 h2 b' x' p' g1 g2 g3 g4 e => by
    rcases hst.blks b x p h1 h2 with ⟨b0, x0, p0, k1, k2, k3⟩ | hge
    · exact hS.heap.apart b' b0 x' x0 p' p0 (fun e => by subst e; rw [g2] at k1; cases k1) g1 (hm.2 b0 x0 k1) g4 k2 g3 (by rw [k3, e])
    · obtain ⟨q, hq, hb⟩ := hS.heap.blk b' x' g1
      rw [g4, Option.some.injEq] at hq
      subst hq
      have := hb.lt
      omega
  refine ⟨⟨⟨hS'.heap.fresh, fun b x h => ?_, fun b b' x x' p p' h0 h1 h2 h3 h4 h5 => ?_⟩, hS'.size, hS'.defers, fun t v h => hS'.env t v (he t v h), fun t cs h => ?_, fun t t' cs cs' r h0 h1 h2 h3 h4 => ?_, fun t cs b x p h1 h2 h3 h4 => ?_⟩, ?_⟩
  · rcases hh b x h with h | ⟨h1, h2, h3⟩
    · exact hS'.heap.blk b x h
    · obtain ⟨p, hp, hp', hb, _, hw⟩ := hold b x h1 h2 h3
      exact ⟨p, hp', hb.up hst.ext hw⟩
  · rcases hh b x h1 with g | ⟨g1, g2, g3⟩ <;> rcases hh b' x' h2 with k | ⟨k1, k2, k3⟩
    · exact hS'.heap.apart b b' x x' p p' h0 g k h3 h4 h5
    · obtain ⟨q, hq, hq', _⟩ := hold b' x' k1 k2 k3
      rw [hq', Option.some.injEq] at h4
      subst h4
      exact hnew b x p g h3 b' x' q k1 k2 k3 hq
    · obtain ⟨q, hq, hq', _⟩ := hold b x g1 g2 g3
      rw [hq', Option.some.injEq] at h3
      subst h3
      exact fun e => hnew b' x' p' k h4 b x q g1 g2 g3 hq e.symm
    · obtain ⟨q, hq, hq', _⟩ := hold b x g1 g2 g3
      obtain ⟨q', hk, hk', _⟩ := hold b' x' k1 k2 k3
      rw [hq', Option.some.injEq] at h3
      rw [hk', Option.some.injEq] at h4
      subst h3; subst h4
      exact hS.heap.apart b b' x x' q q' h0 g1 k1 hq hk h5
  · rcases hx t cs h with h | ⟨h1, h2, h3⟩
    · exact hS'.box t cs h
    · obtain ⟨r, hr, hb, _, hw⟩ := holdx t cs h1 h2
      exact ⟨r, by rw [h3]; exact hr, hb.up hst.ext hw⟩
  · have hmix : ∀ t cs t' cs', t ≠ t' → get σ1'.bx t = some cs → μ' t = some r → get σ.bx t' = some cs' → get σ1.bx t' = none → μ t' = some r → False := fun t cs t' cs' h0 h1 h2 g1 g2 g3 => by
      obtain ⟨r', hr', hb, hnm, _⟩ := holdx t' cs' g1 g2
      rw [g3, Option.some.injEq] at hr'
      subst hr'
      rcases hst.own r (.inr ⟨t, cs, h1, h2⟩) with h | h
      · exact hnm h
      · have := hb.lt
        omega
    rcases hx t cs h1 with g | ⟨g1, g2, g3⟩ <;> rcases hx t' cs' h2 with k | ⟨k1, k2, k3⟩
    · exact hS'.bxap t t' cs cs' r h0 g k h3 h4
    · exact hmix t cs t' cs' h0 g h3 k1 k2 (by rw [← k3]; exact h4)
    · exact hmix t' cs' t cs h0.symm k h4 g1 g2 (by rw [← g3]; exact h3)
    · exact hS.bxap t t' cs cs' r h0 g1 k1 (by rw [← g3]; exact h3) (by rw [← k3]; exact h4)
  · rcases hx t cs h1 with g | ⟨g1, g2, g3⟩ <;> rcases hh b x h2 with k | ⟨k1, k2, k3⟩
    · exact hS'.hap t cs b x p g k h3 h4
    · obtain ⟨q, hq, hq', hb, hnm, _⟩ := hold b x k1 k2 k3
      rw [hq', Option.some.injEq] at h3
      subst h3
      rcases hst.own q.rb (.inr ⟨t, cs, g, h4⟩) with h | h
      · exact hnm h
      · have := hb.lt
        omega
    · obtain ⟨r, hr, hb, _⟩ := holdx t cs g1 g2
      rw [g3, hr, Option.some.injEq] at h4
      rcases hst.blks b x p k h3 with ⟨b0, x0, p0, e1, e2, e3⟩ | hge
      · exact hS.hap t cs b0 x0 p0 g1 (hm.2 b0 x0 e1) e2 (by rw [hr, h4, e3])
      · have := hb.lt
        omega
    · obtain ⟨q, hq, hq', _⟩ := hold b x k1 k2 k3
      rw [hq', Option.some.injEq] at h3
      subst h3
      exact hS.hap t cs b x q g1 k1 hq (by rw [← g3]; exact h4)
  · refine ⟨hst.ext, hst.os, hst.tape, hst.output, hst.size, fun r hr hn => hst.fr r hr fun h => hn (mine_less hm h), fun r h => ?_, fun b x p h1 h2 => ?_⟩
    · rcases h with ⟨b, x, p, e1, e2, e3, e4⟩ | ⟨t, cs, e1, e2⟩
      · rcases hh b x e1 with g | ⟨g1, g2, g3⟩
        · exact (hst.own r (.inl ⟨b, x, p, g, e2, e3, e4⟩)).imp (mine_less hm) id
        · obtain ⟨q, hq, hq', _⟩ := hold b x g1 g2 g3
          rw [hq', Option.some.injEq] at e3
          subst e3
          exact .inl (.inl ⟨b, x, q, g1, e2, hq, e4⟩)
      · rcases hx t cs e1 with g | ⟨g1, g2, g3⟩
        · exact (hst.own r (.inr ⟨t, cs, g, e2⟩)).imp (mine_less hm) id
        · exact .inl (.inr ⟨t, cs, g1, by rw [← g3]; exact e2⟩)
    · rcases hh b x h1 with g | ⟨g1, g2, g3⟩
      · exact (hst.blks b x p g h2).imp (fun ⟨b0, x0, p0, k1, k2⟩ => ⟨b0, x0, p0, hm.2 b0 x0 k1, k2⟩) id
      · obtain ⟨q, hq, hq', _⟩ := hold b x g1 g2 g3
        rw [hq', Option.some.injEq] at h2
        subst h2
        exact .inl ⟨b, x, q, g1, hq, rfl⟩
end
end E
end Go.Proofs.Ytnfehccnofhmnaa
