/-
  An abstract machine of this place's own: a region that draws its order: its record, and what a part of it comes to. No condition.
-/
import Derived.Test.YtfibbhmmiemcoaaML8
import Derived.Orders
set_option linter.all false
namespace Go.Proofs.Ytfibbhmmiemcoaa
open Go.RowKit
namespace E

inductive Eff where
  | nop
  | mem (bx : List (Nat × List C)) (h : Heap)
  | add (A : Add)

def Eff.on : Eff → St → St
  | .nop, σ => σ
  | .mem bx h, σ => { σ with bx := bx, h := h }
  | .add A, σ => A.on σ

def setE (d : Option Nat) (v : V) (σ : St) : St :=
  match d with
  | none => σ
  | some t => { σ with env := (t, v) :: σ.env }

/-- What one operation of the region did, in the one order that is run: pre: ahead of it. -/
structure Rec where
  s : SI
  c : Nat
  lo : Nat
  nm : Nat
  v : V
  eff : Eff
  pre : St

def Rec.act (r : Rec) (σ : St) : St := setE r.s.o.dst r.v (r.eff.on σ)

/-- What the operations of L come to. T: the record, the last one first. -/
def ab (L : Nat → Bool) (σ0 : St) : List Rec → St
  | [] => σ0
  | r :: T => cond (L r.s.i) (r.act (ab L σ0 T)) (ab L σ0 T)

def allL : Nat → Bool := fun _ => true

section
variable {L L' : Nat → Bool} {σ σ0 : St} {r : Rec} {T T1 T2 : List Rec}

@[simp] theorem setE_bx (d : Option Nat) (v : V) (σ : St) : (setE d v σ).bx = σ.bx := by cases d <;> rfl
@[simp] theorem setE_h (d : Option Nat) (v : V) (σ : St) : (setE d v σ).h = σ.h := by cases d <;> rfl
@[simp] theorem eff_env (e : Eff) (σ : St) : (e.on σ).env = σ.env := by
  cases e with
  | nop => rfl
  | mem => rfl
  | add A => cases A <;> rfl

theorem setE_env (d : Option Nat) (v : V) (σ : St) : (setE d v σ).env = (match d with | some t => (t, v) :: σ.env | none => σ.env) := by cases d <;> rfl

theorem get_setE (d : Option Nat) (v : V) (σ : St) (t : Nat) : get (setE d v σ).env t = if d = some t then some v else get σ.env t := by
  cases d with
  | none => simp [setE]
  | some u =>
    simp only [setE, get_cons, Option.some.injEq]

theorem ab_append : ab L σ0 (T2 ++ T1) = ab L (ab L σ0 T1) T2 := by
  induction T2 with
  | nil => rfl
  | cons r T2 ih => simp only [List.cons_append, ab, ih]

/-- A slot, behind two parts of the region that hold the same of those that write it. -/
theorem ab_env {t : Nat} {τ : St} (he : get σ0.env t = get τ.env t) (h : ∀ r ∈ T, r.s.o.dst = some t → L r.s.i = L' r.s.i) : get (ab L σ0 T).env t = get (ab L' τ T).env t := by
  induction T with
  | nil => exact he
  | cons r T ih =>
    have ih := ih fun r hr => h r (by simp [hr])
    by_cases hd : r.s.o.dst = some t
    · rw [ab, ab, h r (by simp) hd]
      cases L' r.s.i with
      | true => simp only [cond_true, Rec.act, get_setE, if_pos hd]
      | false => simpa only [cond_false] using ih
    · have key : ∀ (b : Bool) (σ : St), get (cond b (r.act σ) σ).env t = get σ.env t := fun b σ => by
        cases b with
        | true => simp only [cond_true, Rec.act, get_setE, if_neg hd, eff_env]
        | false => rfl
      rw [ab, ab, key, key, ih]

theorem ab_env_none {t : Nat} (h : ∀ r ∈ T, L r.s.i = true → r.s.o.dst ≠ some t) : get (ab L σ0 T).env t = get σ0.env t := by
  induction T with
  | nil => rfl
  | cons r T ih =>
    have ih := ih fun r hr => h r (by simp [hr])
    rw [ab]
    cases hl : L r.s.i with
    | true => simp only [cond_true, Rec.act, get_setE, if_neg (h r (by simp) hl), eff_env, ih]
    | false => simpa only [cond_false] using ih

/-- The entries of the frame. -/
theorem ab_mem {p : Nat × V} : p ∈ (ab L σ0 T).env ↔ p ∈ σ0.env ∨ ∃ r ∈ T, L r.s.i = true ∧ r.s.o.dst = some p.1 ∧ r.v = p.2 := by
  induction T with
  | nil => simp [ab]
  | cons r T ih =>
    rw [ab]
    cases hl : L r.s.i with
    | false =>
      rw [cond_false, ih]
      constructor
      · rintro (h | ⟨s, h1, h2⟩)
        · exact .inl h
        · exact .inr ⟨s, by simp [h1], h2⟩
      · rintro (h | ⟨s, h1, h2⟩)
        · exact .inl h
        · simp only [List.mem_cons] at h1
          rcases h1 with rfl | h1
          · rw [hl] at h2; exact absurd h2.1 (by simp)
          · exact .inr ⟨s, h1, h2⟩
    | true =>
      rw [cond_true, Rec.act, setE_env]
      have e : (r.eff.on (ab L σ0 T)).env = (ab L σ0 T).env := eff_env _ _
      cases hd : r.s.o.dst with
      | none =>
        simp only
        rw [e, ih]
        constructor
        · rintro (h | ⟨s, h1, h2⟩)
          · exact .inl h
          · exact .inr ⟨s, by simp [h1], h2⟩
        · rintro (h | ⟨s, h1, h2⟩)
          · exact .inl h
          · simp only [List.mem_cons] at h1
            rcases h1 with rfl | h1
            · rw [hd] at h2; exact absurd h2.2.1 (by simp)
            · exact .inr ⟨s, h1, h2⟩
      | some t =>
        simp only [List.mem_cons]
        rw [e, ih]
        constructor
        · rintro (rfl | h | ⟨s, h1, h2⟩)
          · exact .inr ⟨r, .inl rfl, hl, hd, rfl⟩
          · exact .inl h
          · exact .inr ⟨s, .inr h1, h2⟩
        · rintro (h | ⟨s, rfl | h1, h2⟩)
          · exact .inr (.inl h)
          · left
            rw [hd] at h2
            obtain ⟨_, h3, h4⟩ := h2
            simp only [Option.some.injEq] at h3
            rw [h3, h4]
          · exact .inr (.inr ⟨s, h1, h2⟩)

/-! ### The memory -/
def Eff.quiet : Eff → Bool
  | .nop => true
  | _ => false
def Eff.isMem : Eff → Bool
  | .mem .. => true
  | _ => false

def St.mem (σ : St) : Mem := (σ.bx, σ.h)
@[simp] theorem setE_mem (d : Option Nat) (v : V) (σ : St) : (setE d v σ).mem = σ.mem := by cases d <;> rfl

theorem eff_mem {e : Eff} {σ τ : St} (h : σ.mem = τ.mem) : (e.on σ).mem = (e.on τ).mem := by
  simp only [St.mem, Prod.mk.injEq] at h
  cases e with
  | nop => simp [Eff.on, St.mem, h]
  | mem => rfl
  | add A => cases A <;> simp [Eff.on, Add.on, St.mem, h]

/-- The memory behind two parts that hold the same of those that do something to it. -/
theorem ab_mem_eq {τ : St} (he : σ0.mem = τ.mem) (h : ∀ r ∈ T, r.eff.quiet = false → L r.s.i = L' r.s.i) : (ab L σ0 T).mem = (ab L' τ T).mem := by
  induction T with
  | nil => exact he
  | cons r T ih =>
    have ih := ih fun r hr => h r (by simp [hr])
    by_cases hq : r.eff.quiet = true
    · have hn : r.eff = .nop := by cases hr : r.eff <;> simp_all [Eff.quiet]
      have key : ∀ (b : Bool) (σ : St), (cond b (r.act σ) σ).mem = σ.mem := fun b σ => by
        cases b with
        | true => simp only [cond_true, Rec.act, setE_mem, hn]; rfl
        | false => rfl
      rw [ab, ab, key, key, ih]
    · rw [ab, ab, h r (by simp) (by simpa using hq)]
      cases L' r.s.i with
      | true => simp only [cond_true, Rec.act, setE_mem]; exact eff_mem ih
      | false => simpa only [cond_false] using ih

/-- The memory behind the last of the chain's operations. -/
def lastM (L : Nat → Bool) (m : Mem) : List Rec → Mem
  | [] => m
  | r :: T => match r.eff with
    | .mem bx h => cond (L r.s.i) (bx, h) (lastM L m T)
    | _ => lastM L m T

/-- All the memories that the chain comes to, the last one first. -/
def mems (m : Mem) : List Rec → List Mem
  | [] => [m]
  | r :: T => match r.eff with
    | .mem bx h => (bx, h) :: mems m T
    | _ => mems m T

def nMem (L : Nat → Bool) : List Rec → Nat
  | [] => 0
  | r :: T => cond (r.eff.isMem && L r.s.i) (nMem L T + 1) (nMem L T)

theorem mems_length (m : Mem) : ∀ T, (mems m T).length = nMem allL T + 1
  | [] => rfl
  | r :: T => by
    have ih := mems_length m T
    cases he : r.eff <;> simp [mems, nMem, he, Eff.isMem, allL] <;> simpa [allL] using ih

theorem nMem_le (T : List Rec) : nMem L T ≤ nMem allL T := by
  induction T with
  | nil => exact Nat.le_refl _
  | cons r T ih =>
    cases he : r.eff.isMem <;> cases hl : L r.s.i <;> simp [nMem, he, hl, show allL r.s.i = true from rfl] <;> omega

theorem nMem_all (h : ∀ r ∈ T, r.eff.isMem = true → L r.s.i = true) : nMem L T = nMem allL T := by
  induction T with
  | nil => rfl
  | cons r T ih =>
    have ih := ih fun r hr => h r (by simp [hr])
    have h0 := h r (by simp)
    cases he : r.eff.isMem with
    | false => simpa [nMem, he] using ih
    | true => simpa [nMem, he, h0 he, allL] using ih

theorem nMem_append : nMem L (T2 ++ T1) = nMem L T2 + nMem L T1 := by
  induction T2 with
  | nil => simp [nMem]
  | cons r T2 ih =>
    rw [List.cons_append, nMem, nMem, ih]
    cases r.eff.isMem && L r.s.i <;> simp <;> omega

/-- What is chained is taken in its order. -/
def PreOk (L : Nat → Bool) : List Rec → Prop
  | [] => True
  | r :: T => PreOk L T ∧ (r.eff.isMem = true → L r.s.i = true → ∀ s ∈ T, s.eff.isMem = true → L s.s.i = true)

theorem lastM_at (m : Mem) : ∀ {T}, PreOk L T → (mems m T).reverse[nMem L T]? = some (lastM L m T)
  | [], _ => rfl
  | r :: T, h => by
    have ih := lastM_at m h.1
    have hlen := mems_length m T
    have hle : nMem L T ≤ nMem allL T := nMem_le T
    cases he : r.eff with
    | nop => simpa [mems, nMem, lastM, he, Eff.isMem] using ih
    | add A => simpa [mems, nMem, lastM, he, Eff.isMem] using ih
    | mem bx h' =>
      have hm : r.eff.isMem = true := by rw [he]; rfl
      cases hl : L r.s.i with
      | true =>
        have hall := nMem_all (T := T) (h.2 hm hl)
        simp only [mems, nMem, lastM, he, hl, Eff.isMem, Bool.and_self, cond_true, List.reverse_cons]
        rw [List.getElem?_append_right (by simp [hlen, hall])]
        simp [hlen, hall]
      | false =>
        simp only [mems, nMem, lastM, he, hl, Eff.isMem, Bool.and_false, cond_false, List.reverse_cons]
        rw [List.getElem?_append_left (by simp [hlen]; omega)]
        exact ih
end
end E
end Go.Proofs.Ytfibbhmmiemcoaa

/-
  An abstract machine of this place's own: what is made beside; what is taken from a state and given back behind a step. No condition.
-/
namespace Go.Proofs.Ytfibbhmmiemcoaa
open Go.RowKit
namespace E

/-- The blocks that a part of a region has made. -/
def addH (L : Nat → Bool) : List Rec → Nat → Option Blk
  | [], _ => none
  | r :: T, b => match r.eff with
    | .add (.blk b' x) => if L r.s.i = true ∧ b' = b then some x else addH L T b
    | _ => addH L T b

/-- The frame's variables that it has made. -/
def addX (L : Nat → Bool) : List Rec → Nat → Option (List C)
  | [], _ => none
  | r :: T, t => match r.eff with
    | .add (.box t' x) => if L r.s.i = true ∧ t' = t then some x else addX L T t
    | _ => addX L T t

def NoMem (L : Nat → Bool) (T : List Rec) : Prop := ∀ r ∈ T, r.eff.isMem = true → L r.s.i = false

section
variable {L L' : Nat → Bool} {σ σ0 : St} {r : Rec} {T T1 T2 : List Rec}

theorem addH_mem {b : Nat} {x : Blk} (h : addH L T b = some x) : ∃ r ∈ T, L r.s.i = true ∧ r.eff = .add (.blk b x) := by
  induction T with
  | nil => cases h
  | cons r T ih =>
    rw [addH] at h
    split at h
    · rename_i b' y he
      split at h
      · rename_i hc
        simp only [Option.some.injEq] at h
        subst h
        obtain ⟨h1, rfl⟩ := hc
        exact ⟨r, by simp, h1, he⟩
      · obtain ⟨s, h1, h2⟩ := ih h
        exact ⟨s, by simp [h1], h2⟩
    · obtain ⟨s, h1, h2⟩ := ih h
      exact ⟨s, by simp [h1], h2⟩

theorem addX_mem {b : Nat} {x : List C} (h : addX L T b = some x) : ∃ r ∈ T, L r.s.i = true ∧ r.eff = .add (.box b x) := by
  induction T with
  | nil => cases h
  | cons r T ih =>
    rw [addX] at h
    split at h
    · rename_i b' y he
      split at h
      · rename_i hc
        simp only [Option.some.injEq] at h
        subst h
        obtain ⟨h1, rfl⟩ := hc
        exact ⟨r, by simp, h1, he⟩
      · obtain ⟨s, h1, h2⟩ := ih h
        exact ⟨s, by simp [h1], h2⟩
    · obtain ⟨s, h1, h2⟩ := ih h
      exact ⟨s, by simp [h1], h2⟩

theorem ab_h (hn : NoMem L T) (b : Nat) : (ab L σ T).h.get b = (addH L T b).or (σ.h.get b) := by
  induction T with
  | nil => rfl
  | cons r T ih =>
    have ih := ih fun s hs => hn s (by simp [hs])
    have h0 := hn r (by simp)
    rw [ab, addH]
    cases hl : L r.s.i with
    | false =>
      rw [cond_false, ih]
      cases he : r.eff with
      | add A => cases A <;> simp
      | _ => rfl
    | true =>
      rw [cond_true, Rec.act, setE_h]
      cases he : r.eff with
      | nop => exact ih
      | mem => rw [he] at h0; rw [h0 rfl] at hl; cases hl
      | add A =>
        cases A with
        | box t cs => exact ih
        | blk b' x =>
          simp only [Eff.on, Add.on, Heap.get_set, true_and]
          split
          · rfl
          · exact ih

theorem ab_bx (hn : NoMem L T) (t : Nat) : get (ab L σ T).bx t = (addX L T t).or (get σ.bx t) := by
  induction T with
  | nil => rfl
  | cons r T ih =>
    have ih := ih fun s hs => hn s (by simp [hs])
    have h0 := hn r (by simp)
    rw [ab, addX]
    cases hl : L r.s.i with
    | false =>
      rw [cond_false, ih]
      cases he : r.eff with
      | add A => cases A <;> simp
      | _ => rfl
    | true =>
      rw [cond_true, Rec.act, setE_bx]
      cases he : r.eff with
      | nop => exact ih
      | mem => rw [he] at h0; rw [h0 rfl] at hl; cases hl
      | add A =>
        cases A with
        | blk b x => exact ih
        | box t' x =>
          simp only [Eff.on, Add.on, get_cons, true_and]
          split
          · rfl
          · exact ih

theorem ab_next (hn : NoMem L T) : (ab L σ T).h.next = σ.h.next := by
  induction T with
  | nil => rfl
  | cons r T ih =>
    have ih := ih fun s hs => hn s (by simp [hs])
    have h0 := hn r (by simp)
    rw [ab]
    cases hl : L r.s.i with
    | false => exact ih
    | true =>
      rw [cond_true, Rec.act, setE_h]
      cases he : r.eff with
      | nop => exact ih
      | mem => rw [he] at h0; rw [h0 rfl] at hl; cases hl
      | add A => cases A <;> exact ih

/-- What was there ahead is there behind what is made. -/
theorem ab_le (hn : NoMem L T) (hb : ∀ b x, addH L T b = some x → σ.h.get b = none) (ht : ∀ t x, addX L T t = some x → get σ.bx t = none) : MemLe σ (ab L σ T) := by
  refine ⟨fun t cs h => ?_, fun b x h => ?_⟩
  · rw [ab_bx hn]
    cases hx : addX L T t with
    | none => exact h
    | some y => rw [ht t y hx] at h; cases h
  · rw [ab_h hn]
    cases hx : addH L T b with
    | none => exact h
    | some y => rw [hb b y hx] at h; cases h

theorem lastM_split (L : Nat → Bool) (σ0 : St) (T : List Rec) : ∃ T2 T1, T = T2 ++ T1 ∧ NoMem L T2 ∧ (ab L σ0 T1).mem = lastM L σ0.mem T := by
  induction T with
  | nil => exact ⟨[], [], rfl, (fun _ h => by cases h), rfl⟩
  | cons r T ih =>
    obtain ⟨T2, T1, h1, h2, h3⟩ := ih
    have ext : (r.eff.isMem = true → L r.s.i = false) → lastM L σ0.mem (r :: T) = lastM L σ0.mem T → ∃ T2 T1, r :: T = T2 ++ T1 ∧ NoMem L T2 ∧ (ab L σ0 T1).mem = lastM L σ0.mem (r :: T) := fun hr he =>
      ⟨r :: T2, T1, by rw [h1]; rfl, fun s hs => by
        simp only [List.mem_cons] at hs
        rcases hs with rfl | hs
        · exact hr
        · exact h2 s hs, by rw [he]; exact h3⟩
    cases he : r.eff with
    | nop => exact ext (by simp [he, Eff.isMem]) (by simp [lastM, he])
    | add A => exact ext (by simp [he, Eff.isMem]) (by simp [lastM, he])
    | mem bx h =>
      cases hl : L r.s.i with
      | false => exact ext (fun _ => hl) (by simp [lastM, he, hl])
      | true =>
        refine ⟨[], r :: T, rfl, fun _ h => (by cases h), ?_⟩
        simp only [ab, hl, cond_true, Rec.act, setE_mem, lastM, he]
        rfl

theorem lastM_noMem (hn : NoMem L T2) {m : Mem} : lastM L m (T2 ++ T1) = lastM L m T1 := by
  induction T2 with
  | nil => rfl
  | cons r T2 ih =>
    have ih := ih fun s hs => hn s (by simp [hs])
    have h0 := hn r (by simp)
    rw [List.cons_append, lastM]
    cases he : r.eff with
    | mem bx h => rw [he] at h0; simp only [h0 rfl, cond_false]; exact ih
    | _ => exact ih
end

/-! ### States that hold the same -/
section
variable {P : Program} {N N' nt : Nat} {β β' : Pls} {μ μ' : Fms} {σ σ1 σ' σ1' : St} {a : Act} {w w' : World}

/-- A part of a state. -/
theorem SRel.less (hS : SRel N β μ nt σ a w) (he : ∀ t v, get σ1.env t = some v → get σ.env t = some v) (hm : MemLe σ1 σ) : SRel N β μ nt σ1 a w where
  heap := ⟨hS.heap.fresh, fun b x h => hS.heap.blk b x (hm.2 b x h), fun b b' x x' p p' h0 h1 h2 => hS.heap.apart b b' x x' p p' h0 (hm.2 b x h1) (hm.2 b' x' h2)⟩
  size := hS.size
  defers := hS.defers
  env := fun t v h => hS.env t v (he t v h)
  box := fun t cs h => hS.box t cs (hm.1 t cs h)
  bxap := fun t t' cs cs' r h0 h1 h2 => hS.bxap t t' cs cs' r h0 (hm.1 t cs h1) (hm.1 t' cs' h2)
  hap := fun t cs b x p h1 h2 => hS.hap t cs b x p (hm.1 t cs h1) (hm.2 b x h2)

theorem mine_less (hm : MemLe σ1 σ) {r : Nat} (h : mine β μ σ1 r) : mine β μ σ r := by
  rcases h with ⟨b, x, p, h1, h2⟩ | ⟨t, cs, h1, h2⟩
  · exact .inl ⟨b, x, p, hm.2 b x h1, h2⟩
  · exact .inr ⟨t, cs, hm.1 t cs h1, h2⟩

theorem Step.same (hst : Step β μ σ w β' μ' σ1 w') (hm : MemLe σ' σ1) : Step β μ σ w β' μ' σ' w' :=
  ⟨hst.ext, hst.os, hst.tape, hst.output, hst.size, hst.fr, fun r h => hst.own r (mine_less hm h), fun b x p h1 h2 => hst.blks b x p (hm.2 b x h1) h2⟩

theorem MemLe.of_mem (h : σ.mem = σ1.mem) : MemLe σ σ1 := by
  simp only [St.mem, Prod.mk.injEq] at h
  exact ⟨fun t cs e => by rw [← h.1]; exact e, fun b x e => by rw [← h.2]; exact e⟩

theorem MemLe.trans {σ τ υ : St} (h : MemLe σ τ) (k : MemLe τ υ) : MemLe σ υ := ⟨fun t cs e => k.1 t cs (h.1 t cs e), fun b x e => k.2 b x (h.2 b x e)⟩

/-- A step of a part of a state is a step of the whole: what was not taken is as it was. -/
theorem readd (hS : SRel N β μ nt σ a w) (hm : MemLe σ1 σ) (hS' : SRel N' β' μ' nt σ1' a w') (hst : Step β μ σ1 w β' μ' σ1' w')
    (hh : ∀ b x, σ'.h.get b = some x → σ1'.h.get b = some x ∨ (σ.h.get b = some x ∧ σ1.h.get b = none ∧ x.rw = true))
    (hx : ∀ t cs, get σ'.bx t = some cs → get σ1'.bx t = some cs ∨ (get σ.bx t = some cs ∧ get σ1.bx t = none ∧ μ' t = μ t))
    (he : ∀ t v, get σ'.env t = some v → get σ1'.env t = some v) : SRel N' β' μ' nt σ' a w' ∧ Step β μ σ w β' μ' σ' w' := by
  -- what was not taken: blocks
  have hold : ∀ b x, σ.h.get b = some x → σ1.h.get b = none → x.rw = true → ∃ p, β b = some p ∧ β' b = some p ∧ BRel β p x w ∧ ¬ mine β μ σ1 p.rb ∧ w'.heap[p.rb]? = w.heap[p.rb]? := fun b x h1 h2 h3 => by
    obtain ⟨p, hp, hb⟩ := hS.heap.blk b x h1
    have hnm : ¬ mine β μ σ1 p.rb := fun hmn => by
      rcases hmn with ⟨b0, x0, p0, e1, e2, e3, e4⟩ | ⟨t, cs, e1, e2⟩
      · exact hS.heap.apart b0 b x0 x p0 p (fun e => by subst e; rw [h2] at e1; cases e1) (hm.2 b0 x0 e1) h1 e3 hp e2 e4
      · exact hS.hap t cs b x p (hm.1 t cs e1) h1 hp e2
    exact ⟨p, hp, hst.ext b p hp, hb, hnm, hst.fr _ hb.lt hnm⟩
  have holdx : ∀ t cs, get σ.bx t = some cs → get σ1.bx t = none → ∃ r, μ t = some r ∧ XRel β r cs w ∧ ¬ mine β μ σ1 r ∧ w'.heap[r]? = w.heap[r]? := fun t cs h1 h2 => by
    obtain ⟨r, hr, hb⟩ := hS.box t cs h1
    have hnm : ¬ mine β μ σ1 r := fun hmn => by
      rcases hmn with ⟨b0, x0, p0, e1, e2, e3, e4⟩ | ⟨t0, cs0, e1, e2⟩
      · exact hS.hap t cs b0 x0 p0 h1 (hm.2 b0 x0 e1) e3 (by rw [hr, e4])
      · exact hS.bxap t t0 cs cs0 r (fun e => by subst e; rw [h2] at e1; cases e1) h1 (hm.1 t0 cs0 e1) hr e2
    exact ⟨r, hr, hb, hnm, hst.fr _ hb.lt hnm⟩
  -- where a block of the new state lies, against one that was not taken
  have hnew : ∀ b x p, σ1'.h.get b = some x → β' b = some p → ∀ b' x' p', σ.h.get b' = some x' → σ1.h.get b' = none → x'.rw = true → β b' = some p' → p.rb ≠ p'.rb := fun b x p h1 h2 b' x' p' g1 g2 g3 g4 e => by
    rcases hst.blks b x p h1 h2 with ⟨b0, x0, p0, k1, k2, k3⟩ | hge
    · exact hS.heap.apart b' b0 x' x0 p' p0 (fun e => by subst e; rw [g2] at k1; cases k1) g1 (hm.2 b0 x0 k1) g4 k2 g3 (by rw [k3, e])
    · obtain ⟨q, hq, hb⟩ := hS.heap.blk b' x' g1
      rw [g4, Option.some.injEq] at hq
      subst hq
      have := hb.lt
      omega
  refine ⟨⟨⟨hS'.heap.fresh, fun b x h => ?_, fun b b' x x' p p' h0 h1 h2 h3 h4 h5 => ?_⟩, hS'.size, hS'.defers, fun t v h => hS'.env t v (he t v h), fun t cs h => ?_, fun t t' cs cs' r h0 h1 h2 h3 h4 => ?_, fun t cs b x p h1 h2 h3 h4 => ?_⟩, ?_⟩
  · rcases hh b x h with h | ⟨h1, h2, h3⟩
    · exact hS'.heap.blk b x h
    · obtain ⟨p, hp, hp', hb, _, hw⟩ := hold b x h1 h2 h3
      exact ⟨p, hp', hb.up hst.ext hw⟩
  · rcases hh b x h1 with g | ⟨g1, g2, g3⟩ <;> rcases hh b' x' h2 with k | ⟨k1, k2, k3⟩
    · exact hS'.heap.apart b b' x x' p p' h0 g k h3 h4 h5
    · obtain ⟨q, hq, hq', _⟩ := hold b' x' k1 k2 k3
      rw [hq', Option.some.injEq] at h4
      subst h4
      exact hnew b x p g h3 b' x' q k1 k2 k3 hq
    · obtain ⟨q, hq, hq', _⟩ := hold b x g1 g2 g3
      rw [hq', Option.some.injEq] at h3
      subst h3
      exact fun e => hnew b' x' p' k h4 b x q g1 g2 g3 hq e.symm
    · obtain ⟨q, hq, hq', _⟩ := hold b x g1 g2 g3
      obtain ⟨q', hk, hk', _⟩ := hold b' x' k1 k2 k3
      rw [hq', Option.some.injEq] at h3
      rw [hk', Option.some.injEq] at h4
      subst h3; subst h4
      exact hS.heap.apart b b' x x' q q' h0 g1 k1 hq hk h5
  · rcases hx t cs h with h | ⟨h1, h2, h3⟩
    · exact hS'.box t cs h
    · obtain ⟨r, hr, hb, _, hw⟩ := holdx t cs h1 h2
      exact ⟨r, by rw [h3]; exact hr, hb.up hst.ext hw⟩
  · have hmix : ∀ t cs t' cs', t ≠ t' → get σ1'.bx t = some cs → μ' t = some r → get σ.bx t' = some cs' → get σ1.bx t' = none → μ t' = some r → False := fun t cs t' cs' h0 h1 h2 g1 g2 g3 => by
      obtain ⟨r', hr', hb, hnm, _⟩ := holdx t' cs' g1 g2
      rw [g3, Option.some.injEq] at hr'
      subst hr'
      rcases hst.own r (.inr ⟨t, cs, h1, h2⟩) with h | h
      · exact hnm h
      · have := hb.lt
        omega
    rcases hx t cs h1 with g | ⟨g1, g2, g3⟩ <;> rcases hx t' cs' h2 with k | ⟨k1, k2, k3⟩
    · exact hS'.bxap t t' cs cs' r h0 g k h3 h4
    · exact hmix t cs t' cs' h0 g h3 k1 k2 (by rw [← k3]; exact h4)
    · exact hmix t' cs' t cs h0.symm k h4 g1 g2 (by rw [← g3]; exact h3)
    · exact hS.bxap t t' cs cs' r h0 g1 k1 (by rw [← g3]; exact h3) (by rw [← k3]; exact h4)
  · rcases hx t cs h1 with g | ⟨g1, g2, g3⟩ <;> rcases hh b x h2 with k | ⟨k1, k2, k3⟩
    · exact hS'.hap t cs b x p g k h3 h4
    · obtain ⟨q, hq, hq', hb, hnm, _⟩ := hold b x k1 k2 k3
      rw [hq', Option.some.injEq] at h3
      subst h3
      rcases hst.own q.rb (.inr ⟨t, cs, g, h4⟩) with h | h
      · exact hnm h
      · have := hb.lt
        omega
    · obtain ⟨r, hr, hb, _⟩ := holdx t cs g1 g2
      rw [g3, hr, Option.some.injEq] at h4
      rcases hst.blks b x p k h3 with ⟨b0, x0, p0, e1, e2, e3⟩ | hge
      · exact hS.hap t cs b0 x0 p0 g1 (hm.2 b0 x0 e1) e2 (by rw [hr, h4, e3])
      · have := hb.lt
        omega
    · obtain ⟨q, hq, hq', _⟩ := hold b x k1 k2 k3
      rw [hq', Option.some.injEq] at h3
      subst h3
      exact hS.hap t cs b x q g1 k1 hq (by rw [← g3]; exact h4)
  · refine ⟨hst.ext, hst.os, hst.tape, hst.output, hst.size, fun r hr hn => hst.fr r hr fun h => hn (mine_less hm h), fun r h => ?_, fun b x p h1 h2 => ?_⟩
    · rcases h with ⟨b, x, p, e1, e2, e3, e4⟩ | ⟨t, cs, e1, e2⟩
      · rcases hh b x e1 with g | ⟨g1, g2, g3⟩
        · exact (hst.own r (.inl ⟨b, x, p, g, e2, e3, e4⟩)).imp (mine_less hm) id
        · obtain ⟨q, hq, hq', _⟩ := hold b x g1 g2 g3
          rw [hq', Option.some.injEq] at e3
          subst e3
          exact .inl (.inl ⟨b, x, q, g1, e2, hq, e4⟩)
      · rcases hx t cs e1 with g | ⟨g1, g2, g3⟩
        · exact (hst.own r (.inr ⟨t, cs, g, e2⟩)).imp (mine_less hm) id
        · exact .inl (.inr ⟨t, cs, g1, by rw [← g3]; exact e2⟩)
    · rcases hh b x h1 with g | ⟨g1, g2, g3⟩
      · exact (hst.blks b x p g h2).imp (fun ⟨b0, x0, p0, k1, k2⟩ => ⟨b0, x0, p0, hm.2 b0 x0 k1, k2⟩) id
      · obtain ⟨q, hq, hq', _⟩ := hold b x g1 g2 g3
        rw [hq', Option.some.injEq] at h2
        subst h2
        exact .inl ⟨b, x, q, g1, hq, rfl⟩
end
end E
end Go.Proofs.Ytfibbhmmiemcoaa

/-
  An abstract machine of this place's own: the record of a region that draws its order. No condition.
-/
namespace Go.Proofs.Ytfibbhmmiemcoaa
open Go.RowKit
namespace E

section
variable (P : Program) (X : Ctx) (fi : Fi) (ops : List Oper) (wins : List (Nat × Nat × Nat)) (base top : Nat) (σ0 : St)

/-- What an operation that was wanted did. -/
def Did (r : Rec) : Prop :=
  (isCall r.s.o = true ∧ ∃ f args h', callee r.pre r.s.o = some (f, args) ∧ args.all V.loose = true ∧ ACall P f args r.pre.h r.v h' ∧ r.eff = .mem r.pre.bx h') ∨
  (isCall r.s.o = false ∧ ∃ σ1, op P X fi r.nm r.s.o r.pre = some (r.v, σ1) ∧
    (((okind r.s.o = .pure ∨ okind r.s.o = .read) ∧ r.eff = .nop) ∨ (okind r.s.o = .alloc ∧ ∃ A : Add, r.eff = .add A ∧ A.fits fi r.nm r.s.o ∧
      ∀ (τ : St) (nm' : Nat), (∀ x ∈ r.s.o.op.operands.toList, ev τ x = ev r.pre x) → A.free τ → (nm' = r.nm ∨ makes fi r.s.o = false) → op P X fi nm' r.s.o τ = some (r.v, A.on τ)) ∨ (okind r.s.o = .chain ∧ r.eff = .mem σ1.bx σ1.h)))

structure RecOk (r : Rec) (T : List Rec) : Prop where
  hop : ops[r.s.i]? = some r.s.o
  pre : r.pre = ab allL σ0 T
  dst : ∀ t, r.s.o.dst = some t → t < fi.nt
  did : (wanted ops r.s.o r.pre = some false ∧ r.v = undefC ∧ ((okind r.s.o ≠ .chain ∧ r.eff = .nop) ∨ (okind r.s.o = .chain ∧ r.eff = .mem r.pre.bx r.pre.h))) ∨ (wanted ops r.s.o r.pre = some true ∧ Did P X fi r)
  nmLo : base ≤ r.nm
  nmHi : makes fi r.s.o = true → r.nm < top
  nmD : ∀ s ∈ T, makes fi s.s.o = true → s.nm < r.nm
  cnt : r.c = nMem allL T
  anc : ancOf (T.map (·.s)) r.s.o.after.toList = some r.s.m
  new : siFind (T.map (·.s)) r.s.i = none
  pair : ∀ s ∈ T, pairOk ops r.s r.c s.s = true
  bnd : boundsOf wins r.s.i r.c = (r.lo, r.s.hi, r.s.tight)
  rd : readOk r.s.o r.lo r.s.hi r.c (chainAnc r.s.m (T.map (·.s))) = true

def TrOk : List Rec → Prop
  | [] => True
  | r :: T => TrOk T ∧ RecOk P X fi ops wins base top σ0 r T
end

section
variable {P : Program} {X : Ctx} {fi : Fi} {ops : List Oper} {wins : List (Nat × Nat × Nat)} {base top : Nat} {σ σ' σ0 : St} {o : Oper} {v : V} {nm : Nat}

theorem put_setE {d : Option Nat} (h : put fi d v σ = some σ') : σ' = setE d v σ ∧ ∀ t, d = some t → t < fi.nt := by
  unfold put at h
  split at h
  · simp only [Option.some.injEq] at h
    exact ⟨h.symm, fun t ht => by cases ht⟩
  · rename_i t
    split at h
    · rename_i hlt
      simp only [Option.some.injEq] at h
      exact ⟨h.symm, fun u hu => by simp only [Option.some.injEq] at hu; subst hu; exact hlt⟩
    · cases h

theorem isCall_chain (h : isCall o = true) : okind o = .chain := by
  unfold isCall at h
  unfold okind
  split at h
  · rename_i c ho
    simp only [ho]
    split at h
    · rename_i hc
      simp only [hc]
    · cases h
  · cases h

theorem okind_cases (o : Oper) : okind o = .pure ∨ okind o = .read ∨ okind o = .alloc ∨ okind o = .chain := by
  cases okind o <;> simp

/-- The record that a run of the region leaves. -/
theorem drawL_trace (K : St → Prop) : ∀ (l : List Nat) (nm : Nat) (B : List Mem) (R : List Rd) (σ : St) (T : List Rec), wpDrawL P X fi ops wins l nm B R σ K →
    regGo ops wins l (T.map (·.s)) (nMem allL T) = true → TrOk P X fi ops wins base top σ0 T → σ = ab allL σ0 T → B = mems σ0.mem T →
    (∀ r ∈ T, wanted ops r.s.o r.pre = some true → okind r.s.o = .read → r.s.tight = false → (⟨r.s.o, r.pre.env, r.v, r.lo, r.s.hi⟩ : Rd) ∈ R) →
    base ≤ nm → nm + countMk fi ops l = top → (∀ s ∈ T, makes fi s.s.o = true → s.nm < nm) →
    ∃ T', TrOk P X fi ops wins base top σ0 T' ∧ T'.map (·.s.i) = l.reverse ++ T.map (·.s.i) ∧ K (ab allL σ0 T') ∧
      ∀ r ∈ T', wanted ops r.s.o r.pre = some true → okind r.s.o = .read → r.s.tight = false → RdOk P X fi (mems σ0.mem T') ⟨r.s.o, r.pre.env, r.v, r.lo, r.s.hi⟩
  | [], nm, B, R, σ, T, h, hg, hT, hσ, hB, hR, hb, ht, hn => by
    refine ⟨T, hT, rfl, by rw [← hσ]; exact h.2, fun r hr h1 h2 h3 => ?_⟩
    rw [← hB]
    exact h.1 _ (hR r hr h1 h2 h3)
  | i :: l, nm, B, R, σ, T, h, hg, hT, hσ, hB, hR, hb, ht, hn => by
    simp only [wpDrawL] at h
    rw [regGo] at hg
    cases ho : ops[i]? with
    | none => rw [ho] at h; exact h.elim
    | some o =>
      rw [ho] at h hg
      simp only at h hg
      cases hanc : ancOf (T.map (·.s)) o.after.toList with
      | none => rw [hanc] at hg; cases hg
      | some m =>
        rw [hanc] at hg
        simp only [Bool.and_eq_true, Option.isNone_iff_eq_none] at hg
        obtain ⟨⟨⟨hnew, hpair⟩, hrd⟩, hgo⟩ := hg
        rw [countMk, ho] at ht
        simp only at ht
        have hnm' : base ≤ nmOf fi o nm := by
          unfold nmOf
          cases makes fi o <;> simp only [cond_true, cond_false] <;> omega
        have ht' : nmOf fi o nm + countMk fi ops l = top := by
          unfold nmOf
          cases hm : makes fi o <;> rw [hm] at ht <;> simp only [cond_true, cond_false] at ht ⊢ <;> omega
        have hhi : makes fi o = true → nm < top := fun hm => by
          rw [hm, cond_true] at ht
          omega
        -- one step, whatever it did
        have go : ∀ (v : V) (e : Eff) (σ' : St) (R' : List Rd) (B' : List Mem), (e.isMem = (okind o).isChain) → σ' = setE o.dst v (e.on σ) → (∀ t, o.dst = some t → t < fi.nt) →
            ((wanted ops o σ = some false ∧ v = undefC ∧ ((okind o ≠ .chain ∧ e = .nop) ∨ (okind o = .chain ∧ e = .mem σ.bx σ.h))) ∨ (wanted ops o σ = some true ∧ Did P X fi ⟨⟨i, m, o, (boundsOf wins i (nMem allL T)).2.1, (boundsOf wins i (nMem allL T)).2.2⟩, nMem allL T, (boundsOf wins i (nMem allL T)).1, nm, v, e, σ⟩)) →
            B' = (match e with | .mem bx h => (bx, h) :: B | _ => B) → (∀ rd ∈ R, rd ∈ R') →
            (wanted ops o σ = some true → okind o = .read → (boundsOf wins i (nMem allL T)).2.2 = false → (⟨o, σ.env, v, (boundsOf wins i (nMem allL T)).1, (boundsOf wins i (nMem allL T)).2.1⟩ : Rd) ∈ R') →
            wpDrawL P X fi ops wins l (nmOf fi o nm) B' R' σ' K →
            ∃ T', TrOk P X fi ops wins base top σ0 T' ∧ T'.map (·.s.i) = (i :: l).reverse ++ T.map (·.s.i) ∧ K (ab allL σ0 T') ∧
              ∀ r ∈ T', wanted ops r.s.o r.pre = some true → okind r.s.o = .read → r.s.tight = false → RdOk P X fi (mems σ0.mem T') ⟨r.s.o, r.pre.env, r.v, r.lo, r.s.hi⟩ := fun v e σ' R' B' he hs hd hdid hB' hRR hR' hw => by
          let r : Rec := ⟨⟨i, m, o, (boundsOf wins i (nMem allL T)).2.1, (boundsOf wins i (nMem allL T)).2.2⟩, nMem allL T, (boundsOf wins i (nMem allL T)).1, nm, v, e, σ⟩
          have hrok : RecOk P X fi ops wins base top σ0 r T := {
            hop := ho
            pre := hσ
            dst := hd
            did := hdid
            nmLo := hb
            nmHi := hhi
            nmD := hn
            cnt := rfl
            anc := hanc
            new := hnew
            pair := fun s hs => List.all_eq_true.1 hpair s.s (List.mem_map.2 ⟨s, hs, rfl⟩)
            bnd := rfl
            rd := hrd }
          have hg' : regGo ops wins l ((r :: T).map (·.s)) (nMem allL (r :: T)) = true := by
            have : nMem allL (r :: T) = cond (okind o).isChain (nMem allL T + 1) (nMem allL T) := by
              show cond (e.isMem && true) _ _ = _
              rw [Bool.and_true, he]
            rw [this]
            exact hgo
          obtain ⟨T', h1, h2, h3, h4⟩ := drawL_trace K l (nmOf fi o nm) B' R' σ' (r :: T) hw hg' ⟨hT, hrok⟩ (by rw [hs, hσ]; rfl) (by
              rw [hB', mems, hB]
              all_goals (cases e <;> rfl)) (fun s hs h1 h2 h3 => by
              simp only [List.mem_cons] at hs
              rcases hs with rfl | hs
              · exact hR' h1 h2 h3
              · exact hRR _ (hR s hs h1 h2 h3)) hnm' ht' (fun s hs hm => by
              simp only [List.mem_cons] at hs
              rcases hs with rfl | hs
              · show nm < nmOf fi o nm
                unfold nmOf
                have : makes fi o = true := hm
                rw [this, cond_true]
                omega
              · have := hn s hs hm
                unfold nmOf
                cases makes fi o <;> simp only [cond_true, cond_false] <;> omega)
          exact ⟨T', h1, by rw [h2]; simp [r], h3, h4⟩
        cases hwa : wanted ops o σ with
        | none => rw [hwa] at h; exact h.elim
        | some b =>
          rw [hwa] at h
          cases b with
          | false =>
            simp only at h
            obtain ⟨σ', hp, h'⟩ := h
            obtain ⟨e1, e2⟩ := put_setE hp
            by_cases hk : okind o = .chain
            · refine go undefC (.mem σ.bx σ.h) σ' R ((σ.bx, σ.h) :: B) (by rw [hk]; rfl) (by rw [e1]; rfl) e2 (.inl ⟨hwa, rfl, .inr ⟨hk, rfl⟩⟩) rfl (fun _ h => h) (fun h => by rw [hwa] at h; cases h) ?_
              simpa only [if_pos hk] using h'
            · refine go undefC .nop σ' R B (by cases h : okind o <;> simp_all [Eff.isMem, OK.isChain]) (by rw [e1]; rfl) e2 (.inl ⟨hwa, rfl, .inl ⟨hk, rfl⟩⟩) rfl (fun _ h => h) (fun h => by rw [hwa] at h; cases h) ?_
              simpa only [if_neg hk] using h'
          | true =>
            simp only at h
            cases hc : isCall o with
            | true =>
              rw [if_pos hc] at h
              obtain ⟨f, args, v, h', σ', hcal, hl, hA, hp, h2⟩ := h
              obtain ⟨e1, e2⟩ := put_setE hp
              have hk := isCall_chain hc
              have hmk : makes fi o = false := by
                unfold isCall at hc
                unfold makes
                split at hc
                · rename_i c hoc
                  simp only [hoc]
                  split at hc
                  · rename_i hcc; simp only [hcc]
                  · cases hc
                · cases hc
              refine go v (.mem σ.bx h') σ' R ((σ.bx, h') :: B) (by rw [hk]; rfl) (by rw [e1]; rfl) e2 (.inr ⟨hwa, .inl ⟨hc, f, args, h', hcal, hl, hA, rfl⟩⟩) rfl (fun _ h => h) (fun _ h => by rw [hk] at h; cases h) ?_
              unfold nmOf
              rw [hmk, cond_false]
              exact h2
            | false =>
              rw [if_neg (by simp [hc])] at h
              obtain ⟨v, σ1, σ', hop, hp, h2⟩ := h
              obtain ⟨e1, e2⟩ := put_setE hp
              have hmem : ∀ rd ∈ R, rd ∈ (match winOf wins i with | some (lo, hi) => (⟨o, σ.env, v, lo, hi⟩ : Rd) :: R | none => R) := fun rd hrd => by
                split
                · exact List.mem_cons_of_mem _ hrd
                · exact hrd
              have hwin : (boundsOf wins i (nMem allL T)).2.2 = false → (⟨o, σ.env, v, (boundsOf wins i (nMem allL T)).1, (boundsOf wins i (nMem allL T)).2.1⟩ : Rd) ∈ (match winOf wins i with | some (lo, hi) => (⟨o, σ.env, v, lo, hi⟩ : Rd) :: R | none => R) := fun hf => by
                unfold boundsOf at hf ⊢
                cases hwi : winOf wins i with
                | none => rw [hwi] at hf; cases hf
                | some q => obtain ⟨lo, hi⟩ := q; simp
              rcases okind_cases o with hk | hk | hk | hk
              · obtain ⟨_, rfl⟩ := op_float (nm' := nm) (τ := σ) (.inl hk) (fun _ _ => rfl) (fun h => by rw [hk] at h; cases h) hop
                refine go v .nop σ' _ B (by rw [hk]; rfl) (by rw [e1]; rfl) e2 (.inr ⟨hwa, .inr ⟨hc, σ1, hop, .inl ⟨.inl hk, rfl⟩⟩⟩) rfl hmem (fun _ h => by rw [hk] at h; cases h) ?_
                simp only [hk, reduceCtorEq, if_false] at h2
                exact h2
              · obtain ⟨_, rfl⟩ := op_float (nm' := nm) (τ := σ) (.inr hk) (fun _ _ => rfl) (fun _ => ⟨fun _ _ h => h, fun _ _ h => h⟩) hop
                refine go v .nop σ' _ B (by rw [hk]; rfl) (by rw [e1]; rfl) e2 (.inr ⟨hwa, .inr ⟨hc, σ1, hop, .inl ⟨.inr hk, rfl⟩⟩⟩) rfl hmem (fun _ _ h => hwin h) ?_
                simp only [hk, reduceCtorEq, if_false] at h2
                exact h2
              · obtain ⟨A, rfl, hfree, hfits, hall⟩ := op_adds hk hop
                refine go v (.add A) σ' _ B (by rw [hk]; rfl) (by rw [e1]; rfl) e2 (.inr ⟨hwa, .inr ⟨hc, _, hop, .inr (.inl ⟨hk, A, rfl, hfits, hall⟩)⟩⟩) rfl hmem (fun _ h => by rw [hk] at h; cases h) ?_
                simp only [hk, reduceCtorEq, if_false] at h2
                exact h2
              · obtain ⟨_, henv⟩ := op_chain (e := σ.env) hk hc (fun _ _ => rfl) hop
                have hs1 : (Eff.mem σ1.bx σ1.h).on σ = σ1 := by
                  show { σ with bx := σ1.bx, h := σ1.h } = σ1
                  rw [← henv]
                refine go v (.mem σ1.bx σ1.h) σ' _ ((σ1.bx, σ1.h) :: B) (by rw [hk]; rfl) (by rw [hs1, e1]) e2 (.inr ⟨hwa, .inr ⟨hc, σ1, hop, .inr (.inr ⟨hk, rfl⟩)⟩⟩) rfl hmem (fun _ h => by rw [hk] at h; cases h) ?_
                simp only [hk, if_true] at h2
                exact h2
end
end E
end Go.Proofs.Ytfibbhmmiemcoaa
