/-
  An abstract machine of this place's own: a region that draws its order: its record, and what a part of it comes to. No condition.
-/
import Derived.Test.YtnfehccnofhmnaaE17
import Derived.Orders
set_option linter.all false
namespace Go.Proofs.Ytnfehccnofhmnaa
open Go.RowKit
namespace E

inductive Eff where
  | nop
  | mem (bx : List (Nat × List C)) (h : Heap)
  | add (A : Add)

def Eff.on : Eff → St → St
  | .nop, σ => σ
  | .mem bx h, σ => { σ with bx := bx, h := h }
  | .add A, σ => A.on σ

def setE (d : Option Nat) (v : V) (σ : St) : St :=
  match d with
  | none => σ
  | some t => { σ with env := (t, v) :: σ.env }

/-- What one operation of the region did, in the one order that is run: pre: ahead of it. -/
structure Rec where
  s : SI
  c : Nat
  lo : Nat
  nm : Nat
  v : V
  eff : Eff
  pre : St

def Rec.act (r : Rec) (σ : St) : St := setE r.s.o.dst r.v (r.eff.on σ)

/-- What the operations of L come to. T: the record, the last one first. -/
def ab (L : Nat → Bool) (σ0 : St) : List Rec → St
  | [] => σ0
  | r :: T => cond (L r.s.i) (r.act (ab L σ0 T)) (ab L σ0 T)

def allL : Nat → Bool := fun _ => true

section
variable {L L' : Nat → Bool} {σ σ0 : St} {r : Rec} {T T1 T2 : List Rec}

@[simp] theorem setE_bx (d : Option Nat) (v : V) (σ : St) : (setE d v σ).bx = σ.bx := by cases d <;> rfl
@[simp] theorem setE_h (d : Option Nat) (v : V) (σ : St) : (setE d v σ).h = σ.h := by cases d <;> rfl
@[simp] theorem eff_env (e : Eff) (σ : St) : (e.on σ).env = σ.env := by
  cases e with
  | nop => rfl
  | mem => rfl
  | add A => cases A <;> rfl

theorem setE_env (d : Option Nat) (v : V) (σ : St) : (setE d v σ).env = (match d with | some t => (t, v) :: σ.env | none => σ.env) := by cases d <;> rfl

theorem get_setE (d : Option Nat) (v : V) (σ : St) (t : Nat) : get (setE d v σ).env t = if d = some t then some v else get σ.env t := by
  cases d with
  | none => simp [setE]
  | some u =>
    simp only [setE, get_cons, Option.some.injEq]

theorem ab_append : ab L σ0 (T2 ++ T1) = ab L (ab L σ0 T1) T2 := by
  induction T2 with
  | nil => rfl
  | cons r T2 ih => simp only [List.cons_append, ab, ih]

/-- A slot, behind two parts of the region that hold the same of those that write it. -/
theorem ab_env {t : Nat} {τ : St} (he : get σ0.env t = get τ.env t) (h : ∀ r ∈ T, r.s.o.dst = some t → L r.s.i = L' r.s.i) : get (ab L σ0 T).env t = get (ab L' τ T).env t := by
  induction T with
  | nil => exact he
  | cons r T ih =>
    have ih := ih fun r hr => h r (by simp [hr])
    by_cases hd : r.s.o.dst = some t
    · rw [ab, ab, h r (by simp) hd]
      cases L' r.s.i with
      | true => simp only [cond_true, Rec.act, get_setE, if_pos hd]
      | false => simpa only [cond_false] using ih
    · have key : ∀ (b : Bool) (σ : St), get (cond b (r.act σ) σ).env t = get σ.env t := fun b σ => by
        cases b with
        | true => simp only [cond_true, Rec.act, get_setE, if_neg hd, eff_env]
        | false => rfl
      rw [ab, ab, key, key, ih]

theorem ab_env_none {t : Nat} (h : ∀ r ∈ T, L r.s.i = true → r.s.o.dst ≠ some t) : get (ab L σ0 T).env t = get σ0.env t := by
  induction T with
  | nil => rfl
  | cons r T ih =>
    have ih := ih fun r hr => h r (by simp [hr])
    rw [ab]
    cases hl : L r.s.i with
    | true => simp only [cond_true, Rec.act, get_setE, if_neg (h r (by simp) hl), eff_env, ih]
    | false => simpa only [cond_false] using ih

/-- The entries of the frame. -/
theorem ab_mem {p : Nat × V} : p ∈ (ab L σ0 T).env ↔ p ∈ σ0.env ∨ ∃ r ∈ T, L r.s.i = true ∧ r.s.o.dst = some p.1 ∧ r.v = p.2 := by
  induction T with
  | nil => simp [ab]
  | cons r T ih =>
    rw [ab]
    cases hl : L r.s.i with
    | false =>
      rw [cond_false, ih]
      constructor
      · rintro (h | ⟨s, h1, h2⟩)
        · exact .inl h
        · exact .inr ⟨s, by simp [h1], h2⟩
      · rintro (h | ⟨s, h1, h2⟩)
        · exact .inl h
        · simp only [List.mem_cons] at h1
          rcases h1 with rfl | h1
          · rw [hl] at h2; exact absurd h2.1 (by simp)
          · exact .inr ⟨s, h1, h2⟩
    | true =>
      rw [cond_true, Rec.act, setE_env]
      have e : (r.eff.on (ab L σ0 T)).env = (ab L σ0 T).env := eff_env _ _
      cases hd : r.s.o.dst with
      | none =>
        simp only
        rw [e, ih]
        constructor
        · rintro (h | ⟨s, h1, h2⟩)
          · exact .inl h
          · exact .inr ⟨s, by simp [h1], h2⟩
        · rintro (h | ⟨s, h1, h2⟩)
          · exact .inl h
          · simp only [List.mem_cons] at h1
            rcases h1 with rfl | h1
            · rw [hd] at h2; exact absurd h2.2.1 (by simp)
            · exact .inr ⟨s, h1, h2⟩
      | some t =>
        simp only [List.mem_cons]
        rw [e, ih]
        constructor
        · rintro (rfl | h | ⟨s, h1, h2⟩)
          · exact .inr ⟨r, .inl rfl, hl, hd, rfl⟩
          · exact .inl h
          · exact .inr ⟨s, .inr h1, h2⟩
        · rintro (h | ⟨s, rfl | h1, h2⟩)
          · exact .inr (.inl h)
          · left
            rw [hd] at h2
            obtain ⟨_, h3, h4⟩ := h2
            simp only [Option.some.injEq] at h3
            rw [h3, h4]
          · exact .inr (.inr ⟨s, h1, h2⟩)

/-! ### The memory -/
def Eff.quiet : Eff → Bool
  | .nop => true
  | _ => false
def Eff.isMem : Eff → Bool
  | .mem .. => true
  | _ => false

def St.mem (σ : St) : Mem := (σ.bx, σ.h)
@[simp] theorem setE_mem (d : Option Nat) (v : V) (σ : St) : (setE d v σ).mem = σ.mem := by cases d <;> rfl

theorem eff_mem {e : Eff} {σ τ : St} (h : σ.mem = τ.mem) : (e.on σ).mem = (e.on τ).mem := by
  simp only [St.mem, Prod.mk.injEq] at h
  cases e with
  | nop => simp [Eff.on, St.mem, h]
  | mem => rfl
  | add A => cases A <;> simp [Eff.on, Add.on, St.mem, h]

/-- The memory behind two parts that hold the same of those that do something to it. -/
theorem ab_mem_eq {τ : St} (he : σ0.mem = τ.mem) (h : ∀ r ∈ T, r.eff.quiet = false → L r.s.i = L' r.s.i) : (ab L σ0 T).mem = (ab L' τ T).mem := by
  induction T with
  | nil => exact he
  | cons r T ih =>
    have ih := ih fun r hr => h r (by simp [hr])
    by_cases hq : r.eff.quiet = true
    · have hn : r.eff = .nop := by cases hr : r.eff <;> simp_all [Eff.quiet]
      have key : ∀ (b : Bool) (σ : St), (cond b (r.act σ) σ).mem = σ.mem := fun b σ => by
        cases b with
        | true => simp only [cond_true, Rec.act, setE_mem, hn]; rfl
        | false => rfl
      rw [ab, ab, key, key, ih]
    · rw [ab, ab, h r (by simp) (by simpa using hq)]
      cases L' r.s.i with
      | true => simp only [cond_true, Rec.act, setE_mem]; exact eff_mem ih
      | false => simpa only [cond_false] using ih

/-- The memory behind the last of the chain's operations. -/
def lastM (L : Nat → Bool) (m : Mem) : List Rec → Mem
  | [] => m
  | r :: T => match r.eff with
    | .mem bx h => cond (L r.s.i) (bx, h) (lastM L m T)
    | _ => lastM L m T

/-- All the memories that the chain comes to, the last one first. -/
def mems (m : Mem) : List Rec → List Mem
  | [] => [m]
  | r :: T => match r.eff with
    | .mem bx h => (bx, h) :: mems m T
    | _ => mems m T

def nMem (L : Nat → Bool) : List Rec → Nat
  | [] => 0
  | r :: T => cond (r.eff.isMem && L r.s.i) (nMem L T + 1) (nMem L T)

theorem mems_length (m : Mem) : ∀ T, (mems m T).length = nMem allL T + 1
  | [] => rfl
  | r :: T => by
    have ih := mems_length m T
    cases he : r.eff <;> simp [mems, nMem, he, Eff.isMem, allL] <;> simpa [allL] using ih

theorem nMem_le (T : List Rec) : nMem L T ≤ nMem allL T := by
  induction T with
  | nil => exact Nat.le_refl _
  | cons r T ih =>
    cases he : r.eff.isMem <;> cases hl : L r.s.i <;> simp [nMem, he, hl, show allL r.s.i = true from rfl] <;> omega

theorem nMem_all (h : ∀ r ∈ T, r.eff.isMem = true → L r.s.i = true) : nMem L T = nMem allL T := by
  induction T with
  | nil => rfl
  | cons r T ih =>
    have ih := ih fun r hr => h r (by simp [hr])
    have h0 := h r (by simp)
    cases he : r.eff.isMem with
    | false => simpa [nMem, he] using ih
    | true => simpa [nMem, he, h0 he, allL] using ih

theorem nMem_append : nMem L (T2 ++ T1) = nMem L T2 + nMem L T1 := by
  induction T2 with
  | nil => simp [nMem]
  | cons r T2 ih =>
    rw [List.cons_append, nMem, nMem, ih]
    cases r.eff.isMem && L r.s.i <;> simp <;> omega

/-- What is chained is taken in its order. -/
def PreOk (L : Nat → Bool) : List Rec → Prop
  | [] => True
  | r :: T => PreOk L T ∧ (r.eff.isMem = true → L r.s.i = true → ∀ s ∈ T, s.eff.isMem = true → L s.s.i = true)

theorem lastM_at (m : Mem) : ∀ {T}, PreOk L T → (mems m T).reverse[nMem L T]? = some (lastM L m T)
  | [], _ => rfl
  | r :: T, h => by
    have ih := lastM_at m h.1
    have hlen := mems_length m T
    have hle : nMem L T ≤ nMem allL T := nMem_le T
    cases he : r.eff with
    | nop => simpa [mems, nMem, lastM, he, Eff.isMem] using ih
    | add A => simpa [mems, nMem, lastM, he, Eff.isMem] using ih
    | mem bx h' =>
      have hm : r.eff.isMem = true := by rw [he]; rfl
      cases hl : L r.s.i with
      | true =>
        have hall := nMem_all (T := T) (h.2 hm hl)
        simp only [mems, nMem, lastM, he, hl, Eff.isMem, Bool.and_self, cond_true, List.reverse_cons]
        rw [List.getElem?_append_right (by simp [hlen, hall])]
        simp [hlen, hall]
      | false =>
        simp only [mems, nMem, lastM, he, hl, Eff.isMem, Bool.and_false, cond_false, List.reverse_cons]
        rw [List.getElem?_append_left (by simp [hlen]; omega)]
        exact ih
end
end E
end Go.Proofs.Ytnfehccnofhmnaa
