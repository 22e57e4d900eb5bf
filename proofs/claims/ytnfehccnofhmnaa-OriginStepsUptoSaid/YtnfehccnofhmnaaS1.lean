/-
  Symbols in the abstract machine: values that stand for what is not known, what is known of them; a machine that forks where it is not. No condition.
-/
import Derived.Test.YtnfehccnofhmnaaE27
set_option linter.all false
namespace Go.Proofs.Ytnfehccnofhmnaa
namespace E

/-- What the symbols stand for: numbers, strings. -/
structure Env where
  I : Nat → Int
  S : Nat → ByteArray
  B : Nat → Bool

def iOf : Value → Int
  | .int _ n => n
  | _ => 0
def sOf : Value → ByteArray
  | .string s => s
  | _ => ⟨#[]⟩

def arith (o a b : Int) : Int := if o = 0 then a + b else if o = 1 then a - b else a * b

/-- A symbol: an interface's value: of kind 0 a number, 1 a string, 2 a string's length, 3 a sum and the like, 4 a truth value. -/
def den (ρ : Env) : Value → Value
  | .iface 0 (.int k i) => .int k (ρ.I i.toNat)
  | .iface 1 (.int _ i) => .string (ρ.S i.toNat)
  | .iface 2 x => .int .i64 (sOf (den ρ x)).data.toList.length
  | .iface 3 (.agg ⟨[.int k o, x, y]⟩) => .int k (k.wrap (arith o (iOf (den ρ x)) (iOf (den ρ y))))
  | .iface 4 (.int _ i) => .bool (ρ.B i.toNat)
  | .iface _ _ => .bool false
  | v => v

def Value.isSym : Value → Bool
  | .iface .. => true
  | _ => false

theorem den_lit {ρ : Env} {v : Value} (h : Value.isSym v = false) : den ρ v = v := by
  cases v <;> first | (simp [Value.isSym] at h; done) | simp [den]

/-- What a symbol stands for: a value without an address, of one cell. -/
def Value.plain : Value → Bool
  | .int .. | .string _ | .bool _ => true
  | _ => false

theorem den_sym {ρ : Env} {v : Value} (h : Value.isSym v = true) : Value.plain (den ρ v) = true := by
  cases v <;> first | (simp [Value.isSym] at h; done) | skip
  rename_i t x
  unfold den
  split <;> first | rfl | (rename_i hh; simp [Value.isSym] at hh; done) | skip
  all_goals (rename_i h1 h2 h3 h4 h5 h6; exact absurd rfl (h6 _ _))

def C.den (ρ : Env) : C → C
  | .lit v => .lit (E.den ρ v)
  | c => c

def C.free : C → Bool
  | .lit v => !Value.isSym v
  | _ => true

mutual
def V.den (ρ : Env) : V → V
  | .one c => .one (c.den ρ)
  | .agg cs => .agg (cs.map (C.den ρ))
  | .tup vs => .tup (denL ρ vs)
def denL (ρ : Env) : List V → List V
  | [] => []
  | v :: vs => V.den ρ v :: denL ρ vs
end

mutual
def V.free : V → Bool
  | .one c => c.free
  | .agg cs => cs.all C.free
  | .tup vs => freeL vs
def freeL : List V → Bool
  | [] => true
  | v :: vs => V.free v && freeL vs
end

def Blk.den (ρ : Env) : Blk → Blk
  | .row rw sz cs => .row rw sz (cs.map (C.den ρ))
  | .map es clock => .map (es.map fun e => (e.1, e.2.1.den ρ, e.2.2)) clock

def bsDen (ρ : Env) (l : List (Nat × Blk)) : List (Nat × Blk) := l.map fun p => (p.1, p.2.den ρ)
def envDen (ρ : Env) (l : List (Nat × V)) : List (Nat × V) := l.map fun p => (p.1, p.2.den ρ)
def bxDen (ρ : Env) (l : List (Nat × List C)) : List (Nat × List C) := l.map fun p => (p.1, p.2.map (C.den ρ))
def Heap.den (ρ : Env) (h : Heap) : Heap := ⟨h.next, bsDen ρ h.bs⟩
def St.den (ρ : Env) (σ : St) : St := ⟨envDen ρ σ.env, bxDen ρ σ.bx, σ.h.den ρ⟩

/-! ### What is known -/
structure Fact where
  lt : Bool
  x : Value
  y : Value
  b : Bool

abbrev Know := List Fact

/-- An order or an equality of two values. -/
def Atom (ρ : Env) (lt : Bool) (x y : Value) : Prop := match lt with
  | true => iOf (den ρ x) < iOf (den ρ y)
  | false => den ρ x = den ρ y

def Fact.holds (ρ : Env) (f : Fact) : Prop := Atom ρ f.lt f.x f.y ↔ f.b = true
def Holds (ρ : Env) (K : Know) : Prop := ∀ f, f ∈ K → f.holds ρ

def symB : Nat → Value → Value → Bool
  | _, .int j a, .int k b => decide (j = k) && decide (a = b)
  | _, .bool a, .bool b => a == b
  | _, .string a, .string b => strEq a b
  | n + 1, .iface t x, .iface u y => Nat.beq t u && symB n x y
  | n + 1, .agg ⟨[a, x, y]⟩, .agg ⟨[b, u, v]⟩ => symB n a b && symB n x u && symB n y v
  | _, _, _ => false

def findEq (x : Value) : Know → Option Value
  | [] => none
  | f :: K => cond (!f.lt && f.b && symB 20 f.x x) (some f.y) (findEq x K)

def canon1 (K : Know) : Nat → Value → Value
  | 0, v => v
  | n + 1, v => match Value.isSym v with
    | true => match findEq v K with
      | some u => canon1 K n u
      | none => v
    | false => v

def canon (K : Know) (v : Value) : Value :=
  match v with
  | .iface 2 x => match canon1 K 8 x with
    | .string s => .int .i64 s.data.toList.length
    | y => canon1 K 8 (.iface 2 y)
  | v => canon1 K 8 v

def hasFact (lt b : Bool) (x y : Value) : Know → Bool
  | [] => false
  | f :: K => cond (f.lt == lt && f.b == b && symB 20 f.x x && symB 20 f.y y) true (hasFact lt b x y K)

/-- Of canonical values. -/
def look (lt : Bool) (K : Know) (x y : Value) : Option Bool :=
  match lt with
  | false =>
    cond (symB 20 x y) (some true)
      (cond (Value.plain x && Value.plain y) (some false)
        (cond (hasFact false false x y K || hasFact false false y x K || hasFact true true x y K || hasFact true true y x K) (some false) none))
  | true => match x, y with
    | .int _ a, .int _ b => some (decide (a < b))
    | x, y => cond (symB 20 x y) (some false)
        (cond (hasFact true true x y K) (some true) (cond (hasFact true false x y K || hasFact true true y x K) (some false) none))

def ask0 (lt : Bool) (K : Know) (x y : Value) : List (Know × Bool) :=
  match look lt K x y with
  | some b => [(K, b)]
  | none => cond (Value.plain x && !lt)
      [(⟨lt, y, x, true⟩ :: K, true), (⟨lt, y, x, false⟩ :: K, false)]
      [(⟨lt, x, y, true⟩ :: K, true), (⟨lt, x, y, false⟩ :: K, false)]

def ask (lt : Bool) (x y : Value) (K : Know) : List (Know × Bool) := ask0 lt K (canon K x) (canon K y)

def intK : Value → Option IntKind
  | .int k _ => some k
  | .iface 0 (.int k _) => some k
  | .iface 2 _ => some .i64
  | .iface 3 (.agg ⟨[.int k _, _, _]⟩) => some k
  | _ => none

def isStr : Value → Bool
  | .string _ => true
  | .iface 1 (.int _ _) => true
  | _ => false

def isBool : Value → Bool
  | .bool _ => true
  | .iface 4 (.int _ _) => true
  | _ => false

/-! ### Lists of ways -/
abbrev Ways (α : Type) := Option (List (Know × α))

def bndL {α β : Type} : List (Know × α) → (Know → α → Ways β) → Ways β
  | [], _ => some []
  | [(K, a)], f => f K a
  | (K, a) :: l, f => match f K a with
    | some x => match bndL l f with
      | some y => some (x ++ y)
      | none => none
    | none => none

def bnd {α β : Type} (m : Ways α) (f : Know → α → Ways β) : Ways β :=
  match m with
  | some l => bndL l f
  | none => none

def mapW {α β : Type} (g : α → β) (l : List (Know × α)) : List (Know × β) := l.map fun p => (p.1, g p.2)

/-- One of the ways is so. -/
def Snd {α : Type} (ρ : Env) (m : Ways α) (Q : α → Prop) : Prop := ∀ l, m = some l → ∃ p, p ∈ l ∧ Holds ρ p.1 ∧ Q p.2

theorem Snd.one {α : Type} {ρ : Env} {K : Know} {a : α} {Q : α → Prop} (hK : Holds ρ K) (h : Q a) : Snd ρ (some [(K, a)]) Q := fun l hl => by
  cases hl
  exact ⟨_, .head _, hK, h⟩

theorem Snd.none {α : Type} {ρ : Env} {Q : α → Prop} : Snd ρ none Q := fun _ h => by cases h

theorem Snd.mono {α : Type} {ρ : Env} {m : Ways α} {Q R : α → Prop} (h : Snd ρ m Q) (hQ : ∀ a, Q a → R a) : Snd ρ m R := fun l hl => by
  obtain ⟨p, h1, h2, h3⟩ := h l hl
  exact ⟨p, h1, h2, hQ _ h3⟩

theorem bndL_snd {α β : Type} {ρ : Env} {f : Know → α → Ways β} {R : β → Prop} {p : Know × α} (hf : Snd ρ (f p.1 p.2) R) : ∀ {l : List (Know × α)}, p ∈ l → Snd ρ (bndL l f) R
  | [], h => by cases h
  | [q], h => by
    rcases List.mem_singleton.1 h with rfl
    exact hf
  | q :: r :: l, h => by
    intro l' hl'
    simp only [bndL] at hl'
    split at hl'
    · rename_i x hx
      split at hl'
      · rename_i y hy
        simp only [Option.some.injEq] at hl'
        subst hl'
        rcases List.mem_cons.1 h with rfl | h
        · obtain ⟨s, h1, h2⟩ := hf _ hx
          exact ⟨s, List.mem_append_left _ h1, h2⟩
        · obtain ⟨s, h1, h2⟩ := bndL_snd hf h _ hy
          exact ⟨s, List.mem_append_right _ h1, h2⟩
      · cases hl'
    · cases hl'

theorem Snd.bnd {α β : Type} {ρ : Env} {m : Ways α} {f : Know → α → Ways β} {Q : α → Prop} {R : β → Prop} (h : Snd ρ m Q) (hf : ∀ K a, Holds ρ K → Q a → Snd ρ (f K a) R) : Snd ρ (bnd m f) R := by
  unfold E.bnd
  cases m with
  | none => exact Snd.none
  | some l =>
    obtain ⟨p, h1, h2, h3⟩ := h l rfl
    exact bndL_snd (hf _ _ h2 h3) h1

theorem Snd.mapW {α β : Type} {ρ : Env} {l : List (Know × α)} {g : α → β} {Q : β → Prop} (h : Snd ρ (some l) fun a => Q (g a)) : Snd ρ (some (mapW g l)) Q := fun l' hl' => by
  cases hl'
  obtain ⟨p, h1, h2, h3⟩ := h l rfl
  exact ⟨(p.1, g p.2), List.mem_map.2 ⟨p, h1, rfl⟩, h2, h3⟩

/-! ### What is known, sound -/
section
variable {ρ : Env} {K : Know}

theorem strEq_iff {a b : ByteArray} : strEq a b = true ↔ a = b := by
  constructor
  · intro h
    have h : (a.data.toList == b.data.toList) = true := h
    exact ByteArray.ext (Array.toList_inj.1 (eq_of_beq h))
  · rintro rfl
    show (a.data.toList == a.data.toList) = true
    exact beq_self_eq_true _

theorem symB_eq : ∀ (n : Nat) {x y : Value}, symB n x y = true → x = y := by
  intro n
  induction n with
  | zero =>
    intro x y h
    unfold symB at h
    split at h <;> simp_all [strEq_iff]
  | succ n ih =>
    intro x y h
    unfold symB at h
    split at h
    · simp only [Bool.and_eq_true, decide_eq_true_eq] at h
      rw [h.1, h.2]
    · rw [eq_of_beq h]
    · rw [strEq_iff.1 h]
    · simp only [Bool.and_eq_true] at h
      rename_i hn
      cases hn
      rw [Nat.eq_of_beq_eq_true h.1, ih h.2]
    · simp only [Bool.and_eq_true] at h
      rename_i hn
      cases hn
      rw [ih h.1.1, ih h.1.2, ih h.2]
    · cases h

theorem symB_plain {n : Nat} {x y : Value} (hx : Value.plain x = true) (hy : Value.plain y = true) (h : symB n x y = false) : x ≠ y := by
  rintro rfl
  cases x <;> first | (cases hx; done) | skip
  all_goals (cases n <;> simp [symB, strEq_iff.2] at h)

theorem findEq_ok : ∀ {K : Know} {x u : Value}, Holds ρ K → findEq x K = some u → den ρ u = den ρ x
  | [], _, _, _, h => by cases h
  | f :: K, x, u, hK, h => by
    simp only [findEq] at h
    cases hc : (!f.lt && f.b && symB 20 f.x x) with
    | true =>
      rw [hc, cond_true, Option.some.injEq] at h
      simp only [Bool.and_eq_true, Bool.not_eq_true'] at hc
      have := (hK f (.head _)).2 hc.1.2
      unfold Atom at this
      rw [hc.1.1] at this
      rw [← h, ← symB_eq _ hc.2]
      exact this.symm
    | false =>
      rw [hc, cond_false] at h
      exact findEq_ok (fun g hg => hK g (.tail _ hg)) h

theorem canon1_ok (hK : Holds ρ K) : ∀ (n : Nat) (v : Value), den ρ (canon1 K n v) = den ρ v
  | 0, _ => rfl
  | n + 1, v => by
    simp only [canon1]
    split
    · split
      · rename_i u hu
        rw [canon1_ok hK n u, findEq_ok hK hu]
      · rfl
    · rfl

theorem canon_ok (hK : Holds ρ K) (v : Value) : den ρ (canon K v) = den ρ v := by
  unfold canon
  split
  · rename_i x
    have h := canon1_ok hK 8 x
    split
    · rename_i s hs
      rw [hs, den_lit rfl] at h
      rw [den_lit rfl]
      simp only [den, ← h, sOf]
    · rename_i y hy
      rw [canon1_ok hK]
      simp only [den, h]
  · exact canon1_ok hK 8 v

theorem hasFact_ok {lt b : Bool} {x y : Value} : ∀ {K : Know}, Holds ρ K → hasFact lt b x y K = true → (Atom ρ lt x y ↔ b = true)
  | [], _, h => by cases h
  | f :: K, hK, h => by
    simp only [hasFact] at h
    cases hc : (f.lt == lt && f.b == b && symB 20 f.x x && symB 20 f.y y) with
    | true =>
      simp only [Bool.and_eq_true, beq_iff_eq] at hc
      have := hK f (.head _)
      unfold Fact.holds at this
      rw [hc.1.1.1, hc.1.1.2, symB_eq _ hc.1.2, symB_eq _ hc.2] at this
      exact this
    | false =>
      rw [hc, cond_false] at h
      exact hasFact_ok (fun g hg => hK g (.tail _ hg)) h

theorem plain_den {x : Value} (h : Value.plain x = true) : den ρ x = x := den_lit (by cases x <;> first | rfl | cases h)

theorem look_ok (hK : Holds ρ K) {lt b : Bool} {x y : Value} (h : look lt K x y = some b) : Atom ρ lt x y ↔ b = true := by
  unfold look at h
  cases lt with
  | false =>
    simp only at h
    show den ρ x = den ρ y ↔ _
    cases h1 : symB 20 x y with
    | true =>
      rw [h1, cond_true, Option.some.injEq] at h
      rw [symB_eq _ h1, ← h]
      simp
    | false =>
      rw [h1, cond_false] at h
      cases h2 : (Value.plain x && Value.plain y) with
      | true =>
        rw [h2, cond_true, Option.some.injEq] at h
        simp only [Bool.and_eq_true] at h2
        rw [plain_den h2.1, plain_den h2.2, ← h]
        simp [symB_plain h2.1 h2.2 h1]
      | false =>
        rw [h2, cond_false] at h
        cases h3 : (hasFact false false x y K || hasFact false false y x K || hasFact true true x y K || hasFact true true y x K) with
        | true =>
          rw [h3, cond_true, Option.some.injEq] at h
          rw [← h]
          simp only [Bool.false_eq_true, iff_false]
          intro he
          simp only [Bool.or_eq_true] at h3
          rcases h3 with ((h3 | h3) | h3) | h3
          · have := hasFact_ok hK h3
            simp only [Atom, Bool.false_eq_true, iff_false] at this
            exact this he
          · have := hasFact_ok hK h3
            simp only [Atom, Bool.false_eq_true, iff_false] at this
            exact this he.symm
          · have := hasFact_ok hK h3
            simp only [Atom, iff_true] at this
            rw [he] at this
            exact absurd this (Int.lt_irrefl _)
          · have := hasFact_ok hK h3
            simp only [Atom, iff_true] at this
            rw [he] at this
            exact absurd this (Int.lt_irrefl _)
        | false =>
          rw [h3, cond_false] at h
          cases h
  | true =>
    simp only at h
    show iOf (den ρ x) < iOf (den ρ y) ↔ _
    split at h
    · simp only [Option.some.injEq] at h
      rw [den_lit rfl, den_lit rfl, ← h]
      simp [iOf]
    · cases h1 : symB 20 x y with
      | true =>
        rw [h1, cond_true, Option.some.injEq] at h
        rw [symB_eq _ h1, ← h]
        simp
      | false =>
        rw [h1, cond_false] at h
        cases h2 : hasFact true true x y K with
        | true =>
          rw [h2, cond_true, Option.some.injEq] at h
          rw [← h]
          exact hasFact_ok hK h2
        | false =>
          rw [h2, cond_false] at h
          cases h3 : (hasFact true false x y K || hasFact true true y x K) with
          | true =>
            rw [h3, cond_true, Option.some.injEq] at h
            rw [← h]
            simp only [Bool.or_eq_true] at h3
            rcases h3 with h3 | h3
            · exact hasFact_ok hK h3
            · have := hasFact_ok hK h3
              simp only [Atom, iff_true] at this
              simp only [Bool.false_eq_true, iff_false]
              omega
          | false =>
            rw [h3, cond_false] at h
            cases h

theorem Holds.cons {f : Fact} (hK : Holds ρ K) (h : f.holds ρ) : Holds ρ (f :: K) := fun g hg => by
  rcases List.mem_cons.1 hg with rfl | hg
  · exact h
  · exact hK g hg

theorem ask0_ok (hK : Holds ρ K) {lt : Bool} {x y : Value} : Snd ρ (some (ask0 lt K x y)) fun b => Atom ρ lt x y ↔ b = true := by
  unfold ask0
  split
  · rename_i b hb
    exact Snd.one hK (look_ok hK hb)
  · intro l hl
    cases hc : (Value.plain x && !lt) with
    | true =>
      rw [hc, cond_true, Option.some.injEq] at hl
      subst hl
      simp only [Bool.and_eq_true, Bool.not_eq_true'] at hc
      have hsym : Atom ρ lt y x ↔ Atom ρ lt x y := by rw [hc.2]; exact eq_comm
      by_cases ha : Atom ρ lt x y
      · exact ⟨_, .head _, hK.cons (by simpa [Fact.holds, hsym] using ha), by simpa using ha⟩
      · exact ⟨_, .tail _ (.head _), hK.cons (by simpa [Fact.holds, hsym] using ha), by simpa using ha⟩
    | false =>
      rw [hc, cond_false, Option.some.injEq] at hl
      subst hl
      by_cases ha : Atom ρ lt x y
      · exact ⟨_, .head _, hK.cons (by simpa [Fact.holds] using ha), by simpa using ha⟩
      · exact ⟨_, .tail _ (.head _), hK.cons (by simpa [Fact.holds] using ha), by simpa using ha⟩

theorem ask_ok (hK : Holds ρ K) {lt : Bool} {x y : Value} : Snd ρ (some (ask lt x y K)) fun b => Atom ρ lt x y ↔ b = true := by
  refine (ask0_ok hK (lt := lt) (x := canon K x) (y := canon K y)).mono fun b hb => ?_
  rw [← hb]
  cases lt with
  | true => simp only [Atom, canon_ok hK]
  | false => simp only [Atom, canon_ok hK]

theorem intK_ok {v : Value} {k : IntKind} (h : intK v = some k) : ∃ n, den ρ v = .int k n := by
  unfold intK at h
  split at h <;> first | (cases h; done) | skip
  all_goals (simp only [Option.some.injEq] at h; subst h; simp [den])

theorem isBool_ok {v : Value} (h : isBool v = true) : ∃ b, den ρ v = .bool b := by
  unfold isBool at h
  split at h <;> first | (cases h; done) | skip
  all_goals simp [den]

theorem isStr_ok {v : Value} (h : isStr v = true) : ∃ s, den ρ v = .string s := by
  unfold isStr at h
  split at h <;> first | (cases h; done) | skip
  all_goals simp [den]
end
end E
end Go.Proofs.Ytnfehccnofhmnaa
