/-
  Symbols in the abstract machine: values that stand for what is not known, what is known of them; a machine that forks where it is not. No condition.
-/
import Derived.Test.YtnfehccnofhmnaaMN4
set_option linter.all false
namespace Go.Proofs.Ytnfehccnofhmnaa
namespace E

/-- What the symbols stand for: numbers, strings. -/
structure Env where
  I : Nat → Int
  S : Nat → ByteArray
  B : Nat → Bool

def iOf : Value → Int
  | .int _ n => n
  | _ => 0
def sOf : Value → ByteArray
  | .string s => s
  | _ => ⟨#[]⟩

def arith (o a b : Int) : Int := if o = 0 then a + b else if o = 1 then a - b else a * b

/-- A symbol: an interface's value: of kind 0 a number, 1 a string, 2 a string's length, 3 a sum and the like, 4 a truth value. -/
def den (ρ : Env) : Value → Value
  | .iface 0 (.int k i) => .int k (ρ.I i.toNat)
  | .iface 1 (.int _ i) => .string (ρ.S i.toNat)
  | .iface 2 x => .int .i64 (sOf (den ρ x)).data.toList.length
  | .iface 3 (.agg ⟨[.int k o, x, y]⟩) => .int k (k.wrap (arith o (iOf (den ρ x)) (iOf (den ρ y))))
  | .iface 4 (.int _ i) => .bool (ρ.B i.toNat)
  | .iface _ _ => .bool false
  | v => v

def Value.isSym : Value → Bool
  | .iface .. => true
  | _ => false

theorem den_lit {ρ : Env} {v : Value} (h : Value.isSym v = false) : den ρ v = v := by
  cases v <;> first | (simp [Value.isSym] at h; done) | simp [den]

/-- What a symbol stands for: a value without an address, of one cell. -/
def Value.plain : Value → Bool
  | .int .. | .string _ | .bool _ => true
  | _ => false

theorem den_sym {ρ : Env} {v : Value} (h : Value.isSym v = true) : Value.plain (den ρ v) = true := by
  cases v <;> first | (simp [Value.isSym] at h; done) | skip
  rename_i t x
  unfold den
  split <;> first | rfl | (rename_i hh; simp [Value.isSym] at hh; done) | skip
  all_goals (rename_i h1 h2 h3 h4 h5 h6; exact absurd rfl (h6 _ _))

def C.den (ρ : Env) : C → C
  | .lit v => .lit (E.den ρ v)
  | c => c

def C.free : C → Bool
  | .lit v => !Value.isSym v
  | _ => true

mutual
def V.den (ρ : Env) : V → V
  | .one c => .one (c.den ρ)
  | .agg cs => .agg (cs.map (C.den ρ))
  | .tup vs => .tup (denL ρ vs)
def denL (ρ : Env) : List V → List V
  | [] => []
  | v :: vs => V.den ρ v :: denL ρ vs
end

mutual
def V.free : V → Bool
  | .one c => c.free
  | .agg cs => cs.all C.free
  | .tup vs => freeL vs
def freeL : List V → Bool
  | [] => true
  | v :: vs => V.free v && freeL vs
end

def Blk.den (ρ : Env) : Blk → Blk
  | .row rw sz cs => .row rw sz (cs.map (C.den ρ))
  | .map es clock => .map (es.map fun e => (e.1, e.2.1.den ρ, e.2.2)) clock

def bsDen (ρ : Env) (l : List (Nat × Blk)) : List (Nat × Blk) := l.map fun p => (p.1, p.2.den ρ)
def envDen (ρ : Env) (l : List (Nat × V)) : List (Nat × V) := l.map fun p => (p.1, p.2.den ρ)
def bxDen (ρ : Env) (l : List (Nat × List C)) : List (Nat × List C) := l.map fun p => (p.1, p.2.map (C.den ρ))
def Heap.den (ρ : Env) (h : Heap) : Heap := ⟨h.next, bsDen ρ h.bs⟩
def St.den (ρ : Env) (σ : St) : St := ⟨envDen ρ σ.env, bxDen ρ σ.bx, σ.h.den ρ⟩

/-! ### What is known -/
structure Fact where
  lt : Bool
  x : Value
  y : Value
  b : Bool

abbrev Know := List Fact

/-- An order or an equality of two values. -/
def Atom (ρ : Env) (lt : Bool) (x y : Value) : Prop := match lt with
  | true => iOf (den ρ x) < iOf (den ρ y)
  | false => den ρ x = den ρ y

def Fact.holds (ρ : Env) (f : Fact) : Prop := Atom ρ f.lt f.x f.y ↔ f.b = true
def Holds (ρ : Env) (K : Know) : Prop := ∀ f, f ∈ K → f.holds ρ

def symB : Nat → Value → Value → Bool
  | _, .int j a, .int k b => decide (j = k) && decide (a = b)
  | _, .bool a, .bool b => a == b
  | _, .string a, .string b => strEq a b
  | n + 1, .iface t x, .iface u y => Nat.beq t u && symB n x y
  | n + 1, .agg ⟨[a, x, y]⟩, .agg ⟨[b, u, v]⟩ => symB n a b && symB n x u && symB n y v
  | _, _, _ => false

def findEq (x : Value) : Know → Option Value
  | [] => none
  | f :: K => cond (!f.lt && f.b && symB 20 f.x x) (some f.y) (findEq x K)

def canon1 (K : Know) : Nat → Value → Value
  | 0, v => v
  | n + 1, v => match Value.isSym v with
    | true => match findEq v K with
      | some u => canon1 K n u
      | none => v
    | false => v

def canon (K : Know) (v : Value) : Value :=
  match v with
  | .iface 2 x => match canon1 K 8 x with
    | .string s => .int .i64 s.data.toList.length
    | y => canon1 K 8 (.iface 2 y)
  | v => canon1 K 8 v

def hasFact (lt b : Bool) (x y : Value) : Know → Bool
  | [] => false
  | f :: K => cond (f.lt == lt && f.b == b && symB 20 f.x x && symB 20 f.y y) true (hasFact lt b x y K)

/-- Of canonical values. -/
def look (lt : Bool) (K : Know) (x y : Value) : Option Bool :=
  match lt with
  | false =>
    cond (symB 20 x y) (some true)
      (cond (Value.plain x && Value.plain y) (some false)
        (cond (hasFact false false x y K || hasFact false false y x K || hasFact true true x y K || hasFact true true y x K) (some false) none))
  | true => match x, y with
    | .int _ a, .int _ b => some (decide (a < b))
    | x, y => cond (symB 20 x y) (some false)
        (cond (hasFact true true x y K) (some true) (cond (hasFact true false x y K || hasFact true true y x K) (some false) none))

def ask0 (lt : Bool) (K : Know) (x y : Value) : List (Know × Bool) :=
  match look lt K x y with
  | some b => [(K, b)]
  | none => cond (Value.plain x && !lt)
      [(⟨lt, y, x, true⟩ :: K, true), (⟨lt, y, x, false⟩ :: K, false)]
      [(⟨lt, x, y, true⟩ :: K, true), (⟨lt, x, y, false⟩ :: K, false)]

def ask (lt : Bool) (x y : Value) (K : Know) : List (Know × Bool) := ask0 lt K (canon K x) (canon K y)

def intK : Value → Option IntKind
  | .int k _ => some k
  | .iface 0 (.int k _) => some k
  | .iface 2 _ => some .i64
  | .iface 3 (.agg ⟨[.int k _, _, _]⟩) => some k
  | _ => none

def isStr : Value → Bool
  | .string _ => true
  | .iface 1 (.int _ _) => true
  | _ => false

def isBool : Value → Bool
  | .bool _ => true
  | .iface 4 (.int _ _) => true
  | _ => false

/-! ### Lists of ways -/
abbrev Ways (α : Type) := Option (List (Know × α))

def bndL {α β : Type} : List (Know × α) → (Know → α → Ways β) → Ways β
  | [], _ => some []
  | [(K, a)], f => f K a
  | (K, a) :: l, f => match f K a with
    | some x => match bndL l f with
      | some y => some (x ++ y)
      | none => none
    | none => none

def bnd {α β : Type} (m : Ways α) (f : Know → α → Ways β) : Ways β :=
  match m with
  | some l => bndL l f
  | none => none

def mapW {α β : Type} (g : α → β) (l : List (Know × α)) : List (Know × β) := l.map fun p => (p.1, g p.2)

/-- One of the ways is so. -/
def Snd {α : Type} (ρ : Env) (m : Ways α) (Q : α → Prop) : Prop := ∀ l, m = some l → ∃ p, p ∈ l ∧ Holds ρ p.1 ∧ Q p.2

theorem Snd.one {α : Type} {ρ : Env} {K : Know} {a : α} {Q : α → Prop} (hK : Holds ρ K) (h : Q a) : Snd ρ (some [(K, a)]) Q := fun l hl => by
  cases hl
  exact ⟨_, .head _, hK, h⟩

theorem Snd.none {α : Type} {ρ : Env} {Q : α → Prop} : Snd ρ none Q := fun _ h => by cases h

theorem Snd.mono {α : Type} {ρ : Env} {m : Ways α} {Q R : α → Prop} (h : Snd ρ m Q) (hQ : ∀ a, Q a → R a) : Snd ρ m R := fun l hl => by
  obtain ⟨p, h1, h2, h3⟩ := h l hl
  exact ⟨p, h1, h2, hQ _ h3⟩

theorem bndL_snd {α β : Type} {ρ : Env} {f : Know → α → Ways β} {R : β → Prop} {p : Know × α} (hf : Snd ρ (f p.1 p.2) R) : ∀ {l : List (Know × α)}, p ∈ l → Snd ρ (bndL l f) R
  | [], h => by cases h
  | [q], h => by
    rcases List.mem_singleton.1 h with rfl
    exact hf
  | q :: r :: l, h => by
    intro l' hl'
    simp only [bndL] at hl'
    split at hl'
    · rename_i x hx
      split at hl'
      · rename_i y hy
        simp only [Option.some.injEq] at hl'
        subst hl'
        rcases List.mem_cons.1 h with rfl | h
        · obtain ⟨s, h1, h2⟩ := hf _ hx
          exact ⟨s, List.mem_append_left _ h1, h2⟩
        · obtain ⟨s, h1, h2⟩ := bndL_snd hf h _ hy
          exact ⟨s, List.mem_append_right _ h1, h2⟩
      · cases hl'
    · cases hl'

theorem Snd.bnd {α β : Type} {ρ : Env} {m : Ways α} {f : Know → α → Ways β} {Q : α → Prop} {R : β → Prop} (h : Snd ρ m Q) (hf : ∀ K a, Holds ρ K → Q a → Snd ρ (f K a) R) : Snd ρ (bnd m f) R := by
  unfold E.bnd
  cases m with
  | none => exact Snd.none
  | some l =>
    obtain ⟨p, h1, h2, h3⟩ := h l rfl
    exact bndL_snd (hf _ _ h2 h3) h1

theorem Snd.mapW {α β : Type} {ρ : Env} {l : List (Know × α)} {g : α → β} {Q : β → Prop} (h : Snd ρ (some l) fun a => Q (g a)) : Snd ρ (some (mapW g l)) Q := fun l' hl' => by
  cases hl'
  obtain ⟨p, h1, h2, h3⟩ := h l rfl
  exact ⟨(p.1, g p.2), List.mem_map.2 ⟨p, h1, rfl⟩, h2, h3⟩

/-! ### What is known, sound -/
section
variable {ρ : Env} {K : Know}

theorem strEq_iff {a b : ByteArray} : strEq a b = true ↔ a = b := by
  constructor
  · intro h
    have h : (a.data.toList == b.data.toList) = true := h
    exact ByteArray.ext (Array.toList_inj.1 (eq_of_beq h))
  · rintro rfl
    show (a.data.toList == a.data.toList) = true
    exact beq_self_eq_true _

theorem symB_eq : ∀ (n : Nat) {x y : Value}, symB n x y = true → x = y := by
  intro n
  induction n with
  | zero =>
    intro x y h
    unfold symB at h
    split at h <;> simp_all [strEq_iff]
  | succ n ih =>
    intro x y h
    unfold symB at h
    split at h
    · simp only [Bool.and_eq_true, decide_eq_true_eq] at h
      rw [h.1, h.2]
    · rw [eq_of_beq h]
    · rw [strEq_iff.1 h]
    · simp only [Bool.and_eq_true] at h
      rename_i hn
      cases hn
      rw [Nat.eq_of_beq_eq_true h.1, ih h.2]
    · simp only [Bool.and_eq_true] at h
      rename_i hn
      cases hn
      rw [ih h.1.1, ih h.1.2, ih h.2]
    · cases h

theorem symB_plain {n : Nat} {x y : Value} (hx : Value.plain x = true) (hy : Value.plain y = true) (h : symB n x y = false) : x ≠ y := by
  rintro rfl
  cases x <;> first | (cases hx; done) | skip
  all_goals (cases n <;> simp [symB, strEq_iff.2] at h)

theorem findEq_ok : ∀ {K : Know} {x u : Value}, Holds ρ K → findEq x K = some u → den ρ u = den ρ x
  | [], _, _, _, h => by cases h
  | f :: K, x, u, hK, h => by
    simp only [findEq] at h
    cases hc : (!f.lt && f.b && symB 20 f.x x) with
    | true =>
      rw [hc, cond_true, Option.some.injEq] at h
      simp only [Bool.and_eq_true, Bool.not_eq_true'] at hc
      have := (hK f (.head _)).2 hc.1.2
      unfold Atom at this
      rw [hc.1.1] at this
      rw [← h, ← symB_eq _ hc.2]
      exact this.symm
    | false =>
      rw [hc, cond_false] at h
      exact findEq_ok (fun g hg => hK g (.tail _ hg)) h

theorem canon1_ok (hK : Holds ρ K) : ∀ (n : Nat) (v : Value), den ρ (canon1 K n v) = den ρ v
  | 0, _ => rfl
  | n + 1, v => by
    simp only [canon1]
    split
    · split
      · rename_i u hu
        rw [canon1_ok hK n u, findEq_ok hK hu]
      · rfl
    · rfl

theorem canon_ok (hK : Holds ρ K) (v : Value) : den ρ (canon K v) = den ρ v := by
  unfold canon
  split
  · rename_i x
    have h := canon1_ok hK 8 x
    split
    · rename_i s hs
      rw [hs, den_lit rfl] at h
      rw [den_lit rfl]
      simp only [den, ← h, sOf]
    · rename_i y hy
      rw [canon1_ok hK]
      simp only [den, h]
  · exact canon1_ok hK 8 v

theorem hasFact_ok {lt b : Bool} {x y : Value} : ∀ {K : Know}, Holds ρ K → hasFact lt b x y K = true → (Atom ρ lt x y ↔ b = true)
  | [], _, h => by cases h
  | f :: K, hK, h => by
    simp only [hasFact] at h
    cases hc : (f.lt == lt && f.b == b && symB 20 f.x x && symB 20 f.y y) with
    | true =>
      simp only [Bool.and_eq_true, beq_iff_eq] at hc
      have := hK f (.head _)
      unfold Fact.holds at this
      rw [hc.1.1.1, hc.1.1.2, symB_eq _ hc.1.2, symB_eq _ hc.2] at this
      exact this
    | false =>
      rw [hc, cond_false] at h
      exact hasFact_ok (fun g hg => hK g (.tail _ hg)) h

theorem plain_den {x : Value} (h : Value.plain x = true) : den ρ x = x := den_lit (by cases x <;> first | rfl | cases h)

theorem look_ok (hK : Holds ρ K) {lt b : Bool} {x y : Value} (h : look lt K x y = some b) : Atom ρ lt x y ↔ b = true := by
  unfold look at h
  cases lt with
  | false =>
    simp only at h
    show den ρ x = den ρ y ↔ _
    cases h1 : symB 20 x y with
    | true =>
      rw [h1, cond_true, Option.some.injEq] at h
      rw [symB_eq _ h1, ← h]
      simp
    | false =>
      rw [h1, cond_false] at h
      cases h2 : (Value.plain x && Value.plain y) with
      | true =>
        rw [h2, cond_true, Option.some.injEq] at h
        simp only [Bool.and_eq_true] at h2
        rw [plain_den h2.1, plain_den h2.2, ← h]
        simp [symB_plain h2.1 h2.2 h1]
      | false =>
        rw [h2, cond_false] at h
        cases h3 : (hasFact false false x y K || hasFact false false y x K || hasFact true true x y K || hasFact true true y x K) with
        | true =>
          rw [h3, cond_true, Option.some.injEq] at h
          rw [← h]
          simp only [Bool.false_eq_true, iff_false]
          intro he
          simp only [Bool.or_eq_true] at h3
          rcases h3 with ((h3 | h3) | h3) | h3
          · have := hasFact_ok hK h3
            simp only [Atom, Bool.false_eq_true, iff_false] at this
            exact this he
          · have := hasFact_ok hK h3
            simp only [Atom, Bool.false_eq_true, iff_false] at this
            exact this he.symm
          · have := hasFact_ok hK h3
            simp only [Atom, iff_true] at this
            rw [he] at this
            exact absurd this (Int.lt_irrefl _)
          · have := hasFact_ok hK h3
            simp only [Atom, iff_true] at this
            rw [he] at this
            exact absurd this (Int.lt_irrefl _)
        | false =>
          rw [h3, cond_false] at h
          cases h
  | true =>
    simp only at h
    show iOf (den ρ x) < iOf (den ρ y) ↔ _
    split at h
    · simp only [Option.some.injEq] at h
      rw [den_lit rfl, den_lit rfl, ← h]
      simp [iOf]
    · cases h1 : symB 20 x y with
      | true =>
        rw [h1, cond_true, Option.some.injEq] at h
        rw [symB_eq _ h1, ← h]
        simp
      | false =>
        rw [h1, cond_false] at h
        cases h2 : hasFact true true x y K with
        | true =>
          rw [h2, cond_true, Option.some.injEq] at h
          rw [← h]
          exact hasFact_ok hK h2
        | false =>
          rw [h2, cond_false] at h
          cases h3 : (hasFact true false x y K || hasFact true true y x K) with
          | true =>
            rw [h3, cond_true, Option.some.injEq] at h
            rw [← h]
            simp only [Bool.or_eq_true] at h3
            rcases h3 with h3 | h3
            · exact hasFact_ok hK h3
            · have := hasFact_ok hK h3
              simp only [Atom, iff_true] at this
              simp only [Bool.false_eq_true, iff_false]
              omega
          | false =>
            rw [h3, cond_false] at h
            cases h

theorem Holds.cons {f : Fact} (hK : Holds ρ K) (h : f.holds ρ) : Holds ρ (f :: K) := fun g hg => by
  rcases List.mem_cons.1 hg with rfl | hg
  · exact h
  · exact hK g hg

theorem ask0_ok (hK : Holds ρ K) {lt : Bool} {x y : Value} : Snd ρ (some (ask0 lt K x y)) fun b => Atom ρ lt x y ↔ b = true := by
  unfold ask0
  split
  · rename_i b hb
    exact Snd.one hK (look_ok hK hb)
  · intro l hl
    cases hc : (Value.plain x && !lt) with
    | true =>
      rw [hc, cond_true, Option.some.injEq] at hl
      subst hl
      simp only [Bool.and_eq_true, Bool.not_eq_true'] at hc
      have hsym : Atom ρ lt y x ↔ Atom ρ lt x y := by rw [hc.2]; exact eq_comm
      by_cases ha : Atom ρ lt x y
      · exact ⟨_, .head _, hK.cons (by simpa [Fact.holds, hsym] using ha), by simpa using ha⟩
      · exact ⟨_, .tail _ (.head _), hK.cons (by simpa [Fact.holds, hsym] using ha), by simpa using ha⟩
    | false =>
      rw [hc, cond_false, Option.some.injEq] at hl
      subst hl
      by_cases ha : Atom ρ lt x y
      · exact ⟨_, .head _, hK.cons (by simpa [Fact.holds] using ha), by simpa using ha⟩
      · exact ⟨_, .tail _ (.head _), hK.cons (by simpa [Fact.holds] using ha), by simpa using ha⟩

theorem ask_ok (hK : Holds ρ K) {lt : Bool} {x y : Value} : Snd ρ (some (ask lt x y K)) fun b => Atom ρ lt x y ↔ b = true := by
  refine (ask0_ok hK (lt := lt) (x := canon K x) (y := canon K y)).mono fun b hb => ?_
  rw [← hb]
  cases lt with
  | true => simp only [Atom, canon_ok hK]
  | false => simp only [Atom, canon_ok hK]

theorem intK_ok {v : Value} {k : IntKind} (h : intK v = some k) : ∃ n, den ρ v = .int k n := by
  unfold intK at h
  split at h <;> first | (cases h; done) | skip
  all_goals (simp only [Option.some.injEq] at h; subst h; simp [den])

theorem isBool_ok {v : Value} (h : isBool v = true) : ∃ b, den ρ v = .bool b := by
  unfold isBool at h
  split at h <;> first | (cases h; done) | skip
  all_goals simp [den]

theorem isStr_ok {v : Value} (h : isStr v = true) : ∃ s, den ρ v = .string s := by
  unfold isStr at h
  split at h <;> first | (cases h; done) | skip
  all_goals simp [den]
end
end E
end Go.Proofs.Ytnfehccnofhmnaa

/-
  Symbols in the abstract machine: what the machine does, it does whatever the symbols stand for: memory, values. No condition.
-/
namespace Go.Proofs.Ytnfehccnofhmnaa
namespace E

section
variable {ρ : Env}

theorem C.den_free {c : C} (h : c.free = true) : c.den ρ = c := by
  cases c with
  | lit v =>
    simp only [C.free, Bool.not_eq_true'] at h
    simp only [C.den, den_lit h]
  | _ => rfl

theorem map_den_free {cs : List C} (h : cs.all C.free = true) : cs.map (C.den ρ) = cs := by
  induction cs with
  | nil => rfl
  | cons c cs ih =>
    simp only [List.all_cons, Bool.and_eq_true] at h
    simp only [List.map_cons, C.den_free h.1, ih h.2]

theorem C.den_lit_plain {v : Value} : Value.plain (E.den ρ v) = true ∨ (Value.isSym v = false ∧ E.den ρ v = v) := by
  cases h : Value.isSym v with
  | true => exact .inl (den_sym h)
  | false => exact .inr ⟨rfl, den_lit h⟩

theorem C.den_ok (c : C) : (c.den ρ).ok = c.ok := by
  cases c with
  | lit v =>
    cases h : Value.isSym v with
    | true =>
      have h2 := den_sym (ρ := ρ) h
      have : (C.lit v).ok = true := by cases v <;> first | rfl | cases h
      rw [this]
      simp only [C.den]
      cases hd : E.den ρ v <;> rw [hd] at h2 <;> first | rfl | cases h2
    | false => simp only [C.den, den_lit h]
  | _ => rfl

theorem all_ok_den (cs : List C) : (cs.map (C.den ρ)).all C.ok = cs.all C.ok := by
  rw [List.all_map]
  congr 1
  funext c
  exact C.den_ok c

theorem denL_eq : ∀ (vs : List V), denL ρ vs = vs.map (V.den ρ)
  | [] => rfl
  | v :: vs => by simp only [denL, List.map_cons, denL_eq vs]

mutual
theorem V.den_free : ∀ {v : V}, v.free = true → v.den ρ = v
  | .one c, h => by
    simp only [V.den, C.den_free (show c.free = true from h)]
  | .agg cs, h => by
    simp only [V.den, map_den_free (show cs.all C.free = true from h)]
  | .tup vs, h => by
    simp only [V.den, denL_free (show freeL vs = true from h)]
theorem denL_free : ∀ {vs : List V}, freeL vs = true → denL ρ vs = vs
  | [], _ => rfl
  | v :: vs, h => by
    have h : (V.free v && freeL vs) = true := h
    simp only [Bool.and_eq_true] at h
    simp only [denL, V.den_free h.1, denL_free h.2]
end

theorem get_map {α β : Type} (g : α → β) : ∀ (l : List (Nat × α)) (t : Nat), get (l.map fun p => (p.1, g p.2)) t = (get l t).map g
  | [], _ => rfl
  | (k, x) :: l, t => by
    simp only [List.map_cons, get]
    cases Nat.beq k t with
    | true => rfl
    | false => exact get_map g l t

theorem setL_map {α β : Type} (g : α → β) (b : Nat) (x : α) : ∀ (l : List (Nat × α)), setL b (g x) (l.map fun p => (p.1, g p.2)) = (setL b x l).map fun p => (p.1, g p.2)
  | [] => rfl
  | (k, y) :: l => by
    simp only [List.map_cons, setL]
    cases Nat.beq k b with
    | true => rfl
    | false => simp only [cond_false, List.map_cons, setL_map g b x l]

theorem delL_map {α β : Type} (g : α → β) (b : Nat) : ∀ (l : List (Nat × α)), delL b (l.map fun p => (p.1, g p.2)) = (delL b l).map fun p => (p.1, g p.2)
  | [] => rfl
  | (k, y) :: l => by
    simp only [List.map_cons, delL]
    cases Nat.beq k b with
    | true => exact delL_map g b l
    | false => simp only [cond_false, List.map_cons, delL_map g b l]

theorem get_envDen (l : List (Nat × V)) (t : Nat) : get (envDen ρ l) t = (get l t).map (V.den ρ) := get_map _ l t
theorem get_bxDen (l : List (Nat × List C)) (t : Nat) : get (bxDen ρ l) t = (get l t).map (List.map (C.den ρ)) := get_map _ l t
theorem Heap.get_den (h : Heap) (b : Nat) : (h.den ρ).get b = (h.get b).map (Blk.den ρ) := get_map _ h.bs b
theorem Heap.set_den (h : Heap) (b : Nat) (x : Blk) : (h.den ρ).set b (x.den ρ) = (h.set b x).den ρ := by
  simp only [Heap.set, Heap.den, bsDen, setL_map]
theorem Heap.set_row (h : Heap) (b : Nat) (rw' : Bool) (sz : Nat) (cs : List C) : (h.den ρ).set b (.row rw' sz (cs.map (C.den ρ))) = (h.set b (.row rw' sz cs)).den ρ := Heap.set_den h b (.row rw' sz cs)
theorem Heap.del_den (h : Heap) (b : Nat) : (h.den ρ).del b = (h.del b).den ρ := by
  simp only [Heap.del, Heap.den, bsDen, delL_map]

theorem V.cells_den (v : V) : (v.den ρ).cells = v.cells.map (List.map (C.den ρ)) := by
  cases v <;> rfl

def cfree : Operand → Bool
  | .const v => (V.ofVal v).free
  | _ => true

theorem ev_den (σ : St) {x : Operand} (hx : cfree x = true) : ev (σ.den ρ) x = (ev σ x).map (V.den ρ) := by
  cases x with
  | tmp t => exact get_envDen σ.env t
  | const v => simp only [ev, Option.map_some, V.den_free (show (V.ofVal v).free = true from hx)]
  | global _ => rfl
  | func f => rfl

theorem evs_den (σ : St) : ∀ {l : List Operand}, l.all cfree = true → evs (σ.den ρ) l = (evs σ l).map (List.map (V.den ρ))
  | [], _ => rfl
  | x :: l, h => by
    simp only [List.all_cons, Bool.and_eq_true] at h
    simp only [evs, ev_den σ h.1, evs_den σ h.2]
    cases ev σ x <;> cases evs σ l <;> rfl

def pden (ρ : Env) (l : List (Nat × V)) : List (Nat × V) := l.map fun p => (p.1, p.2.den ρ)

theorem evParts_den (σ : St) : ∀ {l : List (Nat × Operand)}, (l.all fun p => cfree p.2) = true → evParts (σ.den ρ) l = (evParts σ l).map (pden ρ)
  | [], _ => rfl
  | (i, x) :: l, h => by
    simp only [List.all_cons, Bool.and_eq_true] at h
    simp only [evParts, ev_den σ h.1, evParts_den σ h.2]
    cases ev σ x <;> cases evParts σ l <;> rfl

theorem rd_den (cs : List C) (o n : Nat) : rd (cs.map (C.den ρ)) o n = (rd cs o n).map (List.map (C.den ρ)) := by
  unfold rd
  rw [List.length_map]
  split
  · simp only [Option.map_some, List.map_take, List.map_drop]
  · rfl

theorem wr_den (cs : List C) (o : Nat) (xs : List C) : wr (cs.map (C.den ρ)) o (xs.map (C.den ρ)) = (wr cs o xs).map (List.map (C.den ρ)) := by
  unfold wr
  rw [List.length_map, List.length_map]
  split
  · simp only [Option.map_some, List.map_append, List.map_take, List.map_drop]
  · rfl

theorem loadC_den (σ : St) (c : C) (n : Nat) : loadC (σ.den ρ) (c.den ρ) n = (loadC σ c n).map (List.map (C.den ρ)) := by
  cases c with
  | lit v => rfl
  | ptr b o =>
    simp only [loadC, C.den, St.den, Heap.get_den]
    cases σ.h.get b with
    | none => rfl
    | some x => cases x with
      | row rw sz cs => exact rd_den cs o n
      | map es clock => rfl
  | lp t o =>
    simp only [loadC, C.den, St.den, get_bxDen]
    cases get σ.bx t with
    | none => rfl
    | some cs => exact rd_den cs o n
  | _ => rfl

theorem storeC_den (σ : St) (c : C) (xs : List C) : storeC (σ.den ρ) (c.den ρ) (xs.map (C.den ρ)) = (storeC σ c xs).map (St.den ρ) := by
  unfold storeC
  rw [all_ok_den]
  split
  · cases c with
    | lit v => rfl
    | ptr b o =>
      simp only [C.den, St.den, Heap.get_den]
      cases σ.h.get b with
      | none => rfl
      | some x => cases x with
        | row rw sz cs =>
          cases rw with
          | true =>
            simp only [Option.map_some, Blk.den, wr_den]
            cases wr cs o xs with
            | none => rfl
            | some cs' =>
              simp only [Option.map_some]
              rw [Heap.set_row]
              rfl
          | false => rfl
        | map es clock => rfl
    | lp t o =>
      simp only [C.den, St.den, get_bxDen]
      cases get σ.bx t with
      | none => rfl
      | some cs =>
        simp only [Option.map_some, Option.bind_some, wr_den]
        cases wr cs o xs with
        | none => rfl
        | some cs' =>
          simp only [Option.map_some, bxDen, setL_map, St.den]
    | _ => rfl
  · rfl

theorem mkV_den (b : Bool) (cs : List C) : mkV b (cs.map (C.den ρ)) = (mkV b cs).map (V.den ρ) := by
  cases b with
  | true => rfl
  | false => match cs with
    | [] => rfl
    | [c] => rfl
    | _ :: _ :: _ => rfl

theorem load_den (ti : TI) (σ : St) (c : C) : load ti (σ.den ρ) (c.den ρ) = (load ti σ c).map (V.den ρ) := by
  unfold load
  rw [loadC_den]
  cases loadC σ c (sizeV ti) with
  | none => rfl
  | some cs => exact mkV_den _ cs

theorem partV_den (ti : TI) (cs : List C) (o : Nat) : partV ti (cs.map (C.den ρ)) o = (partV ti cs o).map (V.den ρ) := by
  unfold partV
  rw [rd_den]
  cases rd cs o (sizeV ti) with
  | none => rfl
  | some cs => exact mkV_den _ cs

theorem fillC_den (place : Nat → Option (Nat × Nat)) : ∀ (cs : List C) (l : List (Nat × V)), fillC place (cs.map (C.den ρ)) (pden ρ l) = (fillC place cs l).map (List.map (C.den ρ))
  | cs, [] => rfl
  | cs, (i, v) :: l => by
    simp only [pden, List.map_cons, fillC, V.cells_den]
    cases place i with
    | none => rfl
    | some p =>
      cases v.cells with
      | none => rfl
      | some xs =>
        simp only [Option.map_some, List.length_map, all_ok_den]
        split
        · rw [wr_den]
          cases wr cs p.1 xs with
          | none => rfl
          | some cs' => exact fillC_den place cs' l
        · rfl

/-- A type's zero has no symbol. -/
def tiFree (ti : TI) : Bool :=
  match ti.zero with
  | some z => z.cells.toList.all fun v => !Value.isSym v
  | none => true

theorem zeroC_free {ti : TI} (h : tiFree ti = true) {cs : List C} (hz : zeroC ti = some cs) : cs.map (C.den ρ) = cs := by
  unfold tiFree at h
  unfold zeroC at hz
  cases hz' : ti.zero with
  | none => rw [hz'] at hz; cases hz
  | some z =>
    rw [hz'] at h hz
    simp only [Option.map_some, Option.some.injEq] at hz
    subst hz
    refine map_den_free ?_
    rw [List.all_map]
    simpa [Function.comp_def, C.free] using h

theorem ofVal_free {z : Value} (h : (z.cells.toList.all fun v => !Value.isSym v) = true) : (V.ofVal z).free = true := by
  cases z <;> first | (simp only [V.ofVal, V.free, List.all_map]; simpa [Function.comp_def, C.free, Value.cells] using h) | (simpa [V.ofVal, V.free, C.free, Value.cells] using h)

theorem zerosC_den (z : List C) : ∀ (n : Nat), (zerosC z n).map (C.den ρ) = zerosC (z.map (C.den ρ)) n
  | 0 => rfl
  | n + 1 => by simp only [zerosC, List.map_append, zerosC_den z n]

theorem newRowH_den (σ : St) (nm sz : Nat) (cs : List C) : newRowH (σ.den ρ) nm sz (cs.map (C.den ρ)) = (newRowH σ nm sz cs).map (St.den ρ) := by
  unfold newRowH
  rw [all_ok_den]
  split
  · simp only [Option.map_some, St.den]
    rw [Heap.set_row]
  · rfl

theorem mentionsC_den (t : Nat) (c : C) : mentionsC t (c.den ρ) = mentionsC t c := by cases c <;> rfl

theorem any_mentionsC_den (t : Nat) (cs : List C) : (cs.map (C.den ρ)).any (mentionsC t) = cs.any (mentionsC t) := by
  rw [List.any_map]
  congr 1
  funext c
  exact mentionsC_den t c

theorem mentionsV_den (t : Nat) (v : V) : mentionsV t (v.den ρ) = mentionsV t v := by
  cases v with
  | one c => exact mentionsC_den t c
  | agg cs => exact any_mentionsC_den t cs
  | tup vs =>
    simp only [V.den, denL_eq, mentionsV, List.any_map]
    congr 1
    funext v
    cases v with
    | one c => exact mentionsC_den t c
    | agg cs => exact any_mentionsC_den t cs
    | tup _ => rfl

theorem newBox_den (σ : St) (t : Nat) (cs : List C) : newBox (σ.den ρ) t (cs.map (C.den ρ)) = (newBox σ t cs).map (St.den ρ) := by
  unfold newBox
  have h1 : (get (σ.den ρ).bx t).isNone = (get σ.bx t).isNone := by
    show (get (bxDen ρ σ.bx) t).isNone = _
    rw [get_bxDen]
    cases get σ.bx t <;> rfl
  have h2 : ((σ.den ρ).env.any fun p => mentionsV t p.2) = σ.env.any fun p => mentionsV t p.2 := by
    show ((envDen ρ σ.env).any fun p => mentionsV t p.2) = _
    rw [envDen, List.any_map]
    congr 1
    funext p
    exact mentionsV_den t p.2
  rw [all_ok_den, h1, h2]
  split <;> rfl

theorem den_plain_cases {v : Value} (hs : Value.isSym v = true) : (∃ k n, E.den ρ v = .int k n) ∨ (∃ s, E.den ρ v = .string s) ∨ ∃ b, E.den ρ v = .bool b := by
  have := den_sym (ρ := ρ) hs
  cases hd : E.den ρ v <;> rw [hd] at this <;> first | (cases this; done) | simp

theorem sliceCells_den {σ : St} {sz : Nat} {c : C} {cs : List C} (h : sliceCells σ sz c = some cs) : sliceCells (σ.den ρ) sz (c.den ρ) = some (cs.map (C.den ρ)) := by
  unfold sliceCells at h
  split at h
  · cases h
    simp only [C.den, den_lit (ρ := ρ) (v := .slice none _ _) rfl, sliceCells, List.map_nil]
  · rename_i b o len cap
    simp only [C.den, sliceCells, St.den, Heap.get_den]
    cases hb : σ.h.get b with
    | none => rw [hb] at h; cases h
    | some x => cases x with
      | row rw sz' cs' =>
        rw [hb] at h
        simp only at h
        simp only [Option.map_some, Blk.den, rd_den, h]
      | map es clock => rw [hb] at h; cases h
  · cases h

theorem lenC_den {c : C} {n : Nat} (h : lenC c = some n) : lenC (c.den ρ) = some n := by
  unfold lenC at h
  split at h
  · simpa only [C.den, den_lit (ρ := ρ) (v := .slice none _ _) rfl, lenC] using h
  · simpa only [C.den, lenC] using h
  · simpa only [C.den, den_lit (ρ := ρ) (v := .string _) rfl, lenC] using h
  · cases h

theorem appendC_den {ti : TI} {nm : Nat} {σ σ' : St} {s x r : C} (h : appendC ti nm σ s x = some (r, σ')) : appendC ti nm (σ.den ρ) (s.den ρ) (x.den ρ) = some (r.den ρ, σ'.den ρ) := by
  unfold appendC at h ⊢
  split at h
  case h_2 => cases h
  rename_i news m h1 h2
  rw [sliceCells_den h1, lenC_den h2]
  simp only [all_ok_den, List.length_map]
  split at h
  case isFalse => cases h
  rename_i hc
  rw [if_pos hc]
  split at h
  · simp only [C.den, den_lit (ρ := ρ) (v := .slice none 0 0) rfl]
    split at h
    · rename_i hm
      rw [if_pos hm]
      cases h
      simp only [C.den, den_lit (ρ := ρ) (v := .slice none 0 0) rfl]
    · rename_i hm
      rw [if_neg hm]
      split at h
      · rename_i hb
        rw [if_pos hb]
        cases h
        simp only [C.den, St.den]
        rw [Heap.set_row]
      · cases h
  · rename_i b o len cap
    simp only [C.den, St.den, Heap.get_den]
    cases hb : σ.h.get b with
    | none => rw [hb] at h; cases h
    | some blk => cases blk with
      | map es clock => rw [hb] at h; cases h
      | row rw sz cs =>
        rw [hb] at h
        cases rw with
        | false => cases h
        | true =>
          simp only at h
          simp only [Option.map_some, Blk.den, List.length_map]
          split at h
          · rename_i hm
            rw [if_pos hm]
            cases h
            rfl
          · rename_i hm
            rw [if_neg hm]
            split at h
            · rename_i hl
              rw [if_pos hl, wr_den]
              cases hw : wr cs (o + len * ti.size) news with
              | none => rw [hw] at h; cases h
              | some cs' =>
                rw [hw] at h
                simp only [Option.map_some, Option.some.injEq, Prod.mk.injEq] at h
                obtain ⟨rfl, rfl⟩ := h
                simp only [Option.map_some]
                rw [Heap.set_row]
            · rename_i hl
              rw [if_neg hl]
              split at h
              · rename_i hb2
                rw [if_pos hb2, rd_den]
                cases hw : rd cs o (len * ti.size) with
                | none => rw [hw] at h; cases h
                | some cs' =>
                  rw [hw] at h
                  simp only [Option.map_some, Option.some.injEq, Prod.mk.injEq] at h
                  obtain ⟨rfl, rfl⟩ := h
                  simp only [Option.map_some, Heap.del_den]
                  rw [← List.map_append, Heap.set_row]
              · cases h
  · cases h

theorem shiftC_den (c : C) (k : Nat) : shiftC (c.den ρ) k = (shiftC c k).map (C.den ρ) := by cases c <;> rfl

theorem szOk_den (σ : St) (b sz l : Nat) : szOk (σ.den ρ) b sz l = szOk σ b sz l := by
  unfold szOk
  simp only [St.den, Heap.get_den]
  cases σ.h.get b with
  | none => rfl
  | some x => cases x <;> rfl

theorem idxOf_den {v : V} {i : Int} (h : idxOf v = some i) : idxOf (v.den ρ) = some i := by
  unfold idxOf at h
  split at h
  · simpa only [V.den, C.den, den_lit (ρ := ρ) (v := .int _ _) rfl, idxOf] using h
  · cases h

theorem idxAddr_den {X : Ctx} {t : TypeId} {c r : C} {i : Int} (h : idxAddr X t c i = some r) : idxAddr X t (c.den ρ) i = some (r.den ρ) := by
  unfold idxAddr at h ⊢
  cases hX : X.tt t with
  | none => rw [hX] at h; cases h
  | some ti =>
    rw [hX] at h
    simp only at h ⊢
    cases hd : ti.desc <;> rw [hd] at h <;> simp only at h ⊢ <;> first | (cases h; done) | skip
    · rename_i e
      cases hE : X.tt e with
      | none => rw [hE] at h; cases h
      | some et =>
        rw [hE] at h
        cases c <;> simp only at h <;> first | (cases h; done) | skip
        simp only [C.den]
        split at h
        · rename_i hc
          rw [if_pos hc]
          cases h
          rfl
        · cases h
    · rename_i len e
      cases hE : X.tt e with
      | none => rw [hE] at h; cases h
      | some et =>
        rw [hE] at h
        simp only at h ⊢
        split at h
        · rename_i hc
          rw [if_pos hc, shiftC_den, h]
          rfl
        · cases h

theorem capsOf_den : ∀ {vs : List V} {l : List (Nat × Nat)}, capsOf vs = some l → capsOf (vs.map (V.den ρ)) = some l
  | [], _, h => h
  | v :: vs, l, h => by
    unfold capsOf at h
    split at h
    · rename_i hh; cases hh
    · rename_i b o vs' hh
      cases hh
      cases hc : capsOf vs with
      | none => rw [hc] at h; cases h
      | some l' =>
        rw [hc] at h
        simp only [List.map_cons, V.den, C.den, capsOf, capsOf_den hc]
        exact h
    · cases h
end
end E
end Go.Proofs.Ytnfehccnofhmnaa

/-
  Symbols in the abstract machine: what an operation does, it does whatever the symbols stand for. No condition.
-/
namespace Go.Proofs.Ytnfehccnofhmnaa
namespace E

def freeAt (σ : St) (x : Operand) : Bool :=
  match ev σ x with
  | some v => v.free
  | none => false

def isAggAt (σ : St) (x : Operand) : Bool :=
  match ev σ x with
  | some (.agg _) => true
  | _ => false

def aggIdx (X : Ctx) (σ : St) (t : TypeId) (x : Operand) : Bool := isAggAt σ x && (elemTI X t).isSome

/-- May an operation be done as it stands: where it looks into values, there is no symbol. -/
def natOk (X : Ctx) (σ : St) (o : Oper) : Bool :=
  match o.op with
  | .binOp .. | .unOp .. | .convert .. | .slice .. | .lookup .. => o.op.operands.toList.all (freeAt σ)
  | .index t x _ => aggIdx X σ t x || o.op.operands.toList.all (freeAt σ)
  | .mapUpdate _ _ k _ | .insert _ _ k _ => freeAt σ k
  | .call c => match c.callee with
    | .builtin .delete => c.args.toList.all (freeAt σ)
    | _ => true
  | _ => true

def resOk (X : Ctx) (σ : St) (o : Oper) (v : V) : Bool :=
  match o.op with
  | .binOp .. | .unOp .. | .convert .. | .slice .. => v.free
  | .index t x _ => aggIdx X σ t x || v.free
  | _ => true

def operOk (o : Oper) : Bool := o.op.operands.toList.all cfree

def ZFree (X : Ctx) : Prop := ∀ t ti, X.tt t = some ti → tiFree ti = true

section
variable {ρ : Env} {P : Program} {X : Ctx} {fi : Fi} {nm : Nat} {σ σ' : St} {o : Oper} {v : V}

theorem ev_free {x : Operand} (hc : cfree x = true) (h : freeAt σ x = true) : ev (σ.den ρ) x = ev σ x := by
  rw [ev_den σ hc]
  unfold freeAt at h
  split at h
  · rename_i v hv
    rw [hv, Option.map_some, V.den_free h]
  · cases h

theorem free_of {x : Operand} {v : V} (h : freeAt σ x = true) (hv : ev σ x = some v) : v.free = true := by
  unfold freeAt at h
  rwa [hv] at h

theorem pureV_den (hc : operOk o = true) (hf : o.op.operands.toList.all (freeAt σ) = true) (hs : ∀ cs b, o.op ≠ .select cs b) (h : op.pureV P o σ = some (v, σ')) (hv : v.free = true) :
    op.pureV P o (σ.den ρ) = some (v.den ρ, σ'.den ρ) := by
  simp only [op.pureV, Option.map_eq_some_iff, Prod.mk.injEq] at h ⊢
  obtain ⟨u, h1, rfl, rfl⟩ := h
  refine ⟨u, ?_, (V.den_free hv).symm, rfl⟩
  rw [← h1]
  exact pureOp_eq hs fun x hx => ev_free (List.all_eq_true.1 hc x hx) (List.all_eq_true.1 hf x hx)

theorem onC_den {x : Operand} {k : C → Option (V × St)} {c : C} (hx : cfree x = true) (h : ev σ x = some (.one c)) : onC (σ.den ρ) x k = k (c.den ρ) := by
  unfold onC
  rw [ev_den σ hx, h]
  rfl
theorem onV_den {x : Operand} {k : V → Option (V × St)} {c : V} (hx : cfree x = true) (h : ev σ x = some c) : onV (σ.den ρ) x k = k (c.den ρ) := by
  unfold onV
  rw [ev_den σ hx, h]
  rfl
theorem onTI_eq {t : TypeId} {k : TI → Option (V × St)} {ti : TI} (h : X.tt t = some ti) : onTI X t k = k ti := by
  unfold onTI
  rw [h]

theorem newVarE_den {d : Option Nat} {cs : List C} (h : newVarE fi nm d σ cs = some (v, σ')) : newVarE fi nm d (σ.den ρ) (cs.map (C.den ρ)) = some (v.den ρ, σ'.den ρ) := by
  unfold newVarE at h ⊢
  cases d with
  | none => cases h
  | some t =>
    simp only at h ⊢
    cases hp : fi.prom.contains t with
    | true =>
      rw [hp, cond_true] at h
      rw [cond_true]
      simp only [Option.map_eq_some_iff, Prod.mk.injEq] at h ⊢
      obtain ⟨a, h1, rfl, rfl⟩ := h
      exact ⟨a.den ρ, by rw [newBox_den, h1]; rfl, rfl, rfl⟩
    | false =>
      rw [hp, cond_false] at h
      rw [cond_false]
      simp only [Option.map_eq_some_iff, Prod.mk.injEq] at h ⊢
      obtain ⟨a, h1, rfl, rfl⟩ := h
      exact ⟨a.den ρ, by rw [newRowH_den, h1]; rfl, rfl, rfl⟩

def esDen (ρ : Env) (es : List (Value × V × Nat)) : List (Value × V × Nat) := es.map fun e => (e.1, e.2.1.den ρ, e.2.2)

theorem entriesOf_den {c : C} (h : c.free = true) : entriesOf (σ.den ρ) c = (entriesOf σ c).map (esDen ρ) := by
  cases c with
  | lit v =>
    unfold entriesOf
    split <;> simp_all [esDen]
  | mp b =>
    simp only [entriesOf, St.den, Heap.get_den]
    cases σ.h.get b with
    | none => rfl
    | some x => cases x <;> rfl
  | _ => rfl

theorem findK_den (d : KD) (k : Value) : ∀ (es : List (Value × V × Nat)), findK d k (esDen ρ es) = (findK d k es).map (Option.map fun p => (p.1.den ρ, p.2))
  | [] => rfl
  | (k', u, n) :: es => by
    simp only [esDen, List.map_cons, findK]
    cases keyEq d k k' with
    | none => rfl
    | some b => cases b with
      | true => rfl
      | false => exact findK_den d k es

theorem setK_den (d : KD) (k : Value) (u : V) : ∀ (es : List (Value × V × Nat)), setK d k (u.den ρ) (esDen ρ es) = (setK d k u es).map (esDen ρ)
  | [] => rfl
  | (k', u', n) :: es => by
    simp only [esDen, List.map_cons, setK]
    cases keyEq d k k' with
    | none => rfl
    | some b => cases b with
      | true => rfl
      | false =>
        have := setK_den d k u es
        simp only [esDen] at this
        simp only [this]
        cases setK d k u es <;> rfl

theorem dropK_den (d : KD) (k : Value) : ∀ (es : List (Value × V × Nat)), dropK d k (esDen ρ es) = (dropK d k es).map (esDen ρ)
  | [] => rfl
  | (k', u', n) :: es => by
    simp only [esDen, List.map_cons, dropK]
    cases keyEq d k k' with
    | none => rfl
    | some b => cases b with
      | true => rfl
      | false =>
        have := dropK_den d k es
        simp only [esDen] at this
        simp only [this]
        cases dropK d k es <;> rfl

theorem okV_den (u : V) : (u.den ρ).okV = u.okV := by
  cases u with
  | one c => exact C.den_ok c
  | agg cs => exact all_ok_den cs
  | tup _ => rfl

theorem mapKD_tt {t : TypeId} {d : KD} {et : TI} (h : mapKD X t = some (d, et)) : ∃ e, X.tt e = some et := by
  unfold mapKD at h
  split at h <;> try (cases h; done)
  split at h <;> try (cases h; done)
  split at h <;> try (cases h; done)
  simp only [Option.some.injEq, Prod.mk.injEq] at h
  exact ⟨_, by rw [← h.2]; assumption⟩

theorem zero_free (hZ : ZFree X) {t : TypeId} {ti : TI} {z : Value} (h : X.tt t = some ti) (hz : ti.zero = some z) : (V.ofVal z).free = true := by
  have := hZ t ti h
  unfold tiFree at this
  rw [hz] at this
  exact ofVal_free this

theorem lookupE_den (hZ : ZFree X) {t : TypeId} {m : C} {k : Value} {ok : Bool} (hm : m.free = true) (h : lookupE X t σ m k ok = some v) : lookupE X t (σ.den ρ) m k ok = some (v.den ρ) := by
  unfold lookupE at h ⊢
  rw [entriesOf_den hm]
  split at h
  case h_2 => cases h
  rename_i d et es h1 h2
  rw [h1, h2]
  simp only [Option.map_some]
  split at h
  case isFalse => cases h
  rename_i hk
  rw [if_pos hk, findK_den]
  split at h
  · rename_i u n hf
    simp only [hf, Option.map_some]
    cases ok with
    | true =>
      rw [if_pos rfl] at h ⊢
      cases u <;> simp only [Option.some.injEq] at h <;> first | (cases h; done) | (subst h; rfl)
    | false =>
      rw [if_neg Bool.false_ne_true, Option.some.injEq] at h
      subst h
      rfl
  · rename_i hf
    simp only [hf, Option.map_some, Option.map_none]
    split at h
    · rename_i z hz
      try simp only [hz]
      obtain ⟨e, he⟩ := mapKD_tt h1
      have hfz := zero_free hZ he hz
      cases ok with
      | true =>
        rw [if_pos rfl, Option.some.injEq] at h
        rw [if_pos rfl, Option.some.injEq]
        subst h
        simp only [V.den, denL, V.den_free hfz, C.den, den_lit (ρ := ρ) (v := .bool false) rfl]
      | false =>
        simp only [Bool.false_eq_true, if_false, Option.some.injEq] at h ⊢
        subst h
        exact (V.den_free hfz).symm
    · cases h
  · cases h

theorem St.set_den (σ : St) (b : Nat) (x : Blk) : ({ σ.den ρ with h := (σ.den ρ).h.set b (x.den ρ) } : St) = ({ σ with h := σ.h.set b x } : St).den ρ := by
  simp only [St.den, Heap.set_den]

theorem updateE_den {t : TypeId} {m : C} {k : Value} {u : V} (h : updateE X t σ m k u = some σ') : updateE X t (σ.den ρ) (m.den ρ) k (u.den ρ) = some (σ'.den ρ) := by
  unfold updateE at h ⊢
  split at h
  case h_2 => cases h
  rename_i d et b h1
  rw [h1]
  simp only [C.den]
  split at h
  case h_2 => cases h
  rename_i es clock hb
  have hb' : (σ.den ρ).h.get b = some (.map (esDen ρ es) clock) := by
    simp only [St.den, Heap.get_den, hb]
    rfl
  simp only [hb', okV_den]
  split at h
  case isFalse => cases h
  rename_i hk
  rw [if_pos hk, findK_den]
  split at h
  · rename_i p hf
    simp only [hf, Option.map_some]
    rw [setK_den]
    cases hs : setK d k u es with
    | none => rw [hs] at h; cases h
    | some es' =>
      rw [hs] at h
      simp only [Option.map_some, Option.some.injEq] at h ⊢
      subst h
      exact St.set_den σ b (.map es' clock)
  · rename_i hf
    simp only [hf, Option.map_some, Option.map_none]
    simp only [Option.some.injEq] at h ⊢
    subst h
    have := St.set_den (ρ := ρ) σ b (.map (es ++ [(k, u, clock)]) (clock + 1))
    simp only [Blk.den, List.map_append, List.map_cons, List.map_nil] at this
    exact this
  · cases h

theorem deleteE_den {t : TypeId} {m : C} {k : Value} (h : deleteE X t σ m k = some σ') : deleteE X t (σ.den ρ) (m.den ρ) k = some (σ'.den ρ) := by
  unfold deleteE at h ⊢
  split at h
  case h_2 => cases h
  rename_i d et b h1
  rw [h1]
  simp only [C.den]
  split at h
  case h_2 => cases h
  rename_i es clock hb
  have hb' : (σ.den ρ).h.get b = some (.map (esDen ρ es) clock) := by
    simp only [St.den, Heap.get_den, hb]
    rfl
  simp only [hb']
  split at h
  case isFalse => cases h
  rename_i hk
  rw [if_pos hk, dropK_den]
  cases hs : dropK d k es with
  | none => rw [hs] at h; cases h
  | some es' =>
    rw [hs] at h
    simp only [Option.map_some, Option.some.injEq] at h ⊢
    subst h
    exact St.set_den σ b (.map es' clock)

theorem elemTI_tt {t : TypeId} {et : TI} (h : elemTI X t = some et) : ∃ e, X.tt e = some et := by
  unfold elemTI at h
  split at h <;> try (cases h; done)
  split at h <;> first | (cases h; done) | exact ⟨_, h⟩

theorem val?_free {u : V} {k : Value} (hu : u.free = true) (h : u.val? = some k) : (u.den ρ).val? = some k := by rw [V.den_free hu, h]

theorem len_den {t : TypeId} {c : C} {ts : List TypeId} (h : builtinE X nm σ .len (t :: ts) [.one c] = some (v, σ')) : builtinE X nm (σ.den ρ) .len (t :: ts) [.one (c.den ρ)] = some (v.den ρ, σ'.den ρ) := by
  unfold builtinE at h ⊢
  simp only at h ⊢
  cases hX : X.tt t with
  | none => rw [hX] at h; cases h
  | some ti =>
    rw [hX] at h
    simp only at h ⊢
    have hint : ∀ (n : Int), V.den ρ (.one (.lit (.int .i64 n))) = .one (.lit (.int .i64 n)) := fun n => V.den_free rfl
    cases hd : ti.desc <;> rw [hd] at h <;> simp only at h ⊢ <;> first | (cases h; done) | skip
    · -- string
      split at h
      · simp only [Option.some.injEq, Prod.mk.injEq] at h
        obtain ⟨rfl, rfl⟩ := h
        simp only [C.den, den_lit (ρ := ρ) (v := .string _) rfl, hint]
      · cases h
    · -- slice
      split at h
      · cases h
      · rename_i hns
        simp only [Option.map_eq_some_iff, Prod.mk.injEq] at h
        obtain ⟨n, h1, rfl, rfl⟩ := h
        rw [hint]
        have h2 := lenC_den (ρ := ρ) h1
        cases c with
        | lit w =>
          cases w <;> first | (cases h1; done) | skip
          · exact absurd rfl (hns _)
          · rename_i a n' c'
            cases a with
            | none =>
              simp only [C.den, den_lit (ρ := ρ) (v := .slice none _ _) rfl] at h2 ⊢
              rw [h2]; rfl
            | some _ => cases h1
        | _ => first | (cases h1; done) | (simp only [C.den] at h2 ⊢; rw [h2]; rfl)
    · -- array
      simp only [Option.some.injEq, Prod.mk.injEq] at h
      obtain ⟨rfl, rfl⟩ := h
      rw [hint]
    · -- map
      simp only [Option.map_eq_some_iff, Prod.mk.injEq] at h
      obtain ⟨es, h1, rfl, rfl⟩ := h
      rw [hint]
      have hcf : c.free = true := by
        unfold entriesOf at h1
        split at h1 <;> first | rfl | cases h1
      rw [C.den_free hcf, entriesOf_den hcf, h1]
      simp only [Option.map_some, esDen, List.length_map]

theorem cfree_args {c : Call} (h : c.operands.toList.all cfree = true) : c.args.toList.all cfree = true := by
  unfold Call.operands at h
  rw [Array.toList_append, List.all_append, Bool.and_eq_true] at h
  exact h.2

theorem ps_free {ps : List (Nat × Operand)} (h : ((ps.map (·.2)).toArray.toList).all cfree = true) : (ps.all fun p => cfree p.2) = true := by
  simpa [List.all_map, Function.comp_def] using h

theorem optIdx_free {x : Option Operand} (h : ∀ y, x = some y → freeAt σ y = true ∧ cfree y = true) : optIdx (σ.den ρ) x = optIdx σ x := by
  cases x with
  | none => rfl
  | some y =>
    obtain ⟨h1, h2⟩ := h y rfl
    simp only [optIdx, ev_free h2 h1]

theorem sliceE_den {t : TypeId} {x : C} {lo hi mx : Option Int} : sliceE X (σ.den ρ) t x lo hi mx = sliceE X σ t x lo hi mx := by
  unfold sliceE
  simp only [szOk_den]

theorem bi_den (hZ : ZFree X) {b : Builtin} {ts : List TypeId} {vs : List V} (hdel : b = .delete → freeL vs = true) (h : builtinE X nm σ b ts vs = some (v, σ')) : builtinE X nm (σ.den ρ) b ts (vs.map (V.den ρ)) = some (v.den ρ, σ'.den ρ) := by
  have h0 := h
  unfold builtinE at h
  split at h
  · exact len_den h0
  · rename_i t t' s x
    simp only [List.map_cons, List.map_nil, V.den, builtinE]
    split at h
    case isFalse => cases h
    rename_i htt
    rw [if_pos htt]
    split at h <;> try (cases h; done)
    rename_i ti st h1 h2
    try simp only [h1, h2]
    split at h <;> try (cases h; done)
    rename_i e hd
    try simp only [hd]
    simp only [Option.map_eq_some_iff, Prod.mk.injEq] at h ⊢
    obtain ⟨⟨r, σ1⟩, h3, rfl, rfl⟩ := h
    exact ⟨(r.den ρ, σ1.den ρ), appendC_den h3, rfl, rfl⟩
  · rename_i t ts m k
    have hf := hdel rfl
    simp only [freeL, Bool.and_true, Bool.and_eq_true] at hf
    simp only [List.map_cons, List.map_nil, V.den, builtinE]
    split at h <;> try (cases h; done)
    rename_i kv hk
    rw [val?_free hf.2 hk]
    simp only [Option.map_eq_some_iff, Prod.mk.injEq] at h ⊢
    obtain ⟨σ1, h3, rfl, rfl⟩ := h
    exact ⟨σ1.den ρ, deleteE_den h3, (V.den_free rfl).symm, rfl⟩
  · rename_i t ts c
    simp only [List.map_cons, List.map_nil, V.den, builtinE]
    split at h <;> try (cases h; done)
    rename_i et st b o len cap h1 h2
    try simp only [h1, h2]
    simp only [C.den]
    split at h <;> try (cases h; done)
    rename_i e z sz cs hd hz hb
    have hb' : (σ.den ρ).h.get b = some (.row true sz (cs.map (C.den ρ))) := by
      simp only [St.den, Heap.get_den, hb]
      rfl
    try simp only [hd, hz, hb']
    split at h
    · rename_i hc
      rw [if_pos hc]
      obtain ⟨e', he'⟩ := elemTI_tt h1
      have hzf := zeroC_free (ρ := ρ) (hZ _ _ he') hz
      have hw := wr_den (ρ := ρ) cs o (zerosC z len)
      rw [zerosC_den, hzf] at hw
      rw [hw]
      simp only [Option.map_eq_some_iff, Prod.mk.injEq] at h
      obtain ⟨cs', h3, rfl, rfl⟩ := h
      rw [h3]
      simp only [Option.map_some, Option.some.injEq, Prod.mk.injEq]
      exact ⟨(V.den_free rfl).symm, St.set_den σ b (.row true sz cs')⟩
    · rename_i hc
      rw [if_neg hc]
      split at h
      · rename_i hl
        rw [if_pos hl]
        simp only [Option.some.injEq, Prod.mk.injEq] at h
        obtain ⟨rfl, rfl⟩ := h
        rw [V.den_free (ρ := ρ) (v := .one (.lit (.tuple #[]))) rfl]
      · cases h
  · cases h
end
end E
end Go.Proofs.Ytnfehccnofhmnaa

/-
  Symbols in the abstract machine: what an operation does, it does whatever the symbols stand for: all operations. No condition.
-/
namespace Go.Proofs.Ytnfehccnofhmnaa
namespace E

section
variable {ρ : Env} {P : Program} {X : Ctx} {fi : Fi} {nm : Nat} {σ σ' : St} {o : Oper} {v : V}

theorem op_nat (hZ : ZFree X) (hc : operOk o = true) (hn : natOk X σ o = true) (h : op P X fi nm o σ = some (v, σ')) (hv : resOk X σ o v = true) :
    op P X fi nm o (σ.den ρ) = some (v.den ρ, σ'.den ρ) := by
  have hc0 := hc
  have hn0 := hn
  unfold operOk at hc
  unfold natOk at hn
  unfold resOk at hv
  unfold op at h ⊢
  cases hop : o.op <;> simp only [hop] at h ⊢ <;> simp only [hop] at hc hn hv <;> first | (cases h; done) | skip
  case move x =>
    simp only [Op.operands, List.all_cons, Bool.and_eq_true] at hc
    obtain ⟨u, h1, h2⟩ := onV_some h
    rw [onV_den hc.1 h1]
    cases h2
    rfl
  case assign x =>
    simp only [Op.operands, List.all_cons, Bool.and_eq_true] at hc
    obtain ⟨u, h1, h2⟩ := onV_some h
    rw [onV_den hc.1 h1]
    cases h2
    rfl
  case pick c a b =>
    simp only [Op.operands, List.all_cons, Bool.and_eq_true] at hc
    obtain ⟨u, h1, h2⟩ := onC_some h
    rw [onC_den hc.1 h1]
    split at h2
    · rename_i t
      simp only [C.den, den_lit (ρ := ρ) (v := .bool _) rfl]
      cases t with
      | true =>
        obtain ⟨w, g1, g2⟩ := onV_some h2
        cases g2
        show onV (σ.den ρ) a _ = _
        rw [onV_den hc.2.1 g1]
      | false =>
        obtain ⟨w, g1, g2⟩ := onV_some h2
        cases g2
        show onV (σ.den ρ) b _ = _
        rw [onV_den hc.2.2.1 g1]
    · cases h2
  case alloc e =>
    obtain ⟨ti, h1, h2⟩ := onTI_some h
    rw [onTI_eq h1]
    cases hz : zeroC ti with
    | none => rw [hz] at h2; cases h2
    | some cs =>
      rw [hz] at h2
      simp only at h2 ⊢
      split at h2
      · rename_i hl
        rw [if_pos hl]
        have := newVarE_den (ρ := ρ) h2
        rwa [zeroC_free (hZ _ _ h1) hz] at this
      · cases h2
  case box e x =>
    simp only [Op.operands, List.all_cons, Bool.and_eq_true] at hc
    obtain ⟨u, h1, h2⟩ := onV_some h
    rw [onV_den hc.1 h1, V.cells_den]
    cases hu : u.cells with
    | none => rw [hu] at h2; cases h2
    | some cs =>
      rw [hu] at h2
      exact newVarE_den h2
  case build t ps =>
    have hps := ps_free hc
    obtain ⟨ti, h1, h2⟩ := onTI_some h
    rw [onTI_eq h1, evParts_den σ hps]
    cases hz : zeroC ti with
    | none => rw [hz] at h2; cases h2
    | some z =>
      have hzf := zeroC_free (ρ := ρ) (hZ _ _ h1) hz
      rw [hz] at h2
      cases he : evParts σ ps.toList with
      | none => rw [he] at h2; cases h2
      | some vs =>
        rw [he] at h2
        simp only [Option.map_some] at h2 ⊢
        cases hd : ti.desc <;> rw [hd] at h2 <;> simp only at h2 ⊢ <;> first | (cases h2; done) | skip
        · cases hE : elemTI X t with
          | none => rw [hE] at h2; cases h2
          | some et =>
            rw [hE] at h2
            simp only [Option.map_eq_some_iff, Prod.mk.injEq] at h2 ⊢
            obtain ⟨cs, h3, rfl, rfl⟩ := h2
            exact ⟨cs.map (C.den ρ), by rw [← hzf, fillC_den, h3]; rfl, rfl, rfl⟩
        · rename_i fs
          cases hp : placesL X fs.toList with
          | none => rw [hp] at h2; cases h2
          | some pl =>
            rw [hp] at h2
            simp only [Option.map_eq_some_iff, Prod.mk.injEq] at h2 ⊢
            obtain ⟨cs, h3, rfl, rfl⟩ := h2
            exact ⟨cs.map (C.den ρ), by rw [← hzf, fillC_den, h3]; rfl, rfl, rfl⟩
  case buildSlice t n ps =>
    have hps := ps_free hc
    rw [evParts_den σ hps]
    cases hE : elemTI X t with
    | none => rw [hE] at h; cases h
    | some et =>
      rw [hE] at h
      cases he : evParts σ ps.toList with
      | none => rw [he] at h; cases h
      | some vs =>
        rw [he] at h
        cases hX : X.tt t with
        | none => rw [hX] at h; cases h
        | some st =>
          rw [hX] at h
          simp only [Option.map_some] at h ⊢
          cases hz : zeroC et with
          | none => rw [hz] at h; split at h <;> first | (cases h; done) | (rename_i hh; cases hh; done)
          | some z =>
            obtain ⟨e', he'⟩ := elemTI_tt hE
            have hzf := zeroC_free (ρ := ρ) (hZ _ _ he') hz
            rw [hz] at h
            cases hd : st.desc <;> rw [hd] at h <;> simp only at h ⊢ <;> first | (cases h; done) | skip
            split at h
            · rename_i hcnd
              rw [if_pos hcnd]
              split at h
              · rename_i cs hf
                have : fillC (fun i => some (i * et.size, et.size)) (zerosC z n) (pden ρ vs) = some (cs.map (C.den ρ)) := by
                  rw [← hzf, ← zerosC_den, fillC_den, hf]; rfl
                rw [this]
                simp only [Option.map_eq_some_iff, Prod.mk.injEq] at h ⊢
                obtain ⟨σ1, h3, rfl, rfl⟩ := h
                exact ⟨σ1.den ρ, by rw [newRowH_den, h3]; rfl, rfl, rfl⟩
              · cases h
            · cases h
  case load t x =>
    simp only [Op.operands, List.all_cons, Bool.and_eq_true] at hc
    obtain ⟨ti, h1, h2⟩ := onTI_some h
    rw [onTI_eq h1]
    obtain ⟨c, h3, h4⟩ := onC_some h2
    rw [onC_den hc.1 h3, load_den]
    simp only [Option.map_eq_some_iff, Prod.mk.injEq] at h4 ⊢
    obtain ⟨u, h5, rfl, rfl⟩ := h4
    exact ⟨u.den ρ, ⟨u, h5, rfl⟩, rfl, rfl⟩
  case store t x y =>
    simp only [Op.operands, List.all_cons, Bool.and_eq_true] at hc
    obtain ⟨ti, h1, h2⟩ := onTI_some h
    rw [onTI_eq h1]
    obtain ⟨c, h3, h4⟩ := onC_some h2
    rw [onC_den hc.1 h3]
    obtain ⟨u, h5, h6⟩ := onV_some h4
    rw [onV_den hc.2.1 h5, V.cells_den]
    cases hu : u.cells with
    | none => rw [hu] at h6; cases h6
    | some cs =>
      rw [hu] at h6
      simp only [Option.map_some, List.length_map] at h6 ⊢
      split at h6
      · rename_i hl
        rw [if_pos hl, storeC_den]
        simp only [Option.map_eq_some_iff, Prod.mk.injEq] at h6 ⊢
        obtain ⟨σ1, h7, rfl, rfl⟩ := h6
        exact ⟨σ1.den ρ, ⟨σ1, h7, rfl⟩, (V.den_free rfl).symm, rfl⟩
      · cases h6
  case nilCheck x =>
    simp only [Op.operands, List.all_cons, Bool.and_eq_true] at hc
    obtain ⟨c, h3, h4⟩ := onC_some h
    rw [onC_den hc.1 h3]
    cases c <;> simp only at h4 <;> first | (cases h4; done) | skip
    all_goals (cases h4; rfl)
  case fieldAddr t x f =>
    simp only [Op.operands, List.all_cons, Bool.and_eq_true] at hc
    cases hf : fieldTI X t f with
    | none => rw [hf] at h; cases h
    | some p =>
      rw [hf] at h
      simp only at h ⊢
      split at h
      · rename_i hs
        rw [if_pos hs]
        obtain ⟨c, h3, h4⟩ := onC_some h
        rw [onC_den hc.1 h3, shiftC_den]
        simp only [Option.map_eq_some_iff, Prod.mk.injEq] at h4 ⊢
        obtain ⟨u, h5, rfl, rfl⟩ := h4
        exact ⟨u.den ρ, ⟨u, h5, rfl⟩, rfl, rfl⟩
      · cases h
  case field t x f =>
    simp only [Op.operands, List.all_cons, Bool.and_eq_true] at hc
    cases hf : fieldTI X t f with
    | none => rw [hf] at h; cases h
    | some p =>
      rw [hf] at h
      simp only at h ⊢
      obtain ⟨u, h3, h4⟩ := onV_some h
      rw [onV_den hc.1 h3]
      cases u <;> simp only at h4 <;> first | (cases h4; done) | skip
      simp only [V.den, partV_den]
      simp only [Option.map_eq_some_iff, Prod.mk.injEq] at h4 ⊢
      obtain ⟨u, h5, rfl, rfl⟩ := h4
      exact ⟨u.den ρ, ⟨u, h5, rfl⟩, rfl, rfl⟩
  case indexAddr t x i =>
    simp only [Op.operands, List.all_cons, Bool.and_eq_true] at hc
    obtain ⟨c, h3, h4⟩ := onC_some h
    rw [onC_den hc.1 h3]
    obtain ⟨u, h5, h6⟩ := onV_some h4
    rw [onV_den hc.2.1 h5]
    cases hi : idxOf u with
    | none => rw [hi] at h6; cases h6
    | some j =>
      rw [hi] at h6
      rw [idxOf_den hi]
      simp only [Option.map_eq_some_iff, Prod.mk.injEq] at h6 ⊢
      obtain ⟨r, h7, rfl, rfl⟩ := h6
      exact ⟨r.den ρ, idxAddr_den h7, rfl, rfl⟩
  case index t x i =>
    have hc1 := hc
    simp only [Op.operands, List.all_cons, Bool.and_eq_true] at hc
    have hpure : elemTI X t = none → op.pureV P o σ = some (v, σ') → op.pureV P o (σ.den ρ) = some (v.den ρ, σ'.den ρ) := fun ha hp => by
      have hag : aggIdx X σ t x = false := by unfold aggIdx; rw [ha]; simp
      rw [hag, Bool.false_or] at hn hv
      exact pureV_den hc0 (by rw [hop]; exact hn) (fun cs b => by rw [hop]; simp) hp hv
    cases hX : X.tt t with
    | none =>
      rw [hX] at h
      have hE : elemTI X t = none := by unfold elemTI; rw [hX]
      exact hpure hE h
    | some ti =>
      cases hE : elemTI X t with
      | none =>
        rw [hX, hE] at h
        exact hpure hE h
      | some et =>
        rw [hX, hE] at h
        simp only at h ⊢
        obtain ⟨u, h1, h2⟩ := onV_some h
        rw [onV_den hc.1 h1]
        obtain ⟨w, h3, h4⟩ := onV_some h2
        rw [onV_den hc.2.1 h3]
        split at h4
        · rename_i n e cs j hd hj
          rw [hd, idxOf_den hj]
          simp only [V.den]
          split at h4
          · rename_i hcnd
            rw [if_pos hcnd, partV_den]
            simp only [Option.map_eq_some_iff, Prod.mk.injEq] at h4 ⊢
            obtain ⟨u, h5, rfl, rfl⟩ := h4
            exact ⟨u.den ρ, ⟨u, h5, rfl⟩, rfl, rfl⟩
          · cases h4
        · cases h4
  case slice t x lo hi mx =>
    have hf : ∀ y, y ∈ o.op.operands.toList → freeAt σ y = true ∧ cfree y = true := fun y hy => ⟨List.all_eq_true.1 hn y (by rw [← hop]; exact hy), List.all_eq_true.1 hc0 y hy⟩
    have hx := hf x (by rw [hop]; simp [Op.operands])
    have hlo : optIdx (σ.den ρ) lo = optIdx σ lo := optIdx_free fun y hy => hf y (by rw [hop, hy]; simp [Op.operands])
    have hhi : optIdx (σ.den ρ) hi = optIdx σ hi := optIdx_free fun y hy => hf y (by rw [hop, hy]; simp [Op.operands])
    have hmx : optIdx (σ.den ρ) mx = optIdx σ mx := optIdx_free fun y hy => hf y (by rw [hop, hy]; simp [Op.operands])
    rw [hlo, hhi, hmx, ev_free hx.2 hx.1]
    split at h
    case h_2 => cases h
    rename_i l h' m e1 e2 e3
    split at h
    · exact pureV_den hc0 (by rw [hop]; exact hn) (fun cs b => by rw [hop]; simp) h hv
    · rename_i c hne hev
      simp only [sliceE_den, Option.map_eq_some_iff, Prod.mk.injEq] at h ⊢
      obtain ⟨r, h5, rfl, rfl⟩ := h
      exact ⟨r, h5, (V.den_free hv).symm, rfl⟩
    · cases h
  case binOp b t x y _ =>
    have hf : ∀ y, y ∈ o.op.operands.toList → freeAt σ y = true ∧ cfree y = true := fun y hy => ⟨List.all_eq_true.1 hn y (by rw [← hop]; exact hy), List.all_eq_true.1 hc0 y hy⟩
    have hx := hf x (by rw [hop]; simp [Op.operands])
    have hy := hf y (by rw [hop]; simp [Op.operands])
    obtain ⟨u, h1, h2⟩ := onV_some h
    rw [onV_den hx.2 h1, V.den_free (free_of hx.1 h1)]
    obtain ⟨w, h3, h4⟩ := onV_some h2
    rw [onV_den hy.2 h3, V.den_free (free_of hy.1 h3)]
    split at h4
    · simp only [Option.some.injEq, Prod.mk.injEq] at h4 ⊢
      obtain ⟨rfl, rfl⟩ := h4
      exact ⟨(V.den_free hv).symm, rfl⟩
    · exact pureV_den hc0 (by rw [hop]; exact hn) (fun cs b => by rw [hop]; simp) h4 hv
  case extract x i =>
    simp only [Op.operands, List.all_cons, Bool.and_eq_true] at hc
    obtain ⟨u, h1, h2⟩ := onV_some h
    rw [onV_den hc.1 h1]
    cases u <;> simp only at h2 <;> first | (cases h2; done) | skip
    simp only [V.den, denL_eq, List.getElem?_map]
    simp only [Option.map_eq_some_iff, Prod.mk.injEq] at h2 ⊢
    obtain ⟨u, h5, rfl, rfl⟩ := h2
    exact ⟨u.den ρ, ⟨u, h5, rfl⟩, rfl, rfl⟩
  case unOp =>
    exact pureV_den hc0 (by rw [hop]; exact hn) (fun cs b => by rw [hop]; simp) h hv
  case convert =>
    exact pureV_den hc0 (by rw [hop]; exact hn) (fun cs b => by rw [hop]; simp) h hv
  case makeFunc fn fs caps =>
    cases fn <;> simp only at h ⊢ <;> first | (cases h; done) | skip
    split at h
    · rename_i hfs
      rw [if_pos hfs]
      have hcc : caps.toList.all cfree = true := by
        simp only [Op.operands, Array.toList_append, List.all_append, Bool.and_eq_true] at hc
        exact hc.2
      rw [evs_den σ hcc]
      cases he : evs σ caps.toList with
      | none => rw [he] at h; cases h
      | some vs =>
        rw [he] at h
        simp only [Option.map_eq_some_iff, Prod.mk.injEq, Option.map_some] at h ⊢
        obtain ⟨l, h5, rfl, rfl⟩ := h
        exact ⟨l, capsOf_den h5, rfl, rfl⟩
    · cases h
  case makeMap t r =>
    cases r with
    | some _ => cases h
    | none =>
      simp only [Option.some.injEq, Prod.mk.injEq] at h ⊢
      obtain ⟨rfl, rfl⟩ := h
      exact ⟨rfl, St.set_den σ nm (.map [] 0)⟩
  case makeSlice t l c =>
    simp only [Op.operands, List.all_cons, Bool.and_eq_true] at hc
    obtain ⟨u, h1, h2⟩ := onV_some h
    rw [onV_den hc.1 h1]
    obtain ⟨w, h3, h4⟩ := onV_some h2
    rw [onV_den hc.2.1 h3]
    split at h4
    case h_2 => cases h4
    rename_i et st n m hE hX
    try simp only [hE, hX]
    have hint : ∀ (n : Int), V.den ρ (.one (.lit (.int .i64 n))) = .one (.lit (.int .i64 n)) := fun n => V.den_free rfl
    simp only [hint]
    cases hd : st.desc <;> rw [hd] at h4 <;> simp only at h4 ⊢ <;> first | (cases h4; done) | skip
    unfold makeSliceE at h4 ⊢
    cases hz : zeroC et with
    | none => rw [hz] at h4; cases h4
    | some z =>
      obtain ⟨e', he'⟩ := elemTI_tt hE
      have hzf := zeroC_free (ρ := ρ) (hZ _ _ he') hz
      rw [hz] at h4
      simp only at h4 ⊢
      split at h4
      · rename_i hcnd
        rw [if_pos hcnd]
        simp only [Option.map_eq_some_iff, Prod.mk.injEq] at h4 ⊢
        obtain ⟨σ1, h5, rfl, rfl⟩ := h4
        refine ⟨σ1.den ρ, ?_, rfl, rfl⟩
        have := newRowH_den (ρ := ρ) σ nm et.size (zerosC z m.toNat)
        rw [zerosC_den, hzf, h5] at this
        exact this
      · cases h4
  case lookup t x i ok =>
    have hf : ∀ y, y ∈ o.op.operands.toList → freeAt σ y = true ∧ cfree y = true := fun y hy => ⟨List.all_eq_true.1 hn y (by rw [← hop]; exact hy), List.all_eq_true.1 hc0 y hy⟩
    have hx := hf x (by rw [hop]; simp [Op.operands])
    have hi := hf i (by rw [hop]; simp [Op.operands])
    obtain ⟨c, h1, h2⟩ := onC_some h
    have hcf : c.free = true := free_of hx.1 h1
    rw [onC_den hx.2 h1, C.den_free hcf]
    obtain ⟨w, h3, h4⟩ := onV_some h2
    rw [onV_den hi.2 h3, V.den_free (free_of hi.1 h3)]
    split at h4
    · rename_i k hk
      try simp only [hk]
      simp only [Option.map_eq_some_iff, Prod.mk.injEq] at h4 ⊢
      obtain ⟨r, h5, rfl, rfl⟩ := h4
      exact ⟨r.den ρ, lookupE_den hZ hcf h5, rfl, rfl⟩
    · cases h4
  case mapUpdate t m k x =>
    simp only [Op.operands, List.all_cons, Bool.and_eq_true] at hc
    obtain ⟨c, h1, h2⟩ := onC_some h
    rw [onC_den hc.1 h1]
    obtain ⟨w, h3, h4⟩ := onV_some h2
    rw [onV_den hc.2.1 h3]
    obtain ⟨z, h5, h6⟩ := onV_some h4
    rw [onV_den hc.2.2.1 h5]
    split at h6
    · rename_i kv hk
      rw [val?_free (free_of hn h3) hk]
      simp only [Option.map_eq_some_iff, Prod.mk.injEq] at h6 ⊢
      obtain ⟨σ1, h7, rfl, rfl⟩ := h6
      exact ⟨σ1.den ρ, updateE_den h7, (V.den_free rfl).symm, rfl⟩
    · cases h6
  case insert t m k x =>
    simp only [Op.operands, List.all_cons, Bool.and_eq_true] at hc
    obtain ⟨c, h1, h2⟩ := onC_some h
    rw [onC_den hc.1 h1]
    obtain ⟨w, h3, h4⟩ := onV_some h2
    rw [onV_den hc.2.1 h3]
    obtain ⟨z, h5, h6⟩ := onV_some h4
    rw [onV_den hc.2.2.1 h5]
    split at h6
    · rename_i kv hk
      rw [val?_free (free_of hn h3) hk]
      simp only [Option.map_eq_some_iff, Prod.mk.injEq] at h6 ⊢
      obtain ⟨σ1, h7, rfl, rfl⟩ := h6
      exact ⟨σ1.den ρ, updateE_den h7, (V.den_free rfl).symm, rfl⟩
    · cases h6
  case call c =>
    have hca := cfree_args hc
    cases hcal : c.callee with
    | value f => rw [hcal] at h; cases h
    | invoke r n => rw [hcal] at h; cases h
    | builtin b =>
      rw [hcal] at h hn
      simp only at h ⊢
      rw [evs_den σ hca]
      cases he : evs σ c.args.toList with
      | none => rw [he] at h; cases h
      | some vs =>
        rw [he] at h
        simp only [Option.map_some] at h ⊢
        refine bi_den hZ (fun hb => ?_) h
        subst hb
        simp only at hn
        clear h hc hc0 hn0 hca hcal hop
        generalize c.args.toList = l at he hn
        induction l generalizing vs with
        | nil => cases he; rfl
        | cons x l ih =>
          simp only [evs] at he
          simp only [List.all_cons, Bool.and_eq_true] at hn
          split at he
          · rename_i u us e1 e2
            cases he
            show (V.free u && freeL us) = true
            rw [free_of hn.1 e1, ih us e2 hn.2]
            rfl
          · cases he
end
end E
end Go.Proofs.Ytnfehccnofhmnaa

/-
  Symbols in the abstract machine: operations that ask. No condition.
-/
namespace Go.Proofs.Ytnfehccnofhmnaa
namespace E

def symN (k : IntKind) (o : Int) (x y : Value) : Value := .iface 3 (.agg ⟨[.int k o, x, y]⟩)

def notV (b : Bool) : Value := .bool (!b)

def binW (b : BinOp) (x y : Value) (K : Know) : Ways Value :=
  match intK x, intK y with
  | some j, some k => cond (decide (j = k))
      (match b with
        | .add => some [(K, symN j 0 x y)]
        | .sub => some [(K, symN j 1 x y)]
        | .mul => some [(K, symN j 2 x y)]
        | .eql => some (mapW Value.bool (ask false x y K))
        | .neq => some (mapW notV (ask false x y K))
        | .lss => some (mapW Value.bool (ask true x y K))
        | .geq => some (mapW notV (ask true x y K))
        | .gtr => some (mapW Value.bool (ask true y x K))
        | .leq => some (mapW notV (ask true y x K))
        | _ => none) none
  | _, _ => cond (isStr x && isStr y)
      (match b with
        | .eql => some (mapW Value.bool (ask false x y K))
        | .neq => some (mapW notV (ask false x y K))
        | _ => none) none

def isFalse : Value → Bool
  | .bool false => true
  | _ => false

/-- An equality; one with false is one with true, turned. -/
def askE (x y : Value) (K : Know) : List (Know × Bool) :=
  cond (isFalse y) (mapW not (ask false x (.bool true) K)) (cond (isFalse x) (mapW not (ask false y (.bool true) K)) (ask false x y K))

def kindOk1 : CK → C → C → Bool
  | .i, .lit x, .lit y => match intK x, intK y with
    | some j, some k => decide (j = k)
    | _, _ => false
  | .b, .lit x, .lit y => isBool x && isBool y
  | .s, .lit x, .lit y => isStr x && isStr y
  | _, _, _ => false

def kindsOk : List CK → List C → List C → Bool
  | [], [], [] => true
  | k :: ks, x :: xs, y :: ys => kindOk1 k x y && kindsOk ks xs ys
  | _, _, _ => false

def eqKS : List C → List C → Know → List (Know × Bool)
  | .lit x :: xs, .lit y :: ys, K => match bndL (askE x y K) fun K' b => some (cond b (eqKS xs ys K') [(K', false)]) with
    | some l => l
    | none => []
  | _, _, K => [(K, true)]

section
variable (P : Program) (X : Ctx) (fi : Fi)

def natW (nm : Nat) (o : Oper) (σ : St) : Option (V × St) :=
  cond (natOk X σ o)
    (match op P X fi nm o σ with
      | some (v, σ') => cond (resOk X σ o v) (some (v, σ')) none
      | none => none) none

def symW (o : Oper) (σ : St) (K : Know) : Ways (V × St) :=
  match o.op with
  | .binOp b t x y _ => match ev σ x, ev σ y with
    | some (.one (.lit u)), some (.one (.lit v)) => match binW b u v K with
      | some l => some (mapW (fun r => (V.one (.lit r), σ)) l)
      | none => none
    | some (.agg xs), some (.agg ys) => match X.flat t with
      | some ks => cond (kindsOk ks xs ys)
        (match b with
          | .eql => some (mapW (fun r => (V.one (.lit (.bool r)), σ)) (eqKS xs ys K))
          | .neq => some (mapW (fun r => (V.one (.lit (notV r)), σ)) (eqKS xs ys K))
          | _ => none) none
      | none => none
    | _, _ => none
  | .call c => match c.callee, c.args.toList, c.argTypes.toList with
    | .builtin .len, [x], t :: _ => match ev σ x, X.tt t with
      | some (.one (.lit s)), some ti => match ti.desc with
        | .string => cond (isStr s) (some [(K, (V.one (.lit (.iface 2 s)), σ))]) none
        | _ => none
      | _, _ => none
    | _, _, _ => none
  | _ => none

def opS (nm : Nat) (o : Oper) (σ : St) (K : Know) : Ways (V × St) :=
  match natW P X fi nm o σ with
  | some r => some [(K, r)]
  | none => symW X o σ K
end

section
variable {ρ : Env} {P : Program} {X : Ctx} {fi : Fi} {nm : Nat} {σ : St} {o : Oper} {K : Know}

theorem den_bool (b : Bool) : den ρ (.bool b) = .bool b := den_lit rfl

theorem den_node {k : IntKind} {o : Int} {x y : Value} : den ρ (symN k o x y) = .int k (k.wrap (arith o (iOf (den ρ x)) (iOf (den ρ y)))) := by
  simp only [symN, den]

theorem binW_ok (hK : Holds ρ K) {b : BinOp} {t : TypeId} {x y : Value} : Snd ρ (binW b x y K) fun r => binV X b t (.one (.lit (den ρ x))) (.one (.lit (den ρ y))) = some (den ρ r) := by
  unfold binW
  split
  · rename_i j k hj hk
    obtain ⟨m, hm⟩ := intK_ok (ρ := ρ) hj
    obtain ⟨n, hn⟩ := intK_ok (ρ := ρ) hk
    cases hjk : decide (j = k) with
    | false => exact Snd.none
    | true =>
      rw [cond_true]
      have hjk := of_decide_eq_true hjk
      subst hjk
      have hbin : ∀ (b : BinOp), binV X b t (.one (.lit (den ρ x))) (.one (.lit (den ρ y))) = binI b j m n := fun b => by
        rw [hm, hn]
        simp [binV]
      cases b <;> simp only <;> first | exact Snd.none | skip
      all_goals first
        | (refine Snd.one hK ?_
           rw [hbin, den_node, hm, hn]
           rfl)
        | skip
      all_goals refine Snd.mapW ((ask_ok hK).mono fun r hr => ?_)
      all_goals
        rw [hbin]
        simp only [notV, den_bool, Atom, hm, hn, iOf, Value.int.injEq, true_and] at hr ⊢
        simp only [binI, Option.some.injEq, Value.bool.injEq]
        cases r <;> simp_all <;> omega
  · cases hs : (isStr x && isStr y) with
    | false => exact Snd.none
    | true =>
      rw [cond_true]
      simp only [Bool.and_eq_true] at hs
      obtain ⟨s, hs1⟩ := isStr_ok (ρ := ρ) hs.1
      obtain ⟨u, hu1⟩ := isStr_ok (ρ := ρ) hs.2
      have hbin : ∀ (b : BinOp), binV X b t (.one (.lit (den ρ x))) (.one (.lit (den ρ y))) = binS b s u := fun b => by
        rw [hs1, hu1]
        simp [binV]
      cases b <;> simp only <;> first | exact Snd.none | skip
      all_goals refine Snd.mapW ((ask_ok hK).mono fun r hr => ?_)
      all_goals
        rw [hbin]
        simp only [notV, den_bool, Atom, hs1, hu1, Value.string.injEq] at hr ⊢
        simp only [binS, Option.some.injEq, Value.bool.injEq]
        rw [← strEq_iff] at hr
        cases r <;> simp_all

theorem isFalse_eq {v : Value} (h : isFalse v = true) : v = .bool false := by
  unfold isFalse at h
  split at h
  · rfl
  · cases h

theorem askE_ok (hK : Holds ρ K) {x y : Value} (hb : (isFalse x = true ∨ isFalse y = true) → isBool x = true ∧ isBool y = true) : Snd ρ (some (askE x y K)) fun b => den ρ x = den ρ y ↔ b = true := by
  unfold askE
  cases hy : isFalse y with
  | true =>
    rw [cond_true]
    obtain ⟨m, hm⟩ := isBool_ok (ρ := ρ) (hb (.inr hy)).1
    refine Snd.mapW ((ask_ok hK).mono fun r hr => ?_)
    simp only [Atom] at hr
    rw [isFalse_eq hy, hm, den_bool]
    rw [hm, den_bool] at hr
    simp only [Value.bool.injEq] at hr ⊢
    cases m <;> cases r <;> simp_all
  | false =>
    rw [cond_false]
    cases hx : isFalse x with
    | true =>
      rw [cond_true]
      obtain ⟨m, hm⟩ := isBool_ok (ρ := ρ) (hb (.inl hx)).2
      refine Snd.mapW ((ask_ok hK).mono fun r hr => ?_)
      simp only [Atom] at hr
      rw [isFalse_eq hx, hm, den_bool]
      rw [hm, den_bool] at hr
      simp only [Value.bool.injEq] at hr ⊢
      cases m <;> cases r <;> simp_all
    | false => exact ask_ok hK

theorem kindOk1_bools {k : CK} {u v : Value} (h : kindOk1 k (.lit u) (.lit v) = true) : (isFalse u = true ∨ isFalse v = true) → isBool u = true ∧ isBool v = true := fun hf => by
  unfold kindOk1 at h
  split at h
  · rename_i x y e1 e2
    cases e1
    cases e2
    rcases hf with hf | hf
    · rw [isFalse_eq hf] at h
      simp [intK] at h
    · rw [isFalse_eq hf] at h
      cases hi : intK u <;> rw [hi] at h <;> simp [intK] at h
  · rename_i x y e1 e2
    cases e1
    cases e2
    simpa only [Bool.and_eq_true] using h
  · rename_i x y e1 e2
    cases e1
    cases e2
    simp only [Bool.and_eq_true] at h
    rcases hf with hf | hf
    · rw [isFalse_eq hf] at h
      simp [isStr] at h
    · rw [isFalse_eq hf] at h
      simp [isStr] at h
  · cases h

theorem eqKS_ok : ∀ {ks : List CK} {xs ys : List C} {K : Know}, Holds ρ K → kindsOk ks xs ys = true →
    Snd ρ (some (eqKS xs ys K)) fun b => eqK ks (xs.map (C.den ρ)) (ys.map (C.den ρ)) = some b
  | [], [], [], K, hK, _ => Snd.one hK rfl
  | [], [], _ :: _, _, _, h => by cases h
  | [], _ :: _, _, _, _, h => by cases h
  | _ :: _, [], _, _, _, h => by cases h
  | _ :: _, _ :: _, [], _, _, h => by cases h
  | k :: ks, x :: xs, y :: ys, K, hK, h => by
    simp only [kindsOk, Bool.and_eq_true] at h
    obtain ⟨h1, h2⟩ := h
    have hlit : ∃ u v, x = .lit u ∧ y = .lit v ∧ ∀ b, (den ρ u = den ρ v ↔ b = true) → eqK1 k (.lit (den ρ u)) (.lit (den ρ v)) = some b := by
      unfold kindOk1 at h1
      split at h1
      · rename_i u v
        refine ⟨u, v, rfl, rfl, fun b hb => ?_⟩
        split at h1
        · rename_i j k' hj hk
          have := of_decide_eq_true h1
          subst this
          obtain ⟨m, hm⟩ := intK_ok (ρ := ρ) hj
          obtain ⟨n, hn⟩ := intK_ok (ρ := ρ) hk
          rw [hm, hn] at hb ⊢
          simp only [Value.int.injEq, true_and] at hb
          simp only [eqK1, if_pos, Option.some.injEq]
          cases b <;> simp_all
        · cases h1
      · rename_i u v
        refine ⟨u, v, rfl, rfl, fun b hb => ?_⟩
        simp only [Bool.and_eq_true] at h1
        obtain ⟨m, hm⟩ := isBool_ok (ρ := ρ) h1.1
        obtain ⟨n, hn⟩ := isBool_ok (ρ := ρ) h1.2
        rw [hm, hn] at hb ⊢
        simp only [Value.bool.injEq] at hb
        simp only [eqK1, Option.some.injEq]
        cases b <;> cases m <;> cases n <;> simp_all
      · rename_i u v
        refine ⟨u, v, rfl, rfl, fun b hb => ?_⟩
        simp only [Bool.and_eq_true] at h1
        obtain ⟨m, hm⟩ := isStr_ok (ρ := ρ) h1.1
        obtain ⟨n, hn⟩ := isStr_ok (ρ := ρ) h1.2
        rw [hm, hn] at hb ⊢
        simp only [Value.string.injEq, ← strEq_iff] at hb
        simp only [eqK1, Option.some.injEq]
        cases b <;> simp_all
      · cases h1
    obtain ⟨u, v, rfl, rfl, hb⟩ := hlit
    simp only [eqKS]
    have hall : ∃ b, eqK ks (xs.map (C.den ρ)) (ys.map (C.den ρ)) = some b := by
      obtain ⟨p, _, _, hp⟩ := eqKS_ok hK h2 _ rfl
      exact ⟨_, hp⟩
    have key := Snd.bnd (f := fun K' b => some (cond b (eqKS xs ys K') [(K', false)])) (R := fun b => eqK (k :: ks) ((C.lit u :: xs).map (C.den ρ)) ((C.lit v :: ys).map (C.den ρ)) = some b)
      (askE_ok hK (kindOk1_bools h1)) fun K' b hK' hat => by
        have hk1 := hb b hat
        simp only [List.map_cons, eqK, C.den, hk1]
        cases b with
        | true =>
          refine (eqKS_ok hK' h2).mono fun b' hb' => ?_
          rw [hb']
          simp
        | false =>
          refine Snd.one hK' ?_
          obtain ⟨b', hb'⟩ := hall
          rw [hb']
          simp
    intro l hl
    split at hl
    · rename_i l' hl'
      simp only [Option.some.injEq] at hl
      subst hl
      exact key _ hl'
    · rename_i hl'
      exfalso
      have hne : ∀ (l : List (Know × Bool)), bndL l (fun K' b => some (cond b (eqKS xs ys K') [(K', false)])) ≠ none := fun l => by
        induction l with
        | nil => simp [bndL]
        | cons p l ih => cases l with
          | nil => simp [bndL]
          | cons q l =>
            simp only [bndL]
            split
            · simp
            · rename_i hh
              exact absurd hh ih
      exact hne _ hl'

theorem natW_ok (hZ : ZFree X) (hc : operOk o = true) {r : V × St} (h : natW P X fi nm o σ = some r) : op P X fi nm o (σ.den ρ) = some (r.1.den ρ, r.2.den ρ) := by
  unfold natW at h
  cases hn : natOk X σ o with
  | false => rw [hn] at h; cases h
  | true =>
    rw [hn, cond_true] at h
    split at h
    · rename_i v σ' ho
      cases hr : resOk X σ o v with
      | false => rw [hr] at h; cases h
      | true =>
        rw [hr, cond_true, Option.some.injEq] at h
        subst h
        exact op_nat hZ hc hn ho hr
    · cases h

theorem opS_ok (hZ : ZFree X) (hc : operOk o = true) (hK : Holds ρ K) : Snd ρ (opS P X fi nm o σ K) fun r => op P X fi nm o (σ.den ρ) = some (r.1.den ρ, r.2.den ρ) := by
  unfold opS
  split
  · rename_i r hr
    exact Snd.one hK (natW_ok hZ hc hr)
  · unfold symW
    unfold operOk at hc
    split
    · rename_i b t x y t' hop
      rw [hop] at hc
      simp only [Op.operands, List.all_cons, Bool.and_eq_true] at hc
      have hbin : ∀ {u v : V} {r : Value}, ev σ x = some u → ev σ y = some v → binV X b t (u.den ρ) (v.den ρ) = some (den ρ r) → Value.isSym r = false ∨ True → op P X fi nm o (σ.den ρ) = some (.one (.lit (den ρ r)), σ.den ρ) := fun hu hv hb _ => by
        unfold op
        simp only [hop]
        rw [onV_den hc.1 hu, onV_den hc.2.1 hv, hb]
      split
      · rename_i u v hu hv
        have := binW_ok (X := X) hK (b := b) (t := t) (x := u) (y := v)
        split
        · rename_i l hl
          rw [hl] at this
          exact Snd.mapW (this.mono fun r hr => hbin hu hv hr (.inr trivial))
        · exact Snd.none
      · rename_i xs ys hu hv
        split
        · rename_i ks hks
          cases hk : kindsOk ks xs ys with
          | false => exact Snd.none
          | true =>
            rw [cond_true]
            have := eqKS_ok hK hk
            split
            · refine Snd.mapW (this.mono fun r hr => ?_)
              have := hbin (r := .bool r) hu hv (by simp only [V.den, binV, hks, hr, den_bool, Option.map_some]) (.inr trivial)
              simpa only [V.den, C.den] using this
            · refine Snd.mapW (this.mono fun r hr => ?_)
              have := hbin (r := notV r) hu hv (by simp only [V.den, binV, hks, hr, notV, den_bool, Option.map_some]) (.inr trivial)
              simpa only [V.den, C.den] using this
            · exact Snd.none
        · exact Snd.none
      · exact Snd.none
    · rename_i c hop
      rw [hop] at hc
      have hca := cfree_args hc
      split
      · rename_i x t ts hcal hargs hts
        rw [hargs] at hca
        simp only [List.all_cons, Bool.and_eq_true] at hca
        split
        · rename_i s ti hs hti
          split
          · rename_i hd
            cases his : isStr s with
            | false => exact Snd.none
            | true =>
              rw [cond_true]
              refine Snd.one hK ?_
              obtain ⟨u, hu⟩ := isStr_ok (ρ := ρ) his
              unfold op
              simp only [hop, hcal, hargs, hts, evs, ev_den σ hca.1, hs, Option.map_some, V.den, C.den, builtinE, hti, hd, hu]
              simp [den, hu, sOf]
          · exact Snd.none
        · exact Snd.none
      · exact Snd.none
    · exact Snd.none
end
end E
end Go.Proofs.Ytnfehccnofhmnaa

/-
  Symbols in the abstract machine: regions, code, calls: a run that forks where it has to ask. No condition.
-/
namespace Go.Proofs.Ytnfehccnofhmnaa
namespace E

def C.beqS : C → C → Bool
  | .lit (.iface t x), .lit (.iface u y) => symB 20 (.iface t x) (.iface u y)
  | x, y => C.beq x y

def cellsBeqS : List C → List C → Bool
  | [], [] => true
  | x :: xs, y :: ys => C.beqS x y && cellsBeqS xs ys
  | _, _ => false

def V.beqS : V → V → Bool
  | .one a, .one b => C.beqS a b
  | .agg a, .agg b => cellsBeqS a b
  | _, _ => false

/-- No constant of a code holds a symbol. -/
def codeK : Code → Bool
  | .seq a b => codeK a && codeK b
  | .cond c a b => cfree c && codeK a && codeK b
  | .block _ c => codeK c
  | .loop c => codeK c
  | .region _ ops _ => ops.toList.all operOk
  | _ => true

section
variable (P : Program) (X : Ctx) (fi : Fi) (Γ : FuncId → List V → Heap → Know → Ways (V × Heap))

def runOpsS (ops : List Oper) : List Oper → St → Know → Ways St
  | [], σ, K => some [(K, σ)]
  | o :: l, σ, K =>
    match wanted ops o σ with
    | some false => match put fi o.dst undefC σ with
      | some σ' => runOpsS ops l σ' K
      | none => none
    | some true => cond (isCall o)
      (match callee σ o with
        | some (f, args) => cond (args.all V.loose)
          (bnd (Γ f args σ.h K) fun K' r => match put fi o.dst r.1 { σ with h := r.2 } with
              | some σ' => runOpsS ops l σ' K'
              | none => none) none
        | none => none)
      (bnd (opS P X fi σ.h.next o σ K) fun K' r => match put fi o.dst r.1 { r.2 with h := bump fi o r.2.h } with
          | some σ' => runOpsS ops l σ' K'
          | none => none)
    | none => none

def readAtS (r : Rd) (m : Mem) : Option V :=
  match natW P X fi 0 r.o ⟨r.env, m.1, m.2⟩ with
  | some p => some p.1
  | none => match symW X r.o ⟨r.env, m.1, m.2⟩ [] with
    | some [p] => some p.2.1
    | _ => none

def rdOkS (B : List Mem) (r : Rd) : Bool := operOk r.o && (((B.reverse.take (r.hi + 1)).drop r.lo)).all fun m => match readAtS P X fi r m with
  | some v => V.beqS v r.v
  | none => false

def runDrawLS (ops : List Oper) (wins : List (Nat × Nat × Nat)) : List Nat → Nat → List Mem → List Rd → St → Know → Ways St
  | [], _, B, R, σ, K => cond (R.all (rdOkS P X fi B)) (some [(K, σ)]) none
  | i :: l, nm, B, R, σ, K =>
    match ops[i]? with
    | none => none
    | some o =>
      match wanted ops o σ with
      | some false => match put fi o.dst undefC σ with
        | some σ' => runDrawLS ops wins l (nmOf fi o nm) (if okind o = .chain then (σ.bx, σ.h) :: B else B) R σ' K
        | none => none
      | some true => cond (isCall o)
        (match callee σ o with
          | some (f, args) => cond (args.all V.loose)
            (bnd (Γ f args σ.h K) fun K' r => match put fi o.dst r.1 { σ with h := r.2 } with
                | some σ' => runDrawLS ops wins l nm ((σ.bx, r.2) :: B) R σ' K'
                | none => none) none
          | none => none)
        (bnd (opS P X fi nm o σ K) fun K' r => match put fi o.dst r.1 r.2 with
            | some σ' => runDrawLS ops wins l (nmOf fi o nm) (if okind o = .chain then (r.2.bx, r.2.h) :: B else B) (match winOf wins i with | some (lo, hi) => ⟨o, σ.env, r.1, lo, hi⟩ :: R | none => R) σ' K'
            | none => none)
      | none => none

def runLoopS (f : St → Know → Ways (Ex × St)) : Nat → St → Know → Ways (Ex × St)
  | 0, _, _ => none
  | n + 1, σ, K => bnd (f σ K) fun K' r => match r with
    | (.norm, σ') => runLoopS f n σ' K'
    | r => some [(K', r)]

def runCS (wins : List (Nat × Win)) (n : Nat) : Code → St → Know → Ways (Ex × St)
  | .skip, σ, K => some [(K, (.norm, σ))]
  | .ret, σ, K => some [(K, (.ret, σ))]
  | .exit id, σ, K => some [(K, (.exit id, σ))]
  | .seq a b, σ, K => bnd (runCS wins n a σ K) fun K' r => match r with
    | (.norm, σ') => runCS wins n b σ' K'
    | r => some [(K', r)]
  | .cond c a b, σ, K => match ev σ c with
    | some (.one (.lit (.bool true))) => runCS wins n a σ K
    | some (.one (.lit (.bool false))) => runCS wins n b σ K
    | some (.one (.lit v)) => cond (isBool v) (bnd (some (ask false v (.bool true) K)) fun K' r => cond r (runCS wins n a σ K') (runCS wins n b σ K')) none
    | _ => none
  | .block id c, σ, K => bnd (runCS wins n c σ K) fun K' r => match r with
    | (.exit id', σ') => cond (Nat.beq id' id) (some [(K', (.norm, σ'))]) (some [(K', (.exit id', σ'))])
    | r => some [(K', r)]
  | .loop c, σ, K => runLoopS (runCS wins n c) n σ K
  | .region id ops draw, σ, K => bnd (cond draw
      (cond (startOk fi ops.toList σ) (runDrawLS P X fi Γ ops.toList (winsOf (get wins id)) (ordOf (get wins id) ops.toList.length) σ.h.next [(σ.bx, { σ.h with next := σ.h.next + countMk fi ops.toList (ordOf (get wins id) ops.toList.length) })] [] { σ with h := { σ.h with next := σ.h.next + countMk fi ops.toList (ordOf (get wins id) ops.toList.length) } } K) none)
      (runOpsS P X fi Γ ops.toList ops.toList σ K)) fun K' σ' => some [(K', (.norm, clean fi id σ'))]
  | _, _, _ => none
end

/-- The machine's calls, with some functions' answers given. -/
def callO (P : Program) (X : Ctx) (F : FuncId → Option Fn) (ov : FuncId → Bool) (G : FuncId → List V → Heap → Option (V × Heap)) (loops : Nat) : Nat → FuncId → List V → Heap → Option (V × Heap)
  | 0, _, _, _ => none
  | n + 1, f, args, h => cond (ov f) (G f args h)
    (match F f with
    | some fn => match runC P X fn.fi (callO P X F ov G loops n) fn.wins loops fn.body ⟨argsEnv 0 args, [], h⟩ with
      | some (.norm, σ) | some (.ret, σ) => cond (Nat.ble h.next σ.h.next && Nat.ble args.length fn.fi.nt) ((resE X σ fn.res).map fun v => (v, dropH fn.keep h σ.h)) none
      | _ => none
    | none => none)

def endS (X : Ctx) (fn : Fn) (args : List V) (h : Heap) (σ : St) (K : Know) : Ways (V × Heap) :=
  cond (Nat.ble h.next σ.h.next && Nat.ble args.length fn.fi.nt)
    (match resE X σ fn.res with
      | some v => some [(K, (v, dropH fn.keep h σ.h))]
      | none => none) none

def callS (P : Program) (X : Ctx) (F : FuncId → Option Fn) (ov : FuncId → Bool) (G : FuncId → List V → Heap → Know → Ways (V × Heap)) (loops : Nat) : Nat → FuncId → List V → Heap → Know → Ways (V × Heap)
  | 0, _, _, _, _ => none
  | n + 1, f, args, h, K => cond (ov f) (G f args h K)
    (match F f with
    | some fn => bnd (runCS P X fn.fi (callS P X F ov G loops n) fn.wins loops fn.body ⟨argsEnv 0 args, [], h⟩ K) fun K' r => match r with
      | (.norm, σ) | (.ret, σ) => endS X fn args h σ K'
      | _ => none
    | none => none)

section
variable {ρ : Env} {P : Program} {X : Ctx} {fi : Fi} {σ σ' : St} {o : Oper} {K : Know}

theorem put_den {d : Option Nat} {v : V} (h : put fi d v σ = some σ') : put fi d (v.den ρ) (σ.den ρ) = some (σ'.den ρ) := by
  unfold put at h ⊢
  split at h
  · cases h; rfl
  · split at h
    · rename_i hlt
      rw [if_pos hlt]
      cases h
      rfl
    · cases h

theorem put_undef {d : Option Nat} (h : put fi d undefC σ = some σ') : put fi d undefC (σ.den ρ) = some (σ'.den ρ) := by
  have := put_den (ρ := ρ) h
  rwa [V.den_free (ρ := ρ) (v := undefC) rfl] at this

theorem wanted_den {ops : List Oper} {b : Bool} (h : wanted ops o σ = some b) : wanted ops o (σ.den ρ) = some b := by
  unfold wanted at h ⊢
  split at h
  · exact h
  · split at h
    · split at h
      · rename_i t ht
        have hg : ∀ v, get σ.env t = some v → v.free = true → get (σ.den ρ).env t = some v := fun v hv hf => by
          show get (envDen ρ σ.env) t = _
          rw [get_envDen, hv, Option.map_some, V.den_free hf]
        split at h
        · rename_i q hq
          rw [hg _ hq rfl]
          exact h
        · rename_i l hq
          rw [hg _ hq rfl]
          exact h
        · cases h
      · cases h
    · cases h

theorem callee_den (hc : operOk o = true) {f : FuncId} {args : List V} (h : callee σ o = some (f, args)) : callee (σ.den ρ) o = some (f, args.map (V.den ρ)) := by
  unfold callee at h ⊢
  unfold operOk at hc
  split at h
  case h_2 => cases h
  rename_i c ho
  rw [ho] at hc
  have hca := cfree_args hc
  split at h
  case h_2 => cases h
  rename_i fo hcal
  have hcf : cfree fo = true := by
    have : c.operands.toList.all cfree = true := hc
    unfold Call.operands at this
    rw [hcal, Array.toList_append, List.all_append, Bool.and_eq_true] at this
    simpa using this.1
  rw [ev_den σ hcf, evs_den σ hca]
  split at h
  case h_2 => cases h
  rename_i g caps vs h1 h2
  simp only [Option.some.injEq, Prod.mk.injEq] at h
  obtain ⟨rfl, rfl⟩ := h
  simp only [h1, h2, Option.map_some, V.den, C.den, List.map_append, List.map_map, Function.comp_def]

theorem looseC_den (c : C) : (V.one (c.den ρ)).loose = (V.one c).loose := by cases c <;> rfl

theorem loose_den (v : V) : (v.den ρ).loose = v.loose := by
  have hcs : ∀ cs : List C, (cs.map (C.den ρ)).all (fun c => match c with | .lp .. => false | _ => true) = cs.all (fun c => match c with | .lp .. => false | _ => true) := fun cs => by
    rw [List.all_map]
    congr 1
    funext c
    cases c <;> rfl
  cases v with
  | one c => exact looseC_den c
  | agg cs => exact hcs cs
  | tup vs =>
    simp only [V.den, denL_eq, V.loose, List.all_map]
    congr 1
    funext v
    cases v with
    | one c => cases c <;> rfl
    | agg cs => exact hcs cs
    | tup _ => rfl

theorem allLoose_den (vs : List V) : (vs.map (V.den ρ)).all V.loose = vs.all V.loose := by
  rw [List.all_map]
  congr 1
  funext v
  exact loose_den v

theorem bump_den (h : Heap) : bump fi o (h.den ρ) = (bump fi o h).den ρ := by
  unfold bump
  cases makes fi o <;> rfl

section
variable {Γ : FuncId → List V → Heap → Option (V × Heap)} {ΓS : FuncId → List V → Heap → Know → Ways (V × Heap)}

/-- What the forking machine says of calls is what the other says. -/
def GSok (ρ : Env) (Γ : FuncId → List V → Heap → Option (V × Heap)) (ΓS : FuncId → List V → Heap → Know → Ways (V × Heap)) : Prop :=
  ∀ f args h K, Holds ρ K → Snd ρ (ΓS f args h K) fun r => Γ f (args.map (V.den ρ)) (h.den ρ) = some (r.1.den ρ, r.2.den ρ)

theorem runOpsS_ok (hZ : ZFree X) (hG : GSok ρ Γ ΓS) {ops : List Oper} : ∀ (l : List Oper) (σ : St) (K : Know), l.all operOk = true → Holds ρ K →
    Snd ρ (runOpsS P X fi ΓS ops l σ K) fun σ' => runOps P X fi Γ ops l (σ.den ρ) = some (σ'.den ρ)
  | [], σ, K, _, hK => Snd.one hK rfl
  | o :: l, σ, K, hc, hK => by
    simp only [List.all_cons, Bool.and_eq_true] at hc
    simp only [runOpsS, runOps]
    cases hw : wanted ops o σ with
    | none => exact Snd.none
    | some b =>
      rw [wanted_den hw]
      cases b with
      | false =>
        simp only
        cases hp : put fi o.dst undefC σ with
        | none => exact Snd.none
        | some σ1 =>
          simp only [put_undef hp]
          exact runOpsS_ok hZ hG l σ1 K hc.2 hK
      | true =>
        simp only
        cases hcall : isCall o with
        | true =>
          simp only [cond_true]
          cases hcal : callee σ o with
          | none => exact Snd.none
          | some p =>
            obtain ⟨f, args⟩ := p
            simp only [callee_den hc.1 hcal, allLoose_den]
            cases hl : args.all V.loose with
            | false => exact Snd.none
            | true =>
              simp only [cond_true]
              refine Snd.bnd (hG f args σ.h K hK) fun K' r hK' hr => ?_
              simp only [St.den] at hr ⊢
              rw [hr]
              simp only
              cases hp : put fi o.dst r.1 { σ with h := r.2 } with
              | none => exact Snd.none
              | some σ1 =>
                have := put_den (ρ := ρ) hp
                simp only [St.den] at this
                rw [this]
                exact runOpsS_ok hZ hG l σ1 K' hc.2 hK'
        | false =>
          simp only [cond_false]
          refine Snd.bnd (opS_ok hZ hc.1 hK) fun K' r hK' hr => ?_
          have hn : (σ.den ρ).h.next = σ.h.next := rfl
          rw [hn, hr]
          simp only
          cases hp : put fi o.dst r.1 { r.2 with h := bump fi o r.2.h } with
          | none => exact Snd.none
          | some σ1 =>
            have := put_den (ρ := ρ) hp
            simp only [St.den, ← bump_den] at this
            have h2 : ({ r.2.den ρ with h := bump fi o (r.2.den ρ).h } : St) = ⟨envDen ρ r.2.env, bxDen ρ r.2.bx, bump fi o (r.2.h.den ρ)⟩ := rfl
            rw [h2, this]
            exact runOpsS_ok hZ hG l σ1 K' hc.2 hK'
end
end
end E
end Go.Proofs.Ytnfehccnofhmnaa

/-
  Symbols in the abstract machine: a run that forks is one of the runs, whatever the symbols stand for. No condition.
-/
namespace Go.Proofs.Ytnfehccnofhmnaa
namespace E

def memDen (ρ : Env) (m : Mem) : Mem := (bxDen ρ m.1, m.2.den ρ)
def Rd.den (ρ : Env) (r : Rd) : Rd := ⟨r.o, envDen ρ r.env, r.v.den ρ, r.lo, r.hi⟩

section
variable {ρ : Env} {P : Program} {X : Ctx} {fi : Fi} {σ σ' : St} {o : Oper} {K : Know}

theorem beq_plain {v : Value} (h : Value.plain v = true) : C.beq (.lit v) (.lit v) = true := by
  cases v <;> first | (cases h; done) | skip
  · simp [C.beq]
  · simp [C.beq]
  · simp [C.beq, strEq_iff]

theorem beq_free {x y : C} (h : C.beq x y = true) : x.free = true := by
  unfold C.beq at h
  split at h <;> first | rfl | cases h

theorem beqS_ok {x y : C} (h : C.beqS x y = true) : C.beq (x.den ρ) (y.den ρ) = true := by
  unfold C.beqS at h
  split at h
  · have := symB_eq _ h
    rw [this]
    exact beq_plain (den_sym rfl)
  · have he := C.beq_eq h
    have hf := beq_free h
    subst he
    rw [C.den_free hf]
    exact h

theorem cellsBeqS_ok : ∀ {xs ys : List C}, cellsBeqS xs ys = true → cellsBeq (xs.map (C.den ρ)) (ys.map (C.den ρ)) = true
  | [], [], _ => rfl
  | x :: xs, y :: ys, h => by
    simp only [cellsBeqS, Bool.and_eq_true] at h
    simp only [List.map_cons, cellsBeq, beqS_ok h.1, cellsBeqS_ok h.2, Bool.and_true]
  | [], _ :: _, h => by cases h
  | _ :: _, [], h => by cases h

theorem vbeqS_ok {x y : V} (h : V.beqS x y = true) : V.beq (x.den ρ) (y.den ρ) = true := by
  unfold V.beqS at h
  split at h
  · exact beqS_ok h
  · exact cellsBeqS_ok h
  · cases h

theorem readAtS_ok (hZ : ZFree X) {r : Rd} (hc : operOk r.o = true) {m : Mem} {v : V} (h : readAtS P X fi r m = some v) : readAt P X fi (r.den ρ) (memDen ρ m) = some (v.den ρ) := by
  have hop : ∃ σ', op P X fi 0 r.o (⟨envDen ρ r.env, bxDen ρ m.1, m.2.den ρ⟩ : St) = some (v.den ρ, σ') := by
    unfold readAtS at h
    split at h
    · rename_i p hp
      cases h
      exact ⟨_, natW_ok hZ hc hp⟩
    · rename_i hn
      split at h
      · rename_i p hp
        simp only [Option.some.injEq] at h
        have := opS_ok (ρ := ρ) (P := P) (X := X) (fi := fi) (nm := 0) (σ := ⟨r.env, m.1, m.2⟩) (o := r.o) (K := []) hZ hc (fun _ hf => by cases hf)
        unfold opS at this
        rw [hn] at this
        simp only at this
        rw [hp] at this
        obtain ⟨q, hq, _, hop⟩ := this _ rfl
        rw [List.mem_singleton.1 hq] at hop
        rw [← h]
        exact ⟨_, hop⟩
      · cases h
  obtain ⟨σ', hop⟩ := hop
  show (op P X fi 0 r.o (⟨envDen ρ r.env, bxDen ρ m.1, m.2.den ρ⟩ : St)).map (·.1) = _
  rw [hop]
  rfl

theorem rdOkS_ok (hZ : ZFree X) {B : List Mem} {r : Rd} (h : rdOkS P X fi B r = true) : rdOkB P X fi (B.map (memDen ρ)) (r.den ρ) = true := by
  unfold rdOkS at h
  rw [Bool.and_eq_true] at h
  obtain ⟨hc, h⟩ := h
  unfold rdOkB
  show (((B.map (memDen ρ)).reverse.take (r.hi + 1)).drop r.lo).all _ = true
  rw [← List.map_reverse, ← List.map_take, ← List.map_drop, List.all_map]
  refine List.all_eq_true.2 fun m hm => ?_
  have := List.all_eq_true.1 h m hm
  simp only [Function.comp_apply]
  split at this
  · rename_i v hv
    rw [readAtS_ok hZ hc hv]
    exact vbeqS_ok this
  · cases this

section
variable {Γ : FuncId → List V → Heap → Option (V × Heap)} {ΓS : FuncId → List V → Heap → Know → Ways (V × Heap)}

theorem runDrawLS_ok (hZ : ZFree X) (hG : GSok ρ Γ ΓS) {ops : List Oper} (hc : ops.all operOk = true) {wins : List (Nat × Nat × Nat)} : ∀ (l : List Nat) (nm : Nat) (B : List Mem) (R : List Rd) (σ : St) (K : Know), Holds ρ K →
    Snd ρ (runDrawLS P X fi ΓS ops wins l nm B R σ K) fun σ' => runDrawL P X fi Γ ops wins l nm (B.map (memDen ρ)) (R.map (Rd.den ρ)) (σ.den ρ) = some (σ'.den ρ)
  | [], nm, B, R, σ, K, hK => by
    simp only [runDrawLS, runDrawL]
    cases hr : R.all (rdOkS P X fi B) with
    | false => exact Snd.none
    | true =>
      refine Snd.one hK ?_
      have : (R.map (Rd.den ρ)).all (rdOkB P X fi (B.map (memDen ρ))) = true := by
        rw [List.all_map]
        exact List.all_eq_true.2 fun r hr' => rdOkS_ok hZ (List.all_eq_true.1 hr r hr')
      rw [this]
      rfl
  | i :: l, nm, B, R, σ, K, hK => by
    simp only [runDrawLS, runDrawL]
    cases ho : ops[i]? with
    | none => exact Snd.none
    | some o =>
      have hco : operOk o = true := List.all_eq_true.1 hc o (List.mem_of_getElem? ho)
      simp only
      cases hw : wanted ops o σ with
      | none => exact Snd.none
      | some b =>
        rw [wanted_den hw]
        cases b with
        | false =>
          simp only
          cases hp : put fi o.dst undefC σ with
          | none => exact Snd.none
          | some σ1 =>
            simp only [put_undef hp]
            have := runDrawLS_ok hZ hG hc (wins := wins) l (nmOf fi o nm) (if okind o = .chain then (σ.bx, σ.h) :: B else B) R σ1 K hK
            split at this
            · rename_i hch
              simp only [if_pos hch]
              exact this
            · rename_i hch
              simp only [if_neg hch]
              exact this
        | true =>
          simp only
          cases hcall : isCall o with
          | true =>
            simp only [cond_true]
            cases hcal : callee σ o with
            | none => exact Snd.none
            | some p =>
              obtain ⟨f, args⟩ := p
              simp only [callee_den hco hcal, allLoose_den]
              cases hl : args.all V.loose with
              | false => exact Snd.none
              | true =>
                simp only [cond_true]
                refine Snd.bnd (hG f args σ.h K hK) fun K' r hK' hr => ?_
                simp only [St.den] at hr ⊢
                rw [hr]
                simp only
                cases hp : put fi o.dst r.1 { σ with h := r.2 } with
                | none => exact Snd.none
                | some σ1 =>
                  have := put_den (ρ := ρ) hp
                  simp only [St.den] at this
                  rw [this]
                  exact runDrawLS_ok hZ hG hc l nm ((σ.bx, r.2) :: B) R σ1 K' hK'
          | false =>
            simp only [cond_false]
            refine Snd.bnd (opS_ok hZ hco hK) fun K' r hK' hr => ?_
            rw [hr]
            simp only
            cases hp : put fi o.dst r.1 r.2 with
            | none => exact Snd.none
            | some σ1 =>
              rw [put_den (ρ := ρ) hp]
              have := runDrawLS_ok hZ hG hc (wins := wins) l (nmOf fi o nm) (if okind o = .chain then (r.2.bx, r.2.h) :: B else B) (match winOf wins i with | some (lo, hi) => ⟨o, σ.env, r.1, lo, hi⟩ :: R | none => R) σ1 K' hK'
              cases hwn : winOf wins i with
              | none =>
                rw [hwn] at this
                split at this
                · rename_i hch
                  simp only [if_pos hch]
                  exact this
                · rename_i hch
                  simp only [if_neg hch]
                  exact this
              | some p =>
                rw [hwn] at this
                split at this
                · rename_i hch
                  simp only [if_pos hch]
                  exact this
                · rename_i hch
                  simp only [if_neg hch]
                  exact this

theorem keepEnv_den (l : List Nat) (e : List (Nat × V)) : keepEnv l (envDen ρ e) = envDen ρ (keepEnv l e) := by
  unfold keepEnv
  induction l with
  | nil => rfl
  | cons t l ih =>
    rw [List.filterMap_cons, List.filterMap_cons, get_envDen, ih]
    cases get e t with
    | none => rfl
    | some v => rfl

theorem keepBx_den (l : List Nat) (e : List (Nat × List C)) : keepBx l (bxDen ρ e) = bxDen ρ (keepBx l e) := by
  unfold keepBx
  induction l with
  | nil => rfl
  | cons t l ih =>
    rw [List.filterMap_cons, List.filterMap_cons, get_bxDen, ih]
    cases get e t with
    | none => rfl
    | some v => rfl

theorem clean_den (id : Nat) (σ : St) : clean fi id (σ.den ρ) = (clean fi id σ).den ρ := by
  unfold clean
  cases get fi.lives id with
  | none => rfl
  | some l =>
    simp only [St.den, keepEnv_den, keepBx_den]

theorem startOk_den (ops : List Oper) (σ : St) : startOk fi ops (σ.den ρ) = startOk fi ops σ := by
  unfold startOk
  congr 1
  funext o
  cases boxSlot fi o with
  | none => rfl
  | some t =>
    have h1 : (get (σ.den ρ).bx t).isNone = (get σ.bx t).isNone := by
      show (get (bxDen ρ σ.bx) t).isNone = _
      rw [get_bxDen]
      cases get σ.bx t <;> rfl
    have h2 : ((σ.den ρ).env.any fun p => mentionsV t p.2) = σ.env.any fun p => mentionsV t p.2 := by
      show ((envDen ρ σ.env).any fun p => mentionsV t p.2) = _
      rw [envDen, List.any_map]
      congr 1
      funext p
      exact mentionsV_den t p.2
    simp only [h1, h2]

theorem runLoopS_ok {f : St → Option (Ex × St)} {fS : St → Know → Ways (Ex × St)} (hf : ∀ σ K, Holds ρ K → Snd ρ (fS σ K) fun r => f (σ.den ρ) = some (r.1, r.2.den ρ)) : ∀ (n : Nat) (σ : St) (K : Know), Holds ρ K →
    Snd ρ (runLoopS fS n σ K) fun r => runLoop f n (σ.den ρ) = some (r.1, r.2.den ρ)
  | 0, _, _, _ => Snd.none
  | n + 1, σ, K, hK => by
    simp only [runLoopS, runLoop]
    refine Snd.bnd (hf σ K hK) fun K' r hK' hr => ?_
    rw [hr]
    obtain ⟨e, σ1⟩ := r
    cases e with
    | norm => exact runLoopS_ok hf n σ1 K' hK'
    | exit id => exact Snd.one hK' rfl
    | ret => exact Snd.one hK' rfl

theorem runCS_ok (hZ : ZFree X) (hG : GSok ρ Γ ΓS) {wins : List (Nat × Win)} {n : Nat} : ∀ (c : Code) (σ : St) (K : Know), codeK c = true → Holds ρ K →
    Snd ρ (runCS P X fi ΓS wins n c σ K) fun r => runC P X fi Γ wins n c (σ.den ρ) = some (r.1, r.2.den ρ)
  | .skip, σ, K, _, hK => Snd.one hK rfl
  | .ret, σ, K, _, hK => Snd.one hK rfl
  | .exit id, σ, K, _, hK => Snd.one hK rfl
  | .seq a b, σ, K, hc, hK => by
    simp only [codeK, Bool.and_eq_true] at hc
    simp only [runCS, runC]
    refine Snd.bnd (runCS_ok hZ hG a σ K hc.1 hK) fun K' r hK' hr => ?_
    rw [hr]
    obtain ⟨e, σ1⟩ := r
    cases e with
    | norm => exact runCS_ok hZ hG b σ1 K' hc.2 hK'
    | exit id => exact Snd.one hK' rfl
    | ret => exact Snd.one hK' rfl
  | .cond x a b, σ, K, hc, hK => by
    simp only [codeK, Bool.and_eq_true] at hc
    simp only [runCS, runC, ev_den σ hc.1.1]
    split
    · rename_i hx
      simp only [hx, Option.map_some, V.den, C.den, den_bool]
      exact runCS_ok hZ hG a σ K hc.1.2 hK
    · rename_i hx
      simp only [hx, Option.map_some, V.den, C.den, den_bool]
      exact runCS_ok hZ hG b σ K hc.2 hK
    · rename_i v _ _ hx
      cases hb : isBool v with
      | false => exact Snd.none
      | true =>
        rw [cond_true]
        obtain ⟨m, hm⟩ := isBool_ok (ρ := ρ) hb
        simp only [hx, Option.map_some, V.den, C.den, hm]
        refine Snd.bnd (ask_ok hK) fun K' r hK' hr => ?_
        simp only [Atom, hm, den_bool, Value.bool.injEq] at hr
        cases r with
        | true =>
          rw [cond_true]
          have : m = true := by simpa using hr
          subst this
          exact runCS_ok hZ hG a σ K' hc.1.2 hK'
        | false =>
          rw [cond_false]
          have : m = false := by simpa using hr
          subst this
          exact runCS_ok hZ hG b σ K' hc.2 hK'
    · exact Snd.none
  | .block id c, σ, K, hc, hK => by
    simp only [codeK] at hc
    simp only [runCS, runC]
    refine Snd.bnd (runCS_ok hZ hG c σ K hc hK) fun K' r hK' hr => ?_
    rw [hr]
    obtain ⟨e, σ1⟩ := r
    cases e with
    | norm => exact Snd.one hK' rfl
    | exit id' =>
      simp only
      cases Nat.beq id' id with
      | true => exact Snd.one hK' rfl
      | false => exact Snd.one hK' rfl
    | ret => exact Snd.one hK' rfl
  | .loop c, σ, K, hc, hK => by
    simp only [codeK] at hc
    simp only [runCS, runC]
    exact runLoopS_ok (fun σ K hK => runCS_ok hZ hG c σ K hc hK) n σ K hK
  | .region id ops draw, σ, K, hc, hK => by
    simp only [codeK] at hc
    simp only [runCS, runC]
    have fin : ∀ {m : Ways St} {r : Option St}, Snd ρ m (fun σ' => r = some (σ'.den ρ)) → Snd ρ (bnd m fun K' σ' => some [(K', (Ex.norm, clean fi id σ'))]) fun q => (match r with
        | some σ' => some (Ex.norm, clean fi id σ')
        | none => none) = some (q.1, q.2.den ρ) := fun h => Snd.bnd h fun K' σ1 hK' hr => by
      refine Snd.one hK' ?_
      rw [hr]
      simp only [clean_den]
    refine fin ?_
    cases draw with
    | true =>
      simp only [cond_true, startOk_den]
      cases startOk fi ops.toList σ with
      | false => exact Snd.none
      | true => exact runDrawLS_ok hZ hG hc _ _ [(σ.bx, { σ.h with next := σ.h.next + countMk fi ops.toList (ordOf (get wins id) ops.toList.length) })] [] { σ with h := { σ.h with next := σ.h.next + countMk fi ops.toList (ordOf (get wins id) ops.toList.length) } } K hK
    | false => exact runOpsS_ok hZ hG ops.toList σ K hc hK
  | .rangeFunc .., _, _, _, _ => Snd.none
  | .scope _, _, _, _, _ => Snd.none
  | .label _, _, _, _, _ => Snd.none
  | .goto _, _, _, _, _ => Snd.none
  | .refuse _, _, _, _, _ => Snd.none
end

theorem argsEnv_den : ∀ (k : Nat) (vs : List V), argsEnv k (vs.map (V.den ρ)) = envDen ρ (argsEnv k vs)
  | _, [] => rfl
  | k, v :: vs => by
    simp only [List.map_cons, argsEnv, argsEnv_den (k + 1) vs]
    rfl

theorem res1_den {r : ResultVar} {v : V} (h : res1 X σ r = some v) : res1 X (σ.den ρ) r = some (v.den ρ) := by
  cases r with
  | tmp t =>
    show get (envDen ρ σ.env) t = _
    have h : get σ.env t = some v := h
    rw [get_envDen, h]
    rfl
  | cell t ty =>
    simp only [res1] at h ⊢
    split at h
    · rename_i c ti hc hti
      have : get (σ.den ρ).env t = some (V.one (c.den ρ)) := by
        show get (envDen ρ σ.env) t = _
        rw [get_envDen, hc]
        rfl
      rw [this, hti]
      show load ti (σ.den ρ) (c.den ρ) = _
      rw [load_den, h]
      rfl
    · cases h

theorem resL_den : ∀ {rs : List ResultVar} {vs : List V}, resL X σ rs = some vs → resL X (σ.den ρ) rs = some (vs.map (V.den ρ))
  | [], vs, h => by cases h; rfl
  | r :: rs, vs, h => by
    simp only [resL] at h ⊢
    split at h
    · rename_i v vs' h1 h2
      rw [res1_den h1, resL_den h2]
      cases h
      rfl
    · cases h

theorem isTup_den (v : V) : (v.den ρ).isTup = v.isTup := by cases v <;> rfl

theorem resE_den {rs : List ResultVar} {v : V} (h : resE X σ rs = some v) : resE X (σ.den ρ) rs = some (v.den ρ) := by
  unfold resE at h ⊢
  split at h
  · rename_i u hu
    rw [resL_den hu]
    simp only [List.map_cons, List.map_nil, loose_den]
    split at h
    · rename_i hl
      rw [if_pos hl]
      cases h
      rfl
    · cases h
  · rename_i vs hne hu
    rw [resL_den hu]
    split at h
    · rename_i hl
      have hl' : ((vs.map (V.den ρ)).all fun v => v.loose && !v.isTup) = true := by
        rw [List.all_map]
        rw [← hl]
        congr 1
        funext v
        simp only [Function.comp_apply, loose_den, isTup_den]
      cases h
      cases vs with
      | nil => rfl
      | cons a vs => cases vs with
        | nil => exact absurd rfl (hne a)
        | cons b vs =>
          simp only [List.map_cons] at hl' ⊢
          rw [if_pos hl']
          simp only [V.den, denL_eq, List.map_cons]
    · cases h
  · cases h

theorem dropH_den (keep : Bool) (h h' : Heap) : dropH keep (h.den ρ) (h'.den ρ) = (dropH keep h h').den ρ := by
  cases keep with
  | true => rfl
  | false =>
    simp only [dropH, cond_false, Heap.den, bsDen, List.filter_map, Function.comp_def]

theorem endS_ok {fn : Fn} {args : List V} {h : Heap} (hK : Holds ρ K) : Snd ρ (endS X fn args h σ K) fun r =>
    cond (Nat.ble (h.den ρ).next (σ.den ρ).h.next && Nat.ble (args.map (V.den ρ)).length fn.fi.nt) ((resE X (σ.den ρ) fn.res).map fun v => (v, dropH fn.keep (h.den ρ) (σ.den ρ).h)) none = some (r.1.den ρ, r.2.den ρ) := by
  unfold endS
  have h1 : (h.den ρ).next = h.next := rfl
  have h2 : (σ.den ρ).h.next = σ.h.next := rfl
  rw [h1, h2, List.length_map]
  cases Nat.ble h.next σ.h.next && Nat.ble args.length fn.fi.nt with
  | false => exact Snd.none
  | true =>
    simp only [cond_true]
    cases hr : resE X σ fn.res with
    | none => exact Snd.none
    | some v =>
      refine Snd.one hK ?_
      rw [resE_den hr]
      simp only [Option.map_some, Option.some.injEq, Prod.mk.injEq, true_and]
      exact dropH_den fn.keep h σ.h

theorem callS_ok (hZ : ZFree X) {F : FuncId → Option Fn} (hF : ∀ f fn, F f = some fn → codeK fn.body = true) {ov : FuncId → Bool} {G : FuncId → List V → Heap → Option (V × Heap)} {GS : FuncId → List V → Heap → Know → Ways (V × Heap)}
    (hG : GSok ρ G GS) (loops : Nat) : ∀ n, GSok ρ (callO P X F ov G loops n) (callS P X F ov GS loops n)
  | 0 => fun _ _ _ _ _ => Snd.none
  | n + 1 => fun f args h K hK => by
    simp only [callS, callO]
    cases ov f with
    | true => exact hG f args h K hK
    | false =>
      simp only [cond_false]
      cases hf : F f with
      | none => exact Snd.none
      | some fn =>
        simp only
        refine Snd.bnd (runCS_ok hZ (callS_ok hZ hF hG loops n) fn.body ⟨argsEnv 0 args, [], h⟩ K (hF f fn hf) hK) fun K' r hK' hr => ?_
        have hst : (⟨argsEnv 0 (args.map (V.den ρ)), [], h.den ρ⟩ : St) = (⟨argsEnv 0 args, [], h⟩ : St).den ρ := by
          simp only [St.den, argsEnv_den, bxDen, List.map_nil]
        rw [hst, hr]
        obtain ⟨e, σ1⟩ := r
        cases e with
        | norm => exact endS_ok hK'
        | exit id => exact Snd.none
        | ret => exact endS_ok hK'
end

theorem callO_ok {P : Program} {X : Ctx} (hT : TtOk P X) (hF : FlatOk P X) (hm : P.follows .mixedOrders = true) {F : FuncId → Option Fn} (hfn : ∀ f fn, F f = some fn → FnOk P f fn) {ov : FuncId → Bool} {G : FuncId → List V → Heap → Option (V × Heap)} (hG : GOk P G) (loops : Nat) : ∀ n, GOk P (callO P X F ov G loops n)
  | 0 => fun f args h v h' e => by cases e
  | n + 1 => fun f args h v h' e => by
    rw [callO] at e
    cases hov : ov f with
    | true =>
      rw [hov, cond_true] at e
      exact hG _ _ _ _ _ e
    | false =>
    rw [hov, cond_false] at e
    cases hf : F f with
    | none => rw [hf] at e; cases e
    | some fn =>
      rw [hf] at e
      simp only at e
      obtain ⟨⟨g, g1, g2, g3, g4, g5⟩, hcode⟩ := hfn f fn hf
      have ih := callO_ok hT hF hm hfn hG loops n (ov := ov)
      have fin : ∀ ex σ, (ex = Ex.norm ∨ ex = Ex.ret) → runC P X fn.fi (callO P X F ov G loops n) fn.wins loops fn.body ⟨argsEnv 0 args, [], h⟩ = some (ex, σ) →
          cond (Nat.ble h.next σ.h.next && Nat.ble args.length fn.fi.nt) ((resE X σ fn.res).map fun v => (v, dropH fn.keep h σ.h)) none = some (v, h') → ACall P f args h v h' := fun ex σ hex hr e => by
        cases hb : Nat.ble h.next σ.h.next && Nat.ble args.length fn.fi.nt with
        | false => rw [hb] at e; cases e
        | true =>
          rw [hb, cond_true] at e
          simp only [Bool.and_eq_true, Nat.ble_eq] at hb
          simp only [Option.map_eq_some_iff, Prod.mk.injEq] at e
          obtain ⟨v', e1, rfl, rfl⟩ := e
          refine acall (fi := fn.fi) (D := wpDraw P X fn.fi fn.wins) (X := X) hT hF (drawOk hT hF hm fn.wins) g1 g2 g3 g4 (by rw [← g4]; exact hb.2) (Nat.le_trans hb.1 (dropH_sub fn.keep h σ.h).1) ?_
          exact runC_ok ih fn.body _ ex σ _ hcode hr ⟨hex, by rw [g5]; exact e1, dropH_sub fn.keep h σ.h⟩
      split at e
      · rename_i σ hr
        exact fin _ σ (.inl rfl) hr e
      · rename_i σ hr
        exact fin _ σ (.inr rfl) hr e
      · cases e
end E
end Go.Proofs.Ytnfehccnofhmnaa

/-
  Symbols in the abstract machine: what holds of this seat's program; a law whose arguments are symbols. No condition.
-/
namespace Go.Proofs.Ytnfehccnofhmnaa
open Go.RowKit
namespace E

theorem types_free : (Try.prog.types.toList.all fun i => match i.zero with
    | some z => z.cells.toList.all fun v => !Value.isSym v
    | none => true) = true := by kernel_rfl

noncomputable def tabSize : Nat := Try.prog.types.size

/-- What the machine is told: of the types of the table alone. -/
noncomputable def X1 : Ctx := { tt := fun t => cond (Nat.blt t tabSize) (ttOf Try.prog t) none, flat := flatOf Try.prog }

theorem x1_tt {t : TypeId} {ti : TI} (h : X1.tt t = some ti) : t < tabSize ∧ ttOf Try.prog t = some ti := by
  simp only [X1] at h
  cases hb : Nat.blt t tabSize with
  | false => rw [hb] at h; cases h
  | true => rw [hb, cond_true] at h; rw [Nat.blt_eq] at hb; exact ⟨hb, h⟩

theorem ttOk1 : TtOk Try.prog X1 := fun t ti h => ttOk t ti (by simp only [ctxOf]; exact (x1_tt h).2)
theorem flatOk1 : FlatOk Try.prog X1 := fun t ks h => by
  simp only [X1] at h
  exact flatOk t ks (by simp only [ctxOf]; exact h)

theorem zfree : ZFree X1 := fun t ti h => by
  obtain ⟨hlt, h⟩ := x1_tt h
  unfold ttOf at h
  split at h
  · rename_i ti' h1
    have hti : ti' = ti := by
      split at h
      · rename_i z hz
        cases hb : Nat.beq z.cells.size ti'.size with
        | false => rw [hb] at h; cases h
        | true => rw [hb, cond_true, Option.some.injEq] at h; exact h
      · cases h
    subst hti
    unfold tiOf at h1
    split at h1
    · rename_i i d hi hd
      cases h1
      have hm : i ∈ Try.prog.types.toList := by
        have hi : Try.prog.toTables.info? t = some i := hi
        unfold Tables.info? at hi
        rw [if_pos (show t < Try.prog.types.size from hlt)] at hi
        exact List.mem_of_getElem? (by simpa using hi)
      exact List.all_eq_true.1 types_free i hm
    · cases h1
  · cases h

theorem funcs_K : (Try.prog.funcs.toList.all fun g => match g.body with
    | some c => codeK c
    | none => true) = true := by kernel_rfl

theorem ftK : ∀ f fn, FT f = some fn → codeK fn.body = true := fun f fn h => by
  obtain ⟨g, g1, g2, _⟩ := (ftOk f fn h).ok
  have hm : g ∈ Try.prog.funcs.toList := List.mem_of_getElem? (by simpa using g1)
  have := List.all_eq_true.1 funcs_K g hm
  simp only [g2] at this
  exact this

/-- The answer of a law's own run without arguments, given ahead. -/
def gLive (l : FuncId) (f : FuncId) (args : List V) (h : Heap) : Option (V × Heap) :=
  match args with
  | [] => cond (Nat.beq f l) (some (.one (.lit (.bool true)), h)) none
  | _ => none

def gLiveS (l : FuncId) (f : FuncId) (args : List V) (h : Heap) (K : Know) : Ways (V × Heap) :=
  match args with
  | [] => cond (Nat.beq f l) (some [(K, (.one (.lit (.bool true)), h))]) none
  | _ => none

theorem gLive_ok {l : FuncId} (hl : isTrue (callN Try.prog X0 FT 100 100 l [] ⟨0, []⟩) = true) : GOk Try.prog (gLive l) := fun f args h v h' e => by
  unfold gLive at e
  split at e
  · cases hf : Nat.beq f l with
    | false => rw [hf] at e; cases e
    | true =>
      rw [hf, cond_true, Option.some.injEq, Prod.mk.injEq] at e
      obtain ⟨rfl, rfl⟩ := e
      have := Nat.eq_of_beq_eq_true hf
      subst this
      obtain ⟨h', hr⟩ := isTrue_some hl
      obtain ⟨_, h2, hc⟩ := gok 100 100 _ _ _ _ _ hr
      refine ⟨Nat.le_refl _, h2, fun β w xs hH hxs => ?_⟩
      have hx : xs = [] := by cases xs with
        | nil => rfl
        | cons _ _ => exact hxs.elim
      subst hx
      refine (hc (fun _ => none) w [] ⟨fun _ _ => rfl, (fun b x e => by cases e), (fun b b' x x' p p' _ e => by cases e)⟩ trivial).mono fun e w' he => ?_
      obtain ⟨x, β', rfl, hv, _, hst, _⟩ := he
      have hfr : ∀ r, r < w.heap.size → w'.heap[r]? = w.heap[r]? := fun r hr => hst.fr r hr fun hm => by
        rcases hm with ⟨b, x, p, e1, e2, _⟩ | ⟨t, cs, e1, _⟩
        · cases e1
        · cases e1
      refine ⟨x, β, rfl, ?_, ⟨hH.fresh, fun b y hy => ?_, hH.apart⟩, ⟨fun _ _ h => h, hst.os, hst.tape, hst.output, hst.size, fun r hr _ => hfr r hr, fun r hm => .inl hm, fun b y p h1 h2 => .inl ⟨b, y, p, h1, h2, rfl⟩⟩, fun _ _ => rfl⟩
      · have hx : x = .bool true := hv
        subst hx
        rfl
      · obtain ⟨p, h1, h2⟩ := hH.blk b y hy
        exact ⟨p, h1, h2.up (fun _ _ h => h) (hfr p.rb h2.lt)⟩
  · cases e

theorem gLiveS_ok {ρ : Env} {l : FuncId} : GSok ρ (gLive l) (gLiveS l) := fun f args h K hK => by
  unfold gLiveS gLive
  cases args with
  | nil =>
    simp only [List.map_nil]
    cases Nat.beq f l with
    | false => exact Snd.none
    | true => exact Snd.one hK (by rw [V.den_free (ρ := ρ) (v := .one (.lit (.bool true))) rfl]; rfl)
  | cons _ _ => exact Snd.none
end E
end Go.Proofs.Ytnfehccnofhmnaa
