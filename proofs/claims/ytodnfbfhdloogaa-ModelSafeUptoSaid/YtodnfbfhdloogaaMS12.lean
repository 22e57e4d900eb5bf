/-
  The model in plain Lean: letters, the responder's table, the exchange and its moves. No condition.
-/
import Derived.Test.YtodnfbfhdloogaaMS11
set_option linter.all false
namespace Go.Proofs.Ytodnfbfhdloogaa

instance : DecidableEq Lt := fun a b => decidable_of_iff (a.k = b.k ∧ a.f = b.f ∧ a.c = b.c ∧ a.t = b.t ∧ a.b = b.b) (by cases a; cases b; simp)

theorem lEq_lt (a b : Lt) : lEq a.k a.f a.c a.t a.b b.k b.f b.c b.t b.b = decide (a = b) := by
  cases a; cases b; simp [lEq]

/-- A letter's error. -/
def lchk (l : Lt) : Int :=
  if l.k < 1 ∨ 7 < l.k then 110
  else if ¬ (l.f = 0 ∨ l.f = 1) then 110
  else if ¬ (l.k = 1 ∨ l.k = 2 ∨ l.k = 4) ∧ l.f ≠ 0 then 110
  else if ¬ (l.k = 1 ∨ l.k = 2 ∨ l.k = 4 ∨ l.k = 6) ∧ l.t ≠ { data := #[] } then 110
  else if ¬ (l.k = 1 ∨ l.k = 4) ∧ l.b = true then 110
  else if 64 < l.t.size then 1
  else 0

theorem lchk_size {l : Lt} (h : lchk l = 0) : l.t.size ≤ 64 ∧ (l.f = 0 ∨ l.f = 1) ∧ 1 ≤ l.k ∧ l.k ≤ 7 ∧ (l.b = true → l.k = 1 ∨ l.k = 4) := by
  unfold lchk at h
  repeat' (split at h; (first | (exact absurd h (by decide)) | skip))
  rename_i h1 h2 h3 h4 h5 h6
  refine ⟨by omega, by omega, by omega, by omega, fun hb => ?_⟩
  by_cases hk : l.k = 1 ∨ l.k = 4
  · exact hk
  · exact absurd ⟨hk, hb⟩ h5

theorem lchk_ok {k f c : Int} {t : ByteArray} (hk : k = 1 ∨ k = 2 ∨ k = 4 ∨ (k = 6 ∧ f = 0) ∨ ((k = 3 ∨ k = 5 ∨ k = 7) ∧ f = 0 ∧ t = { data := #[] })) (hf : f = 0 ∨ f = 1) (ht : t.size ≤ 64) : lchk ⟨k, f, c, t, false⟩ = 0 := by
  unfold lchk
  simp only
  rw [if_neg (by omega), if_neg (by omega), if_neg (by omega), if_neg ?_, if_neg (by simp), if_neg (by omega)]
  rintro ⟨h1, h2⟩
  rcases hk with h | h | h | h | ⟨_, _, h⟩
  · omega
  · omega
  · omega
  · omega
  · exact h2 h

/-- The responder's table. -/
def rsA (c : Int) (t : ByteArray) : Lt := ⟨4, 1, c, t, false⟩
def chkA (s : St) : Bool :=
  decide (s.r = 1 ∧ s.t.size ≤ 64) &&
    (if s.ph = 0 then decide (s.t = { data := #[] }) && decide (s.p = l0)
     else if s.ph = 1 ∨ s.ph = 2 ∨ s.ph = 5 ∨ s.ph = 7 then decide (s.p = l0)
     else if s.ph = 6 then decide (s.p = sgS s.c s.t 0) || decide (s.p = inS s.c s.t)
     else false)
def toldA (s : St) (l : Lt) : Int :=
  if lchk l ≠ 0 ∨ l.b = true ∨ l.c ≠ s.c then 0
  else if l = prS s.c s.t 0 ∨ l = sgS s.c s.t 0 ∨ l = inS s.c s.t ∨ l = tkS s.c then l.k
  else 0
def takesA (s : St) (l : Lt) : St × List Ou :=
  if s.ph = 1 then (if toldA s l = 1 then (⟨s.r, s.c, s.t, 2, s.p⟩, [⟨0, prS s.c s.t 1⟩]) else (s, []))
  else if s.ph = 5 then
    (if toldA s l = 6 then (⟨s.r, s.c, s.t, 6, l⟩, []) else if toldA s l = 5 then (⟨s.r, s.c, s.t, 7, s.p⟩, [])
     else if toldA s l = 2 then (⟨s.r, s.c, s.t, 6, l⟩, [⟨0, sgS s.c s.t 1⟩]) else (s, []))
  else if s.ph = 2 then
    (if toldA s l = 2 then (⟨s.r, s.c, s.t, 6, l⟩, [⟨0, sgS s.c s.t 1⟩]) else if toldA s l = 1 then (s, [⟨0, prS s.c s.t 1⟩]) else (s, []))
  else if s.ph = 6 then (if toldA s l = 2 then (s, [⟨0, sgS s.c s.t 1⟩]) else (s, []))
  else (s, [])
def ticksA (s : St) : St × List Ou :=
  if s.ph = 1 then (⟨s.r, s.c, s.t, 7, s.p⟩, [])
  else if s.ph = 2 ∨ s.ph = 5 then (⟨s.r, s.c, s.t, 5, s.p⟩, [⟨2, rsA s.c s.t⟩])
  else (s, [])
def stepA (s : St) (e : Ev) : St × List Ou :=
  if chkA s = true then
    if e.k = 2 then takesA s e.l
    else if e.c = s.c then
      if e.k = 3 then ticksA s
      else if e.k = 1 ∧ s.ph = 0 ∧ e.t.size ≤ 64 then (⟨s.r, s.c, e.t, 1, s.p⟩, []) else (s, [])
    else (s, [])
  else (s, [])
def finA (s : St) : Bool := chkA s && (s.ph == 6 || s.ph == 7)

/-- Verdicts. -/
structure Vd where
  c : Int
  k : Int
  t : ByteArray
instance : DecidableEq Vd := fun a b => decidable_of_iff (a.c = b.c ∧ a.k = b.k ∧ a.t = b.t) (by cases a; cases b; simp)
def v0 : Vd := ⟨0, 0, { data := #[] }⟩
def saysS (v : Vd) : Option Lt :=
  if v.k = 1 ∧ v.t = { data := #[] } then some ⟨5, 0, v.c, { data := #[] }, false⟩
  else if v.k = 2 ∧ v.t.size ≤ 64 then some ⟨6, 0, v.c, v.t, false⟩
  else none

/-- An exchange; a move. -/
structure Ex where
  c : Int
  s0 : St
  s1 : St
  v : Vd
  b0 : Bool
  b1 : Bool
  full : Bool
  h : List Lt
structure Mv where
  k : Int
  who : Int
  t : ByteArray
  l : Lt
  lost : Bool

def Ex.bad (x : Ex) (who : Int) : Bool := if who = 0 then x.b0 else x.b1
def Ex.st (x : Ex) (who : Int) : St := if who = 0 then x.s0 else x.s1

def newX (c : Int) : Ex := ⟨c, ⟨0, c, { data := #[] }, 0, l0⟩, ⟨1, c, { data := #[] }, 0, l0⟩, v0, false, false, false, []⟩

def wishS (h : List Lt) (l : Lt) : Bool := h.any fun x => x.k == 4 && (x.b == l.b && decide (x.t = l.t))
/-- Can a promise be said? -/
def canP (x : Ex) (l : Lt) : Bool :=
  if lchk l ≠ 0 ∨ l.c ≠ x.c then false
  else if l ∈ x.h then true
  else x.bad (if l.b = true then 1 - l.f else l.f) || wishS x.h l
def canS (x : Ex) (l : Lt) : Bool :=
  if lchk l ≠ 0 ∨ l.c ≠ x.c then false
  else if l ∈ x.h then true
  else if l.k = 1 then x.bad (if l.b = true then 1 - l.f else l.f) || wishS x.h l
  else if l.k = 2 then x.bad l.f
  else if l.k = 3 then x.b0
  else if l.k = 4 then x.bad l.f && (canP x ⟨1, 0, l.c, l.t, l.b⟩ && canP x ⟨1, 1, l.c, l.t, l.b⟩)
  else decide (l.k = 7)

def hearS (h : List Lt) (lost : Bool) (l : Lt) : List Lt := if lost = true ∨ l ∈ h then h else h ++ [l]
def hearsS (h : List Lt) (lost : Bool) (ls : List Lt) : List Lt := ls.foldl (fun h l => hearS h lost l) h

def askV (x : Ex) (l : Lt) : Vd := if x.v.k = 0 ∧ x.full = false then (if l.k = 4 ∧ l.b = false then ⟨x.c, 2, l.t⟩ else ⟨x.c, 1, { data := #[] }⟩) else x.v
def tellS (c : Int) (v : Vd) : Lt := (saysS v).getD ⟨7, 0, c, { data := #[] }, false⟩
def askX (x : Ex) (m : Mv) : Ex :=
  if (m.l.k = 4 ∧ m.l.b = false) ∨ m.l.k = 3 then { x with v := askV x m.l, h := hearS x.h m.lost (tellS x.c (askV x m.l)) }
  else x

/-- The event of a move. -/
def evX (x : Ex) (m : Mv) : Ev :=
  if m.k = 1 then ⟨1, x.c, m.t, l0⟩ else if m.k = 2 then ⟨2, x.c, { data := #[] }, m.l⟩ else ⟨3, x.c, { data := #[] }, l0⟩
def partyX (x : Ex) (m : Mv) : Ex :=
  if m.who = 0 then { x with s0 := (stepS x.s0 (evX x m)).1, h := hearsS x.h m.lost ((stepS x.s0 (evX x m)).2.map (·.l)) }
  else { x with s1 := (stepA x.s1 (evX x m)).1, h := hearsS x.h m.lost ((stepA x.s1 (evX x m)).2.map (·.l)) }
def stepX (x : Ex) (m : Mv) : Ex × Bool :=
  if m.k = 4 then (if canS x m.l = true then (askX x m, true) else (x, false))
  else if m.k = 6 then ({ x with full := true }, true)
  else if m.who = 0 ∨ m.who = 1 then
    if m.k = 5 then ((if m.who = 0 then { x with b0 := true } else { x with b1 := true }), true)
    else if m.k = 1 ∨ m.k = 3 ∨ (m.k = 2 ∧ canS x m.l = true) then
      if x.bad m.who = true then (x, false) else (partyX x m, true)
    else (x, false)
  else (x, false)

/-- What an exchange is. -/
def saysOk (v : Vd) : Bool := (saysS v).isSome
def checkX (x : Ex) : Bool :=
  chkS x.s0 && (chkA x.s1 && (decide (x.s0.c = x.c) && (decide (x.s1.c = x.c) && ((decide (x.v = v0) || (saysOk x.v && decide (x.v.c = x.c))) && decide ((∀ l ∈ x.h, lchk l = 0 ∧ l.c = x.c) ∧ x.h.Nodup)))))
def boundX (x : Ex) (who : Int) : List Lt := x.h.filter fun l => (l.k == 2 && l.f == who) || l.k == 6
def saidX (x : Ex) : Lt := (saysS x.v).getD l0
def holds1 (x : Ex) : Bool := (!x.b0 && (x.s0.ph == 7 && decide (0 < (boundX x 0).length))) || (!x.b1 && (x.s1.ph == 7 && decide (0 < (boundX x 1).length)))
def holds2 (x : Ex) : Bool := (!x.b0 && (x.s0.ph == 6 && !canS x x.s0.p)) || (!x.b1 && (x.s1.ph == 6 && !canS x x.s1.p))
def holds3 (x : Ex) : Bool := x.h.any (·.k == 5) && x.h.any (·.k == 6)
def holds4 (x : Ex) : Bool := (!x.b0 && !x.b1) && ((x.s0.ph == 6 && x.s1.ph == 7) || (x.s0.ph == 7 && x.s1.ph == 6))
def holds5 (x : Ex) : Bool := x.h.any fun l => (l.k == 5 || l.k == 6) && !decide (l = saidX x)
def okX (x : Ex) : Bool := !(holds1 x || (holds2 x || (holds3 x || (holds4 x || holds5 x))))
def finX (x : Ex) (who : Int) : Bool := if who = 0 then finS x.s0 else if who = 1 then finA x.s1 else false
end Go.Proofs.Ytodnfbfhdloogaa

/-
  Plain laws of the exchange: whatever moves lead from the beginning, nothing is broken. No condition.
-/
namespace Go.Proofs.Ytodnfbfhdloogaa

/-- What a step of the originator can be. -/
inductive EdgeO (s : St) (e : Ev) : St × List Ou → Prop
  | same : EdgeO s e (s, [])
  | start (h0 : s.ph = 0) (ht : e.t.size ≤ 64) : EdgeO s e (⟨s.r, s.c, e.t, 2, s.p⟩, [⟨1, prS s.c e.t 0⟩])
  | sign (h0 : s.ph = 2 ∨ s.ph = 3) (hk : e.k = 2) (hl : e.l = prS s.c s.t 1) : EdgeO s e (⟨s.r, s.c, s.t, 3, s.p⟩, [⟨1, sgS s.c s.t 0⟩])
  | abort (h0 : s.ph = 2 ∨ s.ph = 4) : EdgeO s e (⟨s.r, s.c, s.t, 4, s.p⟩, [⟨2, abS s.c⟩])
  | resolve (h0 : s.ph = 3 ∨ s.ph = 5) : EdgeO s e (⟨s.r, s.c, s.t, 5, s.p⟩, [⟨2, rsS s.c s.t⟩])
  | signed (h0 : s.ph = 3 ∨ s.ph = 5) (hk : e.k = 2) (hl : e.l = sgS s.c s.t 1) : EdgeO s e (⟨s.r, s.c, s.t, 6, e.l⟩, [])
  | token (h0 : s.ph = 4) (hk : e.k = 2) (hl : e.l = tkS s.c) : EdgeO s e (⟨s.r, s.c, s.t, 7, s.p⟩, [])
  | instead (h0 : s.ph = 4 ∨ s.ph = 5) (hk : e.k = 2) (hl : e.l = inS s.c s.t) : EdgeO s e (⟨s.r, s.c, s.t, 6, e.l⟩, [])

theorem lt_eta {a b : Lt} (h : lEq a.k a.f a.c a.t a.b b.k b.f b.c b.t b.b = true) : a = b := by
  rw [lEq_lt] at h; simpa using h

theorem edge_o (s : St) (e : Ev) : EdgeO s e (stepS s e) := by
  by_cases hc : chkS s = true
  · by_cases h0 : s.ph = 0
    · unfold stepS
      rw [if_pos hc, if_pos h0]
      split
      · rename_i h
        exact .start h0 h.2.2
      · exact .same
    · rcases step_cases s e with h1 | ⟨h1, _⟩ | ⟨x, hx, _, _, ht, h1⟩
      · rw [h1]; exact .same
      · exact absurd h1 h0
      · rw [h1]
        have key : ∀ l : Lt, takesS false l.k l.f l.c l.t l.b s.c e.k e.c e.l.k e.l.f e.l.c e.l.t e.l.b = true → e.k = 2 ∧ e.l = l := fun l h => by
          unfold takesS at h
          simp only [Bool.false_eq_true, if_false, Bool.and_eq_true, decide_eq_true_eq] at h
          exact ⟨h.1, lt_eta h.2⟩
        have fin : ∀ l : Lt, e.l = l → (⟨s.r, s.c, s.t, 6, l⟩ : St) = ⟨s.r, s.c, s.t, 6, e.l⟩ := fun l h => by rw [h]
        rcases rows_mem hx with ⟨hp, hr⟩ | ⟨hp, hr⟩ | ⟨hp, hr⟩ | ⟨hp, hr⟩
        · rcases hr with rfl | rfl
          · obtain ⟨hk, hl⟩ := key _ ht
            exact .sign (.inl hp) hk hl
          · exact .abort (.inl hp)
        · rcases hr with rfl | rfl | rfl
          · obtain ⟨hk, hl⟩ := key _ ht
            exact .sign (.inr hp) hk hl
          · obtain ⟨hk, hl⟩ := key _ ht
            have := EdgeO.signed (s := s) (e := e) (.inl hp) hk hl
            rw [hl] at this
            exact this
          · exact .resolve (.inl hp)
        · rcases hr with rfl | rfl | rfl
          · exact .abort (.inr hp)
          · obtain ⟨hk, hl⟩ := key _ ht
            exact .token hp hk hl
          · obtain ⟨hk, hl⟩ := key _ ht
            have := EdgeO.instead (s := s) (e := e) (.inl hp) hk hl
            rw [hl] at this
            exact this
        · rcases hr with rfl | rfl | rfl
          · exact .resolve (.inr hp)
          · obtain ⟨hk, hl⟩ := key _ ht
            have := EdgeO.signed (s := s) (e := e) (.inr hp) hk hl
            rw [hl] at this
            exact this
          · obtain ⟨hk, hl⟩ := key _ ht
            have := EdgeO.instead (s := s) (e := e) (.inr hp) hk hl
            rw [hl] at this
            exact this
  · have : stepS s e = (s, []) := stepS_A s e (by simpa using hc)
    rw [this]; exact .same

/-- What a step of the responder can be. -/
inductive EdgeA (s : St) (e : Ev) : St × List Ou → Prop
  | same : EdgeA s e (s, [])
  | start (h0 : s.ph = 0) (ht : e.t.size ≤ 64) : EdgeA s e (⟨s.r, s.c, e.t, 1, s.p⟩, [])
  | promise (h0 : s.ph = 1) : EdgeA s e (⟨s.r, s.c, s.t, 2, s.p⟩, [⟨0, prS s.c s.t 1⟩])
  | again (h0 : s.ph = 2) : EdgeA s e (s, [⟨0, prS s.c s.t 1⟩])
  | signed (h0 : s.ph = 2 ∨ s.ph = 5) (hk : e.k = 2) (hl : e.l = sgS s.c s.t 0) : EdgeA s e (⟨s.r, s.c, s.t, 6, e.l⟩, [⟨0, sgS s.c s.t 1⟩])
  | told (h0 : s.ph = 6) : EdgeA s e (s, [⟨0, sgS s.c s.t 1⟩])
  | instead (h0 : s.ph = 5) (hk : e.k = 2) (hl : e.l = inS s.c s.t) : EdgeA s e (⟨s.r, s.c, s.t, 6, e.l⟩, [])
  | token (h0 : s.ph = 5) (hk : e.k = 2) (hl : e.l = tkS s.c) : EdgeA s e (⟨s.r, s.c, s.t, 7, s.p⟩, [])
  | quit (h0 : s.ph = 1) : EdgeA s e (⟨s.r, s.c, s.t, 7, s.p⟩, [])
  | resolve (h0 : s.ph = 2 ∨ s.ph = 5) : EdgeA s e (⟨s.r, s.c, s.t, 5, s.p⟩, [⟨2, rsA s.c s.t⟩])

theorem told_of {s : St} {l : Lt} {k : Int} (h : toldA s l = k) (hk : k ≠ 0) : l.k = k ∧ (l = prS s.c s.t 0 ∨ l = sgS s.c s.t 0 ∨ l = inS s.c s.t ∨ l = tkS s.c) := by
  unfold toldA at h
  split at h
  · exact absurd h.symm hk
  · split at h
    · exact ⟨h, ‹_›⟩
    · exact absurd h.symm hk

theorem told_2 {s : St} {l : Lt} (h : toldA s l = 2) : l = sgS s.c s.t 0 := by
  obtain ⟨hk, h1 | h1 | h1 | h1⟩ := told_of h (by decide)
  · rw [h1] at hk; exact absurd hk (by simp [prS])
  · exact h1
  · rw [h1] at hk; exact absurd hk (by simp [inS])
  · rw [h1] at hk; exact absurd hk (by simp [tkS])
theorem told_6 {s : St} {l : Lt} (h : toldA s l = 6) : l = inS s.c s.t := by
  obtain ⟨hk, h1 | h1 | h1 | h1⟩ := told_of h (by decide)
  · rw [h1] at hk; exact absurd hk (by simp [prS])
  · rw [h1] at hk; exact absurd hk (by simp [sgS])
  · exact h1
  · rw [h1] at hk; exact absurd hk (by simp [tkS])
theorem told_5 {s : St} {l : Lt} (h : toldA s l = 5) : l = tkS s.c := by
  obtain ⟨hk, h1 | h1 | h1 | h1⟩ := told_of h (by decide)
  · rw [h1] at hk; exact absurd hk (by simp [prS])
  · rw [h1] at hk; exact absurd hk (by simp [sgS])
  · rw [h1] at hk; exact absurd hk (by simp [inS])
  · exact h1

theorem edge_a (s : St) (e : Ev) : EdgeA s e (stepA s e) := by
  unfold stepA
  split
  · split
    · rename_i hk
      unfold takesA
      split
      · split
        · exact .promise ‹_›
        · exact .same
      · split
        · split
          · exact .instead ‹_› hk (told_6 ‹_›)
          · split
            · exact .token ‹_› hk (told_5 ‹_›)
            · split
              · exact .signed (.inr ‹_›) hk (told_2 ‹_›)
              · exact .same
        · split
          · split
            · exact .signed (.inl ‹_›) hk (told_2 ‹_›)
            · split
              · exact .again ‹_›
              · exact .same
          · split
            · split
              · exact .told ‹_›
              · exact .same
            · exact .same
    · split
      · split
        · unfold ticksA
          split
          · exact .quit ‹_›
          · split
            · exact .resolve ‹_›
            · exact .same
        · split
          · rename_i h
            exact .start h.2.1 h.2.2
          · exact .same
      · exact .same
  · exact .same

/-- What is said of the letters that were heard. -/
structure HeardOk (x : Ex) (l : Lt) : Prop where
  c : l.c = x.c
  chk : lchk l = 0
  b : l.b = false
  f : l.f = 0 ∨ l.f = 1
  own : l.k = 1 ∨ l.k = 2 ∨ l.k = 4 → l.t = (x.st l.f).t ∧ (x.st l.f).ph ≠ 0
  tok : l.k = 5 → x.v = ⟨x.c, 1, { data := #[] }⟩ ∧ l = tkS x.c
  ins : l.k = 6 → x.v = ⟨x.c, 2, l.t⟩ ∧ l = inS x.c l.t

/-- The responder has promised, or nobody can tell. -/
def Q1 (x : Ex) : Prop := x.b1 = true ∨ x.s1.ph = 2 ∨ x.s1.ph = 5 ∨ x.s1.ph = 6 ∨ (x.s1.ph = 7 ∧ x.v.k = 1)

structure Inv2 (cn : Int) (x : Ex) : Prop where
  c : x.c = cn
  c0 : x.s0.c = cn
  c1 : x.s1.c = cn
  k0 : chkS x.s0 = true
  k1 : chkA x.s1 = true
  v : x.v = v0 ∨ x.v = ⟨cn, 1, { data := #[] }⟩ ∨ (x.v.c = cn ∧ x.v.k = 2 ∧ x.v.t.size ≤ 64)
  nd : x.h.Nodup
  h : ∀ l ∈ x.h, HeardOk x l
  p0 : ∀ l ∈ x.h, l.k = 2 → l.f = 0 → x.b0 = true ∨ x.s0.ph = 3 ∨ x.s0.ph = 5 ∨ x.s0.ph = 6
  p1 : ∀ l ∈ x.h, l.k = 2 → l.f = 1 → x.b1 = true ∨ x.s1.ph = 6
  q1 : ∀ l ∈ x.h, (l.k = 1 ∧ l.f = 1) ∨ l.k = 4 → Q1 x
  r0 : x.s0.ph = 3 ∨ x.s0.ph = 5 → Q1 x
  qv : x.v.k = 2 → Q1 x
  f0 : x.b0 = false → x.s0.ph = 6 → canS x x.s0.p = true
  f1 : x.b1 = false → x.s1.ph = 6 → canS x x.s1.p = true
  a0 : x.b0 = false → x.s0.ph = 7 → x.v.k = 1

theorem inv2_new (c : Int) : Inv2 c (newX c) := by
  refine ⟨rfl, rfl, rfl, ?_, ?_, .inl rfl, List.nodup_nil, ?_, ?_, ?_, ?_, ?_, ?_, ?_, ?_, ?_⟩
  · simp [newX, chkS, chk, lEq, l0, ByteArray.toList_eq, ByteArray.size]
  · simp [newX, chkA, ByteArray.size]
  · intro l hl; cases hl
  · intro l hl; cases hl
  · intro l hl; cases hl
  · intro l hl; cases hl
  · intro h; simp [newX] at h
  · intro h; simp [newX, v0] at h
  · intro _ h; simp [newX] at h
  · intro _ h; simp [newX] at h
  · intro _ h; simp [newX] at h

/-- What can be said can be said behind whatever comes to be heard, and to be corrupted. -/
structure Grows (x y : Ex) : Prop where
  c : y.c = x.c
  h : ∀ l ∈ x.h, l ∈ y.h
  b0 : x.b0 = true → y.b0 = true
  b1 : x.b1 = true → y.b1 = true

theorem Grows.bad {x y : Ex} (g : Grows x y) {n : Int} (h : x.bad n = true) : y.bad n = true := by
  unfold Ex.bad at *
  split <;> simp_all [g.b0, g.b1]
  all_goals first | exact g.b0 h | exact g.b1 h

theorem Grows.wish {x y : Ex} (g : Grows x y) {l : Lt} (h : wishS x.h l = true) : wishS y.h l = true := by
  unfold wishS at *
  rw [List.any_eq_true] at *
  obtain ⟨z, hz, h⟩ := h
  exact ⟨z, g.h z hz, h⟩

theorem Grows.canP {x y : Ex} (g : Grows x y) {l : Lt} (h : canP x l = true) : canP y l = true := by
  unfold Proofs.Ytodnfbfhdloogaa.canP at *
  rw [g.c]
  split at h
  · cases h
  · rename_i h1
    rw [if_neg h1]
    split at h
    · rename_i h2
      rw [if_pos (g.h _ h2)]
    · split
      · rfl
      · simp only [Bool.or_eq_true] at h ⊢
        exact h.imp g.bad g.wish

theorem Grows.canS {x y : Ex} (g : Grows x y) {l : Lt} (h : canS x l = true) : canS y l = true := by
  unfold Proofs.Ytodnfbfhdloogaa.canS at *
  rw [g.c]
  split at h
  · cases h
  · rename_i h1
    rw [if_neg h1]
    split at h
    · rename_i h2
      rw [if_pos (g.h _ h2)]
    · split
      · rfl
      · split at h
        · rename_i hk
          rw [if_pos hk]
          simp only [Bool.or_eq_true] at h ⊢
          exact h.imp g.bad g.wish
        · rename_i k1
          rw [if_neg k1]
          split at h
          · rename_i hk
            rw [if_pos hk]; exact g.bad h
          · rename_i k2
            rw [if_neg k2]
            split at h
            · rename_i hk
              rw [if_pos hk]; exact g.b0 h
            · rename_i k3
              rw [if_neg k3]
              split at h
              · rename_i hk
                rw [if_pos hk]
                simp only [Bool.and_eq_true] at h ⊢
                exact ⟨g.bad h.1, g.canP h.2.1, g.canP h.2.2⟩
              · rename_i k4
                rw [if_neg k4]; exact h

theorem grows_refl (x : Ex) : Grows x x := ⟨rfl, fun _ h => h, id, id⟩

theorem mem_hear {h : List Lt} {lost : Bool} {l z : Lt} : z ∈ hearS h lost l ↔ z ∈ h ∨ (z = l ∧ lost = false) := by
  unfold hearS
  split
  · rename_i hc
    refine ⟨.inl, fun hz => hz.elim id fun ⟨e, hl⟩ => ?_⟩
    subst e
    rcases hc with hc | hc
    · rw [hl] at hc; cases hc
    · exact hc
  · rename_i hc
    simp only [List.mem_append, List.mem_singleton]
    refine ⟨fun hz => hz.imp id fun e => ⟨e, ?_⟩, fun hz => hz.imp id fun e => e.1⟩
    cases lost
    · rfl
    · exact absurd (.inl rfl) hc

theorem nodup_hear {h : List Lt} {lost : Bool} {l : Lt} (hn : h.Nodup) : (hearS h lost l).Nodup := by
  unfold hearS
  split
  · exact hn
  · rename_i hc
    rw [List.nodup_append]
    refine ⟨hn, by simp, fun a ha b hb => ?_⟩
    rw [List.mem_singleton] at hb
    rintro rfl
    subst hb
    exact hc (.inr ha)

theorem hears_nil (h : List Lt) (lost : Bool) : hearsS h lost [] = h := rfl
theorem hears_one (h : List Lt) (lost : Bool) (l : Lt) : hearsS h lost [l] = hearS h lost l := rfl

/-- What can be said of a promise, a signature, a verdict. -/
theorem can_sign {x : Ex} {l : Lt} (hl : l.k = 2) (h : canS x l = true) : l ∈ x.h ∨ x.bad l.f = true := by
  unfold canS at h
  split at h
  · cases h
  · split at h
    · exact .inl ‹_›
    · simp [hl] at h
      exact .inr h
theorem can_told {x : Ex} {l : Lt} (hl : l.k = 5 ∨ l.k = 6) (h : canS x l = true) : l ∈ x.h := by
  unfold canS at h
  split at h
  · cases h
  · split at h
    · exact ‹l ∈ x.h›
    · rcases hl with hl | hl <;> simp [hl] at h

theorem Inv2.wish {c : Int} {x : Ex} (i : Inv2 c x) {l : Lt} (h : wishS x.h l = true) : Q1 x := by
  unfold wishS at h
  rw [List.any_eq_true] at h
  obtain ⟨z, hz, h⟩ := h
  simp only [Bool.and_eq_true, beq_iff_eq] at h
  exact i.q1 z hz (.inr h.1)

theorem Inv2.promise {c : Int} {x : Ex} (i : Inv2 c x) {l : Lt} (hk : l.k = 1) (hf : l.f = 1) (hb : l.b = false) (h : canP x l = true) : Q1 x := by
  unfold canP at h
  split at h
  · cases h
  · split at h
    · exact i.q1 l ‹_› (.inl ⟨hk, hf⟩)
    · simp only [Bool.or_eq_true] at h
      rcases h with h | h
      · rw [hb, if_neg (by simp), hf] at h
        exact .inl h
      · exact i.wish h

theorem canS_promise {x : Ex} {l : Lt} (hk : l.k = 1) (h : canS x l = true) : canP x l = true := by
  unfold canS at h
  unfold canP
  split at h
  · cases h
  · rename_i h1
    rw [if_neg h1]
    split at h
    · rename_i h2
      rw [if_pos h2]
    · rename_i h2
      rw [if_neg h2]
      simpa [hk] using h

theorem Inv2.resolve {c : Int} {x : Ex} (i : Inv2 c x) {l : Lt} (hk : l.k = 4) (hb : l.b = false) (h : canS x l = true) : Q1 x := by
  unfold canS at h
  split at h
  · cases h
  · split at h
    · exact i.q1 l ‹_› (.inr hk)
    · simp [hk] at h
      exact i.promise (l := ⟨1, 1, l.c, l.t, l.b⟩) rfl rfl hb h.2.2

theorem canS_chk {x : Ex} {l : Lt} (h : canS x l = true) : lchk l = 0 ∧ l.c = x.c := by
  unfold canS at h
  split at h
  · cases h
  · rename_i h1
    exact ⟨Decidable.byContradiction fun hn => h1 (.inl hn), Decidable.byContradiction fun hn => h1 (.inr hn)⟩
end Go.Proofs.Ytodnfbfhdloogaa

/-
  Plain laws of the exchange: the invariant holds behind each move. No condition.
-/
namespace Go.Proofs.Ytodnfbfhdloogaa

/-- What must be known of a party's new state and of what it sends. -/
structure Ok0 (x : Ex) (s' : St) (ls : List Lt) : Prop where
  c : s'.c = x.s0.c
  k : chkS s' = true
  t : x.s0.ph ≠ 0 → s'.t = x.s0.t ∧ s'.ph ≠ 0
  h : ∀ l ∈ ls, l.c = x.c ∧ lchk l = 0 ∧ l.b = false ∧ l.f = 0 ∧ l.k ≠ 5 ∧ l.k ≠ 6 ∧ (l.k = 1 ∨ l.k = 2 ∨ l.k = 4 → l.t = s'.t ∧ s'.ph ≠ 0)
  p0 : ∀ l ∈ ls, l.k = 2 → s'.ph = 3 ∨ s'.ph = 5 ∨ s'.ph = 6
  p0' : x.s0.ph = 3 ∨ x.s0.ph = 5 ∨ x.s0.ph = 6 → s'.ph = 3 ∨ s'.ph = 5 ∨ s'.ph = 6
  q1 : ∀ l ∈ ls, l.k = 4 → Q1 x
  r0 : s'.ph = 3 ∨ s'.ph = 5 → Q1 x
  f0 : s'.ph = 6 → canS x s'.p = true
  a0 : s'.ph = 7 → x.v.k = 1

theorem mem_hears {lost : Bool} {z : Lt} : ∀ {ls h : List Lt}, z ∈ hearsS h lost ls → z ∈ h ∨ z ∈ ls
  | [], _, hz => .inl hz
  | l :: ls, h, hz => by
    have hz : z ∈ hearsS (hearS h lost l) lost ls := hz
    rcases mem_hears hz with h1 | h1
    · rcases mem_hear.1 h1 with h2 | h2
      · exact .inl h2
      · exact .inr (by rw [h2.1]; exact List.mem_cons_self)
    · exact .inr (List.mem_cons_of_mem _ h1)
theorem hears_old {lost : Bool} {z : Lt} : ∀ {ls h : List Lt}, z ∈ h → z ∈ hearsS h lost ls
  | [], _, hz => hz
  | l :: ls, h, hz => hears_old (ls := ls) (h := hearS h lost l) (mem_hear.2 (.inl hz))
theorem nodup_hears {lost : Bool} : ∀ {ls h : List Lt}, h.Nodup → (hearsS h lost ls).Nodup
  | [], _, hn => hn
  | l :: ls, h, hn => nodup_hears (ls := ls) (h := hearS h lost l) (nodup_hear hn)

theorem inv_party0 {cn : Int} {x : Ex} (i : Inv2 cn x) (hb : x.b0 = false) {s' : St} {ls : List Lt} {lost : Bool} (o : Ok0 x s' ls) : Inv2 cn { x with s0 := s', h := hearsS x.h lost ls } ∧ Grows x { x with s0 := s', h := hearsS x.h lost ls } := by
  have g : Grows x { x with s0 := s', h := hearsS x.h lost ls } := ⟨rfl, fun _ h => hears_old h, id, id⟩
  have hq : Q1 x → Q1 { x with s0 := s', h := hearsS x.h lost ls } := id
  refine ⟨⟨i.c, o.c.trans i.c0, i.c1, o.k, i.k1, i.v, nodup_hears i.nd, ?_, ?_, ?_, ?_, fun h => hq (o.r0 h), fun h => hq (i.qv h), fun _ h => g.canS (o.f0 h), fun h1 h => g.canS (i.f1 h1 h), fun _ h => o.a0 h⟩, g⟩
  · intro l hl
    rcases mem_hears hl with h1 | h1
    · have := i.h l h1
      refine ⟨this.c, this.chk, this.b, this.f, fun hk => ?_, this.tok, this.ins⟩
      have h2 := this.own hk
      rcases this.f with hf | hf
      · rw [hf] at h2 ⊢
        have h2 : l.t = x.s0.t ∧ x.s0.ph ≠ 0 := h2
        obtain ⟨h3, h4⟩ := o.t h2.2
        exact ⟨h2.1.trans h3.symm, h4⟩
      · rw [hf] at h2 ⊢
        exact h2
    · obtain ⟨a1, a2, a3, a4, a5, a6, a7⟩ := o.h l h1
      refine ⟨a1, a2, a3, .inl a4, fun hk => ?_, fun hk => absurd hk a5, fun hk => absurd hk a6⟩
      rw [a4]
      exact a7 hk
  · intro l hl hk hf
    rcases mem_hears hl with h1 | h1
    · rcases i.p0 l h1 hk hf with h2 | h2
      · rw [hb] at h2; cases h2
      · exact .inr (o.p0' h2)
    · exact .inr (o.p0 l h1 hk)
  · intro l hl hk hf
    rcases mem_hears hl with h1 | h1
    · exact i.p1 l h1 hk hf
    · have := (o.h l h1).2.2.2.1
      omega
  · intro l hl hk
    rcases mem_hears hl with h1 | h1
    · exact hq (i.q1 l h1 hk)
    · rcases hk with hk | hk
      · have := (o.h l h1).2.2.2.1
        omega
      · exact hq (o.q1 l h1 hk)

theorem chk_p {s : St} (h : chkS s = true) (h0 : s.ph ≠ 6) : lEq s.p.k s.p.f s.p.c s.p.t s.p.b 0 0 0 { data := #[] } false = true := by
  obtain ⟨_, _, h1 | h1 | h1⟩ := chk_first h
  · exact absurd h1.1 h0
  · exact h1.2.2
  · exact h1.2

theorem lt_k {a b : Lt} (h : a = b) : a.k = b.k := by rw [h]

theorem ok0_of {cn : Int} {x : Ex} (i : Inv2 cn x) {e : Ev} (he : e.k = 2 → canS x e.l = true) {r : St × List Ou} (hr : EdgeO x.s0 e r) : r = (x.s0, []) ∨ Ok0 x r.1 (r.2.map (·.l)) := by
  have hsz := (chk_first i.k0).2.1
  have hrr := (chk_first i.k0).1
  have hc0 : x.s0.c = x.c := i.c0.trans i.c.symm
  cases hr with
  | same => exact .inl rfl
  | start h0 ht =>
    have hp := chk_p i.k0 (by omega)
    refine .inr ⟨rfl, chk_mid hrr ht (.inl rfl) hp, fun h => absurd h0 h, ?_, ?_, fun h => by omega, ?_, fun h => by simp at h, fun h => by simp at h, fun h => by simp at h⟩
    · intro l hl
      simp only [List.map_cons, List.map_nil, List.mem_singleton] at hl
      subst hl
      refine ⟨hc0, ?_, rfl, rfl, by simp [prS], by simp [prS], fun _ => ⟨rfl, by simp⟩⟩
      exact lchk_ok (.inl rfl) (.inl rfl) ht
    · intro l hl hk
      simp only [List.map_cons, List.map_nil, List.mem_singleton] at hl
      subst hl
      simp [prS] at hk
    · intro l hl hk
      simp only [List.map_cons, List.map_nil, List.mem_singleton] at hl
      subst hl
      simp [prS] at hk
  | sign h0 hk hl =>
    have hp := chk_p i.k0 (by omega)
    have hq : Q1 x := by
      have := he hk
      rw [hl] at this
      exact i.promise (l := prS x.s0.c x.s0.t 1) rfl rfl rfl (canS_promise rfl this)
    refine .inr ⟨rfl, chk_mid hrr hsz (.inr (.inl rfl)) hp, fun h => ⟨rfl, by simp⟩, ?_, fun _ _ _ => .inl rfl, fun _ => .inl rfl, fun _ _ _ => hq, fun _ => hq, fun h => by simp at h, fun h => by simp at h⟩
    intro l hl
    simp only [List.map_cons, List.map_nil, List.mem_singleton] at hl
    subst hl
    refine ⟨hc0, ?_, rfl, rfl, by simp [sgS], by simp [sgS], fun _ => ⟨rfl, by simp⟩⟩
    exact lchk_ok (.inr (.inl rfl)) (.inl rfl) hsz
  | abort h0 =>
    have hp := chk_p i.k0 (by omega)
    refine .inr ⟨rfl, chk_mid hrr hsz (.inr (.inr (.inl rfl))) hp, fun h => ⟨rfl, by simp⟩, ?_, ?_, fun h => by omega, ?_, fun h => by simp at h, fun h => by simp at h, fun h => by simp at h⟩
    · intro l hl
      simp only [List.map_cons, List.map_nil, List.mem_singleton] at hl
      subst hl
      refine ⟨hc0, ?_, rfl, rfl, by simp [abS], by simp [abS], fun h => by simp [abS] at h⟩
      exact lchk_ok (.inr (.inr (.inr (.inr ⟨.inl rfl, rfl, rfl⟩)))) (.inl rfl) (by simp [ByteArray.size])
    · intro l hl hk
      simp only [List.map_cons, List.map_nil, List.mem_singleton] at hl
      subst hl
      simp [abS] at hk
    · intro l hl hk
      simp only [List.map_cons, List.map_nil, List.mem_singleton] at hl
      subst hl
      simp [abS] at hk
  | resolve h0 =>
    have hp := chk_p i.k0 (by omega)
    have hq : Q1 x := i.r0 (by omega)
    refine .inr ⟨rfl, chk_mid hrr hsz (.inr (.inr (.inr (.inl rfl)))) hp, fun h => ⟨rfl, by simp⟩, ?_, fun _ _ _ => .inr (.inl rfl), fun _ => .inr (.inl rfl), fun _ _ _ => hq, fun _ => hq, fun h => by simp at h, fun h => by simp at h⟩
    intro l hl
    simp only [List.map_cons, List.map_nil, List.mem_singleton] at hl
    subst hl
    refine ⟨hc0, ?_, rfl, rfl, by simp [rsS], by simp [rsS], fun _ => ⟨rfl, by simp⟩⟩
    exact lchk_ok (.inr (.inr (.inl rfl))) (.inl rfl) hsz
  | signed h0 hk hl =>
    refine .inr ⟨rfl, chk_six hrr hsz rfl (.inl hl), fun h => ⟨rfl, by simp⟩, fun l hl => by simp at hl, fun l hl => by simp at hl, fun _ => .inr (.inr rfl), fun l hl => by simp at hl, fun h => by simp at h, fun _ => he hk, fun h => by simp at h⟩
  | token h0 hk hl =>
    have hp := chk_p i.k0 (by omega)
    have hm := he hk
    rw [hl] at hm
    have hv := (i.h _ (can_told (.inl rfl) hm)).tok rfl
    refine .inr ⟨rfl, chk_mid hrr hsz (.inr (.inr (.inr (.inr rfl)))) hp, fun h => ⟨rfl, by simp⟩, fun l hl => by simp at hl, fun l hl => by simp at hl, fun h => by omega, fun l hl => by simp at hl, fun h => by simp at h, fun h => by simp at h, fun _ => by rw [hv.1]⟩
  | instead h0 hk hl =>
    refine .inr ⟨rfl, chk_six hrr hsz rfl (.inr hl), fun h => ⟨rfl, by simp⟩, fun l hl => by simp at hl, fun l hl => by simp at hl, fun _ => .inr (.inr rfl), fun l hl => by simp at hl, fun h => by simp at h, fun _ => he hk, fun h => by simp at h⟩

structure Ok1 (x : Ex) (s' : St) (ls : List Lt) : Prop where
  c : s'.c = x.s1.c
  k : chkA s' = true
  t : x.s1.ph ≠ 0 → s'.t = x.s1.t ∧ s'.ph ≠ 0
  h : ∀ l ∈ ls, l.c = x.c ∧ lchk l = 0 ∧ l.b = false ∧ l.f = 1 ∧ l.k ≠ 5 ∧ l.k ≠ 6 ∧ (l.k = 1 ∨ l.k = 2 ∨ l.k = 4 → l.t = s'.t ∧ s'.ph ≠ 0)
  p1 : ∀ l ∈ ls, l.k = 2 → s'.ph = 6
  p1' : x.s1.ph = 6 → s'.ph = 6
  q1 : ∀ l ∈ ls, l.k = 1 ∨ l.k = 4 → s'.ph = 2 ∨ s'.ph = 5 ∨ s'.ph = 6
  q1' : x.s1.ph = 2 ∨ x.s1.ph = 5 ∨ x.s1.ph = 6 ∨ (x.s1.ph = 7 ∧ x.v.k = 1) → s'.ph = 2 ∨ s'.ph = 5 ∨ s'.ph = 6 ∨ (s'.ph = 7 ∧ x.v.k = 1)
  f1 : s'.ph = 6 → canS x s'.p = true

theorem inv_party1 {cn : Int} {x : Ex} (i : Inv2 cn x) (hb : x.b1 = false) {s' : St} {ls : List Lt} {lost : Bool} (o : Ok1 x s' ls) : Inv2 cn { x with s1 := s', h := hearsS x.h lost ls } ∧ Grows x { x with s1 := s', h := hearsS x.h lost ls } := by
  have g : Grows x { x with s1 := s', h := hearsS x.h lost ls } := ⟨rfl, fun _ h => hears_old h, id, id⟩
  have hq : Q1 x → Q1 { x with s1 := s', h := hearsS x.h lost ls } := fun h => by
    rcases h with h | h
    · exact .inl h
    · exact .inr (o.q1' h)
  refine ⟨⟨i.c, i.c0, o.c.trans i.c1, i.k0, o.k, i.v, nodup_hears i.nd, ?_, ?_, ?_, ?_, fun h => hq (i.r0 h), fun h => hq (i.qv h), fun h0 h => g.canS (i.f0 h0 h), fun _ h => g.canS (o.f1 h), i.a0⟩, g⟩
  · intro l hl
    rcases mem_hears hl with h1 | h1
    · have := i.h l h1
      refine ⟨this.c, this.chk, this.b, this.f, fun hk => ?_, this.tok, this.ins⟩
      have h2 := this.own hk
      rcases this.f with hf | hf
      · rw [hf] at h2 ⊢
        exact h2
      · rw [hf] at h2 ⊢
        have h2 : l.t = x.s1.t ∧ x.s1.ph ≠ 0 := h2
        obtain ⟨h3, h4⟩ := o.t h2.2
        exact ⟨h2.1.trans h3.symm, h4⟩
    · obtain ⟨a1, a2, a3, a4, a5, a6, a7⟩ := o.h l h1
      refine ⟨a1, a2, a3, .inr a4, fun hk => ?_, fun hk => absurd hk a5, fun hk => absurd hk a6⟩
      rw [a4]
      exact a7 hk
  · intro l hl hk hf
    rcases mem_hears hl with h1 | h1
    · exact i.p0 l h1 hk hf
    · have := (o.h l h1).2.2.2.1
      omega
  · intro l hl hk hf
    rcases mem_hears hl with h1 | h1
    · rcases i.p1 l h1 hk hf with h2 | h2
      · rw [hb] at h2; cases h2
      · exact .inr (o.p1' h2)
    · exact .inr (o.p1 l h1 hk)
  · intro l hl hk
    rcases mem_hears hl with h1 | h1
    · exact hq (i.q1 l h1 hk)
    · have := o.q1 l h1 (hk.imp (·.1) id)
      exact .inr (by simp only; omega)

theorem chkA_first {s : St} (h : chkA s = true) : s.r = 1 ∧ s.t.size ≤ 64 ∧ (s.ph = 0 ∧ s.t = { data := #[] } ∧ s.p = l0 ∨ (s.ph = 1 ∨ s.ph = 2 ∨ s.ph = 5 ∨ s.ph = 7) ∧ s.p = l0 ∨ s.ph = 6 ∧ (s.p = sgS s.c s.t 0 ∨ s.p = inS s.c s.t)) := by
  unfold chkA at h
  simp only [Bool.and_eq_true, decide_eq_true_eq] at h
  obtain ⟨⟨h1, h2⟩, h⟩ := h
  refine ⟨h1, h2, ?_⟩
  split at h
  · simp only [Bool.and_eq_true, decide_eq_true_eq] at h
    exact .inl ⟨‹_›, h⟩
  · split at h
    · exact .inr (.inl ⟨‹_›, by simpa using h⟩)
    · split at h
      · exact .inr (.inr ⟨‹_›, by simpa using h⟩)
      · cases h
theorem chkA_mid {s : St} (hr : s.r = 1) (ht : s.t.size ≤ 64) (hp : s.ph = 1 ∨ s.ph = 2 ∨ s.ph = 5 ∨ s.ph = 7) (hl : s.p = l0) : chkA s = true := by
  unfold chkA
  rw [if_neg (by omega), if_pos hp]
  simp [hr, ht, hl]
theorem chkA_six {s : St} (hr : s.r = 1) (ht : s.t.size ≤ 64) (hp : s.ph = 6) (hl : s.p = sgS s.c s.t 0 ∨ s.p = inS s.c s.t) : chkA s = true := by
  unfold chkA
  rw [if_neg (by omega), if_neg (by omega), if_pos hp]
  simp [hr, ht, hl]
theorem chkA_p {s : St} (h : chkA s = true) (h0 : s.ph ≠ 6) : s.p = l0 := by
  obtain ⟨_, _, h1 | h1 | h1⟩ := chkA_first h
  · exact h1.2.2
  · exact h1.2
  · exact absurd h1.1 h0

theorem ok1_of {cn : Int} {x : Ex} (i : Inv2 cn x) {e : Ev} (hb : x.b1 = false) (he : e.k = 2 → canS x e.l = true) {r : St × List Ou} (hr : EdgeA x.s1 e r) : r = (x.s1, []) ∨ Ok1 x r.1 (r.2.map (·.l)) := by
  have hsz := (chkA_first i.k1).2.1
  have hrr := (chkA_first i.k1).1
  have hc0 : x.s1.c = x.c := i.c1.trans i.c.symm
  have hpr : ∀ l, l ∈ [(⟨0, prS x.s1.c x.s1.t 1⟩ : Ou)].map (·.l) → l = prS x.s1.c x.s1.t 1 := fun l h => by simpa using h
  have hsg : ∀ l, l ∈ [(⟨0, sgS x.s1.c x.s1.t 1⟩ : Ou)].map (·.l) → l = sgS x.s1.c x.s1.t 1 := fun l h => by simpa using h
  have hrs : ∀ l, l ∈ [(⟨2, rsA x.s1.c x.s1.t⟩ : Ou)].map (·.l) → l = rsA x.s1.c x.s1.t := fun l h => by simpa using h
  have kpr : lchk (prS x.s1.c x.s1.t 1) = 0 := lchk_ok (.inl rfl) (.inr rfl) hsz
  have ksg : lchk (sgS x.s1.c x.s1.t 1) = 0 := lchk_ok (.inr (.inl rfl)) (.inr rfl) hsz
  have krs : lchk (rsA x.s1.c x.s1.t) = 0 := lchk_ok (.inr (.inr (.inl rfl))) (.inr rfl) hsz
  cases hr with
  | same => exact .inl rfl
  | start h0 ht =>
    have hp := chkA_p i.k1 (by omega)
    exact .inr ⟨rfl, chkA_mid hrr ht (.inl rfl) hp, fun h => absurd h0 h, fun l hl => by simp at hl, fun l hl => by simp at hl, fun h => by omega, fun l hl => by simp at hl, fun h => by omega, fun h => by simp at h⟩
  | promise h0 =>
    have hp := chkA_p i.k1 (by omega)
    refine .inr ⟨rfl, chkA_mid hrr hsz (.inr (.inl rfl)) hp, fun h => ⟨rfl, by simp⟩, ?_, ?_, fun h => by omega, fun _ _ _ => .inl rfl, fun _ => .inl rfl, fun h => by simp at h⟩
    · intro l hl
      rw [hpr l hl]
      exact ⟨hc0, kpr, rfl, rfl, by simp [prS], by simp [prS], fun _ => ⟨rfl, by simp⟩⟩
    · intro l hl hk
      rw [hpr l hl] at hk
      simp [prS] at hk
  | again h0 =>
    refine .inr ⟨rfl, i.k1, fun h => ⟨rfl, h⟩, ?_, ?_, id, fun _ _ _ => .inl h0, id, fun h => absurd (h0.symm.trans h) (by decide)⟩
    · intro l hl
      rw [hpr l hl]
      exact ⟨hc0, kpr, rfl, rfl, by simp [prS], by simp [prS], fun _ => ⟨rfl, by show x.s1.ph ≠ 0; omega⟩⟩
    · intro l hl hk
      rw [hpr l hl] at hk
      simp [prS] at hk
  | signed h0 hk hl =>
    refine .inr ⟨rfl, chkA_six hrr hsz rfl (.inl hl), fun h => ⟨rfl, by simp⟩, ?_, fun _ _ _ => rfl, fun _ => rfl, fun _ _ _ => .inr (.inr rfl), fun _ => .inr (.inr (.inl rfl)), fun _ => he hk⟩
    intro l hl
    rw [hsg l hl]
    exact ⟨hc0, ksg, rfl, rfl, by simp [sgS], by simp [sgS], fun _ => ⟨rfl, by simp⟩⟩
  | told h0 =>
    refine .inr ⟨rfl, i.k1, fun h => ⟨rfl, h⟩, ?_, fun _ _ _ => h0, id, fun _ _ _ => .inr (.inr h0), id, i.f1 hb⟩
    intro l hl
    rw [hsg l hl]
    exact ⟨hc0, ksg, rfl, rfl, by simp [sgS], by simp [sgS], fun _ => ⟨rfl, by show x.s1.ph ≠ 0; omega⟩⟩
  | instead h0 hk hl =>
    exact .inr ⟨rfl, chkA_six hrr hsz rfl (.inr hl), fun h => ⟨rfl, by simp⟩, fun l hl => by simp at hl, fun l hl => by simp at hl, fun _ => rfl, fun l hl => by simp at hl, fun _ => .inr (.inr (.inl rfl)), fun _ => he hk⟩
  | token h0 hk hl =>
    have hp := chkA_p i.k1 (by omega)
    have hm := he hk
    rw [hl] at hm
    have hv := (i.h _ (can_told (.inl rfl) hm)).tok rfl
    exact .inr ⟨rfl, chkA_mid hrr hsz (.inr (.inr (.inr rfl))) hp, fun h => ⟨rfl, by simp⟩, fun l hl => by simp at hl, fun l hl => by simp at hl, fun h => by omega, fun l hl => by simp at hl, fun _ => .inr (.inr (.inr ⟨rfl, by rw [hv.1]⟩)), fun h => by simp at h⟩
  | quit h0 =>
    have hp := chkA_p i.k1 (by omega)
    exact .inr ⟨rfl, chkA_mid hrr hsz (.inr (.inr (.inr rfl))) hp, fun h => ⟨rfl, by simp⟩, fun l hl => by simp at hl, fun l hl => by simp at hl, fun h => by omega, fun l hl => by simp at hl, fun h => by omega, fun h => by simp at h⟩
  | resolve h0 =>
    have hp := chkA_p i.k1 (by omega)
    refine .inr ⟨rfl, chkA_mid hrr hsz (.inr (.inr (.inl rfl))) hp, fun h => ⟨rfl, by simp⟩, ?_, ?_, fun h => by omega, fun _ _ _ => .inr (.inl rfl), fun _ => .inr (.inl rfl), fun h => by simp at h⟩
    · intro l hl
      rw [hrs l hl]
      exact ⟨hc0, krs, rfl, rfl, by simp [rsA], by simp [rsA], fun _ => ⟨rfl, by simp⟩⟩
    · intro l hl hk
      rw [hrs l hl] at hk
      simp [rsA] at hk
end Go.Proofs.Ytodnfbfhdloogaa

/-
  Plain laws of the exchange: each move keeps the invariant; what the invariant says. No condition.
-/
namespace Go.Proofs.Ytodnfbfhdloogaa

theorem askV_keep {x : Ex} {l : Lt} (h : x.v.k ≠ 0) : askV x l = x.v := by
  unfold askV
  rw [if_neg (fun hn => h hn.1)]

theorem ask_inv {cn : Int} {x : Ex} (i : Inv2 cn x) {m : Mv} (hc : canS x m.l = true) : Inv2 cn (askX x m) ∧ Grows x (askX x m) ∧ (x.v.k ≠ 0 → (askX x m).v = x.v) := by
  unfold askX
  split
  · rename_i hkind
    have hkeep : x.v.k ≠ 0 → askV x m.l = x.v := askV_keep
    have hsz := (lchk_size (canS_chk hc).1).1
    have hv : (askV x m.l = v0 ∨ askV x m.l = ⟨cn, 1, { data := #[] }⟩ ∨ ((askV x m.l).c = cn ∧ (askV x m.l).k = 2 ∧ (askV x m.l).t.size ≤ 64)) ∧ ((askV x m.l).k = 2 → Q1 x) := by
      unfold askV
      split
      · split
        · rename_i h1 h2
          exact ⟨.inr (.inr ⟨i.c, rfl, hsz⟩), fun _ => i.resolve h2.1 h2.2 hc⟩
        · rename_i h1 h2
          refine ⟨.inr (.inl ?_), fun h => absurd h (by show (1 : Int) ≠ 2; decide)⟩
          rw [i.c]
      · exact ⟨i.v, i.qv⟩
    obtain ⟨hv1, hv2⟩ := hv
    generalize hV : askV x m.l = V at hkeep hv1 hv2 ⊢
    generalize hL : tellS x.c V = L
    have g : Grows x { x with v := V, h := hearS x.h m.lost L } := ⟨rfl, fun l hl => mem_hear.2 (.inl hl), id, id⟩
    have hVk : x.v.k = 1 → V.k = 1 := fun h => by rw [hkeep (by omega)]; exact h
    have hq : Q1 x → Q1 { x with v := V, h := hearS x.h m.lost L } := fun h => by
      rcases h with h | h | h | h | ⟨h, h'⟩
      · exact .inl h
      · exact .inr (.inl h)
      · exact .inr (.inr (.inl h))
      · exact .inr (.inr (.inr (.inl h)))
      · exact .inr (.inr (.inr (.inr ⟨h, hVk h'⟩)))
    -- the letter that is told
    have hLk : (L = ⟨5, 0, x.c, { data := #[] }, false⟩ ∧ V = ⟨x.c, 1, { data := #[] }⟩) ∨ (∃ t, L = ⟨6, 0, x.c, t, false⟩ ∧ V = ⟨x.c, 2, t⟩ ∧ t.size ≤ 64) ∨ L = ⟨7, 0, x.c, { data := #[] }, false⟩ := by
      rw [← hL]
      unfold tellS saysS
      rcases hv1 with h | h | ⟨h1, h2, h3⟩
      · rw [h]; right; right
        simp [v0]
      · rw [h, ← i.c]; left
        simp
      · right; left
        refine ⟨V.t, ?_, ?_, h3⟩
        · rw [if_neg (by omega), if_pos ⟨h2, h3⟩, h1, ← i.c]; rfl
        · cases V; simp only at *; rw [h1, h2, i.c]
    have hLn : L.k ≠ 1 ∧ L.k ≠ 2 ∧ L.k ≠ 4 ∧ L.b = false ∧ L.f = 0 ∧ L.c = x.c ∧ lchk L = 0 := by
      rcases hLk with ⟨h, _⟩ | ⟨t, h, _, ht⟩ | h
      · rw [h]; exact ⟨by simp, by simp, by simp, rfl, rfl, rfl, lchk_ok (.inr (.inr (.inr (.inr ⟨.inr (.inl rfl), rfl, rfl⟩)))) (.inl rfl) (by simp [ByteArray.size])⟩
      · rw [h]; exact ⟨by simp, by simp, by simp, rfl, rfl, rfl, lchk_ok (.inr (.inr (.inr (.inl ⟨rfl, rfl⟩)))) (.inl rfl) ht⟩
      · rw [h]; exact ⟨by simp, by simp, by simp, rfl, rfl, rfl, lchk_ok (.inr (.inr (.inr (.inr ⟨.inr (.inr rfl), rfl, rfl⟩)))) (.inl rfl) (by simp [ByteArray.size])⟩
    obtain ⟨n1, n2, n4, nb, nf, nc, nk⟩ := hLn
    refine ⟨⟨i.c, i.c0, i.c1, i.k0, i.k1, hv1, nodup_hear i.nd, ?_, ?_, ?_, ?_, fun h => hq (i.r0 h), fun h => hq (hv2 h), fun h1 h => g.canS (i.f0 h1 h), fun h1 h => g.canS (i.f1 h1 h), fun h1 h => hVk (i.a0 h1 h)⟩, g, hkeep⟩
    · intro l hl
      rcases mem_hear.1 hl with h1 | ⟨rfl, _⟩
      · have := i.h l h1
        refine ⟨this.c, this.chk, this.b, this.f, this.own, fun hk => ?_, fun hk => ?_⟩
        · obtain ⟨a, b⟩ := this.tok hk
          exact ⟨(hkeep (by rw [a]; show (1 : Int) ≠ 0; decide)).trans a, b⟩
        · obtain ⟨a, b⟩ := this.ins hk
          exact ⟨(hkeep (by rw [a]; show (2 : Int) ≠ 0; decide)).trans a, b⟩
      · refine ⟨nc, nk, nb, .inl nf, fun hk => by omega, fun hk => ?_, fun hk => ?_⟩
        · rcases hLk with ⟨h, h'⟩ | ⟨t, h, _, ht⟩ | h
          · exact ⟨h', h⟩
          · rw [h] at hk; simp at hk
          · rw [h] at hk; simp at hk
        · rcases hLk with ⟨h, _⟩ | ⟨t, h, h', ht⟩ | h
          · rw [h] at hk; simp at hk
          · refine ⟨?_, ?_⟩
            · rw [h]; exact h'
            · rw [h]; rfl
          · rw [h] at hk; simp at hk
    · intro l hl hk hf
      rcases mem_hear.1 hl with h1 | ⟨rfl, _⟩
      · exact i.p0 l h1 hk hf
      · exact absurd hk n2
    · intro l hl hk hf
      rcases mem_hear.1 hl with h1 | ⟨rfl, _⟩
      · exact i.p1 l h1 hk hf
      · exact absurd hk n2
    · intro l hl hk
      rcases mem_hear.1 hl with h1 | ⟨rfl, _⟩
      · exact hq (i.q1 l h1 hk)
      · omega
  · exact ⟨i, grows_refl x, fun _ => rfl⟩

theorem fin_stepA (s : St) (e : Ev) (h : finA s = true) : (stepA s e).1 = s := by
  have h' : s.ph = 6 ∨ s.ph = 7 := by
    unfold finA at h
    simp only [Bool.and_eq_true, Bool.or_eq_true, beq_iff_eq] at h
    exact h.2
  have := edge_a s e
  generalize stepA s e = r at this ⊢
  cases this with
  | same => rfl
  | again _ => rfl
  | told _ => rfl
  | start h0 => omega
  | promise h0 => omega
  | signed h0 => omega
  | instead h0 => omega
  | token h0 => omega
  | quit h0 => omega
  | resolve h0 => omega

/-- What each move keeps. -/
structure Kept (cn : Int) (x y : Ex) : Prop where
  inv : Inv2 cn y
  g : Grows x y
  v : x.v.k ≠ 0 → y.v = x.v
  fin : ∀ who, who = 0 ∨ who = 1 → finX x who = true → y.st who = x.st who

theorem party_kept {cn : Int} {x : Ex} (i : Inv2 cn x) {m : Mv} (hw : m.who = 0 ∨ m.who = 1) (hb : x.bad m.who = false) (hc : m.k = 2 → canS x m.l = true) : Kept cn x (partyX x m) := by
  have he : (evX x m).k = 2 → canS x (evX x m).l = true := fun h => by
    unfold evX at h ⊢
    split at h
    · simp at h
    · rename_i h1
      rw [if_neg h1]
      split at h
      · rename_i h2
        rw [if_pos h2]; exact hc h2
      · simp at h
  unfold partyX
  rcases hw with hw | hw
  · rw [if_pos hw]
    rw [hw] at hb
    have hb : x.b0 = false := hb
    have key : Inv2 cn { x with s0 := (stepS x.s0 (evX x m)).1, h := hearsS x.h m.lost ((stepS x.s0 (evX x m)).2.map (·.l)) } ∧ Grows x { x with s0 := (stepS x.s0 (evX x m)).1, h := hearsS x.h m.lost ((stepS x.s0 (evX x m)).2.map (·.l)) } := by
      rcases ok0_of i he (edge_o x.s0 (evX x m)) with h | h
      · rw [h]; exact ⟨i, grows_refl x⟩
      · exact inv_party0 i hb h
    refine ⟨key.1, key.2, fun _ => rfl, fun who hwho hf => ?_⟩
    rcases hwho with rfl | rfl
    · have hf : finS x.s0 = true := hf
      show (stepS x.s0 (evX x m)).1 = x.s0
      rw [fin_step _ _ hf]
    · rfl
  · rw [if_neg (by omega)]
    rw [hw] at hb
    have hb : x.b1 = false := hb
    have key : Inv2 cn { x with s1 := (stepA x.s1 (evX x m)).1, h := hearsS x.h m.lost ((stepA x.s1 (evX x m)).2.map (·.l)) } ∧ Grows x { x with s1 := (stepA x.s1 (evX x m)).1, h := hearsS x.h m.lost ((stepA x.s1 (evX x m)).2.map (·.l)) } := by
      rcases ok1_of i hb he (edge_a x.s1 (evX x m)) with h | h
      · rw [h]; exact ⟨i, grows_refl x⟩
      · exact inv_party1 i hb h
    refine ⟨key.1, key.2, fun _ => rfl, fun who hwho hf => ?_⟩
    rcases hwho with rfl | rfl
    · rfl
    · have hf : finA x.s1 = true := hf
      show (stepA x.s1 (evX x m)).1 = x.s1
      exact fin_stepA _ _ hf

theorem kept_refl {cn : Int} {x : Ex} (i : Inv2 cn x) : Kept cn x x := ⟨i, grows_refl x, fun _ => rfl, fun _ _ _ => rfl⟩

theorem kept_bad {cn : Int} {x : Ex} (i : Inv2 cn x) {b0 b1 : Bool} {full : Bool} (h0 : x.b0 = true → b0 = true) (h1 : x.b1 = true → b1 = true) : Kept cn x { x with b0 := b0, b1 := b1, full := full } := by
  have g : Grows x { x with b0 := b0, b1 := b1, full := full } := ⟨rfl, fun _ h => h, h0, h1⟩
  have hq : Q1 x → Q1 { x with b0 := b0, b1 := b1, full := full } := fun h => h.imp h1 id
  have n0 : b0 = false → x.b0 = false := fun h => by
    cases hx : x.b0
    · rfl
    · rw [h0 hx] at h; cases h
  have n1 : b1 = false → x.b1 = false := fun h => by
    cases hx : x.b1
    · rfl
    · rw [h1 hx] at h; cases h
  refine ⟨⟨i.c, i.c0, i.c1, i.k0, i.k1, i.v, i.nd, fun l hl => ?_, fun l hl hk hf => (i.p0 l hl hk hf).imp h0 id, fun l hl hk hf => (i.p1 l hl hk hf).imp h1 id, fun l hl hk => hq (i.q1 l hl hk), fun h => hq (i.r0 h), fun h => hq (i.qv h), fun h2 h => g.canS (i.f0 (n0 h2) h), fun h2 h => g.canS (i.f1 (n1 h2) h), fun h2 h => i.a0 (n0 h2) h⟩, g, fun _ => rfl, fun _ _ _ => rfl⟩
  have := i.h l hl
  exact ⟨this.c, this.chk, this.b, this.f, this.own, this.tok, this.ins⟩

theorem step_kept {cn : Int} {x : Ex} (i : Inv2 cn x) (m : Mv) : Kept cn x (stepX x m).1 ∧ ((stepX x m).2 = false → (stepX x m).1 = x) := by
  unfold stepX
  split
  · split
    · rename_i hc
      obtain ⟨h1, h2, h3⟩ := ask_inv i hc
      refine ⟨⟨h1, h2, h3, fun who hw hf => ?_⟩, fun h => by cases h⟩
      show (askX x m).st who = x.st who
      unfold askX
      split <;> rfl
    · exact ⟨kept_refl i, fun _ => rfl⟩
  · split
    · exact ⟨kept_bad (b0 := x.b0) (b1 := x.b1) (full := true) i id id, fun h => by cases h⟩
    · split
      · rename_i hw
        split
        · refine ⟨?_, fun h => by cases h⟩
          split
          · exact kept_bad (b0 := true) (b1 := x.b1) (full := x.full) i (fun _ => rfl) id
          · exact kept_bad (b0 := x.b0) (b1 := true) (full := x.full) i id (fun _ => rfl)
        · split
          · rename_i hk
            split
            · exact ⟨kept_refl i, fun _ => rfl⟩
            · rename_i hb
              exact ⟨party_kept i hw (by simpa using hb) (fun h => by
                rcases hk with hk | hk | hk
                · omega
                · omega
                · exact hk.2), fun h => by cases h⟩
          · exact ⟨kept_refl i, fun _ => rfl⟩
      · exact ⟨kept_refl i, fun _ => rfl⟩

theorem says_v {cn : Int} {x : Ex} (i : Inv2 cn x) : x.v = v0 ∨ (∃ l, saysS x.v = some l) ∧ x.v.c = x.c := by
  rcases i.v with h | h | ⟨h1, h2, h3⟩
  · exact .inl h
  · refine .inr ⟨⟨⟨5, 0, cn, { data := #[] }, false⟩, ?_⟩, by rw [h, i.c]⟩
    rw [h]
    unfold saysS
    rw [if_pos ⟨rfl, rfl⟩]
  · refine .inr ⟨⟨⟨6, 0, x.v.c, x.v.t, false⟩, ?_⟩, by rw [h1, i.c]⟩
    unfold saysS
    rw [if_neg (by omega), if_pos ⟨h2, h3⟩]

theorem inv_check {cn : Int} {x : Ex} (i : Inv2 cn x) : checkX x = true := by
  unfold checkX
  simp only [Bool.and_eq_true, decide_eq_true_eq, Bool.or_eq_true]
  refine ⟨i.k0, i.k1, i.c0.trans i.c.symm, i.c1.trans i.c.symm, ?_, ⟨fun l hl => ⟨(i.h l hl).chk, (i.h l hl).c⟩, i.nd⟩⟩
  rcases says_v i with h | ⟨⟨l, hl⟩, hc⟩
  · exact .inl h
  · exact .inr ⟨by unfold saysOk; rw [hl]; rfl, hc⟩

theorem signed_p0 {cn : Int} {x : Ex} (i : Inv2 cn x) (h : x.s0.ph = 6) : x.s0.p = sgS x.s0.c x.s0.t 1 ∨ x.s0.p = inS x.s0.c x.s0.t := by
  obtain ⟨_, _, h1 | h1 | h1⟩ := chk_first i.k0
  · have h2 := h1.2
    unfold chk6 at h2
    rw [Bool.or_eq_true] at h2
    exact h2.imp lt_eta lt_eta
  · omega
  · omega
theorem signed_p1 {cn : Int} {x : Ex} (i : Inv2 cn x) (h : x.s1.ph = 6) : x.s1.p = sgS x.s1.c x.s1.t 0 ∨ x.s1.p = inS x.s1.c x.s1.t := by
  obtain ⟨_, _, h1 | h1 | h1⟩ := chkA_first i.k1
  · omega
  · omega
  · exact h1.2

theorem inv_ok {cn : Int} {x : Ex} (i : Inv2 cn x) : okX x = true := by
  have hv7 : x.b1 = false → x.s1.ph = 7 → x.v.k = 2 → False := fun hb h hv => by
    rcases i.qv hv with h1 | h1 | h1 | h1 | h1
    · rw [hb] at h1; cases h1
    all_goals omega
  have k1 : holds1 x = false := by
    unfold holds1
    rw [Bool.or_eq_false_iff]
    refine ⟨?_, ?_⟩
    · cases hb : x.b0
      · rcases Decidable.em (x.s0.ph = 7) with h7 | h7
        · have hva := i.a0 hb h7
          have : boundX x 0 = [] := by
            unfold boundX
            rw [List.filter_eq_nil_iff]
            intro l hl hn
            simp only [Bool.or_eq_true, Bool.and_eq_true, beq_iff_eq] at hn
            rcases hn with ⟨hk, hf⟩ | hk
            · rcases i.p0 l hl hk hf with h | h
              · rw [hb] at h; cases h
              · omega
            · have := ((i.h l hl).ins hk).1
              rw [this] at hva
              simp at hva
          rw [this]
          simp
        · simp [h7]
      · rfl
    · cases hb : x.b1
      · rcases Decidable.em (x.s1.ph = 7) with h7 | h7
        · have : boundX x 1 = [] := by
            unfold boundX
            rw [List.filter_eq_nil_iff]
            intro l hl hn
            simp only [Bool.or_eq_true, Bool.and_eq_true, beq_iff_eq] at hn
            rcases hn with ⟨hk, hf⟩ | hk
            · rcases i.p1 l hl hk hf with h | h
              · rw [hb] at h; cases h
              · omega
            · have := ((i.h l hl).ins hk).1
              exact hv7 hb h7 (by rw [this])
          rw [this]
          simp
        · simp [h7]
      · rfl
  have k2 : holds2 x = false := by
    unfold holds2
    rw [Bool.or_eq_false_iff]
    refine ⟨?_, ?_⟩
    · cases hb : x.b0
      · rcases Decidable.em (x.s0.ph = 6) with h6 | h6
        · simp [i.f0 hb h6]
        · simp [h6]
      · rfl
    · cases hb : x.b1
      · rcases Decidable.em (x.s1.ph = 6) with h6 | h6
        · simp [i.f1 hb h6]
        · simp [h6]
      · rfl
  have k3 : holds3 x = false := by
    unfold holds3
    cases h5 : x.h.any (·.k == 5)
    · rfl
    · cases h6 : x.h.any (·.k == 6)
      · rfl
      · rw [List.any_eq_true] at h5 h6
        obtain ⟨a, ha, ha5⟩ := h5
        obtain ⟨b, hb, hb6⟩ := h6
        have e1 := ((i.h a ha).tok (by simpa using ha5)).1
        have e2 := ((i.h b hb).ins (by simpa using hb6)).1
        rw [e1] at e2
        simp at e2
  have k4 : holds4 x = false := by
    unfold holds4
    cases hb0 : x.b0
    · cases hb1 : x.b1
      · have n1 : ¬ (x.s0.ph = 6 ∧ x.s1.ph = 7) := fun ⟨h6, h7⟩ => by
          have hc := i.f0 hb0 h6
          rcases signed_p0 i h6 with h | h
          · rw [h] at hc
            rcases can_sign rfl hc with h1 | h1
            · rcases i.p1 _ h1 rfl rfl with h2 | h2
              · rw [hb1] at h2; cases h2
              · omega
            · have h1 : x.b1 = true := h1
              rw [hb1] at h1; cases h1
          · rw [h] at hc
            have := ((i.h _ (can_told (.inr rfl) hc)).ins rfl).1
            exact hv7 hb1 h7 (by rw [this])
        have n2 : ¬ (x.s0.ph = 7 ∧ x.s1.ph = 6) := fun ⟨h7, h6⟩ => by
          have hc := i.f1 hb1 h6
          have hva := i.a0 hb0 h7
          rcases signed_p1 i h6 with h | h
          · rw [h] at hc
            rcases can_sign rfl hc with h1 | h1
            · rcases i.p0 _ h1 rfl rfl with h2 | h2
              · rw [hb0] at h2; cases h2
              · omega
            · have h1 : x.b0 = true := h1
              rw [hb0] at h1; cases h1
          · rw [h] at hc
            have := ((i.h _ (can_told (.inr rfl) hc)).ins rfl).1
            rw [this] at hva
            simp at hva
        simp only [Bool.not_false, Bool.true_and, Bool.or_eq_false_iff]
        constructor
        · rw [Bool.eq_false_iff]
          simpa using n1
        · rw [Bool.eq_false_iff]
          simpa using n2
      · rfl
    · rfl
  have k5 : holds5 x = false := by
    unfold holds5
    rw [Bool.eq_false_iff]
    intro h
    rw [List.any_eq_true] at h
    obtain ⟨l, hl, h⟩ := h
    simp only [Bool.and_eq_true, Bool.or_eq_true, beq_iff_eq, Bool.not_eq_true', decide_eq_false_iff_not] at h
    refine h.2 ?_
    unfold saidX saysS
    rcases h.1 with hk | hk
    · obtain ⟨e1, e2⟩ := (i.h l hl).tok hk
      rw [e1, e2]
      simp [tkS]
    · obtain ⟨e1, e2⟩ := (i.h l hl).ins hk
      have hs := (lchk_size (i.h l hl).chk).1
      rw [e1]
      rw [if_neg (by simp), if_pos ⟨rfl, hs⟩]
      exact e2
  unfold okX
  rw [k1, k2, k3, k4, k5]
  rfl

/-- What an honest party has sent says its text. -/
theorem inv_mine {cn : Int} {x : Ex} (i : Inv2 cn x) {l : Lt} (hl : l ∈ x.h) (hk : l.k = 1 ∨ l.k = 2 ∨ l.k = 4) : l.t = (x.st l.f).t := ((i.h l hl).own hk).1
end Go.Proofs.Ytodnfbfhdloogaa
