/-
  An abstract machine of this place's own: what becomes of a state when a block is written, made, handed on, forgotten. No condition.
-/
import Derived.Test.YtnfehccnofhmnaaE2
set_option linter.all false
namespace Go.Proofs.Ytnfehccnofhmnaa
open Go.RowKit
namespace E
section blocks
variable {N N' : Nat} {β : Pls} {μ : Fms} {nt : Nat} {σ : St} {a : Act} {w w' : World}

def upd {α : Type} (β : Nat → Option α) (b : Nat) (p : α) : Nat → Option α := fun k => if k = b then some p else β k
theorem upd_same {α : Type} (β : Nat → Option α) (b : Nat) (p : α) : upd β b p b = some p := by simp [upd]
theorem upd_other {α : Type} (β : Nat → Option α) {b k : Nat} (p : α) (h : k ≠ b) : upd β b p k = β k := by simp [upd, h]
theorem upd_ext {α : Type} {β : Nat → Option α} {b : Nat} (p : α) (h : β b = none) : ∀ k q, β k = some q → upd β b p k = some q := fun k q e => by
  rw [upd_other β p (fun hk => by subst hk; rw [h] at e; cases e)]; exact e

theorem BRel.lt {p : Pl} {x : Blk} (h : BRel β p x w) : p.rb < w.heap.size := by
  cases x with
  | row rw sz cs => obtain ⟨_, _, arr, el, fr, xs, h3, _⟩ := h; exact (Array.getElem?_eq_some_iff.1 h3).1
  | map es clock => obtain ⟨_, arr, h3, _⟩ := h; exact (Array.getElem?_eq_some_iff.1 h3).1

theorem XRel.lt {r : Nat} {cs : List C} (h : XRel β r cs w) : r < w.heap.size := by
  obtain ⟨arr, el, h3, _⟩ := h; exact (Array.getElem?_eq_some_iff.1 h3).1

/-- The state stands in a world that differs only in what nobody reads. -/
theorem SRel.world (hS : SRel N β μ nt σ a w) (h : ∀ r, r < w.heap.size → w'.heap[r]? = w.heap[r]?) : SRel N β μ nt σ a w' where
  heap := ⟨hS.heap.fresh, fun b x hx => let ⟨p, h1, h2⟩ := hS.heap.blk b x hx; ⟨p, h1, h2.up (fun _ _ h => h) (h _ h2.lt)⟩, hS.heap.apart⟩
  size := hS.size
  defers := hS.defers
  env := hS.env
  box := fun t cs ht => let ⟨r, h1, h2⟩ := hS.box t cs ht; ⟨r, h1, h2.up (fun _ _ h => h) (h _ h2.lt)⟩
  bxap := hS.bxap
  hap := hS.hap

theorem SRel.wider (hS : SRel N β μ nt σ a w) (h : N ≤ N') : SRel N' β μ nt σ a w :=
  { hS with heap := ⟨fun b hb => hS.heap.fresh b (Nat.le_trans h hb), hS.heap.blk, hS.heap.apart⟩ }

/-- A block is forgotten. -/
theorem SRel.del (hS : SRel N β μ nt σ a w) (b : Nat) : SRel N β μ nt { σ with h := σ.h.del b } a w where
  heap := by
    have g : ∀ k x, (σ.h.del b).get k = some x → σ.h.get k = some x := fun k x hx => by
      rw [Heap.get_del] at hx; split at hx
      · cases hx
      · exact hx
    exact ⟨hS.heap.fresh, fun k x hx => hS.heap.blk k x (g k x hx), fun k k' x x' p p' hk h1 h2 => hS.heap.apart k k' x x' p p' hk (g k x h1) (g k' x' h2)⟩
  size := hS.size
  defers := hS.defers
  env := hS.env
  box := hS.box
  bxap := hS.bxap
  hap := fun t cs k x p ht hx => hS.hap t cs k x p ht (by
    have hx' : (σ.h.del b).get k = some x := hx
    rw [Heap.get_del] at hx'; split at hx'
    · cases hx'
    · exact hx')

/-- A block is made, where no other one lies. -/
theorem SRel.make (hS : SRel N β μ nt σ a w) (hN : N ≤ N') {nm : Nat} (hnm : nm < N') (hβ : β nm = none) {p : Pl} {x1 : Blk}
    (hch : ∀ r, r < w.heap.size → r ≠ p.rb → w'.heap[r]? = w.heap[r]?)
    (hfree : ∀ b x q, σ.h.get b = some x → β b = some q → q.rb ≠ p.rb) (hbox : ∀ t cs, get σ.bx t = some cs → μ t ≠ some p.rb)
    (hB : BRel (upd β nm p) p x1 w') : SRel N' (upd β nm p) μ nt { σ with h := σ.h.set nm x1 } a w' where
  heap := by
    have hx := upd_ext p hβ
    refine ⟨fun b hb => ?_, fun b x hb => ?_, fun b b' x x' q q' hne h1 h2 e1 e2 hrw => ?_⟩
    · rw [upd_other β p (by omega)]; exact hS.heap.fresh b (by omega)
    · by_cases hbn : b = nm
      · subst hbn
        have hb' : (σ.h.set b x1).get b = some x := hb
        rw [Heap.get_set, if_pos rfl, Option.some.injEq] at hb'
        subst hb'
        exact ⟨p, upd_same β b p, hB⟩
      · have hb' : (σ.h.set nm x1).get b = some x := hb
        rw [Heap.get_set, if_neg (fun h => hbn h.symm)] at hb'
        obtain ⟨q, h3, h4⟩ := hS.heap.blk b x hb'
        exact ⟨q, hx b q h3, h4.up hx (hch _ h4.lt (hfree b x q hb' h3))⟩
    · have h1' : (σ.h.set nm x1).get b = some x := h1
      have h2' : (σ.h.set nm x1).get b' = some x' := h2
      rw [Heap.get_set] at h1' h2'
      by_cases hbn : nm = b
      · subst hbn
        rw [upd_same, Option.some.injEq] at e1
        subst e1
        rw [if_neg hne] at h2'
        rw [upd_other β p (Ne.symm hne)] at e2
        exact fun h => hfree b' x' q' h2' e2 h.symm
      · rw [if_neg hbn] at h1'
        rw [upd_other β p (fun h => hbn h.symm)] at e1
        by_cases hbn' : nm = b'
        · subst hbn'
          rw [upd_same, Option.some.injEq] at e2
          subst e2
          exact hfree b x q h1' e1
        · rw [if_neg hbn'] at h2'
          rw [upd_other β p (fun h => hbn' h.symm)] at e2
          exact hS.heap.apart b b' x x' q q' hne h1' h2' e1 e2 hrw
  size := hS.size
  defers := hS.defers
  env := fun t v ht => let ⟨x, h1, h2⟩ := hS.env t v ht; ⟨x, h1, h2.up (upd_ext p hβ)⟩
  box := fun t cs ht => by
    obtain ⟨r, h1, h2⟩ := hS.box t cs ht
    refine ⟨r, h1, h2.up (upd_ext p hβ) (hch _ h2.lt fun h => ?_)⟩
    subst h
    exact hbox t cs ht h1
  bxap := hS.bxap
  hap := fun t cs b x q ht hx hq => by
    have hx' : (σ.h.set nm x1).get b = some x := hx
    rw [Heap.get_set] at hx'
    by_cases hbn : nm = b
    · subst hbn
      rw [upd_same, Option.some.injEq] at hq
      subst hq
      exact hbox t cs ht
    · rw [if_neg hbn] at hx'
      rw [upd_other β p (fun h => hbn h.symm)] at hq
      exact hS.hap t cs b x q ht hx' hq

/-- A block is written. -/
theorem SRel.write (hS : SRel N β μ nt σ a w) {b : Nat} {x0 x1 : Blk} {p : Pl} (hb : σ.h.get b = some x0) (hrw : x0.rw = true) (hβ : β b = some p)
    (hch : ∀ r, r < w.heap.size → r ≠ p.rb → w'.heap[r]? = w.heap[r]?) (hB : BRel β p x1 w') : SRel N β μ nt { σ with h := σ.h.set b x1 } a w' where
  heap := by
    refine ⟨hS.heap.fresh, fun k x hk => ?_, fun k k' x x' q q' hne h1 h2 e1 e2 hr => ?_⟩
    · have hk' : (σ.h.set b x1).get k = some x := hk
      rw [Heap.get_set] at hk'
      by_cases hbk : b = k
      · subst hbk
        rw [if_pos rfl, Option.some.injEq] at hk'
        subst hk'
        exact ⟨p, hβ, hB⟩
      · rw [if_neg hbk] at hk'
        obtain ⟨q, h3, h4⟩ := hS.heap.blk k x hk'
        exact ⟨q, h3, h4.up (fun _ _ h => h) (hch _ h4.lt (Ne.symm (hS.heap.apart b k x0 x p q hbk hb hk' hβ h3 hrw)))⟩
    · have h1' : (σ.h.set b x1).get k = some x := h1
      have h2' : (σ.h.set b x1).get k' = some x' := h2
      rw [Heap.get_set] at h1' h2'
      by_cases hbk : b = k
      · subst hbk
        rw [if_neg hne] at h2'
        rw [hβ, Option.some.injEq] at e1
        subst e1
        exact hS.heap.apart b k' x0 x' p q' hne hb h2' hβ e2 hrw
      · rw [if_neg hbk] at h1'
        by_cases hbk' : b = k'
        · subst hbk'
          rw [hβ, Option.some.injEq] at e2
          subst e2
          exact Ne.symm (hS.heap.apart b k x0 x p q hbk hb h1' hβ e1 hrw)
        · rw [if_neg hbk'] at h2'
          exact hS.heap.apart k k' x x' q q' hne h1' h2' e1 e2 hr
  size := hS.size
  defers := hS.defers
  env := hS.env
  box := fun t cs ht => by
    obtain ⟨r, h1, h2⟩ := hS.box t cs ht
    refine ⟨r, h1, h2.up (fun _ _ h => h) (hch _ h2.lt fun h => ?_)⟩
    subst h
    exact hS.hap t cs b x0 p ht hb hβ h1
  bxap := hS.bxap
  hap := fun t cs k x q ht hx hq => by
    have hx' : (σ.h.set b x1).get k = some x := hx
    rw [Heap.get_set] at hx'
    by_cases hbk : b = k
    · subst hbk
      rw [hβ, Option.some.injEq] at hq
      subst hq
      exact hS.hap t cs b x0 p ht hb hβ
    · rw [if_neg hbk] at hx'
      exact hS.hap t cs k x q ht hx' hq

/-- A variable of the frame is written. -/
theorem SRel.writeBox (hS : SRel N β μ nt σ a w) {t : Nat} {cs cs' : List C} {r : Nat} (ht : get σ.bx t = some cs) (hr : μ t = some r)
    (hch : ∀ k, k < w.heap.size → k ≠ r → w'.heap[k]? = w.heap[k]?) (hX : XRel β r cs' w') : SRel N β μ nt { σ with bx := setL t cs' σ.bx } a w' where
  heap := ⟨hS.heap.fresh, fun b x hb => by
    obtain ⟨p, h1, h2⟩ := hS.heap.blk b x hb
    exact ⟨p, h1, h2.up (fun _ _ h => h) (hch _ h2.lt fun h => by
      have := hS.hap t cs b x p ht hb h1
      rw [hr, h] at this
      exact this rfl)⟩, hS.heap.apart⟩
  size := hS.size
  defers := hS.defers
  env := hS.env
  box := fun u ds hu => by
    have hu' : get (setL t cs' σ.bx) u = some ds := hu
    rw [get_setL] at hu'
    by_cases h : t = u
    · subst h
      rw [if_pos rfl, Option.some.injEq] at hu'
      subst hu'
      exact ⟨r, hr, hX⟩
    · rw [if_neg h] at hu'
      obtain ⟨k, h1, h2⟩ := hS.box u ds hu'
      exact ⟨k, h1, h2.up (fun _ _ h => h) (hch _ h2.lt fun hk => by
        subst hk
        exact hS.bxap t u cs ds _ h ht hu' hr h1)⟩
  bxap := fun u u' ds ds' k hne h1 h2 e1 => by
    have f : ∀ v es, get (setL t cs' σ.bx) v = some es → ∃ fs, get σ.bx v = some fs := fun v es hv => by
      rw [get_setL] at hv
      by_cases h : t = v
      · subst h; exact ⟨cs, ht⟩
      · rw [if_neg h] at hv; exact ⟨es, hv⟩
    obtain ⟨fs, g1⟩ := f u ds h1
    obtain ⟨fs', g2⟩ := f u' ds' h2
    exact hS.bxap u u' fs fs' k hne g1 g2 e1
  hap := fun u ds b x p hu hx hp => by
    have hu' : get (setL t cs' σ.bx) u = some ds := hu
    rw [get_setL] at hu'
    by_cases h : t = u
    · subst h; exact hS.hap t cs b x p ht hx hp
    · rw [if_neg h] at hu'; exact hS.hap u ds b x p hu' hx hp

theorem mentionsV_env {σ : St} {t : Nat} (hm : (σ.env.any fun p => mentionsV t p.2) = false) : ∀ u v, get σ.env u = some v → mentionsV t v = false := by
  intro u v hu
  have key : ∀ l : List (Nat × V), (l.any fun p => mentionsV t p.2) = false → get l u = some v → mentionsV t v = false := by
    intro l
    induction l with
    | nil => intro _ h; simp [get] at h
    | cons q l ih =>
      intro hl h
      obtain ⟨k, y⟩ := q
      simp only [List.any_cons, Bool.or_eq_false_iff] at hl
      rw [get_cons] at h
      split at h
      · simp only [Option.some.injEq] at h; subst h; exact hl.1
      · exact ih hl.2 h
  exact key σ.env hm hu

/-- A variable of the frame is made. -/
theorem SRel.makeBox (hS : SRel N β μ nt σ a w) {t : Nat} {cs : List C} {r : Nat} (ht : get σ.bx t = none) (hm : (σ.env.any fun p => mentionsV t p.2) = false)
    (hch : ∀ k, k < w.heap.size → w'.heap[k]? = w.heap[k]?) (hr : w.heap.size ≤ r) (hX : XRel β r cs w') : SRel N β (upd μ t r) nt { σ with bx := (t, cs) :: σ.bx } a w' where
  heap := ⟨hS.heap.fresh, fun b x hb => by
    obtain ⟨p, h1, h2⟩ := hS.heap.blk b x hb
    exact ⟨p, h1, h2.up (fun _ _ h => h) (hch _ h2.lt)⟩, hS.heap.apart⟩
  size := hS.size
  defers := hS.defers
  env := fun u v hu => by
    obtain ⟨x, h1, h2⟩ := hS.env u v hu
    refine ⟨x, h1, h2.ups (fun _ _ h => h) fun k q hk hq => ?_⟩
    rw [upd_other μ r fun h => ?_]
    · exact hq
    · subst h
      rw [mentionsV_env hm u v hu] at hk
      cases hk
  box := fun u ds hu => by
    have hu' : get ((t, cs) :: σ.bx) u = some ds := hu
    rw [get_cons] at hu'
    by_cases h : t = u
    · subst h
      rw [if_pos rfl, Option.some.injEq] at hu'
      subst hu'
      exact ⟨r, upd_same μ t r, hX⟩
    · rw [if_neg h] at hu'
      obtain ⟨k, h1, h2⟩ := hS.box u ds hu'
      exact ⟨k, by rw [upd_other μ r (Ne.symm h)]; exact h1, h2.up (fun _ _ h => h) (hch _ h2.lt)⟩
  bxap := fun u u' ds ds' k hne h1 h2 e1 => by
    have h1' : get ((t, cs) :: σ.bx) u = some ds := h1
    have h2' : get ((t, cs) :: σ.bx) u' = some ds' := h2
    rw [get_cons] at h1' h2'
    have old : ∀ v es, get σ.bx v = some es → ∀ q, μ v = some q → q < w.heap.size := fun v es hv q hq => by
      obtain ⟨q', g1, g2⟩ := hS.box v es hv
      rw [hq, Option.some.injEq] at g1
      subst g1
      exact g2.lt
    by_cases h : t = u
    · subst h
      rw [if_neg hne] at h2'
      rw [upd_same, Option.some.injEq] at e1
      subst e1
      rw [upd_other μ _ (Ne.symm hne)]
      intro he
      have := old u' ds' h2' _ he
      omega
    · rw [if_neg h] at h1'
      rw [upd_other μ r (Ne.symm h)] at e1
      by_cases h' : t = u'
      · subst h'
        rw [upd_same]
        intro he
        simp only [Option.some.injEq] at he
        subst he
        have := old u ds h1' _ e1
        omega
      · rw [if_neg h'] at h2'
        rw [upd_other μ r (Ne.symm h')]
        exact hS.bxap u u' ds ds' k hne h1' h2' e1
  hap := fun u ds b x p hu hx hp => by
    have hu' : get ((t, cs) :: σ.bx) u = some ds := hu
    rw [get_cons] at hu'
    by_cases h : t = u
    · subst h
      rw [upd_same]
      intro he
      simp only [Option.some.injEq] at he
      obtain ⟨q, g1, g2⟩ := hS.heap.blk b x hx
      rw [hp, Option.some.injEq] at g1
      subst g1
      have := g2.lt
      omega
    · rw [if_neg h] at hu'
      rw [upd_other μ r (Ne.symm h)]
      exact hS.hap u ds b x p hu' hx hp

/-! ### The steps -/
structure Same (w w' : World) : Prop where
  os : w'.os = w.os
  tape : w'.tape = w.tape
  output : w'.output = w.output
  size : w.heap.size ≤ w'.heap.size

theorem Step.make (hs : Same w w') {nm : Nat} (hβ : β nm = none) {p : Pl} {x1 : Blk} (hp : w.heap.size ≤ p.rb)
    (hch : ∀ r, r < w.heap.size → w'.heap[r]? = w.heap[r]?) : Step β μ σ w (upd β nm p) μ { σ with h := σ.h.set nm x1 } w' where
  ext := upd_ext p hβ
  os := hs.os
  tape := hs.tape
  output := hs.output
  size := hs.size
  fr := fun r hr _ => hch r hr
  own := fun r hm => by
    rcases hm with ⟨b, x, q, h1, h2, h3, h4⟩ | ⟨t, cs, h1, h2⟩
    · have h1' : (σ.h.set nm x1).get b = some x := h1
      rw [Heap.get_set] at h1'
      by_cases h : nm = b
      · subst h
        rw [upd_same, Option.some.injEq] at h3
        subst h3
        exact .inr (by omega)
      · rw [if_neg h] at h1'
        rw [upd_other β p (Ne.symm h)] at h3
        exact .inl (.inl ⟨b, x, q, h1', h2, h3, h4⟩)
    · exact .inl (.inr ⟨t, cs, h1, h2⟩)
  blks := fun b x q h1 h3 => by
    have h1' : (σ.h.set nm x1).get b = some x := h1
    rw [Heap.get_set] at h1'
    by_cases h : nm = b
    · subst h
      rw [upd_same, Option.some.injEq] at h3
      subst h3
      exact .inr hp
    · rw [if_neg h] at h1'
      rw [upd_other β p (Ne.symm h)] at h3
      exact .inl ⟨b, x, q, h1', h3, rfl⟩

theorem Step.del (β : Pls) (μ : Fms) (σ : St) (w : World) (b : Nat) : Step β μ σ w β μ { σ with h := σ.h.del b } w where
  ext := fun _ _ h => h
  os := rfl
  tape := rfl
  output := rfl
  size := Nat.le_refl _
  fr := fun _ _ _ => rfl
  own := fun r hm => by
    rcases hm with ⟨k, x, q, h1, h2, h3, h4⟩ | ⟨t, cs, h1, h2⟩
    · have h1' : (σ.h.del b).get k = some x := h1
      rw [Heap.get_del] at h1'
      split at h1'
      · cases h1'
      · exact .inl (.inl ⟨k, x, q, h1', h2, h3, h4⟩)
    · exact .inl (.inr ⟨t, cs, h1, h2⟩)
  blks := fun k x q h1 h3 => by
    have h1' : (σ.h.del b).get k = some x := h1
    rw [Heap.get_del] at h1'
    split at h1'
    · cases h1'
    · exact .inl ⟨k, x, q, h1', h3, rfl⟩

/-- The block goes on under another name. -/
theorem Step.move (hs : Same w w') {b nm : Nat} {x0 x1 : Blk} {p p' : Pl} (hb : σ.h.get b = some x0) (hrw : x0.rw = true) (hp : β b = some p) (hβ : β nm = none) (hpp : p'.rb = p.rb)
    (hch : ∀ r, r < w.heap.size → r ≠ p.rb → w'.heap[r]? = w.heap[r]?) : Step β μ σ w (upd β nm p') μ { σ with h := (σ.h.del b).set nm x1 } w' where
  ext := upd_ext p' hβ
  os := hs.os
  tape := hs.tape
  output := hs.output
  size := hs.size
  fr := fun r hr hn => hch r hr fun h => hn (.inl ⟨b, x0, p, hb, hrw, hp, h.symm⟩)
  own := fun r hm => by
    rcases hm with ⟨k, x, q, h1, h2, h3, h4⟩ | ⟨t, cs, h1, h2⟩
    · have h1' : ((σ.h.del b).set nm x1).get k = some x := h1
      rw [Heap.get_set] at h1'
      by_cases h : nm = k
      · subst h
        rw [upd_same, Option.some.injEq] at h3
        subst h3
        exact .inl (.inl ⟨b, x0, p, hb, hrw, hp, by omega⟩)
      · rw [if_neg h, Heap.get_del] at h1'
        rw [upd_other β p' (Ne.symm h)] at h3
        split at h1'
        · cases h1'
        · exact .inl (.inl ⟨k, x, q, h1', h2, h3, h4⟩)
    · exact .inl (.inr ⟨t, cs, h1, h2⟩)
  blks := fun k x q h1 h3 => by
    have h1' : ((σ.h.del b).set nm x1).get k = some x := h1
    rw [Heap.get_set] at h1'
    by_cases h : nm = k
    · subst h
      rw [upd_same, Option.some.injEq] at h3
      subst h3
      exact .inl ⟨b, x0, p, hb, hp, hpp.symm⟩
    · rw [if_neg h, Heap.get_del] at h1'
      rw [upd_other β p' (Ne.symm h)] at h3
      split at h1'
      · cases h1'
      · exact .inl ⟨k, x, q, h1', h3, rfl⟩

theorem Step.write (hs : Same w w') {b : Nat} {x0 x1 : Blk} {p : Pl} (hb : σ.h.get b = some x0) (hrw : x0.rw = true) (hp : β b = some p)
    (hch : ∀ r, r < w.heap.size → r ≠ p.rb → w'.heap[r]? = w.heap[r]?) : Step β μ σ w β μ { σ with h := σ.h.set b x1 } w' where
  ext := fun _ _ h => h
  os := hs.os
  tape := hs.tape
  output := hs.output
  size := hs.size
  fr := fun r hr hn => hch r hr fun h => hn (.inl ⟨b, x0, p, hb, hrw, hp, h.symm⟩)
  own := fun r hm => by
    rcases hm with ⟨k, x, q, h1, h2, h3, h4⟩ | ⟨t, cs, h1, h2⟩
    · have h1' : (σ.h.set b x1).get k = some x := h1
      rw [Heap.get_set] at h1'
      by_cases h : b = k
      · subst h
        rw [hp, Option.some.injEq] at h3
        subst h3
        exact .inl (.inl ⟨b, x0, p, hb, hrw, hp, h4⟩)
      · rw [if_neg h] at h1'
        exact .inl (.inl ⟨k, x, q, h1', h2, h3, h4⟩)
    · exact .inl (.inr ⟨t, cs, h1, h2⟩)
  blks := fun k x q h1 h3 => by
    have h1' : (σ.h.set b x1).get k = some x := h1
    rw [Heap.get_set] at h1'
    by_cases h : b = k
    · subst h
      exact .inl ⟨b, x0, q, hb, h3, rfl⟩
    · rw [if_neg h] at h1'
      exact .inl ⟨k, x, q, h1', h3, rfl⟩

theorem Step.writeBox (hs : Same w w') {t : Nat} {cs cs' : List C} {r : Nat} (ht : get σ.bx t = some cs) (hr : μ t = some r)
    (hch : ∀ k, k < w.heap.size → k ≠ r → w'.heap[k]? = w.heap[k]?) : Step β μ σ w β μ { σ with bx := setL t cs' σ.bx } w' where
  ext := fun _ _ h => h
  os := hs.os
  tape := hs.tape
  output := hs.output
  size := hs.size
  fr := fun k hk hn => hch k hk fun h => hn (.inr ⟨t, cs, ht, by rw [h]; exact hr⟩)
  own := fun k hm => by
    rcases hm with h | ⟨u, ds, h1, h2⟩
    · exact .inl (.inl h)
    · have h1' : get (setL t cs' σ.bx) u = some ds := h1
      rw [get_setL] at h1'
      by_cases h : t = u
      · subst h
        exact .inl (.inr ⟨t, cs, ht, h2⟩)
      · rw [if_neg h] at h1'
        exact .inl (.inr ⟨u, ds, h1', h2⟩)
  blks := fun k x q h1 h3 => .inl ⟨k, x, q, h1, h3, rfl⟩

theorem Step.makeBox (hs : Same w w') {t : Nat} {cs : List C} {r : Nat} (hr : w.heap.size ≤ r)
    (hch : ∀ k, k < w.heap.size → w'.heap[k]? = w.heap[k]?) : Step β μ σ w β (upd μ t r) { σ with bx := (t, cs) :: σ.bx } w' where
  ext := fun _ _ h => h
  os := hs.os
  tape := hs.tape
  output := hs.output
  size := hs.size
  fr := fun k hk _ => hch k hk
  own := fun k hm => by
    rcases hm with h | ⟨u, ds, h1, h2⟩
    · exact .inl (.inl h)
    · have h1' : get ((t, cs) :: σ.bx) u = some ds := h1
      rw [get_cons] at h1'
      by_cases h : t = u
      · subst h
        rw [upd_same, Option.some.injEq] at h2
        exact .inr (by omega)
      · rw [if_neg h] at h1'
        rw [upd_other μ r (Ne.symm h)] at h2
        exact .inl (.inr ⟨u, ds, h1', h2⟩)
  blks := fun k x q h1 h3 => .inl ⟨k, x, q, h1, h3, rfl⟩

theorem same_alloc (w : World) (o : Obj) : Same w (w.alloc o) := ⟨rfl, rfl, rfl, by simp⟩
theorem same_setRow (w : World) (g : Nat) (cs : Array Value) : Same w (w.setRow g cs) := ⟨rfl, rfl, rfl, by simp⟩
theorem alloc_old (w : World) (o : Obj) (k : Nat) (h : k < w.heap.size) : (w.alloc o).heap[k]? = w.heap[k]? := Below.heap_alloc w o k h
theorem alloc_new (w : World) (o : Obj) : (w.alloc o).heap[w.heap.size]? = some o := by
  show (w.heap.push o)[w.heap.size]? = _
  simp
end blocks
end E
end Go.Proofs.Ytnfehccnofhmnaa
