/-
  An abstract machine of this place's own: what becomes of a state when a block is written, made, handed on, forgotten. No condition.
-/
import Derived.Test.YtibdplfdmncgiaaMC1
set_option linter.all false
namespace Go.Proofs.Ytibdplfdmncgiaa
open Go.RowKit
namespace E
section blocks
variable {N N' : Nat} {β : Pls} {μ : Fms} {nt : Nat} {σ : St} {a : Act} {w w' : World}

def upd {α : Type} (β : Nat → Option α) (b : Nat) (p : α) : Nat → Option α := fun k => if k = b then some p else β k
theorem upd_same {α : Type} (β : Nat → Option α) (b : Nat) (p : α) : upd β b p b = some p := by simp [upd]
theorem upd_other {α : Type} (β : Nat → Option α) {b k : Nat} (p : α) (h : k ≠ b) : upd β b p k = β k := by simp [upd, h]
theorem upd_ext {α : Type} {β : Nat → Option α} {b : Nat} (p : α) (h : β b = none) : ∀ k q, β k = some q → upd β b p k = some q := fun k q e => by
  rw [upd_other β p (fun hk => by subst hk; rw [h] at e; cases e)]; exact e

theorem BRel.lt {p : Pl} {x : Blk} (h : BRel β p x w) : p.rb < w.heap.size := by
  cases x with
  | row rw sz cs => obtain ⟨_, _, arr, el, fr, xs, h3, _⟩ := h; exact (Array.getElem?_eq_some_iff.1 h3).1
  | map es clock => obtain ⟨_, arr, h3, _⟩ := h; exact (Array.getElem?_eq_some_iff.1 h3).1

theorem XRel.lt {r : Nat} {cs : List C} (h : XRel β r cs w) : r < w.heap.size := by
  obtain ⟨arr, el, h3, _⟩ := h; exact (Array.getElem?_eq_some_iff.1 h3).1

/-- The state stands in a world that differs only in what nobody reads. -/
theorem SRel.world (hS : SRel N β μ nt σ a w) (h : ∀ r, r < w.heap.size → w'.heap[r]? = w.heap[r]?) : SRel N β μ nt σ a w' where
  heap := ⟨hS.heap.fresh, fun b x hx => let ⟨p, h1, h2⟩ := hS.heap.blk b x hx; ⟨p, h1, h2.up (fun _ _ h => h) (h _ h2.lt)⟩, hS.heap.apart⟩
  size := hS.size
  defers := hS.defers
  env := hS.env
  box := fun t cs ht => let ⟨r, h1, h2⟩ := hS.box t cs ht; ⟨r, h1, h2.up (fun _ _ h => h) (h _ h2.lt)⟩
  bxap := hS.bxap
  hap := hS.hap

theorem SRel.wider (hS : SRel N β μ nt σ a w) (h : N ≤ N') : SRel N' β μ nt σ a w :=
  { hS with heap := ⟨fun b hb => hS.heap.fresh b (Nat.le_trans h hb), hS.heap.blk, hS.heap.apart⟩ }

/-- A block is forgotten. -/
theorem SRel.del (hS : SRel N β μ nt σ a w) (b : Nat) : SRel N β μ nt { σ with h := σ.h.del b } a w where
  heap := by
    have g : ∀ k x, (σ.h.del b).get k = some x → σ.h.get k = some x := fun k x hx => by
      rw [Heap.get_del] at hx; split at hx
      · cases hx
      · exact hx
    exact ⟨hS.heap.fresh, fun k x hx => hS.heap.blk k x (g k x hx), fun k k' x x' p p' hk h1 h2 => hS.heap.apart k k' x x' p p' hk (g k x h1) (g k' x' h2)⟩
  size := hS.size
  defers := hS.defers
  env := hS.env
  box := hS.box
  bxap := hS.bxap
  hap := fun t cs k x p ht hx => hS.hap t cs k x p ht (by
    have hx' : (σ.h.del b).get k = some x := hx
    rw [Heap.get_del] at hx'; split at hx'
    · cases hx'
    · exact hx')

/-- A block is made, where no other one lies. -/
theorem SRel.make (hS : SRel N β μ nt σ a w) (hN : N ≤ N') {nm : Nat} (hnm : nm < N') (hβ : β nm = none) {p : Pl} {x1 : Blk}
    (hch : ∀ r, r < w.heap.size → r ≠ p.rb → w'.heap[r]? = w.heap[r]?)
    (hfree : ∀ b x q, σ.h.get b = some x → β b = some q → q.rb ≠ p.rb) (hbox : ∀ t cs, get σ.bx t = some cs → μ t ≠ some p.rb)
    (hB : BRel (upd β nm p) p x1 w') : SRel N' (upd β nm p) μ nt { σ with h := σ.h.set nm x1 } a w' where
  heap := by
    have hx := upd_ext p hβ
    refine ⟨fun b hb => ?_, fun b x hb => ?_, fun b b' x x' q q' hne h1 h2 e1 e2 hrw => ?_⟩
    · rw [upd_other β p (by omega)]; exact hS.heap.fresh b (by omega)
    · by_cases hbn : b = nm
      · subst hbn
        have hb' : (σ.h.set b x1).get b = some x := hb
        rw [Heap.get_set, if_pos rfl, Option.some.injEq] at hb'
        subst hb'
        exact ⟨p, upd_same β b p, hB⟩
      · have hb' : (σ.h.set nm x1).get b = some x := hb
        rw [Heap.get_set, if_neg (fun h => hbn h.symm)] at hb'
        obtain ⟨q, h3, h4⟩ := hS.heap.blk b x hb'
        exact ⟨q, hx b q h3, h4.up hx (hch _ h4.lt (hfree b x q hb' h3))⟩
    · have h1' : (σ.h.set nm x1).get b = some x := h1
      have h2' : (σ.h.set nm x1).get b' = some x' := h2
      rw [Heap.get_set] at h1' h2'
      by_cases hbn : nm = b
      · subst hbn
        rw [upd_same, Option.some.injEq] at e1
        subst e1
        rw [if_neg hne] at h2'
        rw [upd_other β p (Ne.symm hne)] at e2
        exact fun h => hfree b' x' q' h2' e2 h.symm
      · rw [if_neg hbn] at h1'
        rw [upd_other β p (fun h => hbn h.symm)] at e1
        by_cases hbn' : nm = b'
        · subst hbn'
          rw [upd_same, Option.some.injEq] at e2
          subst e2
          exact hfree b x q h1' e1
        · rw [if_neg hbn'] at h2'
          rw [upd_other β p (fun h => hbn' h.symm)] at e2
          exact hS.heap.apart b b' x x' q q' hne h1' h2' e1 e2 hrw
  size := hS.size
  defers := hS.defers
  env := fun t v ht => let ⟨x, h1, h2⟩ := hS.env t v ht; ⟨x, h1, h2.up (upd_ext p hβ)⟩
  box := fun t cs ht => by
    obtain ⟨r, h1, h2⟩ := hS.box t cs ht
    refine ⟨r, h1, h2.up (upd_ext p hβ) (hch _ h2.lt fun h => ?_)⟩
    subst h
    exact hbox t cs ht h1
  bxap := hS.bxap
  hap := fun t cs b x q ht hx hq => by
    have hx' : (σ.h.set nm x1).get b = some x := hx
    rw [Heap.get_set] at hx'
    by_cases hbn : nm = b
    · subst hbn
      rw [upd_same, Option.some.injEq] at hq
      subst hq
      exact hbox t cs ht
    · rw [if_neg hbn] at hx'
      rw [upd_other β p (fun h => hbn h.symm)] at hq
      exact hS.hap t cs b x q ht hx' hq

/-- A block is written. -/
theorem SRel.write (hS : SRel N β μ nt σ a w) {b : Nat} {x0 x1 : Blk} {p : Pl} (hb : σ.h.get b = some x0) (hrw : x0.rw = true) (hβ : β b = some p)
    (hch : ∀ r, r < w.heap.size → r ≠ p.rb → w'.heap[r]? = w.heap[r]?) (hB : BRel β p x1 w') : SRel N β μ nt { σ with h := σ.h.set b x1 } a w' where
  heap := by
    refine ⟨hS.heap.fresh, fun k x hk => ?_, fun k k' x x' q q' hne h1 h2 e1 e2 hr => ?_⟩
    · have hk' : (σ.h.set b x1).get k = some x := hk
      rw [Heap.get_set] at hk'
      by_cases hbk : b = k
      · subst hbk
        rw [if_pos rfl, Option.some.injEq] at hk'
        subst hk'
        exact ⟨p, hβ, hB⟩
      · rw [if_neg hbk] at hk'
        obtain ⟨q, h3, h4⟩ := hS.heap.blk k x hk'
        exact ⟨q, h3, h4.up (fun _ _ h => h) (hch _ h4.lt (Ne.symm (hS.heap.apart b k x0 x p q hbk hb hk' hβ h3 hrw)))⟩
    · have h1' : (σ.h.set b x1).get k = some x := h1
      have h2' : (σ.h.set b x1).get k' = some x' := h2
      rw [Heap.get_set] at h1' h2'
      by_cases hbk : b = k
      · subst hbk
        rw [if_neg hne] at h2'
        rw [hβ, Option.some.injEq] at e1
        subst e1
        exact hS.heap.apart b k' x0 x' p q' hne hb h2' hβ e2 hrw
      · rw [if_neg hbk] at h1'
        by_cases hbk' : b = k'
        · subst hbk'
          rw [hβ, Option.some.injEq] at e2
          subst e2
          exact Ne.symm (hS.heap.apart b k x0 x p q hbk hb h1' hβ e1 hrw)
        · rw [if_neg hbk'] at h2'
          exact hS.heap.apart k k' x x' q q' hne h1' h2' e1 e2 hr
  size := hS.size
  defers := hS.defers
  env := hS.env
  box := fun t cs ht => by
    obtain ⟨r, h1, h2⟩ := hS.box t cs ht
    refine ⟨r, h1, h2.up (fun _ _ h => h) (hch _ h2.lt fun h => ?_)⟩
    subst h
    exact hS.hap t cs b x0 p ht hb hβ h1
  bxap := hS.bxap
  hap := fun t cs k x q ht hx hq => by
    have hx' : (σ.h.set b x1).get k = some x := hx
    rw [Heap.get_set] at hx'
    by_cases hbk : b = k
    · subst hbk
      rw [hβ, Option.some.injEq] at hq
      subst hq
      exact hS.hap t cs b x0 p ht hb hβ
    · rw [if_neg hbk] at hx'
      exact hS.hap t cs k x q ht hx' hq

/-- A variable of the frame is written. -/
theorem SRel.writeBox (hS : SRel N β μ nt σ a w) {t : Nat} {cs cs' : List C} {r : Nat} (ht : get σ.bx t = some cs) (hr : μ t = some r)
    (hch : ∀ k, k < w.heap.size → k ≠ r → w'.heap[k]? = w.heap[k]?) (hX : XRel β r cs' w') : SRel N β μ nt { σ with bx := setL t cs' σ.bx } a w' where
  heap := ⟨hS.heap.fresh, fun b x hb => by
    obtain ⟨p, h1, h2⟩ := hS.heap.blk b x hb
    exact ⟨p, h1, h2.up (fun _ _ h => h) (hch _ h2.lt fun h => by
      have := hS.hap t cs b x p ht hb h1
      rw [hr, h] at this
      exact this rfl)⟩, hS.heap.apart⟩
  size := hS.size
  defers := hS.defers
  env := hS.env
  box := fun u ds hu => by
    have hu' : get (setL t cs' σ.bx) u = some ds := hu
    rw [get_setL] at hu'
    by_cases h : t = u
    · subst h
      rw [if_pos rfl, Option.some.injEq] at hu'
      subst hu'
      exact ⟨r, hr, hX⟩
    · rw [if_neg h] at hu'
      obtain ⟨k, h1, h2⟩ := hS.box u ds hu'
      exact ⟨k, h1, h2.up (fun _ _ h => h) (hch _ h2.lt fun hk => by
        subst hk
        exact hS.bxap t u cs ds _ h ht hu' hr h1)⟩
  bxap := fun u u' ds ds' k hne h1 h2 e1 => by
    have f : ∀ v es, get (setL t cs' σ.bx) v = some es → ∃ fs, get σ.bx v = some fs := fun v es hv => by
      rw [get_setL] at hv
      by_cases h : t = v
      · subst h; exact ⟨cs, ht⟩
      · rw [if_neg h] at hv; exact ⟨es, hv⟩
    obtain ⟨fs, g1⟩ := f u ds h1
    obtain ⟨fs', g2⟩ := f u' ds' h2
    exact hS.bxap u u' fs fs' k hne g1 g2 e1
  hap := fun u ds b x p hu hx hp => by
    have hu' : get (setL t cs' σ.bx) u = some ds := hu
    rw [get_setL] at hu'
    by_cases h : t = u
    · subst h; exact hS.hap t cs b x p ht hx hp
    · rw [if_neg h] at hu'; exact hS.hap u ds b x p hu' hx hp

theorem mentionsV_env {σ : St} {t : Nat} (hm : (σ.env.any fun p => mentionsV t p.2) = false) : ∀ u v, get σ.env u = some v → mentionsV t v = false := by
  intro u v hu
  have key : ∀ l : List (Nat × V), (l.any fun p => mentionsV t p.2) = false → get l u = some v → mentionsV t v = false := by
    intro l
    induction l with
    | nil => intro _ h; simp [get] at h
    | cons q l ih =>
      intro hl h
      obtain ⟨k, y⟩ := q
      simp only [List.any_cons, Bool.or_eq_false_iff] at hl
      rw [get_cons] at h
      split at h
      · simp only [Option.some.injEq] at h; subst h; exact hl.1
      · exact ih hl.2 h
  exact key σ.env hm hu

/-- A variable of the frame is made. -/
theorem SRel.makeBox (hS : SRel N β μ nt σ a w) {t : Nat} {cs : List C} {r : Nat} (ht : get σ.bx t = none) (hm : (σ.env.any fun p => mentionsV t p.2) = false)
    (hch : ∀ k, k < w.heap.size → w'.heap[k]? = w.heap[k]?) (hr : w.heap.size ≤ r) (hX : XRel β r cs w') : SRel N β (upd μ t r) nt { σ with bx := (t, cs) :: σ.bx } a w' where
  heap := ⟨hS.heap.fresh, fun b x hb => by
    obtain ⟨p, h1, h2⟩ := hS.heap.blk b x hb
    exact ⟨p, h1, h2.up (fun _ _ h => h) (hch _ h2.lt)⟩, hS.heap.apart⟩
  size := hS.size
  defers := hS.defers
  env := fun u v hu => by
    obtain ⟨x, h1, h2⟩ := hS.env u v hu
    refine ⟨x, h1, h2.ups (fun _ _ h => h) fun k q hk hq => ?_⟩
    rw [upd_other μ r fun h => ?_]
    · exact hq
    · subst h
      rw [mentionsV_env hm u v hu] at hk
      cases hk
  box := fun u ds hu => by
    have hu' : get ((t, cs) :: σ.bx) u = some ds := hu
    rw [get_cons] at hu'
    by_cases h : t = u
    · subst h
      rw [if_pos rfl, Option.some.injEq] at hu'
      subst hu'
      exact ⟨r, upd_same μ t r, hX⟩
    · rw [if_neg h] at hu'
      obtain ⟨k, h1, h2⟩ := hS.box u ds hu'
      exact ⟨k, by rw [upd_other μ r (Ne.symm h)]; exact h1, h2.up (fun _ _ h => h) (hch _ h2.lt)⟩
  bxap := fun u u' ds ds' k hne h1 h2 e1 => by
    have h1' : get ((t, cs) :: σ.bx) u = some ds := h1
    have h2' : get ((t, cs) :: σ.bx) u' = some ds' := h2
    rw [get_cons] at h1' h2'
    have old : ∀ v es, get σ.bx v = some es → ∀ q, μ v = some q → q < w.heap.size := fun v es hv q hq => by
      obtain ⟨q', g1, g2⟩ := hS.box v es hv
      rw [hq, Option.some.injEq] at g1
      subst g1
      exact g2.lt
    by_cases h : t = u
    · subst h
      rw [if_neg hne] at h2'
      rw [upd_same, Option.some.injEq] at e1
      subst e1
      rw [upd_other μ _ (Ne.symm hne)]
      intro he
      have := old u' ds' h2' _ he
      omega
    · rw [if_neg h] at h1'
      rw [upd_other μ r (Ne.symm h)] at e1
      by_cases h' : t = u'
      · subst h'
        rw [upd_same]
        intro he
        simp only [Option.some.injEq] at he
        subst he
        have := old u ds h1' _ e1
        omega
      · rw [if_neg h'] at h2'
        rw [upd_other μ r (Ne.symm h')]
        exact hS.bxap u u' ds ds' k hne h1' h2' e1
  hap := fun u ds b x p hu hx hp => by
    have hu' : get ((t, cs) :: σ.bx) u = some ds := hu
    rw [get_cons] at hu'
    by_cases h : t = u
    · subst h
      rw [upd_same]
      intro he
      simp only [Option.some.injEq] at he
      obtain ⟨q, g1, g2⟩ := hS.heap.blk b x hx
      rw [hp, Option.some.injEq] at g1
      subst g1
      have := g2.lt
      omega
    · rw [if_neg h] at hu'
      rw [upd_other μ r (Ne.symm h)]
      exact hS.hap u ds b x p hu' hx hp

/-! ### The steps -/
structure Same (w w' : World) : Prop where
  os : w'.os = w.os
  tape : w'.tape = w.tape
  output : w'.output = w.output
  size : w.heap.size ≤ w'.heap.size

theorem Step.make (hs : Same w w') {nm : Nat} (hβ : β nm = none) {p : Pl} {x1 : Blk} (hp : w.heap.size ≤ p.rb)
    (hch : ∀ r, r < w.heap.size → w'.heap[r]? = w.heap[r]?) : Step β μ σ w (upd β nm p) μ { σ with h := σ.h.set nm x1 } w' where
  ext := upd_ext p hβ
  os := hs.os
  tape := hs.tape
  output := hs.output
  size := hs.size
  fr := fun r hr _ => hch r hr
  own := fun r hm => by
    rcases hm with ⟨b, x, q, h1, h2, h3, h4⟩ | ⟨t, cs, h1, h2⟩
    · have h1' : (σ.h.set nm x1).get b = some x := h1
      rw [Heap.get_set] at h1'
      by_cases h : nm = b
      · subst h
        rw [upd_same, Option.some.injEq] at h3
        subst h3
        exact .inr (by omega)
      · rw [if_neg h] at h1'
        rw [upd_other β p (Ne.symm h)] at h3
        exact .inl (.inl ⟨b, x, q, h1', h2, h3, h4⟩)
    · exact .inl (.inr ⟨t, cs, h1, h2⟩)
  blks := fun b x q h1 h3 => by
    have h1' : (σ.h.set nm x1).get b = some x := h1
    rw [Heap.get_set] at h1'
    by_cases h : nm = b
    · subst h
      rw [upd_same, Option.some.injEq] at h3
      subst h3
      exact .inr hp
    · rw [if_neg h] at h1'
      rw [upd_other β p (Ne.symm h)] at h3
      exact .inl ⟨b, x, q, h1', h3, rfl⟩

theorem Step.del (β : Pls) (μ : Fms) (σ : St) (w : World) (b : Nat) : Step β μ σ w β μ { σ with h := σ.h.del b } w where
  ext := fun _ _ h => h
  os := rfl
  tape := rfl
  output := rfl
  size := Nat.le_refl _
  fr := fun _ _ _ => rfl
  own := fun r hm => by
    rcases hm with ⟨k, x, q, h1, h2, h3, h4⟩ | ⟨t, cs, h1, h2⟩
    · have h1' : (σ.h.del b).get k = some x := h1
      rw [Heap.get_del] at h1'
      split at h1'
      · cases h1'
      · exact .inl (.inl ⟨k, x, q, h1', h2, h3, h4⟩)
    · exact .inl (.inr ⟨t, cs, h1, h2⟩)
  blks := fun k x q h1 h3 => by
    have h1' : (σ.h.del b).get k = some x := h1
    rw [Heap.get_del] at h1'
    split at h1'
    · cases h1'
    · exact .inl ⟨k, x, q, h1', h3, rfl⟩

/-- The block goes on under another name. -/
theorem Step.move (hs : Same w w') {b nm : Nat} {x0 x1 : Blk} {p p' : Pl} (hb : σ.h.get b = some x0) (hrw : x0.rw = true) (hp : β b = some p) (hβ : β nm = none) (hpp : p'.rb = p.rb)
    (hch : ∀ r, r < w.heap.size → r ≠ p.rb → w'.heap[r]? = w.heap[r]?) : Step β μ σ w (upd β nm p') μ { σ with h := (σ.h.del b).set nm x1 } w' where
  ext := upd_ext p' hβ
  os := hs.os
  tape := hs.tape
  output := hs.output
  size := hs.size
  fr := fun r hr hn => hch r hr fun h => hn (.inl ⟨b, x0, p, hb, hrw, hp, h.symm⟩)
  own := fun r hm => by
    rcases hm with ⟨k, x, q, h1, h2, h3, h4⟩ | ⟨t, cs, h1, h2⟩
    · have h1' : ((σ.h.del b).set nm x1).get k = some x := h1
      rw [Heap.get_set] at h1'
      by_cases h : nm = k
      · subst h
        rw [upd_same, Option.some.injEq] at h3
        subst h3
        exact .inl (.inl ⟨b, x0, p, hb, hrw, hp, by omega⟩)
      · rw [if_neg h, Heap.get_del] at h1'
        rw [upd_other β p' (Ne.symm h)] at h3
        split at h1'
        · cases h1'
        · exact .inl (.inl ⟨k, x, q, h1', h2, h3, h4⟩)
    · exact .inl (.inr ⟨t, cs, h1, h2⟩)
  blks := fun k x q h1 h3 => by
    have h1' : ((σ.h.del b).set nm x1).get k = some x := h1
    rw [Heap.get_set] at h1'
    by_cases h : nm = k
    · subst h
      rw [upd_same, Option.some.injEq] at h3
      subst h3
      exact .inl ⟨b, x0, p, hb, hp, hpp.symm⟩
    · rw [if_neg h, Heap.get_del] at h1'
      rw [upd_other β p' (Ne.symm h)] at h3
      split at h1'
      · cases h1'
      · exact .inl ⟨k, x, q, h1', h3, rfl⟩

theorem Step.write (hs : Same w w') {b : Nat} {x0 x1 : Blk} {p : Pl} (hb : σ.h.get b = some x0) (hrw : x0.rw = true) (hp : β b = some p)
    (hch : ∀ r, r < w.heap.size → r ≠ p.rb → w'.heap[r]? = w.heap[r]?) : Step β μ σ w β μ { σ with h := σ.h.set b x1 } w' where
  ext := fun _ _ h => h
  os := hs.os
  tape := hs.tape
  output := hs.output
  size := hs.size
  fr := fun r hr hn => hch r hr fun h => hn (.inl ⟨b, x0, p, hb, hrw, hp, h.symm⟩)
  own := fun r hm => by
    rcases hm with ⟨k, x, q, h1, h2, h3, h4⟩ | ⟨t, cs, h1, h2⟩
    · have h1' : (σ.h.set b x1).get k = some x := h1
      rw [Heap.get_set] at h1'
      by_cases h : b = k
      · subst h
        rw [hp, Option.some.injEq] at h3
        subst h3
        exact .inl (.inl ⟨b, x0, p, hb, hrw, hp, h4⟩)
      · rw [if_neg h] at h1'
        exact .inl (.inl ⟨k, x, q, h1', h2, h3, h4⟩)
    · exact .inl (.inr ⟨t, cs, h1, h2⟩)
  blks := fun k x q h1 h3 => by
    have h1' : (σ.h.set b x1).get k = some x := h1
    rw [Heap.get_set] at h1'
    by_cases h : b = k
    · subst h
      exact .inl ⟨b, x0, q, hb, h3, rfl⟩
    · rw [if_neg h] at h1'
      exact .inl ⟨k, x, q, h1', h3, rfl⟩

theorem Step.writeBox (hs : Same w w') {t : Nat} {cs cs' : List C} {r : Nat} (ht : get σ.bx t = some cs) (hr : μ t = some r)
    (hch : ∀ k, k < w.heap.size → k ≠ r → w'.heap[k]? = w.heap[k]?) : Step β μ σ w β μ { σ with bx := setL t cs' σ.bx } w' where
  ext := fun _ _ h => h
  os := hs.os
  tape := hs.tape
  output := hs.output
  size := hs.size
  fr := fun k hk hn => hch k hk fun h => hn (.inr ⟨t, cs, ht, by rw [h]; exact hr⟩)
  own := fun k hm => by
    rcases hm with h | ⟨u, ds, h1, h2⟩
    · exact .inl (.inl h)
    · have h1' : get (setL t cs' σ.bx) u = some ds := h1
      rw [get_setL] at h1'
      by_cases h : t = u
      · subst h
        exact .inl (.inr ⟨t, cs, ht, h2⟩)
      · rw [if_neg h] at h1'
        exact .inl (.inr ⟨u, ds, h1', h2⟩)
  blks := fun k x q h1 h3 => .inl ⟨k, x, q, h1, h3, rfl⟩

theorem Step.makeBox (hs : Same w w') {t : Nat} {cs : List C} {r : Nat} (hr : w.heap.size ≤ r)
    (hch : ∀ k, k < w.heap.size → w'.heap[k]? = w.heap[k]?) : Step β μ σ w β (upd μ t r) { σ with bx := (t, cs) :: σ.bx } w' where
  ext := fun _ _ h => h
  os := hs.os
  tape := hs.tape
  output := hs.output
  size := hs.size
  fr := fun k hk _ => hch k hk
  own := fun k hm => by
    rcases hm with h | ⟨u, ds, h1, h2⟩
    · exact .inl (.inl h)
    · have h1' : get ((t, cs) :: σ.bx) u = some ds := h1
      rw [get_cons] at h1'
      by_cases h : t = u
      · subst h
        rw [upd_same, Option.some.injEq] at h2
        exact .inr (by omega)
      · rw [if_neg h] at h1'
        rw [upd_other μ r (Ne.symm h)] at h2
        exact .inl (.inr ⟨u, ds, h1', h2⟩)
  blks := fun k x q h1 h3 => .inl ⟨k, x, q, h1, h3, rfl⟩

theorem same_alloc (w : World) (o : Obj) : Same w (w.alloc o) := ⟨rfl, rfl, rfl, by simp⟩
theorem same_setRow (w : World) (g : Nat) (cs : Array Value) : Same w (w.setRow g cs) := ⟨rfl, rfl, rfl, by simp⟩
theorem alloc_old (w : World) (o : Obj) (k : Nat) (h : k < w.heap.size) : (w.alloc o).heap[k]? = w.heap[k]? := Below.heap_alloc w o k h
theorem alloc_new (w : World) (o : Obj) : (w.alloc o).heap[w.heap.size]? = some o := by
  show (w.heap.push o)[w.heap.size]? = _
  simp
end blocks
end E
end Go.Proofs.Ytibdplfdmncgiaa

/-
  An abstract machine of this place's own: each operation that computes, reads, writes or makes a variable does in the model what it does here. No condition.
-/
namespace Go.Proofs.Ytibdplfdmncgiaa
open Go.RowKit
namespace E
section ops
variable {P : Program} {X : Ctx} {fi : Fi} {N N' nm : Nat} {β : Pls} {μ : Fms} {nt : Nat} {σ σ' : St} {a : Act} {w : World} {o : Oper} {v : V}

def OpOk (P : Program) (fi : Fi) (N' nm : Nat) (β : Pls) (μ : Fms) (nt : Nat) (σ : St) (a : Act) (w : World) (o : Oper) (v : V) (σ' : St) : Prop :=
  ∃ n x w' β' μ', (execOp a.eval o).run P w = .ok n w' ∧ (n = .value x ∨ (n = .skip ∧ x = undef)) ∧ VRel β' μ' v x ∧ SRel N' β' μ' nt σ' a w' ∧ Step β μ σ w β' μ' σ' w' ∧
    (∀ b, (b ≠ nm ∨ makes fi o = false) → β' b = β b) ∧ (∀ t, o.dst ≠ some t → μ' t = μ t) ∧ σ'.h.next = σ.h.next

theorem OpOk.val (hN : N ≤ N') (hS : SRel N β μ nt σ a w) {x : Value} (hr : (execOp a.eval o).run P w = .ok (.value x) w) (hv : VRel β μ v x) : OpOk P fi N' nm β μ nt σ a w o v σ :=
  ⟨_, x, w, β, μ, hr, .inl rfl, hv, hS.wider hN, Step.refl _ _ _ _, fun _ _ => rfl, fun _ _ => rfl, rfl⟩

/-- What the machine is told of the types is so. -/
def TtOk (P : Program) (X : Ctx) : Prop := ∀ t ti, X.tt t = some ti → tiOf P t = some ti ∧ ∃ z, ti.zero = some z ∧ z.cells.size = ti.size

theorem tt_info (hT : TtOk P X) {t : TypeId} {ti : TI} (h : X.tt t = some ti) : ∃ i, P.info? t = some i ∧ i.size = ti.size ∧ i.bytes = ti.bytes ∧ i.zero = ti.zero ∧ P.underlying t = some ti.desc := by
  have := (hT t ti h).1
  unfold tiOf at this
  split at this
  · rename_i i d h1 h2
    simp only [Option.some.injEq] at this
    subst this
    exact ⟨i, h1, rfl, rfl, rfl, h2⟩
  · cases this

theorem onV_some {x : Operand} {k : V → Option (V × St)} (h : onV σ x k = some (v, σ')) : ∃ u, ev σ x = some u ∧ k u = some (v, σ') := by
  unfold onV at h
  split at h
  · rename_i u hu; exact ⟨u, hu, h⟩
  · cases h

theorem onC_some {x : Operand} {k : C → Option (V × St)} (h : onC σ x k = some (v, σ')) : ∃ c, ev σ x = some (.one c) ∧ k c = some (v, σ') := by
  unfold onC at h
  split at h
  · rename_i u hu; exact ⟨u, hu, h⟩
  · cases h

theorem onTI_some {t : TypeId} {k : TI → Option (V × St)} (h : onTI X t k = some (v, σ')) : ∃ ti, X.tt t = some ti ∧ k ti = some (v, σ') := by
  unfold onTI at h
  split at h
  · rename_i u hu; exact ⟨u, hu, h⟩
  · cases h

theorem op_move (hN : N ≤ N') (hS : SRel N β μ nt σ a w) {x : Operand} (ho : o.op = .move x ∨ o.op = .assign x) (h : onV σ x (fun v => some (v, σ)) = some (v, σ')) : OpOk P fi N' nm β μ nt σ a w o v σ' := by
  obtain ⟨u, h1, h2⟩ := onV_some h
  simp only [Option.some.injEq, Prod.mk.injEq] at h2
  obtain ⟨rfl, rfl⟩ := h2
  refine OpOk.val hN hS (x := a.eval x) ?_ (ev_ok hS h1)
  unfold execOp
  rcases ho with ho | ho <;> simp only [ho] <;> rfl

theorem op_pick (hN : N ≤ N') (hS : SRel N β μ nt σ a w) {c x y : Operand} (ho : o.op = .pick c x y) (h : op P X fi nm o σ = some (v, σ')) : OpOk P fi N' nm β μ nt σ a w o v σ' := by
  simp only [op, ho] at h
  obtain ⟨k, h1, h2⟩ := onC_some h
  have hc := ev_ok hS h1
  split at h2
  · rename_i t
    obtain ⟨u, h3, h4⟩ := onV_some h2
    simp only [Option.some.injEq, Prod.mk.injEq] at h4
    obtain ⟨rfl, rfl⟩ := h4
    have hc' : a.eval c = .bool t := hc
    refine OpOk.val hN hS (x := a.eval (if t then x else y)) ?_ (ev_ok hS h3)
    unfold execOp
    simp only [ho, hc', asBool, Sem.run_bind, Sem.run_pure, Result.andThen_ok]
    cases t <;> rfl
  · cases h2

theorem op_extract (hN : N ≤ N') (hS : SRel N β μ nt σ a w) {x : Operand} {i : Nat} (ho : o.op = .extract x i) (h : op P X fi nm o σ = some (v, σ')) : OpOk P fi N' nm β μ nt σ a w o v σ' := by
  simp only [op, ho] at h
  obtain ⟨k, h1, h2⟩ := onV_some h
  have hc := ev_ok hS h1
  split at h2
  · rename_i vs
    obtain ⟨l, hl, hall⟩ := hc
    simp only [Option.map_eq_some_iff, Prod.mk.injEq] at h2
    obtain ⟨u, hu, rfl, rfl⟩ := h2
    obtain ⟨y, hy, hr⟩ := hall.get hu
    refine OpOk.val hN hS (x := y) ?_ hr.up
    have hy' : l[i]? = some y := by simpa using hy
    unfold execOp
    simp only [ho, hl, Instr.extract, hy', Sem.run_bind, Sem.run_pure, Result.andThen_ok]
  · cases h2

theorem vcells_ok {cs : List C} {x : Value} (hv : VRel β μ v x) (hc : v.cells = some cs) (hok : cs.all C.ok = true) : All2 (CRel β μ) cs x.cells.toList := by
  cases v with
  | one c =>
    simp only [V.cells, Option.some.injEq] at hc
    subst hc
    simp only [List.all_cons, List.all_nil, Bool.and_true] at hok
    have h1 := CRel.oneCell hok hv
    have : x.cells = #[x] := by cases x <;> simp_all [Value.cells, Value.oneCell']
    rw [this]
    exact ⟨hv, trivial⟩
  | agg ds =>
    simp only [V.cells, Option.some.injEq] at hc
    subst hc
    obtain ⟨l, rfl, h2⟩ := hv
    exact h2
  | tup vs => simp [V.cells] at hc

/-- A variable made: of the frame, or in a block. -/
theorem newVar_ok (hmk : ∀ t, o.dst = some t → makes fi o = !fi.prom.contains t) (hN : N ≤ N') (hnm : nm < N') (hβ : β nm = none) (hS : SRel N β μ nt σ a w) {cs : List C} {arr : Array Value} {e : TypeId}
    (hr : (execOp a.eval o).run P w = .ok (.value (.pointer (some ⟨w.heap.size, 0, none⟩))) (w.alloc (.cells arr e))) (hc : cs.all C.ok = true → All2 (CRel β μ) cs arr.toList)
    (h : newVarE fi nm o.dst σ cs = some (v, σ')) : OpOk P fi N' nm β μ nt σ a w o v σ' := by
  unfold newVarE at h
  split at h
  · rename_i t ht
    cases hp : fi.prom.contains t with
    | true =>
      rw [hp, cond_true] at h
      simp only [newBox, Option.map_eq_some_iff, Prod.mk.injEq] at h
      obtain ⟨σ1, h1, rfl, rfl⟩ := h
      split at h1
      · rename_i hc1
        simp only [Bool.and_eq_true, Bool.not_eq_true', Option.isNone_iff_eq_none] at hc1
        obtain ⟨⟨hok, hfree⟩, hm⟩ := hc1
        simp only [Option.some.injEq] at h1
        subst h1
        have hX : XRel β w.heap.size cs (w.alloc (.cells arr e)) := ⟨arr, e, alloc_new w _, all2_noF hok (hc hok)⟩
        have hS' := hS.makeBox (w' := w.alloc (.cells arr e)) hfree hm (fun k hk => alloc_old w _ k hk) (Nat.le_refl _) hX
        refine ⟨_, _, _, β, upd μ t w.heap.size, hr, .inl rfl, ⟨w.heap.size, upd_same μ t _, rfl⟩, hS'.wider hN, Step.makeBox (same_alloc w _) (Nat.le_refl _) (fun k hk => alloc_old w _ k hk), fun _ _ => rfl, fun u hu => ?_, rfl⟩
        exact upd_other μ _ fun h => hu (by rw [ht, h])
      · cases h1
    | false =>
      rw [hp, cond_false] at h
      simp only [newRowH, Option.map_eq_some_iff, Prod.mk.injEq] at h
      obtain ⟨σ1, h1, rfl, rfl⟩ := h
      split at h1
      · rename_i hok
        simp only [Option.some.injEq] at h1
        subst h1
        have hall := all2_noF (μ' := noF) hok (hc hok)
        have hlen : arr.size = cs.length := by have := hall.length; simp at this; omega
        let p : Pl := ⟨w.heap.size, 0, arr.size, cs.length, 0⟩
        have hB : BRel (upd β nm p) p (.row true 0 cs) (w.alloc (.cells arr e)) :=
          ⟨rfl, rfl, arr, e, (0, 0), arr.toList, alloc_new w _, fun j x hj => by simpa [p] using hj, hall.mono fun _ _ _ => CRel.up (upd_ext p hβ) fun _ _ _ h => h, rfl, by show 0 + cs.length ≤ arr.size; omega, fun _ => rfl⟩
        have hS' := hS.make (N' := N') (w' := w.alloc (.cells arr e)) hN hnm hβ (p := p) (x1 := .row true 0 cs) (fun r hr _ => alloc_old w _ r hr)
          (fun b x q hb hq => by obtain ⟨q', g1, g2⟩ := hS.heap.blk b x hb; rw [hq, Option.some.injEq] at g1; subst g1; exact Nat.ne_of_lt g2.lt)
          (fun u ds hu he => by obtain ⟨r, g1, g2⟩ := hS.box u ds hu; rw [he, Option.some.injEq] at g1; subst g1; exact absurd g2.lt (Nat.lt_irrefl _)) hB
        exact ⟨_, _, _, upd β nm p, μ, hr, .inl rfl, ⟨p, upd_same β nm p, rfl⟩, hS', Step.make (same_alloc w _) hβ (Nat.le_refl _) (fun k hk => alloc_old w _ k hk), fun b hb => upd_other β p (hb.resolve_right (by rw [hmk t ht, hp]; simp)), fun _ _ => rfl, rfl⟩
      · cases h1
  · cases h

theorem all2_lits : ∀ (l : List Value), All2 (CRel β μ) (l.map .lit) l
  | [] => trivial
  | _ :: l => ⟨rfl, all2_lits l⟩

theorem op_alloc (hT : TtOk P X) (hN : N ≤ N') (hnm : nm < N') (hβ : β nm = none) (hS : SRel N β μ nt σ a w) {e : TypeId} (ho : o.op = .alloc e) (h : op P X fi nm o σ = some (v, σ')) : OpOk P fi N' nm β μ nt σ a w o v σ' := by
  simp only [op, ho] at h
  obtain ⟨ti, h1, h2⟩ := onTI_some h
  obtain ⟨i, hi, hs, hb, hz, hu⟩ := tt_info hT h1
  split at h2
  · rename_i cs hcs
    split at h2
    · simp only [zeroC, Option.map_eq_some_iff] at hcs
      obtain ⟨z, hz1, rfl⟩ := hcs
      refine newVar_ok (fun t ht => by simp [makes, ho, ht]) hN hnm hβ hS (arr := z.cells) (e := e) ?_ (fun _ => all2_lits _) h2
      unfold execOp
      simp only [ho, Instr.alloc, zeroValue, typeInfo, program, Sem.run_bind, Sem.run, hi, hz, hz1, Sem.run_pure, Result.andThen_ok, newVar, newRow, newObj]
      rfl
    · cases h2
  · cases h2

theorem op_box (hN : N ≤ N') (hnm : nm < N') (hβ : β nm = none) (hS : SRel N β μ nt σ a w) {e : TypeId} {x : Operand} (ho : o.op = .box e x) (h : op P X fi nm o σ = some (v, σ')) : OpOk P fi N' nm β μ nt σ a w o v σ' := by
  simp only [op, ho] at h
  obtain ⟨u, h1, h2⟩ := onV_some h
  split at h2
  · rename_i cs hcs
    refine newVar_ok (fun t ht => by simp [makes, ho, ht]) hN hnm hβ hS (arr := (a.eval x).cells) (e := e) ?_ (fun hok => vcells_ok (ev_ok hS h1) hcs hok) h2
    unfold execOp
    simp only [ho, Instr.box, Sem.run_bind, Sem.run_pure, Result.andThen_ok, newVar, newRow, newObj, Sem.run]
    rfl
  · cases h2

theorem rd_some {cs ds : List C} {k n : Nat} (h : rd cs k n = some ds) : k + n ≤ cs.length ∧ ds = (cs.drop k).take n := by
  unfold rd at h
  split at h
  · rename_i hle
    simp only [Option.some.injEq] at h
    exact ⟨hle, h.symm⟩
  · cases h

theorem wr_some {cs xs ds : List C} {k : Nat} (h : wr cs k xs = some ds) : k + xs.length ≤ cs.length ∧ ds = cs.take k ++ (xs ++ cs.drop (k + xs.length)) := by
  unfold wr at h
  split at h
  · rename_i hle
    simp only [Option.some.injEq] at h
    exact ⟨hle, h.symm⟩
  · cases h

/-- Cells that lie somewhere, with an address, and what is read there. -/
def Lies (β : Pls) (μ : Fms) (w : World) (c : C) (n : Nat) (cs : List C) : Prop :=
  ∃ rb k xs, (∀ x, CRel β μ c x → x = .pointer (some ⟨rb, k, none⟩)) ∧ xs.length = n ∧ w.rangeAt rb k xs ∧ All2 (CRel β noF) cs xs

theorem cell_row {r k : Nat} {arr : Array Value} {el : TypeId} {fr : Nat × Nat} (h : w.heap[r]? = some (.cells arr el fr)) : w.cell? ⟨r, k, none⟩ = arr[k]? := cell_of_row w r k arr el fr h

theorem lies (hS : SRel N β μ nt σ a w) {c : C} {n : Nat} {cs : List C} (h : loadC σ c n = some cs) : Lies β μ w c n cs := by
  unfold loadC at h
  split at h
  · rename_i t k
    simp only [Option.bind_eq_some_iff] at h
    obtain ⟨bs, hb, hr⟩ := h
    obtain ⟨r, hμ, arr, el, hh, hall⟩ := hS.box t bs hb
    obtain ⟨hle, rfl⟩ := rd_some hr
    have hlen := hall.length
    refine ⟨r, k, (arr.toList.drop k).take n, fun x hx => ?_, ?_, fun j y hj => ?_, (hall.drop k).take n⟩
    · obtain ⟨r', g1, rfl⟩ := hx
      rw [hμ, Option.some.injEq] at g1
      subst g1
      rfl
    · simp only [List.length_take, List.length_drop]
      omega
    · rw [cell_row hh]
      rw [List.getElem?_take] at hj
      split at hj
      · simpa [List.getElem?_drop] using hj
      · cases hj
  · rename_i b k
    split at h
    · rename_i rw sz bs hb
      obtain ⟨p, hβ, hsz, hn, arr, el, fr, xs, hh, hw, hall, hext, hfit, hfr⟩ := hS.heap.blk b _ hb
      obtain ⟨hle, rfl⟩ := rd_some h
      have hlen := hall.length
      refine ⟨p.rb, p.ro + k, (xs.drop k).take n, fun x hx => ?_, ?_, fun j y hj => ?_, (hall.drop k).take n⟩
      · obtain ⟨p', g1, rfl⟩ := hx
        rw [hβ, Option.some.injEq] at g1
        subst g1
        rfl
      · simp only [List.length_take, List.length_drop]
        omega
      · rw [cell_row hh]
        rw [List.getElem?_take] at hj
        split at hj
        · have := hw (k + j) y (by simpa [List.getElem?_drop] using hj)
          simpa [Nat.add_assoc] using this
        · cases hj
    · cases h
  · cases h

theorem run_load_one {t : TypeId} {d : TypeDesc} (hu : P.underlying t = some d) (hd : isAggD d = false) {r k : Nat} {x : Value} (hx : w.cell? ⟨r, k, none⟩ = some x) :
    (loadVar t ⟨r, k, none⟩).run P w = .ok x w := by
  have hagg : (isAgg t).run P w = .ok false w := by
    unfold isAgg
    rw [Sem.run_bind, run_underlying hu w]
    cases d <;> simp_all [isAggD]
  simp [loadVar, Sem.run_bind, hagg, Go.load, Sem.run, hx]

theorem op_load (hT : TtOk P X) (hN : N ≤ N') (hS : SRel N β μ nt σ a w) {t : TypeId} {x : Operand} (ho : o.op = .load t x) (h : op P X fi nm o σ = some (v, σ')) : OpOk P fi N' nm β μ nt σ a w o v σ' := by
  simp only [op, ho] at h
  obtain ⟨ti, h1, h2⟩ := onTI_some h
  obtain ⟨i, hi, hs, hb, hz, hu⟩ := tt_info hT h1
  obtain ⟨c, h3, h4⟩ := onC_some h2
  simp only [load, Option.map_eq_some_iff, Option.bind_eq_some_iff, Prod.mk.injEq] at h4
  obtain ⟨v', ⟨cs, h5, h6⟩, rfl, rfl⟩ := h4
  obtain ⟨r, k, xs, hptr, hlen, hrange, hall⟩ := lies hS h5
  have hx := hptr _ (ev_ok hS h3)
  have hall' : All2 (CRel β μ) cs xs := hall.mono fun c _ y hc => hc.up (fun _ _ h => h) fun t r ht hn => by cases hn
  cases hd : isAggD ti.desc with
  | true =>
    rw [hd] at h6
    simp only [mkV, Option.some.injEq] at h6
    subst h6
    refine OpOk.val hN hS (x := .agg xs.toArray) ?_ ⟨xs.toArray, rfl, by simpa using hall'⟩
    have hrow : ti.desc.isRow = true := by cases hq : ti.desc <;> simp_all [isAggD, TypeDesc.isRow]
    have := run_loadVar_mid (P := P) w r k t xs ti.desc hrange hu hrow (by rw [hi]; simp only [Option.map_some, Option.some.injEq]; rw [hs, hlen, sizeV, if_pos hd])
    unfold execOp
    simp only [ho, hx, Instr.loadAt, Instr.sureAddr, Sem.run_bind, Sem.run_pure, Result.andThen_ok, this]
  | false =>
    have h1' : sizeV ti = 1 := by simp [sizeV, hd]
    rw [h1'] at hlen
    rw [hd] at h6
    match xs, hlen, cs, hall', h6 with
    | [y], _, [c'], hall', h6 =>
      simp only [mkV, Option.some.injEq] at h6
      subst h6
      refine OpOk.val hN hS (x := y) ?_ hall'.1
      have := run_load_one (P := P) hu hd (hrange 0 y rfl)
      simp only [Nat.add_zero] at this
      unfold execOp
      simp only [ho, hx, Instr.loadAt, Instr.sureAddr, Sem.run_bind, Sem.run_pure, Result.andThen_ok, this]
end ops
end E
end Go.Proofs.Ytibdplfdmncgiaa

/-
  An abstract machine of this place's own: stores, addresses, parts, comparisons: in the model as here. No condition.
-/
namespace Go.Proofs.Ytibdplfdmncgiaa
open Go.RowKit
namespace E
section ops
variable {P : Program} {X : Ctx} {fi : Fi} {N N' nm : Nat} {β : Pls} {μ : Fms} {nt : Nat} {σ σ' : St} {a : Act} {w : World} {o : Oper} {v : V}

theorem winAt_over {arr : Array Value} {k o : Nat} {xs ys : List Value} (h : winAt arr k xs) (hfit : k + xs.length ≤ arr.size) (hle : o + ys.length ≤ xs.length) :
    winAt (arr.toList.take (k + o) ++ ys ++ arr.toList.drop (k + o + ys.length)).toArray k (xs.take o ++ (ys ++ xs.drop (o + ys.length))) := by
  intro j x hj
  have hsz : arr.toList.length = arr.size := by simp
  simp only [List.getElem?_toArray]
  rcases Nat.lt_or_ge j o with h1 | h1
  · rw [List.append_assoc, List.getElem?_append_left (by simp; omega), List.getElem?_take, if_pos (by omega)]
    rw [List.getElem?_append_left (by simp; omega), List.getElem?_take, if_pos h1] at hj
    simpa using h j x hj
  · rw [List.getElem?_append_right (by simp; omega)] at hj
    rw [List.append_assoc, List.getElem?_append_right (by simp; omega)]
    have e1 : (xs.take o).length = o := by simp; omega
    have e2 : (arr.toList.take (k + o)).length = k + o := by simp; omega
    rw [e1] at hj
    rw [e2]
    rcases Nat.lt_or_ge j (o + ys.length) with h2 | h2
    · rw [List.getElem?_append_left (by omega)] at hj ⊢
      rw [show k + j - (k + o) = j - o by omega]
      exact hj
    · rw [List.getElem?_append_right (by omega)] at hj ⊢
      rw [List.getElem?_drop] at hj ⊢
      have e3 : o + ys.length + (j - o - ys.length) = j := by omega
      have e4 : k + o + ys.length + (k + j - (k + o) - ys.length) = k + j := by omega
      rw [e3] at hj
      rw [e4]
      simpa using h j x hj

theorem all2_over {β' : Pls} {μ' : Fms} {cs ds : List C} {xs ys : List Value} {k : Nat} (h : All2 (CRel β' μ') cs xs) (h' : All2 (CRel β' μ') ds ys) :
    All2 (CRel β' μ') (cs.take k ++ (ds ++ cs.drop (k + ds.length))) (xs.take k ++ (ys ++ xs.drop (k + ys.length))) := by
  rw [← h'.length]
  exact (h.take k).append (h'.append (h.drop _))

theorem size_over {arr : Array Value} {k : Nat} {ys : List Value} (hle : k + ys.length ≤ arr.size) : (arr.toList.take k ++ ys ++ arr.toList.drop (k + ys.length)).toArray.size = arr.size := by
  simp
  omega

/-- Cells written over others: the model's run, and the state behind it. -/
theorem storeC_ok (hN : N ≤ N') (hS : SRel N β μ nt σ a w) {c : C} {cs : List C} {ys : List Value} {x : Value} (hx : CRel β μ c x) (hall : All2 (CRel β μ) cs ys) (h : storeC σ c cs = some σ') :
    ∃ r k w', x = .pointer (some ⟨r, k, none⟩) ∧ (storeCells ⟨r, k, none⟩ ys).run P w = .ok () w' ∧ SRel N' β μ nt σ' a w' ∧ Step β μ σ w β μ σ' w' ∧ σ'.h.next = σ.h.next := by
  unfold storeC at h
  split at h
  · rename_i hok
    have h1 : ∀ y ∈ ys, y.oneCell' = true := all2_oneCell hok hall
    have hall0 := all2_noF (μ' := noF) hok hall
    have hlen := hall.length
    split at h
    · rename_i t k
      simp only [Option.bind_eq_some_iff, Option.map_eq_some_iff] at h
      obtain ⟨bs, hb, ds, hw, rfl⟩ := h
      obtain ⟨hle, rfl⟩ := wr_some hw
      obtain ⟨r, hμ, arr, el, hh, hbx⟩ := hS.box t bs hb
      obtain ⟨r', g1, rfl⟩ := hx
      rw [hμ, Option.some.injEq] at g1
      subst g1
      have hbl := hbx.length
      have hsz : arr.toList.length = arr.size := by simp
      have hrun := run_storeCells_at P r k el ys 0 arr w hh (by omega) h1
      simp only [Nat.add_zero] at hrun
      refine ⟨r, k, _, rfl, hrun, ?_, Step.writeBox (same_setRow w _ _) hb hμ (fun q _ hq => setRow_other w r q _ hq), rfl⟩
      refine (hS.writeBox hb hμ (fun q _ hq => setRow_other w r q _ hq) ⟨_, el, setRow_heap w r arr _ el (0, 0) hh, ?_⟩).wider hN
      have := all2_over (k := k) hbx hall0
      simpa [List.append_assoc] using this
    · rename_i b k
      split at h
      · rename_i sz bs hb
        simp only [Option.map_eq_some_iff] at h
        obtain ⟨ds, hw, rfl⟩ := h
        obtain ⟨hle, rfl⟩ := wr_some hw
        obtain ⟨p, hβ, hsz, hn, arr, el, fr, xs, hh, hwin, hbx, hext, hfit, hfr⟩ := hS.heap.blk b _ hb
        obtain rfl := hfr rfl
        obtain ⟨p', g1, rfl⟩ := hx
        rw [hβ, Option.some.injEq] at g1
        subst g1
        have hbl := hbx.length
        have hrun := run_storeCells_at P p.rb (p.ro + k) el ys 0 arr w hh (by omega) h1
        simp only [Nat.add_zero] at hrun
        refine ⟨p.rb, p.ro + k, _, rfl, hrun, ?_, Step.write (same_setRow w _ _) hb rfl hβ (fun q _ hq => setRow_other w p.rb q _ hq), rfl⟩
        refine (hS.write (x1 := .row true sz _) hb rfl hβ (fun q _ hq => setRow_other w p.rb q _ hq) ?_).wider hN
        refine ⟨hsz, ?_, _, el, (0, 0), xs.take k ++ (ys ++ xs.drop (k + ys.length)), setRow_heap w p.rb arr _ el (0, 0) hh, winAt_over hwin (by omega) (by omega), all2_over hbx hall0, ?_, ?_, fun _ => rfl⟩
        · rw [hn]; simp; omega
        · rw [hext, size_over (by omega)]
        · rw [size_over (by omega)]; simp; omega
      · cases h
    · cases h
  · cases h

theorem op_store (hT : TtOk P X) (hN : N ≤ N') (hS : SRel N β μ nt σ a w) {t : TypeId} {x y : Operand} (ho : o.op = .store t x y) (h : op P X fi nm o σ = some (v, σ')) : OpOk P fi N' nm β μ nt σ a w o v σ' := by
  simp only [op, ho] at h
  obtain ⟨ti, h1, h2⟩ := onTI_some h
  obtain ⟨i, hi, hs, hb, hz, hu⟩ := tt_info hT h1
  obtain ⟨c, h3, h4⟩ := onC_some h2
  obtain ⟨u, h5, h6⟩ := onV_some h4
  split at h6
  · rename_i cs hcs
    split at h6
    · rename_i hsz
      simp only [Option.map_eq_some_iff, Prod.mk.injEq] at h6
      obtain ⟨σ1, h7, rfl, rfl⟩ := h6
      have hok : cs.all C.ok = true := by
        unfold storeC at h7
        split at h7
        · assumption
        · cases h7
      have hall := vcells_ok (ev_ok hS h5) hcs hok
      obtain ⟨r, k, w', hx, hrun, hS', hst, hnx⟩ := storeC_ok (P := P) hN hS (ev_ok hS h3) hall h7
      refine ⟨.skip, undef, w', β, μ, ?_, .inr ⟨rfl, rfl⟩, rfl, hS', hst, fun _ _ => rfl, fun _ _ => rfl, hnx⟩
      have hl : (a.eval y).cells.size = i.size := by
        have := hall.length
        simp at this
        omega
      unfold execOp
      simp [ho, hx, Instr.storeAt, Instr.sureAddr, storeVar, Go.sizeOf, typeInfo, hi, hl, hrun]
    · cases h6
  · cases h6

theorem op_nilCheck (hN : N ≤ N') (hS : SRel N β μ nt σ a w) {x : Operand} (ho : o.op = .nilCheck x) (h : op P X fi nm o σ = some (v, σ')) : OpOk P fi N' nm β μ nt σ a w o v σ' := by
  simp only [op, ho] at h
  obtain ⟨c, h3, h4⟩ := onC_some h
  have hx := ev_ok hS h3
  split at h4
  · rename_i b k
    simp only [Option.some.injEq, Prod.mk.injEq] at h4
    obtain ⟨rfl, rfl⟩ := h4
    refine OpOk.val hN hS (x := a.eval x) ?_ hx
    obtain ⟨p, _, hx'⟩ := hx
    unfold execOp
    simp only [ho, hx']
    rfl
  · rename_i b k
    simp only [Option.some.injEq, Prod.mk.injEq] at h4
    obtain ⟨rfl, rfl⟩ := h4
    refine OpOk.val hN hS (x := a.eval x) ?_ hx
    obtain ⟨p, _, hx'⟩ := hx
    unfold execOp
    simp only [ho, hx']
    rfl
  · cases h4

theorem shift_ok {c c' : C} {k : Nat} {x : Value} (h : shiftC c k = some c') (hx : CRel β μ c x) : ∃ r q, x = .pointer (some ⟨r, q, none⟩) ∧ CRel β μ c' (.pointer (some ⟨r, q + k, none⟩)) := by
  unfold shiftC at h
  split at h
  · simp only [Option.some.injEq] at h
    subst h
    obtain ⟨r, h1, rfl⟩ := hx
    exact ⟨_, _, rfl, r, h1, rfl⟩
  · simp only [Option.some.injEq] at h
    subst h
    obtain ⟨p, h1, rfl⟩ := hx
    exact ⟨_, _, rfl, p, h1, by rw [Nat.add_assoc]⟩
  · cases h

theorem field_info (hT : TtOk P X) {t : TypeId} {f : Nat} {off : Nat} {fi' : TI} (h : fieldTI X t f = some (off, fi')) :
    ∃ fs fd i, P.underlying t = some (.struct fs) ∧ fs[f]? = some fd ∧ fd.offset = off ∧ X.tt fd.type = some fi' ∧ P.info? fd.type = some i ∧ i.size = fi'.size ∧ P.underlying fd.type = some fi'.desc := by
  unfold fieldTI at h
  split at h
  · rename_i ti hti
    split at h
    · rename_i fs hd
      split at h
      · rename_i fd hfd
        split at h
        · rename_i ft hft
          simp only [Option.some.injEq, Prod.mk.injEq] at h
          obtain ⟨rfl, rfl⟩ := h
          obtain ⟨i, hi, hs, hb, hz, hu⟩ := tt_info hT hti
          obtain ⟨i', hi', hs', hb', hz', hu'⟩ := tt_info hT hft
          exact ⟨fs, fd, i', by rw [hu, hd], by simpa using hfd, rfl, hft, hi', hs', hu'⟩
        · cases h
      · cases h
    · cases h
  · cases h

theorem op_fieldAddr (hT : TtOk P X) (hN : N ≤ N') (hS : SRel N β μ nt σ a w) {t : TypeId} {x : Operand} {f : Nat} (ho : o.op = .fieldAddr t x f) (h : op P X fi nm o σ = some (v, σ')) : OpOk P fi N' nm β μ nt σ a w o v σ' := by
  simp only [op, ho] at h
  split at h
  · rename_i off ft hft
    obtain ⟨fs, fd, i, hu, hfd, hoff, _, hi, hs, _⟩ := field_info hT hft
    split at h
    · rename_i hpos
      obtain ⟨c, h3, h4⟩ := onC_some h
      simp only [Option.map_eq_some_iff, Prod.mk.injEq] at h4
      obtain ⟨c', h5, rfl, rfl⟩ := h4
      obtain ⟨r, q, hx, hc'⟩ := shift_ok h5 (ev_ok hS h3)
      refine OpOk.val hN hS (x := .pointer (some ⟨r, q + off, none⟩)) ?_ hc'
      have hne : ¬ i.size = 0 := by omega
      unfold execOp
      simp [ho, hx, Instr.fieldAt, run_underlying hu, hfd, Instr.sureAddr, fieldPlace, Go.sizeOf, typeInfo, hi, hne, Addr.add_mid, hoff]
    · cases h
  · cases h

theorem part_ok {ti : TI} {i : TypeInfo} {t : TypeId} (hi : P.info? t = some i) (hs : i.size = ti.size) (hu : P.underlying t = some ti.desc) {arr : Array Value} {cs : List C} {off : Nat}
    (hall : All2 (CRel β μ) cs arr.toList) (h : partV ti cs off = some v) : ∃ x, (part t arr off).run P w = .ok x w ∧ VRel β μ v x := by
  simp only [partV, Option.bind_eq_some_iff] at h
  obtain ⟨ds, h1, h2⟩ := h
  obtain ⟨hle, rfl⟩ := rd_some h1
  have hagg : (isAgg t).run P w = .ok (isAggD ti.desc) w := by
    unfold isAgg
    rw [Sem.run_bind, run_underlying hu w]
    cases ti.desc <;> rfl
  have hall' := (hall.drop off).take (sizeV ti)
  cases hd : isAggD ti.desc with
  | true =>
    rw [hd] at h2 hagg
    simp only [mkV, Option.some.injEq] at h2
    subst h2
    have hsz : sizeV ti = ti.size := by simp [sizeV, hd]
    refine ⟨.agg (arr.extract off (off + i.size)), ?_, _, rfl, ?_⟩
    · simp [part, hagg, Go.sizeOf, typeInfo, hi]
    · rw [hs, ← hsz]
      simpa [List.extract_eq_take_drop, Array.toList_extract] using hall'
  | false =>
    rw [hd] at h2 hagg
    have hsz : sizeV ti = 1 := by simp [sizeV, hd]
    rw [hsz] at h2 hall' hle
    have hlt : off < cs.length := by omega
    have hc : (cs.drop off).take 1 = [cs[off]] := by
      rw [List.take_one, List.head?_drop]
      simp [List.getElem?_eq_getElem hlt]
    rw [hc] at h2
    simp only [mkV, Option.some.injEq] at h2
    subst h2
    obtain ⟨y, hy, hr⟩ := hall.get (i := off) (List.getElem?_eq_getElem hlt)
    refine ⟨y, ?_, hr⟩
    have hy' : arr[off]? = some y := by simpa using hy
    simp [part, hagg, hy']

theorem op_field (hT : TtOk P X) (hN : N ≤ N') (hS : SRel N β μ nt σ a w) {t : TypeId} {x : Operand} {f : Nat} (ho : o.op = .field t x f) (h : op P X fi nm o σ = some (v, σ')) : OpOk P fi N' nm β μ nt σ a w o v σ' := by
  simp only [op, ho] at h
  split at h
  · rename_i off ft hft
    obtain ⟨fs, fd, i, hu, hfd, hoff, _, hi, hs, hu'⟩ := field_info hT hft
    obtain ⟨u, h3, h4⟩ := onV_some h
    have hx := ev_ok hS h3
    split at h4
    · rename_i cs
      simp only [Option.map_eq_some_iff, Prod.mk.injEq] at h4
      obtain ⟨v', h5, rfl, rfl⟩ := h4
      obtain ⟨arr, hx', hall⟩ := hx
      obtain ⟨y, hrun, hr⟩ := part_ok (P := P) (w := w) hi hs hu' hall h5
      refine OpOk.val hN hS (x := y) ?_ hr
      unfold execOp
      simp [ho, hx', Instr.field, run_underlying hu, hfd, asAgg, hoff, hrun]
    · cases h4
  · cases h

theorem idx_ok {u : V} {x : Value} {j : Int} (h : idxOf u = some j) (hx : VRel β μ u x) : ∃ k, x = .int k j := by
  unfold idxOf at h
  split at h
  · rename_i k i
    simp only [Option.some.injEq] at h
    subst h
    exact ⟨k, hx⟩
  · cases h

theorem elem_info (hT : TtOk P X) {t : TypeId} {ti et : TI} {e : TypeId} (h : X.tt t = some ti) (hd : ti.desc = .slice e ∨ ∃ n, ti.desc = .array n e) (he : X.tt e = some et) :
    ∃ i, P.info? e = some i ∧ i.size = et.size ∧ i.bytes = et.bytes ∧ i.zero = et.zero ∧ P.underlying e = some et.desc ∧ P.underlying t = some ti.desc := by
  obtain ⟨i, hi, hs, hb, hz, hu⟩ := tt_info hT he
  obtain ⟨_, _, _, _, _, hu'⟩ := tt_info hT h
  exact ⟨i, hi, hs, hb, hz, hu, hu'⟩

theorem op_indexAddr (hT : TtOk P X) (hN : N ≤ N') (hS : SRel N β μ nt σ a w) {t : TypeId} {x y : Operand} (ho : o.op = .indexAddr t x y) (h : op P X fi nm o σ = some (v, σ')) : OpOk P fi N' nm β μ nt σ a w o v σ' := by
  simp only [op, ho] at h
  obtain ⟨c, h3, h4⟩ := onC_some h
  obtain ⟨u, h5, h6⟩ := onV_some h4
  split at h6
  · rename_i j hj
    obtain ⟨k, hy⟩ := idx_ok hj (ev_ok hS h5)
    have hx := ev_ok hS h3
    simp only [Option.map_eq_some_iff, Prod.mk.injEq] at h6
    obtain ⟨c', h7, rfl, rfl⟩ := h6
    unfold idxAddr at h7
    split at h7
    · rename_i ti hti
      split at h7
      · rename_i len e hd
        split at h7
        · rename_i et het
          obtain ⟨i, hi, hs, hb, hz, hue, hu⟩ := elem_info hT hti (.inr ⟨len, hd⟩) het
          rw [hd] at hu
          split at h7
          · rename_i hin
            simp only [Bool.and_eq_true, decide_eq_true_eq] at hin
            obtain ⟨r, q, hx', hc'⟩ := shift_ok h7 hx
            refine OpOk.val hN hS (x := .pointer (some ⟨r, q + j.toNat * et.size, none⟩)) ?_ hc'
            unfold execOp
            simp [ho, hx', hy, Instr.indexAt, asIntOf, run_underlying hu, Instr.sureAddr, hin, Go.sizeOf, typeInfo, hi, hs, Addr.add_mid]
          · cases h7
        · cases h7
      · rename_i e hd
        split at h7
        · rename_i et b q len cap het
          obtain ⟨i, hi, hs, hb, hz, hue, hu⟩ := elem_info hT hti (.inl hd) het
          rw [hd] at hu
          split at h7
          · rename_i hin
            simp only [Bool.and_eq_true, decide_eq_true_eq] at hin
            simp only [Option.some.injEq] at h7
            subst h7
            obtain ⟨p, k', rc, hβ, hx', hlc, hcr, hk, _⟩ := hx
            have hk' : k' = p.ro + q := hk (by omega)
            subst hk'
            refine OpOk.val hN hS (x := .pointer (some ⟨p.rb, p.ro + q + j.toNat * et.size, none⟩)) ?_ ⟨p, hβ, by rw [Nat.add_assoc]⟩
            unfold execOp
            simp [ho, hx', hy, Instr.indexAt, asIntOf, run_underlying hu, hin, Go.sizeOf, typeInfo, hi, hs, Addr.add_mid]
          · cases h7
        · cases h7
      · cases h7
    · cases h7
  · cases h6

theorem op_pure (hN : N ≤ N') (hS : SRel N β μ nt σ a w) (hs : ∀ cs b, o.op ≠ .select cs b) (h : op.pureV P o σ = some (v, σ')) : OpOk P fi N' nm β μ nt σ a w o v σ' := by
  simp only [op.pureV, Option.map_eq_some_iff, Prod.mk.injEq] at h
  obtain ⟨u, h1, rfl, rfl⟩ := h
  obtain ⟨x, hx, hr⟩ := pureOp_ok hS h1 hs
  exact OpOk.val hN hS hx hr

theorem op_index (hT : TtOk P X) (hN : N ≤ N') (hS : SRel N β μ nt σ a w) {t : TypeId} {x y : Operand} (ho : o.op = .index t x y) (h : op P X fi nm o σ = some (v, σ')) : OpOk P fi N' nm β μ nt σ a w o v σ' := by
  simp only [op, ho] at h
  split at h
  · rename_i ti et hti het
    obtain ⟨u, h3, h4⟩ := onV_some h
    obtain ⟨u', h5, h6⟩ := onV_some h4
    split at h6
    · rename_i len e cs j hd hj
      obtain ⟨k, hy⟩ := idx_ok hj (ev_ok hS h5)
      split at h6
      · rename_i hin
        simp only [Bool.and_eq_true, decide_eq_true_eq] at hin
        simp only [Option.map_eq_some_iff, Prod.mk.injEq] at h6
        obtain ⟨v', h7, rfl, rfl⟩ := h6
        have he : X.tt e = some et := by
          unfold elemTI at het
          rw [hti] at het
          simp only [hd] at het
          exact het
        obtain ⟨i, hi, hs, hb, hz, hue, hu⟩ := elem_info hT hti (.inr ⟨len, hd⟩) he
        rw [hd] at hu
        obtain ⟨arr, hx', hall⟩ := ev_ok hS h3
        obtain ⟨z, hrun, hr⟩ := part_ok (P := P) (w := w) hi hs hue hall h7
        refine OpOk.val hN hS (x := z) ?_ hr
        unfold execOp
        simp [ho, hx', hy, Instr.index, asIntOf, run_underlying hu, hin, Go.sizeOf, typeInfo, hi, hs, hrun]
      · cases h6
    · cases h6
  · exact op_pure hN hS (fun _ _ => by rw [ho]; exact fun h => by cases h) h

theorem caps_ok : ∀ {vs : List V} {l : List (Nat × Nat)} {xs : List Value}, capsOf vs = some l → All2 (VRel β μ) vs xs → All2 (PtrRel β) l xs
  | [], l, [], h, _ => by simp only [capsOf, Option.some.injEq] at h; subst h; trivial
  | v :: vs, l, x :: xs, h, hr => by
    match v, h with
    | .one (.ptr b k), h =>
      simp only [capsOf, Option.map_eq_some_iff] at h
      obtain ⟨l', h1, rfl⟩ := h
      exact ⟨hr.1, caps_ok h1 hr.2⟩
  | [], _, _ :: _, _, h => h.elim
  | _ :: _, _, [], _, h => h.elim

theorem op_makeFunc (hN : N ≤ N') (hS : SRel N β μ nt σ a w) {f : FuncId} {fs caps : Array Operand} (ho : o.op = .makeFunc (.func f) fs caps) (h : op P X fi nm o σ = some (v, σ')) : OpOk P fi N' nm β μ nt σ a w o v σ' := by
  simp only [op, ho] at h
  split at h
  · rename_i hfs
    split at h
    · rename_i vs hvs
      simp only [Option.map_eq_some_iff, Prod.mk.injEq] at h
      obtain ⟨l, h1, rfl, rfl⟩ := h
      have hall := caps_ok h1 (evs_ok hS hvs)
      have hf0 : fs = #[] := Array.eq_empty_of_size_eq_zero hfs
      subst hf0
      refine OpOk.val hN hS (x := .func (.func f) #[] (caps.map a.eval)) ?_ ⟨_, rfl, by simpa using hall⟩
      unfold execOp
      simp [ho, Instr.makeFunc]
    · cases h
  · cases h
end ops
end E
end Go.Proofs.Ytibdplfdmncgiaa
