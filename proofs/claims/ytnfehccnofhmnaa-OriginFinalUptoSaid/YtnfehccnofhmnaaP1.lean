/-
  Plain laws of the originator's table: final is final; who has signed does not abort. No condition.
-/
import Derived.Test.YtnfehccnofhmnaaW6
namespace Go.Proofs.Ytnfehccnofhmnaa

theorem rows_none {c : Int} {t : ByteArray} {ph : Int} (h2 : ph ≠ 2) (h3 : ph ≠ 3) (h4 : ph ≠ 4) (h5 : ph ≠ 5) : rowsS c t ph = [] := by
  unfold rowsS; rw [if_neg h2, if_neg h3, if_neg h4, if_neg h5]

/-- What a step can be. -/
theorem step_cases (s : St) (e : Ev) : stepS s e = (s, []) ∨ (s.ph = 0 ∧ stepS s e = (⟨s.r, s.c, e.t, 2, s.p⟩, outS (prS s.c e.t 0))) ∨
    ∃ x, x ∈ rowsS s.c s.t s.ph ∧ chkS s = true ∧ s.ph ≠ 0 ∧ takesR x s e = true ∧ stepS s e = (toS x s, outS x.sends) := by
  unfold stepS
  split
  · rename_i hc
    split
    · rename_i h0
      split
      · exact .inr (.inl ⟨h0, rfl⟩)
      · exact .inl rfl
    · rename_i h0
      cases hf : (rowsS s.c s.t s.ph).find? (fun x => takesR x s e) with
      | none => exact .inl rfl
      | some x => exact .inr (.inr ⟨x, List.mem_of_find?_eq_some hf, hc, h0, by simpa using List.find?_some hf, rfl⟩)
  · exact .inl rfl

theorem fin_step (s : St) (e : Ev) (h : finS s = true) : stepS s e = (s, []) := by
  have h' : s.ph = 6 ∨ s.ph = 7 := by
    unfold finS at h
    simp only [Bool.and_eq_true, Bool.or_eq_true, beq_iff_eq] at h
    exact h.2
  rcases step_cases s e with h1 | ⟨h0, _⟩ | ⟨x, hx, _⟩
  · exact h1
  · omega
  · rw [rows_none (by omega) (by omega) (by omega) (by omega)] at hx
    cases hx

/-- Signed with: where a party stands that has sent its signature. -/
def Inv (sent : Bool) (s : St) : Prop := sent = true → s.ph = 3 ∨ s.ph = 5 ∨ s.ph = 6

theorem rows_mem {c : Int} {t : ByteArray} {ph : Int} {x : Rw} (h : x ∈ rowsS c t ph) :
    (ph = 2 ∧ (x = ⟨false, prS c t 1, 3, sgS c t 0⟩ ∨ x = ⟨true, l0, 4, abS c⟩)) ∨
    (ph = 3 ∧ (x = ⟨false, prS c t 1, 3, sgS c t 0⟩ ∨ x = ⟨false, sgS c t 1, 6, l0⟩ ∨ x = ⟨true, l0, 5, rsS c t⟩)) ∨
    (ph = 4 ∧ (x = ⟨true, l0, 4, abS c⟩ ∨ x = ⟨false, tkS c, 7, l0⟩ ∨ x = ⟨false, inS c t, 6, l0⟩)) ∨
    (ph = 5 ∧ (x = ⟨true, l0, 5, rsS c t⟩ ∨ x = ⟨false, sgS c t 1, 6, l0⟩ ∨ x = ⟨false, inS c t, 6, l0⟩)) := by
  by_cases h2 : ph = 2
  · subst h2; exact .inl ⟨rfl, by simpa [rowsS] using h⟩
  by_cases h3 : ph = 3
  · subst h3; exact .inr (.inl ⟨rfl, by simpa [rowsS] using h⟩)
  by_cases h4 : ph = 4
  · subst h4; exact .inr (.inr (.inl ⟨rfl, by simpa [rowsS] using h⟩))
  by_cases h5 : ph = 5
  · subst h5; exact .inr (.inr (.inr ⟨rfl, by simpa [rowsS] using h⟩))
  rw [rows_none h2 h3 h4 h5] at h
  cases h

theorem inv_step {sent : Bool} {s : St} (e : Ev) (h : Inv sent s) : Inv (sent || (stepS s e).2.any (fun o => o.l.k == 2)) (stepS s e).1 := by
  rcases step_cases s e with h1 | ⟨h0, h1⟩ | ⟨x, hx, hc, hn, ht, h1⟩
  · rw [h1]; simpa using h
  · rw [h1]
    intro hs
    have : sent = true := by simpa [outS, prS] using hs
    have := h this
    omega
  · rw [h1]
    intro hs
    rcases rows_mem hx with ⟨hp, hr⟩ | ⟨hp, hr⟩ | ⟨hp, hr⟩ | ⟨hp, hr⟩
    · rcases hr with rfl | rfl
      · exact .inl rfl
      · have : sent = true := by simpa [outS, abS] using hs
        have := h this
        omega
    · rcases hr with rfl | rfl | rfl <;> simp [toS]
    · have : sent = true := by rcases hr with rfl | rfl | rfl <;> simpa [outS, abS, l0] using hs
      have := h this
      omega
    · rcases hr with rfl | rfl | rfl <;> simp [toS]

theorem no_abort {s : St} (e : Ev) (h : s.ph = 3) : (stepS s e).1.ph ≠ 7 := by
  rcases step_cases s e with h1 | ⟨h0, h1⟩ | ⟨x, hx, hc, hn, ht, h1⟩
  · rw [h1]; simp only; omega
  · omega
  · rw [h1]
    rw [h] at hx
    rcases rows_mem hx with ⟨hp, hr⟩ | ⟨hp, hr⟩ | ⟨hp, hr⟩ | ⟨hp, hr⟩
    · omega
    · rcases hr with rfl | rfl | rfl <;> simp [toS]
    · omega
    · omega

theorem inv_abort {sent : Bool} {s : St} (h : Inv sent s) (hs : sent = true) : s.ph ≠ 7 := by
  have := h hs
  omega
end Go.Proofs.Ytnfehccnofhmnaa
