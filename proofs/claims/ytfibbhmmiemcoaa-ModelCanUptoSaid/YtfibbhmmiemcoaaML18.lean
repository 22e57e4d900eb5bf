/-
  Walks: the originator's step in one; final, waiting, new. No condition.
-/
import Derived.Test.YtfibbhmmiemcoaaML17
set_option linter.all false
namespace Go.Proofs.Ytfibbhmmiemcoaa
open Go.RowKit
attribute [local go_sem ↓] eql_lEq eql_sEq eql_eEq eql_oEq neq_lEq neq_sEq neq_eEq neq_oEq
attribute [local go_sem] ExtOf.cell ExtOf.frozen ExtOf.lt ExtOf.le
attribute [local go_sem high] ExtOf.cell2 ExtOf.frozen2 ExtOf.lt2 ExtOf.cell3 ExtOf.frozen3 ExtOf.lt3 ExtOf.cellB ExtOf.frozenB ExtOf.cellX ExtOf.frozenX ExtOf.cellX' ExtOf.frozenX'
attribute [local go_sem] BelOf.cell BelOf.frozen BelOf.lt

theorem or_step (r c : Int) (t : ByteArray) (ph k f c2 : Int) (t2 : ByteArray) (fk : Bool) (ek ec : Int) (et : ByteArray) (lk lf lc : Int) (lt : ByteArray) (lb : Bool) (w : World) :
    Calls Try.prog 72 #[.agg #[.int .i64 r, .int .u64 c, .string t, .int .i64 ph, .int .i64 k, .int .i64 f, .int .u64 c2, .string t2, .bool fk], .agg #[.int .i64 ek, .int .u64 ec, .string et, .int .i64 lk, .int .i64 lf, .int .u64 lc, .string lt, .bool lb]] w (Stepped w (stepS ⟨r, c, t, ph, ⟨k, f, c2, t2, fk⟩⟩ ⟨ek, ec, et, ⟨lk, lf, lc, lt, lb⟩⟩)) := by
  rcases hc : chk r c t ph k f c2 t2 fk
  · rw [stepS_A ⟨r, c, t, ph, ⟨k, f, c2, t2, fk⟩⟩ ⟨ek, ec, et, ⟨lk, lf, lc, lt, lb⟩⟩ hc]
    exact or_stepA r c t ph k f c2 t2 fk ek ec et lk lf lc lt lb w hc
  · by_cases hp : ph = 0
    · subst hp
      have h := or_step0 r c t k f c2 t2 fk ek ec et lk lf lc lt lb w hc
      have e : stepS ⟨r, c, t, 0, ⟨k, f, c2, t2, fk⟩⟩ ⟨ek, ec, et, ⟨lk, lf, lc, lt, lb⟩⟩ = start0 r c t k f c2 t2 fk ek ec et := by
        unfold stepS chkS start0
        simp only [hc, if_true]
        split <;> rfl
      rw [e]
      exact h
    · exact or_stepC r c t ph k f c2 t2 fk ek ec et lk lf lc lt lb w hc (by simpa using hp)

def finS (s : St) : Bool := chkS s && (s.ph == 6 || s.ph == 7)
def waitS (s : St) : Bool := chkS s && (s.ph != 0 && !finS s)

set_option maxHeartbeats 400000 in
theorem or_final (r c : Int) (t : ByteArray) (ph k f c2 : Int) (t2 : ByteArray) (fk : Bool) (w : World) :
    Calls Try.prog 50 #[.agg #[.int .i64 r, .int .u64 c, .string t, .int .i64 ph, .int .i64 k, .int .i64 f, .int .u64 c2, .string t2, .bool fk]] w fun e w' => e = .returned (.bool (finS ⟨r, c, t, ph, ⟨k, f, c2, t2, fk⟩⟩)) ∧ Ext w w' := by
  rcases hc : chk r c t ph k f c2 t2 fk
  · have hs : finS ⟨r, c, t, ph, ⟨k, f, c2, t2, fk⟩⟩ = false := by simp [finS, chkS, hc]
    rw [hs]; clear hs
    go_enter Try.func50, Try.ntmps50
    go_wp2_with (go_at_call 17; refine (or_check _ _ _ _ _ _ _ _ _ _).mono ?_; rintro e w1 ⟨rfl, hx⟩; obtain ⟨x1, rfl⟩ := ext_of hx; clear hx)
    go_ret
    exact ⟨rfl, ((Ext.refl _).alloc _).val x1⟩
  · have hs : finS ⟨r, c, t, ph, ⟨k, f, c2, t2, fk⟩⟩ = (ph == 6 || ph == 7) := by simp [finS, chkS, hc]
    rw [hs]; clear hs
    rcases h6 : (ph == 6)
    all_goals
      go_enter Try.func50, Try.ntmps50
      go_wp2_with (go_at_call 17; refine (or_check _ _ _ _ _ _ _ _ _ _).mono ?_; rintro e w1 ⟨rfl, hx⟩; obtain ⟨x1, rfl⟩ := ext_of hx; clear hx)
      go_ret
      exact ⟨by simp, ((Ext.refl _).alloc _).val x1⟩

set_option maxHeartbeats 400000 in
theorem or_waits (r c : Int) (t : ByteArray) (ph k f c2 : Int) (t2 : ByteArray) (fk : Bool) (w : World) :
    Calls Try.prog 99 #[.agg #[.int .i64 r, .int .u64 c, .string t, .int .i64 ph, .int .i64 k, .int .i64 f, .int .u64 c2, .string t2, .bool fk]] w fun e w' => e = .returned (.bool (waitS ⟨r, c, t, ph, ⟨k, f, c2, t2, fk⟩⟩)) ∧ Ext w w' := by
  rcases hc : chk r c t ph k f c2 t2 fk
  · have hs : waitS ⟨r, c, t, ph, ⟨k, f, c2, t2, fk⟩⟩ = false := by simp [waitS, chkS, hc]
    rw [hs]; clear hs
    go_enter Try.func99, Try.ntmps99
    go_wp2_with (go_at_call 17; refine (or_check _ _ _ _ _ _ _ _ _ _).mono ?_; rintro e w1 ⟨rfl, hx⟩; obtain ⟨x1, rfl⟩ := ext_of hx; clear hx)
    go_ret
    exact ⟨rfl, ((Ext.refl _).alloc _).val x1⟩
  · have hs : waitS ⟨r, c, t, ph, ⟨k, f, c2, t2, fk⟩⟩ = (ph != 0 && !finS ⟨r, c, t, ph, ⟨k, f, c2, t2, fk⟩⟩) := by simp [waitS, chkS, hc]
    rw [hs]; clear hs
    rcases h0 : (ph != 0)
    · go_enter Try.func99, Try.ntmps99
      go_wp2_with (go_at_call 17; refine (or_check _ _ _ _ _ _ _ _ _ _).mono ?_; rintro e w1 ⟨rfl, hx⟩; obtain ⟨x1, rfl⟩ := ext_of hx; clear hx)
      go_ret
      exact ⟨by simp, ((Ext.refl _).alloc _).val x1⟩
    · go_enter Try.func99, Try.ntmps99
      go_wp2_with (first
        | (go_at_call 17; refine (or_check _ _ _ _ _ _ _ _ _ _).mono ?_; rintro e w1 ⟨rfl, hx⟩; obtain ⟨x1, rfl⟩ := ext_of hx; clear hx)
        | (go_at_call 50; refine (or_final _ _ _ _ _ _ _ _ _ _).mono ?_; rintro e w1 ⟨rfl, hx⟩; obtain ⟨x2, rfl⟩ := ext_of hx; clear hx))
      go_ret
      exact ⟨by simp, (((Ext.refl _).alloc _).val x1).val x2⟩

theorem or_new (c : Int) (w : World) :
    Calls Try.prog 43 #[.int .u64 c] w fun e w' => e = .returned (.agg #[.int .i64 0, .int .u64 c, .string { data := #[] }, .int .i64 0, .int .i64 0, .int .i64 0, .int .u64 0, .string { data := #[] }, .bool false]) ∧ Ext w w' := by
  go_enter Try.func43, Try.ntmps43
  go_wp2
  exact bodyPost_ret (v := .agg #[.int .i64 0, .int .u64 c, .string { data := #[] }, .int .i64 0, .int .i64 0, .int .i64 0, .int .u64 0, .string { data := #[] }, .bool false]) (by simp [results, Try.results43, go_sem]) rfl ⟨rfl, (Ext.refl _).alloc _⟩
end Go.Proofs.Ytfibbhmmiemcoaa

/-
  Plain laws of the originator's table: final is final; who has signed does not abort. No condition.
-/
namespace Go.Proofs.Ytfibbhmmiemcoaa

theorem rows_none {c : Int} {t : ByteArray} {ph : Int} (h2 : ph ≠ 2) (h3 : ph ≠ 3) (h4 : ph ≠ 4) (h5 : ph ≠ 5) : rowsS c t ph = [] := by
  unfold rowsS; rw [if_neg h2, if_neg h3, if_neg h4, if_neg h5]

/-- What a step can be. -/
theorem step_cases (s : St) (e : Ev) : stepS s e = (s, []) ∨ (s.ph = 0 ∧ stepS s e = (⟨s.r, s.c, e.t, 2, s.p⟩, outS (prS s.c e.t 0))) ∨
    ∃ x, x ∈ rowsS s.c s.t s.ph ∧ chkS s = true ∧ s.ph ≠ 0 ∧ takesR x s e = true ∧ stepS s e = (toS x s, outS x.sends) := by
  unfold stepS
  split
  · rename_i hc
    split
    · rename_i h0
      split
      · exact .inr (.inl ⟨h0, rfl⟩)
      · exact .inl rfl
    · rename_i h0
      cases hf : (rowsS s.c s.t s.ph).find? (fun x => takesR x s e) with
      | none => exact .inl rfl
      | some x => exact .inr (.inr ⟨x, List.mem_of_find?_eq_some hf, hc, h0, by simpa using List.find?_some hf, rfl⟩)
  · exact .inl rfl

theorem fin_step (s : St) (e : Ev) (h : finS s = true) : stepS s e = (s, []) := by
  have h' : s.ph = 6 ∨ s.ph = 7 := by
    unfold finS at h
    simp only [Bool.and_eq_true, Bool.or_eq_true, beq_iff_eq] at h
    exact h.2
  rcases step_cases s e with h1 | ⟨h0, _⟩ | ⟨x, hx, _⟩
  · exact h1
  · omega
  · rw [rows_none (by omega) (by omega) (by omega) (by omega)] at hx
    cases hx

/-- Signed with: where a party stands that has sent its signature. -/
def Inv (sent : Bool) (s : St) : Prop := sent = true → s.ph = 3 ∨ s.ph = 5 ∨ s.ph = 6

theorem rows_mem {c : Int} {t : ByteArray} {ph : Int} {x : Rw} (h : x ∈ rowsS c t ph) :
    (ph = 2 ∧ (x = ⟨false, prS c t 1, 3, sgS c t 0⟩ ∨ x = ⟨true, l0, 4, abS c⟩)) ∨
    (ph = 3 ∧ (x = ⟨false, prS c t 1, 3, sgS c t 0⟩ ∨ x = ⟨false, sgS c t 1, 6, l0⟩ ∨ x = ⟨true, l0, 5, rsS c t⟩)) ∨
    (ph = 4 ∧ (x = ⟨true, l0, 4, abS c⟩ ∨ x = ⟨false, tkS c, 7, l0⟩ ∨ x = ⟨false, inS c t, 6, l0⟩)) ∨
    (ph = 5 ∧ (x = ⟨true, l0, 5, rsS c t⟩ ∨ x = ⟨false, sgS c t 1, 6, l0⟩ ∨ x = ⟨false, inS c t, 6, l0⟩)) := by
  by_cases h2 : ph = 2
  · subst h2; exact .inl ⟨rfl, by simpa [rowsS] using h⟩
  by_cases h3 : ph = 3
  · subst h3; exact .inr (.inl ⟨rfl, by simpa [rowsS] using h⟩)
  by_cases h4 : ph = 4
  · subst h4; exact .inr (.inr (.inl ⟨rfl, by simpa [rowsS] using h⟩))
  by_cases h5 : ph = 5
  · subst h5; exact .inr (.inr (.inr ⟨rfl, by simpa [rowsS] using h⟩))
  rw [rows_none h2 h3 h4 h5] at h
  cases h

theorem inv_step {sent : Bool} {s : St} (e : Ev) (h : Inv sent s) : Inv (sent || (stepS s e).2.any (fun o => o.l.k == 2)) (stepS s e).1 := by
  rcases step_cases s e with h1 | ⟨h0, h1⟩ | ⟨x, hx, hc, hn, ht, h1⟩
  · rw [h1]; simpa using h
  · rw [h1]
    intro hs
    have : sent = true := by simpa [outS, prS] using hs
    have := h this
    omega
  · rw [h1]
    intro hs
    rcases rows_mem hx with ⟨hp, hr⟩ | ⟨hp, hr⟩ | ⟨hp, hr⟩ | ⟨hp, hr⟩
    · rcases hr with rfl | rfl
      · exact .inl rfl
      · have : sent = true := by simpa [outS, abS] using hs
        have := h this
        omega
    · rcases hr with rfl | rfl | rfl <;> simp [toS]
    · have : sent = true := by rcases hr with rfl | rfl | rfl <;> simpa [outS, abS, l0] using hs
      have := h this
      omega
    · rcases hr with rfl | rfl | rfl <;> simp [toS]

theorem no_abort {s : St} (e : Ev) (h : s.ph = 3) : (stepS s e).1.ph ≠ 7 := by
  rcases step_cases s e with h1 | ⟨h0, h1⟩ | ⟨x, hx, hc, hn, ht, h1⟩
  · rw [h1]; simp only; omega
  · omega
  · rw [h1]
    rw [h] at hx
    rcases rows_mem hx with ⟨hp, hr⟩ | ⟨hp, hr⟩ | ⟨hp, hr⟩ | ⟨hp, hr⟩
    · omega
    · rcases hr with rfl | rfl | rfl <;> simp [toS]
    · omega
    · omega

theorem inv_abort {sent : Bool} {s : St} (h : Inv sent s) (hs : sent = true) : s.ph ≠ 7 := by
  have := h hs
  omega
end Go.Proofs.Ytfibbhmmiemcoaa

/-
  Plain laws of the originator's table: good stays good. No condition.
-/
namespace Go.Proofs.Ytfibbhmmiemcoaa

/-- The event of a patience that is over. -/
def tickE (c : Int) : Ev := ⟨3, c, { data := #[] }, l0⟩

theorem chk_first {s : St} (h : chkS s = true) : s.r = 0 ∧ s.t.size ≤ 64 ∧ (s.ph = 6 ∧ chk6 s.c s.t s.p.k s.p.f s.p.c s.p.t s.p.b = true ∨
    s.ph = 0 ∧ s.t.toList.isEmpty = true ∧ lEq s.p.k s.p.f s.p.c s.p.t s.p.b 0 0 0 { data := #[] } false = true ∨
    (s.ph = 2 ∨ s.ph = 3 ∨ s.ph = 4 ∨ s.ph = 5 ∨ s.ph = 7) ∧ lEq s.p.k s.p.f s.p.c s.p.t s.p.b 0 0 0 { data := #[] } false = true) := by
  unfold chkS chk at h
  split at h
  · rename_i h0
    refine ⟨h0.1, h0.2, ?_⟩
    split at h
    · exact .inl ⟨‹_›, h⟩
    · split at h
      · simp only [Bool.and_eq_true] at h
        exact .inr (.inl ⟨‹_›, h.1, h.2⟩)
      · split at h
        · exact .inr (.inr ⟨‹_›, h⟩)
        · cases h
  · cases h

theorem chk_mid {s : St} (hr : s.r = 0) (ht : s.t.size ≤ 64) (hp : s.ph = 2 ∨ s.ph = 3 ∨ s.ph = 4 ∨ s.ph = 5 ∨ s.ph = 7) (hl : lEq s.p.k s.p.f s.p.c s.p.t s.p.b 0 0 0 { data := #[] } false = true) : chkS s = true := by
  unfold chkS chk
  rw [if_pos ⟨hr, ht⟩, if_neg (by omega), if_neg (by omega), if_pos hp]
  exact hl
theorem chk_six {s : St} (hr : s.r = 0) (ht : s.t.size ≤ 64) (hp : s.ph = 6) (hl : s.p = sgS s.c s.t 1 ∨ s.p = inS s.c s.t) : chkS s = true := by
  unfold chkS chk
  rw [if_pos ⟨hr, ht⟩, if_pos hp]
  unfold chk6
  rcases hl with h | h <;> rw [h] <;> simp [lEq, sgS, inS]

/-- A good state stays good, with its contract. -/
theorem good_step {s : St} (e : Ev) (h : chkS s = true) : chkS (stepS s e).1 = true ∧ (stepS s e).1.c = s.c ∧ (stepS s e).2.length ≤ 1 ∧ (s.ph ≠ 0 → (stepS s e).1.t = s.t) := by
  obtain ⟨hr, ht, hp⟩ := chk_first h
  by_cases h0 : s.ph = 0
  · have hl : lEq s.p.k s.p.f s.p.c s.p.t s.p.b 0 0 0 { data := #[] } false = true := by
      rcases hp with h1 | h1 | h1
      · omega
      · exact h1.2.2
      · omega
    unfold stepS
    rw [if_pos h, if_pos h0]
    split
    · rename_i hs
      exact ⟨chk_mid hr hs.2.2 (.inl rfl) hl, rfl, by unfold outS; split <;> (try split) <;> simp, fun hn => absurd h0 hn⟩
    · exact ⟨h, rfl, by simp, fun hn => absurd h0 hn⟩
  · rcases step_cases s e with h1 | ⟨h1, _⟩ | ⟨x, hx, hc, hn, htk, h1⟩
    · rw [h1]; exact ⟨h, rfl, by simp, fun _ => rfl⟩
    · exact absurd h1 h0
    · rw [h1]
      have hlen : (outS x.sends).length ≤ 1 := by unfold outS; split <;> (try split) <;> simp
      refine ⟨?_, rfl, hlen, fun _ => rfl⟩
      have hl : s.ph ≠ 6 → lEq s.p.k s.p.f s.p.c s.p.t s.p.b 0 0 0 { data := #[] } false = true := fun h6 => by
        rcases hp with h1 | h1 | h1
        · exact absurd h1.1 h6
        · exact absurd h1.1 h0
        · exact h1.2
      rcases rows_mem hx with ⟨hp2, hr2⟩ | ⟨hp2, hr2⟩ | ⟨hp2, hr2⟩ | ⟨hp2, hr2⟩
      all_goals have hl' := hl (by omega)
      · rcases hr2 with rfl | rfl
        · exact chk_mid hr ht (.inr (.inl rfl)) hl'
        · exact chk_mid hr ht (.inr (.inr (.inl rfl))) hl'
      · rcases hr2 with rfl | rfl | rfl
        · exact chk_mid hr ht (.inr (.inl rfl)) hl'
        · exact chk_six hr ht rfl (.inl rfl)
        · exact chk_mid hr ht (.inr (.inr (.inr (.inl rfl)))) hl'
      · rcases hr2 with rfl | rfl | rfl
        · exact chk_mid hr ht (.inr (.inr (.inl rfl))) hl'
        · exact chk_mid hr ht (.inr (.inr (.inr (.inr rfl)))) hl'
        · exact chk_six hr ht rfl (.inr rfl)
      · rcases hr2 with rfl | rfl | rfl
        · exact chk_mid hr ht (.inr (.inr (.inr (.inl rfl)))) hl'
        · exact chk_six hr ht rfl (.inl rfl)
        · exact chk_six hr ht rfl (.inr rfl)

/-- Where a good state can stand, and what a tick then does. -/
theorem good_cases {s : St} (h : chkS s = true) :
    ((s.ph == 6) = true ∧ (s.ph != 0) = true ∧ finS s = true ∧ (s.p.c != s.c) = false ∧ s.p.t = s.t ∧ (s.p.k = 2 ∨ s.p.k = 6)) ∨
    ((s.ph == 6) = false ∧ (s.ph != 0) = true ∧ finS s = true) ∨ ((s.ph == 6) = false ∧ (s.ph != 0) = false) ∨
    ((s.ph == 6) = false ∧ (s.ph != 0) = true ∧ finS s = false ∧ ∃ T o, stepS s (tickE s.c) = (T, [o]) ∧ o.to = 2) := by
  obtain ⟨hr, ht, hp⟩ := chk_first h
  rcases hp with ⟨hp, h6⟩ | ⟨hp, _, _⟩ | ⟨hp, hl⟩
  · refine .inl ⟨by simp [hp], by simp [hp], by simp [finS, h, hp], ?_⟩
    unfold chk6 at h6
    simp only [Bool.or_eq_true, lEq_true] at h6
    rcases h6 with ⟨a, _, b, c, _⟩ | ⟨a, _, b, c, _⟩
    · exact ⟨by simp [b], c, .inl a⟩
    · exact ⟨by simp [b], c, .inr a⟩
  · exact .inr (.inr (.inl ⟨by simp [hp], by simp [hp]⟩))
  · by_cases h7 : s.ph = 7
    · exact .inr (.inl ⟨by simp [h7], by simp [h7], by simp [finS, h, h7]⟩)
    · refine .inr (.inr (.inr ⟨by simp; omega, by simp; omega, by simp [finS]; omega, ?_⟩))
      have h0 : ¬ s.ph = 0 := by omega
      have e : stepS s (tickE s.c) = match (rowsS s.c s.t s.ph).find? (fun x => takesR x s (tickE s.c)) with | some x => (toS x s, outS x.sends) | none => (s, []) := by
        unfold stepS
        rw [if_pos h, if_neg h0]
        try rfl
      rw [e]
      rcases hp with hp | hp | hp | hp | hp
      · rw [hp]; exact ⟨_, _, by simp [rowsS, takesR, takesS, tickE, outS, abS] <;> exact ⟨rfl, rfl⟩, rfl⟩
      · rw [hp]; exact ⟨_, _, by simp [rowsS, takesR, takesS, tickE, outS, rsS] <;> exact ⟨rfl, rfl⟩, rfl⟩
      · rw [hp]; exact ⟨_, _, by simp [rowsS, takesR, takesS, tickE, outS, abS] <;> exact ⟨rfl, rfl⟩, rfl⟩
      · rw [hp]; exact ⟨_, _, by simp [rowsS, takesR, takesS, tickE, outS, rsS] <;> exact ⟨rfl, rfl⟩, rfl⟩
      · exact absurd hp h7
end Go.Proofs.Ytfibbhmmiemcoaa

/-
  The model in plain Lean: letters, the responder's table, the exchange and its moves. No condition.
-/
namespace Go.Proofs.Ytfibbhmmiemcoaa

instance : DecidableEq Lt := fun a b => decidable_of_iff (a.k = b.k ∧ a.f = b.f ∧ a.c = b.c ∧ a.t = b.t ∧ a.b = b.b) (by cases a; cases b; simp)

theorem lEq_lt (a b : Lt) : lEq a.k a.f a.c a.t a.b b.k b.f b.c b.t b.b = decide (a = b) := by
  cases a; cases b; simp [lEq]

/-- A letter's error. -/
def lchk (l : Lt) : Int :=
  if l.k < 1 ∨ 7 < l.k then 110
  else if ¬ (l.f = 0 ∨ l.f = 1) then 110
  else if ¬ (l.k = 1 ∨ l.k = 2 ∨ l.k = 4) ∧ l.f ≠ 0 then 110
  else if ¬ (l.k = 1 ∨ l.k = 2 ∨ l.k = 4 ∨ l.k = 6) ∧ l.t ≠ { data := #[] } then 110
  else if ¬ (l.k = 1 ∨ l.k = 4) ∧ l.b = true then 110
  else if 64 < l.t.size then 1
  else 0

theorem lchk_size {l : Lt} (h : lchk l = 0) : l.t.size ≤ 64 ∧ (l.f = 0 ∨ l.f = 1) ∧ 1 ≤ l.k ∧ l.k ≤ 7 ∧ (l.b = true → l.k = 1 ∨ l.k = 4) := by
  unfold lchk at h
  repeat' (split at h; (first | (exact absurd h (by decide)) | skip))
  rename_i h1 h2 h3 h4 h5 h6
  refine ⟨by omega, by omega, by omega, by omega, fun hb => ?_⟩
  by_cases hk : l.k = 1 ∨ l.k = 4
  · exact hk
  · exact absurd ⟨hk, hb⟩ h5

theorem lchk_ok {k f c : Int} {t : ByteArray} (hk : k = 1 ∨ k = 2 ∨ k = 4 ∨ (k = 6 ∧ f = 0) ∨ ((k = 3 ∨ k = 5 ∨ k = 7) ∧ f = 0 ∧ t = { data := #[] })) (hf : f = 0 ∨ f = 1) (ht : t.size ≤ 64) : lchk ⟨k, f, c, t, false⟩ = 0 := by
  unfold lchk
  simp only
  rw [if_neg (by omega), if_neg (by omega), if_neg (by omega), if_neg ?_, if_neg (by simp), if_neg (by omega)]
  rintro ⟨h1, h2⟩
  rcases hk with h | h | h | h | ⟨_, _, h⟩
  · omega
  · omega
  · omega
  · omega
  · exact h2 h

/-- The responder's table. -/
def rsA (c : Int) (t : ByteArray) : Lt := ⟨4, 1, c, t, false⟩
def chkA (s : St) : Bool :=
  decide (s.r = 1 ∧ s.t.size ≤ 64) &&
    (if s.ph = 0 then decide (s.t = { data := #[] }) && decide (s.p = l0)
     else if s.ph = 1 ∨ s.ph = 2 ∨ s.ph = 5 ∨ s.ph = 7 then decide (s.p = l0)
     else if s.ph = 6 then decide (s.p = sgS s.c s.t 0) || decide (s.p = inS s.c s.t)
     else false)
def toldA (s : St) (l : Lt) : Int :=
  if lchk l ≠ 0 ∨ l.b = true ∨ l.c ≠ s.c then 0
  else if l = prS s.c s.t 0 ∨ l = sgS s.c s.t 0 ∨ l = inS s.c s.t ∨ l = tkS s.c then l.k
  else 0
def takesA (s : St) (l : Lt) : St × List Ou :=
  if s.ph = 1 then (if toldA s l = 1 then (⟨s.r, s.c, s.t, 2, s.p⟩, [⟨0, prS s.c s.t 1⟩]) else (s, []))
  else if s.ph = 5 then
    (if toldA s l = 6 then (⟨s.r, s.c, s.t, 6, l⟩, []) else if toldA s l = 5 then (⟨s.r, s.c, s.t, 7, s.p⟩, [])
     else if toldA s l = 2 then (⟨s.r, s.c, s.t, 6, l⟩, [⟨0, sgS s.c s.t 1⟩]) else (s, []))
  else if s.ph = 2 then
    (if toldA s l = 2 then (⟨s.r, s.c, s.t, 6, l⟩, [⟨0, sgS s.c s.t 1⟩]) else if toldA s l = 1 then (s, [⟨0, prS s.c s.t 1⟩]) else (s, []))
  else if s.ph = 6 then (if toldA s l = 2 then (s, [⟨0, sgS s.c s.t 1⟩]) else (s, []))
  else (s, [])
def ticksA (s : St) : St × List Ou :=
  if s.ph = 1 then (⟨s.r, s.c, s.t, 7, s.p⟩, [])
  else if s.ph = 2 ∨ s.ph = 5 then (⟨s.r, s.c, s.t, 5, s.p⟩, [⟨2, rsA s.c s.t⟩])
  else (s, [])
def stepA (s : St) (e : Ev) : St × List Ou :=
  if chkA s = true then
    if e.k = 2 then takesA s e.l
    else if e.c = s.c then
      if e.k = 3 then ticksA s
      else if e.k = 1 ∧ s.ph = 0 ∧ e.t.size ≤ 64 then (⟨s.r, s.c, e.t, 1, s.p⟩, []) else (s, [])
    else (s, [])
  else (s, [])
def finA (s : St) : Bool := chkA s && (s.ph == 6 || s.ph == 7)

/-- Verdicts. -/
structure Vd where
  c : Int
  k : Int
  t : ByteArray
instance : DecidableEq Vd := fun a b => decidable_of_iff (a.c = b.c ∧ a.k = b.k ∧ a.t = b.t) (by cases a; cases b; simp)
def v0 : Vd := ⟨0, 0, { data := #[] }⟩
def saysS (v : Vd) : Option Lt :=
  if v.k = 1 ∧ v.t = { data := #[] } then some ⟨5, 0, v.c, { data := #[] }, false⟩
  else if v.k = 2 ∧ v.t.size ≤ 64 then some ⟨6, 0, v.c, v.t, false⟩
  else none

/-- An exchange; a move. -/
structure Ex where
  c : Int
  s0 : St
  s1 : St
  v : Vd
  b0 : Bool
  b1 : Bool
  full : Bool
  h : List Lt
structure Mv where
  k : Int
  who : Int
  t : ByteArray
  l : Lt
  lost : Bool

def Ex.bad (x : Ex) (who : Int) : Bool := if who = 0 then x.b0 else x.b1
def Ex.st (x : Ex) (who : Int) : St := if who = 0 then x.s0 else x.s1

def newX (c : Int) : Ex := ⟨c, ⟨0, c, { data := #[] }, 0, l0⟩, ⟨1, c, { data := #[] }, 0, l0⟩, v0, false, false, false, []⟩

def wishS (h : List Lt) (l : Lt) : Bool := h.any fun x => x.k == 4 && (x.b == l.b && decide (x.t = l.t))
/-- Can a promise be said? -/
def canP (x : Ex) (l : Lt) : Bool :=
  if lchk l ≠ 0 ∨ l.c ≠ x.c then false
  else if l ∈ x.h then true
  else x.bad (if l.b = true then 1 - l.f else l.f) || wishS x.h l
def canS (x : Ex) (l : Lt) : Bool :=
  if lchk l ≠ 0 ∨ l.c ≠ x.c then false
  else if l ∈ x.h then true
  else if l.k = 1 then x.bad (if l.b = true then 1 - l.f else l.f) || wishS x.h l
  else if l.k = 2 then x.bad l.f
  else if l.k = 3 then x.b0
  else if l.k = 4 then x.bad l.f && (canP x ⟨1, 0, l.c, l.t, l.b⟩ && canP x ⟨1, 1, l.c, l.t, l.b⟩)
  else decide (l.k = 7)

def hearS (h : List Lt) (lost : Bool) (l : Lt) : List Lt := if lost = true ∨ l ∈ h then h else h ++ [l]
def hearsS (h : List Lt) (lost : Bool) (ls : List Lt) : List Lt := ls.foldl (fun h l => hearS h lost l) h

def askV (x : Ex) (l : Lt) : Vd := if x.v.k = 0 ∧ x.full = false then (if l.k = 4 ∧ l.b = false then ⟨x.c, 2, l.t⟩ else ⟨x.c, 1, { data := #[] }⟩) else x.v
def tellS (c : Int) (v : Vd) : Lt := (saysS v).getD ⟨7, 0, c, { data := #[] }, false⟩
def askX (x : Ex) (m : Mv) : Ex :=
  if (m.l.k = 4 ∧ m.l.b = false) ∨ m.l.k = 3 then { x with v := askV x m.l, h := hearS x.h m.lost (tellS x.c (askV x m.l)) }
  else x

/-- The event of a move. -/
def evX (x : Ex) (m : Mv) : Ev :=
  if m.k = 1 then ⟨1, x.c, m.t, l0⟩ else if m.k = 2 then ⟨2, x.c, { data := #[] }, m.l⟩ else ⟨3, x.c, { data := #[] }, l0⟩
def partyX (x : Ex) (m : Mv) : Ex :=
  if m.who = 0 then { x with s0 := (stepS x.s0 (evX x m)).1, h := hearsS x.h m.lost ((stepS x.s0 (evX x m)).2.map (·.l)) }
  else { x with s1 := (stepA x.s1 (evX x m)).1, h := hearsS x.h m.lost ((stepA x.s1 (evX x m)).2.map (·.l)) }
def stepX (x : Ex) (m : Mv) : Ex × Bool :=
  if m.k = 4 then (if canS x m.l = true then (askX x m, true) else (x, false))
  else if m.k = 6 then ({ x with full := true }, true)
  else if m.who = 0 ∨ m.who = 1 then
    if m.k = 5 then ((if m.who = 0 then { x with b0 := true } else { x with b1 := true }), true)
    else if m.k = 1 ∨ m.k = 3 ∨ (m.k = 2 ∧ canS x m.l = true) then
      if x.bad m.who = true then (x, false) else (partyX x m, true)
    else (x, false)
  else (x, false)

/-- What an exchange is. -/
def saysOk (v : Vd) : Bool := (saysS v).isSome
def checkX (x : Ex) : Bool :=
  chkS x.s0 && (chkA x.s1 && (decide (x.s0.c = x.c) && (decide (x.s1.c = x.c) && ((decide (x.v = v0) || (saysOk x.v && decide (x.v.c = x.c))) && decide ((∀ l ∈ x.h, lchk l = 0 ∧ l.c = x.c) ∧ x.h.Nodup)))))
def boundX (x : Ex) (who : Int) : List Lt := x.h.filter fun l => (l.k == 2 && l.f == who) || l.k == 6
def saidX (x : Ex) : Lt := (saysS x.v).getD l0
def holds1 (x : Ex) : Bool := (!x.b0 && (x.s0.ph == 7 && decide (0 < (boundX x 0).length))) || (!x.b1 && (x.s1.ph == 7 && decide (0 < (boundX x 1).length)))
def holds2 (x : Ex) : Bool := (!x.b0 && (x.s0.ph == 6 && !canS x x.s0.p)) || (!x.b1 && (x.s1.ph == 6 && !canS x x.s1.p))
def holds3 (x : Ex) : Bool := x.h.any (·.k == 5) && x.h.any (·.k == 6)
def holds4 (x : Ex) : Bool := (!x.b0 && !x.b1) && ((x.s0.ph == 6 && x.s1.ph == 7) || (x.s0.ph == 7 && x.s1.ph == 6))
def holds5 (x : Ex) : Bool := x.h.any fun l => (l.k == 5 || l.k == 6) && !decide (l = saidX x)
def okX (x : Ex) : Bool := !(holds1 x || (holds2 x || (holds3 x || (holds4 x || holds5 x))))
def finX (x : Ex) (who : Int) : Bool := if who = 0 then finS x.s0 else if who = 1 then finA x.s1 else false
end Go.Proofs.Ytfibbhmmiemcoaa
