/-
  Walks: the originator's step in one; final, waiting, new. No condition.
-/
import Derived.Test.YtnfehccnofhmnaaW5
namespace Go.Proofs.Ytnfehccnofhmnaa
open Go.RowKit
attribute [local go_sem ↓] eql_lEq eql_sEq eql_eEq eql_oEq neq_lEq neq_sEq neq_eEq neq_oEq
attribute [local go_sem] ExtOf.cell ExtOf.frozen ExtOf.lt ExtOf.le
attribute [local go_sem high] ExtOf.cell2 ExtOf.frozen2 ExtOf.lt2 ExtOf.cell3 ExtOf.frozen3 ExtOf.lt3 ExtOf.cellB ExtOf.frozenB ExtOf.cellX ExtOf.frozenX ExtOf.cellX' ExtOf.frozenX'
attribute [local go_sem] BelOf.cell BelOf.frozen BelOf.lt

theorem or_step (r c : Int) (t : ByteArray) (ph k f c2 : Int) (t2 : ByteArray) (fk : Bool) (ek ec : Int) (et : ByteArray) (lk lf lc : Int) (lt : ByteArray) (lb : Bool) (w : World) :
    Calls Try.prog 10 #[.agg #[.int .i64 r, .int .u64 c, .string t, .int .i64 ph, .int .i64 k, .int .i64 f, .int .u64 c2, .string t2, .bool fk], .agg #[.int .i64 ek, .int .u64 ec, .string et, .int .i64 lk, .int .i64 lf, .int .u64 lc, .string lt, .bool lb]] w (Stepped w (stepS ⟨r, c, t, ph, ⟨k, f, c2, t2, fk⟩⟩ ⟨ek, ec, et, ⟨lk, lf, lc, lt, lb⟩⟩)) := by
  rcases hc : chk r c t ph k f c2 t2 fk
  · rw [stepS_A ⟨r, c, t, ph, ⟨k, f, c2, t2, fk⟩⟩ ⟨ek, ec, et, ⟨lk, lf, lc, lt, lb⟩⟩ hc]
    exact or_stepA r c t ph k f c2 t2 fk ek ec et lk lf lc lt lb w hc
  · by_cases hp : ph = 0
    · subst hp
      have h := or_step0 r c t k f c2 t2 fk ek ec et lk lf lc lt lb w hc
      have e : stepS ⟨r, c, t, 0, ⟨k, f, c2, t2, fk⟩⟩ ⟨ek, ec, et, ⟨lk, lf, lc, lt, lb⟩⟩ = start0 r c t k f c2 t2 fk ek ec et := by
        unfold stepS chkS start0
        simp only [hc, if_true]
        split <;> rfl
      rw [e]
      exact h
    · exact or_stepC r c t ph k f c2 t2 fk ek ec et lk lf lc lt lb w hc (by simpa using hp)

def finS (s : St) : Bool := chkS s && (s.ph == 6 || s.ph == 7)
def waitS (s : St) : Bool := chkS s && (s.ph != 0 && !finS s)

set_option maxHeartbeats 400000 in
theorem or_final (r c : Int) (t : ByteArray) (ph k f c2 : Int) (t2 : ByteArray) (fk : Bool) (w : World) :
    Calls Try.prog 15 #[.agg #[.int .i64 r, .int .u64 c, .string t, .int .i64 ph, .int .i64 k, .int .i64 f, .int .u64 c2, .string t2, .bool fk]] w fun e w' => e = .returned (.bool (finS ⟨r, c, t, ph, ⟨k, f, c2, t2, fk⟩⟩)) ∧ Ext w w' := by
  rcases hc : chk r c t ph k f c2 t2 fk
  · have hs : finS ⟨r, c, t, ph, ⟨k, f, c2, t2, fk⟩⟩ = false := by simp [finS, chkS, hc]
    rw [hs]; clear hs
    go_enter Try.func15, Try.ntmps15
    go_wp2_with (go_at_call 13; refine (or_check _ _ _ _ _ _ _ _ _ _).mono ?_; rintro e w1 ⟨rfl, hx⟩; obtain ⟨x1, rfl⟩ := ext_of hx; clear hx)
    go_ret
    exact ⟨rfl, ((Ext.refl _).alloc _).val x1⟩
  · have hs : finS ⟨r, c, t, ph, ⟨k, f, c2, t2, fk⟩⟩ = (ph == 6 || ph == 7) := by simp [finS, chkS, hc]
    rw [hs]; clear hs
    rcases h6 : (ph == 6)
    all_goals
      go_enter Try.func15, Try.ntmps15
      go_wp2_with (go_at_call 13; refine (or_check _ _ _ _ _ _ _ _ _ _).mono ?_; rintro e w1 ⟨rfl, hx⟩; obtain ⟨x1, rfl⟩ := ext_of hx; clear hx)
      go_ret
      exact ⟨by simp, ((Ext.refl _).alloc _).val x1⟩

set_option maxHeartbeats 400000 in
theorem or_waits (r c : Int) (t : ByteArray) (ph k f c2 : Int) (t2 : ByteArray) (fk : Bool) (w : World) :
    Calls Try.prog 17 #[.agg #[.int .i64 r, .int .u64 c, .string t, .int .i64 ph, .int .i64 k, .int .i64 f, .int .u64 c2, .string t2, .bool fk]] w fun e w' => e = .returned (.bool (waitS ⟨r, c, t, ph, ⟨k, f, c2, t2, fk⟩⟩)) ∧ Ext w w' := by
  rcases hc : chk r c t ph k f c2 t2 fk
  · have hs : waitS ⟨r, c, t, ph, ⟨k, f, c2, t2, fk⟩⟩ = false := by simp [waitS, chkS, hc]
    rw [hs]; clear hs
    go_enter Try.func17, Try.ntmps17
    go_wp2_with (go_at_call 13; refine (or_check _ _ _ _ _ _ _ _ _ _).mono ?_; rintro e w1 ⟨rfl, hx⟩; obtain ⟨x1, rfl⟩ := ext_of hx; clear hx)
    go_ret
    exact ⟨rfl, ((Ext.refl _).alloc _).val x1⟩
  · have hs : waitS ⟨r, c, t, ph, ⟨k, f, c2, t2, fk⟩⟩ = (ph != 0 && !finS ⟨r, c, t, ph, ⟨k, f, c2, t2, fk⟩⟩) := by simp [waitS, chkS, hc]
    rw [hs]; clear hs
    rcases h0 : (ph != 0)
    · go_enter Try.func17, Try.ntmps17
      go_wp2_with (go_at_call 13; refine (or_check _ _ _ _ _ _ _ _ _ _).mono ?_; rintro e w1 ⟨rfl, hx⟩; obtain ⟨x1, rfl⟩ := ext_of hx; clear hx)
      go_ret
      exact ⟨by simp, ((Ext.refl _).alloc _).val x1⟩
    · go_enter Try.func17, Try.ntmps17
      go_wp2_with (first
        | (go_at_call 13; refine (or_check _ _ _ _ _ _ _ _ _ _).mono ?_; rintro e w1 ⟨rfl, hx⟩; obtain ⟨x1, rfl⟩ := ext_of hx; clear hx)
        | (go_at_call 15; refine (or_final _ _ _ _ _ _ _ _ _ _).mono ?_; rintro e w1 ⟨rfl, hx⟩; obtain ⟨x2, rfl⟩ := ext_of hx; clear hx))
      go_ret
      exact ⟨by simp, (((Ext.refl _).alloc _).val x1).val x2⟩

theorem or_new (c : Int) (w : World) :
    Calls Try.prog 25 #[.int .u64 c] w fun e w' => e = .returned (.agg #[.int .i64 0, .int .u64 c, .string { data := #[] }, .int .i64 0, .int .i64 0, .int .i64 0, .int .u64 0, .string { data := #[] }, .bool false]) ∧ Ext w w' := by
  go_enter Try.func25, Try.ntmps25
  go_wp2
  exact bodyPost_ret (v := .agg #[.int .i64 0, .int .u64 c, .string { data := #[] }, .int .i64 0, .int .i64 0, .int .i64 0, .int .u64 0, .string { data := #[] }, .bool false]) (by simp [results, Try.results25, go_sem]) rfl ⟨rfl, (Ext.refl _).alloc _⟩
end Go.Proofs.Ytnfehccnofhmnaa
