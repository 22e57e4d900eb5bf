/-
  Walks: a line's test, a line's state, the step. No condition.
-/
import Derived.Test.YtnfehccnofhmnaaW2
import Derived.Laws.ResultCell
namespace Go.Proofs.Ytnfehccnofhmnaa
open Go.RowKit
attribute [local go_sem ↓] eql_lEq eql_sEq eql_eEq eql_oEq neq_lEq neq_sEq neq_eEq neq_oEq
attribute [local go_sem] ExtOf.cell ExtOf.frozen ExtOf.lt ExtOf.le
attribute [local go_sem high] ExtOf.cell2 ExtOf.frozen2 ExtOf.lt2 ExtOf.cell3 ExtOf.frozen3 ExtOf.lt3 ExtOf.cellB ExtOf.frozenB ExtOf.cellX ExtOf.frozenX ExtOf.cellX' ExtOf.frozenX'
attribute [local go_sem] BelOf.cell BelOf.frozen BelOf.lt

/-- Does an event fit a line? -/
def takesS (tick : Bool) (k f c : Int) (t : ByteArray) (b : Bool) (sc : Int) (ek ec : Int) (lk lf lc : Int) (lt : ByteArray) (lb : Bool) : Bool :=
  if tick then decide (ek = 3 ∧ ec = sc) else decide (ek = 2) && lEq lk lf lc lt lb k f c t b

set_option maxHeartbeats 400000 in
theorem or_takes (tick : Bool) (k f c : Int) (t : ByteArray) (b : Bool) (to k2 f2 c2 : Int) (t2 : ByteArray) (b2 : Bool)
    (r sc : Int) (st : ByteArray) (ph pk pf pc : Int) (pt : ByteArray) (pb : Bool) (ek ec : Int) (et : ByteArray) (lk lf lc : Int) (lt : ByteArray) (lb : Bool) (w : World) :
    Calls Try.prog 32 #[.agg #[.bool tick, .int .i64 k, .int .i64 f, .int .u64 c, .string t, .bool b, .int .i64 to, .int .i64 k2, .int .i64 f2, .int .u64 c2, .string t2, .bool b2],
      .agg #[.int .i64 r, .int .u64 sc, .string st, .int .i64 ph, .int .i64 pk, .int .i64 pf, .int .u64 pc, .string pt, .bool pb],
      .agg #[.int .i64 ek, .int .u64 ec, .string et, .int .i64 lk, .int .i64 lf, .int .u64 lc, .string lt, .bool lb]] w
      fun e w' => e = .returned (.bool (takesS tick k f c t b sc ek ec lk lf lc lt lb)) ∧ Ext w w' := by
  cases tick
  · by_cases h : ek = 2
    · have h' : (ek == 2) = true := by simpa using h
      have hs : takesS false k f c t b sc ek ec lk lf lc lt lb = lEq lk lf lc lt lb k f c t b := by simp [takesS, h]
      rw [hs]
      clear hs h
      go_enter Try.func32, Try.ntmps32
      go_wp2
      all_goals (go_ret; exact ⟨rfl, (((Ext.refl _).alloc _).alloc _).alloc _⟩)
    · have h' : (ek == 2) = false := by simpa using h
      have hs : takesS false k f c t b sc ek ec lk lf lc lt lb = false := by simp [takesS, h]
      rw [hs]
      clear hs h
      go_enter Try.func32, Try.ntmps32
      go_wp2
      all_goals (go_ret; exact ⟨rfl, (((Ext.refl _).alloc _).alloc _).alloc _⟩)
  · by_cases h : ek = 3
    · have h' : (ek == 3) = true := by simpa using h
      have hs : takesS true k f c t b sc ek ec lk lf lc lt lb = (ec == sc) := by simp [takesS, h]; rfl
      rw [hs]
      clear hs h
      go_enter Try.func32, Try.ntmps32
      go_wp2
      all_goals (go_ret; exact ⟨rfl, (((Ext.refl _).alloc _).alloc _).alloc _⟩)
    · have h' : (ek == 3) = false := by simpa using h
      have hs : takesS true k f c t b sc ek ec lk lf lc lt lb = false := by simp [takesS, h]
      rw [hs]
      clear hs h
      go_enter Try.func32, Try.ntmps32
      go_wp2
      all_goals (go_ret; exact ⟨rfl, (((Ext.refl _).alloc _).alloc _).alloc _⟩)

set_option maxHeartbeats 400000 in
theorem or_to (tick : Bool) (k f c : Int) (t : ByteArray) (b : Bool) (to k2 f2 c2 : Int) (t2 : ByteArray) (b2 : Bool)
    (r sc : Int) (st : ByteArray) (ph pk pf pc : Int) (pt : ByteArray) (pb : Bool) (w : World) :
    Calls Try.prog 33 #[.agg #[.bool tick, .int .i64 k, .int .i64 f, .int .u64 c, .string t, .bool b, .int .i64 to, .int .i64 k2, .int .i64 f2, .int .u64 c2, .string t2, .bool b2],
      .agg #[.int .i64 r, .int .u64 sc, .string st, .int .i64 ph, .int .i64 pk, .int .i64 pf, .int .u64 pc, .string pt, .bool pb]] w
      fun e w' => e = .returned (.agg (if to = 6 then #[.int .i64 r, .int .u64 sc, .string st, .int .i64 to, .int .i64 k, .int .i64 f, .int .u64 c, .string t, .bool b]
        else #[.int .i64 r, .int .u64 sc, .string st, .int .i64 to, .int .i64 pk, .int .i64 pf, .int .u64 pc, .string pt, .bool pb])) ∧ Ext w w' := by
  by_cases h : to = 6
  · have h' : (to == 6) = true := by simpa using h
    rw [if_pos h]
    clear h
    go_enter Try.func33, Try.ntmps33
    go_wp2
    exact bodyPost_ret (v := .agg #[.int .i64 r, .int .u64 sc, .string st, .int .i64 to, .int .i64 k, .int .i64 f, .int .u64 c, .string t, .bool b]) (by simp [results, Try.results33, go_sem]) rfl ⟨rfl, (((Ext.refl _).alloc _).alloc _).alloc _⟩
  · have h' : (to == 6) = false := by simpa using h
    rw [if_neg h]
    clear h
    go_enter Try.func33, Try.ntmps33
    go_wp2
    exact bodyPost_ret (v := .agg #[.int .i64 r, .int .u64 sc, .string st, .int .i64 to, .int .i64 pk, .int .i64 pf, .int .u64 pc, .string pt, .bool pb]) (by simp [results, Try.results33, go_sem]) rfl ⟨rfl, (((Ext.refl _).alloc _).alloc _).alloc _⟩
end Go.Proofs.Ytnfehccnofhmnaa
