/-
  Walks of the originator's slices. No condition.
-/
import Derived.Test.YtfibbhmmiemcoaaML16
import Derived.Laws.ResultCell
set_option linter.all false
namespace Go.Proofs.Ytfibbhmmiemcoaa
open Go.RowKit
attribute [local go_sem ↓] eql_lEq eql_sEq eql_eEq eql_oEq neq_lEq neq_sEq neq_eEq neq_oEq
attribute [local go_sem] ExtOf.cell ExtOf.frozen ExtOf.lt ExtOf.le
attribute [local go_sem high] ExtOf.cell2 ExtOf.frozen2 ExtOf.lt2 ExtOf.cell3 ExtOf.frozen3 ExtOf.lt3 ExtOf.cellB ExtOf.frozenB ExtOf.cellX ExtOf.frozenX ExtOf.cellX' ExtOf.frozenX'
attribute [local go_sem] BelOf.cell BelOf.frozen BelOf.lt

def outS (l : Lt) : List Ou := if l.k = 0 then [] else if l.k = 1 ∨ l.k = 2 then [⟨1, l⟩] else [⟨2, l⟩]

theorem outS_0 {k f c : Int} {t : ByteArray} {b : Bool} (h : (k == 0) = true) : outS ⟨k, f, c, t, b⟩ = [] := by
  simp [outS] at *; simp [h]
theorem outS_1 {k f c : Int} {t : ByteArray} {b : Bool} (h : (k == 1) = true ∨ (k == 2) = true) : outS ⟨k, f, c, t, b⟩ = [⟨1, ⟨k, f, c, t, b⟩⟩] := by
  have h' : k = 1 ∨ k = 2 := by simpa using h
  unfold outS
  rw [if_neg (by simp only; omega), if_pos h']
theorem outS_2 {k f c : Int} {t : ByteArray} {b : Bool} (h0 : (k == 0) = false) (h1 : (k == 1) = false) (h2 : (k == 2) = false) : outS ⟨k, f, c, t, b⟩ = [⟨2, ⟨k, f, c, t, b⟩⟩] := by
  have g0 : ¬ k = 0 := by simpa using h0
  have g1 : ¬ k = 1 := by simpa using h1
  have g2 : ¬ k = 2 := by simpa using h2
  unfold outS
  rw [if_neg g0, if_neg (by simp only; omega)]

set_option maxHeartbeats 400000 in
theorem or_out (k f c : Int) (t : ByteArray) (b : Bool) (w : World) :
    Calls Try.prog 83 #[.agg #[.int .i64 k, .int .i64 f, .int .u64 c, .string t, .bool b]] w (Made w 111 6 (outS ⟨k, f, c, t, b⟩).length ((outS ⟨k, f, c, t, b⟩).flatMap Ou.cs)) := by
  go_enter Try.func83, Try.ntmps83
  go_wp2
  · go_ret
    rw [outS_0 ‹_›]
    exact ⟨_, rfl, World.ownsRow_nil _ _ _ _, (Ext.refl _).alloc _⟩
  · go_ret
    rw [outS_1 (.inl ‹_›)]
    exact ⟨_, rfl, own_new ((Ext.refl _).alloc _) (by simp) (by decide) rfl rfl, ((Ext.refl _).alloc _).alloc _⟩
  · go_ret
    rw [outS_1 (.inr ‹_›)]
    exact ⟨_, rfl, own_new ((Ext.refl _).alloc _) (by simp) (by decide) rfl rfl, ((Ext.refl _).alloc _).alloc _⟩
  · go_ret
    rw [outS_2 ‹(k == 0) = false› ‹(k == 1) = false› ‹(k == 2) = false›]
    exact ⟨_, rfl, own_new ((Ext.refl _).alloc _) (by simp) (by decide) rfl rfl, ((Ext.refl _).alloc _).alloc _⟩

structure Rw where
  tick : Bool
  comes : Lt
  to : Int
  sends : Lt
def Rw.cs (x : Rw) : List Value := [.bool x.tick, .int .i64 x.comes.k, .int .i64 x.comes.f, .int .u64 x.comes.c, .string x.comes.t, .bool x.comes.b, .int .i64 x.to, .int .i64 x.sends.k, .int .i64 x.sends.f, .int .u64 x.sends.c, .string x.sends.t, .bool x.sends.b]

def prS (c : Int) (t : ByteArray) (n : Int) : Lt := ⟨1, n, c, t, false⟩
def sgS (c : Int) (t : ByteArray) (n : Int) : Lt := ⟨2, n, c, t, false⟩
def inS (c : Int) (t : ByteArray) : Lt := ⟨6, 0, c, t, false⟩
def tkS (c : Int) : Lt := ⟨5, 0, c, { data := #[] }, false⟩
def abS (c : Int) : Lt := ⟨3, 0, c, { data := #[] }, false⟩
def rsS (c : Int) (t : ByteArray) : Lt := ⟨4, 0, c, t, false⟩

def rowsS (c : Int) (t : ByteArray) (ph : Int) : List Rw :=
  if ph = 2 then [⟨false, prS c t 1, 3, sgS c t 0⟩, ⟨true, l0, 4, abS c⟩]
  else if ph = 3 then [⟨false, prS c t 1, 3, sgS c t 0⟩, ⟨false, sgS c t 1, 6, l0⟩, ⟨true, l0, 5, rsS c t⟩]
  else if ph = 4 then [⟨true, l0, 4, abS c⟩, ⟨false, tkS c, 7, l0⟩, ⟨false, inS c t, 6, l0⟩]
  else if ph = 5 then [⟨true, l0, 5, rsS c t⟩, ⟨false, sgS c t 1, 6, l0⟩, ⟨false, inS c t, 6, l0⟩]
  else []

set_option maxHeartbeats 400000 in
theorem or_rows2 (r c : Int) (t : ByteArray) (k f c2 : Int) (t2 : ByteArray) (fk : Bool) (w : World) :
    Calls Try.prog 85 #[.agg #[.int .i64 r, .int .u64 c, .string t, .int .i64 2, .int .i64 k, .int .i64 f, .int .u64 c2, .string t2, .bool fk]] w (Made w 161 12 (rowsS c t 2).length ((rowsS c t 2).flatMap Rw.cs)) := by
  go_enter Try.func85, Try.ntmps85
  go_wp2_with fail
  refine wp_region_mixE (af := ?af) [true, true, true, true, true, true, true, false, false] 67 (by kernel_rfl) rfl (by kernel_rfl) ?q ?r
  case q =>
    intro x0
    simp only [pickT, if_true, if_false, Bool.false_eq_true]
    repeat (go_big_quiet_step ((first | (go_at_call 84; exact calls_ext (or_promise _ _ _ _ _ _ _ _ _ _ _)) | (go_at_call 38; exact calls_ext (or_signature _ _ _ _ _ _ _ _ _ _ _)))))
    exact rfl
  case r =>
    simp only [pickF, if_true, if_false, Bool.false_eq_true]
    intro x1
    have e1 : Ext w x1.val := ((((Ext.refl _).alloc _).alloc _).alloc _).drew.val x1
    go_wp2_with fail
    refine ⟨((Ext.refl _).drew.val x1).alloc _, ?_⟩
    intro x2
    go_wp2_with fail
    refine ⟨(((Ext.refl _).drew.val x1).alloc _).val x2, ?_⟩
    intro x3
    go_wp2_with fail
    go_ret
    exact ⟨_, rfl, own_ext (own_ext (own_new e1 rfl (by decide) rfl rfl) x2.ext) x3.ext, ((e1.alloc _).val x2).val x3⟩

set_option maxHeartbeats 800000 in
theorem or_rows3 (r c : Int) (t : ByteArray) (k f c2 : Int) (t2 : ByteArray) (fk : Bool) (w : World) :
    Calls Try.prog 85 #[.agg #[.int .i64 r, .int .u64 c, .string t, .int .i64 3, .int .i64 k, .int .i64 f, .int .u64 c2, .string t2, .bool fk]] w (Made w 161 12 (rowsS c t 3).length ((rowsS c t 3).flatMap Rw.cs)) := by
  go_enter Try.func85, Try.ntmps85
  go_wp2_with fail
  refine wp_region_mixE (af := ?af) [true, true, true, true, true, true, true, true, true, true, false, false] 67 (by kernel_rfl) rfl (by kernel_rfl) ?q ?r
  case q =>
    intro x0
    simp only [pickT, if_true, if_false, Bool.false_eq_true]
    repeat (go_big_quiet_step ((first | (go_at_call 84; exact calls_ext (or_promise _ _ _ _ _ _ _ _ _ _ _)) | (go_at_call 38; exact calls_ext (or_signature _ _ _ _ _ _ _ _ _ _ _)) | (go_at_call 93; exact calls_ext (or_token _ _ _ _ _ _ _ _ _ _)) | (go_at_call 39; exact calls_ext (or_instead _ _ _ _ _ _ _ _ _ _)))))
    exact rfl
  case r =>
    simp only [pickF, if_true, if_false, Bool.false_eq_true]
    intro x1
    have e1 : Ext w x1.val := ((((Ext.refl _).alloc _).alloc _).alloc _).drew.val x1
    go_wp2_with fail
    refine ⟨((Ext.refl _).drew.val x1).alloc _, ?_⟩
    intro x2
    go_wp2_with fail
    refine ⟨(((Ext.refl _).drew.val x1).alloc _).val x2, ?_⟩
    intro x3
    go_wp2_with fail
    go_ret
    exact ⟨_, rfl, own_ext (own_ext (own_new e1 rfl (by decide) rfl rfl) x2.ext) x3.ext, ((e1.alloc _).val x2).val x3⟩

set_option maxHeartbeats 800000 in
theorem or_rows4 (r c : Int) (t : ByteArray) (k f c2 : Int) (t2 : ByteArray) (fk : Bool) (w : World) :
    Calls Try.prog 85 #[.agg #[.int .i64 r, .int .u64 c, .string t, .int .i64 4, .int .i64 k, .int .i64 f, .int .u64 c2, .string t2, .bool fk]] w (Made w 161 12 (rowsS c t 4).length ((rowsS c t 4).flatMap Rw.cs)) := by
  go_enter Try.func85, Try.ntmps85
  go_wp2_with fail
  refine wp_region_mixE (af := ?af) [true, true, true, true, true, true, true, true, false, false] 67 (by kernel_rfl) rfl (by kernel_rfl) ?q ?r
  case q =>
    intro x0
    simp only [pickT, if_true, if_false, Bool.false_eq_true]
    repeat (go_big_quiet_step ((first | (go_at_call 84; exact calls_ext (or_promise _ _ _ _ _ _ _ _ _ _ _)) | (go_at_call 38; exact calls_ext (or_signature _ _ _ _ _ _ _ _ _ _ _)) | (go_at_call 93; exact calls_ext (or_token _ _ _ _ _ _ _ _ _ _)) | (go_at_call 39; exact calls_ext (or_instead _ _ _ _ _ _ _ _ _ _)))))
    exact rfl
  case r =>
    simp only [pickF, if_true, if_false, Bool.false_eq_true]
    intro x1
    have e1 : Ext w x1.val := ((((Ext.refl _).alloc _).alloc _).alloc _).drew.val x1
    go_wp2_with fail
    refine ⟨((Ext.refl _).drew.val x1).alloc _, ?_⟩
    intro x2
    go_wp2_with fail
    refine ⟨(((Ext.refl _).drew.val x1).alloc _).val x2, ?_⟩
    intro x3
    go_wp2_with fail
    go_ret
    exact ⟨_, rfl, own_ext (own_ext (own_new e1 rfl (by decide) rfl rfl) x2.ext) x3.ext, ((e1.alloc _).val x2).val x3⟩

theorem info_row : (Try.prog.info? 161).map (fun i => (i.zero, i.size, i.bytes)) = some (some (.agg #[.bool false, .int .i64 0, .int .i64 0, .int .u64 0, .string { data := #[] }, .bool false, .int .i64 0, .int .i64 0, .int .i64 0, .int .u64 0, .string { data := #[] }, .bool false]), 12, 112) := by kernel_rfl

set_option maxHeartbeats 800000 in
theorem or_rows5 (r c : Int) (t : ByteArray) (k f c2 : Int) (t2 : ByteArray) (fk : Bool) (w : World) :
    Calls Try.prog 85 #[.agg #[.int .i64 r, .int .u64 c, .string t, .int .i64 5, .int .i64 k, .int .i64 f, .int .u64 c2, .string t2, .bool fk]] w (Made w 161 12 (rowsS c t 5).length ((rowsS c t 5).flatMap Rw.cs)) := by
  obtain ⟨i0, hi, hz0, hz1, hz2⟩ := info_parts info_row
  go_enter Try.func85, Try.ntmps85
  go_wp2_with (at_builtin; refine wpList_app (w.heap.size + 1 + 1 + 1) 158 161 i0 _ 12 112 Try.underlying158 hi hz0 hz1 hz2 rfl (by decide) rfl _ _ rfl _ 0 [] rfl (World.ownsRow_nil _ _ _ _) (by simp) _ 1 1 _ rfl (heap_new (by simp)) rfl (by simp [Value.oneCell']) (by decide) (by decide) ?_; intro v1 w1 hown1 hx1 _; obtain ⟨y1, rfl⟩ := bel_of hx1)
  have e1 : Below (w.heap.size + 1 + 1 + 1) (((w.alloc _).alloc _).alloc _) y1.val := (Below.alloc (Below.refl _ _) (by simp) _).trans y1.bel
  have hs1 : w.heap.size + 1 + 1 + 1 ≤ y1.val.heap.size := by have := y1.bel.size; simp at this; omega
  refine wp_region_mixB (w.heap.size + 1 + 1 + 1) hs1 (af := ?af) [true, true, true, true, true, true, true, false, false, false] 67 (by kernel_rfl) rfl (by kernel_rfl) ?q ?r
  case q =>
    intro x0
    simp only [pickT, if_true, if_false, Bool.false_eq_true]
    repeat (go_big_quiet_step ((first | (go_at_call 38; exact calls_ext (or_signature _ _ _ _ _ _ _ _ _ _ _)) | (go_at_call 39; exact calls_ext (or_instead _ _ _ _ _ _ _ _ _ _)))))
    exact rfl
  case r =>
    simp only [pickF, if_true, if_false, Bool.false_eq_true]
    intro x1
    have f1 : Ext y1.val x1.val := (Ext.refl _).drew.val x1
    have hs2 : w.heap.size + 1 + 1 + 1 ≤ x1.val.heap.size := Nat.le_trans hs1 f1.size
    go_wp2_with fail
    refine ⟨(Below.mono f1 hs1).alloc hs2 _, ?_⟩
    intro x2
    have f2 : Ext y1.val x2.val := (f1.alloc _).val x2
    have hs3 : w.heap.size + 1 + 1 + 1 ≤ x2.val.heap.size := Nat.le_trans hs1 f2.size
    go_wp2_with (at_builtin; refine wpList_app (w.heap.size + 1 + 1 + 1) 158 161 i0 _ 12 112 Try.underlying158 hi hz0 hz1 hz2 rfl (by decide) rfl _ _ rfl _ 1 _ rfl (own_ext hown1 f2) hs3 x1.val.heap.size 2 2 _ rfl (heap_ext (heap_new rfl) x2.ext) rfl (by simp [Value.oneCell']) (by decide) (by decide) ?_; intro v2 w2 hown2 hx2 _)
    refine ⟨(Below.mono f2 hs1).trans hx2, ?_⟩
    intro x3
    go_wp2_with fail
    refine ⟨bel_ext ((Below.mono f2 hs1).trans hx2) x3.ext hs1, ?_⟩
    intro x4
    go_wp2_with fail
    go_ret
    have hs4 := Nat.le_trans hs3 hx2.size
    have hs5 := Nat.le_trans hs4 x3.ext.size
    refine ⟨_, rfl, own_base (b' := w.heap.size) (own_ext (own_ext hown2 x3.ext) x4.ext) (by omega), ?_⟩
    have g0 := Below.trans (((Ext.refl w).alloc _).alloc _ |>.alloc _) (Below.mono e1 (B' := w.heap.size) (by omega))
    exact (((g0.trans (Below.mono f2 (by omega))).trans (Below.mono hx2 (by omega))).trans (Below.mono x3.ext (by omega))).trans (Below.mono x4.ext (by omega))

/-- Another phase has no line. -/
theorem or_rows0 (r c : Int) (t : ByteArray) (ph k f c2 : Int) (t2 : ByteArray) (fk : Bool) (w : World) (h2 : ph ≠ 2) (h3 : ph ≠ 3) (h4 : ph ≠ 4) (h5 : ph ≠ 5) :
    Calls Try.prog 85 #[.agg #[.int .i64 r, .int .u64 c, .string t, .int .i64 ph, .int .i64 k, .int .i64 f, .int .u64 c2, .string t2, .bool fk]] w (Made w 161 12 (rowsS c t ph).length ((rowsS c t ph).flatMap Rw.cs)) := by
  have g2 : (ph == 2) = false := by simpa using h2
  have g3 : (ph == 3) = false := by simpa using h3
  have g4 : (ph == 4) = false := by simpa using h4
  have g5 : (ph == 5) = false := by simpa using h5
  have e : rowsS c t ph = [] := by unfold rowsS; rw [if_neg h2, if_neg h3, if_neg h4, if_neg h5]
  rw [e]
  clear e h2 h3 h4 h5
  go_enter Try.func85, Try.ntmps85
  go_wp2
  go_ret
  exact ⟨_, rfl, World.ownsRow_nil _ _ _ _, (((Ext.refl _).alloc _).alloc _).alloc _⟩

theorem or_rows (r c : Int) (t : ByteArray) (ph k f c2 : Int) (t2 : ByteArray) (fk : Bool) (w : World) :
    Calls Try.prog 85 #[.agg #[.int .i64 r, .int .u64 c, .string t, .int .i64 ph, .int .i64 k, .int .i64 f, .int .u64 c2, .string t2, .bool fk]] w (Made w 161 12 (rowsS c t ph).length ((rowsS c t ph).flatMap Rw.cs)) := by
  by_cases h2 : ph = 2
  · subst h2; exact or_rows2 r c t k f c2 t2 fk w
  by_cases h3 : ph = 3
  · subst h3; exact or_rows3 r c t k f c2 t2 fk w
  by_cases h4 : ph = 4
  · subst h4; exact or_rows4 r c t k f c2 t2 fk w
  by_cases h5 : ph = 5
  · subst h5; exact or_rows5 r c t k f c2 t2 fk w
  exact or_rows0 r c t ph k f c2 t2 fk w h2 h3 h4 h5
end Go.Proofs.Ytfibbhmmiemcoaa

/-
  Walks: a line's test, a line's state, the step. No condition.
-/
namespace Go.Proofs.Ytfibbhmmiemcoaa
open Go.RowKit
attribute [local go_sem ↓] eql_lEq eql_sEq eql_eEq eql_oEq neq_lEq neq_sEq neq_eEq neq_oEq
attribute [local go_sem] ExtOf.cell ExtOf.frozen ExtOf.lt ExtOf.le
attribute [local go_sem high] ExtOf.cell2 ExtOf.frozen2 ExtOf.lt2 ExtOf.cell3 ExtOf.frozen3 ExtOf.lt3 ExtOf.cellB ExtOf.frozenB ExtOf.cellX ExtOf.frozenX ExtOf.cellX' ExtOf.frozenX'
attribute [local go_sem] BelOf.cell BelOf.frozen BelOf.lt

/-- Does an event fit a line? -/
def takesS (tick : Bool) (k f c : Int) (t : ByteArray) (b : Bool) (sc : Int) (ek ec : Int) (lk lf lc : Int) (lt : ByteArray) (lb : Bool) : Bool :=
  if tick then decide (ek = 3 ∧ ec = sc) else decide (ek = 2) && lEq lk lf lc lt lb k f c t b

set_option maxHeartbeats 400000 in
theorem or_takes (tick : Bool) (k f c : Int) (t : ByteArray) (b : Bool) (to k2 f2 c2 : Int) (t2 : ByteArray) (b2 : Bool)
    (r sc : Int) (st : ByteArray) (ph pk pf pc : Int) (pt : ByteArray) (pb : Bool) (ek ec : Int) (et : ByteArray) (lk lf lc : Int) (lt : ByteArray) (lb : Bool) (w : World) :
    Calls Try.prog 86 #[.agg #[.bool tick, .int .i64 k, .int .i64 f, .int .u64 c, .string t, .bool b, .int .i64 to, .int .i64 k2, .int .i64 f2, .int .u64 c2, .string t2, .bool b2],
      .agg #[.int .i64 r, .int .u64 sc, .string st, .int .i64 ph, .int .i64 pk, .int .i64 pf, .int .u64 pc, .string pt, .bool pb],
      .agg #[.int .i64 ek, .int .u64 ec, .string et, .int .i64 lk, .int .i64 lf, .int .u64 lc, .string lt, .bool lb]] w
      fun e w' => e = .returned (.bool (takesS tick k f c t b sc ek ec lk lf lc lt lb)) ∧ Ext w w' := by
  cases tick
  · by_cases h : ek = 2
    · have h' : (ek == 2) = true := by simpa using h
      have hs : takesS false k f c t b sc ek ec lk lf lc lt lb = lEq lk lf lc lt lb k f c t b := by simp [takesS, h]
      rw [hs]
      clear hs h
      go_enter Try.func86, Try.ntmps86
      go_wp2
      all_goals (go_ret; exact ⟨rfl, (((Ext.refl _).alloc _).alloc _).alloc _⟩)
    · have h' : (ek == 2) = false := by simpa using h
      have hs : takesS false k f c t b sc ek ec lk lf lc lt lb = false := by simp [takesS, h]
      rw [hs]
      clear hs h
      go_enter Try.func86, Try.ntmps86
      go_wp2
      all_goals (go_ret; exact ⟨rfl, (((Ext.refl _).alloc _).alloc _).alloc _⟩)
  · by_cases h : ek = 3
    · have h' : (ek == 3) = true := by simpa using h
      have hs : takesS true k f c t b sc ek ec lk lf lc lt lb = (ec == sc) := by simp [takesS, h]; rfl
      rw [hs]
      clear hs h
      go_enter Try.func86, Try.ntmps86
      go_wp2
      all_goals (go_ret; exact ⟨rfl, (((Ext.refl _).alloc _).alloc _).alloc _⟩)
    · have h' : (ek == 3) = false := by simpa using h
      have hs : takesS true k f c t b sc ek ec lk lf lc lt lb = false := by simp [takesS, h]
      rw [hs]
      clear hs h
      go_enter Try.func86, Try.ntmps86
      go_wp2
      all_goals (go_ret; exact ⟨rfl, (((Ext.refl _).alloc _).alloc _).alloc _⟩)

set_option maxHeartbeats 400000 in
theorem or_to (tick : Bool) (k f c : Int) (t : ByteArray) (b : Bool) (to k2 f2 c2 : Int) (t2 : ByteArray) (b2 : Bool)
    (r sc : Int) (st : ByteArray) (ph pk pf pc : Int) (pt : ByteArray) (pb : Bool) (w : World) :
    Calls Try.prog 87 #[.agg #[.bool tick, .int .i64 k, .int .i64 f, .int .u64 c, .string t, .bool b, .int .i64 to, .int .i64 k2, .int .i64 f2, .int .u64 c2, .string t2, .bool b2],
      .agg #[.int .i64 r, .int .u64 sc, .string st, .int .i64 ph, .int .i64 pk, .int .i64 pf, .int .u64 pc, .string pt, .bool pb]] w
      fun e w' => e = .returned (.agg (if to = 6 then #[.int .i64 r, .int .u64 sc, .string st, .int .i64 to, .int .i64 k, .int .i64 f, .int .u64 c, .string t, .bool b]
        else #[.int .i64 r, .int .u64 sc, .string st, .int .i64 to, .int .i64 pk, .int .i64 pf, .int .u64 pc, .string pt, .bool pb])) ∧ Ext w w' := by
  by_cases h : to = 6
  · have h' : (to == 6) = true := by simpa using h
    rw [if_pos h]
    clear h
    go_enter Try.func87, Try.ntmps87
    go_wp2
    exact bodyPost_ret (v := .agg #[.int .i64 r, .int .u64 sc, .string st, .int .i64 to, .int .i64 k, .int .i64 f, .int .u64 c, .string t, .bool b]) (by simp [results, Try.results87, go_sem]) rfl ⟨rfl, (((Ext.refl _).alloc _).alloc _).alloc _⟩
  · have h' : (to == 6) = false := by simpa using h
    rw [if_neg h]
    clear h
    go_enter Try.func87, Try.ntmps87
    go_wp2
    exact bodyPost_ret (v := .agg #[.int .i64 r, .int .u64 sc, .string st, .int .i64 to, .int .i64 pk, .int .i64 pf, .int .u64 pc, .string pt, .bool pb]) (by simp [results, Try.results87, go_sem]) rfl ⟨rfl, (((Ext.refl _).alloc _).alloc _).alloc _⟩
end Go.Proofs.Ytfibbhmmiemcoaa

/-
  Walk: the originator's step. No condition.
-/
namespace Go.Proofs.Ytfibbhmmiemcoaa
open Go.RowKit
attribute [local go_sem ↓] eql_lEq eql_sEq eql_eEq eql_oEq neq_lEq neq_sEq neq_eEq neq_oEq
attribute [local go_sem] ExtOf.cell ExtOf.frozen ExtOf.lt ExtOf.le
attribute [local go_sem high] ExtOf.cell2 ExtOf.frozen2 ExtOf.lt2 ExtOf.cell3 ExtOf.frozen3 ExtOf.lt3 ExtOf.cellB ExtOf.frozenB ExtOf.cellX ExtOf.frozenX ExtOf.cellX' ExtOf.frozenX'
attribute [local go_sem] BelOf.cell BelOf.frozen BelOf.lt

def chkS (s : St) : Bool := chk s.r s.c s.t s.ph s.p.k s.p.f s.p.c s.p.t s.p.b
def takesR (x : Rw) (s : St) (e : Ev) : Bool := takesS x.tick x.comes.k x.comes.f x.comes.c x.comes.t x.comes.b s.c e.k e.c e.l.k e.l.f e.l.c e.l.t e.l.b
/-- The proof behind a line. -/
def toP (to : Int) (l p : Lt) : Lt := if to = 6 then l else p
def toS (x : Rw) (s : St) : St := ⟨s.r, s.c, s.t, x.to, toP x.to x.comes s.p⟩

theorem or_toE (tick : Bool) (k f c : Int) (t : ByteArray) (b : Bool) (to k2 f2 c2 : Int) (t2 : ByteArray) (b2 : Bool)
    (r sc : Int) (st : ByteArray) (ph pk pf pc : Int) (pt : ByteArray) (pb : Bool) (w : World) :
    Calls Try.prog 87 #[.agg #[.bool tick, .int .i64 k, .int .i64 f, .int .u64 c, .string t, .bool b, .int .i64 to, .int .i64 k2, .int .i64 f2, .int .u64 c2, .string t2, .bool b2],
      .agg #[.int .i64 r, .int .u64 sc, .string st, .int .i64 ph, .int .i64 pk, .int .i64 pf, .int .u64 pc, .string pt, .bool pb]] w
      fun e w' => e = .returned (.agg #[.int .i64 r, .int .u64 sc, .string st, .int .i64 to, .int .i64 (toP to ⟨k, f, c, t, b⟩ ⟨pk, pf, pc, pt, pb⟩).k, .int .i64 (toP to ⟨k, f, c, t, b⟩ ⟨pk, pf, pc, pt, pb⟩).f,
        .int .u64 (toP to ⟨k, f, c, t, b⟩ ⟨pk, pf, pc, pt, pb⟩).c, .string (toP to ⟨k, f, c, t, b⟩ ⟨pk, pf, pc, pt, pb⟩).t, .bool (toP to ⟨k, f, c, t, b⟩ ⟨pk, pf, pc, pt, pb⟩).b]) ∧ Ext w w' :=
  (or_to tick k f c t b to k2 f2 c2 t2 b2 r sc st ph pk pf pc pt pb w).mono fun e w' ⟨he, hx⟩ => ⟨by rw [he]; unfold toP; split <;> rfl, hx⟩
/-- The step as the table has it. -/
def stepS (s : St) (e : Ev) : St × List Ou :=
  if chkS s then
    if s.ph = 0 then
      if e.k = 1 ∧ e.c = s.c ∧ e.t.size ≤ 64 then (⟨s.r, s.c, e.t, 2, s.p⟩, outS (prS s.c e.t 0)) else (s, [])
    else match (rowsS s.c s.t s.ph).find? (fun x => takesR x s e) with
      | some x => (toS x s, outS x.sends)
      | none => (s, [])
  else (s, [])

/-- What a step hands back: the state; the outs, in a row of its own. -/
def Stepped (w : World) (s : St × List Ou) (en : Ending) (w' : World) : Prop :=
  ∃ v, en = .returned (.tuple #[.agg s.1.cs.toArray, v]) ∧ w'.ownsRow w.heap.size 111 6 v s.2.length (s.2.flatMap Ou.cs) ∧ Ext w w'

theorem info_state : (Try.prog.info? 26).map (·.size) = some 9 := by kernel_rfl

theorem wp_forget {P : Program} {c : Code} {Q : Exit → Act → World → Prop} {a : Act} {w : World} (F : World → Prop) (hF : F w) (h : ∀ w', F w' → c.wp P Q a w') : c.wp P Q a w := h w hF

set_option maxHeartbeats 400000 in
theorem or_stepA (r c : Int) (t : ByteArray) (ph k f c2 : Int) (t2 : ByteArray) (fk : Bool) (ek ec : Int) (et : ByteArray) (lk lf lc : Int) (lt : ByteArray) (lb : Bool) (w : World) (hc : chk r c t ph k f c2 t2 fk = false) :
    Calls Try.prog 72 #[.agg #[.int .i64 r, .int .u64 c, .string t, .int .i64 ph, .int .i64 k, .int .i64 f, .int .u64 c2, .string t2, .bool fk],
      .agg #[.int .i64 ek, .int .u64 ec, .string et, .int .i64 lk, .int .i64 lf, .int .u64 lc, .string lt, .bool lb]] w
      (Stepped w (⟨r, c, t, ph, ⟨k, f, c2, t2, fk⟩⟩, [])) := by
  go_enter Try.func72, Try.ntmps72
  go_wp2_with (first
    | (go_at_call 17; refine (or_check _ _ _ _ _ _ _ _ _ _).mono ?_; rintro e w1 ⟨rfl, hx⟩; obtain ⟨x1, rfl⟩ := ext_of hx; clear hx)
    | (refine wpList_store_row rfl 26 _ _ rfl _ _ rfl rfl 26 _ (heap_ext (heap_new (by simp)) x1.ext) info_state rfl (by simp [Value.oneCell']) ?_))
  refine bodyPost_ret (results_row_tmp rfl _ _ _ 26 _ (0, 0) _ rfl (setRow_heap _ _ _ _ _ _ (heap_ext (heap_new (by simp)) x1.ext)) Try.underlying26 rfl info_state) rfl ?_
  exact ⟨_, rfl, World.ownsRow_nil _ _ _ _, Ext.setRow (((((Ext.refl _).alloc _).alloc _).alloc _).val x1) (by omega) _⟩

theorem stepS_A (s : St) (e : Ev) (h : chkS s = false) : stepS s e = (s, []) := by unfold stepS; rw [h]; rfl

def start0 (r c : Int) (t : ByteArray) (k f c2 : Int) (t2 : ByteArray) (fk : Bool) (ek ec : Int) (et : ByteArray) : St × List Ou :=
  if ek = 1 ∧ ec = c ∧ et.size ≤ 64 then (⟨r, c, et, 2, ⟨k, f, c2, t2, fk⟩⟩, [⟨1, prS c et 0⟩]) else (⟨r, c, t, 0, ⟨k, f, c2, t2, fk⟩⟩, [])

set_option maxHeartbeats 800000 in
/-- A state at the beginning. -/
theorem or_step0 (r c : Int) (t : ByteArray) (k f c2 : Int) (t2 : ByteArray) (fk : Bool) (ek ec : Int) (et : ByteArray) (lk lf lc : Int) (lt : ByteArray) (lb : Bool) (w : World) (hc : chk r c t 0 k f c2 t2 fk = true) :
    Calls Try.prog 72 #[.agg #[.int .i64 r, .int .u64 c, .string t, .int .i64 0, .int .i64 k, .int .i64 f, .int .u64 c2, .string t2, .bool fk],
      .agg #[.int .i64 ek, .int .u64 ec, .string et, .int .i64 lk, .int .i64 lf, .int .u64 lc, .string lt, .bool lb]] w
      (Stepped w (start0 r c t k f c2 t2 fk ek ec et)) := by
  go_enter Try.func72, Try.ntmps72
  go_wp2_with (first
    | (go_at_call 17; refine (or_check _ _ _ _ _ _ _ _ _ _).mono ?_; rintro e w1 ⟨rfl, hx⟩; obtain ⟨x1, rfl⟩ := ext_of hx; clear hx)
    | (refine wpList_store_row rfl 26 _ _ rfl _ _ rfl rfl 26 _ (heap_ext (heap_new (by simp)) x1.ext) info_state rfl (by simp [Value.oneCell']) ?_))
  case' _ => skip
  · rw [show start0 r c t k f c2 t2 fk ek ec et = (⟨r, c, t, 0, ⟨k, f, c2, t2, fk⟩⟩, []) from if_neg (by omega)]
    refine bodyPost_ret (results_row_tmp rfl _ _ _ 26 _ (0, 0) _ rfl (setRow_heap _ _ _ _ _ _ (heap_ext (heap_new (by simp)) x1.ext)) Try.underlying26 rfl info_state) rfl ?_
    exact ⟨_, rfl, World.ownsRow_nil _ _ _ _, Ext.setRow (((((Ext.refl _).alloc _).alloc _).alloc _).val x1) (by omega) _⟩
  · have HS := Lib.hid (show start0 r c t k f c2 t2 fk ek ec et = (⟨r, c, et, 2, ⟨k, f, c2, t2, fk⟩⟩, [⟨1, prS c et 0⟩]) from if_pos ⟨‹_›, ‹_›, by omega⟩)
    go_region
    go_wp2_with fail
    refine wp_forget (fun w' => w'.heap[w.heap.size]? = some (.cells #[.int .i64 r, .int .u64 c, .string et, .int .i64 2, .int .i64 k, .int .i64 f, .int .u64 c2, .string t2, .bool fk] 26 (0, 0)) ∧ w'.heap[w.heap.size + 1 + 1]? = some (.cells #[.int .i64 0, .int .u64 0, .string { data := #[] }, .int .i64 0, .int .i64 0, .int .i64 0, .int .u64 0, .string { data := #[] }, .bool false] 26 (0, 0)) ∧ Ext w w') ⟨?f1, ?f2, ?f3⟩ ?fr
    case f1 => exact heap_setCell_same _ _ _ _ _ _ (heap_setCell_same _ _ _ _ _ _ (heap_ext (heap_ext (heap_new rfl) (((Ext.refl _).alloc _).alloc _)) x1.ext))
    case f2 =>
      rw [heap_drew, heap_setCell_other _ _ _ _ (by simp only []; omega), heap_setCell_other _ _ _ _ (by simp only []; omega)]
      exact heap_ext (heap_new (by simp)) x1.ext
    case f3 => exact (((((((Ext.refl _).alloc _).alloc _).alloc _).val x1).setCell (Nat.le_refl _) _).setCell (Nat.le_refl _) _).drew
    clear x1
    rintro W7 ⟨h7a, h7b, h7x⟩
    have hc7 := fun j => cell_of_row W7 _ j _ _ _ h7a
    have hl7 : w.heap.size < W7.heap.size := (Array.getElem?_eq_some_iff.1 h7a).1
    have b7 := but_refl (w.heap.size + 1 + 1) W7
    refine wp_region_mixX (w.heap.size + 1 + 1) (af := ?af) [true, true, true, false, false, false] 59 (by kernel_rfl) rfl (by kernel_rfl) ?q ?r
    case q =>
      intro x0
      simp only [pickT, if_true, if_false, Bool.false_eq_true]
      repeat (go_big_quiet_step ((go_at_call 84; exact calls_ext (or_promise _ _ _ _ _ _ _ _ _ _ _))))
      exact rfl
    case r =>
      simp only [pickF, if_true, if_false, Bool.false_eq_true]
      intro x1
      have e1 : Ext W7 x1.val := (Ext.refl _).drew.val x1
      have g1 := h7x.trans e1
      go_wp2_with (go_at_call 83; refine (or_out _ _ _ _ _ _).mono ?_; rintro e w2 ⟨v, rfl, hv, hx2⟩)
      refine ⟨but_ext b7 (e1.trans hx2), ?_⟩
      intro x2
      have e2 := (e1.trans hx2).trans x2.ext
      go_wp2_with (refine wpList_store_row rfl 26 _ _ rfl _ _ rfl rfl 26 _ (heap_ext h7b e2) info_state rfl (by simp [Value.oneCell']) ?_)
      refine ⟨but_setRow (but_ext b7 e2) _, ?_⟩
      intro x3
      go_wp2_with fail
      refine ⟨but_ext (but_setRow (but_ext b7 e2) _) x3.ext, ?_⟩
      intro x4
      go_wp2_with fail
      have gx : Ext w x4.val := ((Ext.setRow (h7x.trans e2) (Nat.le_succ_of_le (Nat.le_succ _)) _).val x3).val x4
      refine bodyPost_ret (results_row_tmp rfl _ _ _ 26 _ (0, 0) _ rfl (heap_ext (heap_ext (setRow_heap _ _ _ _ _ _ (heap_ext h7b e2)) x3.ext) x4.ext) Try.underlying26 rfl info_state) rfl ?_
      rw [HS.out]
      refine ⟨_, rfl, ?_, gx⟩
      have hv2 := own_ext (own_base (b' := w.heap.size) hv g1.size) x2.ext
      exact own_ext (own_ext (own_setRow hv2 (heap_ext h7b e2) (by decide) _) x3.ext) x4.ext
  all_goals
    rw [show start0 r c t k f c2 t2 fk ek ec et = (⟨r, c, t, 0, ⟨k, f, c2, t2, fk⟩⟩, []) from if_neg (by omega)]
    refine bodyPost_ret (results_row_tmp rfl _ _ _ 26 _ (0, 0) _ rfl (setRow_heap _ _ _ _ _ _ (heap_ext (heap_new (by simp)) x1.ext)) Try.underlying26 rfl info_state) rfl ?_
    exact ⟨_, rfl, World.ownsRow_nil _ _ _ _, Ext.setRow (((((Ext.refl _).alloc _).alloc _).alloc _).val x1) (by omega) _⟩
end Go.Proofs.Ytfibbhmmiemcoaa

/-
  Walk: the originator's step, behind its beginning. No condition.
-/
namespace Go.Proofs.Ytfibbhmmiemcoaa
open Go.RowKit
attribute [local go_sem ↓] eql_lEq eql_sEq eql_eEq eql_oEq neq_lEq neq_sEq neq_eEq neq_oEq
attribute [local go_sem] ExtOf.cell ExtOf.frozen ExtOf.lt ExtOf.le
attribute [local go_sem high] ExtOf.cell2 ExtOf.frozen2 ExtOf.lt2 ExtOf.cell3 ExtOf.frozen3 ExtOf.lt3 ExtOf.cellB ExtOf.frozenB ExtOf.cellX ExtOf.frozenX ExtOf.cellX' ExtOf.frozenX'
attribute [local go_sem] BelOf.cell BelOf.frozen BelOf.lt

theorem rw_cells {w : World} {g : Nat} {L : List Rw} {k : Nat} {x : Rw} (h : ∀ j u, (L.flatMap Rw.cs)[j]? = some u → w.cell? ⟨g, j, none⟩ = some u) (hx : L[k]? = some x) :
    w.cell? ⟨g, k * 12, none⟩ = some (.bool x.tick) ∧ w.cell? ⟨g, k * 12 + 1, none⟩ = some (.int .i64 x.comes.k) ∧ w.cell? ⟨g, k * 12 + 2, none⟩ = some (.int .i64 x.comes.f) ∧
    w.cell? ⟨g, k * 12 + 3, none⟩ = some (.int .u64 x.comes.c) ∧ w.cell? ⟨g, k * 12 + 4, none⟩ = some (.string x.comes.t) ∧ w.cell? ⟨g, k * 12 + 5, none⟩ = some (.bool x.comes.b) ∧
    w.cell? ⟨g, k * 12 + 6, none⟩ = some (.int .i64 x.to) ∧ w.cell? ⟨g, k * 12 + 7, none⟩ = some (.int .i64 x.sends.k) ∧ w.cell? ⟨g, k * 12 + 8, none⟩ = some (.int .i64 x.sends.f) ∧
    w.cell? ⟨g, k * 12 + 9, none⟩ = some (.int .u64 x.sends.c) ∧ w.cell? ⟨g, k * 12 + 10, none⟩ = some (.string x.sends.t) ∧ w.cell? ⟨g, k * 12 + 11, none⟩ = some (.bool x.sends.b) := by
  have f := fun j hj => flat_get Rw.cs 12 (fun _ => rfl) L k x hx j hj
  refine ⟨h _ _ (f 0 (by omega)), h _ _ (f 1 (by omega)), h _ _ (f 2 (by omega)), h _ _ (f 3 (by omega)), h _ _ (f 4 (by omega)), h _ _ (f 5 (by omega)), h _ _ (f 6 (by omega)), h _ _ (f 7 (by omega)), h _ _ (f 8 (by omega)), h _ _ (f 9 (by omega)), h _ _ (f 10 (by omega)), h _ _ (f 11 (by omega))⟩

theorem find_first {α : Type} (p : α → Bool) : ∀ (L : List α) (n : Nat) (x : α), L[n]? = some x → p x = true → (∀ j z, j < n → L[j]? = some z → p z = false) → L.find? p = some x
  | [], n, x, h, _, _ => by simp at h
  | y :: L, 0, x, h, hp, _ => by
    simp only [List.getElem?_cons_zero, Option.some.injEq] at h
    subst h
    simp [hp]
  | y :: L, n + 1, x, h, hp, hn => by
    have hy : p y = false := hn 0 y (by omega) rfl
    rw [List.find?_cons, hy]
    exact find_first p L n x (by simpa using h) hp fun j z hj hz => hn (j + 1) z (by omega) (by simpa using hz)

theorem step_found {r c : Int} {t : ByteArray} {ph k f c2 : Int} {t2 : ByteArray} {fk : Bool} {e : Ev} {L : List Rw} {n : Nat} {x : Rw} (hL : rowsS c t ph = L) (hc : chk r c t ph k f c2 t2 fk = true) (hp : (ph == 0) = false)
    (hx : L[n]? = some x) (ht : takesR x ⟨r, c, t, ph, ⟨k, f, c2, t2, fk⟩⟩ e = true) (hno : ∀ j z, j < n → L[j]? = some z → takesR z ⟨r, c, t, ph, ⟨k, f, c2, t2, fk⟩⟩ e = false) :
    stepS ⟨r, c, t, ph, ⟨k, f, c2, t2, fk⟩⟩ e = (toS x ⟨r, c, t, ph, ⟨k, f, c2, t2, fk⟩⟩, outS x.sends) := by
  have hp' : ¬ ph = 0 := by simpa using hp
  have hf := find_first (fun x => takesR x ⟨r, c, t, ph, ⟨k, f, c2, t2, fk⟩⟩ e) L n x hx ht hno
  unfold stepS chkS
  simp only [hc, if_true, hp', if_false, hL, hf]

theorem step_none {r c : Int} {t : ByteArray} {ph k f c2 : Int} {t2 : ByteArray} {fk : Bool} {e : Ev} {L : List Rw} (hL : rowsS c t ph = L) (hc : chk r c t ph k f c2 t2 fk = true) (hp : (ph == 0) = false)
    (hno : ∀ (j : Nat) z, L[j]? = some z → takesR z ⟨r, c, t, ph, ⟨k, f, c2, t2, fk⟩⟩ e = false) :
    stepS ⟨r, c, t, ph, ⟨k, f, c2, t2, fk⟩⟩ e = (⟨r, c, t, ph, ⟨k, f, c2, t2, fk⟩⟩, []) := by
  have hp' : ¬ ph = 0 := by simpa using hp
  have hf : L.find? (fun x => takesR x ⟨r, c, t, ph, ⟨k, f, c2, t2, fk⟩⟩ e) = none := by
    rw [List.find?_eq_none]
    intro z hz
    obtain ⟨j, hj⟩ := List.getElem?_of_mem hz
    simp [hno j z hj]
  unfold stepS chkS
  simp only [hc, if_true, hp', if_false, hL, hf]

set_option maxHeartbeats 800000 in
theorem or_stepC (r c : Int) (t : ByteArray) (ph k f c2 : Int) (t2 : ByteArray) (fk : Bool) (ek ec : Int) (et : ByteArray) (lk lf lc : Int) (lt : ByteArray) (lb : Bool) (w : World) (hc : chk r c t ph k f c2 t2 fk = true) (hp : (ph == 0) = false) :
    Calls Try.prog 72 #[.agg #[.int .i64 r, .int .u64 c, .string t, .int .i64 ph, .int .i64 k, .int .i64 f, .int .u64 c2, .string t2, .bool fk],
      .agg #[.int .i64 ek, .int .u64 ec, .string et, .int .i64 lk, .int .i64 lf, .int .u64 lc, .string lt, .bool lb]] w
      (Stepped w (stepS ⟨r, c, t, ph, ⟨k, f, c2, t2, fk⟩⟩ ⟨ek, ec, et, ⟨lk, lf, lc, lt, lb⟩⟩)) := by
  have HC := Lib.hid hc
  have HP := Lib.hid hp
  generalize hL : rowsS c t ph = L
  have HL := Lib.hid hL
  clear hL
  go_enter Try.func72, Try.ntmps72
  go_wp2_with (first
    | (go_at_call 17; refine (or_check _ _ _ _ _ _ _ _ _ _).mono ?_; rintro e w1 ⟨rfl, hx⟩; obtain ⟨x1, rfl⟩ := ext_of hx; clear hx)
    | (go_at_call 85; refine (or_rows _ _ _ _ _ _ _ _ _ _).mono ?_; rintro e w2 ⟨v, rfl, hv, hx2⟩; rw [HL.out] at hv; obtain ⟨a, cap, rfl, hm, hvw⟩ := own_view hv; obtain ⟨x2, rfl⟩ := ext_of hx2; clear hx2 hv))
  refine wp_forget (fun w' => w'.heap[w.heap.size]? = some (.cells #[.int .i64 r, .int .u64 c, .string t, .int .i64 ph, .int .i64 k, .int .i64 f, .int .u64 c2, .string t2, .bool fk] 26 (0, 0)) ∧ w'.heap[w.heap.size + 1]? = some (.cells #[.int .i64 ek, .int .u64 ec, .string et, .int .i64 lk, .int .i64 lf, .int .u64 lc, .string lt, .bool lb] 104 (0, 0)) ∧ w'.heap[w.heap.size + 1 + 1]? = some (.cells #[.int .i64 0, .int .u64 0, .string { data := #[] }, .int .i64 0, .int .i64 0, .int .i64 0, .int .u64 0, .string { data := #[] }, .bool false] 26 (0, 0)) ∧ Ext w w' ∧
      (0 < L.length → ∃ g, a = some ⟨g, 0, none⟩ ∧ g < w'.heap.size ∧ ∀ j u, (L.flatMap Rw.cs)[j]? = some u → w'.cell? ⟨g, j, none⟩ = some u)) ⟨?f1, ?f2, ?f3, ?f4, ?f5⟩ ?fr
  case f1 => exact heap_ext (heap_ext (heap_ext (heap_new rfl) (((Ext.refl _).alloc _).alloc _)) x1.ext) x2.ext
  case f2 => exact heap_ext (heap_ext (heap_ext (heap_new (by simp)) ((Ext.refl _).alloc _)) x1.ext) x2.ext
  case f3 => exact heap_ext (heap_ext (heap_new (by simp)) x1.ext) x2.ext
  case f4 => exact (((((Ext.refl _).alloc _).alloc _).alloc _).val x1).val x2
  case f5 => exact fun h => let ⟨g, ha, _, hg, hcell⟩ := hvw h; ⟨g, ha, hg, hcell⟩
  clear hvw x2 x1
  rintro W3 ⟨h3a, h3b, h3c, h3x, hvw⟩
  have HV := Lib.hid hvw
  clear hvw
  have hc3 := fun j => cell_of_row W3 _ j _ _ _ h3a
  have hd3 := fun j => cell_of_row W3 _ j _ _ _ h3b
  have hl3 : w.heap.size < W3.heap.size := (Array.getElem?_eq_some_iff.1 h3a).1
  have hm3 : w.heap.size + 1 < W3.heap.size := (Array.getElem?_eq_some_iff.1 h3b).1
  have H3a := Lib.hid h3a
  have H3c := Lib.hid h3c
  clear h3a h3b h3c
  unfold maxLen at hm
  go_loopw [43] (fun i wr => ∃ n : Nat, n ≤ L.length ∧ i = .int .i64 n ∧ (∃ y : ExtOf W3, wr = y.val) ∧ ∀ j x, j < n → L[j]? = some x → takesR x ⟨r, c, t, ph, ⟨k, f, c2, t2, fk⟩⟩ ⟨ek, ec, et, ⟨lk, lf, lc, lt, lb⟩⟩ = false) (fun i _ => L.length - (intOf i).toNat)
  case atStart => exact ⟨0, Nat.zero_le _, rfl, ⟨⟨W3, Ext.refl _⟩, rfl⟩, fun _ _ h => by omega⟩
  case round =>
    obtain ⟨n, hn, rfl, ⟨y, rfl⟩, hno⟩ := hrel
    have HN := Lib.hid hno
    clear hno
    by_cases hlt : n < L.length
    · obtain ⟨g, rfl, hg, hcell⟩ := HV.out (by omega)
      obtain ⟨x, hx⟩ : ∃ x, L[n]? = some x := ⟨_, List.getElem?_eq_getElem hlt⟩
      obtain ⟨q0, q1, q2, q3, q4, q5, q6, q7, q8, q9, q10, q11⟩ := rw_cells hcell hx
      have HX := Lib.hid hx
      clear hx hcell
      rcases ht : takesR x ⟨r, c, t, ph, ⟨k, f, c2, t2, fk⟩⟩ ⟨ek, ec, et, ⟨lk, lf, lc, lt, lb⟩⟩
      · have HT := Lib.hid ht
        simp only [takesR] at ht
        go_wp2_with (go_at_call 86; refine (or_takes _ _ _ _ _ _ _ _ _ _ _ _ _ _ _ _ _ _ _ _ _ _ _ _ _ _ _ _ _ _).mono ?_; rintro e w4 ⟨rfl, hx4⟩; obtain ⟨x4, rfl⟩ := ext_of hx4; clear hx4)
        go_roundw
        case rel =>
          refine ⟨n + 1, by omega, by go_num, ⟨⟨x4.val, (y.ext.alloc _).val x4⟩, rfl⟩, fun j z hj hz => ?_⟩
          by_cases hjn : j = n
          · subst hjn
            rw [HX.out] at hz
            simp only [Option.some.injEq] at hz
            subst hz
            exact HT.out
          · exact HN.out j z (by omega) hz
        case measure => simp [intOf]; omega
      · have HT := Lib.hid ht
        simp only [takesR] at ht
        go_wp2_with (go_at_call 86; refine (or_takes _ _ _ _ _ _ _ _ _ _ _ _ _ _ _ _ _ _ _ _ _ _ _ _ _ _ _ _ _ _).mono ?_; rintro e w4 ⟨rfl, hx4⟩; obtain ⟨x4, rfl⟩ := ext_of hx4; clear hx4)
        refine wp_forget (fun w' => w'.heap[w.heap.size]? = some (.cells #[.int .i64 r, .int .u64 c, .string t, .int .i64 ph, .int .i64 k, .int .i64 f, .int .u64 c2, .string t2, .bool fk] 26 (0, 0)) ∧ w'.heap[w.heap.size + 1 + 1]? = some (.cells #[.int .i64 0, .int .u64 0, .string { data := #[] }, .int .i64 0, .int .i64 0, .int .i64 0, .int .u64 0, .string { data := #[] }, .bool false] 26 (0, 0)) ∧ w'.heap[y.val.heap.size]? = some (.cells #[.bool x.tick, .int .i64 x.comes.k, .int .i64 x.comes.f, .int .u64 x.comes.c, .string x.comes.t, .bool x.comes.b, .int .i64 x.to, .int .i64 x.sends.k, .int .i64 x.sends.f, .int .u64 x.sends.c, .string x.sends.t, .bool x.sends.b] 161 (0, 0)) ∧ Ext w w' ∧ w.heap.size + 1 + 1 < y.val.heap.size) ⟨?d1, ?d2, ?d3, ?d4, ?d5⟩ ?dr
        case d1 => exact heap_ext H3a.out ((y.ext.alloc _).val x4)
        case d2 => exact heap_ext H3c.out ((y.ext.alloc _).val x4)
        case d3 => exact heap_ext (heap_new rfl) x4.ext
        case d4 => exact h3x.trans ((y.ext.alloc _).val x4)
        case d5 => exact Nat.lt_of_lt_of_le (Array.getElem?_eq_some_iff.1 H3c.out).1 y.ext.size
        clear x4 q0 q1 q2 q3 q4 q5 q6 q7 q8 q9 q10 q11 hc3 hd3
        rintro W7 ⟨h7a, h7b, h7c, h7x, h7l⟩
        have hc7 := fun j => cell_of_row W7 _ j _ _ _ h7a
        have hd7 := fun j => cell_of_row W7 _ j _ _ _ h7c
        have hl7 : w.heap.size < W7.heap.size := (Array.getElem?_eq_some_iff.1 h7a).1
        have hm7 : y.val.heap.size < W7.heap.size := (Array.getElem?_eq_some_iff.1 h7c).1
        have H7b := Lib.hid h7b
        clear h7a h7b h7c
        have b7 := but_refl (w.heap.size + 1 + 1) W7
        refine wp_region_mixX (w.heap.size + 1 + 1) (af := ?af) [true, true, true, true, true, false, false, false] 59 (by kernel_rfl) rfl (by kernel_rfl) ?q ?r
        case q =>
          intro x0
          simp only [pickT, if_true, if_false, Bool.false_eq_true]
          repeat (go_big_quiet_step ((go_at_call 87; exact calls_ext (or_toE _ _ _ _ _ _ _ _ _ _ _ _ _ _ _ _ _ _ _ _ _ _))))
          exact rfl
        case r =>
          simp only [pickF, if_true, if_false, Bool.false_eq_true]
          intro x1
          have e1 : Ext W7 x1.val := (Ext.refl _).drew.val x1
          have g1 := h7x.trans e1
          go_wp2_with (go_at_call 83; refine (or_out _ _ _ _ _ _).mono ?_; rintro e w2 ⟨v, rfl, hv, hx2⟩)
          refine ⟨but_ext b7 (e1.trans hx2), ?_⟩
          intro x2
          have e2 := (e1.trans hx2).trans x2.ext
          go_wp2_with (refine wpList_store_row rfl 26 _ _ rfl _ _ rfl rfl 26 _ (heap_ext H7b.out e2) info_state rfl (by simp [Value.oneCell']) ?_)
          refine ⟨but_setRow (but_ext b7 e2) _, ?_⟩
          intro x3
          go_wp2_with fail
          refine ⟨but_ext (but_setRow (but_ext b7 e2) _) x3.ext, ?_⟩
          intro x4
          go_wp2_with fail
          have gx : Ext w x4.val := ((Ext.setRow (h7x.trans e2) (Nat.le_succ_of_le (Nat.le_succ _)) _).val x3).val x4
          refine bodyPost_ret (results_row_tmp rfl _ _ _ 26 _ (0, 0) _ rfl (heap_ext (heap_ext (setRow_heap _ _ _ _ _ _ (heap_ext H7b.out e2)) x3.ext) x4.ext) Try.underlying26 rfl info_state) rfl ?_
          rw [step_found HL.out HC.out HP.out HX.out HT.out HN.out]
          refine ⟨_, rfl, ?_, gx⟩
          have hv2 := own_ext (own_base (b' := w.heap.size) hv g1.size) x2.ext
          exact own_ext (own_ext (own_setRow hv2 (heap_ext H7b.out e2) (by decide) _) x3.ext) x4.ext
    · have hs : stepS ⟨r, c, t, ph, ⟨k, f, c2, t2, fk⟩⟩ ⟨ek, ec, et, ⟨lk, lf, lc, lt, lb⟩⟩ = (⟨r, c, t, ph, ⟨k, f, c2, t2, fk⟩⟩, []) := by
        exact step_none HL.out HC.out HP.out (fun j z hz => HN.out j z (by have := (List.getElem?_eq_some_iff.1 hz).1; omega) hz)
      have HS := Lib.hid hs
      clear hs
      go_wp2_with (refine wpList_store_row rfl 26 _ _ rfl _ _ rfl rfl 26 _ (heap_ext H3c.out y.ext) info_state rfl (by simp [Value.oneCell']) ?_)
      refine bodyPost_ret (results_row_tmp rfl _ _ _ 26 _ (0, 0) _ rfl (setRow_heap _ _ _ _ _ _ (heap_ext H3c.out y.ext)) Try.underlying26 rfl info_state) rfl ?_
      rw [HS.out]
      exact ⟨_, rfl, World.ownsRow_nil _ _ _ _, Ext.setRow (h3x.val y) (by omega) _⟩
end Go.Proofs.Ytfibbhmmiemcoaa
