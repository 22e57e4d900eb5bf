/-
  Walks of the originator's slices. No condition.
-/
import Derived.Test.YtnfehccnofhmnaaW1
import Derived.Test.YtnfehccnofhmnaaData
namespace Go.Proofs.Ytnfehccnofhmnaa
open Go.RowKit
attribute [local go_sem ↓] eql_lEq eql_sEq eql_eEq eql_oEq neq_lEq neq_sEq neq_eEq neq_oEq
attribute [local go_sem] ExtOf.cell ExtOf.frozen ExtOf.lt ExtOf.le
attribute [local go_sem high] ExtOf.cell2 ExtOf.frozen2 ExtOf.lt2 ExtOf.cell3 ExtOf.frozen3 ExtOf.lt3 ExtOf.cellB ExtOf.frozenB ExtOf.cellX ExtOf.frozenX ExtOf.cellX' ExtOf.frozenX'
attribute [local go_sem] BelOf.cell BelOf.frozen BelOf.lt

def outS (l : Lt) : List Ou := if l.k = 0 then [] else if l.k = 1 ∨ l.k = 2 then [⟨1, l⟩] else [⟨2, l⟩]

theorem outS_0 {k f c : Int} {t : ByteArray} {b : Bool} (h : (k == 0) = true) : outS ⟨k, f, c, t, b⟩ = [] := by
  simp [outS] at *; simp [h]
theorem outS_1 {k f c : Int} {t : ByteArray} {b : Bool} (h : (k == 1) = true ∨ (k == 2) = true) : outS ⟨k, f, c, t, b⟩ = [⟨1, ⟨k, f, c, t, b⟩⟩] := by
  have h' : k = 1 ∨ k = 2 := by simpa using h
  unfold outS
  rw [if_neg (by simp only; omega), if_pos h']
theorem outS_2 {k f c : Int} {t : ByteArray} {b : Bool} (h0 : (k == 0) = false) (h1 : (k == 1) = false) (h2 : (k == 2) = false) : outS ⟨k, f, c, t, b⟩ = [⟨2, ⟨k, f, c, t, b⟩⟩] := by
  have g0 : ¬ k = 0 := by simpa using h0
  have g1 : ¬ k = 1 := by simpa using h1
  have g2 : ¬ k = 2 := by simpa using h2
  unfold outS
  rw [if_neg g0, if_neg (by simp only; omega)]

set_option maxHeartbeats 400000 in
theorem or_out (k f c : Int) (t : ByteArray) (b : Bool) (w : World) :
    Calls Try.prog 29 #[.agg #[.int .i64 k, .int .i64 f, .int .u64 c, .string t, .bool b]] w (Made w 45 6 (outS ⟨k, f, c, t, b⟩).length ((outS ⟨k, f, c, t, b⟩).flatMap Ou.cs)) := by
  go_enter Try.func29, Try.ntmps29
  go_wp2
  · go_ret
    rw [outS_0 ‹_›]
    exact ⟨_, rfl, World.ownsRow_nil _ _ _ _, (Ext.refl _).alloc _⟩
  · go_ret
    rw [outS_1 (.inl ‹_›)]
    exact ⟨_, rfl, own_new ((Ext.refl _).alloc _) (by simp) (by decide) rfl rfl, ((Ext.refl _).alloc _).alloc _⟩
  · go_ret
    rw [outS_1 (.inr ‹_›)]
    exact ⟨_, rfl, own_new ((Ext.refl _).alloc _) (by simp) (by decide) rfl rfl, ((Ext.refl _).alloc _).alloc _⟩
  · go_ret
    rw [outS_2 ‹(k == 0) = false› ‹(k == 1) = false› ‹(k == 2) = false›]
    exact ⟨_, rfl, own_new ((Ext.refl _).alloc _) (by simp) (by decide) rfl rfl, ((Ext.refl _).alloc _).alloc _⟩

structure Rw where
  tick : Bool
  comes : Lt
  to : Int
  sends : Lt
def Rw.cs (x : Rw) : List Value := [.bool x.tick, .int .i64 x.comes.k, .int .i64 x.comes.f, .int .u64 x.comes.c, .string x.comes.t, .bool x.comes.b, .int .i64 x.to, .int .i64 x.sends.k, .int .i64 x.sends.f, .int .u64 x.sends.c, .string x.sends.t, .bool x.sends.b]

def prS (c : Int) (t : ByteArray) (n : Int) : Lt := ⟨1, n, c, t, false⟩
def sgS (c : Int) (t : ByteArray) (n : Int) : Lt := ⟨2, n, c, t, false⟩
def inS (c : Int) (t : ByteArray) : Lt := ⟨6, 0, c, t, false⟩
def tkS (c : Int) : Lt := ⟨5, 0, c, { data := #[] }, false⟩
def abS (c : Int) : Lt := ⟨3, 0, c, { data := #[] }, false⟩
def rsS (c : Int) (t : ByteArray) : Lt := ⟨4, 0, c, t, false⟩

def rowsS (c : Int) (t : ByteArray) (ph : Int) : List Rw :=
  if ph = 2 then [⟨false, prS c t 1, 3, sgS c t 0⟩, ⟨true, l0, 4, abS c⟩]
  else if ph = 3 then [⟨false, prS c t 1, 3, sgS c t 0⟩, ⟨false, sgS c t 1, 6, l0⟩, ⟨true, l0, 5, rsS c t⟩]
  else if ph = 4 then [⟨true, l0, 4, abS c⟩, ⟨false, tkS c, 7, l0⟩, ⟨false, inS c t, 6, l0⟩]
  else if ph = 5 then [⟨true, l0, 5, rsS c t⟩, ⟨false, sgS c t 1, 6, l0⟩, ⟨false, inS c t, 6, l0⟩]
  else []

set_option maxHeartbeats 400000 in
theorem or_rows2 (r c : Int) (t : ByteArray) (k f c2 : Int) (t2 : ByteArray) (fk : Bool) (w : World) :
    Calls Try.prog 31 #[.agg #[.int .i64 r, .int .u64 c, .string t, .int .i64 2, .int .i64 k, .int .i64 f, .int .u64 c2, .string t2, .bool fk]] w (Made w 55 12 (rowsS c t 2).length ((rowsS c t 2).flatMap Rw.cs)) := by
  go_enter Try.func31, Try.ntmps31
  go_wp2_with fail
  refine wp_region_mixE (af := ?af) [true, true, true, true, true, true, true, false, false] 67 (by kernel_rfl) rfl (by kernel_rfl) ?q ?r
  case q =>
    intro x0
    simp only [pickT, if_true, if_false, Bool.false_eq_true]
    repeat (go_big_quiet_step ((first | (go_at_call 30; exact calls_ext (or_promise _ _ _ _ _ _ _ _ _ _ _)) | (go_at_call 37; exact calls_ext (or_signature _ _ _ _ _ _ _ _ _ _ _)))))
    exact rfl
  case r =>
    simp only [pickF, if_true, if_false, Bool.false_eq_true]
    intro x1
    have e1 : Ext w x1.val := ((((Ext.refl _).alloc _).alloc _).alloc _).drew.val x1
    go_wp2_with fail
    refine ⟨((Ext.refl _).drew.val x1).alloc _, ?_⟩
    intro x2
    go_wp2_with fail
    refine ⟨(((Ext.refl _).drew.val x1).alloc _).val x2, ?_⟩
    intro x3
    go_wp2_with fail
    go_ret
    exact ⟨_, rfl, own_ext (own_ext (own_new e1 rfl (by decide) rfl rfl) x2.ext) x3.ext, ((e1.alloc _).val x2).val x3⟩

set_option maxHeartbeats 800000 in
theorem or_rows3 (r c : Int) (t : ByteArray) (k f c2 : Int) (t2 : ByteArray) (fk : Bool) (w : World) :
    Calls Try.prog 31 #[.agg #[.int .i64 r, .int .u64 c, .string t, .int .i64 3, .int .i64 k, .int .i64 f, .int .u64 c2, .string t2, .bool fk]] w (Made w 55 12 (rowsS c t 3).length ((rowsS c t 3).flatMap Rw.cs)) := by
  go_enter Try.func31, Try.ntmps31
  go_wp2_with fail
  refine wp_region_mixE (af := ?af) [true, true, true, true, true, true, true, true, true, true, false, false] 67 (by kernel_rfl) rfl (by kernel_rfl) ?q ?r
  case q =>
    intro x0
    simp only [pickT, if_true, if_false, Bool.false_eq_true]
    repeat (go_big_quiet_step ((first | (go_at_call 30; exact calls_ext (or_promise _ _ _ _ _ _ _ _ _ _ _)) | (go_at_call 37; exact calls_ext (or_signature _ _ _ _ _ _ _ _ _ _ _)) | (go_at_call 41; exact calls_ext (or_token _ _ _ _ _ _ _ _ _ _)) | (go_at_call 38; exact calls_ext (or_instead _ _ _ _ _ _ _ _ _ _)))))
    exact rfl
  case r =>
    simp only [pickF, if_true, if_false, Bool.false_eq_true]
    intro x1
    have e1 : Ext w x1.val := ((((Ext.refl _).alloc _).alloc _).alloc _).drew.val x1
    go_wp2_with fail
    refine ⟨((Ext.refl _).drew.val x1).alloc _, ?_⟩
    intro x2
    go_wp2_with fail
    refine ⟨(((Ext.refl _).drew.val x1).alloc _).val x2, ?_⟩
    intro x3
    go_wp2_with fail
    go_ret
    exact ⟨_, rfl, own_ext (own_ext (own_new e1 rfl (by decide) rfl rfl) x2.ext) x3.ext, ((e1.alloc _).val x2).val x3⟩

set_option maxHeartbeats 800000 in
theorem or_rows4 (r c : Int) (t : ByteArray) (k f c2 : Int) (t2 : ByteArray) (fk : Bool) (w : World) :
    Calls Try.prog 31 #[.agg #[.int .i64 r, .int .u64 c, .string t, .int .i64 4, .int .i64 k, .int .i64 f, .int .u64 c2, .string t2, .bool fk]] w (Made w 55 12 (rowsS c t 4).length ((rowsS c t 4).flatMap Rw.cs)) := by
  go_enter Try.func31, Try.ntmps31
  go_wp2_with fail
  refine wp_region_mixE (af := ?af) [true, true, true, true, true, true, true, true, false, false] 67 (by kernel_rfl) rfl (by kernel_rfl) ?q ?r
  case q =>
    intro x0
    simp only [pickT, if_true, if_false, Bool.false_eq_true]
    repeat (go_big_quiet_step ((first | (go_at_call 30; exact calls_ext (or_promise _ _ _ _ _ _ _ _ _ _ _)) | (go_at_call 37; exact calls_ext (or_signature _ _ _ _ _ _ _ _ _ _ _)) | (go_at_call 41; exact calls_ext (or_token _ _ _ _ _ _ _ _ _ _)) | (go_at_call 38; exact calls_ext (or_instead _ _ _ _ _ _ _ _ _ _)))))
    exact rfl
  case r =>
    simp only [pickF, if_true, if_false, Bool.false_eq_true]
    intro x1
    have e1 : Ext w x1.val := ((((Ext.refl _).alloc _).alloc _).alloc _).drew.val x1
    go_wp2_with fail
    refine ⟨((Ext.refl _).drew.val x1).alloc _, ?_⟩
    intro x2
    go_wp2_with fail
    refine ⟨(((Ext.refl _).drew.val x1).alloc _).val x2, ?_⟩
    intro x3
    go_wp2_with fail
    go_ret
    exact ⟨_, rfl, own_ext (own_ext (own_new e1 rfl (by decide) rfl rfl) x2.ext) x3.ext, ((e1.alloc _).val x2).val x3⟩

theorem info_row : (Try.prog.info? 55).map (fun i => (i.zero, i.size, i.bytes)) = some (some (.agg #[.bool false, .int .i64 0, .int .i64 0, .int .u64 0, .string { data := #[] }, .bool false, .int .i64 0, .int .i64 0, .int .i64 0, .int .u64 0, .string { data := #[] }, .bool false]), 12, 112) := by kernel_rfl

set_option maxHeartbeats 800000 in
theorem or_rows5 (r c : Int) (t : ByteArray) (k f c2 : Int) (t2 : ByteArray) (fk : Bool) (w : World) :
    Calls Try.prog 31 #[.agg #[.int .i64 r, .int .u64 c, .string t, .int .i64 5, .int .i64 k, .int .i64 f, .int .u64 c2, .string t2, .bool fk]] w (Made w 55 12 (rowsS c t 5).length ((rowsS c t 5).flatMap Rw.cs)) := by
  obtain ⟨i0, hi, hz0, hz1, hz2⟩ := info_parts info_row
  go_enter Try.func31, Try.ntmps31
  go_wp2_with (at_builtin; refine wpList_app (w.heap.size + 1 + 1 + 1) 52 55 i0 _ 12 112 Try.underlying52 hi hz0 hz1 hz2 rfl (by decide) rfl _ _ rfl _ 0 [] rfl (World.ownsRow_nil _ _ _ _) (by simp) _ 1 1 _ rfl (heap_new (by simp)) rfl (by simp [Value.oneCell']) (by decide) (by decide) ?_; intro v1 w1 hown1 hx1 _; obtain ⟨y1, rfl⟩ := bel_of hx1)
  have e1 : Below (w.heap.size + 1 + 1 + 1) (((w.alloc _).alloc _).alloc _) y1.val := (Below.alloc (Below.refl _ _) (by simp) _).trans y1.bel
  have hs1 : w.heap.size + 1 + 1 + 1 ≤ y1.val.heap.size := by have := y1.bel.size; simp at this; omega
  refine wp_region_mixB (w.heap.size + 1 + 1 + 1) hs1 (af := ?af) [true, true, true, true, true, true, true, false, false, false] 67 (by kernel_rfl) rfl (by kernel_rfl) ?q ?r
  case q =>
    intro x0
    simp only [pickT, if_true, if_false, Bool.false_eq_true]
    repeat (go_big_quiet_step ((first | (go_at_call 37; exact calls_ext (or_signature _ _ _ _ _ _ _ _ _ _ _)) | (go_at_call 38; exact calls_ext (or_instead _ _ _ _ _ _ _ _ _ _)))))
    exact rfl
  case r =>
    simp only [pickF, if_true, if_false, Bool.false_eq_true]
    intro x1
    have f1 : Ext y1.val x1.val := (Ext.refl _).drew.val x1
    have hs2 : w.heap.size + 1 + 1 + 1 ≤ x1.val.heap.size := Nat.le_trans hs1 f1.size
    go_wp2_with fail
    refine ⟨(Below.mono f1 hs1).alloc hs2 _, ?_⟩
    intro x2
    have f2 : Ext y1.val x2.val := (f1.alloc _).val x2
    have hs3 : w.heap.size + 1 + 1 + 1 ≤ x2.val.heap.size := Nat.le_trans hs1 f2.size
    go_wp2_with (at_builtin; refine wpList_app (w.heap.size + 1 + 1 + 1) 52 55 i0 _ 12 112 Try.underlying52 hi hz0 hz1 hz2 rfl (by decide) rfl _ _ rfl _ 1 _ rfl (own_ext hown1 f2) hs3 x1.val.heap.size 2 2 _ rfl (heap_ext (heap_new rfl) x2.ext) rfl (by simp [Value.oneCell']) (by decide) (by decide) ?_; intro v2 w2 hown2 hx2 _)
    refine ⟨(Below.mono f2 hs1).trans hx2, ?_⟩
    intro x3
    go_wp2_with fail
    refine ⟨bel_ext ((Below.mono f2 hs1).trans hx2) x3.ext hs1, ?_⟩
    intro x4
    go_wp2_with fail
    go_ret
    have hs4 := Nat.le_trans hs3 hx2.size
    have hs5 := Nat.le_trans hs4 x3.ext.size
    refine ⟨_, rfl, own_base (b' := w.heap.size) (own_ext (own_ext hown2 x3.ext) x4.ext) (by omega), ?_⟩
    have g0 := Below.trans (((Ext.refl w).alloc _).alloc _ |>.alloc _) (Below.mono e1 (B' := w.heap.size) (by omega))
    exact (((g0.trans (Below.mono f2 (by omega))).trans (Below.mono hx2 (by omega))).trans (Below.mono x3.ext (by omega))).trans (Below.mono x4.ext (by omega))

/-- Another phase has no line. -/
theorem or_rows0 (r c : Int) (t : ByteArray) (ph k f c2 : Int) (t2 : ByteArray) (fk : Bool) (w : World) (h2 : ph ≠ 2) (h3 : ph ≠ 3) (h4 : ph ≠ 4) (h5 : ph ≠ 5) :
    Calls Try.prog 31 #[.agg #[.int .i64 r, .int .u64 c, .string t, .int .i64 ph, .int .i64 k, .int .i64 f, .int .u64 c2, .string t2, .bool fk]] w (Made w 55 12 (rowsS c t ph).length ((rowsS c t ph).flatMap Rw.cs)) := by
  have g2 : (ph == 2) = false := by simpa using h2
  have g3 : (ph == 3) = false := by simpa using h3
  have g4 : (ph == 4) = false := by simpa using h4
  have g5 : (ph == 5) = false := by simpa using h5
  have e : rowsS c t ph = [] := by unfold rowsS; rw [if_neg h2, if_neg h3, if_neg h4, if_neg h5]
  rw [e]
  clear e h2 h3 h4 h5
  go_enter Try.func31, Try.ntmps31
  go_wp2
  go_ret
  exact ⟨_, rfl, World.ownsRow_nil _ _ _ _, (((Ext.refl _).alloc _).alloc _).alloc _⟩

theorem or_rows (r c : Int) (t : ByteArray) (ph k f c2 : Int) (t2 : ByteArray) (fk : Bool) (w : World) :
    Calls Try.prog 31 #[.agg #[.int .i64 r, .int .u64 c, .string t, .int .i64 ph, .int .i64 k, .int .i64 f, .int .u64 c2, .string t2, .bool fk]] w (Made w 55 12 (rowsS c t ph).length ((rowsS c t ph).flatMap Rw.cs)) := by
  by_cases h2 : ph = 2
  · subst h2; exact or_rows2 r c t k f c2 t2 fk w
  by_cases h3 : ph = 3
  · subst h3; exact or_rows3 r c t k f c2 t2 fk w
  by_cases h4 : ph = 4
  · subst h4; exact or_rows4 r c t k f c2 t2 fk w
  by_cases h5 : ph = 5
  · subst h5; exact or_rows5 r c t k f c2 t2 fk w
  exact or_rows0 r c t ph k f c2 t2 fk w h2 h3 h4 h5
end Go.Proofs.Ytnfehccnofhmnaa
