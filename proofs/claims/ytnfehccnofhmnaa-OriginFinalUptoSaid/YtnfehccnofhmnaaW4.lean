/-
  Walk: the originator's step. No condition.
-/
import Derived.Test.YtnfehccnofhmnaaW3
namespace Go.Proofs.Ytnfehccnofhmnaa
open Go.RowKit
attribute [local go_sem ↓] eql_lEq eql_sEq eql_eEq eql_oEq neq_lEq neq_sEq neq_eEq neq_oEq
attribute [local go_sem] ExtOf.cell ExtOf.frozen ExtOf.lt ExtOf.le
attribute [local go_sem high] ExtOf.cell2 ExtOf.frozen2 ExtOf.lt2 ExtOf.cell3 ExtOf.frozen3 ExtOf.lt3 ExtOf.cellB ExtOf.frozenB ExtOf.cellX ExtOf.frozenX ExtOf.cellX' ExtOf.frozenX'
attribute [local go_sem] BelOf.cell BelOf.frozen BelOf.lt

def chkS (s : St) : Bool := chk s.r s.c s.t s.ph s.p.k s.p.f s.p.c s.p.t s.p.b
def takesR (x : Rw) (s : St) (e : Ev) : Bool := takesS x.tick x.comes.k x.comes.f x.comes.c x.comes.t x.comes.b s.c e.k e.c e.l.k e.l.f e.l.c e.l.t e.l.b
/-- The proof behind a line. -/
def toP (to : Int) (l p : Lt) : Lt := if to = 6 then l else p
def toS (x : Rw) (s : St) : St := ⟨s.r, s.c, s.t, x.to, toP x.to x.comes s.p⟩

theorem or_toE (tick : Bool) (k f c : Int) (t : ByteArray) (b : Bool) (to k2 f2 c2 : Int) (t2 : ByteArray) (b2 : Bool)
    (r sc : Int) (st : ByteArray) (ph pk pf pc : Int) (pt : ByteArray) (pb : Bool) (w : World) :
    Calls Try.prog 33 #[.agg #[.bool tick, .int .i64 k, .int .i64 f, .int .u64 c, .string t, .bool b, .int .i64 to, .int .i64 k2, .int .i64 f2, .int .u64 c2, .string t2, .bool b2],
      .agg #[.int .i64 r, .int .u64 sc, .string st, .int .i64 ph, .int .i64 pk, .int .i64 pf, .int .u64 pc, .string pt, .bool pb]] w
      fun e w' => e = .returned (.agg #[.int .i64 r, .int .u64 sc, .string st, .int .i64 to, .int .i64 (toP to ⟨k, f, c, t, b⟩ ⟨pk, pf, pc, pt, pb⟩).k, .int .i64 (toP to ⟨k, f, c, t, b⟩ ⟨pk, pf, pc, pt, pb⟩).f,
        .int .u64 (toP to ⟨k, f, c, t, b⟩ ⟨pk, pf, pc, pt, pb⟩).c, .string (toP to ⟨k, f, c, t, b⟩ ⟨pk, pf, pc, pt, pb⟩).t, .bool (toP to ⟨k, f, c, t, b⟩ ⟨pk, pf, pc, pt, pb⟩).b]) ∧ Ext w w' :=
  (or_to tick k f c t b to k2 f2 c2 t2 b2 r sc st ph pk pf pc pt pb w).mono fun e w' ⟨he, hx⟩ => ⟨by rw [he]; unfold toP; split <;> rfl, hx⟩
/-- The step as the table has it. -/
def stepS (s : St) (e : Ev) : St × List Ou :=
  if chkS s then
    if s.ph = 0 then
      if e.k = 1 ∧ e.c = s.c ∧ e.t.size ≤ 64 then (⟨s.r, s.c, e.t, 2, s.p⟩, outS (prS s.c e.t 0)) else (s, [])
    else match (rowsS s.c s.t s.ph).find? (fun x => takesR x s e) with
      | some x => (toS x s, outS x.sends)
      | none => (s, [])
  else (s, [])

/-- What a step hands back: the state; the outs, in a row of its own. -/
def Stepped (w : World) (s : St × List Ou) (en : Ending) (w' : World) : Prop :=
  ∃ v, en = .returned (.tuple #[.agg s.1.cs.toArray, v]) ∧ w'.ownsRow w.heap.size 45 6 v s.2.length (s.2.flatMap Ou.cs) ∧ Ext w w'

theorem info_state : (Try.prog.info? 26).map (·.size) = some 9 := by kernel_rfl

theorem wp_forget {P : Program} {c : Code} {Q : Exit → Act → World → Prop} {a : Act} {w : World} (F : World → Prop) (hF : F w) (h : ∀ w', F w' → c.wp P Q a w') : c.wp P Q a w := h w hF

set_option maxHeartbeats 400000 in
theorem or_stepA (r c : Int) (t : ByteArray) (ph k f c2 : Int) (t2 : ByteArray) (fk : Bool) (ek ec : Int) (et : ByteArray) (lk lf lc : Int) (lt : ByteArray) (lb : Bool) (w : World) (hc : chk r c t ph k f c2 t2 fk = false) :
    Calls Try.prog 10 #[.agg #[.int .i64 r, .int .u64 c, .string t, .int .i64 ph, .int .i64 k, .int .i64 f, .int .u64 c2, .string t2, .bool fk],
      .agg #[.int .i64 ek, .int .u64 ec, .string et, .int .i64 lk, .int .i64 lf, .int .u64 lc, .string lt, .bool lb]] w
      (Stepped w (⟨r, c, t, ph, ⟨k, f, c2, t2, fk⟩⟩, [])) := by
  go_enter Try.func10, Try.ntmps10
  go_wp2_with (first
    | (go_at_call 13; refine (or_check _ _ _ _ _ _ _ _ _ _).mono ?_; rintro e w1 ⟨rfl, hx⟩; obtain ⟨x1, rfl⟩ := ext_of hx; clear hx)
    | (refine wpList_store_row rfl 26 _ _ rfl _ _ rfl rfl 26 _ (heap_ext (heap_new (by simp)) x1.ext) info_state rfl (by simp [Value.oneCell']) ?_))
  refine bodyPost_ret (results_row_tmp rfl _ _ _ 26 _ (0, 0) _ rfl (setRow_heap _ _ _ _ _ _ (heap_ext (heap_new (by simp)) x1.ext)) Try.underlying26 rfl info_state) rfl ?_
  exact ⟨_, rfl, World.ownsRow_nil _ _ _ _, Ext.setRow (((((Ext.refl _).alloc _).alloc _).alloc _).val x1) (by omega) _⟩

theorem stepS_A (s : St) (e : Ev) (h : chkS s = false) : stepS s e = (s, []) := by unfold stepS; rw [h]; rfl

def start0 (r c : Int) (t : ByteArray) (k f c2 : Int) (t2 : ByteArray) (fk : Bool) (ek ec : Int) (et : ByteArray) : St × List Ou :=
  if ek = 1 ∧ ec = c ∧ et.size ≤ 64 then (⟨r, c, et, 2, ⟨k, f, c2, t2, fk⟩⟩, [⟨1, prS c et 0⟩]) else (⟨r, c, t, 0, ⟨k, f, c2, t2, fk⟩⟩, [])

set_option maxHeartbeats 800000 in
/-- A state at the beginning. -/
theorem or_step0 (r c : Int) (t : ByteArray) (k f c2 : Int) (t2 : ByteArray) (fk : Bool) (ek ec : Int) (et : ByteArray) (lk lf lc : Int) (lt : ByteArray) (lb : Bool) (w : World) (hc : chk r c t 0 k f c2 t2 fk = true) :
    Calls Try.prog 10 #[.agg #[.int .i64 r, .int .u64 c, .string t, .int .i64 0, .int .i64 k, .int .i64 f, .int .u64 c2, .string t2, .bool fk],
      .agg #[.int .i64 ek, .int .u64 ec, .string et, .int .i64 lk, .int .i64 lf, .int .u64 lc, .string lt, .bool lb]] w
      (Stepped w (start0 r c t k f c2 t2 fk ek ec et)) := by
  go_enter Try.func10, Try.ntmps10
  go_wp2_with (first
    | (go_at_call 13; refine (or_check _ _ _ _ _ _ _ _ _ _).mono ?_; rintro e w1 ⟨rfl, hx⟩; obtain ⟨x1, rfl⟩ := ext_of hx; clear hx)
    | (refine wpList_store_row rfl 26 _ _ rfl _ _ rfl rfl 26 _ (heap_ext (heap_new (by simp)) x1.ext) info_state rfl (by simp [Value.oneCell']) ?_))
  case' _ => skip
  · rw [show start0 r c t k f c2 t2 fk ek ec et = (⟨r, c, t, 0, ⟨k, f, c2, t2, fk⟩⟩, []) from if_neg (by omega)]
    refine bodyPost_ret (results_row_tmp rfl _ _ _ 26 _ (0, 0) _ rfl (setRow_heap _ _ _ _ _ _ (heap_ext (heap_new (by simp)) x1.ext)) Try.underlying26 rfl info_state) rfl ?_
    exact ⟨_, rfl, World.ownsRow_nil _ _ _ _, Ext.setRow (((((Ext.refl _).alloc _).alloc _).alloc _).val x1) (by omega) _⟩
  · have HS := Lib.hid (show start0 r c t k f c2 t2 fk ek ec et = (⟨r, c, et, 2, ⟨k, f, c2, t2, fk⟩⟩, [⟨1, prS c et 0⟩]) from if_pos ⟨‹_›, ‹_›, by omega⟩)
    go_region
    go_wp2_with fail
    refine wp_forget (fun w' => w'.heap[w.heap.size]? = some (.cells #[.int .i64 r, .int .u64 c, .string et, .int .i64 2, .int .i64 k, .int .i64 f, .int .u64 c2, .string t2, .bool fk] 26 (0, 0)) ∧ w'.heap[w.heap.size + 1 + 1]? = some (.cells #[.int .i64 0, .int .u64 0, .string { data := #[] }, .int .i64 0, .int .i64 0, .int .i64 0, .int .u64 0, .string { data := #[] }, .bool false] 26 (0, 0)) ∧ Ext w w') ⟨?f1, ?f2, ?f3⟩ ?fr
    case f1 => exact heap_setCell_same _ _ _ _ _ _ (heap_setCell_same _ _ _ _ _ _ (heap_ext (heap_ext (heap_new rfl) (((Ext.refl _).alloc _).alloc _)) x1.ext))
    case f2 =>
      rw [heap_drew, heap_setCell_other _ _ _ _ (by simp only []; omega), heap_setCell_other _ _ _ _ (by simp only []; omega)]
      exact heap_ext (heap_new (by simp)) x1.ext
    case f3 => exact (((((((Ext.refl _).alloc _).alloc _).alloc _).val x1).setCell (Nat.le_refl _) _).setCell (Nat.le_refl _) _).drew
    clear x1
    rintro W7 ⟨h7a, h7b, h7x⟩
    have hc7 := fun j => cell_of_row W7 _ j _ _ _ h7a
    have hl7 : w.heap.size < W7.heap.size := (Array.getElem?_eq_some_iff.1 h7a).1
    have b7 := but_refl (w.heap.size + 1 + 1) W7
    refine wp_region_mixX (w.heap.size + 1 + 1) (af := ?af) [true, true, true, false, false, false] 59 (by kernel_rfl) rfl (by kernel_rfl) ?q ?r
    case q =>
      intro x0
      simp only [pickT, if_true, if_false, Bool.false_eq_true]
      repeat (go_big_quiet_step ((go_at_call 30; exact calls_ext (or_promise _ _ _ _ _ _ _ _ _ _ _))))
      exact rfl
    case r =>
      simp only [pickF, if_true, if_false, Bool.false_eq_true]
      intro x1
      have e1 : Ext W7 x1.val := (Ext.refl _).drew.val x1
      have g1 := h7x.trans e1
      go_wp2_with (go_at_call 29; refine (or_out _ _ _ _ _ _).mono ?_; rintro e w2 ⟨v, rfl, hv, hx2⟩)
      refine ⟨but_ext b7 (e1.trans hx2), ?_⟩
      intro x2
      have e2 := (e1.trans hx2).trans x2.ext
      go_wp2_with (refine wpList_store_row rfl 26 _ _ rfl _ _ rfl rfl 26 _ (heap_ext h7b e2) info_state rfl (by simp [Value.oneCell']) ?_)
      refine ⟨but_setRow (but_ext b7 e2) _, ?_⟩
      intro x3
      go_wp2_with fail
      refine ⟨but_ext (but_setRow (but_ext b7 e2) _) x3.ext, ?_⟩
      intro x4
      go_wp2_with fail
      have gx : Ext w x4.val := ((Ext.setRow (h7x.trans e2) (Nat.le_succ_of_le (Nat.le_succ _)) _).val x3).val x4
      refine bodyPost_ret (results_row_tmp rfl _ _ _ 26 _ (0, 0) _ rfl (heap_ext (heap_ext (setRow_heap _ _ _ _ _ _ (heap_ext h7b e2)) x3.ext) x4.ext) Try.underlying26 rfl info_state) rfl ?_
      rw [HS.out]
      refine ⟨_, rfl, ?_, gx⟩
      have hv2 := own_ext (own_base (b' := w.heap.size) hv g1.size) x2.ext
      exact own_ext (own_ext (own_setRow hv2 (heap_ext h7b e2) (by decide) _) x3.ext) x4.ext
  all_goals
    rw [show start0 r c t k f c2 t2 fk ek ec et = (⟨r, c, t, 0, ⟨k, f, c2, t2, fk⟩⟩, []) from if_neg (by omega)]
    refine bodyPost_ret (results_row_tmp rfl _ _ _ 26 _ (0, 0) _ rfl (setRow_heap _ _ _ _ _ _ (heap_ext (heap_new (by simp)) x1.ext)) Try.underlying26 rfl info_state) rfl ?_
    exact ⟨_, rfl, World.ownsRow_nil _ _ _ _, Ext.setRow (((((Ext.refl _).alloc _).alloc _).alloc _).val x1) (by omega) _⟩
end Go.Proofs.Ytnfehccnofhmnaa
