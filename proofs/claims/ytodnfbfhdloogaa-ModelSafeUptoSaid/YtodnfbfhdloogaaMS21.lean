/-
  Walk: a letter is heard. No condition.
-/
import Derived.Test.YtodnfbfhdloogaaMS20
set_option linter.all false
namespace Go.Proofs.Ytodnfbfhdloogaa
open Go.RowKit
attribute [local go_sem ↓] eql_lEq eql_sEq eql_eEq eql_oEq neq_lEq neq_sEq neq_eEq neq_oEq eql_vEq neq_vEq eql_nil
attribute [local go_sem] ExtOf.cell ExtOf.frozen ExtOf.lt ExtOf.le ButOf.cell0 ButOf.frozen0
attribute [local go_sem high] ExtOf.cell2 ExtOf.frozen2 ExtOf.lt2 ExtOf.cell3 ExtOf.frozen3 ExtOf.lt3 ExtOf.cellX ExtOf.frozenX ExtOf.cellX' ExtOf.frozenX'

/-- The cells of a move. -/
def Mv.arr (m : Mv) : Array Value := #[.int .i64 m.k, .int .i64 m.who, .string m.t, .int .i64 m.l.k, .int .i64 m.l.f, .int .u64 m.l.c, .string m.l.t, .bool m.l.b, .bool m.lost]

/-- Behind hears: the exchange in its block, what was heard in the row. -/
def Heard1 (B gx : Nat) (x : Ex) (v : Value) (w w' : World) : Prop :=
  ∃ v', ExAt w' gx x v' ∧ Own w' B x.h v' ∧ Keeps (gx :: rowB v) w w' ∧ ∀ g ∈ rowB v', g ∈ rowB v ∨ w.heap.size ≤ g
theorem Heard1.ext {B gx : Nat} {x : Ex} {v : Value} {w a b : World} (h : Heard1 B gx x v w a) (e : Ext a b) : Heard1 B gx x v w b := by
  obtain ⟨v', h1, h2, h3, h4⟩ := h
  exact ⟨v', h1.ext e, h2.ext e, h3.ext e, h4⟩
theorem heard_same {B gx : Nat} {x : Ex} {v : Value} {w w' : World} (hX : ExAt w gx x v) (hO : Own w B x.h v) (e : Ext w w') : Heard1 B gx x v w w' :=
  ⟨v, hX.ext e, hO.ext e, (Keeps.refl _ w).ext e, fun _ h => .inl h⟩
theorem arr_h (x : Ex) (v : Value) (h : List Lt) : ({ x with h := h } : Ex).arr v = x.arr v := rfl
theorem hear_skip {h : List Lt} {lost : Bool} {l : Lt} (hc : lost = true ∨ l ∈ h) : hearS h lost l = h := by unfold hearS; rw [if_pos hc]
theorem hear_add {h : List Lt} {l : Lt} (hc : l ∉ h) : hearS h false l = h ++ [l] := by unfold hearS; rw [if_neg (by rintro (h1 | h1); cases h1; exact hc h1)]

set_option maxRecDepth 100000 in
set_option maxHeartbeats 3200000 in
/-- Nothing new is heard. -/
theorem mo_hears0 (B gx gl : Nat) (x : Ex) (v : Value) (m : Mv) (l : Lt) (w : World) (hX : ExAt w gx x v) (hO : Own w B x.h v) (hl : LtAt w gl l) (hc : m.lost = true ∨ (m.lost = false ∧ l ∈ x.h)) :
    Calls Try.prog 21 #[.pointer (some ⟨gx, 0, none⟩), .agg m.arr, .slice (some ⟨gl, 0, none⟩) 1 1] w fun e w' => e = .returned (.tuple #[]) ∧ Ext w w' := by
  have HX := Lib.hid hX
  have HL := Lib.hid hl
  have HR := Lib.hid hO.row
  clear hX hO hl
  have hco := fun w' (hw : Ext w w') => sl_contains v x.h l w' (Row.ext HR.out hw)
  unfold Mv.arr
  rcases hc with hc | ⟨hc, hm⟩
  · have HC := Lib.hid hc
    clear hc hco HR
    go_enter Try.func21, Try.ntmps21
    go_wp2_with fail
    refine wp_forget (fun w' => w'.heap[w.heap.size]? = some (.cells m.arr 41 (0, 0)) ∧ Ext w w') ⟨heap_new rfl, (Ext.refl _).alloc _⟩ ?_
    rintro W1 ⟨h1, e1⟩
    have HM1 := Lib.hid h1
    have HE1 := Lib.hid e1
    clear h1 e1
    go_loopg [10] 1 (fun g ii wr => ∃ y : ExtOf W1, wr = y.val ∧ ((g = 1 ∧ ii = .int .i64 0) ∨ (g = 0 ∧ ii = .int .i64 1)))
    case atStart => exact ⟨⟨_, Ext.refl _⟩, rfl, .inl ⟨rfl, rfl⟩⟩
    case round =>
      obtain ⟨y, rfl, ⟨rfl, rfl⟩ | ⟨rfl, rfl⟩⟩ := hrel
      · have ql := fun j => cell_of_row y.val _ j _ _ _ (HL.out.ext (HE1.out.val y))
        go_wp2_with fail
        refine wp_forget (fun w' => LtAt w' y.val.heap.size l ∧ Ext y.val w') ⟨heap_new rfl, (Ext.refl _).alloc _⟩ ?_
        rintro W2 ⟨h2, e2⟩
        have hm2 := heap_ext HM1.out (y.ext.trans e2)
        unfold Mv.arr at hm2
        have qm := fun j => cell_of_row W2 _ j _ _ _ hm2
        have qt := fun j => cell_of_row W2 _ j _ _ _ h2
        have lm : w.heap.size < W2.heap.size := (Array.getElem?_eq_some_iff.1 hm2).1
        have lt2 : y.val.heap.size < W2.heap.size := (Array.getElem?_eq_some_iff.1 h2).1
        have hv2 : W2.cell? ⟨gx, 25, none⟩ = some v := by rw [cell_of_row _ _ _ _ _ _ (HX.out.ext ((HE1.out.val y).trans e2))]; rfl
        have lx2 : gx < W2.heap.size := (Array.getElem?_eq_some_iff.1 (HX.out.ext ((HE1.out.val y).trans e2))).1
        have HE2 := Lib.hid e2
        clear hm2 h2 e2 ql
        have hlost := HC.out
        refine wp_region_ext (by kernel_rfl) (by kernel_rfl) ?_
        repeat (go_big_quiet_step (fail))
        refine wpQuiet_nil ?_
        intro _ hx'
        obtain ⟨z, rfl⟩ := hx'
        go_wp2_with fail
        go_roundg 0
        case rel => exact ⟨⟨z.val, (y.ext.trans HE2.out).val z⟩, rfl, .inr ⟨rfl, rfl⟩⟩
        case measure => omega
      · go_wp2_with fail
        exact ⟨rfl, .tuple #[], by simp [results, go_sem], rfl, HE1.out.val y⟩
  · rw [decide_eq_true hm] at hco
    have HCo := Lib.hid hco
    have HC := Lib.hid hc
    clear hc hco HR hm
    go_enter Try.func21, Try.ntmps21
    go_wp2_with fail
    refine wp_forget (fun w' => w'.heap[w.heap.size]? = some (.cells m.arr 41 (0, 0)) ∧ Ext w w') ⟨heap_new rfl, (Ext.refl _).alloc _⟩ ?_
    rintro W1 ⟨h1, e1⟩
    have HM1 := Lib.hid h1
    have HE1 := Lib.hid e1
    clear h1 e1
    go_loopg [10] 1 (fun g ii wr => ∃ y : ExtOf W1, wr = y.val ∧ ((g = 1 ∧ ii = .int .i64 0) ∨ (g = 0 ∧ ii = .int .i64 1)))
    case atStart => exact ⟨⟨_, Ext.refl _⟩, rfl, .inl ⟨rfl, rfl⟩⟩
    case round =>
      obtain ⟨y, rfl, ⟨rfl, rfl⟩ | ⟨rfl, rfl⟩⟩ := hrel
      · have ql := fun j => cell_of_row y.val _ j _ _ _ (HL.out.ext (HE1.out.val y))
        go_wp2_with fail
        refine wp_forget (fun w' => LtAt w' y.val.heap.size l ∧ Ext y.val w') ⟨heap_new rfl, (Ext.refl _).alloc _⟩ ?_
        rintro W2 ⟨h2, e2⟩
        have hm2 := heap_ext HM1.out (y.ext.trans e2)
        unfold Mv.arr at hm2
        have qm := fun j => cell_of_row W2 _ j _ _ _ hm2
        have qt := fun j => cell_of_row W2 _ j _ _ _ h2
        have lm : w.heap.size < W2.heap.size := (Array.getElem?_eq_some_iff.1 hm2).1
        have lt2 : y.val.heap.size < W2.heap.size := (Array.getElem?_eq_some_iff.1 h2).1
        have hv2 : W2.cell? ⟨gx, 25, none⟩ = some v := by rw [cell_of_row _ _ _ _ _ _ (HX.out.ext ((HE1.out.val y).trans e2))]; rfl
        have lx2 : gx < W2.heap.size := (Array.getElem?_eq_some_iff.1 (HX.out.ext ((HE1.out.val y).trans e2))).1
        have HE2 := Lib.hid e2
        clear hm2 h2 e2 ql
        have hlost := HC.out
        refine wp_region_ext (by kernel_rfl) (by kernel_rfl) ?_
        repeat (go_big_quiet_step ((go_at_call 27; exact calls_ext (HCo.out _ (((HE1.out.val y).trans HE2.out).val _)))))
        refine wpQuiet_nil ?_
        intro _ hx'
        obtain ⟨z, rfl⟩ := hx'
        go_wp2_with fail
        go_roundg 0
        case rel => exact ⟨⟨z.val, (y.ext.trans HE2.out).val z⟩, rfl, .inr ⟨rfl, rfl⟩⟩
        case measure => omega
      · go_wp2_with fail
        exact ⟨rfl, .tuple #[], by simp [results, go_sem], rfl, HE1.out.val y⟩

set_option maxRecDepth 100000 in
set_option maxHeartbeats 6400000 in
/-- A letter is heard that was not. -/
theorem mo_hears1 (B gx gl : Nat) (x : Ex) (v : Value) (m : Mv) (l : Lt) (w : World) (hX : ExAt w gx x v) (hO : Own w B x.h v) (hl : LtAt w gl l) (hlost : m.lost = false) (hm : l ∉ x.h)
    (hB : gx < B) (hBw : B ≤ w.heap.size) (hn : x.h.length ≤ 100000) :
    Calls Try.prog 21 #[.pointer (some ⟨gx, 0, none⟩), .agg m.arr, .slice (some ⟨gl, 0, none⟩) 1 1] w fun e w' => e = .returned (.tuple #[]) ∧ Heard1 B gx { x with h := x.h ++ [l] } v w w' := by
  obtain ⟨ti0, hi, hz0, hz1, hz2⟩ := info_parts info_letter
  have HX := Lib.hid hX
  have HL := Lib.hid hl
  have hO' : w.ownsRow B 27 5 v x.h.length (x.h.flatMap Lt.cs) := hO
  have HO := Lib.hid hO'
  clear hO'
  have HR := Lib.hid hO.row
  clear hX hO hl
  have hco := fun w' (hw : Ext w w') => sl_contains v x.h l w' (Row.ext HR.out hw)
  unfold Mv.arr
  rw [decide_eq_false hm] at hco
  have HCo := Lib.hid hco
  have HC := Lib.hid hlost
  clear hlost hco HR hm
  go_enter Try.func21, Try.ntmps21
  go_wp2_with fail
  refine wp_forget (fun w' => w'.heap[w.heap.size]? = some (.cells m.arr 41 (0, 0)) ∧ Ext w w') ⟨heap_new rfl, (Ext.refl _).alloc _⟩ ?_
  rintro W1 ⟨h1, e1⟩
  have HM1 := Lib.hid h1
  have HE1 := Lib.hid e1
  clear h1 e1
  go_loopg [10] 1 (fun g ii wr => (g = 1 ∧ ii = .int .i64 0 ∧ wr = W1) ∨ (g = 0 ∧ ii = .int .i64 1 ∧ Hid (Heard1 B gx { x with h := x.h ++ [l] } v w wr)))
  case atStart => exact .inl ⟨rfl, rfl, rfl⟩
  case round =>
    obtain ⟨rfl, rfl, rfl⟩ | ⟨rfl, rfl, HD⟩ := hrel
    · have ql := fun j => cell_of_row wr _ j _ _ _ (HL.out.ext HE1.out)
      go_wp2_with fail
      refine wp_forget (fun w' => LtAt w' wr.heap.size l ∧ Ext wr w') ⟨heap_new rfl, (Ext.refl _).alloc _⟩ ?_
      rintro W2 ⟨h2, e2⟩
      have hm2 := heap_ext HM1.out e2
      unfold Mv.arr at hm2
      have qm := fun j => cell_of_row W2 _ j _ _ _ hm2
      have qt := fun j => cell_of_row W2 _ j _ _ _ h2
      have lm : w.heap.size < W2.heap.size := (Array.getElem?_eq_some_iff.1 hm2).1
      have lt2 : wr.heap.size < W2.heap.size := (Array.getElem?_eq_some_iff.1 h2).1
      have hv2 : W2.cell? ⟨gx, 25, none⟩ = some v := by rw [cell_of_row _ _ _ _ _ _ (HX.out.ext (HE1.out.trans e2))]; rfl
      have lx2 : gx < W2.heap.size := (Array.getElem?_eq_some_iff.1 (HX.out.ext (HE1.out.trans e2))).1
      have HE2 := Lib.hid e2
      have HT2 := Lib.hid h2
      clear hm2 h2 e2 ql
      have hlost := HC.out
      refine wp_region_ext (by kernel_rfl) (by kernel_rfl) ?_
      repeat (go_big_quiet_step ((go_at_call 27; exact calls_ext (HCo.out _ ((HE1.out.trans HE2.out).val _)))))
      refine wpQuiet_nil ?_
      intro _ hx'
      obtain ⟨z, rfl⟩ := hx'
      go_wp2_with fail
      refine wp_forget (fun w' => LtAt w' wr.heap.size l ∧ ExAt w' gx x v ∧ Ext w w') ⟨HT2.out.ext z.ext, HX.out.ext ((HE1.out.trans HE2.out).val z), (HE1.out.trans HE2.out).val z⟩ ?_
      rintro W3 ⟨h3, hx3, e3⟩
      clear qm qt lm lt2 hv2 lx2 hlost z
      have qt := fun j => cell_of_row W3 _ j _ _ _ h3
      have lt3 : wr.heap.size < W3.heap.size := (Array.getElem?_eq_some_iff.1 h3).1
      have hv3 : W3.cell? ⟨gx, 25, none⟩ = some v := by rw [cell_of_row _ _ _ _ _ _ hx3]; rfl
      have lx3 : gx < W3.heap.size := (Array.getElem?_eq_some_iff.1 hx3).1
      have HE3 := Lib.hid e3
      have HX3 := Lib.hid hx3
      have lw : w.heap.size < wr.heap.size := (Array.getElem?_eq_some_iff.1 HM1.out).1
      clear h3 hx3 e3
      rcases HO.out.2 with ⟨hv, hn0⟩ | ⟨g, cap, cur, hv, hbg, hg, hnc, hcm, hcs, htk⟩
      · subst hv
        clear hn0
        refine wp_region_late (af := ?af1) [true, true, true, true, true, true, false, false, false, false, false] [false, false, false, false, false, false, false, false, true, true, true] 37 (fun w' => W3.grownBy w' none) (by kernel_rfl) rfl (by kernel_rfl) (fun _ _ h e => non_ext h e) (non_of (Ext.refl W3).drew) ?q ?r
        case q =>
          intro w' hw'
          obtain ⟨y3, rfl⟩ : ∃ y3 : ExtOf W3, w' = y3.val := ⟨⟨w', ext_grown hw'⟩, rfl⟩
          simp only [pickT, if_true, if_false, Bool.false_eq_true]
          repeat (go_big_quiet_step (fail))
          exact rfl
        case r =>
          simp only [pickN, if_true, if_false, Bool.false_eq_true]
          intro x1
          have e1 : Ext W3 x1.val := (Ext.refl _).drew.val x1
          go_wp2_with fail
          refine ⟨fun _ => non_of (e1.alloc _), ?_⟩
          intro x2
          have e2 : Ext W3 x2.val := (e1.alloc _).val x2
          go_wp2_with (at_builtin; refine unHd ?_)
          unfold Hd2
          have hbx2 : B ≤ x2.val.heap.size := by have := HE3.out.size; have := e2.size; omega
          refine wpList_app5 B 34 27 ti0 _ 5 48 Try.underlying34 hi hz0 hz1 hz2 rfl (by decide) rfl _ _ rfl _ x.h.length _ rfl (own_ext HO.out (HE3.out.trans e2)) hbx2 x1.val.heap.size 1 1 #[.int .i64 l.k, .int .i64 l.f, .int .u64 l.c, .string l.t, .bool l.b] (by decide) rfl (heap_ext (heap_new rfl) x2.ext) rfl (by simp [Value.oneCell']) (by unfold maxLen; omega) (by omega) ?_
          intro v2 w2 hown2 hg2 hr2
          obtain ⟨g2, cap2, rfl⟩ : ∃ g2 cap2, v2 = .slice (some ⟨g2, 0, none⟩) (x.h.length + 1) cap2 := by
            rcases hown2.2 with ⟨_, h0⟩ | ⟨g2, cap2, _, h0, _⟩
            · omega
            · exact ⟨g2, cap2, h0⟩
          have c2 : W3.grownBy w2 none := but_trans (non_of (e2)) hg2
          refine ⟨c2, ?_⟩
          intro x3
          go_wp2_with fail
          try refine ⟨fun h => absurd h (by decide), ?_⟩
          intro x4
          go_wp2_with fail
          try refine ⟨fun h => absurd h (by decide), ?_⟩
          intro x5
          have c5 : W3.grownBy x5.val none := non_ext c2 ((x3.ext.trans x4.ext).trans x5.ext)
          have hb5 : ExAt x5.val gx x (.slice none 0 0) := (c5.block gx lx3 (by simp)).trans HX3.out
          have o5 := own_ext hown2 ((x3.ext.trans x4.ext).trans x5.ext)
          have hcb5 := fun j => cell_of_row x5.val _ j _ _ _ hb5
          have hfb5 := fun j => frozen_of_row x5.val _ j _ _ hb5
          unfold Ex.arr at hcb5
          generalize x5.val = w5 at c5 hb5 o5 hcb5 hfb5 ⊢
          have HB5 := Lib.hid hb5
          clear hb5
          go_wp2_with fail
          try refine ⟨fun h => absurd h (by decide), ?_⟩
          intro x6
          go_wp2_with fail
          go_roundg 0
          case rel =>
            refine .inr ⟨rfl, rfl, Lib.hid ⟨.slice (some ⟨g2, 0, none⟩) (x.h.length + 1) cap2, ?_, ?_, ?_, fun k hk => (hr2 k hk).imp id (fun h => by have := HE3.out.size; have := e2.size; omega)⟩⟩
            · exact heap_ext (setCell_row HB5.out _) x6.ext
            · have := own_ext (own_same o5 (fun k hk _ => cell_other (o := 25) (v := .slice (some ⟨g2, 0, none⟩) (x.h.length + 1) cap2) (show k ≠ gx by omega))) x6.ext
              simpa [Own, Lt.cs] using this
            · exact ((keeps_grown ((Keeps.refl _ w).ext HE3.out) (v := .slice none 0 0) c5 (fun _ h => List.mem_cons_of_mem _ h)).setCell (.inl (.head _)) 25 _).ext x6.ext
          case measure => omega
      · subst hv
        have lg : g < w.heap.size := (Array.getElem?_eq_some_iff.1 hg).1
        have n1 : gx < g := by omega
        have n2 : g < wr.heap.size := by omega
        clear hg hnc hcm hcs htk
        refine wp_region_late (af := ?af2) [true, true, true, true, true, true, false, false, false, false, false] [false, false, false, false, false, false, false, false, true, true, true] 37 (fun w' => W3.grownBy w' (some g)) (by kernel_rfl) rfl (by kernel_rfl) (fun _ _ h e => but_ext h e) (but_ext (but_refl g W3) (Ext.refl W3).drew) ?q ?r
        case q =>
          intro w' hw'
          obtain ⟨y3, rfl⟩ : ∃ y3 : ButOf g W3, w' = y3.val := ⟨⟨w', hw'⟩, rfl⟩
          simp only [pickT, if_true, if_false, Bool.false_eq_true]
          repeat (go_big_quiet_step (fail))
          exact rfl
        case r =>
          simp only [pickN, if_true, if_false, Bool.false_eq_true]
          intro x1
          have e1 : Ext W3 x1.val := (Ext.refl _).drew.val x1
          go_wp2_with fail
          refine ⟨fun _ => but_ext (but_refl g W3) (e1.alloc _), ?_⟩
          intro x2
          have e2 : Ext W3 x2.val := (e1.alloc _).val x2
          go_wp2_with (at_builtin; refine unHd ?_)
          unfold Hd2
          have hbx2 : B ≤ x2.val.heap.size := by have := HE3.out.size; have := e2.size; omega
          refine wpList_app5 B 34 27 ti0 _ 5 48 Try.underlying34 hi hz0 hz1 hz2 rfl (by decide) rfl _ _ rfl _ x.h.length _ rfl (own_ext HO.out (HE3.out.trans e2)) hbx2 x1.val.heap.size 1 1 #[.int .i64 l.k, .int .i64 l.f, .int .u64 l.c, .string l.t, .bool l.b] (by decide) rfl (heap_ext (heap_new rfl) x2.ext) rfl (by simp [Value.oneCell']) (by unfold maxLen; omega) (by omega) ?_
          intro v2 w2 hown2 hg2 hr2
          obtain ⟨g2, cap2, rfl⟩ : ∃ g2 cap2, v2 = .slice (some ⟨g2, 0, none⟩) (x.h.length + 1) cap2 := by
            rcases hown2.2 with ⟨_, h0⟩ | ⟨g2, cap2, _, h0, _⟩
            · omega
            · exact ⟨g2, cap2, h0⟩
          have c2 : W3.grownBy w2 (some g) := but_trans (but_ext (but_refl g W3) (e2)) hg2
          refine ⟨c2, ?_⟩
          intro x3
          go_wp2_with fail
          try refine ⟨fun h => absurd h (by decide), ?_⟩
          intro x4
          go_wp2_with fail
          try refine ⟨fun h => absurd h (by decide), ?_⟩
          intro x5
          have c5 : W3.grownBy x5.val (some g) := but_ext c2 ((x3.ext.trans x4.ext).trans x5.ext)
          have hb5 : ExAt x5.val gx x (.slice (some ⟨g, 0, none⟩) x.h.length cap) := (c5.block gx lx3 (by simp; omega)).trans HX3.out
          have o5 := own_ext hown2 ((x3.ext.trans x4.ext).trans x5.ext)
          have hcb5 := fun j => cell_of_row x5.val _ j _ _ _ hb5
          have hfb5 := fun j => frozen_of_row x5.val _ j _ _ hb5
          unfold Ex.arr at hcb5
          generalize x5.val = w5 at c5 hb5 o5 hcb5 hfb5 ⊢
          have HB5 := Lib.hid hb5
          clear hb5
          go_wp2_with fail
          try refine ⟨fun h => absurd h (by decide), ?_⟩
          intro x6
          go_wp2_with fail
          go_roundg 0
          case rel =>
            refine .inr ⟨rfl, rfl, Lib.hid ⟨.slice (some ⟨g2, 0, none⟩) (x.h.length + 1) cap2, ?_, ?_, ?_, fun k hk => (hr2 k hk).imp id (fun h => by have := HE3.out.size; have := e2.size; omega)⟩⟩
            · exact heap_ext (setCell_row HB5.out _) x6.ext
            · have := own_ext (own_same o5 (fun k hk _ => cell_other (o := 25) (v := .slice (some ⟨g2, 0, none⟩) (x.h.length + 1) cap2) (show k ≠ gx by omega))) x6.ext
              simpa [Own, Lt.cs] using this
            · exact ((keeps_grown ((Keeps.refl _ w).ext HE3.out) (v := .slice (some ⟨g, 0, none⟩) x.h.length cap) c5 (fun _ h => List.mem_cons_of_mem _ h)).setCell (.inl (.head _)) 25 _).ext x6.ext
          case measure => omega
    · go_wp2_with fail
      exact ⟨rfl, .tuple #[], by simp [results, go_sem], rfl, HD.out⟩

/-- A letter comes: it is heard once, if it is not lost. -/
theorem mo_hears (B gx gl : Nat) (x : Ex) (v : Value) (m : Mv) (l : Lt) (w : World) (hX : ExAt w gx x v) (hO : Own w B x.h v) (hl : LtAt w gl l)
    (hB : gx < B) (hBw : B ≤ w.heap.size) (hn : x.h.length ≤ 100000) :
    Calls Try.prog 21 #[.pointer (some ⟨gx, 0, none⟩), .agg m.arr, .slice (some ⟨gl, 0, none⟩) 1 1] w fun e w' => e = .returned (.tuple #[]) ∧ Heard1 B gx { x with h := hearS x.h m.lost l } v w w' := by
  by_cases hc : m.lost = true ∨ l ∈ x.h
  · rw [hear_skip hc]
    refine (mo_hears0 B gx gl x v m l w hX hO hl ?_).mono fun e w' h => ⟨h.1, heard_same hX hO h.2⟩
    rcases hc with hc | hc
    · exact .inl hc
    · cases hm : m.lost
      · exact .inr ⟨rfl, hc⟩
      · exact .inl rfl
  · have hlost : m.lost = false := by
      cases hm : m.lost
      · rfl
      · exact absurd (.inl hm) hc
    have hm : l ∉ x.h := fun h => hc (.inr h)
    rw [hlost, hear_add hm]
    exact mo_hears1 B gx gl x v m l w hX hO hl hlost hm hB hBw hn
end Go.Proofs.Ytodnfbfhdloogaa

/-
  Walk: the notary is asked. No condition.
-/
namespace Go.Proofs.Ytodnfbfhdloogaa
open Go.RowKit
attribute [local go_sem ↓] eql_lEq eql_sEq eql_eEq eql_oEq neq_lEq neq_sEq neq_eEq neq_oEq eql_vEq neq_vEq eql_nil
attribute [local go_sem] ExtOf.cell ExtOf.frozen ExtOf.lt ExtOf.le
attribute [local go_sem high] ExtOf.cell2 ExtOf.frozen2 ExtOf.lt2 ExtOf.cell3 ExtOf.frozen3 ExtOf.lt3

theorem Heard1.from {B gx : Nat} {x : Ex} {v : Value} {w a b : World} (k : Keeps (gx :: rowB v) w a) (h : Heard1 B gx x v a b) : Heard1 B gx x v w b := by
  obtain ⟨v', h1, h2, h3, h4⟩ := h
  exact ⟨v', h1, h2, k.trans h3, fun g hg => (h4 g hg).imp id (Nat.le_trans k.size)⟩

/-- The letter that is told. -/
theorem tell_some {c : Int} {v : Vd} {l : Lt} (h : saysS v = some l) : tellS c v = l := by unfold tellS; rw [h]; rfl
theorem tell_none {c : Int} {v : Vd} (h : saysS v = none) : tellS c v = ⟨7, 0, c, { data := #[] }, false⟩ := by unfold tellS; rw [h]; rfl

theorem askX_no {x : Ex} {m : Mv} (h : ¬ ((m.l.k = 4 ∧ m.l.b = false) ∨ m.l.k = 3)) : askX x m = x := by unfold askX; rw [if_neg h]
theorem askX_do {x : Ex} {m : Mv} (h : (m.l.k = 4 ∧ m.l.b = false) ∨ m.l.k = 3) : askX x m = { x with v := askV x m.l, h := hearS x.h m.lost (tellS x.c (askV x m.l)) } := by unfold askX; rw [if_pos h]

set_option maxRecDepth 100000 in
set_option maxHeartbeats 3200000 in
theorem mo_asked0 (gx : Nat) (x : Ex) (v : Value) (m : Mv) (w : World) (hX : ExAt w gx x v) (h : ¬ ((m.l.k = 4 ∧ m.l.b = false) ∨ m.l.k = 3)) :
    Calls Try.prog 19 #[.pointer (some ⟨gx, 0, none⟩), .agg m.arr] w fun e w' => e = .returned (.tuple #[]) ∧ Ext w w' := by
  have hX' := hX
  unfold ExAt Ex.arr at hX'
  have qx := fun j => cell_of_row w _ j _ _ _ hX'
  have lx : gx < w.heap.size := (Array.getElem?_eq_some_iff.1 hX).1
  clear hX hX'
  have n3 : (m.l.k != 3) = true := by
    rw [bne_iff_ne]; exact fun h3 => h (.inr h3)
  unfold Mv.arr
  by_cases h4 : m.l.k = 4
  · have hb : m.l.b = true := by
      cases hb : m.l.b
      · exact absurd (.inl ⟨h4, hb⟩) h
      · rfl
    clear h
    go_enter Try.func19, Try.ntmps19
    go_wp2_with fail
    exact ⟨rfl, .tuple #[], by simp [results, go_sem], rfl, (((Ext.refl _).alloc _).alloc _).alloc _⟩
  · have h4' : (m.l.k == 4) = false := by simpa using h4
    clear h h4
    go_enter Try.func19, Try.ntmps19
    go_wp2_with fail
    exact ⟨rfl, .tuple #[], by simp [results, go_sem], rfl, (((Ext.refl _).alloc _).alloc _).alloc _⟩

set_option maxRecDepth 100000 in
set_option maxHeartbeats 6400000 in
theorem mo_askedB4 (B gx : Nat) (x : Ex) (v : Value) (mk who : Int) (mt : ByteArray) (lf lc : Int) (lt : ByteArray) (lost : Bool) (w : World) (hX : ExAt w gx x v) (hO : Own w B x.h v)
    (hB : gx < B) (hBw : B ≤ w.heap.size) (hn : x.h.length ≤ 100000) :
    Calls Try.prog 19 #[.pointer (some ⟨gx, 0, none⟩), .agg (Mv.arr ⟨mk, who, mt, ⟨4, lf, lc, lt, false⟩, lost⟩)] w fun e w' => e = .returned (.tuple #[]) ∧ Heard1 B gx { x with v := askV x ⟨4, lf, lc, lt, false⟩, h := hearS x.h lost (tellS x.c (askV x ⟨4, lf, lc, lt, false⟩)) } v w w' := by
  have hX' := hX
  unfold ExAt Ex.arr at hX'
  have qx := fun j => cell_of_row w _ j _ _ _ hX'
  have lx : gx < w.heap.size := (Array.getElem?_eq_some_iff.1 hX).1
  have HX := Lib.hid hX
  have HO := Lib.hid hO
  clear hX hX' hO
  unfold Mv.arr
  go_enter Try.func19, Try.ntmps19
  go_wp2_with fail
  go_region
  go_upto_region 6 with fail
  refine wp_forget (fun w' => w'.heap[w.heap.size]? = some (.cells (Mv.arr ⟨mk, who, mt, ⟨4, lf, lc, lt, false⟩, lost⟩) 41 (0, 0)) ∧ w'.heap[w.heap.size + 1]? = some (.cells #[.int .i64 4, .int .i64 lf, .int .u64 lc, .string lt, .bool false] 27 (0, 0)) ∧ w'.heap[w.heap.size + 1 + 1]? = some (.cells #[.int .u64 x.c, .int .i64 2, .string lt] 32 (0, 0)) ∧ Ext w w') (by first | exact three_new (Ext.refl _) | exact three_new (Ext.refl _).drew) ?_
  rintro W1 ⟨h1, _, h2, e1⟩
  clear qx
  have hx1 := HX.out.ext e1
  have hx1' := hx1
  unfold ExAt Ex.arr at hx1'
  have qx := fun j => cell_of_row W1 _ j _ _ _ hx1'
  have fx := fun j => frozen_of_row W1 _ j _ _ hx1'
  have qv := fun j => cell_of_row W1 _ j _ _ _ h2
  have lx1 : gx < W1.heap.size := (Array.getElem?_eq_some_iff.1 hx1).1
  have lv1 : w.heap.size + 1 + 1 < W1.heap.size := (Array.getElem?_eq_some_iff.1 h2).1
  have HM1 := Lib.hid h1
  have HX1 := Lib.hid hx1
  have HE1 := Lib.hid e1
  clear h1 h2 hx1 hx1' e1
  have hv3 : (x.v.k = 0 ∧ x.full = false) ∨ ((x.v.k == 0) = false ∧ ¬ (x.v.k = 0 ∧ x.full = false)) ∨ (x.v.k = 0 ∧ x.full = true) := by
    by_cases h0 : x.v.k = 0
    · cases hf : x.full
      · exact .inl ⟨h0, rfl⟩
      · exact .inr (.inr ⟨h0, rfl⟩)
    · exact .inr (.inl ⟨by simpa using h0, fun h => h0 h.1⟩)
  generalize hV : askV x ⟨4, lf, lc, lt, false⟩ = V
  rcases hv3 with ⟨h0, hf⟩ | ⟨h0, hf⟩ | ⟨h0, hf⟩
  · have hV' : V = ⟨x.c, 2, lt⟩ := by rw [← hV]; unfold askV; rw [if_pos ⟨h0, hf⟩]; rw [if_pos ⟨rfl, rfl⟩]
    go_upto_region 8 with fail
    refine wp_forget (fun w' => Hid (ExAt w' gx { x with v := V } v ∧ Own w' B x.h v ∧ Keeps (gx :: rowB v) w w' ∧ w'.heap[w.heap.size]? = some (.cells (Mv.arr ⟨mk, who, mt, ⟨4, lf, lc, lt, false⟩, lost⟩) 41 (0, 0)))) (Lib.hid ⟨?g1, ?g2, ?g3, ?g4⟩) ?gr
    case g1 =>
      rw [hV']
      exact setCell_row (o := 21) (setCell_row (o := 20) (setCell_row (o := 19) HX1.out _) _) _
    case g2 =>
      have o1 := own_ext HO.out HE1.out
      exact own_same (own_same (own_same o1 fun k hk _ => cell_other (o := 19) (v := .int .u64 x.c) (show k ≠ gx by omega)) fun k hk _ => cell_other (o := 20) (v := .int .i64 2) (show k ≠ gx by omega)) fun k hk _ => cell_other (o := 21) (v := .string lt) (show k ≠ gx by omega)
    case g3 => exact ((((Keeps.refl _ w).ext HE1.out).setCell (.inl (.head _)) _ _).setCell (.inl (.head _)) _ _).setCell (.inl (.head _)) _ _
    case g4 => exact (cell_other (by omega)).trans ((cell_other (by omega)).trans ((cell_other (by omega)).trans HM1.out))
    rintro W2 HA
    clear h0 hV' qv lx1 lv1 fx HX1 HE1 HM1 hf
    clear qx
    have hA1 := HA.out.1
    unfold ExAt Ex.arr at hA1
    have qx := fun j => cell_of_row W2 _ j _ _ _ hA1
    clear hA1
    have hsy := ve_says V.c V.k V.t
    unfold saysL at hsy
    rcases hs : saysS V with _ | ⟨lk', lf', lc', lt', lb'⟩
    · have TL := Lib.hid (tell_none (c := x.c) hs)
      rw [show (⟨V.c, V.k, V.t⟩ : Vd) = V from rfl, hs] at hsy
      unfold l0 at hsy
      simp only [Option.getD_none, Option.isSome_none] at hsy
      have HS := Lib.hid hsy
      clear hsy hs
      go_wp2_with (first
        | (go_at_call 23; refine (HS.out _).mono ?_; rintro e W3 ⟨rfl, hx⟩; clear qx; have hx3 := HA.out.1.ext hx; have HX3 := Lib.hid hx3; have HO3 := Lib.hid (HA.out.2.1.ext hx); have HK3 := Lib.hid (HA.out.2.2.1.ext hx); unfold ExAt Ex.arr at hx3; have qx := fun j => cell_of_row W3 _ j _ _ _ hx3; have hm3 := heap_ext HA.out.2.2.2 hx; unfold Mv.arr at hm3; have qm := fun j => cell_of_row W3 _ j _ _ _ hm3; have lx3 : gx < W3.heap.size := (Array.getElem?_eq_some_iff.1 hx3).1; have lm3 : w.heap.size < W3.heap.size := (Array.getElem?_eq_some_iff.1 hm3).1; clear hx hx3 hm3)
        | (go_at_call 21; refine (mo_hears B gx _ { x with v := V } v ⟨mk, who, mt, ⟨4, lf, lc, lt, false⟩, lost⟩ ⟨7, 0, x.c, { data := #[] }, false⟩ _ (HX3.out.ext (((Ext.refl _).alloc _).alloc _)) (HO3.out.ext (((Ext.refl _).alloc _).alloc _)) (heap_new (by simp)) hB (Nat.le_trans hBw (Nat.le_trans HK3.out.size (((Ext.refl _).alloc _).alloc _).size)) hn).mono ?_; rintro e w4 ⟨rfl, hH⟩; have HH := Lib.hid hH; clear hH))
      refine ⟨rfl, .tuple #[], by simp [results, go_sem], rfl, ?_⟩
      rw [hV, TL.out]
      exact Heard1.from (HK3.out.ext (((Ext.refl _).alloc _).alloc _)) HH.out
    · have TL := Lib.hid (tell_some (c := x.c) hs)
      rw [show (⟨V.c, V.k, V.t⟩ : Vd) = V from rfl, hs] at hsy
      simp only [Option.getD_some, Option.isSome_some] at hsy
      have HS := Lib.hid hsy
      clear hsy hs
      go_wp2_with (first
        | (go_at_call 23; refine (HS.out _).mono ?_; rintro e W3 ⟨rfl, hx⟩; clear qx; have hx3 := HA.out.1.ext hx; have HX3 := Lib.hid hx3; have HO3 := Lib.hid (HA.out.2.1.ext hx); have HK3 := Lib.hid (HA.out.2.2.1.ext hx); unfold ExAt Ex.arr at hx3; have qx := fun j => cell_of_row W3 _ j _ _ _ hx3; have hm3 := heap_ext HA.out.2.2.2 hx; unfold Mv.arr at hm3; have qm := fun j => cell_of_row W3 _ j _ _ _ hm3; have lx3 : gx < W3.heap.size := (Array.getElem?_eq_some_iff.1 hx3).1; have lm3 : w.heap.size < W3.heap.size := (Array.getElem?_eq_some_iff.1 hm3).1; clear hx hx3 hm3)
        | (go_at_call 21; refine (mo_hears B gx _ { x with v := V } v ⟨mk, who, mt, ⟨4, lf, lc, lt, false⟩, lost⟩ ⟨lk', lf', lc', lt', lb'⟩ _ (HX3.out.ext (((Ext.refl _).alloc _).alloc _)) (HO3.out.ext (((Ext.refl _).alloc _).alloc _)) (heap_new (by simp)) hB (Nat.le_trans hBw (Nat.le_trans HK3.out.size (((Ext.refl _).alloc _).alloc _).size)) hn).mono ?_; rintro e w4 ⟨rfl, hH⟩; have HH := Lib.hid hH; clear hH))
      refine ⟨rfl, .tuple #[], by simp [results, go_sem], rfl, ?_⟩
      rw [hV, TL.out]
      exact Heard1.from (HK3.out.ext (((Ext.refl _).alloc _).alloc _)) HH.out
  · have hV' : V = x.v := by rw [← hV]; unfold askV; rw [if_neg hf]
    clear hf
    go_upto_region 8 with fail
    refine wp_forget (fun w' => Hid (ExAt w' gx { x with v := V } v ∧ Own w' B x.h v ∧ Keeps (gx :: rowB v) w w' ∧ w'.heap[w.heap.size]? = some (.cells (Mv.arr ⟨mk, who, mt, ⟨4, lf, lc, lt, false⟩, lost⟩) 41 (0, 0)))) (Lib.hid ⟨by rw [hV']; exact HX1.out, HO.out.ext HE1.out, (Keeps.refl _ w).ext HE1.out, HM1.out⟩) ?_
    rintro W2 HA
    clear h0 hV' qv lx1 lv1 fx HX1 HE1 HM1 
    clear qx
    have hA1 := HA.out.1
    unfold ExAt Ex.arr at hA1
    have qx := fun j => cell_of_row W2 _ j _ _ _ hA1
    clear hA1
    have hsy := ve_says V.c V.k V.t
    unfold saysL at hsy
    rcases hs : saysS V with _ | ⟨lk', lf', lc', lt', lb'⟩
    · have TL := Lib.hid (tell_none (c := x.c) hs)
      rw [show (⟨V.c, V.k, V.t⟩ : Vd) = V from rfl, hs] at hsy
      unfold l0 at hsy
      simp only [Option.getD_none, Option.isSome_none] at hsy
      have HS := Lib.hid hsy
      clear hsy hs
      go_wp2_with (first
        | (go_at_call 23; refine (HS.out _).mono ?_; rintro e W3 ⟨rfl, hx⟩; clear qx; have hx3 := HA.out.1.ext hx; have HX3 := Lib.hid hx3; have HO3 := Lib.hid (HA.out.2.1.ext hx); have HK3 := Lib.hid (HA.out.2.2.1.ext hx); unfold ExAt Ex.arr at hx3; have qx := fun j => cell_of_row W3 _ j _ _ _ hx3; have hm3 := heap_ext HA.out.2.2.2 hx; unfold Mv.arr at hm3; have qm := fun j => cell_of_row W3 _ j _ _ _ hm3; have lx3 : gx < W3.heap.size := (Array.getElem?_eq_some_iff.1 hx3).1; have lm3 : w.heap.size < W3.heap.size := (Array.getElem?_eq_some_iff.1 hm3).1; clear hx hx3 hm3)
        | (go_at_call 21; refine (mo_hears B gx _ { x with v := V } v ⟨mk, who, mt, ⟨4, lf, lc, lt, false⟩, lost⟩ ⟨7, 0, x.c, { data := #[] }, false⟩ _ (HX3.out.ext (((Ext.refl _).alloc _).alloc _)) (HO3.out.ext (((Ext.refl _).alloc _).alloc _)) (heap_new (by simp)) hB (Nat.le_trans hBw (Nat.le_trans HK3.out.size (((Ext.refl _).alloc _).alloc _).size)) hn).mono ?_; rintro e w4 ⟨rfl, hH⟩; have HH := Lib.hid hH; clear hH))
      refine ⟨rfl, .tuple #[], by simp [results, go_sem], rfl, ?_⟩
      rw [hV, TL.out]
      exact Heard1.from (HK3.out.ext (((Ext.refl _).alloc _).alloc _)) HH.out
    · have TL := Lib.hid (tell_some (c := x.c) hs)
      rw [show (⟨V.c, V.k, V.t⟩ : Vd) = V from rfl, hs] at hsy
      simp only [Option.getD_some, Option.isSome_some] at hsy
      have HS := Lib.hid hsy
      clear hsy hs
      go_wp2_with (first
        | (go_at_call 23; refine (HS.out _).mono ?_; rintro e W3 ⟨rfl, hx⟩; clear qx; have hx3 := HA.out.1.ext hx; have HX3 := Lib.hid hx3; have HO3 := Lib.hid (HA.out.2.1.ext hx); have HK3 := Lib.hid (HA.out.2.2.1.ext hx); unfold ExAt Ex.arr at hx3; have qx := fun j => cell_of_row W3 _ j _ _ _ hx3; have hm3 := heap_ext HA.out.2.2.2 hx; unfold Mv.arr at hm3; have qm := fun j => cell_of_row W3 _ j _ _ _ hm3; have lx3 : gx < W3.heap.size := (Array.getElem?_eq_some_iff.1 hx3).1; have lm3 : w.heap.size < W3.heap.size := (Array.getElem?_eq_some_iff.1 hm3).1; clear hx hx3 hm3)
        | (go_at_call 21; refine (mo_hears B gx _ { x with v := V } v ⟨mk, who, mt, ⟨4, lf, lc, lt, false⟩, lost⟩ ⟨lk', lf', lc', lt', lb'⟩ _ (HX3.out.ext (((Ext.refl _).alloc _).alloc _)) (HO3.out.ext (((Ext.refl _).alloc _).alloc _)) (heap_new (by simp)) hB (Nat.le_trans hBw (Nat.le_trans HK3.out.size (((Ext.refl _).alloc _).alloc _).size)) hn).mono ?_; rintro e w4 ⟨rfl, hH⟩; have HH := Lib.hid hH; clear hH))
      refine ⟨rfl, .tuple #[], by simp [results, go_sem], rfl, ?_⟩
      rw [hV, TL.out]
      exact Heard1.from (HK3.out.ext (((Ext.refl _).alloc _).alloc _)) HH.out
  · have hV' : V = x.v := by rw [← hV]; unfold askV; rw [if_neg (by rw [hf]; simp)]
    go_upto_region 8 with fail
    refine wp_forget (fun w' => Hid (ExAt w' gx { x with v := V } v ∧ Own w' B x.h v ∧ Keeps (gx :: rowB v) w w' ∧ w'.heap[w.heap.size]? = some (.cells (Mv.arr ⟨mk, who, mt, ⟨4, lf, lc, lt, false⟩, lost⟩) 41 (0, 0)))) (Lib.hid ⟨by rw [hV']; exact HX1.out, HO.out.ext HE1.out, (Keeps.refl _ w).ext HE1.out, HM1.out⟩) ?_
    rintro W2 HA
    clear h0 hV' qv lx1 lv1 fx HX1 HE1 HM1 hf
    clear qx
    have hA1 := HA.out.1
    unfold ExAt Ex.arr at hA1
    have qx := fun j => cell_of_row W2 _ j _ _ _ hA1
    clear hA1
    have hsy := ve_says V.c V.k V.t
    unfold saysL at hsy
    rcases hs : saysS V with _ | ⟨lk', lf', lc', lt', lb'⟩
    · have TL := Lib.hid (tell_none (c := x.c) hs)
      rw [show (⟨V.c, V.k, V.t⟩ : Vd) = V from rfl, hs] at hsy
      unfold l0 at hsy
      simp only [Option.getD_none, Option.isSome_none] at hsy
      have HS := Lib.hid hsy
      clear hsy hs
      go_wp2_with (first
        | (go_at_call 23; refine (HS.out _).mono ?_; rintro e W3 ⟨rfl, hx⟩; clear qx; have hx3 := HA.out.1.ext hx; have HX3 := Lib.hid hx3; have HO3 := Lib.hid (HA.out.2.1.ext hx); have HK3 := Lib.hid (HA.out.2.2.1.ext hx); unfold ExAt Ex.arr at hx3; have qx := fun j => cell_of_row W3 _ j _ _ _ hx3; have hm3 := heap_ext HA.out.2.2.2 hx; unfold Mv.arr at hm3; have qm := fun j => cell_of_row W3 _ j _ _ _ hm3; have lx3 : gx < W3.heap.size := (Array.getElem?_eq_some_iff.1 hx3).1; have lm3 : w.heap.size < W3.heap.size := (Array.getElem?_eq_some_iff.1 hm3).1; clear hx hx3 hm3)
        | (go_at_call 21; refine (mo_hears B gx _ { x with v := V } v ⟨mk, who, mt, ⟨4, lf, lc, lt, false⟩, lost⟩ ⟨7, 0, x.c, { data := #[] }, false⟩ _ (HX3.out.ext (((Ext.refl _).alloc _).alloc _)) (HO3.out.ext (((Ext.refl _).alloc _).alloc _)) (heap_new (by simp)) hB (Nat.le_trans hBw (Nat.le_trans HK3.out.size (((Ext.refl _).alloc _).alloc _).size)) hn).mono ?_; rintro e w4 ⟨rfl, hH⟩; have HH := Lib.hid hH; clear hH))
      refine ⟨rfl, .tuple #[], by simp [results, go_sem], rfl, ?_⟩
      rw [hV, TL.out]
      exact Heard1.from (HK3.out.ext (((Ext.refl _).alloc _).alloc _)) HH.out
    · have TL := Lib.hid (tell_some (c := x.c) hs)
      rw [show (⟨V.c, V.k, V.t⟩ : Vd) = V from rfl, hs] at hsy
      simp only [Option.getD_some, Option.isSome_some] at hsy
      have HS := Lib.hid hsy
      clear hsy hs
      go_wp2_with (first
        | (go_at_call 23; refine (HS.out _).mono ?_; rintro e W3 ⟨rfl, hx⟩; clear qx; have hx3 := HA.out.1.ext hx; have HX3 := Lib.hid hx3; have HO3 := Lib.hid (HA.out.2.1.ext hx); have HK3 := Lib.hid (HA.out.2.2.1.ext hx); unfold ExAt Ex.arr at hx3; have qx := fun j => cell_of_row W3 _ j _ _ _ hx3; have hm3 := heap_ext HA.out.2.2.2 hx; unfold Mv.arr at hm3; have qm := fun j => cell_of_row W3 _ j _ _ _ hm3; have lx3 : gx < W3.heap.size := (Array.getElem?_eq_some_iff.1 hx3).1; have lm3 : w.heap.size < W3.heap.size := (Array.getElem?_eq_some_iff.1 hm3).1; clear hx hx3 hm3)
        | (go_at_call 21; refine (mo_hears B gx _ { x with v := V } v ⟨mk, who, mt, ⟨4, lf, lc, lt, false⟩, lost⟩ ⟨lk', lf', lc', lt', lb'⟩ _ (HX3.out.ext (((Ext.refl _).alloc _).alloc _)) (HO3.out.ext (((Ext.refl _).alloc _).alloc _)) (heap_new (by simp)) hB (Nat.le_trans hBw (Nat.le_trans HK3.out.size (((Ext.refl _).alloc _).alloc _).size)) hn).mono ?_; rintro e w4 ⟨rfl, hH⟩; have HH := Lib.hid hH; clear hH))
      refine ⟨rfl, .tuple #[], by simp [results, go_sem], rfl, ?_⟩
      rw [hV, TL.out]
      exact Heard1.from (HK3.out.ext (((Ext.refl _).alloc _).alloc _)) HH.out

set_option maxRecDepth 100000 in
set_option maxHeartbeats 6400000 in
theorem mo_askedB3 (B gx : Nat) (x : Ex) (v : Value) (mk who : Int) (mt : ByteArray) (lf lc : Int) (lt : ByteArray) (lb : Bool) (lost : Bool) (w : World) (hX : ExAt w gx x v) (hO : Own w B x.h v)
    (hB : gx < B) (hBw : B ≤ w.heap.size) (hn : x.h.length ≤ 100000) :
    Calls Try.prog 19 #[.pointer (some ⟨gx, 0, none⟩), .agg (Mv.arr ⟨mk, who, mt, ⟨3, lf, lc, lt, lb⟩, lost⟩)] w fun e w' => e = .returned (.tuple #[]) ∧ Heard1 B gx { x with v := askV x ⟨3, lf, lc, lt, lb⟩, h := hearS x.h lost (tellS x.c (askV x ⟨3, lf, lc, lt, lb⟩)) } v w w' := by
  have hX' := hX
  unfold ExAt Ex.arr at hX'
  have qx := fun j => cell_of_row w _ j _ _ _ hX'
  have lx : gx < w.heap.size := (Array.getElem?_eq_some_iff.1 hX).1
  have HX := Lib.hid hX
  have HO := Lib.hid hO
  clear hX hX' hO
  unfold Mv.arr
  go_enter Try.func19, Try.ntmps19
  go_upto_region 6 with fail
  refine wp_forget (fun w' => w'.heap[w.heap.size]? = some (.cells (Mv.arr ⟨mk, who, mt, ⟨3, lf, lc, lt, lb⟩, lost⟩) 41 (0, 0)) ∧ w'.heap[w.heap.size + 1]? = some (.cells #[.int .i64 3, .int .i64 lf, .int .u64 lc, .string lt, .bool lb] 27 (0, 0)) ∧ w'.heap[w.heap.size + 1 + 1]? = some (.cells #[.int .u64 x.c, .int .i64 1, .string { data := #[] }] 32 (0, 0)) ∧ Ext w w') (by first | exact three_new (Ext.refl _) | exact three_new (Ext.refl _).drew) ?_
  rintro W1 ⟨h1, _, h2, e1⟩
  clear qx
  have hx1 := HX.out.ext e1
  have hx1' := hx1
  unfold ExAt Ex.arr at hx1'
  have qx := fun j => cell_of_row W1 _ j _ _ _ hx1'
  have fx := fun j => frozen_of_row W1 _ j _ _ hx1'
  have qv := fun j => cell_of_row W1 _ j _ _ _ h2
  have lx1 : gx < W1.heap.size := (Array.getElem?_eq_some_iff.1 hx1).1
  have lv1 : w.heap.size + 1 + 1 < W1.heap.size := (Array.getElem?_eq_some_iff.1 h2).1
  have HM1 := Lib.hid h1
  have HX1 := Lib.hid hx1
  have HE1 := Lib.hid e1
  clear h1 h2 hx1 hx1' e1
  have hv3 : (x.v.k = 0 ∧ x.full = false) ∨ ((x.v.k == 0) = false ∧ ¬ (x.v.k = 0 ∧ x.full = false)) ∨ (x.v.k = 0 ∧ x.full = true) := by
    by_cases h0 : x.v.k = 0
    · cases hf : x.full
      · exact .inl ⟨h0, rfl⟩
      · exact .inr (.inr ⟨h0, rfl⟩)
    · exact .inr (.inl ⟨by simpa using h0, fun h => h0 h.1⟩)
  generalize hV : askV x ⟨3, lf, lc, lt, lb⟩ = V
  rcases hv3 with ⟨h0, hf⟩ | ⟨h0, hf⟩ | ⟨h0, hf⟩
  · have hV' : V = ⟨x.c, 1, { data := #[] }⟩ := by rw [← hV]; unfold askV; rw [if_pos ⟨h0, hf⟩]; rw [if_neg (by simp)]
    go_upto_region 8 with fail
    refine wp_forget (fun w' => Hid (ExAt w' gx { x with v := V } v ∧ Own w' B x.h v ∧ Keeps (gx :: rowB v) w w' ∧ w'.heap[w.heap.size]? = some (.cells (Mv.arr ⟨mk, who, mt, ⟨3, lf, lc, lt, lb⟩, lost⟩) 41 (0, 0)))) (Lib.hid ⟨?g1, ?g2, ?g3, ?g4⟩) ?gr
    case g1 =>
      rw [hV']
      exact setCell_row (o := 21) (setCell_row (o := 20) (setCell_row (o := 19) HX1.out _) _) _
    case g2 =>
      have o1 := own_ext HO.out HE1.out
      exact own_same (own_same (own_same o1 fun k hk _ => cell_other (o := 19) (v := .int .u64 x.c) (show k ≠ gx by omega)) fun k hk _ => cell_other (o := 20) (v := .int .i64 1) (show k ≠ gx by omega)) fun k hk _ => cell_other (o := 21) (v := .string { data := #[] }) (show k ≠ gx by omega)
    case g3 => exact ((((Keeps.refl _ w).ext HE1.out).setCell (.inl (.head _)) _ _).setCell (.inl (.head _)) _ _).setCell (.inl (.head _)) _ _
    case g4 => exact (cell_other (by omega)).trans ((cell_other (by omega)).trans ((cell_other (by omega)).trans HM1.out))
    rintro W2 HA
    clear h0 hV' qv lx1 lv1 fx HX1 HE1 HM1 hf
    clear qx
    have hA1 := HA.out.1
    unfold ExAt Ex.arr at hA1
    have qx := fun j => cell_of_row W2 _ j _ _ _ hA1
    clear hA1
    have hsy := ve_says V.c V.k V.t
    unfold saysL at hsy
    rcases hs : saysS V with _ | ⟨lk', lf', lc', lt', lb'⟩
    · have TL := Lib.hid (tell_none (c := x.c) hs)
      rw [show (⟨V.c, V.k, V.t⟩ : Vd) = V from rfl, hs] at hsy
      unfold l0 at hsy
      simp only [Option.getD_none, Option.isSome_none] at hsy
      have HS := Lib.hid hsy
      clear hsy hs
      go_wp2_with (first
        | (go_at_call 23; refine (HS.out _).mono ?_; rintro e W3 ⟨rfl, hx⟩; clear qx; have hx3 := HA.out.1.ext hx; have HX3 := Lib.hid hx3; have HO3 := Lib.hid (HA.out.2.1.ext hx); have HK3 := Lib.hid (HA.out.2.2.1.ext hx); unfold ExAt Ex.arr at hx3; have qx := fun j => cell_of_row W3 _ j _ _ _ hx3; have hm3 := heap_ext HA.out.2.2.2 hx; unfold Mv.arr at hm3; have qm := fun j => cell_of_row W3 _ j _ _ _ hm3; have lx3 : gx < W3.heap.size := (Array.getElem?_eq_some_iff.1 hx3).1; have lm3 : w.heap.size < W3.heap.size := (Array.getElem?_eq_some_iff.1 hm3).1; clear hx hx3 hm3)
        | (go_at_call 21; refine (mo_hears B gx _ { x with v := V } v ⟨mk, who, mt, ⟨3, lf, lc, lt, lb⟩, lost⟩ ⟨7, 0, x.c, { data := #[] }, false⟩ _ (HX3.out.ext (((Ext.refl _).alloc _).alloc _)) (HO3.out.ext (((Ext.refl _).alloc _).alloc _)) (heap_new (by simp)) hB (Nat.le_trans hBw (Nat.le_trans HK3.out.size (((Ext.refl _).alloc _).alloc _).size)) hn).mono ?_; rintro e w4 ⟨rfl, hH⟩; have HH := Lib.hid hH; clear hH))
      refine ⟨rfl, .tuple #[], by simp [results, go_sem], rfl, ?_⟩
      rw [hV, TL.out]
      exact Heard1.from (HK3.out.ext (((Ext.refl _).alloc _).alloc _)) HH.out
    · have TL := Lib.hid (tell_some (c := x.c) hs)
      rw [show (⟨V.c, V.k, V.t⟩ : Vd) = V from rfl, hs] at hsy
      simp only [Option.getD_some, Option.isSome_some] at hsy
      have HS := Lib.hid hsy
      clear hsy hs
      go_wp2_with (first
        | (go_at_call 23; refine (HS.out _).mono ?_; rintro e W3 ⟨rfl, hx⟩; clear qx; have hx3 := HA.out.1.ext hx; have HX3 := Lib.hid hx3; have HO3 := Lib.hid (HA.out.2.1.ext hx); have HK3 := Lib.hid (HA.out.2.2.1.ext hx); unfold ExAt Ex.arr at hx3; have qx := fun j => cell_of_row W3 _ j _ _ _ hx3; have hm3 := heap_ext HA.out.2.2.2 hx; unfold Mv.arr at hm3; have qm := fun j => cell_of_row W3 _ j _ _ _ hm3; have lx3 : gx < W3.heap.size := (Array.getElem?_eq_some_iff.1 hx3).1; have lm3 : w.heap.size < W3.heap.size := (Array.getElem?_eq_some_iff.1 hm3).1; clear hx hx3 hm3)
        | (go_at_call 21; refine (mo_hears B gx _ { x with v := V } v ⟨mk, who, mt, ⟨3, lf, lc, lt, lb⟩, lost⟩ ⟨lk', lf', lc', lt', lb'⟩ _ (HX3.out.ext (((Ext.refl _).alloc _).alloc _)) (HO3.out.ext (((Ext.refl _).alloc _).alloc _)) (heap_new (by simp)) hB (Nat.le_trans hBw (Nat.le_trans HK3.out.size (((Ext.refl _).alloc _).alloc _).size)) hn).mono ?_; rintro e w4 ⟨rfl, hH⟩; have HH := Lib.hid hH; clear hH))
      refine ⟨rfl, .tuple #[], by simp [results, go_sem], rfl, ?_⟩
      rw [hV, TL.out]
      exact Heard1.from (HK3.out.ext (((Ext.refl _).alloc _).alloc _)) HH.out
  · have hV' : V = x.v := by rw [← hV]; unfold askV; rw [if_neg hf]
    clear hf
    go_upto_region 8 with fail
    refine wp_forget (fun w' => Hid (ExAt w' gx { x with v := V } v ∧ Own w' B x.h v ∧ Keeps (gx :: rowB v) w w' ∧ w'.heap[w.heap.size]? = some (.cells (Mv.arr ⟨mk, who, mt, ⟨3, lf, lc, lt, lb⟩, lost⟩) 41 (0, 0)))) (Lib.hid ⟨by rw [hV']; exact HX1.out, HO.out.ext HE1.out, (Keeps.refl _ w).ext HE1.out, HM1.out⟩) ?_
    rintro W2 HA
    clear h0 hV' qv lx1 lv1 fx HX1 HE1 HM1 
    clear qx
    have hA1 := HA.out.1
    unfold ExAt Ex.arr at hA1
    have qx := fun j => cell_of_row W2 _ j _ _ _ hA1
    clear hA1
    have hsy := ve_says V.c V.k V.t
    unfold saysL at hsy
    rcases hs : saysS V with _ | ⟨lk', lf', lc', lt', lb'⟩
    · have TL := Lib.hid (tell_none (c := x.c) hs)
      rw [show (⟨V.c, V.k, V.t⟩ : Vd) = V from rfl, hs] at hsy
      unfold l0 at hsy
      simp only [Option.getD_none, Option.isSome_none] at hsy
      have HS := Lib.hid hsy
      clear hsy hs
      go_wp2_with (first
        | (go_at_call 23; refine (HS.out _).mono ?_; rintro e W3 ⟨rfl, hx⟩; clear qx; have hx3 := HA.out.1.ext hx; have HX3 := Lib.hid hx3; have HO3 := Lib.hid (HA.out.2.1.ext hx); have HK3 := Lib.hid (HA.out.2.2.1.ext hx); unfold ExAt Ex.arr at hx3; have qx := fun j => cell_of_row W3 _ j _ _ _ hx3; have hm3 := heap_ext HA.out.2.2.2 hx; unfold Mv.arr at hm3; have qm := fun j => cell_of_row W3 _ j _ _ _ hm3; have lx3 : gx < W3.heap.size := (Array.getElem?_eq_some_iff.1 hx3).1; have lm3 : w.heap.size < W3.heap.size := (Array.getElem?_eq_some_iff.1 hm3).1; clear hx hx3 hm3)
        | (go_at_call 21; refine (mo_hears B gx _ { x with v := V } v ⟨mk, who, mt, ⟨3, lf, lc, lt, lb⟩, lost⟩ ⟨7, 0, x.c, { data := #[] }, false⟩ _ (HX3.out.ext (((Ext.refl _).alloc _).alloc _)) (HO3.out.ext (((Ext.refl _).alloc _).alloc _)) (heap_new (by simp)) hB (Nat.le_trans hBw (Nat.le_trans HK3.out.size (((Ext.refl _).alloc _).alloc _).size)) hn).mono ?_; rintro e w4 ⟨rfl, hH⟩; have HH := Lib.hid hH; clear hH))
      refine ⟨rfl, .tuple #[], by simp [results, go_sem], rfl, ?_⟩
      rw [hV, TL.out]
      exact Heard1.from (HK3.out.ext (((Ext.refl _).alloc _).alloc _)) HH.out
    · have TL := Lib.hid (tell_some (c := x.c) hs)
      rw [show (⟨V.c, V.k, V.t⟩ : Vd) = V from rfl, hs] at hsy
      simp only [Option.getD_some, Option.isSome_some] at hsy
      have HS := Lib.hid hsy
      clear hsy hs
      go_wp2_with (first
        | (go_at_call 23; refine (HS.out _).mono ?_; rintro e W3 ⟨rfl, hx⟩; clear qx; have hx3 := HA.out.1.ext hx; have HX3 := Lib.hid hx3; have HO3 := Lib.hid (HA.out.2.1.ext hx); have HK3 := Lib.hid (HA.out.2.2.1.ext hx); unfold ExAt Ex.arr at hx3; have qx := fun j => cell_of_row W3 _ j _ _ _ hx3; have hm3 := heap_ext HA.out.2.2.2 hx; unfold Mv.arr at hm3; have qm := fun j => cell_of_row W3 _ j _ _ _ hm3; have lx3 : gx < W3.heap.size := (Array.getElem?_eq_some_iff.1 hx3).1; have lm3 : w.heap.size < W3.heap.size := (Array.getElem?_eq_some_iff.1 hm3).1; clear hx hx3 hm3)
        | (go_at_call 21; refine (mo_hears B gx _ { x with v := V } v ⟨mk, who, mt, ⟨3, lf, lc, lt, lb⟩, lost⟩ ⟨lk', lf', lc', lt', lb'⟩ _ (HX3.out.ext (((Ext.refl _).alloc _).alloc _)) (HO3.out.ext (((Ext.refl _).alloc _).alloc _)) (heap_new (by simp)) hB (Nat.le_trans hBw (Nat.le_trans HK3.out.size (((Ext.refl _).alloc _).alloc _).size)) hn).mono ?_; rintro e w4 ⟨rfl, hH⟩; have HH := Lib.hid hH; clear hH))
      refine ⟨rfl, .tuple #[], by simp [results, go_sem], rfl, ?_⟩
      rw [hV, TL.out]
      exact Heard1.from (HK3.out.ext (((Ext.refl _).alloc _).alloc _)) HH.out
  · have hV' : V = x.v := by rw [← hV]; unfold askV; rw [if_neg (by rw [hf]; simp)]
    go_upto_region 8 with fail
    refine wp_forget (fun w' => Hid (ExAt w' gx { x with v := V } v ∧ Own w' B x.h v ∧ Keeps (gx :: rowB v) w w' ∧ w'.heap[w.heap.size]? = some (.cells (Mv.arr ⟨mk, who, mt, ⟨3, lf, lc, lt, lb⟩, lost⟩) 41 (0, 0)))) (Lib.hid ⟨by rw [hV']; exact HX1.out, HO.out.ext HE1.out, (Keeps.refl _ w).ext HE1.out, HM1.out⟩) ?_
    rintro W2 HA
    clear h0 hV' qv lx1 lv1 fx HX1 HE1 HM1 hf
    clear qx
    have hA1 := HA.out.1
    unfold ExAt Ex.arr at hA1
    have qx := fun j => cell_of_row W2 _ j _ _ _ hA1
    clear hA1
    have hsy := ve_says V.c V.k V.t
    unfold saysL at hsy
    rcases hs : saysS V with _ | ⟨lk', lf', lc', lt', lb'⟩
    · have TL := Lib.hid (tell_none (c := x.c) hs)
      rw [show (⟨V.c, V.k, V.t⟩ : Vd) = V from rfl, hs] at hsy
      unfold l0 at hsy
      simp only [Option.getD_none, Option.isSome_none] at hsy
      have HS := Lib.hid hsy
      clear hsy hs
      go_wp2_with (first
        | (go_at_call 23; refine (HS.out _).mono ?_; rintro e W3 ⟨rfl, hx⟩; clear qx; have hx3 := HA.out.1.ext hx; have HX3 := Lib.hid hx3; have HO3 := Lib.hid (HA.out.2.1.ext hx); have HK3 := Lib.hid (HA.out.2.2.1.ext hx); unfold ExAt Ex.arr at hx3; have qx := fun j => cell_of_row W3 _ j _ _ _ hx3; have hm3 := heap_ext HA.out.2.2.2 hx; unfold Mv.arr at hm3; have qm := fun j => cell_of_row W3 _ j _ _ _ hm3; have lx3 : gx < W3.heap.size := (Array.getElem?_eq_some_iff.1 hx3).1; have lm3 : w.heap.size < W3.heap.size := (Array.getElem?_eq_some_iff.1 hm3).1; clear hx hx3 hm3)
        | (go_at_call 21; refine (mo_hears B gx _ { x with v := V } v ⟨mk, who, mt, ⟨3, lf, lc, lt, lb⟩, lost⟩ ⟨7, 0, x.c, { data := #[] }, false⟩ _ (HX3.out.ext (((Ext.refl _).alloc _).alloc _)) (HO3.out.ext (((Ext.refl _).alloc _).alloc _)) (heap_new (by simp)) hB (Nat.le_trans hBw (Nat.le_trans HK3.out.size (((Ext.refl _).alloc _).alloc _).size)) hn).mono ?_; rintro e w4 ⟨rfl, hH⟩; have HH := Lib.hid hH; clear hH))
      refine ⟨rfl, .tuple #[], by simp [results, go_sem], rfl, ?_⟩
      rw [hV, TL.out]
      exact Heard1.from (HK3.out.ext (((Ext.refl _).alloc _).alloc _)) HH.out
    · have TL := Lib.hid (tell_some (c := x.c) hs)
      rw [show (⟨V.c, V.k, V.t⟩ : Vd) = V from rfl, hs] at hsy
      simp only [Option.getD_some, Option.isSome_some] at hsy
      have HS := Lib.hid hsy
      clear hsy hs
      go_wp2_with (first
        | (go_at_call 23; refine (HS.out _).mono ?_; rintro e W3 ⟨rfl, hx⟩; clear qx; have hx3 := HA.out.1.ext hx; have HX3 := Lib.hid hx3; have HO3 := Lib.hid (HA.out.2.1.ext hx); have HK3 := Lib.hid (HA.out.2.2.1.ext hx); unfold ExAt Ex.arr at hx3; have qx := fun j => cell_of_row W3 _ j _ _ _ hx3; have hm3 := heap_ext HA.out.2.2.2 hx; unfold Mv.arr at hm3; have qm := fun j => cell_of_row W3 _ j _ _ _ hm3; have lx3 : gx < W3.heap.size := (Array.getElem?_eq_some_iff.1 hx3).1; have lm3 : w.heap.size < W3.heap.size := (Array.getElem?_eq_some_iff.1 hm3).1; clear hx hx3 hm3)
        | (go_at_call 21; refine (mo_hears B gx _ { x with v := V } v ⟨mk, who, mt, ⟨3, lf, lc, lt, lb⟩, lost⟩ ⟨lk', lf', lc', lt', lb'⟩ _ (HX3.out.ext (((Ext.refl _).alloc _).alloc _)) (HO3.out.ext (((Ext.refl _).alloc _).alloc _)) (heap_new (by simp)) hB (Nat.le_trans hBw (Nat.le_trans HK3.out.size (((Ext.refl _).alloc _).alloc _).size)) hn).mono ?_; rintro e w4 ⟨rfl, hH⟩; have HH := Lib.hid hH; clear hH))
      refine ⟨rfl, .tuple #[], by simp [results, go_sem], rfl, ?_⟩
      rw [hV, TL.out]
      exact Heard1.from (HK3.out.ext (((Ext.refl _).alloc _).alloc _)) HH.out

/-- The notary is asked. -/
theorem mo_asked (B gx : Nat) (x : Ex) (v : Value) (m : Mv) (w : World) (hX : ExAt w gx x v) (hO : Own w B x.h v) (hB : gx < B) (hBw : B ≤ w.heap.size) (hn : x.h.length ≤ 100000) :
    Calls Try.prog 19 #[.pointer (some ⟨gx, 0, none⟩), .agg m.arr] w fun e w' => e = .returned (.tuple #[]) ∧ Heard1 B gx (askX x m) v w w' := by
  by_cases h : (m.l.k = 4 ∧ m.l.b = false) ∨ m.l.k = 3
  · rw [askX_do h]
    obtain ⟨mk, who, mt, ⟨lk, lf, lc, lt, lb⟩, lost⟩ := m
    simp only at h
    rcases h with ⟨rfl, rfl⟩ | rfl
    · exact mo_askedB4 B gx x v mk who mt lf lc lt lost w hX hO hB hBw hn
    · exact mo_askedB3 B gx x v mk who mt lf lc lt lb lost w hX hO hB hBw hn
  · rw [askX_no h]
    exact (mo_asked0 gx x v m w hX h).mono fun e w' h => ⟨h.1, heard_same hX hO h.2⟩
end Go.Proofs.Ytodnfbfhdloogaa

/-
  Walks: a new exchange; the beginning of a step. No condition.
-/
namespace Go.Proofs.Ytodnfbfhdloogaa
open Go.RowKit
attribute [local go_sem ↓] eql_lEq eql_sEq eql_eEq eql_oEq neq_lEq neq_sEq neq_eEq neq_oEq eql_vEq neq_vEq eql_nil
attribute [local go_sem] ExtOf.cell ExtOf.frozen ExtOf.lt ExtOf.le
attribute [local go_sem high] ExtOf.cell2 ExtOf.frozen2 ExtOf.lt2 ExtOf.cell3 ExtOf.frozen3 ExtOf.lt3

theorem arr_one (x : Ex) {v : Value} (h : v.oneCell' = true) : (x.arr v).all (·.oneCell') = true := by
  simp [Ex.arr, Value.oneCell'] at h ⊢
  exact h
theorem own_slice {w : World} {B : Nat} {h : List Lt} {v : Value} (o : Own w B h v) : ∃ a n c, v = .slice a n c := by
  rcases own_nil_or o with hv | ⟨a, n, c, hv⟩
  · exact ⟨_, _, _, hv⟩
  · exact ⟨_, _, _, hv⟩
theorem keeps_ext {X : List Nat} {w a b : World} (h : Ext w a) (k : Keeps X a b) (hX : ∀ g ∈ X, w.heap.size ≤ g) : Ext w b :=
  ⟨k.os.trans h.os, k.tape.trans h.tape, k.output.trans h.output, Nat.le_trans h.size k.size, fun i hi => (k.block i (Nat.lt_of_lt_of_le hi h.size) fun he => absurd (hX i he) (by omega)).trans (h.block i hi)⟩
theorem own_rowB {w : World} {B : Nat} {h : List Lt} {v : Value} (o : Own w B h v) : ∀ g ∈ rowB v, B ≤ g ∧ g < w.heap.size := by
  intro g hg
  rcases o.2 with ⟨hv, _⟩ | ⟨g', cap, cur, hv, hb, hg', _⟩
  · subst hv; simp [rowB, Value.ownBlock] at hg
  · subst hv
    simp only [rowB, Value.ownBlock, List.mem_singleton] at hg
    subst hg
    exact ⟨hb, (Array.getElem?_eq_some_iff.1 hg').1⟩

set_option maxRecDepth 100000 in
set_option maxHeartbeats 3200000 in
theorem mo_new (c : Int) (w : World) : Calls Try.prog 6 #[.int .u64 c] w fun e w' => e = .returned (.agg ((newX c).arr (.slice none 0 0))) ∧ Ext w w' := by
  go_enter Try.func6, Try.ntmps6
  go_wp2_with (first
    | (go_at_call 16; refine (or_new _ _).mono ?_; rintro e w1 ⟨rfl, hx⟩; obtain ⟨x1, rfl⟩ := ext_of hx; clear hx)
    | (go_at_call 17; refine (an_new _ _).mono ?_; rintro e w1 ⟨rfl, hx⟩; obtain ⟨x2, rfl⟩ := ext_of hx; clear hx)
    | (refine wpList_store_row rfl 36 _ _ rfl _ _ rfl rfl 36 _ (heap_ext (heap_new rfl) (x1.ext.trans x2.ext)) info_ex rfl (by simp [Value.oneCell']) ?_))
  exact bodyPost_ret (results_cell_row rfl _ _ _ _ _ (0, 0) _ rfl (setRow_heap _ _ _ _ _ _ (heap_ext (heap_new rfl) (x1.ext.trans x2.ext))) Try.underlying36 rfl info_ex) rfl ⟨rfl, Ext.setRow ((((Ext.refl _).alloc _).val x1).val x2) (by omega) _⟩

/-- What holds at region 4 of a step: x in block H, the move in H+1, the result's block H+2, the copy in gy, the event in ge. -/
structure At4 (w W : World) (B gy ge : Nat) (x : Ex) (m : Mv) (v v1 : Value) (zs : Array Value) : Prop where
  hx : ExAt W w.heap.size x v
  hm : W.heap[w.heap.size + 1]? = some (.cells m.arr 41 (0, 0))
  hr : W.heap[w.heap.size + 1 + 1]? = some (.cells zs 36 (0, 0))
  hy : ExAt W gy x v1
  ho : Own W B x.h v1
  he : W.heap[ge]? = some (.cells #[.int .i64 0, .int .u64 x.c, .string { data := #[] }, .int .i64 0, .int .i64 0, .int .u64 0, .string { data := #[] }, .bool false] 54 (0, 0))
  ext : Ext w W
  hgy : w.heap.size + 1 + 1 < gy
  hB : gy < B
  hge : B ≤ ge
  hgr : ∀ g ∈ rowB v1, g < ge
  hn : zs.size = 26

end Go.Proofs.Ytodnfbfhdloogaa
