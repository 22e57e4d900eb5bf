/-
  Walks: the originator's events; the letters that a party's machine has lines for. No condition.
-/
import Derived.Test.YtlnmhocehgmbbaaGreatDoorMS12
namespace Go.Proofs.YtlnmhocehgmbbaaGreatDoor
open Go.RowKit
attribute [local go_sem ↓] eql_lEq eql_sEq eql_eEq eql_oEq neq_lEq neq_sEq neq_eEq neq_oEq eql_vEq neq_vEq eql_nil
attribute [local go_sem] ExtOf.cell ExtOf.frozen ExtOf.lt ExtOf.le
attribute [local go_sem high] ExtOf.cell2 ExtOf.frozen2 ExtOf.lt2 ExtOf.cell3 ExtOf.frozen3 ExtOf.lt3

theorem ev_cells {w : World} {g : Nat} {L : List Ev} {k : Nat} {x : Ev} (h : ∀ j u, (L.flatMap Ev.cs)[j]? = some u → w.cell? ⟨g, j, none⟩ = some u) (hx : L[k]? = some x) :
    w.cell? ⟨g, k * 8, none⟩ = some (.int .i64 x.k) ∧ w.cell? ⟨g, k * 8 + 1, none⟩ = some (.int .u64 x.c) ∧ w.cell? ⟨g, k * 8 + 2, none⟩ = some (.string x.t) ∧ w.cell? ⟨g, k * 8 + 3, none⟩ = some (.int .i64 x.l.k) ∧ w.cell? ⟨g, k * 8 + 4, none⟩ = some (.int .i64 x.l.f) ∧ w.cell? ⟨g, k * 8 + 5, none⟩ = some (.int .u64 x.l.c) ∧ w.cell? ⟨g, k * 8 + 6, none⟩ = some (.string x.l.t) ∧ w.cell? ⟨g, k * 8 + 7, none⟩ = some (.bool x.l.b) := by
  have f := fun j hj => flat_get Ev.cs 8 (fun _ => rfl) L k x hx j hj
  exact ⟨h _ _ (f 0 (by omega)), h _ _ (f 1 (by omega)), h _ _ (f 2 (by omega)), h _ _ (f 3 (by omega)), h _ _ (f 4 (by omega)), h _ _ (f 5 (by omega)), h _ _ (f 6 (by omega)), h _ _ (f 7 (by omega))⟩

/-- A state that waits for nothing has no events. -/
theorem or_events (r c : Int) (t : ByteArray) (ph k f c2 : Int) (t2 : ByteArray) (fk : Bool) (w : World) :
    Calls Tryz.prog 117 #[.agg #[.int .i64 r, .int .u64 c, .string t, .int .i64 ph, .int .i64 k, .int .i64 f, .int .u64 c2, .string t2, .bool fk]] w (Made w 102 8 (evsS ⟨r, c, t, ph, ⟨k, f, c2, t2, fk⟩⟩).length ((evsS ⟨r, c, t, ph, ⟨k, f, c2, t2, fk⟩⟩).flatMap Ev.cs)) := by
  rcases hw : waitS ⟨r, c, t, ph, ⟨k, f, c2, t2, fk⟩⟩
  · have e : evsS ⟨r, c, t, ph, ⟨k, f, c2, t2, fk⟩⟩ = [] := by simp [evsS, hw]
    rw [e]
    clear e
    go_enter Tryz.func117, Tryz.ntmps117
    go_wp2_with (go_at_call 152; refine (or_waits _ _ _ _ _ _ _ _ _ _).mono ?_; rintro e w1 ⟨rfl, hx⟩; obtain ⟨x1, rfl⟩ := ext_of hx; clear hx)
    go_ret
    exact ⟨_, rfl, World.ownsRow_nil _ _ _ _, ((Ext.refl _).alloc _).val x1⟩
  · have e : evsS ⟨r, c, t, ph, ⟨k, f, c2, t2, fk⟩⟩ = (rowsS c t ph).map (evR c) := by simp [evsS, hw]
    rw [e, List.length_map]
    exact or_eventsW r c t ph k f c2 t2 fk w hw

theorem evs_len (s : St) : (evsS s).length ≤ 3 := by
  unfold evsS
  split
  · rw [List.length_map]; exact rows_len _ _ _
  · simp

def evB (e : Ev) : Bool := e.k == 2
theorem lines0 (evs : St → List Ev) (x : Ex) : linesS evs x 0 = ((evs x.s0).filter evB).map (·.l) := rfl

set_option maxRecDepth 100000 in
set_option maxHeartbeats 3200000 in
theorem wa_0 (x : Ex) (v : Value) (w : World) : Calls Tryz.prog 85 #[.agg (x.arr v), .int .i64 0] w (Made w 24 5 (linesS evsS x 0).length ((linesS evsS x 0).flatMap Lt.cs)) := by
  obtain ⟨i0, hi, hz0, hz1, hz2⟩ := info_parts info_letter
  have hE := fun w => or_events x.s0.r x.s0.c x.s0.t x.s0.ph x.s0.p.k x.s0.p.f x.s0.p.c x.s0.p.t x.s0.p.b w
  have hel := evs_len x.s0
  rw [lines0]
  change ∀ w, Calls Tryz.prog 117 _ w (Made w 102 8 (evsS x.s0).length ((evsS x.s0).flatMap Ev.cs)) at hE
  generalize evsS x.s0 = L at hE hel ⊢
  have HE := Lib.hid hE
  clear hE
  go_enter Tryz.func85, Tryz.ntmps85
  go_upto_region 1 with fail
  refine wp_forget (fun w' => ExAt w' w.heap.size x v ∧ Ext w w') (one_new (Ext.refl _)) ?_
  rintro W1 ⟨h1, x1⟩
  unfold ExAt Ex.arr at h1
  have q1 := fun j => cell_of_row W1 _ j _ _ _ h1
  have l1 : w.heap.size < W1.heap.size := (Array.getElem?_eq_some_iff.1 h1).1
  have HX1 := Lib.hid x1
  clear x1 h1
  go_wp2_with (go_at_call 117; refine (HE.out _).mono ?_; rintro e w2 ⟨vr, rfl, hv, hx⟩; have hx2 := (Ext.alloc (Ext.refl W1) _).trans hx; obtain ⟨a, cap, rfl, hm, hvw⟩ := own_view hv; have HV := Lib.hid hvw; have HX2 := Lib.hid hx2; unfold maxLen at hm; clear hvw hv hx hx2)
  refine wp_forget (fun w' => w2 = w') rfl ?_
  rintro _ rfl
  go_loopg [5, 21] L.length (fun g l ii wr => ∃ (n : Nat) (M : List Lt) (y : ExtOf w2), ii = .int .i64 (n : Int) ∧ n + g = L.length ∧ wr = y.val ∧ Hid (M.length ≤ n ∧ M ++ ((L.drop n).filter evB).map (·.l) = (L.filter evB).map (·.l)) ∧ Hid (Own wr w2.heap.size M l))
  case atStart => exact ⟨0, [], ⟨w2, Ext.refl _⟩, rfl, by omega, rfl, Lib.hid ⟨by simp, by simp⟩, Lib.hid (World.ownsRow_nil _ _ _ _)⟩
  case round =>
    obtain ⟨n, M, y, rfl, hg, rfl, HN, HOwn⟩ := hrel
    by_cases hlt : n < L.length
    · obtain ⟨g, rfl, _, hgl, hcell⟩ := HV.out (by omega)
      obtain ⟨z, hx⟩ : ∃ x, L[n]? = some x := ⟨_, List.getElem?_eq_getElem hlt⟩
      obtain ⟨q0, q1, q2, q3, q4, q5, q6, q7⟩ := ev_cells hcell hx
      have HX := Lib.hid hx
      clear hx hcell
      have hlt' : (n : Int) < (L.length : Int) := by omega
      have hMl : M.length ≤ n := HN.out.1
      have hW1 : w2.heap.size ≤ y.val.heap.size := y.ext.size
      rcases h2 : (z.k == 2)
      · have HB : Hid (evB z = false) := Lib.hid h2
        go_wp2_with fail
        go_roundg (gk - 1)
        case rel =>
          refine ⟨n + 1, M, ⟨_, y.ext.alloc _⟩, rfl, by omega, rfl, Lib.hid ⟨by omega, ?_⟩, Lib.hid (HOwn.out.ext ((Ext.refl _).alloc _))⟩
          have hh := HN.out.2
          rw [List.drop_eq_getElem_cons hlt, List.filter_cons] at hh
          have hz := (List.getElem?_eq_some_iff.1 HX.out).2
          rw [hz, HB.out] at hh
          simpa using hh
        case measure => omega
      · have HB : Hid (evB z = true) := Lib.hid h2
        go_wp2_with (at_builtin; refine wpList_app w2.heap.size 31 24 i0 _ 5 48 Tryz.underlying31 hi hz0 hz1 hz2 rfl (by decide) rfl _ _ rfl _ M.length _ rfl (own_ext HOwn.out (((Ext.refl y.val).alloc _).alloc _)) (Nat.le_trans y.ext.size (((Ext.refl y.val).alloc _).alloc _).size) (y.val.heap.size + 1) 1 1 _ rfl (heap_new (by simp)) rfl (by simp [Value.oneCell']) (by unfold maxLen; omega) (by omega) ?_; intro v2 w3 hv2 hb2 _)
        go_roundg (gk - 1)
        case rel =>
          refine ⟨n + 1, M ++ [z.l], ⟨w3, ((y.ext.alloc _).alloc _).trans' hb2⟩, rfl, by omega, rfl, Lib.hid ⟨by simp; omega, ?_⟩, Lib.hid (by simpa [Own, Lt.cs] using hv2)⟩
          have hh := HN.out.2
          rw [List.drop_eq_getElem_cons hlt, List.filter_cons] at hh
          have hz := (List.getElem?_eq_some_iff.1 HX.out).2
          rw [hz, HB.out] at hh
          simpa using hh
        case measure => omega
    · have hge : (L.length : Int) ≤ (n : Int) := by omega
      go_wp2_with fail
      go_ret
      have hh := HN.out.2
      rw [List.drop_eq_nil_of_le (by omega), List.filter_nil, List.map_nil, List.append_nil] at hh
      have hO := HOwn.out
      rw [hh] at hO
      unfold Own at hO
      rw [List.length_map] at hO
      exact ⟨_, rfl, own_base hO (Nat.le_trans HX1.out.size HX2.out.size), HX1.out.trans (HX2.out.trans y.ext)⟩

def lk1 (c : Int) (t : ByteArray) (k : Int) : Lt := ⟨k, 0, c, if k = 5 then { data := #[] } else t, false⟩
theorem lines1 (evs : St → List Ev) (x : Ex) : linesS evs x 1 = [(1 : Int), 2, 5, 6].map (lk1 x.s1.c x.s1.t) := by simp [linesS, lk1]

set_option maxRecDepth 100000 in
set_option maxHeartbeats 3200000 in
theorem wa_1 (x : Ex) (v : Value) (w : World) : Calls Tryz.prog 85 #[.agg (x.arr v), .int .i64 1] w (Made w 24 5 (linesS evsS x 1).length ((linesS evsS x 1).flatMap Lt.cs)) := by
  obtain ⟨i0, hi, hz0, hz1, hz2⟩ := info_parts info_letter
  rw [lines1]
  go_enter Tryz.func85, Tryz.ntmps85
  go_upto_region 1 with fail
  refine wp_forget (fun w' => ExAt w' w.heap.size x v ∧ Ext w w') (one_new (Ext.refl _)) ?_
  rintro W1 ⟨h1, x1⟩
  unfold ExAt Ex.arr at h1
  have q1 := fun j => cell_of_row W1 _ j _ _ _ h1
  have l1 : w.heap.size < W1.heap.size := (Array.getElem?_eq_some_iff.1 h1).1
  have HX1 := Lib.hid x1
  clear x1 h1
  go_wp2_with fail
  refine wp_forget (fun w' => ∃ gs gk, gs = W1.heap.size ∧ gk = W1.heap.size + 1 ∧ w'.heap[gs]? = some (.cells #[.int .i64 x.s1.r, .int .u64 x.s1.c, .string x.s1.t, .int .i64 x.s1.ph, .int .i64 x.s1.p.k, .int .i64 x.s1.p.f, .int .u64 x.s1.p.c, .string x.s1.p.t, .bool x.s1.p.b] 26 (0, 0)) ∧ w'.heap[gk]? = some (.cells #[.int .i64 1, .int .i64 2, .int .i64 5, .int .i64 6] 3 (0, 0)) ∧ Ext w w') ⟨_, _, rfl, rfl, heap_ext (heap_new rfl) ((Ext.refl _).alloc _), heap_new (by simp), (HX1.out.alloc _).alloc _⟩ ?_
  clear q1 l1
  rintro W2 ⟨gs, gq, hgs, hgq, h2, h3, x2⟩
  rw [← hgq, ← hgs]
  clear hgq hgs HX1
  have q2 := fun j => cell_of_row W2 _ j _ _ _ h2
  have q3 := fun j => cell_of_row W2 _ j _ _ _ h3
  have l2 : gs < W2.heap.size := (Array.getElem?_eq_some_iff.1 h2).1
  have l3 : gq < W2.heap.size := (Array.getElem?_eq_some_iff.1 h3).1
  have HX2 := Lib.hid x2
  clear x2 h2 h3
  go_loopg [5, 37] 4 (fun g l ii wr => ∃ (n : Nat) (y : ExtOf W2), ii = .int .i64 (n : Int) ∧ n + g = 4 ∧ wr = y.val ∧ Hid (Own wr W2.heap.size (([(1 : Int), 2, 5, 6].take n).map (lk1 x.s1.c x.s1.t)) l))
  case atStart => exact ⟨0, ⟨W2, Ext.refl _⟩, rfl, by omega, rfl, Lib.hid (World.ownsRow_nil _ _ _ _)⟩
  case round =>
    obtain ⟨n, y, rfl, hg, rfl, HOwn⟩ := hrel
    have hW1 : W2.heap.size ≤ y.val.heap.size := y.ext.size
    obtain rfl | rfl | rfl | rfl | rfl : n = 0 ∨ n = 1 ∨ n = 2 ∨ n = 3 ∨ n = 4 := by omega
    · go_wp2_with (at_builtin; refine wpList_app W2.heap.size 31 24 i0 _ 5 48 Tryz.underlying31 hi hz0 hz1 hz2 rfl (by decide) rfl _ _ rfl _ 0 _ rfl (own_ext HOwn.out (((Ext.refl y.val).alloc _).alloc _)) (Nat.le_trans y.ext.size (((Ext.refl y.val).alloc _).alloc _).size) (y.val.heap.size + 1) 1 1 _ rfl (heap_new (by simp)) rfl (by simp [Value.oneCell']) (by unfold maxLen; omega) (by omega) ?_; intro v2 w3 hv2 hb2 _)
      go_roundg 3
      case rel =>
        refine ⟨1, ⟨w3, ((y.ext.alloc _).alloc _).trans' hb2⟩, rfl, by omega, rfl, Lib.hid (by simpa [Own, Lt.cs, lk1] using hv2)⟩
      case measure => omega
    · go_wp2_with (at_builtin; refine wpList_app W2.heap.size 31 24 i0 _ 5 48 Tryz.underlying31 hi hz0 hz1 hz2 rfl (by decide) rfl _ _ rfl _ 1 _ rfl (own_ext HOwn.out (((Ext.refl y.val).alloc _).alloc _)) (Nat.le_trans y.ext.size (((Ext.refl y.val).alloc _).alloc _).size) (y.val.heap.size + 1) 1 1 _ rfl (heap_new (by simp)) rfl (by simp [Value.oneCell']) (by unfold maxLen; omega) (by omega) ?_; intro v2 w3 hv2 hb2 _)
      go_roundg 2
      case rel =>
        refine ⟨2, ⟨w3, ((y.ext.alloc _).alloc _).trans' hb2⟩, rfl, by omega, rfl, Lib.hid (by simpa [Own, Lt.cs, lk1] using hv2)⟩
      case measure => omega
    · go_wp2_with (at_builtin; refine wpList_app W2.heap.size 31 24 i0 _ 5 48 Tryz.underlying31 hi hz0 hz1 hz2 rfl (by decide) rfl _ _ rfl _ 2 _ rfl (own_ext HOwn.out (((Ext.refl y.val).alloc _).alloc _)) (Nat.le_trans y.ext.size (((Ext.refl y.val).alloc _).alloc _).size) (y.val.heap.size + 1) 1 1 _ rfl (heap_new (by simp)) rfl (by simp [Value.oneCell']) (by unfold maxLen; omega) (by omega) ?_; intro v2 w3 hv2 hb2 _)
      go_roundg 1
      case rel =>
        refine ⟨3, ⟨w3, ((y.ext.alloc _).alloc _).trans' hb2⟩, rfl, by omega, rfl, Lib.hid (by simpa [Own, Lt.cs, lk1] using hv2)⟩
      case measure => omega
    · go_wp2_with (at_builtin; refine wpList_app W2.heap.size 31 24 i0 _ 5 48 Tryz.underlying31 hi hz0 hz1 hz2 rfl (by decide) rfl _ _ rfl _ 3 _ rfl (own_ext HOwn.out (((Ext.refl y.val).alloc _).alloc _)) (Nat.le_trans y.ext.size (((Ext.refl y.val).alloc _).alloc _).size) (y.val.heap.size + 1) 1 1 _ rfl (heap_new (by simp)) rfl (by simp [Value.oneCell']) (by unfold maxLen; omega) (by omega) ?_; intro v2 w3 hv2 hb2 _)
      go_roundg 0
      case rel =>
        refine ⟨4, ⟨w3, ((y.ext.alloc _).alloc _).trans' hb2⟩, rfl, by omega, rfl, Lib.hid (by simpa [Own, Lt.cs, lk1] using hv2)⟩
      case measure => omega
    · go_wp2_with fail
      go_ret
      have hO := HOwn.out
      exact ⟨_, rfl, own_base hO HX2.out.size, HX2.out.trans y.ext⟩
theorem mo_waited (x : Ex) (v : Value) (who : Int) (w : World) (hw : who = 0 ∨ who = 1) : Calls Tryz.prog 85 #[.agg (x.arr v), .int .i64 who] w (Made w 24 5 (linesS evsS x who).length ((linesS evsS x who).flatMap Lt.cs)) := by
  rcases hw with rfl | rfl
  · exact wa_0 x v w
  · exact wa_1 x v w
end Go.Proofs.YtlnmhocehgmbbaaGreatDoor

/-
  Walk: a letter is heard. No condition.
-/
namespace Go.Proofs.YtlnmhocehgmbbaaGreatDoor
open Go.RowKit
attribute [local go_sem ↓] eql_lEq eql_sEq eql_eEq eql_oEq neq_lEq neq_sEq neq_eEq neq_oEq eql_vEq neq_vEq eql_nil
attribute [local go_sem] ExtOf.cell ExtOf.frozen ExtOf.lt ExtOf.le ButOf.cell0 ButOf.frozen0
attribute [local go_sem high] ExtOf.cell2 ExtOf.frozen2 ExtOf.lt2 ExtOf.cell3 ExtOf.frozen3 ExtOf.lt3 ExtOf.cellX ExtOf.frozenX ExtOf.cellX' ExtOf.frozenX'

/-- The cells of a move. -/
def Mv.arr (m : Mv) : Array Value := #[.int .i64 m.k, .int .i64 m.who, .string m.t, .int .i64 m.l.k, .int .i64 m.l.f, .int .u64 m.l.c, .string m.l.t, .bool m.l.b, .bool m.lost]

/-- Behind hears: the exchange in its block, what was heard in the row. -/
def Heard1 (B gx : Nat) (x : Ex) (v : Value) (w w' : World) : Prop :=
  ∃ v', ExAt w' gx x v' ∧ Own w' B x.h v' ∧ Keeps (gx :: rowB v) w w' ∧ ∀ g ∈ rowB v', g ∈ rowB v ∨ w.heap.size ≤ g
theorem Heard1.ext {B gx : Nat} {x : Ex} {v : Value} {w a b : World} (h : Heard1 B gx x v w a) (e : Ext a b) : Heard1 B gx x v w b := by
  obtain ⟨v', h1, h2, h3, h4⟩ := h
  exact ⟨v', h1.ext e, h2.ext e, h3.ext e, h4⟩
theorem heard_same {B gx : Nat} {x : Ex} {v : Value} {w w' : World} (hX : ExAt w gx x v) (hO : Own w B x.h v) (e : Ext w w') : Heard1 B gx x v w w' :=
  ⟨v, hX.ext e, hO.ext e, (Keeps.refl _ w).ext e, fun _ h => .inl h⟩
theorem arr_h (x : Ex) (v : Value) (h : List Lt) : ({ x with h := h } : Ex).arr v = x.arr v := rfl
theorem hear_skip {h : List Lt} {lost : Bool} {l : Lt} (hc : lost = true ∨ l ∈ h) : hearS h lost l = h := by unfold hearS; rw [if_pos hc]
theorem hear_add {h : List Lt} {l : Lt} (hc : l ∉ h) : hearS h false l = h ++ [l] := by unfold hearS; rw [if_neg (by rintro (h1 | h1); cases h1; exact hc h1)]

set_option maxRecDepth 100000 in
set_option maxHeartbeats 3200000 in
/-- Nothing new is heard. -/
theorem mo_hears0 (B gx gl : Nat) (x : Ex) (v : Value) (m : Mv) (l : Lt) (w : World) (hX : ExAt w gx x v) (hO : Own w B x.h v) (hl : LtAt w gl l) (hc : m.lost = true ∨ (m.lost = false ∧ l ∈ x.h)) :
    Calls Tryz.prog 71 #[.pointer (some ⟨gx, 0, none⟩), .agg m.arr, .slice (some ⟨gl, 0, none⟩) 1 1] w fun e w' => e = .returned (.tuple #[]) ∧ Ext w w' := by
  have HX := Lib.hid hX
  have HL := Lib.hid hl
  have HR := Lib.hid hO.row
  clear hX hO hl
  have hco := fun w' (hw : Ext w w') => sl_contains v x.h l w' (Row.ext HR.out hw)
  unfold Mv.arr
  rcases hc with hc | ⟨hc, hm⟩
  · have HC := Lib.hid hc
    clear hc hco HR
    go_enter Tryz.func71, Tryz.ntmps71
    go_wp2_with fail
    refine wp_forget (fun w' => w'.heap[w.heap.size]? = some (.cells m.arr 52 (0, 0)) ∧ Ext w w') ⟨heap_new rfl, (Ext.refl _).alloc _⟩ ?_
    rintro W1 ⟨h1, e1⟩
    have HM1 := Lib.hid h1
    have HE1 := Lib.hid e1
    clear h1 e1
    go_loopg [10] 1 (fun g ii wr => ∃ y : ExtOf W1, wr = y.val ∧ ((g = 1 ∧ ii = .int .i64 0) ∨ (g = 0 ∧ ii = .int .i64 1)))
    case atStart => exact ⟨⟨_, Ext.refl _⟩, rfl, .inl ⟨rfl, rfl⟩⟩
    case round =>
      obtain ⟨y, rfl, ⟨rfl, rfl⟩ | ⟨rfl, rfl⟩⟩ := hrel
      · have ql := fun j => cell_of_row y.val _ j _ _ _ (HL.out.ext (HE1.out.val y))
        go_wp2_with fail
        refine wp_forget (fun w' => LtAt w' y.val.heap.size l ∧ Ext y.val w') ⟨heap_new rfl, (Ext.refl _).alloc _⟩ ?_
        rintro W2 ⟨h2, e2⟩
        have hm2 := heap_ext HM1.out (y.ext.trans e2)
        unfold Mv.arr at hm2
        have qm := fun j => cell_of_row W2 _ j _ _ _ hm2
        have qt := fun j => cell_of_row W2 _ j _ _ _ h2
        have lm : w.heap.size < W2.heap.size := (Array.getElem?_eq_some_iff.1 hm2).1
        have lt2 : y.val.heap.size < W2.heap.size := (Array.getElem?_eq_some_iff.1 h2).1
        have hv2 : W2.cell? ⟨gx, 25, none⟩ = some v := by rw [cell_of_row _ _ _ _ _ _ (HX.out.ext ((HE1.out.val y).trans e2))]; rfl
        have lx2 : gx < W2.heap.size := (Array.getElem?_eq_some_iff.1 (HX.out.ext ((HE1.out.val y).trans e2))).1
        have HE2 := Lib.hid e2
        clear hm2 h2 e2 ql
        have hlost := HC.out
        refine wp_region_ext (by kernel_rfl) (by kernel_rfl) ?_
        repeat (go_big_quiet_step (fail))
        refine wpQuiet_nil ?_
        intro _ hx'
        obtain ⟨z, rfl⟩ := hx'
        go_wp2_with fail
        go_roundg 0
        case rel => exact ⟨⟨z.val, (y.ext.trans HE2.out).val z⟩, rfl, .inr ⟨rfl, rfl⟩⟩
        case measure => omega
      · go_wp2_with fail
        exact ⟨rfl, .tuple #[], by simp [results, go_sem], rfl, HE1.out.val y⟩
  · rw [decide_eq_true hm] at hco
    have HCo := Lib.hid hco
    have HC := Lib.hid hc
    clear hc hco HR hm
    go_enter Tryz.func71, Tryz.ntmps71
    go_wp2_with fail
    refine wp_forget (fun w' => w'.heap[w.heap.size]? = some (.cells m.arr 52 (0, 0)) ∧ Ext w w') ⟨heap_new rfl, (Ext.refl _).alloc _⟩ ?_
    rintro W1 ⟨h1, e1⟩
    have HM1 := Lib.hid h1
    have HE1 := Lib.hid e1
    clear h1 e1
    go_loopg [10] 1 (fun g ii wr => ∃ y : ExtOf W1, wr = y.val ∧ ((g = 1 ∧ ii = .int .i64 0) ∨ (g = 0 ∧ ii = .int .i64 1)))
    case atStart => exact ⟨⟨_, Ext.refl _⟩, rfl, .inl ⟨rfl, rfl⟩⟩
    case round =>
      obtain ⟨y, rfl, ⟨rfl, rfl⟩ | ⟨rfl, rfl⟩⟩ := hrel
      · have ql := fun j => cell_of_row y.val _ j _ _ _ (HL.out.ext (HE1.out.val y))
        go_wp2_with fail
        refine wp_forget (fun w' => LtAt w' y.val.heap.size l ∧ Ext y.val w') ⟨heap_new rfl, (Ext.refl _).alloc _⟩ ?_
        rintro W2 ⟨h2, e2⟩
        have hm2 := heap_ext HM1.out (y.ext.trans e2)
        unfold Mv.arr at hm2
        have qm := fun j => cell_of_row W2 _ j _ _ _ hm2
        have qt := fun j => cell_of_row W2 _ j _ _ _ h2
        have lm : w.heap.size < W2.heap.size := (Array.getElem?_eq_some_iff.1 hm2).1
        have lt2 : y.val.heap.size < W2.heap.size := (Array.getElem?_eq_some_iff.1 h2).1
        have hv2 : W2.cell? ⟨gx, 25, none⟩ = some v := by rw [cell_of_row _ _ _ _ _ _ (HX.out.ext ((HE1.out.val y).trans e2))]; rfl
        have lx2 : gx < W2.heap.size := (Array.getElem?_eq_some_iff.1 (HX.out.ext ((HE1.out.val y).trans e2))).1
        have HE2 := Lib.hid e2
        clear hm2 h2 e2 ql
        have hlost := HC.out
        refine wp_region_ext (by kernel_rfl) (by kernel_rfl) ?_
        repeat (go_big_quiet_step ((go_at_call 90; exact calls_ext (HCo.out _ (((HE1.out.val y).trans HE2.out).val _)))))
        refine wpQuiet_nil ?_
        intro _ hx'
        obtain ⟨z, rfl⟩ := hx'
        go_wp2_with fail
        go_roundg 0
        case rel => exact ⟨⟨z.val, (y.ext.trans HE2.out).val z⟩, rfl, .inr ⟨rfl, rfl⟩⟩
        case measure => omega
      · go_wp2_with fail
        exact ⟨rfl, .tuple #[], by simp [results, go_sem], rfl, HE1.out.val y⟩

set_option maxRecDepth 100000 in
set_option maxHeartbeats 6400000 in
/-- A letter is heard that was not. -/
theorem mo_hears1 (B gx gl : Nat) (x : Ex) (v : Value) (m : Mv) (l : Lt) (w : World) (hX : ExAt w gx x v) (hO : Own w B x.h v) (hl : LtAt w gl l) (hlost : m.lost = false) (hm : l ∉ x.h)
    (hB : gx < B) (hBw : B ≤ w.heap.size) (hn : x.h.length ≤ 100000) :
    Calls Tryz.prog 71 #[.pointer (some ⟨gx, 0, none⟩), .agg m.arr, .slice (some ⟨gl, 0, none⟩) 1 1] w fun e w' => e = .returned (.tuple #[]) ∧ Heard1 B gx { x with h := x.h ++ [l] } v w w' := by
  obtain ⟨ti0, hi, hz0, hz1, hz2⟩ := info_parts info_letter
  have HX := Lib.hid hX
  have HL := Lib.hid hl
  have hO' : w.ownsRow B 24 5 v x.h.length (x.h.flatMap Lt.cs) := hO
  have HO := Lib.hid hO'
  clear hO'
  have HR := Lib.hid hO.row
  clear hX hO hl
  have hco := fun w' (hw : Ext w w') => sl_contains v x.h l w' (Row.ext HR.out hw)
  unfold Mv.arr
  rw [decide_eq_false hm] at hco
  have HCo := Lib.hid hco
  have HC := Lib.hid hlost
  clear hlost hco HR hm
  go_enter Tryz.func71, Tryz.ntmps71
  go_wp2_with fail
  refine wp_forget (fun w' => w'.heap[w.heap.size]? = some (.cells m.arr 52 (0, 0)) ∧ Ext w w') ⟨heap_new rfl, (Ext.refl _).alloc _⟩ ?_
  rintro W1 ⟨h1, e1⟩
  have HM1 := Lib.hid h1
  have HE1 := Lib.hid e1
  clear h1 e1
  go_loopg [10] 1 (fun g ii wr => (g = 1 ∧ ii = .int .i64 0 ∧ wr = W1) ∨ (g = 0 ∧ ii = .int .i64 1 ∧ Hid (Heard1 B gx { x with h := x.h ++ [l] } v w wr)))
  case atStart => exact .inl ⟨rfl, rfl, rfl⟩
  case round =>
    obtain ⟨rfl, rfl, rfl⟩ | ⟨rfl, rfl, HD⟩ := hrel
    · have ql := fun j => cell_of_row wr _ j _ _ _ (HL.out.ext HE1.out)
      go_wp2_with fail
      refine wp_forget (fun w' => LtAt w' wr.heap.size l ∧ Ext wr w') ⟨heap_new rfl, (Ext.refl _).alloc _⟩ ?_
      rintro W2 ⟨h2, e2⟩
      have hm2 := heap_ext HM1.out e2
      unfold Mv.arr at hm2
      have qm := fun j => cell_of_row W2 _ j _ _ _ hm2
      have qt := fun j => cell_of_row W2 _ j _ _ _ h2
      have lm : w.heap.size < W2.heap.size := (Array.getElem?_eq_some_iff.1 hm2).1
      have lt2 : wr.heap.size < W2.heap.size := (Array.getElem?_eq_some_iff.1 h2).1
      have hv2 : W2.cell? ⟨gx, 25, none⟩ = some v := by rw [cell_of_row _ _ _ _ _ _ (HX.out.ext (HE1.out.trans e2))]; rfl
      have lx2 : gx < W2.heap.size := (Array.getElem?_eq_some_iff.1 (HX.out.ext (HE1.out.trans e2))).1
      have HE2 := Lib.hid e2
      have HT2 := Lib.hid h2
      clear hm2 h2 e2 ql
      have hlost := HC.out
      refine wp_region_ext (by kernel_rfl) (by kernel_rfl) ?_
      repeat (go_big_quiet_step ((go_at_call 90; exact calls_ext (HCo.out _ ((HE1.out.trans HE2.out).val _)))))
      refine wpQuiet_nil ?_
      intro _ hx'
      obtain ⟨z, rfl⟩ := hx'
      go_wp2_with fail
      refine wp_forget (fun w' => LtAt w' wr.heap.size l ∧ ExAt w' gx x v ∧ Ext w w') ⟨HT2.out.ext z.ext, HX.out.ext ((HE1.out.trans HE2.out).val z), (HE1.out.trans HE2.out).val z⟩ ?_
      rintro W3 ⟨h3, hx3, e3⟩
      clear qm qt lm lt2 hv2 lx2 hlost z
      have qt := fun j => cell_of_row W3 _ j _ _ _ h3
      have lt3 : wr.heap.size < W3.heap.size := (Array.getElem?_eq_some_iff.1 h3).1
      have hv3 : W3.cell? ⟨gx, 25, none⟩ = some v := by rw [cell_of_row _ _ _ _ _ _ hx3]; rfl
      have lx3 : gx < W3.heap.size := (Array.getElem?_eq_some_iff.1 hx3).1
      have HE3 := Lib.hid e3
      have HX3 := Lib.hid hx3
      have lw : w.heap.size < wr.heap.size := (Array.getElem?_eq_some_iff.1 HM1.out).1
      clear h3 hx3 e3
      rcases HO.out.2 with ⟨hv, hn0⟩ | ⟨g, cap, cur, hv, hbg, hg, hnc, hcm, hcs, htk⟩
      · subst hv
        clear hn0
        refine wp_region_late (af := ?af1) [true, true, true, true, true, true, false, false, false, false, false] [false, false, false, false, false, false, false, false, true, true, true] 37 (fun w' => W3.grownBy w' none) (by kernel_rfl) rfl (by kernel_rfl) (fun _ _ h e => non_ext h e) (non_of (Ext.refl W3).drew) ?q ?r
        case q =>
          intro w' hw'
          obtain ⟨y3, rfl⟩ : ∃ y3 : ExtOf W3, w' = y3.val := ⟨⟨w', ext_grown hw'⟩, rfl⟩
          simp only [pickT, if_true, if_false, Bool.false_eq_true]
          repeat (go_big_quiet_step (fail))
          exact rfl
        case r =>
          simp only [pickN, if_true, if_false, Bool.false_eq_true]
          intro x1
          have e1 : Ext W3 x1.val := (Ext.refl _).drew.val x1
          go_wp2_with fail
          refine ⟨fun _ => non_of (e1.alloc _), ?_⟩
          intro x2
          have e2 : Ext W3 x2.val := (e1.alloc _).val x2
          go_wp2_with (at_builtin; refine unHd ?_)
          unfold Hd2
          have hbx2 : B ≤ x2.val.heap.size := by have := HE3.out.size; have := e2.size; omega
          refine wpList_app5 B 31 24 ti0 _ 5 48 Tryz.underlying31 hi hz0 hz1 hz2 rfl (by decide) rfl _ _ rfl _ x.h.length _ rfl (own_ext HO.out (HE3.out.trans e2)) hbx2 x1.val.heap.size 1 1 #[.int .i64 l.k, .int .i64 l.f, .int .u64 l.c, .string l.t, .bool l.b] (by decide) rfl (heap_ext (heap_new rfl) x2.ext) rfl (by simp [Value.oneCell']) (by unfold maxLen; omega) (by omega) ?_
          intro v2 w2 hown2 hg2 hr2
          obtain ⟨g2, cap2, rfl⟩ : ∃ g2 cap2, v2 = .slice (some ⟨g2, 0, none⟩) (x.h.length + 1) cap2 := by
            rcases hown2.2 with ⟨_, h0⟩ | ⟨g2, cap2, _, h0, _⟩
            · omega
            · exact ⟨g2, cap2, h0⟩
          have c2 : W3.grownBy w2 none := but_trans (non_of (e2)) hg2
          refine ⟨c2, ?_⟩
          intro x3
          go_wp2_with fail
          try refine ⟨fun h => absurd h (by decide), ?_⟩
          intro x4
          go_wp2_with fail
          try refine ⟨fun h => absurd h (by decide), ?_⟩
          intro x5
          have c5 : W3.grownBy x5.val none := non_ext c2 ((x3.ext.trans x4.ext).trans x5.ext)
          have hb5 : ExAt x5.val gx x (.slice none 0 0) := (c5.block gx lx3 (by simp)).trans HX3.out
          have o5 := own_ext hown2 ((x3.ext.trans x4.ext).trans x5.ext)
          have hcb5 := fun j => cell_of_row x5.val _ j _ _ _ hb5
          have hfb5 := fun j => frozen_of_row x5.val _ j _ _ hb5
          unfold Ex.arr at hcb5
          generalize x5.val = w5 at c5 hb5 o5 hcb5 hfb5 ⊢
          have HB5 := Lib.hid hb5
          clear hb5
          go_wp2_with fail
          try refine ⟨fun h => absurd h (by decide), ?_⟩
          intro x6
          go_wp2_with fail
          go_roundg 0
          case rel =>
            refine .inr ⟨rfl, rfl, Lib.hid ⟨.slice (some ⟨g2, 0, none⟩) (x.h.length + 1) cap2, ?_, ?_, ?_, fun k hk => (hr2 k hk).imp id (fun h => by have := HE3.out.size; have := e2.size; omega)⟩⟩
            · exact heap_ext (setCell_row HB5.out _) x6.ext
            · have := own_ext (own_same o5 (fun k hk _ => cell_other (o := 25) (v := .slice (some ⟨g2, 0, none⟩) (x.h.length + 1) cap2) (show k ≠ gx by omega))) x6.ext
              simpa [Own, Lt.cs] using this
            · exact ((keeps_grown ((Keeps.refl _ w).ext HE3.out) (v := .slice none 0 0) c5 (fun _ h => List.mem_cons_of_mem _ h)).setCell (.inl (.head _)) 25 _).ext x6.ext
          case measure => omega
      · subst hv
        have lg : g < w.heap.size := (Array.getElem?_eq_some_iff.1 hg).1
        have n1 : gx < g := by omega
        have n2 : g < wr.heap.size := by omega
        clear hg hnc hcm hcs htk
        refine wp_region_late (af := ?af2) [true, true, true, true, true, true, false, false, false, false, false] [false, false, false, false, false, false, false, false, true, true, true] 37 (fun w' => W3.grownBy w' (some g)) (by kernel_rfl) rfl (by kernel_rfl) (fun _ _ h e => but_ext h e) (but_ext (but_refl g W3) (Ext.refl W3).drew) ?q ?r
        case q =>
          intro w' hw'
          obtain ⟨y3, rfl⟩ : ∃ y3 : ButOf g W3, w' = y3.val := ⟨⟨w', hw'⟩, rfl⟩
          simp only [pickT, if_true, if_false, Bool.false_eq_true]
          repeat (go_big_quiet_step (fail))
          exact rfl
        case r =>
          simp only [pickN, if_true, if_false, Bool.false_eq_true]
          intro x1
          have e1 : Ext W3 x1.val := (Ext.refl _).drew.val x1
          go_wp2_with fail
          refine ⟨fun _ => but_ext (but_refl g W3) (e1.alloc _), ?_⟩
          intro x2
          have e2 : Ext W3 x2.val := (e1.alloc _).val x2
          go_wp2_with (at_builtin; refine unHd ?_)
          unfold Hd2
          have hbx2 : B ≤ x2.val.heap.size := by have := HE3.out.size; have := e2.size; omega
          refine wpList_app5 B 31 24 ti0 _ 5 48 Tryz.underlying31 hi hz0 hz1 hz2 rfl (by decide) rfl _ _ rfl _ x.h.length _ rfl (own_ext HO.out (HE3.out.trans e2)) hbx2 x1.val.heap.size 1 1 #[.int .i64 l.k, .int .i64 l.f, .int .u64 l.c, .string l.t, .bool l.b] (by decide) rfl (heap_ext (heap_new rfl) x2.ext) rfl (by simp [Value.oneCell']) (by unfold maxLen; omega) (by omega) ?_
          intro v2 w2 hown2 hg2 hr2
          obtain ⟨g2, cap2, rfl⟩ : ∃ g2 cap2, v2 = .slice (some ⟨g2, 0, none⟩) (x.h.length + 1) cap2 := by
            rcases hown2.2 with ⟨_, h0⟩ | ⟨g2, cap2, _, h0, _⟩
            · omega
            · exact ⟨g2, cap2, h0⟩
          have c2 : W3.grownBy w2 (some g) := but_trans (but_ext (but_refl g W3) (e2)) hg2
          refine ⟨c2, ?_⟩
          intro x3
          go_wp2_with fail
          try refine ⟨fun h => absurd h (by decide), ?_⟩
          intro x4
          go_wp2_with fail
          try refine ⟨fun h => absurd h (by decide), ?_⟩
          intro x5
          have c5 : W3.grownBy x5.val (some g) := but_ext c2 ((x3.ext.trans x4.ext).trans x5.ext)
          have hb5 : ExAt x5.val gx x (.slice (some ⟨g, 0, none⟩) x.h.length cap) := (c5.block gx lx3 (by simp; omega)).trans HX3.out
          have o5 := own_ext hown2 ((x3.ext.trans x4.ext).trans x5.ext)
          have hcb5 := fun j => cell_of_row x5.val _ j _ _ _ hb5
          have hfb5 := fun j => frozen_of_row x5.val _ j _ _ hb5
          unfold Ex.arr at hcb5
          generalize x5.val = w5 at c5 hb5 o5 hcb5 hfb5 ⊢
          have HB5 := Lib.hid hb5
          clear hb5
          go_wp2_with fail
          try refine ⟨fun h => absurd h (by decide), ?_⟩
          intro x6
          go_wp2_with fail
          go_roundg 0
          case rel =>
            refine .inr ⟨rfl, rfl, Lib.hid ⟨.slice (some ⟨g2, 0, none⟩) (x.h.length + 1) cap2, ?_, ?_, ?_, fun k hk => (hr2 k hk).imp id (fun h => by have := HE3.out.size; have := e2.size; omega)⟩⟩
            · exact heap_ext (setCell_row HB5.out _) x6.ext
            · have := own_ext (own_same o5 (fun k hk _ => cell_other (o := 25) (v := .slice (some ⟨g2, 0, none⟩) (x.h.length + 1) cap2) (show k ≠ gx by omega))) x6.ext
              simpa [Own, Lt.cs] using this
            · exact ((keeps_grown ((Keeps.refl _ w).ext HE3.out) (v := .slice (some ⟨g, 0, none⟩) x.h.length cap) c5 (fun _ h => List.mem_cons_of_mem _ h)).setCell (.inl (.head _)) 25 _).ext x6.ext
          case measure => omega
    · go_wp2_with fail
      exact ⟨rfl, .tuple #[], by simp [results, go_sem], rfl, HD.out⟩

/-- A letter comes: it is heard once, if it is not lost. -/
theorem mo_hears (B gx gl : Nat) (x : Ex) (v : Value) (m : Mv) (l : Lt) (w : World) (hX : ExAt w gx x v) (hO : Own w B x.h v) (hl : LtAt w gl l)
    (hB : gx < B) (hBw : B ≤ w.heap.size) (hn : x.h.length ≤ 100000) :
    Calls Tryz.prog 71 #[.pointer (some ⟨gx, 0, none⟩), .agg m.arr, .slice (some ⟨gl, 0, none⟩) 1 1] w fun e w' => e = .returned (.tuple #[]) ∧ Heard1 B gx { x with h := hearS x.h m.lost l } v w w' := by
  by_cases hc : m.lost = true ∨ l ∈ x.h
  · rw [hear_skip hc]
    refine (mo_hears0 B gx gl x v m l w hX hO hl ?_).mono fun e w' h => ⟨h.1, heard_same hX hO h.2⟩
    rcases hc with hc | hc
    · exact .inl hc
    · cases hm : m.lost
      · exact .inr ⟨rfl, hc⟩
      · exact .inl rfl
  · have hlost : m.lost = false := by
      cases hm : m.lost
      · rfl
      · exact absurd (.inl hm) hc
    have hm : l ∉ x.h := fun h => hc (.inr h)
    rw [hlost, hear_add hm]
    exact mo_hears1 B gx gl x v m l w hX hO hl hlost hm hB hBw hn
end Go.Proofs.YtlnmhocehgmbbaaGreatDoor
