/-
  Walks: a step's plain ways. No condition.
-/
import Derived.Test.YtodnfbfhdloogaaMS21
set_option linter.all false
namespace Go.Proofs.Ytodnfbfhdloogaa
open Go.RowKit
attribute [local go_sem ↓] eql_lEq eql_sEq eql_eEq eql_oEq neq_lEq neq_sEq neq_eEq neq_oEq eql_vEq neq_vEq eql_nil
attribute [local go_sem] ExtOf.cell ExtOf.frozen ExtOf.lt ExtOf.le
attribute [local go_sem high] ExtOf.cell2 ExtOf.frozen2 ExtOf.lt2 ExtOf.cell3 ExtOf.frozen3 ExtOf.lt3

theorem info_mv : (Try.prog.info? 41).map (·.size) = some 9 := by kernel_rfl

/-- What a step hands back. -/
def Stpd (w : World) (y : Ex) (ok : Bool) (e : Ending) (w' : World) : Prop :=
  ∃ v', e = .returned (.tuple #[.agg (y.arr v'), .bool ok]) ∧ Own w' w.heap.size y.h v' ∧ Ext w w'

set_option maxRecDepth 100000 in
set_option maxHeartbeats 3200000 in
theorem st_who (x : Ex) (v : Value) (m : Mv) (w : World) (B0 : Nat) (hO : Own w B0 x.h v) (hn : x.h.length ≤ 100000) (h4 : (m.k == 4) = false) (h6 : (m.k == 6) = false) (hw0 : (m.who != 0) = true) (hw1 : (m.who != 1) = true) : Calls Try.prog 7 #[.agg (x.arr v), .agg m.arr] w (Stpd w x false) := by
  obtain ⟨sa, sn, sc, hsv⟩ := own_slice hO
  have hv1 : v.oneCell' = true := by rw [hsv]; rfl
  have HO := Lib.hid hO
  clear hO hsv
  go_enter Try.func7, Try.ntmps7
  go_upto_region 1 with fail
  refine wp_forget (fun w' => ExAt w' w.heap.size x v ∧ w'.heap[w.heap.size + 1]? = some (.cells m.arr 41 (0, 0)) ∧ w'.heap[w.heap.size + 1 + 1]? = some (.cells #[.int .u64 0, .int .i64 0, .int .u64 0, .string { data := #[] }, .int .i64 0, .int .i64 0, .int .i64 0, .int .u64 0, .string { data := #[] }, .bool false, .int .i64 0, .int .u64 0, .string { data := #[] }, .int .i64 0, .int .i64 0, .int .i64 0, .int .u64 0, .string { data := #[] }, .bool false, .int .u64 0, .int .i64 0, .string { data := #[] }, .bool false, .bool false, .bool false, .slice none 0 0] 36 (0, 0)) ∧ Ext w w') (three_new (Ext.refl _)) ?_
  rintro W1 ⟨h1, h2, h3, e1⟩
  have HX1 := Lib.hid h1
  have HM1 := Lib.hid h2
  have HR1 := Lib.hid h3
  have HE1 := Lib.hid e1
  clear h1 h2 h3 e1
  go_upto_region 2 with (first
    | (refine wpList_load_row rfl 36 _ rfl _ rfl _ _ (0, 0) _ HX1.out Try.underlying36 rfl info_ex ?_)
    | (refine wpList_store_row rfl 36 _ _ rfl _ _ rfl rfl 36 _ (heap_new rfl) info_ex rfl (arr_one x hv1) ?_))
  refine wp_forget (fun w' => ExAt w' W1.heap.size x v ∧ Ext W1 w' ∧ W1.heap.size < w'.heap.size) ⟨setRow_heap _ _ _ _ _ _ (heap_new rfl), ((Ext.refl W1).alloc _).setRow (Nat.le_refl _) _, by simp⟩ ?_
  rintro W2 ⟨h1, e1, h2⟩
  have hl1 : w.heap.size + 1 + 1 < W1.heap.size := (Array.getElem?_eq_some_iff.1 HR1.out).1
  have qx2 : W2.cell? ⟨w.heap.size, 25, none⟩ = some v := by rw [cell_of_row _ _ _ _ _ _ (HX1.out.ext e1)]; rfl
  have lx2 : w.heap.size < W2.heap.size := by omega
  have HY2 := Lib.hid h1
  have HE2 := Lib.hid e1
  clear h1 e1
  have h2' := h2
  go_upto_region 3 with (go_at_call 18; refine (sl_clone v B0 x.h W2 (HO.out.ext (HE1.out.trans HE2.out)) hn).mono ?_; rintro e W3 ⟨v1, rfl, hown, hx⟩; obtain ⟨s1a, s1n, s1c, rfl⟩ := own_slice hown; have HO3 := Lib.hid hown; have hy3 := HY2.out.ext hx; have HY3 := Lib.hid hy3; unfold ExAt Ex.arr at hy3; have qy3 := fun j => cell_of_row W3 _ j _ _ _ hy3; have fy3 := fun j => frozen_of_row W3 _ j _ _ hy3; have ly3 : W1.heap.size < W3.heap.size := (Array.getElem?_eq_some_iff.1 hy3).1; have HE3 := Lib.hid hx; clear hown hx hy3)
  refine wp_forget (fun w' => ExAt w' W1.heap.size x (.slice s1a s1n s1c) ∧ Own w' W2.heap.size x.h (.slice s1a s1n s1c) ∧ Ext W1 w' ∧ W2.heap.size ≤ w'.heap.size) ⟨?a1, ?a2, ?a3, ?a4⟩ ?ar
  case a1 => exact setCell_row (o := 25) HY3.out _
  case a2 => exact own_same HO3.out fun k hk _ => cell_other (o := 25) (show k ≠ W1.heap.size by omega)
  case a3 => exact (HE2.out.trans HE3.out).setCell (Nat.le_refl _) _
  case a4 => simpa [World.setCell] using HE3.out.size
  rintro W4 ⟨h1, h3, h4, h5⟩
  have hx4 := HX1.out.ext h4
  unfold ExAt Ex.arr at hx4
  have qx4 := fun j => cell_of_row W4 _ j _ _ _ hx4
  have lx4 : w.heap.size < W4.heap.size := by omega
  have HY4 := Lib.hid h1
  have HO4 := Lib.hid h3
  have HE4 := Lib.hid h4
  clear h1 h3 h4 hx4 qy3 fy3 ly3 HO3 HY3 HE3 qx2 lx2 HY2
  go_upto_region 4 with fail
  refine wp_forget (fun w' => At4 w w' W2.heap.size W1.heap.size W4.heap.size x m v (.slice s1a s1n s1c) _) ⟨HX1.out.ext (HE4.out.alloc _), heap_ext HM1.out (HE4.out.alloc _), heap_ext HR1.out (HE4.out.alloc _), HY4.out.ext ((Ext.refl _).alloc _), HO4.out.ext ((Ext.refl _).alloc _), heap_new rfl, HE1.out.trans (HE4.out.alloc _), hl1, h2', h5, fun g hg => (own_rowB HO4.out g hg).2, rfl⟩ ?_
  clear qx4 lx4 HX1 HM1 HR1 HY4 HO4 HE4 HE2 HE1
  rintro W5 A4
  have hx5 := A4.hx
  unfold ExAt Ex.arr at hx5
  have qx := fun j => cell_of_row W5 _ j _ _ _ hx5
  have hm5 := A4.hm
  unfold Mv.arr at hm5
  have qm := fun j => cell_of_row W5 _ j _ _ _ hm5
  have hy5 := A4.hy
  unfold ExAt Ex.arr at hy5
  have qy := fun j => cell_of_row W5 _ j _ _ _ hy5
  have fy := fun j => frozen_of_row W5 _ j _ _ hy5
  have lx : w.heap.size < W5.heap.size := (Array.getElem?_eq_some_iff.1 hx5).1
  have lm : w.heap.size + 1 < W5.heap.size := (Array.getElem?_eq_some_iff.1 hm5).1
  have ly : W1.heap.size < W5.heap.size := (Array.getElem?_eq_some_iff.1 hy5).1
  clear hx5 hm5 hy5
  have HA := Lib.hid A4
  clear A4
  go_wp2_with (first | (refine wpList_load_row rfl 36 _ rfl _ rfl _ _ (0, 0) _ (HA.out.hy) Try.underlying36 rfl info_ex ?_) | (refine wpList_store_row rfl 36 _ _ rfl _ _ rfl rfl 36 _ (HA.out.hr) info_ex rfl (arr_one (x) rfl) ?_))
  refine bodyPost_ret (results_row_tmp rfl _ _ _ 36 _ (0, 0) _ rfl (setRow_heap _ _ _ _ _ _ (HA.out.hr)) Try.underlying36 rfl info_ex) rfl ?_
  exact ⟨_, rfl, own_setRow (own_base (b' := w.heap.size) (HA.out.ho) (by have := HA.out.hgy; have := HA.out.hB; omega)) (HA.out.hr) (by decide) _, Ext.setRow (HA.out.ext) (by omega) _⟩

set_option maxRecDepth 100000 in
set_option maxHeartbeats 3200000 in
theorem st_full (x : Ex) (v : Value) (m : Mv) (w : World) (B0 : Nat) (hO : Own w B0 x.h v) (hn : x.h.length ≤ 100000) (h4 : (m.k == 4) = false) (h6 : (m.k == 6) = true) : Calls Try.prog 7 #[.agg (x.arr v), .agg m.arr] w (Stpd w { x with full := true } true) := by
  obtain ⟨sa, sn, sc, hsv⟩ := own_slice hO
  have hv1 : v.oneCell' = true := by rw [hsv]; rfl
  have HO := Lib.hid hO
  clear hO hsv
  go_enter Try.func7, Try.ntmps7
  go_upto_region 1 with fail
  refine wp_forget (fun w' => ExAt w' w.heap.size x v ∧ w'.heap[w.heap.size + 1]? = some (.cells m.arr 41 (0, 0)) ∧ w'.heap[w.heap.size + 1 + 1]? = some (.cells #[.int .u64 0, .int .i64 0, .int .u64 0, .string { data := #[] }, .int .i64 0, .int .i64 0, .int .i64 0, .int .u64 0, .string { data := #[] }, .bool false, .int .i64 0, .int .u64 0, .string { data := #[] }, .int .i64 0, .int .i64 0, .int .i64 0, .int .u64 0, .string { data := #[] }, .bool false, .int .u64 0, .int .i64 0, .string { data := #[] }, .bool false, .bool false, .bool false, .slice none 0 0] 36 (0, 0)) ∧ Ext w w') (three_new (Ext.refl _)) ?_
  rintro W1 ⟨h1, h2, h3, e1⟩
  have HX1 := Lib.hid h1
  have HM1 := Lib.hid h2
  have HR1 := Lib.hid h3
  have HE1 := Lib.hid e1
  clear h1 h2 h3 e1
  go_upto_region 2 with (first
    | (refine wpList_load_row rfl 36 _ rfl _ rfl _ _ (0, 0) _ HX1.out Try.underlying36 rfl info_ex ?_)
    | (refine wpList_store_row rfl 36 _ _ rfl _ _ rfl rfl 36 _ (heap_new rfl) info_ex rfl (arr_one x hv1) ?_))
  refine wp_forget (fun w' => ExAt w' W1.heap.size x v ∧ Ext W1 w' ∧ W1.heap.size < w'.heap.size) ⟨setRow_heap _ _ _ _ _ _ (heap_new rfl), ((Ext.refl W1).alloc _).setRow (Nat.le_refl _) _, by simp⟩ ?_
  rintro W2 ⟨h1, e1, h2⟩
  have hl1 : w.heap.size + 1 + 1 < W1.heap.size := (Array.getElem?_eq_some_iff.1 HR1.out).1
  have qx2 : W2.cell? ⟨w.heap.size, 25, none⟩ = some v := by rw [cell_of_row _ _ _ _ _ _ (HX1.out.ext e1)]; rfl
  have lx2 : w.heap.size < W2.heap.size := by omega
  have HY2 := Lib.hid h1
  have HE2 := Lib.hid e1
  clear h1 e1
  have h2' := h2
  go_upto_region 3 with (go_at_call 18; refine (sl_clone v B0 x.h W2 (HO.out.ext (HE1.out.trans HE2.out)) hn).mono ?_; rintro e W3 ⟨v1, rfl, hown, hx⟩; obtain ⟨s1a, s1n, s1c, rfl⟩ := own_slice hown; have HO3 := Lib.hid hown; have hy3 := HY2.out.ext hx; have HY3 := Lib.hid hy3; unfold ExAt Ex.arr at hy3; have qy3 := fun j => cell_of_row W3 _ j _ _ _ hy3; have fy3 := fun j => frozen_of_row W3 _ j _ _ hy3; have ly3 : W1.heap.size < W3.heap.size := (Array.getElem?_eq_some_iff.1 hy3).1; have HE3 := Lib.hid hx; clear hown hx hy3)
  refine wp_forget (fun w' => ExAt w' W1.heap.size x (.slice s1a s1n s1c) ∧ Own w' W2.heap.size x.h (.slice s1a s1n s1c) ∧ Ext W1 w' ∧ W2.heap.size ≤ w'.heap.size) ⟨?a1, ?a2, ?a3, ?a4⟩ ?ar
  case a1 => exact setCell_row (o := 25) HY3.out _
  case a2 => exact own_same HO3.out fun k hk _ => cell_other (o := 25) (show k ≠ W1.heap.size by omega)
  case a3 => exact (HE2.out.trans HE3.out).setCell (Nat.le_refl _) _
  case a4 => simpa [World.setCell] using HE3.out.size
  rintro W4 ⟨h1, h3, h4, h5⟩
  have hx4 := HX1.out.ext h4
  unfold ExAt Ex.arr at hx4
  have qx4 := fun j => cell_of_row W4 _ j _ _ _ hx4
  have lx4 : w.heap.size < W4.heap.size := by omega
  have HY4 := Lib.hid h1
  have HO4 := Lib.hid h3
  have HE4 := Lib.hid h4
  clear h1 h3 h4 hx4 qy3 fy3 ly3 HO3 HY3 HE3 qx2 lx2 HY2
  go_upto_region 4 with fail
  refine wp_forget (fun w' => At4 w w' W2.heap.size W1.heap.size W4.heap.size x m v (.slice s1a s1n s1c) _) ⟨HX1.out.ext (HE4.out.alloc _), heap_ext HM1.out (HE4.out.alloc _), heap_ext HR1.out (HE4.out.alloc _), HY4.out.ext ((Ext.refl _).alloc _), HO4.out.ext ((Ext.refl _).alloc _), heap_new rfl, HE1.out.trans (HE4.out.alloc _), hl1, h2', h5, fun g hg => (own_rowB HO4.out g hg).2, rfl⟩ ?_
  clear qx4 lx4 HX1 HM1 HR1 HY4 HO4 HE4 HE2 HE1
  rintro W5 A4
  have hx5 := A4.hx
  unfold ExAt Ex.arr at hx5
  have qx := fun j => cell_of_row W5 _ j _ _ _ hx5
  have hm5 := A4.hm
  unfold Mv.arr at hm5
  have qm := fun j => cell_of_row W5 _ j _ _ _ hm5
  have hy5 := A4.hy
  unfold ExAt Ex.arr at hy5
  have qy := fun j => cell_of_row W5 _ j _ _ _ hy5
  have fy := fun j => frozen_of_row W5 _ j _ _ hy5
  have lx : w.heap.size < W5.heap.size := (Array.getElem?_eq_some_iff.1 hx5).1
  have lm : w.heap.size + 1 < W5.heap.size := (Array.getElem?_eq_some_iff.1 hm5).1
  have ly : W1.heap.size < W5.heap.size := (Array.getElem?_eq_some_iff.1 hy5).1
  clear hx5 hm5 hy5
  have HA := Lib.hid A4
  clear A4
  have hy' : ExAt (W5.setCell ⟨W1.heap.size, 24, none⟩ (.bool true)) W1.heap.size { x with full := true } (.slice s1a s1n s1c) := setCell_row HA.out.hy _
  have hr' := (cell_other (w := W5) (b := W1.heap.size) (o := 24) (v := .bool true) (show w.heap.size + 1 + 1 ≠ W1.heap.size by omega)).trans HA.out.hr
  have ho' := own_same HA.out.ho (w' := W5.setCell ⟨W1.heap.size, 24, none⟩ (.bool true)) fun k hk _ => cell_other (show k ≠ W1.heap.size by omega)
  have HY := Lib.hid hy'
  have HR := Lib.hid hr'
  have HO2 := Lib.hid ho'
  clear hy' hr' ho'
  go_wp2_with (first | (refine wpList_load_row rfl 36 _ rfl _ rfl _ _ (0, 0) _ (HY.out) Try.underlying36 rfl info_ex ?_) | (refine wpList_store_row rfl 36 _ _ rfl _ _ rfl rfl 36 _ (HR.out) info_ex rfl (arr_one ({ x with full := true }) rfl) ?_))
  refine bodyPost_ret (results_row_tmp rfl _ _ _ 36 _ (0, 0) _ rfl (setRow_heap _ _ _ _ _ _ (HR.out)) Try.underlying36 rfl info_ex) rfl ?_
  exact ⟨_, rfl, own_setRow (own_base (b' := w.heap.size) (HO2.out) (by have := HA.out.hgy; have := HA.out.hB; omega)) (HR.out) (by decide) _, Ext.setRow (HA.out.ext.setCell (by simp only []; omega) _) (by omega) _⟩

set_option maxRecDepth 100000 in
set_option maxHeartbeats 3200000 in
theorem st_bad0 (x : Ex) (v : Value) (m : Mv) (w : World) (B0 : Nat) (hO : Own w B0 x.h v) (hn : x.h.length ≤ 100000) (h4 : (m.k == 4) = false) (h6 : (m.k == 6) = false) (h5 : (m.k == 5) = true) (hw : m.who = 0) : Calls Try.prog 7 #[.agg (x.arr v), .agg m.arr] w (Stpd w { x with b0 := true } true) := by
  obtain ⟨sa, sn, sc, hsv⟩ := own_slice hO
  have hv1 : v.oneCell' = true := by rw [hsv]; rfl
  have HO := Lib.hid hO
  clear hO hsv
  go_enter Try.func7, Try.ntmps7
  go_upto_region 1 with fail
  refine wp_forget (fun w' => ExAt w' w.heap.size x v ∧ w'.heap[w.heap.size + 1]? = some (.cells m.arr 41 (0, 0)) ∧ w'.heap[w.heap.size + 1 + 1]? = some (.cells #[.int .u64 0, .int .i64 0, .int .u64 0, .string { data := #[] }, .int .i64 0, .int .i64 0, .int .i64 0, .int .u64 0, .string { data := #[] }, .bool false, .int .i64 0, .int .u64 0, .string { data := #[] }, .int .i64 0, .int .i64 0, .int .i64 0, .int .u64 0, .string { data := #[] }, .bool false, .int .u64 0, .int .i64 0, .string { data := #[] }, .bool false, .bool false, .bool false, .slice none 0 0] 36 (0, 0)) ∧ Ext w w') (three_new (Ext.refl _)) ?_
  rintro W1 ⟨h1, h2, h3, e1⟩
  have HX1 := Lib.hid h1
  have HM1 := Lib.hid h2
  have HR1 := Lib.hid h3
  have HE1 := Lib.hid e1
  clear h1 h2 h3 e1
  go_upto_region 2 with (first
    | (refine wpList_load_row rfl 36 _ rfl _ rfl _ _ (0, 0) _ HX1.out Try.underlying36 rfl info_ex ?_)
    | (refine wpList_store_row rfl 36 _ _ rfl _ _ rfl rfl 36 _ (heap_new rfl) info_ex rfl (arr_one x hv1) ?_))
  refine wp_forget (fun w' => ExAt w' W1.heap.size x v ∧ Ext W1 w' ∧ W1.heap.size < w'.heap.size) ⟨setRow_heap _ _ _ _ _ _ (heap_new rfl), ((Ext.refl W1).alloc _).setRow (Nat.le_refl _) _, by simp⟩ ?_
  rintro W2 ⟨h1, e1, h2⟩
  have hl1 : w.heap.size + 1 + 1 < W1.heap.size := (Array.getElem?_eq_some_iff.1 HR1.out).1
  have qx2 : W2.cell? ⟨w.heap.size, 25, none⟩ = some v := by rw [cell_of_row _ _ _ _ _ _ (HX1.out.ext e1)]; rfl
  have lx2 : w.heap.size < W2.heap.size := by omega
  have HY2 := Lib.hid h1
  have HE2 := Lib.hid e1
  clear h1 e1
  have h2' := h2
  go_upto_region 3 with (go_at_call 18; refine (sl_clone v B0 x.h W2 (HO.out.ext (HE1.out.trans HE2.out)) hn).mono ?_; rintro e W3 ⟨v1, rfl, hown, hx⟩; obtain ⟨s1a, s1n, s1c, rfl⟩ := own_slice hown; have HO3 := Lib.hid hown; have hy3 := HY2.out.ext hx; have HY3 := Lib.hid hy3; unfold ExAt Ex.arr at hy3; have qy3 := fun j => cell_of_row W3 _ j _ _ _ hy3; have fy3 := fun j => frozen_of_row W3 _ j _ _ hy3; have ly3 : W1.heap.size < W3.heap.size := (Array.getElem?_eq_some_iff.1 hy3).1; have HE3 := Lib.hid hx; clear hown hx hy3)
  refine wp_forget (fun w' => ExAt w' W1.heap.size x (.slice s1a s1n s1c) ∧ Own w' W2.heap.size x.h (.slice s1a s1n s1c) ∧ Ext W1 w' ∧ W2.heap.size ≤ w'.heap.size) ⟨?a1, ?a2, ?a3, ?a4⟩ ?ar
  case a1 => exact setCell_row (o := 25) HY3.out _
  case a2 => exact own_same HO3.out fun k hk _ => cell_other (o := 25) (show k ≠ W1.heap.size by omega)
  case a3 => exact (HE2.out.trans HE3.out).setCell (Nat.le_refl _) _
  case a4 => simpa [World.setCell] using HE3.out.size
  rintro W4 ⟨h1, h3, h4, h5⟩
  have hx4 := HX1.out.ext h4
  unfold ExAt Ex.arr at hx4
  have qx4 := fun j => cell_of_row W4 _ j _ _ _ hx4
  have lx4 : w.heap.size < W4.heap.size := by omega
  have HY4 := Lib.hid h1
  have HO4 := Lib.hid h3
  have HE4 := Lib.hid h4
  clear h1 h3 h4 hx4 qy3 fy3 ly3 HO3 HY3 HE3 qx2 lx2 HY2
  go_upto_region 4 with fail
  refine wp_forget (fun w' => At4 w w' W2.heap.size W1.heap.size W4.heap.size x m v (.slice s1a s1n s1c) _) ⟨HX1.out.ext (HE4.out.alloc _), heap_ext HM1.out (HE4.out.alloc _), heap_ext HR1.out (HE4.out.alloc _), HY4.out.ext ((Ext.refl _).alloc _), HO4.out.ext ((Ext.refl _).alloc _), heap_new rfl, HE1.out.trans (HE4.out.alloc _), hl1, h2', h5, fun g hg => (own_rowB HO4.out g hg).2, rfl⟩ ?_
  clear qx4 lx4 HX1 HM1 HR1 HY4 HO4 HE4 HE2 HE1
  rintro W5 A4
  have hx5 := A4.hx
  unfold ExAt Ex.arr at hx5
  have qx := fun j => cell_of_row W5 _ j _ _ _ hx5
  have hm5 := A4.hm
  unfold Mv.arr at hm5
  have qm := fun j => cell_of_row W5 _ j _ _ _ hm5
  have hy5 := A4.hy
  unfold ExAt Ex.arr at hy5
  have qy := fun j => cell_of_row W5 _ j _ _ _ hy5
  have fy := fun j => frozen_of_row W5 _ j _ _ hy5
  have lx : w.heap.size < W5.heap.size := (Array.getElem?_eq_some_iff.1 hx5).1
  have lm : w.heap.size + 1 < W5.heap.size := (Array.getElem?_eq_some_iff.1 hm5).1
  have ly : W1.heap.size < W5.heap.size := (Array.getElem?_eq_some_iff.1 hy5).1
  clear hx5 hm5 hy5
  have HA := Lib.hid A4
  clear A4
  have hy' : ExAt (W5.setCell ⟨W1.heap.size, 22, none⟩ (.bool true)) W1.heap.size { x with b0 := true } (.slice s1a s1n s1c) := setCell_row HA.out.hy _
  have hr' := (cell_other (w := W5) (b := W1.heap.size) (o := 22) (v := .bool true) (show w.heap.size + 1 + 1 ≠ W1.heap.size by omega)).trans HA.out.hr
  have ho' := own_same HA.out.ho (w' := W5.setCell ⟨W1.heap.size, 22, none⟩ (.bool true)) fun k hk _ => cell_other (show k ≠ W1.heap.size by omega)
  have HY := Lib.hid hy'
  have HR := Lib.hid hr'
  have HO2 := Lib.hid ho'
  clear hy' hr' ho'
  go_wp2_with (first | (refine wpList_load_row rfl 36 _ rfl _ rfl _ _ (0, 0) _ (HY.out) Try.underlying36 rfl info_ex ?_) | (refine wpList_store_row rfl 36 _ _ rfl _ _ rfl rfl 36 _ (HR.out) info_ex rfl (arr_one ({ x with b0 := true }) rfl) ?_))
  refine bodyPost_ret (results_row_tmp rfl _ _ _ 36 _ (0, 0) _ rfl (setRow_heap _ _ _ _ _ _ (HR.out)) Try.underlying36 rfl info_ex) rfl ?_
  exact ⟨_, rfl, own_setRow (own_base (b' := w.heap.size) (HO2.out) (by have := HA.out.hgy; have := HA.out.hB; omega)) (HR.out) (by decide) _, Ext.setRow (HA.out.ext.setCell (by simp only []; omega) _) (by omega) _⟩

set_option maxRecDepth 100000 in
set_option maxHeartbeats 3200000 in
theorem st_bad1 (x : Ex) (v : Value) (m : Mv) (w : World) (B0 : Nat) (hO : Own w B0 x.h v) (hn : x.h.length ≤ 100000) (h4 : (m.k == 4) = false) (h6 : (m.k == 6) = false) (h5 : (m.k == 5) = true) (hw : m.who = 1) : Calls Try.prog 7 #[.agg (x.arr v), .agg m.arr] w (Stpd w { x with b1 := true } true) := by
  obtain ⟨sa, sn, sc, hsv⟩ := own_slice hO
  have hv1 : v.oneCell' = true := by rw [hsv]; rfl
  have HO := Lib.hid hO
  clear hO hsv
  go_enter Try.func7, Try.ntmps7
  go_upto_region 1 with fail
  refine wp_forget (fun w' => ExAt w' w.heap.size x v ∧ w'.heap[w.heap.size + 1]? = some (.cells m.arr 41 (0, 0)) ∧ w'.heap[w.heap.size + 1 + 1]? = some (.cells #[.int .u64 0, .int .i64 0, .int .u64 0, .string { data := #[] }, .int .i64 0, .int .i64 0, .int .i64 0, .int .u64 0, .string { data := #[] }, .bool false, .int .i64 0, .int .u64 0, .string { data := #[] }, .int .i64 0, .int .i64 0, .int .i64 0, .int .u64 0, .string { data := #[] }, .bool false, .int .u64 0, .int .i64 0, .string { data := #[] }, .bool false, .bool false, .bool false, .slice none 0 0] 36 (0, 0)) ∧ Ext w w') (three_new (Ext.refl _)) ?_
  rintro W1 ⟨h1, h2, h3, e1⟩
  have HX1 := Lib.hid h1
  have HM1 := Lib.hid h2
  have HR1 := Lib.hid h3
  have HE1 := Lib.hid e1
  clear h1 h2 h3 e1
  go_upto_region 2 with (first
    | (refine wpList_load_row rfl 36 _ rfl _ rfl _ _ (0, 0) _ HX1.out Try.underlying36 rfl info_ex ?_)
    | (refine wpList_store_row rfl 36 _ _ rfl _ _ rfl rfl 36 _ (heap_new rfl) info_ex rfl (arr_one x hv1) ?_))
  refine wp_forget (fun w' => ExAt w' W1.heap.size x v ∧ Ext W1 w' ∧ W1.heap.size < w'.heap.size) ⟨setRow_heap _ _ _ _ _ _ (heap_new rfl), ((Ext.refl W1).alloc _).setRow (Nat.le_refl _) _, by simp⟩ ?_
  rintro W2 ⟨h1, e1, h2⟩
  have hl1 : w.heap.size + 1 + 1 < W1.heap.size := (Array.getElem?_eq_some_iff.1 HR1.out).1
  have qx2 : W2.cell? ⟨w.heap.size, 25, none⟩ = some v := by rw [cell_of_row _ _ _ _ _ _ (HX1.out.ext e1)]; rfl
  have lx2 : w.heap.size < W2.heap.size := by omega
  have HY2 := Lib.hid h1
  have HE2 := Lib.hid e1
  clear h1 e1
  have h2' := h2
  go_upto_region 3 with (go_at_call 18; refine (sl_clone v B0 x.h W2 (HO.out.ext (HE1.out.trans HE2.out)) hn).mono ?_; rintro e W3 ⟨v1, rfl, hown, hx⟩; obtain ⟨s1a, s1n, s1c, rfl⟩ := own_slice hown; have HO3 := Lib.hid hown; have hy3 := HY2.out.ext hx; have HY3 := Lib.hid hy3; unfold ExAt Ex.arr at hy3; have qy3 := fun j => cell_of_row W3 _ j _ _ _ hy3; have fy3 := fun j => frozen_of_row W3 _ j _ _ hy3; have ly3 : W1.heap.size < W3.heap.size := (Array.getElem?_eq_some_iff.1 hy3).1; have HE3 := Lib.hid hx; clear hown hx hy3)
  refine wp_forget (fun w' => ExAt w' W1.heap.size x (.slice s1a s1n s1c) ∧ Own w' W2.heap.size x.h (.slice s1a s1n s1c) ∧ Ext W1 w' ∧ W2.heap.size ≤ w'.heap.size) ⟨?a1, ?a2, ?a3, ?a4⟩ ?ar
  case a1 => exact setCell_row (o := 25) HY3.out _
  case a2 => exact own_same HO3.out fun k hk _ => cell_other (o := 25) (show k ≠ W1.heap.size by omega)
  case a3 => exact (HE2.out.trans HE3.out).setCell (Nat.le_refl _) _
  case a4 => simpa [World.setCell] using HE3.out.size
  rintro W4 ⟨h1, h3, h4, h5⟩
  have hx4 := HX1.out.ext h4
  unfold ExAt Ex.arr at hx4
  have qx4 := fun j => cell_of_row W4 _ j _ _ _ hx4
  have lx4 : w.heap.size < W4.heap.size := by omega
  have HY4 := Lib.hid h1
  have HO4 := Lib.hid h3
  have HE4 := Lib.hid h4
  clear h1 h3 h4 hx4 qy3 fy3 ly3 HO3 HY3 HE3 qx2 lx2 HY2
  go_upto_region 4 with fail
  refine wp_forget (fun w' => At4 w w' W2.heap.size W1.heap.size W4.heap.size x m v (.slice s1a s1n s1c) _) ⟨HX1.out.ext (HE4.out.alloc _), heap_ext HM1.out (HE4.out.alloc _), heap_ext HR1.out (HE4.out.alloc _), HY4.out.ext ((Ext.refl _).alloc _), HO4.out.ext ((Ext.refl _).alloc _), heap_new rfl, HE1.out.trans (HE4.out.alloc _), hl1, h2', h5, fun g hg => (own_rowB HO4.out g hg).2, rfl⟩ ?_
  clear qx4 lx4 HX1 HM1 HR1 HY4 HO4 HE4 HE2 HE1
  rintro W5 A4
  have hx5 := A4.hx
  unfold ExAt Ex.arr at hx5
  have qx := fun j => cell_of_row W5 _ j _ _ _ hx5
  have hm5 := A4.hm
  unfold Mv.arr at hm5
  have qm := fun j => cell_of_row W5 _ j _ _ _ hm5
  have hy5 := A4.hy
  unfold ExAt Ex.arr at hy5
  have qy := fun j => cell_of_row W5 _ j _ _ _ hy5
  have fy := fun j => frozen_of_row W5 _ j _ _ hy5
  have lx : w.heap.size < W5.heap.size := (Array.getElem?_eq_some_iff.1 hx5).1
  have lm : w.heap.size + 1 < W5.heap.size := (Array.getElem?_eq_some_iff.1 hm5).1
  have ly : W1.heap.size < W5.heap.size := (Array.getElem?_eq_some_iff.1 hy5).1
  clear hx5 hm5 hy5
  have HA := Lib.hid A4
  clear A4
  have hy' : ExAt (W5.setCell ⟨W1.heap.size, 23, none⟩ (.bool true)) W1.heap.size { x with b1 := true } (.slice s1a s1n s1c) := setCell_row HA.out.hy _
  have hr' := (cell_other (w := W5) (b := W1.heap.size) (o := 23) (v := .bool true) (show w.heap.size + 1 + 1 ≠ W1.heap.size by omega)).trans HA.out.hr
  have ho' := own_same HA.out.ho (w' := W5.setCell ⟨W1.heap.size, 23, none⟩ (.bool true)) fun k hk _ => cell_other (show k ≠ W1.heap.size by omega)
  have HY := Lib.hid hy'
  have HR := Lib.hid hr'
  have HO2 := Lib.hid ho'
  clear hy' hr' ho'
  go_wp2_with (first | (refine wpList_load_row rfl 36 _ rfl _ rfl _ _ (0, 0) _ (HY.out) Try.underlying36 rfl info_ex ?_) | (refine wpList_store_row rfl 36 _ _ rfl _ _ rfl rfl 36 _ (HR.out) info_ex rfl (arr_one ({ x with b1 := true }) rfl) ?_))
  refine bodyPost_ret (results_row_tmp rfl _ _ _ 36 _ (0, 0) _ rfl (setRow_heap _ _ _ _ _ _ (HR.out)) Try.underlying36 rfl info_ex) rfl ?_
  exact ⟨_, rfl, own_setRow (own_base (b' := w.heap.size) (HO2.out) (by have := HA.out.hgy; have := HA.out.hB; omega)) (HR.out) (by decide) _, Ext.setRow (HA.out.ext.setCell (by simp only []; omega) _) (by omega) _⟩

set_option maxRecDepth 100000 in
set_option maxHeartbeats 3200000 in
theorem st_no0 (x : Ex) (v : Value) (m : Mv) (w : World) (B0 : Nat) (hO : Own w B0 x.h v) (hn : x.h.length ≤ 100000) (h4 : (m.k == 4) = false) (h6 : (m.k == 6) = false) (h5 : (m.k == 5) = false) (h1 : (m.k == 1) = false) (h2 : (m.k == 2) = false) (h3 : (m.k == 3) = false) (hw : m.who = 0) : Calls Try.prog 7 #[.agg (x.arr v), .agg m.arr] w (Stpd w x false) := by
  obtain ⟨sa, sn, sc, hsv⟩ := own_slice hO
  have hv1 : v.oneCell' = true := by rw [hsv]; rfl
  have HO := Lib.hid hO
  clear hO hsv
  go_enter Try.func7, Try.ntmps7
  go_upto_region 1 with fail
  refine wp_forget (fun w' => ExAt w' w.heap.size x v ∧ w'.heap[w.heap.size + 1]? = some (.cells m.arr 41 (0, 0)) ∧ w'.heap[w.heap.size + 1 + 1]? = some (.cells #[.int .u64 0, .int .i64 0, .int .u64 0, .string { data := #[] }, .int .i64 0, .int .i64 0, .int .i64 0, .int .u64 0, .string { data := #[] }, .bool false, .int .i64 0, .int .u64 0, .string { data := #[] }, .int .i64 0, .int .i64 0, .int .i64 0, .int .u64 0, .string { data := #[] }, .bool false, .int .u64 0, .int .i64 0, .string { data := #[] }, .bool false, .bool false, .bool false, .slice none 0 0] 36 (0, 0)) ∧ Ext w w') (three_new (Ext.refl _)) ?_
  rintro W1 ⟨h1, h2, h3, e1⟩
  have HX1 := Lib.hid h1
  have HM1 := Lib.hid h2
  have HR1 := Lib.hid h3
  have HE1 := Lib.hid e1
  clear h1 h2 h3 e1
  go_upto_region 2 with (first
    | (refine wpList_load_row rfl 36 _ rfl _ rfl _ _ (0, 0) _ HX1.out Try.underlying36 rfl info_ex ?_)
    | (refine wpList_store_row rfl 36 _ _ rfl _ _ rfl rfl 36 _ (heap_new rfl) info_ex rfl (arr_one x hv1) ?_))
  refine wp_forget (fun w' => ExAt w' W1.heap.size x v ∧ Ext W1 w' ∧ W1.heap.size < w'.heap.size) ⟨setRow_heap _ _ _ _ _ _ (heap_new rfl), ((Ext.refl W1).alloc _).setRow (Nat.le_refl _) _, by simp⟩ ?_
  rintro W2 ⟨h1, e1, h2⟩
  have hl1 : w.heap.size + 1 + 1 < W1.heap.size := (Array.getElem?_eq_some_iff.1 HR1.out).1
  have qx2 : W2.cell? ⟨w.heap.size, 25, none⟩ = some v := by rw [cell_of_row _ _ _ _ _ _ (HX1.out.ext e1)]; rfl
  have lx2 : w.heap.size < W2.heap.size := by omega
  have HY2 := Lib.hid h1
  have HE2 := Lib.hid e1
  clear h1 e1
  have h2' := h2
  go_upto_region 3 with (go_at_call 18; refine (sl_clone v B0 x.h W2 (HO.out.ext (HE1.out.trans HE2.out)) hn).mono ?_; rintro e W3 ⟨v1, rfl, hown, hx⟩; obtain ⟨s1a, s1n, s1c, rfl⟩ := own_slice hown; have HO3 := Lib.hid hown; have hy3 := HY2.out.ext hx; have HY3 := Lib.hid hy3; unfold ExAt Ex.arr at hy3; have qy3 := fun j => cell_of_row W3 _ j _ _ _ hy3; have fy3 := fun j => frozen_of_row W3 _ j _ _ hy3; have ly3 : W1.heap.size < W3.heap.size := (Array.getElem?_eq_some_iff.1 hy3).1; have HE3 := Lib.hid hx; clear hown hx hy3)
  refine wp_forget (fun w' => ExAt w' W1.heap.size x (.slice s1a s1n s1c) ∧ Own w' W2.heap.size x.h (.slice s1a s1n s1c) ∧ Ext W1 w' ∧ W2.heap.size ≤ w'.heap.size) ⟨?a1, ?a2, ?a3, ?a4⟩ ?ar
  case a1 => exact setCell_row (o := 25) HY3.out _
  case a2 => exact own_same HO3.out fun k hk _ => cell_other (o := 25) (show k ≠ W1.heap.size by omega)
  case a3 => exact (HE2.out.trans HE3.out).setCell (Nat.le_refl _) _
  case a4 => simpa [World.setCell] using HE3.out.size
  rintro W4 ⟨h1, h3, h4, h5⟩
  have hx4 := HX1.out.ext h4
  unfold ExAt Ex.arr at hx4
  have qx4 := fun j => cell_of_row W4 _ j _ _ _ hx4
  have lx4 : w.heap.size < W4.heap.size := by omega
  have HY4 := Lib.hid h1
  have HO4 := Lib.hid h3
  have HE4 := Lib.hid h4
  clear h1 h3 h4 hx4 qy3 fy3 ly3 HO3 HY3 HE3 qx2 lx2 HY2
  go_upto_region 4 with fail
  refine wp_forget (fun w' => At4 w w' W2.heap.size W1.heap.size W4.heap.size x m v (.slice s1a s1n s1c) _) ⟨HX1.out.ext (HE4.out.alloc _), heap_ext HM1.out (HE4.out.alloc _), heap_ext HR1.out (HE4.out.alloc _), HY4.out.ext ((Ext.refl _).alloc _), HO4.out.ext ((Ext.refl _).alloc _), heap_new rfl, HE1.out.trans (HE4.out.alloc _), hl1, h2', h5, fun g hg => (own_rowB HO4.out g hg).2, rfl⟩ ?_
  clear qx4 lx4 HX1 HM1 HR1 HY4 HO4 HE4 HE2 HE1
  rintro W5 A4
  have hx5 := A4.hx
  unfold ExAt Ex.arr at hx5
  have qx := fun j => cell_of_row W5 _ j _ _ _ hx5
  have hm5 := A4.hm
  unfold Mv.arr at hm5
  have qm := fun j => cell_of_row W5 _ j _ _ _ hm5
  have hy5 := A4.hy
  unfold ExAt Ex.arr at hy5
  have qy := fun j => cell_of_row W5 _ j _ _ _ hy5
  have fy := fun j => frozen_of_row W5 _ j _ _ hy5
  have lx : w.heap.size < W5.heap.size := (Array.getElem?_eq_some_iff.1 hx5).1
  have lm : w.heap.size + 1 < W5.heap.size := (Array.getElem?_eq_some_iff.1 hm5).1
  have ly : W1.heap.size < W5.heap.size := (Array.getElem?_eq_some_iff.1 hy5).1
  clear hx5 hm5 hy5
  have HA := Lib.hid A4
  clear A4
  go_wp2_with (first | (refine wpList_load_row rfl 36 _ rfl _ rfl _ _ (0, 0) _ (HA.out.hy) Try.underlying36 rfl info_ex ?_) | (refine wpList_store_row rfl 36 _ _ rfl _ _ rfl rfl 36 _ (HA.out.hr) info_ex rfl (arr_one (x) rfl) ?_))
  refine bodyPost_ret (results_row_tmp rfl _ _ _ 36 _ (0, 0) _ rfl (setRow_heap _ _ _ _ _ _ (HA.out.hr)) Try.underlying36 rfl info_ex) rfl ?_
  exact ⟨_, rfl, own_setRow (own_base (b' := w.heap.size) (HA.out.ho) (by have := HA.out.hgy; have := HA.out.hB; omega)) (HA.out.hr) (by decide) _, Ext.setRow (HA.out.ext) (by omega) _⟩

set_option maxRecDepth 100000 in
set_option maxHeartbeats 3200000 in
theorem st_no1 (x : Ex) (v : Value) (m : Mv) (w : World) (B0 : Nat) (hO : Own w B0 x.h v) (hn : x.h.length ≤ 100000) (h4 : (m.k == 4) = false) (h6 : (m.k == 6) = false) (h5 : (m.k == 5) = false) (h1 : (m.k == 1) = false) (h2 : (m.k == 2) = false) (h3 : (m.k == 3) = false) (hw : m.who = 1) : Calls Try.prog 7 #[.agg (x.arr v), .agg m.arr] w (Stpd w x false) := by
  obtain ⟨sa, sn, sc, hsv⟩ := own_slice hO
  have hv1 : v.oneCell' = true := by rw [hsv]; rfl
  have HO := Lib.hid hO
  clear hO hsv
  go_enter Try.func7, Try.ntmps7
  go_upto_region 1 with fail
  refine wp_forget (fun w' => ExAt w' w.heap.size x v ∧ w'.heap[w.heap.size + 1]? = some (.cells m.arr 41 (0, 0)) ∧ w'.heap[w.heap.size + 1 + 1]? = some (.cells #[.int .u64 0, .int .i64 0, .int .u64 0, .string { data := #[] }, .int .i64 0, .int .i64 0, .int .i64 0, .int .u64 0, .string { data := #[] }, .bool false, .int .i64 0, .int .u64 0, .string { data := #[] }, .int .i64 0, .int .i64 0, .int .i64 0, .int .u64 0, .string { data := #[] }, .bool false, .int .u64 0, .int .i64 0, .string { data := #[] }, .bool false, .bool false, .bool false, .slice none 0 0] 36 (0, 0)) ∧ Ext w w') (three_new (Ext.refl _)) ?_
  rintro W1 ⟨h1, h2, h3, e1⟩
  have HX1 := Lib.hid h1
  have HM1 := Lib.hid h2
  have HR1 := Lib.hid h3
  have HE1 := Lib.hid e1
  clear h1 h2 h3 e1
  go_upto_region 2 with (first
    | (refine wpList_load_row rfl 36 _ rfl _ rfl _ _ (0, 0) _ HX1.out Try.underlying36 rfl info_ex ?_)
    | (refine wpList_store_row rfl 36 _ _ rfl _ _ rfl rfl 36 _ (heap_new rfl) info_ex rfl (arr_one x hv1) ?_))
  refine wp_forget (fun w' => ExAt w' W1.heap.size x v ∧ Ext W1 w' ∧ W1.heap.size < w'.heap.size) ⟨setRow_heap _ _ _ _ _ _ (heap_new rfl), ((Ext.refl W1).alloc _).setRow (Nat.le_refl _) _, by simp⟩ ?_
  rintro W2 ⟨h1, e1, h2⟩
  have hl1 : w.heap.size + 1 + 1 < W1.heap.size := (Array.getElem?_eq_some_iff.1 HR1.out).1
  have qx2 : W2.cell? ⟨w.heap.size, 25, none⟩ = some v := by rw [cell_of_row _ _ _ _ _ _ (HX1.out.ext e1)]; rfl
  have lx2 : w.heap.size < W2.heap.size := by omega
  have HY2 := Lib.hid h1
  have HE2 := Lib.hid e1
  clear h1 e1
  have h2' := h2
  go_upto_region 3 with (go_at_call 18; refine (sl_clone v B0 x.h W2 (HO.out.ext (HE1.out.trans HE2.out)) hn).mono ?_; rintro e W3 ⟨v1, rfl, hown, hx⟩; obtain ⟨s1a, s1n, s1c, rfl⟩ := own_slice hown; have HO3 := Lib.hid hown; have hy3 := HY2.out.ext hx; have HY3 := Lib.hid hy3; unfold ExAt Ex.arr at hy3; have qy3 := fun j => cell_of_row W3 _ j _ _ _ hy3; have fy3 := fun j => frozen_of_row W3 _ j _ _ hy3; have ly3 : W1.heap.size < W3.heap.size := (Array.getElem?_eq_some_iff.1 hy3).1; have HE3 := Lib.hid hx; clear hown hx hy3)
  refine wp_forget (fun w' => ExAt w' W1.heap.size x (.slice s1a s1n s1c) ∧ Own w' W2.heap.size x.h (.slice s1a s1n s1c) ∧ Ext W1 w' ∧ W2.heap.size ≤ w'.heap.size) ⟨?a1, ?a2, ?a3, ?a4⟩ ?ar
  case a1 => exact setCell_row (o := 25) HY3.out _
  case a2 => exact own_same HO3.out fun k hk _ => cell_other (o := 25) (show k ≠ W1.heap.size by omega)
  case a3 => exact (HE2.out.trans HE3.out).setCell (Nat.le_refl _) _
  case a4 => simpa [World.setCell] using HE3.out.size
  rintro W4 ⟨h1, h3, h4, h5⟩
  have hx4 := HX1.out.ext h4
  unfold ExAt Ex.arr at hx4
  have qx4 := fun j => cell_of_row W4 _ j _ _ _ hx4
  have lx4 : w.heap.size < W4.heap.size := by omega
  have HY4 := Lib.hid h1
  have HO4 := Lib.hid h3
  have HE4 := Lib.hid h4
  clear h1 h3 h4 hx4 qy3 fy3 ly3 HO3 HY3 HE3 qx2 lx2 HY2
  go_upto_region 4 with fail
  refine wp_forget (fun w' => At4 w w' W2.heap.size W1.heap.size W4.heap.size x m v (.slice s1a s1n s1c) _) ⟨HX1.out.ext (HE4.out.alloc _), heap_ext HM1.out (HE4.out.alloc _), heap_ext HR1.out (HE4.out.alloc _), HY4.out.ext ((Ext.refl _).alloc _), HO4.out.ext ((Ext.refl _).alloc _), heap_new rfl, HE1.out.trans (HE4.out.alloc _), hl1, h2', h5, fun g hg => (own_rowB HO4.out g hg).2, rfl⟩ ?_
  clear qx4 lx4 HX1 HM1 HR1 HY4 HO4 HE4 HE2 HE1
  rintro W5 A4
  have hx5 := A4.hx
  unfold ExAt Ex.arr at hx5
  have qx := fun j => cell_of_row W5 _ j _ _ _ hx5
  have hm5 := A4.hm
  unfold Mv.arr at hm5
  have qm := fun j => cell_of_row W5 _ j _ _ _ hm5
  have hy5 := A4.hy
  unfold ExAt Ex.arr at hy5
  have qy := fun j => cell_of_row W5 _ j _ _ _ hy5
  have fy := fun j => frozen_of_row W5 _ j _ _ hy5
  have lx : w.heap.size < W5.heap.size := (Array.getElem?_eq_some_iff.1 hx5).1
  have lm : w.heap.size + 1 < W5.heap.size := (Array.getElem?_eq_some_iff.1 hm5).1
  have ly : W1.heap.size < W5.heap.size := (Array.getElem?_eq_some_iff.1 hy5).1
  clear hx5 hm5 hy5
  have HA := Lib.hid A4
  clear A4
  go_wp2_with (first | (refine wpList_load_row rfl 36 _ rfl _ rfl _ _ (0, 0) _ (HA.out.hy) Try.underlying36 rfl info_ex ?_) | (refine wpList_store_row rfl 36 _ _ rfl _ _ rfl rfl 36 _ (HA.out.hr) info_ex rfl (arr_one (x) rfl) ?_))
  refine bodyPost_ret (results_row_tmp rfl _ _ _ 36 _ (0, 0) _ rfl (setRow_heap _ _ _ _ _ _ (HA.out.hr)) Try.underlying36 rfl info_ex) rfl ?_
  exact ⟨_, rfl, own_setRow (own_base (b' := w.heap.size) (HA.out.ho) (by have := HA.out.hgy; have := HA.out.hB; omega)) (HA.out.hr) (by decide) _, Ext.setRow (HA.out.ext) (by omega) _⟩

set_option maxRecDepth 100000 in
set_option maxHeartbeats 3200000 in
theorem st_ask0 (x : Ex) (v : Value) (m : Mv) (w : World) (B0 : Nat) (hO : Own w B0 x.h v) (hn : x.h.length ≤ 100000) (h4 : (m.k == 4) = true) (hcan : canS x m.l = false) : Calls Try.prog 7 #[.agg (x.arr v), .agg m.arr] w (Stpd w x false) := by
  have hC := fun w' (hw : Ext w w') => mo_can x v m.l w' (Row.ext hO.row hw)
  rw [hcan] at hC
  have HC := Lib.hid hC
  clear hC hcan
  obtain ⟨sa, sn, sc, hsv⟩ := own_slice hO
  have hv1 : v.oneCell' = true := by rw [hsv]; rfl
  have HO := Lib.hid hO
  clear hO hsv
  go_enter Try.func7, Try.ntmps7
  go_upto_region 1 with fail
  refine wp_forget (fun w' => ExAt w' w.heap.size x v ∧ w'.heap[w.heap.size + 1]? = some (.cells m.arr 41 (0, 0)) ∧ w'.heap[w.heap.size + 1 + 1]? = some (.cells #[.int .u64 0, .int .i64 0, .int .u64 0, .string { data := #[] }, .int .i64 0, .int .i64 0, .int .i64 0, .int .u64 0, .string { data := #[] }, .bool false, .int .i64 0, .int .u64 0, .string { data := #[] }, .int .i64 0, .int .i64 0, .int .i64 0, .int .u64 0, .string { data := #[] }, .bool false, .int .u64 0, .int .i64 0, .string { data := #[] }, .bool false, .bool false, .bool false, .slice none 0 0] 36 (0, 0)) ∧ Ext w w') (three_new (Ext.refl _)) ?_
  rintro W1 ⟨h1, h2, h3, e1⟩
  have HX1 := Lib.hid h1
  have HM1 := Lib.hid h2
  have HR1 := Lib.hid h3
  have HE1 := Lib.hid e1
  clear h1 h2 h3 e1
  go_upto_region 2 with (first
    | (refine wpList_load_row rfl 36 _ rfl _ rfl _ _ (0, 0) _ HX1.out Try.underlying36 rfl info_ex ?_)
    | (refine wpList_store_row rfl 36 _ _ rfl _ _ rfl rfl 36 _ (heap_new rfl) info_ex rfl (arr_one x hv1) ?_))
  refine wp_forget (fun w' => ExAt w' W1.heap.size x v ∧ Ext W1 w' ∧ W1.heap.size < w'.heap.size) ⟨setRow_heap _ _ _ _ _ _ (heap_new rfl), ((Ext.refl W1).alloc _).setRow (Nat.le_refl _) _, by simp⟩ ?_
  rintro W2 ⟨h1, e1, h2⟩
  have hl1 : w.heap.size + 1 + 1 < W1.heap.size := (Array.getElem?_eq_some_iff.1 HR1.out).1
  have qx2 : W2.cell? ⟨w.heap.size, 25, none⟩ = some v := by rw [cell_of_row _ _ _ _ _ _ (HX1.out.ext e1)]; rfl
  have lx2 : w.heap.size < W2.heap.size := by omega
  have HY2 := Lib.hid h1
  have HE2 := Lib.hid e1
  clear h1 e1
  have h2' := h2
  go_upto_region 3 with (go_at_call 18; refine (sl_clone v B0 x.h W2 (HO.out.ext (HE1.out.trans HE2.out)) hn).mono ?_; rintro e W3 ⟨v1, rfl, hown, hx⟩; obtain ⟨s1a, s1n, s1c, rfl⟩ := own_slice hown; have HO3 := Lib.hid hown; have hy3 := HY2.out.ext hx; have HY3 := Lib.hid hy3; unfold ExAt Ex.arr at hy3; have qy3 := fun j => cell_of_row W3 _ j _ _ _ hy3; have fy3 := fun j => frozen_of_row W3 _ j _ _ hy3; have ly3 : W1.heap.size < W3.heap.size := (Array.getElem?_eq_some_iff.1 hy3).1; have HE3 := Lib.hid hx; clear hown hx hy3)
  refine wp_forget (fun w' => ExAt w' W1.heap.size x (.slice s1a s1n s1c) ∧ Own w' W2.heap.size x.h (.slice s1a s1n s1c) ∧ Ext W1 w' ∧ W2.heap.size ≤ w'.heap.size) ⟨?a1, ?a2, ?a3, ?a4⟩ ?ar
  case a1 => exact setCell_row (o := 25) HY3.out _
  case a2 => exact own_same HO3.out fun k hk _ => cell_other (o := 25) (show k ≠ W1.heap.size by omega)
  case a3 => exact (HE2.out.trans HE3.out).setCell (Nat.le_refl _) _
  case a4 => simpa [World.setCell] using HE3.out.size
  rintro W4 ⟨h1, h3, h4, h5⟩
  have hx4 := HX1.out.ext h4
  unfold ExAt Ex.arr at hx4
  have qx4 := fun j => cell_of_row W4 _ j _ _ _ hx4
  have lx4 : w.heap.size < W4.heap.size := by omega
  have HY4 := Lib.hid h1
  have HO4 := Lib.hid h3
  have HE4 := Lib.hid h4
  clear h1 h3 h4 hx4 qy3 fy3 ly3 HO3 HY3 HE3 qx2 lx2 HY2
  go_upto_region 4 with fail
  refine wp_forget (fun w' => At4 w w' W2.heap.size W1.heap.size W4.heap.size x m v (.slice s1a s1n s1c) _) ⟨HX1.out.ext (HE4.out.alloc _), heap_ext HM1.out (HE4.out.alloc _), heap_ext HR1.out (HE4.out.alloc _), HY4.out.ext ((Ext.refl _).alloc _), HO4.out.ext ((Ext.refl _).alloc _), heap_new rfl, HE1.out.trans (HE4.out.alloc _), hl1, h2', h5, fun g hg => (own_rowB HO4.out g hg).2, rfl⟩ ?_
  clear qx4 lx4 HX1 HM1 HR1 HY4 HO4 HE4 HE2 HE1
  rintro W5 A4
  have hx5 := A4.hx
  unfold ExAt Ex.arr at hx5
  have qx := fun j => cell_of_row W5 _ j _ _ _ hx5
  have hm5 := A4.hm
  unfold Mv.arr at hm5
  have qm := fun j => cell_of_row W5 _ j _ _ _ hm5
  have hy5 := A4.hy
  unfold ExAt Ex.arr at hy5
  have qy := fun j => cell_of_row W5 _ j _ _ _ hy5
  have fy := fun j => frozen_of_row W5 _ j _ _ hy5
  have lx : w.heap.size < W5.heap.size := (Array.getElem?_eq_some_iff.1 hx5).1
  have lm : w.heap.size + 1 < W5.heap.size := (Array.getElem?_eq_some_iff.1 hm5).1
  have ly : W1.heap.size < W5.heap.size := (Array.getElem?_eq_some_iff.1 hy5).1
  clear hx5 hm5 hy5
  have HA := Lib.hid A4
  clear A4
  go_wp2_with (first | (go_at_call 13; refine (HC.out _ HA.out.ext).mono ?_; rintro e W6 ⟨rfl, hx⟩; have hm6 := heap_ext HA.out.hm hx; unfold Mv.arr at hm6; clear qm qx qy fy lx lm ly; have qm := fun j => cell_of_row W6 _ j _ _ _ hm6; have lm : w.heap.size + 1 < W6.heap.size := (Array.getElem?_eq_some_iff.1 hm6).1; have HX6 := Lib.hid hx; clear hx hm6) | (refine wpList_load_row rfl 36 _ rfl _ rfl _ _ (0, 0) _ (HA.out.hx) Try.underlying36 rfl info_ex ?_) | (refine wpList_load_row rfl 36 _ rfl _ rfl _ _ (0, 0) _ (HA.out.hy.ext HX6.out) Try.underlying36 rfl info_ex ?_) | (refine wpList_store_row rfl 36 _ _ rfl _ _ rfl rfl 36 _ (heap_ext HA.out.hr HX6.out) info_ex rfl (arr_one (x) rfl) ?_))
  refine bodyPost_ret (results_row_tmp rfl _ _ _ 36 _ (0, 0) _ rfl (setRow_heap _ _ _ _ _ _ (heap_ext HA.out.hr HX6.out)) Try.underlying36 rfl info_ex) rfl ?_
  exact ⟨_, rfl, own_setRow (own_base (b' := w.heap.size) (HA.out.ho.ext HX6.out) (by have := HA.out.hgy; have := HA.out.hB; omega)) (heap_ext HA.out.hr HX6.out) (by decide) _, Ext.setRow (HA.out.ext.trans HX6.out) (by omega) _⟩

set_option maxRecDepth 100000 in
set_option maxHeartbeats 3200000 in
theorem st_ask1 (x : Ex) (v : Value) (m : Mv) (w : World) (B0 : Nat) (hO : Own w B0 x.h v) (hn : x.h.length ≤ 100000) (h4 : (m.k == 4) = true) (hcan : canS x m.l = true) : Calls Try.prog 7 #[.agg (x.arr v), .agg m.arr] w (Stpd w (askX x m) true) := by
  have hC := fun w' (hw : Ext w w') => mo_can x v m.l w' (Row.ext hO.row hw)
  rw [hcan] at hC
  have HC := Lib.hid hC
  clear hC hcan
  obtain ⟨sa, sn, sc, hsv⟩ := own_slice hO
  have hv1 : v.oneCell' = true := by rw [hsv]; rfl
  have HO := Lib.hid hO
  clear hO hsv
  go_enter Try.func7, Try.ntmps7
  go_upto_region 1 with fail
  refine wp_forget (fun w' => ExAt w' w.heap.size x v ∧ w'.heap[w.heap.size + 1]? = some (.cells m.arr 41 (0, 0)) ∧ w'.heap[w.heap.size + 1 + 1]? = some (.cells #[.int .u64 0, .int .i64 0, .int .u64 0, .string { data := #[] }, .int .i64 0, .int .i64 0, .int .i64 0, .int .u64 0, .string { data := #[] }, .bool false, .int .i64 0, .int .u64 0, .string { data := #[] }, .int .i64 0, .int .i64 0, .int .i64 0, .int .u64 0, .string { data := #[] }, .bool false, .int .u64 0, .int .i64 0, .string { data := #[] }, .bool false, .bool false, .bool false, .slice none 0 0] 36 (0, 0)) ∧ Ext w w') (three_new (Ext.refl _)) ?_
  rintro W1 ⟨h1, h2, h3, e1⟩
  have HX1 := Lib.hid h1
  have HM1 := Lib.hid h2
  have HR1 := Lib.hid h3
  have HE1 := Lib.hid e1
  clear h1 h2 h3 e1
  go_upto_region 2 with (first
    | (refine wpList_load_row rfl 36 _ rfl _ rfl _ _ (0, 0) _ HX1.out Try.underlying36 rfl info_ex ?_)
    | (refine wpList_store_row rfl 36 _ _ rfl _ _ rfl rfl 36 _ (heap_new rfl) info_ex rfl (arr_one x hv1) ?_))
  refine wp_forget (fun w' => ExAt w' W1.heap.size x v ∧ Ext W1 w' ∧ W1.heap.size < w'.heap.size) ⟨setRow_heap _ _ _ _ _ _ (heap_new rfl), ((Ext.refl W1).alloc _).setRow (Nat.le_refl _) _, by simp⟩ ?_
  rintro W2 ⟨h1, e1, h2⟩
  have hl1 : w.heap.size + 1 + 1 < W1.heap.size := (Array.getElem?_eq_some_iff.1 HR1.out).1
  have qx2 : W2.cell? ⟨w.heap.size, 25, none⟩ = some v := by rw [cell_of_row _ _ _ _ _ _ (HX1.out.ext e1)]; rfl
  have lx2 : w.heap.size < W2.heap.size := by omega
  have HY2 := Lib.hid h1
  have HE2 := Lib.hid e1
  clear h1 e1
  have h2' := h2
  go_upto_region 3 with (go_at_call 18; refine (sl_clone v B0 x.h W2 (HO.out.ext (HE1.out.trans HE2.out)) hn).mono ?_; rintro e W3 ⟨v1, rfl, hown, hx⟩; obtain ⟨s1a, s1n, s1c, rfl⟩ := own_slice hown; have HO3 := Lib.hid hown; have hy3 := HY2.out.ext hx; have HY3 := Lib.hid hy3; unfold ExAt Ex.arr at hy3; have qy3 := fun j => cell_of_row W3 _ j _ _ _ hy3; have fy3 := fun j => frozen_of_row W3 _ j _ _ hy3; have ly3 : W1.heap.size < W3.heap.size := (Array.getElem?_eq_some_iff.1 hy3).1; have HE3 := Lib.hid hx; clear hown hx hy3)
  refine wp_forget (fun w' => ExAt w' W1.heap.size x (.slice s1a s1n s1c) ∧ Own w' W2.heap.size x.h (.slice s1a s1n s1c) ∧ Ext W1 w' ∧ W2.heap.size ≤ w'.heap.size) ⟨?a1, ?a2, ?a3, ?a4⟩ ?ar
  case a1 => exact setCell_row (o := 25) HY3.out _
  case a2 => exact own_same HO3.out fun k hk _ => cell_other (o := 25) (show k ≠ W1.heap.size by omega)
  case a3 => exact (HE2.out.trans HE3.out).setCell (Nat.le_refl _) _
  case a4 => simpa [World.setCell] using HE3.out.size
  rintro W4 ⟨h1, h3, h4, h5⟩
  have hx4 := HX1.out.ext h4
  unfold ExAt Ex.arr at hx4
  have qx4 := fun j => cell_of_row W4 _ j _ _ _ hx4
  have lx4 : w.heap.size < W4.heap.size := by omega
  have HY4 := Lib.hid h1
  have HO4 := Lib.hid h3
  have HE4 := Lib.hid h4
  clear h1 h3 h4 hx4 qy3 fy3 ly3 HO3 HY3 HE3 qx2 lx2 HY2
  go_upto_region 4 with fail
  refine wp_forget (fun w' => At4 w w' W2.heap.size W1.heap.size W4.heap.size x m v (.slice s1a s1n s1c) _) ⟨HX1.out.ext (HE4.out.alloc _), heap_ext HM1.out (HE4.out.alloc _), heap_ext HR1.out (HE4.out.alloc _), HY4.out.ext ((Ext.refl _).alloc _), HO4.out.ext ((Ext.refl _).alloc _), heap_new rfl, HE1.out.trans (HE4.out.alloc _), hl1, h2', h5, fun g hg => (own_rowB HO4.out g hg).2, rfl⟩ ?_
  clear qx4 lx4 HX1 HM1 HR1 HY4 HO4 HE4 HE2 HE1
  rintro W5 A4
  have hx5 := A4.hx
  unfold ExAt Ex.arr at hx5
  have qx := fun j => cell_of_row W5 _ j _ _ _ hx5
  have hm5 := A4.hm
  unfold Mv.arr at hm5
  have qm := fun j => cell_of_row W5 _ j _ _ _ hm5
  have hy5 := A4.hy
  unfold ExAt Ex.arr at hy5
  have qy := fun j => cell_of_row W5 _ j _ _ _ hy5
  have fy := fun j => frozen_of_row W5 _ j _ _ hy5
  have lx : w.heap.size < W5.heap.size := (Array.getElem?_eq_some_iff.1 hx5).1
  have lm : w.heap.size + 1 < W5.heap.size := (Array.getElem?_eq_some_iff.1 hm5).1
  have ly : W1.heap.size < W5.heap.size := (Array.getElem?_eq_some_iff.1 hy5).1
  clear hx5 hm5 hy5
  have HA := Lib.hid A4
  clear A4
  go_wp2_with (first | (go_at_call 13; refine (HC.out _ HA.out.ext).mono ?_; rintro e W6 ⟨rfl, hx⟩; have hm6 := heap_ext HA.out.hm hx; unfold Mv.arr at hm6; clear qm qx qy fy lx lm ly; have qm := fun j => cell_of_row W6 _ j _ _ _ hm6; have lm : w.heap.size + 1 < W6.heap.size := (Array.getElem?_eq_some_iff.1 hm6).1; have HX6 := Lib.hid hx; clear hx hm6) | (go_at_call 19; refine (mo_asked W2.heap.size W1.heap.size x _ m W6 (HA.out.hy.ext HX6.out) (HA.out.ho.ext HX6.out) HA.out.hB (Nat.le_trans HA.out.hge (Nat.le_trans (Nat.le_of_lt (Array.getElem?_eq_some_iff.1 HA.out.he).1) HX6.out.size)) hn).mono ?_; rintro e W7 ⟨rfl, v2, hy7, ho7, hk7, hr7⟩; obtain ⟨s2a, s2n, s2c, rfl⟩ := own_slice ho7; have HY7 := Lib.hid hy7; have HO7 := Lib.hid ho7; have hR7 := (hk7.block _ (Nat.lt_of_lt_of_le (Array.getElem?_eq_some_iff.1 HA.out.hr).1 HX6.out.size) (by simp only [List.mem_cons, not_or]; exact ⟨by have := HA.out.hgy; omega, fun hm => by have := (own_rowB HA.out.ho _ hm).1; have := HA.out.hgy; have := HA.out.hB; omega⟩)).trans (heap_ext HA.out.hr HX6.out); have HR7 := Lib.hid hR7; have he7 : Ext w W7 := keeps_ext (HA.out.ext.trans HX6.out) hk7 (by intro g hg; simp only [List.mem_cons] at hg; exact hg.elim (fun h => by have := HA.out.hgy; omega) (fun h => by have := (own_rowB HA.out.ho _ h).1; have := HA.out.hgy; have := HA.out.hB; omega)); have HE7 := Lib.hid he7; clear hy7 ho7 hk7 hr7 hR7 he7 qm lm) | (refine wpList_load_row rfl 41 _ rfl _ rfl _ _ (0, 0) _ (heap_ext HA.out.hm HX6.out) Try.underlying41 rfl info_mv ?_) | (refine wpList_load_row rfl 36 _ rfl _ rfl _ _ (0, 0) _ (HY7.out) Try.underlying36 rfl info_ex ?_) | (refine wpList_load_row rfl 36 _ rfl _ rfl _ _ (0, 0) _ (HA.out.hx) Try.underlying36 rfl info_ex ?_) | (refine wpList_store_row rfl 36 _ _ rfl _ _ rfl rfl 36 _ (HR7.out) info_ex rfl (arr_one (askX x m) rfl) ?_))
  refine bodyPost_ret (results_row_tmp rfl _ _ _ 36 _ (0, 0) _ rfl (setRow_heap _ _ _ _ _ _ (HR7.out)) Try.underlying36 rfl info_ex) rfl ?_
  exact ⟨_, rfl, own_setRow (own_base (b' := w.heap.size) (HO7.out) (by have := HA.out.hgy; have := HA.out.hB; omega)) (HR7.out) (by decide) _, Ext.setRow (HE7.out) (by omega) _⟩

end Go.Proofs.Ytodnfbfhdloogaa

/-
  Walks: a party's step. No condition.
-/
namespace Go.Proofs.Ytodnfbfhdloogaa
open Go.RowKit
attribute [local go_sem ↓] eql_lEq eql_sEq eql_eEq eql_oEq neq_lEq neq_sEq neq_eEq neq_oEq eql_vEq neq_vEq eql_nil
attribute [local go_sem] ExtOf.cell ExtOf.frozen ExtOf.lt ExtOf.le
attribute [local go_sem high] ExtOf.cell2 ExtOf.frozen2 ExtOf.lt2 ExtOf.cell3 ExtOf.frozen3 ExtOf.lt3

/-- What holds at region 28 of a step: the event is made. -/
structure At8 (w W : World) (B gy ge : Nat) (x : Ex) (m : Mv) (v v1 : Value) (zs ev : Array Value) : Prop where
  hx : ExAt W w.heap.size x v
  hm : W.heap[w.heap.size + 1]? = some (.cells m.arr 41 (0, 0))
  hr : W.heap[w.heap.size + 1 + 1]? = some (.cells zs 36 (0, 0))
  hy : ExAt W gy x v1
  ho : Own W B x.h v1
  he : W.heap[ge]? = some (.cells ev 54 (0, 0))
  ext : Ext w W
  hgy : w.heap.size + 1 + 1 < gy
  hB : gy < B
  hge : B ≤ ge
  hn : zs.size = 26

theorem own_keepB {w w' : World} {B : Nat} {h : List Lt} {v : Value} (o : Own w B h v) (hk : ∀ g ∈ rowB v, w'.heap[g]? = w.heap[g]?) : Own w' B h v := by
  refine ⟨o.1, o.2.imp id ?_⟩
  rintro ⟨g, cap, cur, hv, hb, hg, r⟩
  exact ⟨g, cap, cur, hv, hb, by rw [hk g (by rw [hv]; simp [rowB, Value.ownBlock])]; exact hg, r⟩

theorem At4.ext' {w W W' : World} {B gy ge : Nat} {x : Ex} {m : Mv} {v v1 : Value} {zs : Array Value} (a : At4 w W B gy ge x m v v1 zs) (e : Ext W W') : At4 w W' B gy ge x m v v1 zs :=
  ⟨a.hx.ext e, heap_ext a.hm e, heap_ext a.hr e, a.hy.ext e, a.ho.ext e, heap_ext a.he e, a.ext.trans e, a.hgy, a.hB, a.hge, a.hgr, a.hn⟩

theorem At4.to8 {w W W' : World} {B gy ge : Nat} {x : Ex} {m : Mv} {v v1 : Value} {zs ev : Array Value} (a : At4 w W B gy ge x m v v1 zs) (k : Keeps [ge] W W') (he : W'.heap[ge]? = some (.cells ev 54 (0, 0))) : At8 w W' B gy ge x m v v1 zs ev := by
  have h1 := a.hgy
  have h2 := a.hB
  have h3 := a.hge
  have hb : ∀ {g : Nat} {o : Obj}, W.heap[g]? = some o → g ≠ ge → W'.heap[g]? = some o := fun {g o} hg hne => (k.block g (Array.getElem?_eq_some_iff.1 hg).1 (by simpa using hne)).trans hg
  refine ⟨hb a.hx (by omega), hb a.hm (by omega), hb a.hr (by omega), hb a.hy (by omega), own_keepB a.ho fun g hg => ?_, he, keeps_ext a.ext k (by simp only [List.mem_singleton]; omega), h1, h2, h3, a.hn⟩
  exact k.block g (own_rowB a.ho g hg).2 (by have := a.hgr g hg; simp only [List.mem_singleton]; omega)

/-- All blocks but g are as they were. -/
structure But (g : Nat) (w w' : World) : Prop where
  os : w'.os = w.os
  tape : w'.tape = w.tape
  output : w'.output = w.output
  size : w'.heap.size = w.heap.size
  block : ∀ k, k ≠ g → w'.heap[k]? = w.heap[k]?
theorem But.refl (g : Nat) (w : World) : But g w w := ⟨rfl, rfl, rfl, rfl, fun _ _ => rfl⟩
theorem But.setCell {g : Nat} {w w' : World} (h : But g w w') (o : Nat) (v : Value) : But g w (w'.setCell ⟨g, o, none⟩ v) :=
  ⟨h.os, h.tape, h.output, by simpa [World.setCell] using h.size, fun k hk => (cell_other hk).trans (h.block k hk)⟩
theorem But.ext {g : Nat} {a w w' : World} (h : But g w w') (e : Ext a w) (hg : a.heap.size ≤ g) : Ext a w' :=
  ⟨h.os.trans e.os, h.tape.trans e.tape, h.output.trans e.output, h.size ▸ e.size, fun k hk => (h.block k (by omega)).trans (e.block k hk)⟩

theorem stepP_len (who : Int) (s : St) (e : Ev) : (stepP who s e).2.length ≤ 1 := by
  unfold stepP
  split
  · have := edge_o s e
    generalize stepS s e = r at this ⊢
    cases this <;> simp
  · have := edge_a s e
    generalize stepA s e = r at this ⊢
    cases this <;> simp

end Go.Proofs.Ytodnfbfhdloogaa

/-
  Walks: a party's step. No condition.
-/
namespace Go.Proofs.Ytodnfbfhdloogaa
open Go.RowKit
attribute [local go_sem ↓] eql_lEq eql_sEq eql_eEq eql_oEq neq_lEq neq_sEq neq_eEq neq_oEq eql_vEq neq_vEq eql_nil
attribute [local go_sem] ExtOf.cell ExtOf.frozen ExtOf.lt ExtOf.le
attribute [local go_sem high] ExtOf.cell2 ExtOf.frozen2 ExtOf.lt2 ExtOf.cell3 ExtOf.frozen3 ExtOf.lt3

set_option maxRecDepth 100000 in
set_option maxHeartbeats 3200000 in
theorem st_10bad (x : Ex) (v : Value) (m : Mv) (w : World) (B0 : Nat) (hO : Own w B0 x.h v) (hn : x.h.length ≤ 100000) (h4 : (m.k == 4) = false) (h6 : (m.k == 6) = false) (h5 : (m.k == 5) = false) (h1 : (m.k == 1) = true) (hw : m.who = 0) (hbad : x.b0 = true) : Calls Try.prog 7 #[.agg (x.arr v), .agg m.arr] w (Stpd w x false) := by
  have HBad := Lib.hid hbad
  clear hbad
  obtain ⟨sa, sn, sc, hsv⟩ := own_slice hO
  have hv1 : v.oneCell' = true := by rw [hsv]; rfl
  have HO := Lib.hid hO
  clear hO hsv
  go_enter Try.func7, Try.ntmps7
  go_upto_region 1 with fail
  refine wp_forget (fun w' => ExAt w' w.heap.size x v ∧ w'.heap[w.heap.size + 1]? = some (.cells m.arr 41 (0, 0)) ∧ w'.heap[w.heap.size + 1 + 1]? = some (.cells #[.int .u64 0, .int .i64 0, .int .u64 0, .string { data := #[] }, .int .i64 0, .int .i64 0, .int .i64 0, .int .u64 0, .string { data := #[] }, .bool false, .int .i64 0, .int .u64 0, .string { data := #[] }, .int .i64 0, .int .i64 0, .int .i64 0, .int .u64 0, .string { data := #[] }, .bool false, .int .u64 0, .int .i64 0, .string { data := #[] }, .bool false, .bool false, .bool false, .slice none 0 0] 36 (0, 0)) ∧ Ext w w') (three_new (Ext.refl _)) ?_
  rintro W1 ⟨h1, h2, h3, e1⟩
  have HX1 := Lib.hid h1
  have HM1 := Lib.hid h2
  have HR1 := Lib.hid h3
  have HE1 := Lib.hid e1
  clear h1 h2 h3 e1
  go_upto_region 2 with (first
    | (refine wpList_load_row rfl 36 _ rfl _ rfl _ _ (0, 0) _ HX1.out Try.underlying36 rfl info_ex ?_)
    | (refine wpList_store_row rfl 36 _ _ rfl _ _ rfl rfl 36 _ (heap_new rfl) info_ex rfl (arr_one x hv1) ?_))
  refine wp_forget (fun w' => ExAt w' W1.heap.size x v ∧ Ext W1 w' ∧ W1.heap.size < w'.heap.size) ⟨setRow_heap _ _ _ _ _ _ (heap_new rfl), ((Ext.refl W1).alloc _).setRow (Nat.le_refl _) _, by simp⟩ ?_
  rintro W2 ⟨h1, e1, h2⟩
  have hl1 : w.heap.size + 1 + 1 < W1.heap.size := (Array.getElem?_eq_some_iff.1 HR1.out).1
  have qx2 : W2.cell? ⟨w.heap.size, 25, none⟩ = some v := by rw [cell_of_row _ _ _ _ _ _ (HX1.out.ext e1)]; rfl
  have lx2 : w.heap.size < W2.heap.size := by omega
  have HY2 := Lib.hid h1
  have HE2 := Lib.hid e1
  clear h1 e1
  have h2' := h2
  go_upto_region 3 with (go_at_call 18; refine (sl_clone v B0 x.h W2 (HO.out.ext (HE1.out.trans HE2.out)) hn).mono ?_; rintro e W3 ⟨v1, rfl, hown, hx⟩; obtain ⟨s1a, s1n, s1c, rfl⟩ := own_slice hown; have HO3 := Lib.hid hown; have hy3 := HY2.out.ext hx; have HY3 := Lib.hid hy3; unfold ExAt Ex.arr at hy3; have qy3 := fun j => cell_of_row W3 _ j _ _ _ hy3; have fy3 := fun j => frozen_of_row W3 _ j _ _ hy3; have ly3 : W1.heap.size < W3.heap.size := (Array.getElem?_eq_some_iff.1 hy3).1; have HE3 := Lib.hid hx; clear hown hx hy3)
  refine wp_forget (fun w' => ExAt w' W1.heap.size x (.slice s1a s1n s1c) ∧ Own w' W2.heap.size x.h (.slice s1a s1n s1c) ∧ Ext W1 w' ∧ W2.heap.size ≤ w'.heap.size) ⟨?a1, ?a2, ?a3, ?a4⟩ ?ar
  case a1 => exact setCell_row (o := 25) HY3.out _
  case a2 => exact own_same HO3.out fun k hk _ => cell_other (o := 25) (show k ≠ W1.heap.size by omega)
  case a3 => exact (HE2.out.trans HE3.out).setCell (Nat.le_refl _) _
  case a4 => simpa [World.setCell] using HE3.out.size
  rintro W4 ⟨h1, h3, h4, h5⟩
  have hx4 := HX1.out.ext h4
  unfold ExAt Ex.arr at hx4
  have qx4 := fun j => cell_of_row W4 _ j _ _ _ hx4
  have lx4 : w.heap.size < W4.heap.size := by omega
  have HY4 := Lib.hid h1
  have HO4 := Lib.hid h3
  have HE4 := Lib.hid h4
  clear h1 h3 h4 hx4 qy3 fy3 ly3 HO3 HY3 HE3 qx2 lx2 HY2
  go_upto_region 4 with fail
  refine wp_forget (fun w' => At4 w w' W2.heap.size W1.heap.size W4.heap.size x m v (.slice s1a s1n s1c) _) ⟨HX1.out.ext (HE4.out.alloc _), heap_ext HM1.out (HE4.out.alloc _), heap_ext HR1.out (HE4.out.alloc _), HY4.out.ext ((Ext.refl _).alloc _), HO4.out.ext ((Ext.refl _).alloc _), heap_new rfl, HE1.out.trans (HE4.out.alloc _), hl1, h2', h5, fun g hg => (own_rowB HO4.out g hg).2, rfl⟩ ?_
  clear qx4 lx4 HX1 HM1 HR1 HY4 HO4 HE4 HE2 HE1
  rintro W5 A4
  have hx5 := A4.hx
  unfold ExAt Ex.arr at hx5
  have qx := fun j => cell_of_row W5 _ j _ _ _ hx5
  have hm5 := A4.hm
  unfold Mv.arr at hm5
  have qm := fun j => cell_of_row W5 _ j _ _ _ hm5
  have hy5 := A4.hy
  unfold ExAt Ex.arr at hy5
  have qy := fun j => cell_of_row W5 _ j _ _ _ hy5
  have fy := fun j => frozen_of_row W5 _ j _ _ hy5
  have lx : w.heap.size < W5.heap.size := (Array.getElem?_eq_some_iff.1 hx5).1
  have lm : w.heap.size + 1 < W5.heap.size := (Array.getElem?_eq_some_iff.1 hm5).1
  have ly : W1.heap.size < W5.heap.size := (Array.getElem?_eq_some_iff.1 hy5).1
  clear hx5 hm5 hy5
  have HA := Lib.hid A4
  clear A4
  have he5 := HA.out.he
  have qe := fun j => cell_of_row W5 _ j _ _ _ he5
  have fe := fun j => frozen_of_row W5 _ j _ _ he5
  have le5 : W4.heap.size < W5.heap.size := (Array.getElem?_eq_some_iff.1 he5).1
  clear he5
  go_wp2_with fail
  go_region
  go_upto_region 28 with fail
  refine wp_forget (fun w' => At8 w w' W2.heap.size W1.heap.size W4.heap.size x m v (.slice s1a s1n s1c) _ #[.int .i64 1, .int .u64 x.c, .string m.t, .int .i64 0, .int .i64 0, .int .u64 0, .string { data := #[] }, .bool false]) (HA.out.to8 ((((Keeps.refl _ _).setCell (.inl (.head _)) _ _).setCell (.inl (.head _)) _ _).ext (Ext.refl _).drew) (setCell_row (o := 2) (setCell_row (o := 0) HA.out.he _) _)) ?_
  clear qx qm qy fy lx lm ly qe fe le5 HA
  rintro W8 A8
  have hx8 := A8.hx
  unfold ExAt Ex.arr at hx8
  have qx := fun j => cell_of_row W8 _ j _ _ _ hx8
  have hm8 := A8.hm
  unfold Mv.arr at hm8
  have qm := fun j => cell_of_row W8 _ j _ _ _ hm8
  have he8 := A8.he
  have qe := fun j => cell_of_row W8 _ j _ _ _ he8
  have lx : w.heap.size < W8.heap.size := (Array.getElem?_eq_some_iff.1 hx8).1
  have lm : w.heap.size + 1 < W8.heap.size := (Array.getElem?_eq_some_iff.1 hm8).1
  have le8 : W4.heap.size < W8.heap.size := (Array.getElem?_eq_some_iff.1 he8).1
  have ly8 : W1.heap.size < W8.heap.size := (Array.getElem?_eq_some_iff.1 A8.hy).1
  clear hx8 hm8 he8
  have hgB : W2.heap.size ≤ W8.heap.size := by have := A8.hge; omega
  have HA := Lib.hid A8
  clear A8
  have hbad := HBad.out
  go_wp2_with (first | (refine wpList_load_row rfl 36 _ rfl _ rfl _ _ (0, 0) _ (HA.out.hy) Try.underlying36 rfl info_ex ?_) | (refine wpList_store_row rfl 36 _ _ rfl _ _ rfl rfl 36 _ (HA.out.hr) info_ex rfl (arr_one (x) rfl) ?_))
  refine bodyPost_ret (results_row_tmp rfl _ _ _ 36 _ (0, 0) _ rfl (setRow_heap _ _ _ _ _ _ (HA.out.hr)) Try.underlying36 rfl info_ex) rfl ?_
  exact ⟨_, rfl, own_setRow (own_base (b' := w.heap.size) (HA.out.ho) (by have := HA.out.hgy; have := HA.out.hB; omega)) (HA.out.hr) (by decide) _, Ext.setRow (HA.out.ext) (by omega) _⟩

end Go.Proofs.Ytodnfbfhdloogaa
