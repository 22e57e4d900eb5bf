/-
  Walks: a party's step. No condition.
-/
import Derived.Test.YtodnfbfhdloogaaMS22
set_option linter.all false
namespace Go.Proofs.Ytodnfbfhdloogaa
open Go.RowKit
attribute [local go_sem ↓] eql_lEq eql_sEq eql_eEq eql_oEq neq_lEq neq_sEq neq_eEq neq_oEq eql_vEq neq_vEq eql_nil
attribute [local go_sem] ExtOf.cell ExtOf.frozen ExtOf.lt ExtOf.le
attribute [local go_sem high] ExtOf.cell2 ExtOf.frozen2 ExtOf.lt2 ExtOf.cell3 ExtOf.frozen3 ExtOf.lt3

set_option maxRecDepth 100000 in
set_option maxHeartbeats 3200000 in
theorem st_11bad (x : Ex) (v : Value) (m : Mv) (w : World) (B0 : Nat) (hO : Own w B0 x.h v) (hn : x.h.length ≤ 100000) (h4 : (m.k == 4) = false) (h6 : (m.k == 6) = false) (h5 : (m.k == 5) = false) (h1 : (m.k == 1) = true) (hw : m.who = 1) (hbad : x.b1 = true) : Calls Try.prog 7 #[.agg (x.arr v), .agg m.arr] w (Stpd w x false) := by
  have HBad := Lib.hid hbad
  clear hbad
  obtain ⟨sa, sn, sc, hsv⟩ := own_slice hO
  have hv1 : v.oneCell' = true := by rw [hsv]; rfl
  have HO := Lib.hid hO
  clear hO hsv
  go_enter Try.func7, Try.ntmps7
  go_upto_region 1 with fail
  refine wp_forget (fun w' => ExAt w' w.heap.size x v ∧ w'.heap[w.heap.size + 1]? = some (.cells m.arr 41 (0, 0)) ∧ w'.heap[w.heap.size + 1 + 1]? = some (.cells #[.int .u64 0, .int .i64 0, .int .u64 0, .string { data := #[] }, .int .i64 0, .int .i64 0, .int .i64 0, .int .u64 0, .string { data := #[] }, .bool false, .int .i64 0, .int .u64 0, .string { data := #[] }, .int .i64 0, .int .i64 0, .int .i64 0, .int .u64 0, .string { data := #[] }, .bool false, .int .u64 0, .int .i64 0, .string { data := #[] }, .bool false, .bool false, .bool false, .slice none 0 0] 36 (0, 0)) ∧ Ext w w') (three_new (Ext.refl _)) ?_
  rintro W1 ⟨h1, h2, h3, e1⟩
  have HX1 := Lib.hid h1
  have HM1 := Lib.hid h2
  have HR1 := Lib.hid h3
  have HE1 := Lib.hid e1
  clear h1 h2 h3 e1
  go_upto_region 2 with (first
    | (refine wpList_load_row rfl 36 _ rfl _ rfl _ _ (0, 0) _ HX1.out Try.underlying36 rfl info_ex ?_)
    | (refine wpList_store_row rfl 36 _ _ rfl _ _ rfl rfl 36 _ (heap_new rfl) info_ex rfl (arr_one x hv1) ?_))
  refine wp_forget (fun w' => ExAt w' W1.heap.size x v ∧ Ext W1 w' ∧ W1.heap.size < w'.heap.size) ⟨setRow_heap _ _ _ _ _ _ (heap_new rfl), ((Ext.refl W1).alloc _).setRow (Nat.le_refl _) _, by simp⟩ ?_
  rintro W2 ⟨h1, e1, h2⟩
  have hl1 : w.heap.size + 1 + 1 < W1.heap.size := (Array.getElem?_eq_some_iff.1 HR1.out).1
  have qx2 : W2.cell? ⟨w.heap.size, 25, none⟩ = some v := by rw [cell_of_row _ _ _ _ _ _ (HX1.out.ext e1)]; rfl
  have lx2 : w.heap.size < W2.heap.size := by omega
  have HY2 := Lib.hid h1
  have HE2 := Lib.hid e1
  clear h1 e1
  have h2' := h2
  go_upto_region 3 with (go_at_call 18; refine (sl_clone v B0 x.h W2 (HO.out.ext (HE1.out.trans HE2.out)) hn).mono ?_; rintro e W3 ⟨v1, rfl, hown, hx⟩; obtain ⟨s1a, s1n, s1c, rfl⟩ := own_slice hown; have HO3 := Lib.hid hown; have hy3 := HY2.out.ext hx; have HY3 := Lib.hid hy3; unfold ExAt Ex.arr at hy3; have qy3 := fun j => cell_of_row W3 _ j _ _ _ hy3; have fy3 := fun j => frozen_of_row W3 _ j _ _ hy3; have ly3 : W1.heap.size < W3.heap.size := (Array.getElem?_eq_some_iff.1 hy3).1; have HE3 := Lib.hid hx; clear hown hx hy3)
  refine wp_forget (fun w' => ExAt w' W1.heap.size x (.slice s1a s1n s1c) ∧ Own w' W2.heap.size x.h (.slice s1a s1n s1c) ∧ Ext W1 w' ∧ W2.heap.size ≤ w'.heap.size) ⟨?a1, ?a2, ?a3, ?a4⟩ ?ar
  case a1 => exact setCell_row (o := 25) HY3.out _
  case a2 => exact own_same HO3.out fun k hk _ => cell_other (o := 25) (show k ≠ W1.heap.size by omega)
  case a3 => exact (HE2.out.trans HE3.out).setCell (Nat.le_refl _) _
  case a4 => simpa [World.setCell] using HE3.out.size
  rintro W4 ⟨h1, h3, h4, h5⟩
  have hx4 := HX1.out.ext h4
  unfold ExAt Ex.arr at hx4
  have qx4 := fun j => cell_of_row W4 _ j _ _ _ hx4
  have lx4 : w.heap.size < W4.heap.size := by omega
  have HY4 := Lib.hid h1
  have HO4 := Lib.hid h3
  have HE4 := Lib.hid h4
  clear h1 h3 h4 hx4 qy3 fy3 ly3 HO3 HY3 HE3 qx2 lx2 HY2
  go_upto_region 4 with fail
  refine wp_forget (fun w' => At4 w w' W2.heap.size W1.heap.size W4.heap.size x m v (.slice s1a s1n s1c) _) ⟨HX1.out.ext (HE4.out.alloc _), heap_ext HM1.out (HE4.out.alloc _), heap_ext HR1.out (HE4.out.alloc _), HY4.out.ext ((Ext.refl _).alloc _), HO4.out.ext ((Ext.refl _).alloc _), heap_new rfl, HE1.out.trans (HE4.out.alloc _), hl1, h2', h5, fun g hg => (own_rowB HO4.out g hg).2, rfl⟩ ?_
  clear qx4 lx4 HX1 HM1 HR1 HY4 HO4 HE4 HE2 HE1
  rintro W5 A4
  have hx5 := A4.hx
  unfold ExAt Ex.arr at hx5
  have qx := fun j => cell_of_row W5 _ j _ _ _ hx5
  have hm5 := A4.hm
  unfold Mv.arr at hm5
  have qm := fun j => cell_of_row W5 _ j _ _ _ hm5
  have hy5 := A4.hy
  unfold ExAt Ex.arr at hy5
  have qy := fun j => cell_of_row W5 _ j _ _ _ hy5
  have fy := fun j => frozen_of_row W5 _ j _ _ hy5
  have lx : w.heap.size < W5.heap.size := (Array.getElem?_eq_some_iff.1 hx5).1
  have lm : w.heap.size + 1 < W5.heap.size := (Array.getElem?_eq_some_iff.1 hm5).1
  have ly : W1.heap.size < W5.heap.size := (Array.getElem?_eq_some_iff.1 hy5).1
  clear hx5 hm5 hy5
  have HA := Lib.hid A4
  clear A4
  have he5 := HA.out.he
  have qe := fun j => cell_of_row W5 _ j _ _ _ he5
  have fe := fun j => frozen_of_row W5 _ j _ _ he5
  have le5 : W4.heap.size < W5.heap.size := (Array.getElem?_eq_some_iff.1 he5).1
  clear he5
  go_wp2_with fail
  go_region
  go_upto_region 28 with fail
  refine wp_forget (fun w' => At8 w w' W2.heap.size W1.heap.size W4.heap.size x m v (.slice s1a s1n s1c) _ #[.int .i64 1, .int .u64 x.c, .string m.t, .int .i64 0, .int .i64 0, .int .u64 0, .string { data := #[] }, .bool false]) (HA.out.to8 ((((Keeps.refl _ _).setCell (.inl (.head _)) _ _).setCell (.inl (.head _)) _ _).ext (Ext.refl _).drew) (setCell_row (o := 2) (setCell_row (o := 0) HA.out.he _) _)) ?_
  clear qx qm qy fy lx lm ly qe fe le5 HA
  rintro W8 A8
  have hx8 := A8.hx
  unfold ExAt Ex.arr at hx8
  have qx := fun j => cell_of_row W8 _ j _ _ _ hx8
  have hm8 := A8.hm
  unfold Mv.arr at hm8
  have qm := fun j => cell_of_row W8 _ j _ _ _ hm8
  have he8 := A8.he
  have qe := fun j => cell_of_row W8 _ j _ _ _ he8
  have lx : w.heap.size < W8.heap.size := (Array.getElem?_eq_some_iff.1 hx8).1
  have lm : w.heap.size + 1 < W8.heap.size := (Array.getElem?_eq_some_iff.1 hm8).1
  have le8 : W4.heap.size < W8.heap.size := (Array.getElem?_eq_some_iff.1 he8).1
  have ly8 : W1.heap.size < W8.heap.size := (Array.getElem?_eq_some_iff.1 A8.hy).1
  clear hx8 hm8 he8
  have hgB : W2.heap.size ≤ W8.heap.size := by have := A8.hge; omega
  have HA := Lib.hid A8
  clear A8
  have hbad := HBad.out
  go_wp2_with (first | (refine wpList_load_row rfl 36 _ rfl _ rfl _ _ (0, 0) _ (HA.out.hy) Try.underlying36 rfl info_ex ?_) | (refine wpList_store_row rfl 36 _ _ rfl _ _ rfl rfl 36 _ (HA.out.hr) info_ex rfl (arr_one (x) rfl) ?_))
  refine bodyPost_ret (results_row_tmp rfl _ _ _ 36 _ (0, 0) _ rfl (setRow_heap _ _ _ _ _ _ (HA.out.hr)) Try.underlying36 rfl info_ex) rfl ?_
  exact ⟨_, rfl, own_setRow (own_base (b' := w.heap.size) (HA.out.ho) (by have := HA.out.hgy; have := HA.out.hB; omega)) (HA.out.hr) (by decide) _, Ext.setRow (HA.out.ext) (by omega) _⟩

end Go.Proofs.Ytodnfbfhdloogaa

/-
  Walks: a party's step. No condition.
-/
namespace Go.Proofs.Ytodnfbfhdloogaa
open Go.RowKit
attribute [local go_sem ↓] eql_lEq eql_sEq eql_eEq eql_oEq neq_lEq neq_sEq neq_eEq neq_oEq eql_vEq neq_vEq eql_nil
attribute [local go_sem] ExtOf.cell ExtOf.frozen ExtOf.lt ExtOf.le
attribute [local go_sem high] ExtOf.cell2 ExtOf.frozen2 ExtOf.lt2 ExtOf.cell3 ExtOf.frozen3 ExtOf.lt3

set_option maxRecDepth 100000 in
set_option maxHeartbeats 3200000 in
theorem st_20bad (x : Ex) (v : Value) (m : Mv) (w : World) (B0 : Nat) (hO : Own w B0 x.h v) (hn : x.h.length ≤ 100000) (h4 : (m.k == 4) = false) (h6 : (m.k == 6) = false) (h5 : (m.k == 5) = false) (h1 : (m.k == 1) = false) (h2 : (m.k == 2) = true) (hcan : canS x m.l = true) (hw : m.who = 0) (hbad : x.b0 = true) : Calls Try.prog 7 #[.agg (x.arr v), .agg m.arr] w (Stpd w x false) := by
  have HBad := Lib.hid hbad
  clear hbad
  have hC := fun w' (hw : Ext w w') => mo_can x v m.l w' (Row.ext hO.row hw)
  rw [hcan] at hC
  have HC := Lib.hid hC
  clear hC hcan
  obtain ⟨sa, sn, sc, hsv⟩ := own_slice hO
  have hv1 : v.oneCell' = true := by rw [hsv]; rfl
  have HO := Lib.hid hO
  clear hO hsv
  go_enter Try.func7, Try.ntmps7
  go_upto_region 1 with fail
  refine wp_forget (fun w' => ExAt w' w.heap.size x v ∧ w'.heap[w.heap.size + 1]? = some (.cells m.arr 41 (0, 0)) ∧ w'.heap[w.heap.size + 1 + 1]? = some (.cells #[.int .u64 0, .int .i64 0, .int .u64 0, .string { data := #[] }, .int .i64 0, .int .i64 0, .int .i64 0, .int .u64 0, .string { data := #[] }, .bool false, .int .i64 0, .int .u64 0, .string { data := #[] }, .int .i64 0, .int .i64 0, .int .i64 0, .int .u64 0, .string { data := #[] }, .bool false, .int .u64 0, .int .i64 0, .string { data := #[] }, .bool false, .bool false, .bool false, .slice none 0 0] 36 (0, 0)) ∧ Ext w w') (three_new (Ext.refl _)) ?_
  rintro W1 ⟨h1, h2, h3, e1⟩
  have HX1 := Lib.hid h1
  have HM1 := Lib.hid h2
  have HR1 := Lib.hid h3
  have HE1 := Lib.hid e1
  clear h1 h2 h3 e1
  go_upto_region 2 with (first
    | (refine wpList_load_row rfl 36 _ rfl _ rfl _ _ (0, 0) _ HX1.out Try.underlying36 rfl info_ex ?_)
    | (refine wpList_store_row rfl 36 _ _ rfl _ _ rfl rfl 36 _ (heap_new rfl) info_ex rfl (arr_one x hv1) ?_))
  refine wp_forget (fun w' => ExAt w' W1.heap.size x v ∧ Ext W1 w' ∧ W1.heap.size < w'.heap.size) ⟨setRow_heap _ _ _ _ _ _ (heap_new rfl), ((Ext.refl W1).alloc _).setRow (Nat.le_refl _) _, by simp⟩ ?_
  rintro W2 ⟨h1, e1, h2⟩
  have hl1 : w.heap.size + 1 + 1 < W1.heap.size := (Array.getElem?_eq_some_iff.1 HR1.out).1
  have qx2 : W2.cell? ⟨w.heap.size, 25, none⟩ = some v := by rw [cell_of_row _ _ _ _ _ _ (HX1.out.ext e1)]; rfl
  have lx2 : w.heap.size < W2.heap.size := by omega
  have HY2 := Lib.hid h1
  have HE2 := Lib.hid e1
  clear h1 e1
  have h2' := h2
  go_upto_region 3 with (go_at_call 18; refine (sl_clone v B0 x.h W2 (HO.out.ext (HE1.out.trans HE2.out)) hn).mono ?_; rintro e W3 ⟨v1, rfl, hown, hx⟩; obtain ⟨s1a, s1n, s1c, rfl⟩ := own_slice hown; have HO3 := Lib.hid hown; have hy3 := HY2.out.ext hx; have HY3 := Lib.hid hy3; unfold ExAt Ex.arr at hy3; have qy3 := fun j => cell_of_row W3 _ j _ _ _ hy3; have fy3 := fun j => frozen_of_row W3 _ j _ _ hy3; have ly3 : W1.heap.size < W3.heap.size := (Array.getElem?_eq_some_iff.1 hy3).1; have HE3 := Lib.hid hx; clear hown hx hy3)
  refine wp_forget (fun w' => ExAt w' W1.heap.size x (.slice s1a s1n s1c) ∧ Own w' W2.heap.size x.h (.slice s1a s1n s1c) ∧ Ext W1 w' ∧ W2.heap.size ≤ w'.heap.size) ⟨?a1, ?a2, ?a3, ?a4⟩ ?ar
  case a1 => exact setCell_row (o := 25) HY3.out _
  case a2 => exact own_same HO3.out fun k hk _ => cell_other (o := 25) (show k ≠ W1.heap.size by omega)
  case a3 => exact (HE2.out.trans HE3.out).setCell (Nat.le_refl _) _
  case a4 => simpa [World.setCell] using HE3.out.size
  rintro W4 ⟨h1, h3, h4, h5⟩
  have hx4 := HX1.out.ext h4
  unfold ExAt Ex.arr at hx4
  have qx4 := fun j => cell_of_row W4 _ j _ _ _ hx4
  have lx4 : w.heap.size < W4.heap.size := by omega
  have HY4 := Lib.hid h1
  have HO4 := Lib.hid h3
  have HE4 := Lib.hid h4
  clear h1 h3 h4 hx4 qy3 fy3 ly3 HO3 HY3 HE3 qx2 lx2 HY2
  go_upto_region 4 with fail
  refine wp_forget (fun w' => At4 w w' W2.heap.size W1.heap.size W4.heap.size x m v (.slice s1a s1n s1c) _) ⟨HX1.out.ext (HE4.out.alloc _), heap_ext HM1.out (HE4.out.alloc _), heap_ext HR1.out (HE4.out.alloc _), HY4.out.ext ((Ext.refl _).alloc _), HO4.out.ext ((Ext.refl _).alloc _), heap_new rfl, HE1.out.trans (HE4.out.alloc _), hl1, h2', h5, fun g hg => (own_rowB HO4.out g hg).2, rfl⟩ ?_
  clear qx4 lx4 HX1 HM1 HR1 HY4 HO4 HE4 HE2 HE1
  rintro W5 A4
  have hx5 := A4.hx
  unfold ExAt Ex.arr at hx5
  have qx := fun j => cell_of_row W5 _ j _ _ _ hx5
  have hm5 := A4.hm
  unfold Mv.arr at hm5
  have qm := fun j => cell_of_row W5 _ j _ _ _ hm5
  have hy5 := A4.hy
  unfold ExAt Ex.arr at hy5
  have qy := fun j => cell_of_row W5 _ j _ _ _ hy5
  have fy := fun j => frozen_of_row W5 _ j _ _ hy5
  have lx : w.heap.size < W5.heap.size := (Array.getElem?_eq_some_iff.1 hx5).1
  have lm : w.heap.size + 1 < W5.heap.size := (Array.getElem?_eq_some_iff.1 hm5).1
  have ly : W1.heap.size < W5.heap.size := (Array.getElem?_eq_some_iff.1 hy5).1
  clear hx5 hm5 hy5
  have HA := Lib.hid A4
  clear A4
  have he5 := HA.out.he
  have qe := fun j => cell_of_row W5 _ j _ _ _ he5
  have fe := fun j => frozen_of_row W5 _ j _ _ he5
  have le5 : W4.heap.size < W5.heap.size := (Array.getElem?_eq_some_iff.1 he5).1
  clear he5
  go_wp2_with (first | (go_at_call 13; refine (HC.out _ HA.out.ext).mono ?_; rintro e W6 ⟨rfl, hx⟩; have hm6 := heap_ext HA.out.hm hx; unfold Mv.arr at hm6; have hx6 := HA.out.hx.ext hx; unfold ExAt Ex.arr at hx6; have he6 := heap_ext HA.out.he hx; clear qm qx qy fy lx lm ly qe fe le5; have qm := fun j => cell_of_row W6 _ j _ _ _ hm6; have qx := fun j => cell_of_row W6 _ j _ _ _ hx6; have qe := fun j => cell_of_row W6 _ j _ _ _ he6; have fe := fun j => frozen_of_row W6 _ j _ _ he6; have lm : w.heap.size + 1 < W6.heap.size := (Array.getElem?_eq_some_iff.1 hm6).1; have lx : w.heap.size < W6.heap.size := (Array.getElem?_eq_some_iff.1 hx6).1; have le6 : W4.heap.size < W6.heap.size := (Array.getElem?_eq_some_iff.1 he6).1; have HX6 := Lib.hid hx; clear hx hm6 hx6 he6) | (refine wpList_load_row rfl 36 _ rfl _ rfl _ _ (0, 0) _ (HA.out.hx) Try.underlying36 rfl info_ex ?_))
  go_region
  go_upto_region 28 with fail
  have he60 := heap_ext HA.out.he HX6.out
  have hk60 : Keeps [W4.heap.size] W6 W6 := Keeps.refl _ _
  have he61 : (W6.setCell ⟨W4.heap.size, 0, none⟩ (.int .i64 2)).heap[W4.heap.size]? = some (.cells #[.int .i64 2, .int .u64 x.c, .string { data := #[] }, .int .i64 0, .int .i64 0, .int .u64 0, .string { data := #[] }, .bool false] 54 (0, 0)) := setCell_row he60 _
  have hk61 : Keeps [W4.heap.size] W6 (W6.setCell ⟨W4.heap.size, 0, none⟩ (.int .i64 2)) := hk60.setCell (.inl (.head _)) _ _
  have he62 : ((W6.setCell ⟨W4.heap.size, 0, none⟩ (.int .i64 2)).setCell ⟨W4.heap.size, 3, none⟩ (.int .i64 m.l.k)).heap[W4.heap.size]? = some (.cells #[.int .i64 2, .int .u64 x.c, .string { data := #[] }, .int .i64 m.l.k, .int .i64 0, .int .u64 0, .string { data := #[] }, .bool false] 54 (0, 0)) := setCell_row he61 _
  have hk62 : Keeps [W4.heap.size] W6 ((W6.setCell ⟨W4.heap.size, 0, none⟩ (.int .i64 2)).setCell ⟨W4.heap.size, 3, none⟩ (.int .i64 m.l.k)) := hk61.setCell (.inl (.head _)) _ _
  have he63 : (((W6.setCell ⟨W4.heap.size, 0, none⟩ (.int .i64 2)).setCell ⟨W4.heap.size, 3, none⟩ (.int .i64 m.l.k)).setCell ⟨W4.heap.size, 4, none⟩ (.int .i64 m.l.f)).heap[W4.heap.size]? = some (.cells #[.int .i64 2, .int .u64 x.c, .string { data := #[] }, .int .i64 m.l.k, .int .i64 m.l.f, .int .u64 0, .string { data := #[] }, .bool false] 54 (0, 0)) := setCell_row he62 _
  have hk63 : Keeps [W4.heap.size] W6 (((W6.setCell ⟨W4.heap.size, 0, none⟩ (.int .i64 2)).setCell ⟨W4.heap.size, 3, none⟩ (.int .i64 m.l.k)).setCell ⟨W4.heap.size, 4, none⟩ (.int .i64 m.l.f)) := hk62.setCell (.inl (.head _)) _ _
  have he64 : ((((W6.setCell ⟨W4.heap.size, 0, none⟩ (.int .i64 2)).setCell ⟨W4.heap.size, 3, none⟩ (.int .i64 m.l.k)).setCell ⟨W4.heap.size, 4, none⟩ (.int .i64 m.l.f)).setCell ⟨W4.heap.size, 5, none⟩ (.int .u64 m.l.c)).heap[W4.heap.size]? = some (.cells #[.int .i64 2, .int .u64 x.c, .string { data := #[] }, .int .i64 m.l.k, .int .i64 m.l.f, .int .u64 m.l.c, .string { data := #[] }, .bool false] 54 (0, 0)) := setCell_row he63 _
  have hk64 : Keeps [W4.heap.size] W6 ((((W6.setCell ⟨W4.heap.size, 0, none⟩ (.int .i64 2)).setCell ⟨W4.heap.size, 3, none⟩ (.int .i64 m.l.k)).setCell ⟨W4.heap.size, 4, none⟩ (.int .i64 m.l.f)).setCell ⟨W4.heap.size, 5, none⟩ (.int .u64 m.l.c)) := hk63.setCell (.inl (.head _)) _ _
  have he65 : (((((W6.setCell ⟨W4.heap.size, 0, none⟩ (.int .i64 2)).setCell ⟨W4.heap.size, 3, none⟩ (.int .i64 m.l.k)).setCell ⟨W4.heap.size, 4, none⟩ (.int .i64 m.l.f)).setCell ⟨W4.heap.size, 5, none⟩ (.int .u64 m.l.c)).setCell ⟨W4.heap.size, 6, none⟩ (.string m.l.t)).heap[W4.heap.size]? = some (.cells #[.int .i64 2, .int .u64 x.c, .string { data := #[] }, .int .i64 m.l.k, .int .i64 m.l.f, .int .u64 m.l.c, .string m.l.t, .bool false] 54 (0, 0)) := setCell_row he64 _
  have hk65 : Keeps [W4.heap.size] W6 (((((W6.setCell ⟨W4.heap.size, 0, none⟩ (.int .i64 2)).setCell ⟨W4.heap.size, 3, none⟩ (.int .i64 m.l.k)).setCell ⟨W4.heap.size, 4, none⟩ (.int .i64 m.l.f)).setCell ⟨W4.heap.size, 5, none⟩ (.int .u64 m.l.c)).setCell ⟨W4.heap.size, 6, none⟩ (.string m.l.t)) := hk64.setCell (.inl (.head _)) _ _
  have he66 : ((((((W6.setCell ⟨W4.heap.size, 0, none⟩ (.int .i64 2)).setCell ⟨W4.heap.size, 3, none⟩ (.int .i64 m.l.k)).setCell ⟨W4.heap.size, 4, none⟩ (.int .i64 m.l.f)).setCell ⟨W4.heap.size, 5, none⟩ (.int .u64 m.l.c)).setCell ⟨W4.heap.size, 6, none⟩ (.string m.l.t)).setCell ⟨W4.heap.size, 7, none⟩ (.bool m.l.b)).heap[W4.heap.size]? = some (.cells #[.int .i64 2, .int .u64 x.c, .string { data := #[] }, .int .i64 m.l.k, .int .i64 m.l.f, .int .u64 m.l.c, .string m.l.t, .bool m.l.b] 54 (0, 0)) := setCell_row he65 _
  have hk66 : Keeps [W4.heap.size] W6 ((((((W6.setCell ⟨W4.heap.size, 0, none⟩ (.int .i64 2)).setCell ⟨W4.heap.size, 3, none⟩ (.int .i64 m.l.k)).setCell ⟨W4.heap.size, 4, none⟩ (.int .i64 m.l.f)).setCell ⟨W4.heap.size, 5, none⟩ (.int .u64 m.l.c)).setCell ⟨W4.heap.size, 6, none⟩ (.string m.l.t)).setCell ⟨W4.heap.size, 7, none⟩ (.bool m.l.b)) := hk65.setCell (.inl (.head _)) _ _
  have hat8 : At8 w ((((((W6.setCell ⟨W4.heap.size, 0, none⟩ (.int .i64 2)).setCell ⟨W4.heap.size, 3, none⟩ (.int .i64 m.l.k)).setCell ⟨W4.heap.size, 4, none⟩ (.int .i64 m.l.f)).setCell ⟨W4.heap.size, 5, none⟩ (.int .u64 m.l.c)).setCell ⟨W4.heap.size, 6, none⟩ (.string m.l.t)).setCell ⟨W4.heap.size, 7, none⟩ (.bool m.l.b)).drew W2.heap.size W1.heap.size W4.heap.size x m v (.slice s1a s1n s1c) _ #[.int .i64 2, .int .u64 x.c, .string { data := #[] }, .int .i64 m.l.k, .int .i64 m.l.f, .int .u64 m.l.c, .string m.l.t, .bool m.l.b] := (HA.out.ext' HX6.out).to8 (hk66.ext (Ext.refl _).drew) (heap_ext he66 (Ext.refl _).drew)
  clear he60 hk60 he61 hk61 he62 hk62 he63 hk63 he64 hk64 he65 hk65 he66 hk66
  refine wp_forget (fun w' => At8 w w' W2.heap.size W1.heap.size W4.heap.size x m v (.slice s1a s1n s1c) _ #[.int .i64 2, .int .u64 x.c, .string { data := #[] }, .int .i64 m.l.k, .int .i64 m.l.f, .int .u64 m.l.c, .string m.l.t, .bool m.l.b]) hat8 ?_
  clear qx qm qe fe lm lx le6 HA hat8 HX6
  rintro W8 A8
  have hx8 := A8.hx
  unfold ExAt Ex.arr at hx8
  have qx := fun j => cell_of_row W8 _ j _ _ _ hx8
  have hm8 := A8.hm
  unfold Mv.arr at hm8
  have qm := fun j => cell_of_row W8 _ j _ _ _ hm8
  have he8 := A8.he
  have qe := fun j => cell_of_row W8 _ j _ _ _ he8
  have lx : w.heap.size < W8.heap.size := (Array.getElem?_eq_some_iff.1 hx8).1
  have lm : w.heap.size + 1 < W8.heap.size := (Array.getElem?_eq_some_iff.1 hm8).1
  have le8 : W4.heap.size < W8.heap.size := (Array.getElem?_eq_some_iff.1 he8).1
  have ly8 : W1.heap.size < W8.heap.size := (Array.getElem?_eq_some_iff.1 A8.hy).1
  clear hx8 hm8 he8
  have hgB : W2.heap.size ≤ W8.heap.size := by have := A8.hge; omega
  have HA := Lib.hid A8
  clear A8
  have hbad := HBad.out
  go_wp2_with (first | (refine wpList_load_row rfl 36 _ rfl _ rfl _ _ (0, 0) _ (HA.out.hy) Try.underlying36 rfl info_ex ?_) | (refine wpList_store_row rfl 36 _ _ rfl _ _ rfl rfl 36 _ (HA.out.hr) info_ex rfl (arr_one (x) rfl) ?_))
  refine bodyPost_ret (results_row_tmp rfl _ _ _ 36 _ (0, 0) _ rfl (setRow_heap _ _ _ _ _ _ (HA.out.hr)) Try.underlying36 rfl info_ex) rfl ?_
  exact ⟨_, rfl, own_setRow (own_base (b' := w.heap.size) (HA.out.ho) (by have := HA.out.hgy; have := HA.out.hB; omega)) (HA.out.hr) (by decide) _, Ext.setRow (HA.out.ext) (by omega) _⟩

end Go.Proofs.Ytodnfbfhdloogaa

/-
  Walks: a party's step. No condition.
-/
namespace Go.Proofs.Ytodnfbfhdloogaa
open Go.RowKit
attribute [local go_sem ↓] eql_lEq eql_sEq eql_eEq eql_oEq neq_lEq neq_sEq neq_eEq neq_oEq eql_vEq neq_vEq eql_nil
attribute [local go_sem] ExtOf.cell ExtOf.frozen ExtOf.lt ExtOf.le
attribute [local go_sem high] ExtOf.cell2 ExtOf.frozen2 ExtOf.lt2 ExtOf.cell3 ExtOf.frozen3 ExtOf.lt3

set_option maxRecDepth 100000 in
set_option maxHeartbeats 3200000 in
theorem st_21bad (x : Ex) (v : Value) (m : Mv) (w : World) (B0 : Nat) (hO : Own w B0 x.h v) (hn : x.h.length ≤ 100000) (h4 : (m.k == 4) = false) (h6 : (m.k == 6) = false) (h5 : (m.k == 5) = false) (h1 : (m.k == 1) = false) (h2 : (m.k == 2) = true) (hcan : canS x m.l = true) (hw : m.who = 1) (hbad : x.b1 = true) : Calls Try.prog 7 #[.agg (x.arr v), .agg m.arr] w (Stpd w x false) := by
  have HBad := Lib.hid hbad
  clear hbad
  have hC := fun w' (hw : Ext w w') => mo_can x v m.l w' (Row.ext hO.row hw)
  rw [hcan] at hC
  have HC := Lib.hid hC
  clear hC hcan
  obtain ⟨sa, sn, sc, hsv⟩ := own_slice hO
  have hv1 : v.oneCell' = true := by rw [hsv]; rfl
  have HO := Lib.hid hO
  clear hO hsv
  go_enter Try.func7, Try.ntmps7
  go_upto_region 1 with fail
  refine wp_forget (fun w' => ExAt w' w.heap.size x v ∧ w'.heap[w.heap.size + 1]? = some (.cells m.arr 41 (0, 0)) ∧ w'.heap[w.heap.size + 1 + 1]? = some (.cells #[.int .u64 0, .int .i64 0, .int .u64 0, .string { data := #[] }, .int .i64 0, .int .i64 0, .int .i64 0, .int .u64 0, .string { data := #[] }, .bool false, .int .i64 0, .int .u64 0, .string { data := #[] }, .int .i64 0, .int .i64 0, .int .i64 0, .int .u64 0, .string { data := #[] }, .bool false, .int .u64 0, .int .i64 0, .string { data := #[] }, .bool false, .bool false, .bool false, .slice none 0 0] 36 (0, 0)) ∧ Ext w w') (three_new (Ext.refl _)) ?_
  rintro W1 ⟨h1, h2, h3, e1⟩
  have HX1 := Lib.hid h1
  have HM1 := Lib.hid h2
  have HR1 := Lib.hid h3
  have HE1 := Lib.hid e1
  clear h1 h2 h3 e1
  go_upto_region 2 with (first
    | (refine wpList_load_row rfl 36 _ rfl _ rfl _ _ (0, 0) _ HX1.out Try.underlying36 rfl info_ex ?_)
    | (refine wpList_store_row rfl 36 _ _ rfl _ _ rfl rfl 36 _ (heap_new rfl) info_ex rfl (arr_one x hv1) ?_))
  refine wp_forget (fun w' => ExAt w' W1.heap.size x v ∧ Ext W1 w' ∧ W1.heap.size < w'.heap.size) ⟨setRow_heap _ _ _ _ _ _ (heap_new rfl), ((Ext.refl W1).alloc _).setRow (Nat.le_refl _) _, by simp⟩ ?_
  rintro W2 ⟨h1, e1, h2⟩
  have hl1 : w.heap.size + 1 + 1 < W1.heap.size := (Array.getElem?_eq_some_iff.1 HR1.out).1
  have qx2 : W2.cell? ⟨w.heap.size, 25, none⟩ = some v := by rw [cell_of_row _ _ _ _ _ _ (HX1.out.ext e1)]; rfl
  have lx2 : w.heap.size < W2.heap.size := by omega
  have HY2 := Lib.hid h1
  have HE2 := Lib.hid e1
  clear h1 e1
  have h2' := h2
  go_upto_region 3 with (go_at_call 18; refine (sl_clone v B0 x.h W2 (HO.out.ext (HE1.out.trans HE2.out)) hn).mono ?_; rintro e W3 ⟨v1, rfl, hown, hx⟩; obtain ⟨s1a, s1n, s1c, rfl⟩ := own_slice hown; have HO3 := Lib.hid hown; have hy3 := HY2.out.ext hx; have HY3 := Lib.hid hy3; unfold ExAt Ex.arr at hy3; have qy3 := fun j => cell_of_row W3 _ j _ _ _ hy3; have fy3 := fun j => frozen_of_row W3 _ j _ _ hy3; have ly3 : W1.heap.size < W3.heap.size := (Array.getElem?_eq_some_iff.1 hy3).1; have HE3 := Lib.hid hx; clear hown hx hy3)
  refine wp_forget (fun w' => ExAt w' W1.heap.size x (.slice s1a s1n s1c) ∧ Own w' W2.heap.size x.h (.slice s1a s1n s1c) ∧ Ext W1 w' ∧ W2.heap.size ≤ w'.heap.size) ⟨?a1, ?a2, ?a3, ?a4⟩ ?ar
  case a1 => exact setCell_row (o := 25) HY3.out _
  case a2 => exact own_same HO3.out fun k hk _ => cell_other (o := 25) (show k ≠ W1.heap.size by omega)
  case a3 => exact (HE2.out.trans HE3.out).setCell (Nat.le_refl _) _
  case a4 => simpa [World.setCell] using HE3.out.size
  rintro W4 ⟨h1, h3, h4, h5⟩
  have hx4 := HX1.out.ext h4
  unfold ExAt Ex.arr at hx4
  have qx4 := fun j => cell_of_row W4 _ j _ _ _ hx4
  have lx4 : w.heap.size < W4.heap.size := by omega
  have HY4 := Lib.hid h1
  have HO4 := Lib.hid h3
  have HE4 := Lib.hid h4
  clear h1 h3 h4 hx4 qy3 fy3 ly3 HO3 HY3 HE3 qx2 lx2 HY2
  go_upto_region 4 with fail
  refine wp_forget (fun w' => At4 w w' W2.heap.size W1.heap.size W4.heap.size x m v (.slice s1a s1n s1c) _) ⟨HX1.out.ext (HE4.out.alloc _), heap_ext HM1.out (HE4.out.alloc _), heap_ext HR1.out (HE4.out.alloc _), HY4.out.ext ((Ext.refl _).alloc _), HO4.out.ext ((Ext.refl _).alloc _), heap_new rfl, HE1.out.trans (HE4.out.alloc _), hl1, h2', h5, fun g hg => (own_rowB HO4.out g hg).2, rfl⟩ ?_
  clear qx4 lx4 HX1 HM1 HR1 HY4 HO4 HE4 HE2 HE1
  rintro W5 A4
  have hx5 := A4.hx
  unfold ExAt Ex.arr at hx5
  have qx := fun j => cell_of_row W5 _ j _ _ _ hx5
  have hm5 := A4.hm
  unfold Mv.arr at hm5
  have qm := fun j => cell_of_row W5 _ j _ _ _ hm5
  have hy5 := A4.hy
  unfold ExAt Ex.arr at hy5
  have qy := fun j => cell_of_row W5 _ j _ _ _ hy5
  have fy := fun j => frozen_of_row W5 _ j _ _ hy5
  have lx : w.heap.size < W5.heap.size := (Array.getElem?_eq_some_iff.1 hx5).1
  have lm : w.heap.size + 1 < W5.heap.size := (Array.getElem?_eq_some_iff.1 hm5).1
  have ly : W1.heap.size < W5.heap.size := (Array.getElem?_eq_some_iff.1 hy5).1
  clear hx5 hm5 hy5
  have HA := Lib.hid A4
  clear A4
  have he5 := HA.out.he
  have qe := fun j => cell_of_row W5 _ j _ _ _ he5
  have fe := fun j => frozen_of_row W5 _ j _ _ he5
  have le5 : W4.heap.size < W5.heap.size := (Array.getElem?_eq_some_iff.1 he5).1
  clear he5
  go_wp2_with (first | (go_at_call 13; refine (HC.out _ HA.out.ext).mono ?_; rintro e W6 ⟨rfl, hx⟩; have hm6 := heap_ext HA.out.hm hx; unfold Mv.arr at hm6; have hx6 := HA.out.hx.ext hx; unfold ExAt Ex.arr at hx6; have he6 := heap_ext HA.out.he hx; clear qm qx qy fy lx lm ly qe fe le5; have qm := fun j => cell_of_row W6 _ j _ _ _ hm6; have qx := fun j => cell_of_row W6 _ j _ _ _ hx6; have qe := fun j => cell_of_row W6 _ j _ _ _ he6; have fe := fun j => frozen_of_row W6 _ j _ _ he6; have lm : w.heap.size + 1 < W6.heap.size := (Array.getElem?_eq_some_iff.1 hm6).1; have lx : w.heap.size < W6.heap.size := (Array.getElem?_eq_some_iff.1 hx6).1; have le6 : W4.heap.size < W6.heap.size := (Array.getElem?_eq_some_iff.1 he6).1; have HX6 := Lib.hid hx; clear hx hm6 hx6 he6) | (refine wpList_load_row rfl 36 _ rfl _ rfl _ _ (0, 0) _ (HA.out.hx) Try.underlying36 rfl info_ex ?_))
  go_region
  go_upto_region 28 with fail
  have he60 := heap_ext HA.out.he HX6.out
  have hk60 : Keeps [W4.heap.size] W6 W6 := Keeps.refl _ _
  have he61 : (W6.setCell ⟨W4.heap.size, 0, none⟩ (.int .i64 2)).heap[W4.heap.size]? = some (.cells #[.int .i64 2, .int .u64 x.c, .string { data := #[] }, .int .i64 0, .int .i64 0, .int .u64 0, .string { data := #[] }, .bool false] 54 (0, 0)) := setCell_row he60 _
  have hk61 : Keeps [W4.heap.size] W6 (W6.setCell ⟨W4.heap.size, 0, none⟩ (.int .i64 2)) := hk60.setCell (.inl (.head _)) _ _
  have he62 : ((W6.setCell ⟨W4.heap.size, 0, none⟩ (.int .i64 2)).setCell ⟨W4.heap.size, 3, none⟩ (.int .i64 m.l.k)).heap[W4.heap.size]? = some (.cells #[.int .i64 2, .int .u64 x.c, .string { data := #[] }, .int .i64 m.l.k, .int .i64 0, .int .u64 0, .string { data := #[] }, .bool false] 54 (0, 0)) := setCell_row he61 _
  have hk62 : Keeps [W4.heap.size] W6 ((W6.setCell ⟨W4.heap.size, 0, none⟩ (.int .i64 2)).setCell ⟨W4.heap.size, 3, none⟩ (.int .i64 m.l.k)) := hk61.setCell (.inl (.head _)) _ _
  have he63 : (((W6.setCell ⟨W4.heap.size, 0, none⟩ (.int .i64 2)).setCell ⟨W4.heap.size, 3, none⟩ (.int .i64 m.l.k)).setCell ⟨W4.heap.size, 4, none⟩ (.int .i64 m.l.f)).heap[W4.heap.size]? = some (.cells #[.int .i64 2, .int .u64 x.c, .string { data := #[] }, .int .i64 m.l.k, .int .i64 m.l.f, .int .u64 0, .string { data := #[] }, .bool false] 54 (0, 0)) := setCell_row he62 _
  have hk63 : Keeps [W4.heap.size] W6 (((W6.setCell ⟨W4.heap.size, 0, none⟩ (.int .i64 2)).setCell ⟨W4.heap.size, 3, none⟩ (.int .i64 m.l.k)).setCell ⟨W4.heap.size, 4, none⟩ (.int .i64 m.l.f)) := hk62.setCell (.inl (.head _)) _ _
  have he64 : ((((W6.setCell ⟨W4.heap.size, 0, none⟩ (.int .i64 2)).setCell ⟨W4.heap.size, 3, none⟩ (.int .i64 m.l.k)).setCell ⟨W4.heap.size, 4, none⟩ (.int .i64 m.l.f)).setCell ⟨W4.heap.size, 5, none⟩ (.int .u64 m.l.c)).heap[W4.heap.size]? = some (.cells #[.int .i64 2, .int .u64 x.c, .string { data := #[] }, .int .i64 m.l.k, .int .i64 m.l.f, .int .u64 m.l.c, .string { data := #[] }, .bool false] 54 (0, 0)) := setCell_row he63 _
  have hk64 : Keeps [W4.heap.size] W6 ((((W6.setCell ⟨W4.heap.size, 0, none⟩ (.int .i64 2)).setCell ⟨W4.heap.size, 3, none⟩ (.int .i64 m.l.k)).setCell ⟨W4.heap.size, 4, none⟩ (.int .i64 m.l.f)).setCell ⟨W4.heap.size, 5, none⟩ (.int .u64 m.l.c)) := hk63.setCell (.inl (.head _)) _ _
  have he65 : (((((W6.setCell ⟨W4.heap.size, 0, none⟩ (.int .i64 2)).setCell ⟨W4.heap.size, 3, none⟩ (.int .i64 m.l.k)).setCell ⟨W4.heap.size, 4, none⟩ (.int .i64 m.l.f)).setCell ⟨W4.heap.size, 5, none⟩ (.int .u64 m.l.c)).setCell ⟨W4.heap.size, 6, none⟩ (.string m.l.t)).heap[W4.heap.size]? = some (.cells #[.int .i64 2, .int .u64 x.c, .string { data := #[] }, .int .i64 m.l.k, .int .i64 m.l.f, .int .u64 m.l.c, .string m.l.t, .bool false] 54 (0, 0)) := setCell_row he64 _
  have hk65 : Keeps [W4.heap.size] W6 (((((W6.setCell ⟨W4.heap.size, 0, none⟩ (.int .i64 2)).setCell ⟨W4.heap.size, 3, none⟩ (.int .i64 m.l.k)).setCell ⟨W4.heap.size, 4, none⟩ (.int .i64 m.l.f)).setCell ⟨W4.heap.size, 5, none⟩ (.int .u64 m.l.c)).setCell ⟨W4.heap.size, 6, none⟩ (.string m.l.t)) := hk64.setCell (.inl (.head _)) _ _
  have he66 : ((((((W6.setCell ⟨W4.heap.size, 0, none⟩ (.int .i64 2)).setCell ⟨W4.heap.size, 3, none⟩ (.int .i64 m.l.k)).setCell ⟨W4.heap.size, 4, none⟩ (.int .i64 m.l.f)).setCell ⟨W4.heap.size, 5, none⟩ (.int .u64 m.l.c)).setCell ⟨W4.heap.size, 6, none⟩ (.string m.l.t)).setCell ⟨W4.heap.size, 7, none⟩ (.bool m.l.b)).heap[W4.heap.size]? = some (.cells #[.int .i64 2, .int .u64 x.c, .string { data := #[] }, .int .i64 m.l.k, .int .i64 m.l.f, .int .u64 m.l.c, .string m.l.t, .bool m.l.b] 54 (0, 0)) := setCell_row he65 _
  have hk66 : Keeps [W4.heap.size] W6 ((((((W6.setCell ⟨W4.heap.size, 0, none⟩ (.int .i64 2)).setCell ⟨W4.heap.size, 3, none⟩ (.int .i64 m.l.k)).setCell ⟨W4.heap.size, 4, none⟩ (.int .i64 m.l.f)).setCell ⟨W4.heap.size, 5, none⟩ (.int .u64 m.l.c)).setCell ⟨W4.heap.size, 6, none⟩ (.string m.l.t)).setCell ⟨W4.heap.size, 7, none⟩ (.bool m.l.b)) := hk65.setCell (.inl (.head _)) _ _
  have hat8 : At8 w ((((((W6.setCell ⟨W4.heap.size, 0, none⟩ (.int .i64 2)).setCell ⟨W4.heap.size, 3, none⟩ (.int .i64 m.l.k)).setCell ⟨W4.heap.size, 4, none⟩ (.int .i64 m.l.f)).setCell ⟨W4.heap.size, 5, none⟩ (.int .u64 m.l.c)).setCell ⟨W4.heap.size, 6, none⟩ (.string m.l.t)).setCell ⟨W4.heap.size, 7, none⟩ (.bool m.l.b)).drew W2.heap.size W1.heap.size W4.heap.size x m v (.slice s1a s1n s1c) _ #[.int .i64 2, .int .u64 x.c, .string { data := #[] }, .int .i64 m.l.k, .int .i64 m.l.f, .int .u64 m.l.c, .string m.l.t, .bool m.l.b] := (HA.out.ext' HX6.out).to8 (hk66.ext (Ext.refl _).drew) (heap_ext he66 (Ext.refl _).drew)
  clear he60 hk60 he61 hk61 he62 hk62 he63 hk63 he64 hk64 he65 hk65 he66 hk66
  refine wp_forget (fun w' => At8 w w' W2.heap.size W1.heap.size W4.heap.size x m v (.slice s1a s1n s1c) _ #[.int .i64 2, .int .u64 x.c, .string { data := #[] }, .int .i64 m.l.k, .int .i64 m.l.f, .int .u64 m.l.c, .string m.l.t, .bool m.l.b]) hat8 ?_
  clear qx qm qe fe lm lx le6 HA hat8 HX6
  rintro W8 A8
  have hx8 := A8.hx
  unfold ExAt Ex.arr at hx8
  have qx := fun j => cell_of_row W8 _ j _ _ _ hx8
  have hm8 := A8.hm
  unfold Mv.arr at hm8
  have qm := fun j => cell_of_row W8 _ j _ _ _ hm8
  have he8 := A8.he
  have qe := fun j => cell_of_row W8 _ j _ _ _ he8
  have lx : w.heap.size < W8.heap.size := (Array.getElem?_eq_some_iff.1 hx8).1
  have lm : w.heap.size + 1 < W8.heap.size := (Array.getElem?_eq_some_iff.1 hm8).1
  have le8 : W4.heap.size < W8.heap.size := (Array.getElem?_eq_some_iff.1 he8).1
  have ly8 : W1.heap.size < W8.heap.size := (Array.getElem?_eq_some_iff.1 A8.hy).1
  clear hx8 hm8 he8
  have hgB : W2.heap.size ≤ W8.heap.size := by have := A8.hge; omega
  have HA := Lib.hid A8
  clear A8
  have hbad := HBad.out
  go_wp2_with (first | (refine wpList_load_row rfl 36 _ rfl _ rfl _ _ (0, 0) _ (HA.out.hy) Try.underlying36 rfl info_ex ?_) | (refine wpList_store_row rfl 36 _ _ rfl _ _ rfl rfl 36 _ (HA.out.hr) info_ex rfl (arr_one (x) rfl) ?_))
  refine bodyPost_ret (results_row_tmp rfl _ _ _ 36 _ (0, 0) _ rfl (setRow_heap _ _ _ _ _ _ (HA.out.hr)) Try.underlying36 rfl info_ex) rfl ?_
  exact ⟨_, rfl, own_setRow (own_base (b' := w.heap.size) (HA.out.ho) (by have := HA.out.hgy; have := HA.out.hB; omega)) (HA.out.hr) (by decide) _, Ext.setRow (HA.out.ext) (by omega) _⟩

end Go.Proofs.Ytodnfbfhdloogaa

/-
  Walks: a party's step. No condition.
-/
namespace Go.Proofs.Ytodnfbfhdloogaa
open Go.RowKit
attribute [local go_sem ↓] eql_lEq eql_sEq eql_eEq eql_oEq neq_lEq neq_sEq neq_eEq neq_oEq eql_vEq neq_vEq eql_nil
attribute [local go_sem] ExtOf.cell ExtOf.frozen ExtOf.lt ExtOf.le
attribute [local go_sem high] ExtOf.cell2 ExtOf.frozen2 ExtOf.lt2 ExtOf.cell3 ExtOf.frozen3 ExtOf.lt3

set_option maxRecDepth 100000 in
set_option maxHeartbeats 3200000 in
theorem st_30bad (x : Ex) (v : Value) (m : Mv) (w : World) (B0 : Nat) (hO : Own w B0 x.h v) (hn : x.h.length ≤ 100000) (h4 : (m.k == 4) = false) (h6 : (m.k == 6) = false) (h5 : (m.k == 5) = false) (h1 : (m.k == 1) = false) (h2 : (m.k == 2) = false) (h3 : (m.k == 3) = true) (hw : m.who = 0) (hbad : x.b0 = true) : Calls Try.prog 7 #[.agg (x.arr v), .agg m.arr] w (Stpd w x false) := by
  have HBad := Lib.hid hbad
  clear hbad
  obtain ⟨sa, sn, sc, hsv⟩ := own_slice hO
  have hv1 : v.oneCell' = true := by rw [hsv]; rfl
  have HO := Lib.hid hO
  clear hO hsv
  go_enter Try.func7, Try.ntmps7
  go_upto_region 1 with fail
  refine wp_forget (fun w' => ExAt w' w.heap.size x v ∧ w'.heap[w.heap.size + 1]? = some (.cells m.arr 41 (0, 0)) ∧ w'.heap[w.heap.size + 1 + 1]? = some (.cells #[.int .u64 0, .int .i64 0, .int .u64 0, .string { data := #[] }, .int .i64 0, .int .i64 0, .int .i64 0, .int .u64 0, .string { data := #[] }, .bool false, .int .i64 0, .int .u64 0, .string { data := #[] }, .int .i64 0, .int .i64 0, .int .i64 0, .int .u64 0, .string { data := #[] }, .bool false, .int .u64 0, .int .i64 0, .string { data := #[] }, .bool false, .bool false, .bool false, .slice none 0 0] 36 (0, 0)) ∧ Ext w w') (three_new (Ext.refl _)) ?_
  rintro W1 ⟨h1, h2, h3, e1⟩
  have HX1 := Lib.hid h1
  have HM1 := Lib.hid h2
  have HR1 := Lib.hid h3
  have HE1 := Lib.hid e1
  clear h1 h2 h3 e1
  go_upto_region 2 with (first
    | (refine wpList_load_row rfl 36 _ rfl _ rfl _ _ (0, 0) _ HX1.out Try.underlying36 rfl info_ex ?_)
    | (refine wpList_store_row rfl 36 _ _ rfl _ _ rfl rfl 36 _ (heap_new rfl) info_ex rfl (arr_one x hv1) ?_))
  refine wp_forget (fun w' => ExAt w' W1.heap.size x v ∧ Ext W1 w' ∧ W1.heap.size < w'.heap.size) ⟨setRow_heap _ _ _ _ _ _ (heap_new rfl), ((Ext.refl W1).alloc _).setRow (Nat.le_refl _) _, by simp⟩ ?_
  rintro W2 ⟨h1, e1, h2⟩
  have hl1 : w.heap.size + 1 + 1 < W1.heap.size := (Array.getElem?_eq_some_iff.1 HR1.out).1
  have qx2 : W2.cell? ⟨w.heap.size, 25, none⟩ = some v := by rw [cell_of_row _ _ _ _ _ _ (HX1.out.ext e1)]; rfl
  have lx2 : w.heap.size < W2.heap.size := by omega
  have HY2 := Lib.hid h1
  have HE2 := Lib.hid e1
  clear h1 e1
  have h2' := h2
  go_upto_region 3 with (go_at_call 18; refine (sl_clone v B0 x.h W2 (HO.out.ext (HE1.out.trans HE2.out)) hn).mono ?_; rintro e W3 ⟨v1, rfl, hown, hx⟩; obtain ⟨s1a, s1n, s1c, rfl⟩ := own_slice hown; have HO3 := Lib.hid hown; have hy3 := HY2.out.ext hx; have HY3 := Lib.hid hy3; unfold ExAt Ex.arr at hy3; have qy3 := fun j => cell_of_row W3 _ j _ _ _ hy3; have fy3 := fun j => frozen_of_row W3 _ j _ _ hy3; have ly3 : W1.heap.size < W3.heap.size := (Array.getElem?_eq_some_iff.1 hy3).1; have HE3 := Lib.hid hx; clear hown hx hy3)
  refine wp_forget (fun w' => ExAt w' W1.heap.size x (.slice s1a s1n s1c) ∧ Own w' W2.heap.size x.h (.slice s1a s1n s1c) ∧ Ext W1 w' ∧ W2.heap.size ≤ w'.heap.size) ⟨?a1, ?a2, ?a3, ?a4⟩ ?ar
  case a1 => exact setCell_row (o := 25) HY3.out _
  case a2 => exact own_same HO3.out fun k hk _ => cell_other (o := 25) (show k ≠ W1.heap.size by omega)
  case a3 => exact (HE2.out.trans HE3.out).setCell (Nat.le_refl _) _
  case a4 => simpa [World.setCell] using HE3.out.size
  rintro W4 ⟨h1, h3, h4, h5⟩
  have hx4 := HX1.out.ext h4
  unfold ExAt Ex.arr at hx4
  have qx4 := fun j => cell_of_row W4 _ j _ _ _ hx4
  have lx4 : w.heap.size < W4.heap.size := by omega
  have HY4 := Lib.hid h1
  have HO4 := Lib.hid h3
  have HE4 := Lib.hid h4
  clear h1 h3 h4 hx4 qy3 fy3 ly3 HO3 HY3 HE3 qx2 lx2 HY2
  go_upto_region 4 with fail
  refine wp_forget (fun w' => At4 w w' W2.heap.size W1.heap.size W4.heap.size x m v (.slice s1a s1n s1c) _) ⟨HX1.out.ext (HE4.out.alloc _), heap_ext HM1.out (HE4.out.alloc _), heap_ext HR1.out (HE4.out.alloc _), HY4.out.ext ((Ext.refl _).alloc _), HO4.out.ext ((Ext.refl _).alloc _), heap_new rfl, HE1.out.trans (HE4.out.alloc _), hl1, h2', h5, fun g hg => (own_rowB HO4.out g hg).2, rfl⟩ ?_
  clear qx4 lx4 HX1 HM1 HR1 HY4 HO4 HE4 HE2 HE1
  rintro W5 A4
  have hx5 := A4.hx
  unfold ExAt Ex.arr at hx5
  have qx := fun j => cell_of_row W5 _ j _ _ _ hx5
  have hm5 := A4.hm
  unfold Mv.arr at hm5
  have qm := fun j => cell_of_row W5 _ j _ _ _ hm5
  have hy5 := A4.hy
  unfold ExAt Ex.arr at hy5
  have qy := fun j => cell_of_row W5 _ j _ _ _ hy5
  have fy := fun j => frozen_of_row W5 _ j _ _ hy5
  have lx : w.heap.size < W5.heap.size := (Array.getElem?_eq_some_iff.1 hx5).1
  have lm : w.heap.size + 1 < W5.heap.size := (Array.getElem?_eq_some_iff.1 hm5).1
  have ly : W1.heap.size < W5.heap.size := (Array.getElem?_eq_some_iff.1 hy5).1
  clear hx5 hm5 hy5
  have HA := Lib.hid A4
  clear A4
  have he5 := HA.out.he
  have qe := fun j => cell_of_row W5 _ j _ _ _ he5
  have fe := fun j => frozen_of_row W5 _ j _ _ he5
  have le5 : W4.heap.size < W5.heap.size := (Array.getElem?_eq_some_iff.1 he5).1
  clear he5
  go_upto_region 28 with fail
  refine wp_forget (fun w' => At8 w w' W2.heap.size W1.heap.size W4.heap.size x m v (.slice s1a s1n s1c) _ #[.int .i64 3, .int .u64 x.c, .string { data := #[] }, .int .i64 0, .int .i64 0, .int .u64 0, .string { data := #[] }, .bool false]) (HA.out.to8 ((Keeps.refl _ _).setCell (.inl (.head _)) _ _) (setCell_row (o := 0) HA.out.he _)) ?_
  clear qx qm qy fy lx lm ly qe fe le5 HA
  rintro W8 A8
  have hx8 := A8.hx
  unfold ExAt Ex.arr at hx8
  have qx := fun j => cell_of_row W8 _ j _ _ _ hx8
  have hm8 := A8.hm
  unfold Mv.arr at hm8
  have qm := fun j => cell_of_row W8 _ j _ _ _ hm8
  have he8 := A8.he
  have qe := fun j => cell_of_row W8 _ j _ _ _ he8
  have lx : w.heap.size < W8.heap.size := (Array.getElem?_eq_some_iff.1 hx8).1
  have lm : w.heap.size + 1 < W8.heap.size := (Array.getElem?_eq_some_iff.1 hm8).1
  have le8 : W4.heap.size < W8.heap.size := (Array.getElem?_eq_some_iff.1 he8).1
  have ly8 : W1.heap.size < W8.heap.size := (Array.getElem?_eq_some_iff.1 A8.hy).1
  clear hx8 hm8 he8
  have hgB : W2.heap.size ≤ W8.heap.size := by have := A8.hge; omega
  have HA := Lib.hid A8
  clear A8
  have hbad := HBad.out
  go_wp2_with (first | (refine wpList_load_row rfl 36 _ rfl _ rfl _ _ (0, 0) _ (HA.out.hy) Try.underlying36 rfl info_ex ?_) | (refine wpList_store_row rfl 36 _ _ rfl _ _ rfl rfl 36 _ (HA.out.hr) info_ex rfl (arr_one (x) rfl) ?_))
  refine bodyPost_ret (results_row_tmp rfl _ _ _ 36 _ (0, 0) _ rfl (setRow_heap _ _ _ _ _ _ (HA.out.hr)) Try.underlying36 rfl info_ex) rfl ?_
  exact ⟨_, rfl, own_setRow (own_base (b' := w.heap.size) (HA.out.ho) (by have := HA.out.hgy; have := HA.out.hB; omega)) (HA.out.hr) (by decide) _, Ext.setRow (HA.out.ext) (by omega) _⟩

end Go.Proofs.Ytodnfbfhdloogaa

/-
  Walks: a party's step. No condition.
-/
namespace Go.Proofs.Ytodnfbfhdloogaa
open Go.RowKit
attribute [local go_sem ↓] eql_lEq eql_sEq eql_eEq eql_oEq neq_lEq neq_sEq neq_eEq neq_oEq eql_vEq neq_vEq eql_nil
attribute [local go_sem] ExtOf.cell ExtOf.frozen ExtOf.lt ExtOf.le
attribute [local go_sem high] ExtOf.cell2 ExtOf.frozen2 ExtOf.lt2 ExtOf.cell3 ExtOf.frozen3 ExtOf.lt3

set_option maxRecDepth 100000 in
set_option maxHeartbeats 3200000 in
theorem st_31bad (x : Ex) (v : Value) (m : Mv) (w : World) (B0 : Nat) (hO : Own w B0 x.h v) (hn : x.h.length ≤ 100000) (h4 : (m.k == 4) = false) (h6 : (m.k == 6) = false) (h5 : (m.k == 5) = false) (h1 : (m.k == 1) = false) (h2 : (m.k == 2) = false) (h3 : (m.k == 3) = true) (hw : m.who = 1) (hbad : x.b1 = true) : Calls Try.prog 7 #[.agg (x.arr v), .agg m.arr] w (Stpd w x false) := by
  have HBad := Lib.hid hbad
  clear hbad
  obtain ⟨sa, sn, sc, hsv⟩ := own_slice hO
  have hv1 : v.oneCell' = true := by rw [hsv]; rfl
  have HO := Lib.hid hO
  clear hO hsv
  go_enter Try.func7, Try.ntmps7
  go_upto_region 1 with fail
  refine wp_forget (fun w' => ExAt w' w.heap.size x v ∧ w'.heap[w.heap.size + 1]? = some (.cells m.arr 41 (0, 0)) ∧ w'.heap[w.heap.size + 1 + 1]? = some (.cells #[.int .u64 0, .int .i64 0, .int .u64 0, .string { data := #[] }, .int .i64 0, .int .i64 0, .int .i64 0, .int .u64 0, .string { data := #[] }, .bool false, .int .i64 0, .int .u64 0, .string { data := #[] }, .int .i64 0, .int .i64 0, .int .i64 0, .int .u64 0, .string { data := #[] }, .bool false, .int .u64 0, .int .i64 0, .string { data := #[] }, .bool false, .bool false, .bool false, .slice none 0 0] 36 (0, 0)) ∧ Ext w w') (three_new (Ext.refl _)) ?_
  rintro W1 ⟨h1, h2, h3, e1⟩
  have HX1 := Lib.hid h1
  have HM1 := Lib.hid h2
  have HR1 := Lib.hid h3
  have HE1 := Lib.hid e1
  clear h1 h2 h3 e1
  go_upto_region 2 with (first
    | (refine wpList_load_row rfl 36 _ rfl _ rfl _ _ (0, 0) _ HX1.out Try.underlying36 rfl info_ex ?_)
    | (refine wpList_store_row rfl 36 _ _ rfl _ _ rfl rfl 36 _ (heap_new rfl) info_ex rfl (arr_one x hv1) ?_))
  refine wp_forget (fun w' => ExAt w' W1.heap.size x v ∧ Ext W1 w' ∧ W1.heap.size < w'.heap.size) ⟨setRow_heap _ _ _ _ _ _ (heap_new rfl), ((Ext.refl W1).alloc _).setRow (Nat.le_refl _) _, by simp⟩ ?_
  rintro W2 ⟨h1, e1, h2⟩
  have hl1 : w.heap.size + 1 + 1 < W1.heap.size := (Array.getElem?_eq_some_iff.1 HR1.out).1
  have qx2 : W2.cell? ⟨w.heap.size, 25, none⟩ = some v := by rw [cell_of_row _ _ _ _ _ _ (HX1.out.ext e1)]; rfl
  have lx2 : w.heap.size < W2.heap.size := by omega
  have HY2 := Lib.hid h1
  have HE2 := Lib.hid e1
  clear h1 e1
  have h2' := h2
  go_upto_region 3 with (go_at_call 18; refine (sl_clone v B0 x.h W2 (HO.out.ext (HE1.out.trans HE2.out)) hn).mono ?_; rintro e W3 ⟨v1, rfl, hown, hx⟩; obtain ⟨s1a, s1n, s1c, rfl⟩ := own_slice hown; have HO3 := Lib.hid hown; have hy3 := HY2.out.ext hx; have HY3 := Lib.hid hy3; unfold ExAt Ex.arr at hy3; have qy3 := fun j => cell_of_row W3 _ j _ _ _ hy3; have fy3 := fun j => frozen_of_row W3 _ j _ _ hy3; have ly3 : W1.heap.size < W3.heap.size := (Array.getElem?_eq_some_iff.1 hy3).1; have HE3 := Lib.hid hx; clear hown hx hy3)
  refine wp_forget (fun w' => ExAt w' W1.heap.size x (.slice s1a s1n s1c) ∧ Own w' W2.heap.size x.h (.slice s1a s1n s1c) ∧ Ext W1 w' ∧ W2.heap.size ≤ w'.heap.size) ⟨?a1, ?a2, ?a3, ?a4⟩ ?ar
  case a1 => exact setCell_row (o := 25) HY3.out _
  case a2 => exact own_same HO3.out fun k hk _ => cell_other (o := 25) (show k ≠ W1.heap.size by omega)
  case a3 => exact (HE2.out.trans HE3.out).setCell (Nat.le_refl _) _
  case a4 => simpa [World.setCell] using HE3.out.size
  rintro W4 ⟨h1, h3, h4, h5⟩
  have hx4 := HX1.out.ext h4
  unfold ExAt Ex.arr at hx4
  have qx4 := fun j => cell_of_row W4 _ j _ _ _ hx4
  have lx4 : w.heap.size < W4.heap.size := by omega
  have HY4 := Lib.hid h1
  have HO4 := Lib.hid h3
  have HE4 := Lib.hid h4
  clear h1 h3 h4 hx4 qy3 fy3 ly3 HO3 HY3 HE3 qx2 lx2 HY2
  go_upto_region 4 with fail
  refine wp_forget (fun w' => At4 w w' W2.heap.size W1.heap.size W4.heap.size x m v (.slice s1a s1n s1c) _) ⟨HX1.out.ext (HE4.out.alloc _), heap_ext HM1.out (HE4.out.alloc _), heap_ext HR1.out (HE4.out.alloc _), HY4.out.ext ((Ext.refl _).alloc _), HO4.out.ext ((Ext.refl _).alloc _), heap_new rfl, HE1.out.trans (HE4.out.alloc _), hl1, h2', h5, fun g hg => (own_rowB HO4.out g hg).2, rfl⟩ ?_
  clear qx4 lx4 HX1 HM1 HR1 HY4 HO4 HE4 HE2 HE1
  rintro W5 A4
  have hx5 := A4.hx
  unfold ExAt Ex.arr at hx5
  have qx := fun j => cell_of_row W5 _ j _ _ _ hx5
  have hm5 := A4.hm
  unfold Mv.arr at hm5
  have qm := fun j => cell_of_row W5 _ j _ _ _ hm5
  have hy5 := A4.hy
  unfold ExAt Ex.arr at hy5
  have qy := fun j => cell_of_row W5 _ j _ _ _ hy5
  have fy := fun j => frozen_of_row W5 _ j _ _ hy5
  have lx : w.heap.size < W5.heap.size := (Array.getElem?_eq_some_iff.1 hx5).1
  have lm : w.heap.size + 1 < W5.heap.size := (Array.getElem?_eq_some_iff.1 hm5).1
  have ly : W1.heap.size < W5.heap.size := (Array.getElem?_eq_some_iff.1 hy5).1
  clear hx5 hm5 hy5
  have HA := Lib.hid A4
  clear A4
  have he5 := HA.out.he
  have qe := fun j => cell_of_row W5 _ j _ _ _ he5
  have fe := fun j => frozen_of_row W5 _ j _ _ he5
  have le5 : W4.heap.size < W5.heap.size := (Array.getElem?_eq_some_iff.1 he5).1
  clear he5
  go_upto_region 28 with fail
  refine wp_forget (fun w' => At8 w w' W2.heap.size W1.heap.size W4.heap.size x m v (.slice s1a s1n s1c) _ #[.int .i64 3, .int .u64 x.c, .string { data := #[] }, .int .i64 0, .int .i64 0, .int .u64 0, .string { data := #[] }, .bool false]) (HA.out.to8 ((Keeps.refl _ _).setCell (.inl (.head _)) _ _) (setCell_row (o := 0) HA.out.he _)) ?_
  clear qx qm qy fy lx lm ly qe fe le5 HA
  rintro W8 A8
  have hx8 := A8.hx
  unfold ExAt Ex.arr at hx8
  have qx := fun j => cell_of_row W8 _ j _ _ _ hx8
  have hm8 := A8.hm
  unfold Mv.arr at hm8
  have qm := fun j => cell_of_row W8 _ j _ _ _ hm8
  have he8 := A8.he
  have qe := fun j => cell_of_row W8 _ j _ _ _ he8
  have lx : w.heap.size < W8.heap.size := (Array.getElem?_eq_some_iff.1 hx8).1
  have lm : w.heap.size + 1 < W8.heap.size := (Array.getElem?_eq_some_iff.1 hm8).1
  have le8 : W4.heap.size < W8.heap.size := (Array.getElem?_eq_some_iff.1 he8).1
  have ly8 : W1.heap.size < W8.heap.size := (Array.getElem?_eq_some_iff.1 A8.hy).1
  clear hx8 hm8 he8
  have hgB : W2.heap.size ≤ W8.heap.size := by have := A8.hge; omega
  have HA := Lib.hid A8
  clear A8
  have hbad := HBad.out
  go_wp2_with (first | (refine wpList_load_row rfl 36 _ rfl _ rfl _ _ (0, 0) _ (HA.out.hy) Try.underlying36 rfl info_ex ?_) | (refine wpList_store_row rfl 36 _ _ rfl _ _ rfl rfl 36 _ (HA.out.hr) info_ex rfl (arr_one (x) rfl) ?_))
  refine bodyPost_ret (results_row_tmp rfl _ _ _ 36 _ (0, 0) _ rfl (setRow_heap _ _ _ _ _ _ (HA.out.hr)) Try.underlying36 rfl info_ex) rfl ?_
  exact ⟨_, rfl, own_setRow (own_base (b' := w.heap.size) (HA.out.ho) (by have := HA.out.hgy; have := HA.out.hB; omega)) (HA.out.hr) (by decide) _, Ext.setRow (HA.out.ext) (by omega) _⟩

end Go.Proofs.Ytodnfbfhdloogaa
