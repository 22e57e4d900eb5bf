/-
  Walks: a party's step. No condition.
-/
import Derived.Test.YtodnfbfhdloogaaMS25
set_option linter.all false
namespace Go.Proofs.Ytodnfbfhdloogaa
open Go.RowKit
attribute [local go_sem ↓] eql_lEq eql_sEq eql_eEq eql_oEq neq_lEq neq_sEq neq_eEq neq_oEq eql_vEq neq_vEq eql_nil
attribute [local go_sem] ExtOf.cell ExtOf.frozen ExtOf.lt ExtOf.le
attribute [local go_sem high] ExtOf.cell2 ExtOf.frozen2 ExtOf.lt2 ExtOf.cell3 ExtOf.frozen3 ExtOf.lt3

set_option maxRecDepth 100000 in
set_option maxHeartbeats 3200000 in
theorem st_21 (x : Ex) (v : Value) (m : Mv) (w : World) (B0 : Nat) (hO : Own w B0 x.h v) (hn : x.h.length ≤ 100000) (h4 : (m.k == 4) = false) (h6 : (m.k == 6) = false) (h5 : (m.k == 5) = false) (h1 : (m.k == 1) = false) (h2 : (m.k == 2) = true) (hcan : canS x m.l = true) (hw : m.who = 1) (hbad : x.b1 = false) : Calls Try.prog 7 #[.agg (x.arr v), .agg m.arr] w (Stpd w { x with s1 := (stepP 1 x.s1 ⟨2, x.c, { data := #[] }, m.l⟩).1, h := hearsS x.h m.lost ((stepP 1 x.s1 ⟨2, x.c, { data := #[] }, m.l⟩).2.map (·.l)) } true) := by
  have HBad := Lib.hid hbad
  clear hbad
  have hlen := stepP_len 1 x.s1 ⟨2, x.c, { data := #[] }, m.l⟩
  have hT : ∀ w', Calls Try.prog 20 #[.int .i64 1, .agg #[.int .i64 x.s1.r, .int .u64 x.s1.c, .string x.s1.t, .int .i64 x.s1.ph, .int .i64 x.s1.p.k, .int .i64 x.s1.p.f, .int .u64 x.s1.p.c, .string x.s1.p.t, .bool x.s1.p.b], .agg #[.int .i64 2, .int .u64 x.c, .string { data := #[] }, .int .i64 m.l.k, .int .i64 m.l.f, .int .u64 m.l.c, .string m.l.t, .bool m.l.b]] w' (Stepped w' (stepP 1 x.s1 ⟨2, x.c, { data := #[] }, m.l⟩)) := fun w' => mo_step 1 x.s1.r x.s1.c x.s1.t x.s1.ph x.s1.p.k x.s1.p.f x.s1.p.c x.s1.p.t x.s1.p.b 2 x.c { data := #[] } m.l.k m.l.f m.l.c m.l.t m.l.b w'
  generalize stepP 1 x.s1 ⟨2, x.c, { data := #[] }, m.l⟩ = T at hT hlen ⊢
  obtain ⟨⟨r', c', t', ph', ⟨k', f', c2', t2', fk'⟩⟩, O⟩ := T
  have HT := Lib.hid hT
  clear hT
  have hC := fun w' (hw : Ext w w') => mo_can x v m.l w' (Row.ext hO.row hw)
  rw [hcan] at hC
  have HC := Lib.hid hC
  clear hC hcan
  obtain ⟨sa, sn, sc, hsv⟩ := own_slice hO
  have hv1 : v.oneCell' = true := by rw [hsv]; rfl
  have HO := Lib.hid hO
  clear hO hsv
  go_enter Try.func7, Try.ntmps7
  go_upto_region 1 with fail
  refine wp_forget (fun w' => ExAt w' w.heap.size x v ∧ w'.heap[w.heap.size + 1]? = some (.cells m.arr 41 (0, 0)) ∧ w'.heap[w.heap.size + 1 + 1]? = some (.cells #[.int .u64 0, .int .i64 0, .int .u64 0, .string { data := #[] }, .int .i64 0, .int .i64 0, .int .i64 0, .int .u64 0, .string { data := #[] }, .bool false, .int .i64 0, .int .u64 0, .string { data := #[] }, .int .i64 0, .int .i64 0, .int .i64 0, .int .u64 0, .string { data := #[] }, .bool false, .int .u64 0, .int .i64 0, .string { data := #[] }, .bool false, .bool false, .bool false, .slice none 0 0] 36 (0, 0)) ∧ Ext w w') (three_new (Ext.refl _)) ?_
  rintro W1 ⟨h1, h2, h3, e1⟩
  have HX1 := Lib.hid h1
  have HM1 := Lib.hid h2
  have HR1 := Lib.hid h3
  have HE1 := Lib.hid e1
  clear h1 h2 h3 e1
  go_upto_region 2 with (first
    | (refine wpList_load_row rfl 36 _ rfl _ rfl _ _ (0, 0) _ HX1.out Try.underlying36 rfl info_ex ?_)
    | (refine wpList_store_row rfl 36 _ _ rfl _ _ rfl rfl 36 _ (heap_new rfl) info_ex rfl (arr_one x hv1) ?_))
  refine wp_forget (fun w' => ExAt w' W1.heap.size x v ∧ Ext W1 w' ∧ W1.heap.size < w'.heap.size) ⟨setRow_heap _ _ _ _ _ _ (heap_new rfl), ((Ext.refl W1).alloc _).setRow (Nat.le_refl _) _, by simp⟩ ?_
  rintro W2 ⟨h1, e1, h2⟩
  have hl1 : w.heap.size + 1 + 1 < W1.heap.size := (Array.getElem?_eq_some_iff.1 HR1.out).1
  have qx2 : W2.cell? ⟨w.heap.size, 25, none⟩ = some v := by rw [cell_of_row _ _ _ _ _ _ (HX1.out.ext e1)]; rfl
  have lx2 : w.heap.size < W2.heap.size := by omega
  have HY2 := Lib.hid h1
  have HE2 := Lib.hid e1
  clear h1 e1
  have h2' := h2
  go_upto_region 3 with (go_at_call 18; refine (sl_clone v B0 x.h W2 (HO.out.ext (HE1.out.trans HE2.out)) hn).mono ?_; rintro e W3 ⟨v1, rfl, hown, hx⟩; obtain ⟨s1a, s1n, s1c, rfl⟩ := own_slice hown; have HO3 := Lib.hid hown; have hy3 := HY2.out.ext hx; have HY3 := Lib.hid hy3; unfold ExAt Ex.arr at hy3; have qy3 := fun j => cell_of_row W3 _ j _ _ _ hy3; have fy3 := fun j => frozen_of_row W3 _ j _ _ hy3; have ly3 : W1.heap.size < W3.heap.size := (Array.getElem?_eq_some_iff.1 hy3).1; have HE3 := Lib.hid hx; clear hown hx hy3)
  refine wp_forget (fun w' => ExAt w' W1.heap.size x (.slice s1a s1n s1c) ∧ Own w' W2.heap.size x.h (.slice s1a s1n s1c) ∧ Ext W1 w' ∧ W2.heap.size ≤ w'.heap.size) ⟨?a1, ?a2, ?a3, ?a4⟩ ?ar
  case a1 => exact setCell_row (o := 25) HY3.out _
  case a2 => exact own_same HO3.out fun k hk _ => cell_other (o := 25) (show k ≠ W1.heap.size by omega)
  case a3 => exact (HE2.out.trans HE3.out).setCell (Nat.le_refl _) _
  case a4 => simpa [World.setCell] using HE3.out.size
  rintro W4 ⟨h1, h3, h4, h5⟩
  have hx4 := HX1.out.ext h4
  unfold ExAt Ex.arr at hx4
  have qx4 := fun j => cell_of_row W4 _ j _ _ _ hx4
  have lx4 : w.heap.size < W4.heap.size := by omega
  have HY4 := Lib.hid h1
  have HO4 := Lib.hid h3
  have HE4 := Lib.hid h4
  clear h1 h3 h4 hx4 qy3 fy3 ly3 HO3 HY3 HE3 qx2 lx2 HY2
  go_upto_region 4 with fail
  refine wp_forget (fun w' => At4 w w' W2.heap.size W1.heap.size W4.heap.size x m v (.slice s1a s1n s1c) _) ⟨HX1.out.ext (HE4.out.alloc _), heap_ext HM1.out (HE4.out.alloc _), heap_ext HR1.out (HE4.out.alloc _), HY4.out.ext ((Ext.refl _).alloc _), HO4.out.ext ((Ext.refl _).alloc _), heap_new rfl, HE1.out.trans (HE4.out.alloc _), hl1, h2', h5, fun g hg => (own_rowB HO4.out g hg).2, rfl⟩ ?_
  clear qx4 lx4 HX1 HM1 HR1 HY4 HO4 HE4 HE2 HE1
  rintro W5 A4
  have hx5 := A4.hx
  unfold ExAt Ex.arr at hx5
  have qx := fun j => cell_of_row W5 _ j _ _ _ hx5
  have hm5 := A4.hm
  unfold Mv.arr at hm5
  have qm := fun j => cell_of_row W5 _ j _ _ _ hm5
  have hy5 := A4.hy
  unfold ExAt Ex.arr at hy5
  have qy := fun j => cell_of_row W5 _ j _ _ _ hy5
  have fy := fun j => frozen_of_row W5 _ j _ _ hy5
  have lx : w.heap.size < W5.heap.size := (Array.getElem?_eq_some_iff.1 hx5).1
  have lm : w.heap.size + 1 < W5.heap.size := (Array.getElem?_eq_some_iff.1 hm5).1
  have ly : W1.heap.size < W5.heap.size := (Array.getElem?_eq_some_iff.1 hy5).1
  clear hx5 hm5 hy5
  have HA := Lib.hid A4
  clear A4
  have he5 := HA.out.he
  have qe := fun j => cell_of_row W5 _ j _ _ _ he5
  have fe := fun j => frozen_of_row W5 _ j _ _ he5
  have le5 : W4.heap.size < W5.heap.size := (Array.getElem?_eq_some_iff.1 he5).1
  clear he5
  go_wp2_with (first | (go_at_call 13; refine (HC.out _ HA.out.ext).mono ?_; rintro e W6 ⟨rfl, hx⟩; have hm6 := heap_ext HA.out.hm hx; unfold Mv.arr at hm6; have hx6 := HA.out.hx.ext hx; unfold ExAt Ex.arr at hx6; have he6 := heap_ext HA.out.he hx; clear qm qx qy fy lx lm ly qe fe le5; have qm := fun j => cell_of_row W6 _ j _ _ _ hm6; have qx := fun j => cell_of_row W6 _ j _ _ _ hx6; have qe := fun j => cell_of_row W6 _ j _ _ _ he6; have fe := fun j => frozen_of_row W6 _ j _ _ he6; have lm : w.heap.size + 1 < W6.heap.size := (Array.getElem?_eq_some_iff.1 hm6).1; have lx : w.heap.size < W6.heap.size := (Array.getElem?_eq_some_iff.1 hx6).1; have le6 : W4.heap.size < W6.heap.size := (Array.getElem?_eq_some_iff.1 he6).1; have HX6 := Lib.hid hx; clear hx hm6 hx6 he6) | (refine wpList_load_row rfl 36 _ rfl _ rfl _ _ (0, 0) _ (HA.out.hx) Try.underlying36 rfl info_ex ?_))
  go_region
  go_upto_region 28 with fail
  have he60 := heap_ext HA.out.he HX6.out
  have hk60 : Keeps [W4.heap.size] W6 W6 := Keeps.refl _ _
  have he61 : (W6.setCell ⟨W4.heap.size, 0, none⟩ (.int .i64 2)).heap[W4.heap.size]? = some (.cells #[.int .i64 2, .int .u64 x.c, .string { data := #[] }, .int .i64 0, .int .i64 0, .int .u64 0, .string { data := #[] }, .bool false] 54 (0, 0)) := setCell_row he60 _
  have hk61 : Keeps [W4.heap.size] W6 (W6.setCell ⟨W4.heap.size, 0, none⟩ (.int .i64 2)) := hk60.setCell (.inl (.head _)) _ _
  have he62 : ((W6.setCell ⟨W4.heap.size, 0, none⟩ (.int .i64 2)).setCell ⟨W4.heap.size, 3, none⟩ (.int .i64 m.l.k)).heap[W4.heap.size]? = some (.cells #[.int .i64 2, .int .u64 x.c, .string { data := #[] }, .int .i64 m.l.k, .int .i64 0, .int .u64 0, .string { data := #[] }, .bool false] 54 (0, 0)) := setCell_row he61 _
  have hk62 : Keeps [W4.heap.size] W6 ((W6.setCell ⟨W4.heap.size, 0, none⟩ (.int .i64 2)).setCell ⟨W4.heap.size, 3, none⟩ (.int .i64 m.l.k)) := hk61.setCell (.inl (.head _)) _ _
  have he63 : (((W6.setCell ⟨W4.heap.size, 0, none⟩ (.int .i64 2)).setCell ⟨W4.heap.size, 3, none⟩ (.int .i64 m.l.k)).setCell ⟨W4.heap.size, 4, none⟩ (.int .i64 m.l.f)).heap[W4.heap.size]? = some (.cells #[.int .i64 2, .int .u64 x.c, .string { data := #[] }, .int .i64 m.l.k, .int .i64 m.l.f, .int .u64 0, .string { data := #[] }, .bool false] 54 (0, 0)) := setCell_row he62 _
  have hk63 : Keeps [W4.heap.size] W6 (((W6.setCell ⟨W4.heap.size, 0, none⟩ (.int .i64 2)).setCell ⟨W4.heap.size, 3, none⟩ (.int .i64 m.l.k)).setCell ⟨W4.heap.size, 4, none⟩ (.int .i64 m.l.f)) := hk62.setCell (.inl (.head _)) _ _
  have he64 : ((((W6.setCell ⟨W4.heap.size, 0, none⟩ (.int .i64 2)).setCell ⟨W4.heap.size, 3, none⟩ (.int .i64 m.l.k)).setCell ⟨W4.heap.size, 4, none⟩ (.int .i64 m.l.f)).setCell ⟨W4.heap.size, 5, none⟩ (.int .u64 m.l.c)).heap[W4.heap.size]? = some (.cells #[.int .i64 2, .int .u64 x.c, .string { data := #[] }, .int .i64 m.l.k, .int .i64 m.l.f, .int .u64 m.l.c, .string { data := #[] }, .bool false] 54 (0, 0)) := setCell_row he63 _
  have hk64 : Keeps [W4.heap.size] W6 ((((W6.setCell ⟨W4.heap.size, 0, none⟩ (.int .i64 2)).setCell ⟨W4.heap.size, 3, none⟩ (.int .i64 m.l.k)).setCell ⟨W4.heap.size, 4, none⟩ (.int .i64 m.l.f)).setCell ⟨W4.heap.size, 5, none⟩ (.int .u64 m.l.c)) := hk63.setCell (.inl (.head _)) _ _
  have he65 : (((((W6.setCell ⟨W4.heap.size, 0, none⟩ (.int .i64 2)).setCell ⟨W4.heap.size, 3, none⟩ (.int .i64 m.l.k)).setCell ⟨W4.heap.size, 4, none⟩ (.int .i64 m.l.f)).setCell ⟨W4.heap.size, 5, none⟩ (.int .u64 m.l.c)).setCell ⟨W4.heap.size, 6, none⟩ (.string m.l.t)).heap[W4.heap.size]? = some (.cells #[.int .i64 2, .int .u64 x.c, .string { data := #[] }, .int .i64 m.l.k, .int .i64 m.l.f, .int .u64 m.l.c, .string m.l.t, .bool false] 54 (0, 0)) := setCell_row he64 _
  have hk65 : Keeps [W4.heap.size] W6 (((((W6.setCell ⟨W4.heap.size, 0, none⟩ (.int .i64 2)).setCell ⟨W4.heap.size, 3, none⟩ (.int .i64 m.l.k)).setCell ⟨W4.heap.size, 4, none⟩ (.int .i64 m.l.f)).setCell ⟨W4.heap.size, 5, none⟩ (.int .u64 m.l.c)).setCell ⟨W4.heap.size, 6, none⟩ (.string m.l.t)) := hk64.setCell (.inl (.head _)) _ _
  have he66 : ((((((W6.setCell ⟨W4.heap.size, 0, none⟩ (.int .i64 2)).setCell ⟨W4.heap.size, 3, none⟩ (.int .i64 m.l.k)).setCell ⟨W4.heap.size, 4, none⟩ (.int .i64 m.l.f)).setCell ⟨W4.heap.size, 5, none⟩ (.int .u64 m.l.c)).setCell ⟨W4.heap.size, 6, none⟩ (.string m.l.t)).setCell ⟨W4.heap.size, 7, none⟩ (.bool m.l.b)).heap[W4.heap.size]? = some (.cells #[.int .i64 2, .int .u64 x.c, .string { data := #[] }, .int .i64 m.l.k, .int .i64 m.l.f, .int .u64 m.l.c, .string m.l.t, .bool m.l.b] 54 (0, 0)) := setCell_row he65 _
  have hk66 : Keeps [W4.heap.size] W6 ((((((W6.setCell ⟨W4.heap.size, 0, none⟩ (.int .i64 2)).setCell ⟨W4.heap.size, 3, none⟩ (.int .i64 m.l.k)).setCell ⟨W4.heap.size, 4, none⟩ (.int .i64 m.l.f)).setCell ⟨W4.heap.size, 5, none⟩ (.int .u64 m.l.c)).setCell ⟨W4.heap.size, 6, none⟩ (.string m.l.t)).setCell ⟨W4.heap.size, 7, none⟩ (.bool m.l.b)) := hk65.setCell (.inl (.head _)) _ _
  have hat8 : At8 w ((((((W6.setCell ⟨W4.heap.size, 0, none⟩ (.int .i64 2)).setCell ⟨W4.heap.size, 3, none⟩ (.int .i64 m.l.k)).setCell ⟨W4.heap.size, 4, none⟩ (.int .i64 m.l.f)).setCell ⟨W4.heap.size, 5, none⟩ (.int .u64 m.l.c)).setCell ⟨W4.heap.size, 6, none⟩ (.string m.l.t)).setCell ⟨W4.heap.size, 7, none⟩ (.bool m.l.b)).drew W2.heap.size W1.heap.size W4.heap.size x m v (.slice s1a s1n s1c) _ #[.int .i64 2, .int .u64 x.c, .string { data := #[] }, .int .i64 m.l.k, .int .i64 m.l.f, .int .u64 m.l.c, .string m.l.t, .bool m.l.b] := (HA.out.ext' HX6.out).to8 (hk66.ext (Ext.refl _).drew) (heap_ext he66 (Ext.refl _).drew)
  clear he60 hk60 he61 hk61 he62 hk62 he63 hk63 he64 hk64 he65 hk65 he66 hk66
  refine wp_forget (fun w' => At8 w w' W2.heap.size W1.heap.size W4.heap.size x m v (.slice s1a s1n s1c) _ #[.int .i64 2, .int .u64 x.c, .string { data := #[] }, .int .i64 m.l.k, .int .i64 m.l.f, .int .u64 m.l.c, .string m.l.t, .bool m.l.b]) hat8 ?_
  clear qx qm qe fe lm lx le6 HA hat8 HX6
  rintro W8 A8
  have hx8 := A8.hx
  unfold ExAt Ex.arr at hx8
  have qx := fun j => cell_of_row W8 _ j _ _ _ hx8
  have hm8 := A8.hm
  unfold Mv.arr at hm8
  have qm := fun j => cell_of_row W8 _ j _ _ _ hm8
  have he8 := A8.he
  have qe := fun j => cell_of_row W8 _ j _ _ _ he8
  have lx : w.heap.size < W8.heap.size := (Array.getElem?_eq_some_iff.1 hx8).1
  have lm : w.heap.size + 1 < W8.heap.size := (Array.getElem?_eq_some_iff.1 hm8).1
  have le8 : W4.heap.size < W8.heap.size := (Array.getElem?_eq_some_iff.1 he8).1
  have ly8 : W1.heap.size < W8.heap.size := (Array.getElem?_eq_some_iff.1 A8.hy).1
  clear hx8 hm8 he8
  have hgB : W2.heap.size ≤ W8.heap.size := by have := A8.hge; omega
  have HA := Lib.hid A8
  clear A8
  have hbad := HBad.out
  go_wp2_with fail
  refine wp_region_mixF (af := ?af) #[.int .i64 0, .int .u64 0, .string { data := #[] }, .int .i64 0, .int .i64 0, .int .i64 0, .int .u64 0, .string { data := #[] }, .bool false] 29 [true, true, true, true, true, true, true, true, false, false, false, false, false, false, false] [false, false, false, false, false, false, false, false, false, true, true, true, false, false, true] 113 4 (C := Ext W8) (by kernel_rfl) rfl (by kernel_rfl) (fun _ _ h e => Ext.trans h e) (Ext.refl _).drew ?q ?r
  case q =>
    intro w' hw'
    obtain ⟨y, rfl⟩ := ext_of hw'
    simp only [pickT, if_true, if_false, Bool.false_eq_true]
    repeat (go_big_quiet_step (fail))
    exact rfl
  case r =>
    simp only [restL, if_true, if_false, Bool.false_eq_true]
    refine ⟨fun a w => by simp [go_sem], ?_⟩
    intro x1
    go_wp2_with fail
    refine (HT.out _).mono ?_
    rintro e w4 ⟨vo, rfl, hv, hx4⟩
    simp only [St.cs]
    go_wp2_with fail
    refine ⟨_, .inl ⟨rfl, fun w _ => ⟨rfl, rfl⟩⟩, ?_⟩
    refine ⟨_, .inl ⟨rfl, fun w _ => ⟨rfl, rfl⟩⟩, ?_⟩
    refine ⟨_, .inl ⟨rfl, fun w _ => ⟨rfl, rfl⟩⟩, ?_⟩
    intro x2 gT hgT hzT
    have e2 : Ext W8 x2.val := (((Ext.refl W8).drew.val x1).trans hx4).val x2
    intro x3
    go_wp2_with (refine wpList_store_row rfl 29 _ _ rfl gT _ rfl rfl 29 _ (heap_ext hzT x3.ext) info_state rfl (by simp [Value.oneCell']) ?_)
    refine ⟨(e2.val x3).setRow hgT _, ?_⟩
    refine ⟨_, .inl ⟨rfl, fun w _ => ⟨rfl, rfl⟩⟩, ?_⟩
    intro x4
    have eT : x4.val.heap[gT]? = some (.cells #[.int .i64 r', .int .u64 c', .string t', .int .i64 ph', .int .i64 k', .int .i64 f', .int .u64 c2', .string t2', .bool fk'] 29 (0, 0)) := heap_ext (setRow_heap _ _ _ _ _ _ (heap_ext hzT x3.ext)) x4.ext
    have eX : Ext W8 x4.val := ((e2.val x3).setRow hgT _).val x4
    have eO : x4.val.ownsRow W8.heap.size 61 6 vo O.length (O.flatMap Ou.cs) := own_base (own_ext (own_setRow (own_ext hv (x2.ext.trans x3.ext)) (heap_ext hzT x3.ext) (by decide) _) x4.ext) ((Ext.refl W8).drew.val x1).size
    generalize x4.val = W9 at eT eX eO ⊢
    clear x4 x3 x2 hzT hv hx4 e2 x1 qx qe lx le8 hbad HT
    have qT := fun j => cell_of_row W9 _ j _ _ _ eT
    have hy9 := HA.out.hy.ext eX
    have HY9 := Lib.hid hy9
    unfold ExAt Ex.arr at hy9
    have qy := fun j => cell_of_row W9 _ j _ _ _ hy9
    have fy := fun j => frozen_of_row W9 _ j _ _ hy9
    have hm9 := heap_ext HA.out.hm eX
    have HM9 := Lib.hid hm9
    unfold Mv.arr at hm9
    clear qm lm
    have qm := fun j => cell_of_row W9 _ j _ _ _ hm9
    have lm : w.heap.size + 1 < W9.heap.size := (Array.getElem?_eq_some_iff.1 hm9).1
    have ly : W1.heap.size < W9.heap.size := (Array.getElem?_eq_some_iff.1 hy9).1
    have lT : gT < W9.heap.size := (Array.getElem?_eq_some_iff.1 eT).1
    have HE9 := Lib.hid (HA.out.ext.trans eX)
    have HX9 := Lib.hid eX
    have HOut := Lib.hid eO
    clear eT hy9 hm9 eX eO
    have hwy : w.heap.size + 1 + 1 < W1.heap.size := HA.out.hgy
    have hyB : W1.heap.size < W2.heap.size := HA.out.hB
    go_upto_region 32 with fail
    have hy900 := HY9.out
    unfold ExAt Ex.arr at hy900
    have hb900 : But W1.heap.size W9 W9 := But.refl _ _
    have hy901 : (W9.setCell ⟨W1.heap.size, 10, none⟩ (.int .i64 r')).heap[W1.heap.size]? = some (.cells #[.int .u64 x.c, .int .i64 x.s0.r, .int .u64 x.s0.c, .string x.s0.t, .int .i64 x.s0.ph, .int .i64 x.s0.p.k, .int .i64 x.s0.p.f, .int .u64 x.s0.p.c, .string x.s0.p.t, .bool x.s0.p.b, .int .i64 r', .int .u64 x.s1.c, .string x.s1.t, .int .i64 x.s1.ph, .int .i64 x.s1.p.k, .int .i64 x.s1.p.f, .int .u64 x.s1.p.c, .string x.s1.p.t, .bool x.s1.p.b, .int .u64 x.v.c, .int .i64 x.v.k, .string x.v.t, .bool x.b0, .bool x.b1, .bool x.full, (.slice s1a s1n s1c)] 36 (0, 0)) := setCell_row hy900 _
    clear hy900
    have hb901 : But W1.heap.size W9 (W9.setCell ⟨W1.heap.size, 10, none⟩ (.int .i64 r')) := hb900.setCell _ _
    clear hb900
    have hy902 : ((W9.setCell ⟨W1.heap.size, 10, none⟩ (.int .i64 r')).setCell ⟨W1.heap.size, 11, none⟩ (.int .u64 c')).heap[W1.heap.size]? = some (.cells #[.int .u64 x.c, .int .i64 x.s0.r, .int .u64 x.s0.c, .string x.s0.t, .int .i64 x.s0.ph, .int .i64 x.s0.p.k, .int .i64 x.s0.p.f, .int .u64 x.s0.p.c, .string x.s0.p.t, .bool x.s0.p.b, .int .i64 r', .int .u64 c', .string x.s1.t, .int .i64 x.s1.ph, .int .i64 x.s1.p.k, .int .i64 x.s1.p.f, .int .u64 x.s1.p.c, .string x.s1.p.t, .bool x.s1.p.b, .int .u64 x.v.c, .int .i64 x.v.k, .string x.v.t, .bool x.b0, .bool x.b1, .bool x.full, (.slice s1a s1n s1c)] 36 (0, 0)) := setCell_row hy901 _
    clear hy901
    have hb902 : But W1.heap.size W9 ((W9.setCell ⟨W1.heap.size, 10, none⟩ (.int .i64 r')).setCell ⟨W1.heap.size, 11, none⟩ (.int .u64 c')) := hb901.setCell _ _
    clear hb901
    have hy903 : (((W9.setCell ⟨W1.heap.size, 10, none⟩ (.int .i64 r')).setCell ⟨W1.heap.size, 11, none⟩ (.int .u64 c')).setCell ⟨W1.heap.size, 12, none⟩ (.string t')).heap[W1.heap.size]? = some (.cells #[.int .u64 x.c, .int .i64 x.s0.r, .int .u64 x.s0.c, .string x.s0.t, .int .i64 x.s0.ph, .int .i64 x.s0.p.k, .int .i64 x.s0.p.f, .int .u64 x.s0.p.c, .string x.s0.p.t, .bool x.s0.p.b, .int .i64 r', .int .u64 c', .string t', .int .i64 x.s1.ph, .int .i64 x.s1.p.k, .int .i64 x.s1.p.f, .int .u64 x.s1.p.c, .string x.s1.p.t, .bool x.s1.p.b, .int .u64 x.v.c, .int .i64 x.v.k, .string x.v.t, .bool x.b0, .bool x.b1, .bool x.full, (.slice s1a s1n s1c)] 36 (0, 0)) := setCell_row hy902 _
    clear hy902
    have hb903 : But W1.heap.size W9 (((W9.setCell ⟨W1.heap.size, 10, none⟩ (.int .i64 r')).setCell ⟨W1.heap.size, 11, none⟩ (.int .u64 c')).setCell ⟨W1.heap.size, 12, none⟩ (.string t')) := hb902.setCell _ _
    clear hb902
    have hy904 : ((((W9.setCell ⟨W1.heap.size, 10, none⟩ (.int .i64 r')).setCell ⟨W1.heap.size, 11, none⟩ (.int .u64 c')).setCell ⟨W1.heap.size, 12, none⟩ (.string t')).setCell ⟨W1.heap.size, 13, none⟩ (.int .i64 ph')).heap[W1.heap.size]? = some (.cells #[.int .u64 x.c, .int .i64 x.s0.r, .int .u64 x.s0.c, .string x.s0.t, .int .i64 x.s0.ph, .int .i64 x.s0.p.k, .int .i64 x.s0.p.f, .int .u64 x.s0.p.c, .string x.s0.p.t, .bool x.s0.p.b, .int .i64 r', .int .u64 c', .string t', .int .i64 ph', .int .i64 x.s1.p.k, .int .i64 x.s1.p.f, .int .u64 x.s1.p.c, .string x.s1.p.t, .bool x.s1.p.b, .int .u64 x.v.c, .int .i64 x.v.k, .string x.v.t, .bool x.b0, .bool x.b1, .bool x.full, (.slice s1a s1n s1c)] 36 (0, 0)) := setCell_row hy903 _
    clear hy903
    have hb904 : But W1.heap.size W9 ((((W9.setCell ⟨W1.heap.size, 10, none⟩ (.int .i64 r')).setCell ⟨W1.heap.size, 11, none⟩ (.int .u64 c')).setCell ⟨W1.heap.size, 12, none⟩ (.string t')).setCell ⟨W1.heap.size, 13, none⟩ (.int .i64 ph')) := hb903.setCell _ _
    clear hb903
    have hy905 : (((((W9.setCell ⟨W1.heap.size, 10, none⟩ (.int .i64 r')).setCell ⟨W1.heap.size, 11, none⟩ (.int .u64 c')).setCell ⟨W1.heap.size, 12, none⟩ (.string t')).setCell ⟨W1.heap.size, 13, none⟩ (.int .i64 ph')).setCell ⟨W1.heap.size, 14, none⟩ (.int .i64 k')).heap[W1.heap.size]? = some (.cells #[.int .u64 x.c, .int .i64 x.s0.r, .int .u64 x.s0.c, .string x.s0.t, .int .i64 x.s0.ph, .int .i64 x.s0.p.k, .int .i64 x.s0.p.f, .int .u64 x.s0.p.c, .string x.s0.p.t, .bool x.s0.p.b, .int .i64 r', .int .u64 c', .string t', .int .i64 ph', .int .i64 k', .int .i64 x.s1.p.f, .int .u64 x.s1.p.c, .string x.s1.p.t, .bool x.s1.p.b, .int .u64 x.v.c, .int .i64 x.v.k, .string x.v.t, .bool x.b0, .bool x.b1, .bool x.full, (.slice s1a s1n s1c)] 36 (0, 0)) := setCell_row hy904 _
    clear hy904
    have hb905 : But W1.heap.size W9 (((((W9.setCell ⟨W1.heap.size, 10, none⟩ (.int .i64 r')).setCell ⟨W1.heap.size, 11, none⟩ (.int .u64 c')).setCell ⟨W1.heap.size, 12, none⟩ (.string t')).setCell ⟨W1.heap.size, 13, none⟩ (.int .i64 ph')).setCell ⟨W1.heap.size, 14, none⟩ (.int .i64 k')) := hb904.setCell _ _
    clear hb904
    have hy906 : ((((((W9.setCell ⟨W1.heap.size, 10, none⟩ (.int .i64 r')).setCell ⟨W1.heap.size, 11, none⟩ (.int .u64 c')).setCell ⟨W1.heap.size, 12, none⟩ (.string t')).setCell ⟨W1.heap.size, 13, none⟩ (.int .i64 ph')).setCell ⟨W1.heap.size, 14, none⟩ (.int .i64 k')).setCell ⟨W1.heap.size, 15, none⟩ (.int .i64 f')).heap[W1.heap.size]? = some (.cells #[.int .u64 x.c, .int .i64 x.s0.r, .int .u64 x.s0.c, .string x.s0.t, .int .i64 x.s0.ph, .int .i64 x.s0.p.k, .int .i64 x.s0.p.f, .int .u64 x.s0.p.c, .string x.s0.p.t, .bool x.s0.p.b, .int .i64 r', .int .u64 c', .string t', .int .i64 ph', .int .i64 k', .int .i64 f', .int .u64 x.s1.p.c, .string x.s1.p.t, .bool x.s1.p.b, .int .u64 x.v.c, .int .i64 x.v.k, .string x.v.t, .bool x.b0, .bool x.b1, .bool x.full, (.slice s1a s1n s1c)] 36 (0, 0)) := setCell_row hy905 _
    clear hy905
    have hb906 : But W1.heap.size W9 ((((((W9.setCell ⟨W1.heap.size, 10, none⟩ (.int .i64 r')).setCell ⟨W1.heap.size, 11, none⟩ (.int .u64 c')).setCell ⟨W1.heap.size, 12, none⟩ (.string t')).setCell ⟨W1.heap.size, 13, none⟩ (.int .i64 ph')).setCell ⟨W1.heap.size, 14, none⟩ (.int .i64 k')).setCell ⟨W1.heap.size, 15, none⟩ (.int .i64 f')) := hb905.setCell _ _
    clear hb905
    have hy907 : (((((((W9.setCell ⟨W1.heap.size, 10, none⟩ (.int .i64 r')).setCell ⟨W1.heap.size, 11, none⟩ (.int .u64 c')).setCell ⟨W1.heap.size, 12, none⟩ (.string t')).setCell ⟨W1.heap.size, 13, none⟩ (.int .i64 ph')).setCell ⟨W1.heap.size, 14, none⟩ (.int .i64 k')).setCell ⟨W1.heap.size, 15, none⟩ (.int .i64 f')).setCell ⟨W1.heap.size, 16, none⟩ (.int .u64 c2')).heap[W1.heap.size]? = some (.cells #[.int .u64 x.c, .int .i64 x.s0.r, .int .u64 x.s0.c, .string x.s0.t, .int .i64 x.s0.ph, .int .i64 x.s0.p.k, .int .i64 x.s0.p.f, .int .u64 x.s0.p.c, .string x.s0.p.t, .bool x.s0.p.b, .int .i64 r', .int .u64 c', .string t', .int .i64 ph', .int .i64 k', .int .i64 f', .int .u64 c2', .string x.s1.p.t, .bool x.s1.p.b, .int .u64 x.v.c, .int .i64 x.v.k, .string x.v.t, .bool x.b0, .bool x.b1, .bool x.full, (.slice s1a s1n s1c)] 36 (0, 0)) := setCell_row hy906 _
    clear hy906
    have hb907 : But W1.heap.size W9 (((((((W9.setCell ⟨W1.heap.size, 10, none⟩ (.int .i64 r')).setCell ⟨W1.heap.size, 11, none⟩ (.int .u64 c')).setCell ⟨W1.heap.size, 12, none⟩ (.string t')).setCell ⟨W1.heap.size, 13, none⟩ (.int .i64 ph')).setCell ⟨W1.heap.size, 14, none⟩ (.int .i64 k')).setCell ⟨W1.heap.size, 15, none⟩ (.int .i64 f')).setCell ⟨W1.heap.size, 16, none⟩ (.int .u64 c2')) := hb906.setCell _ _
    clear hb906
    have hy908 : ((((((((W9.setCell ⟨W1.heap.size, 10, none⟩ (.int .i64 r')).setCell ⟨W1.heap.size, 11, none⟩ (.int .u64 c')).setCell ⟨W1.heap.size, 12, none⟩ (.string t')).setCell ⟨W1.heap.size, 13, none⟩ (.int .i64 ph')).setCell ⟨W1.heap.size, 14, none⟩ (.int .i64 k')).setCell ⟨W1.heap.size, 15, none⟩ (.int .i64 f')).setCell ⟨W1.heap.size, 16, none⟩ (.int .u64 c2')).setCell ⟨W1.heap.size, 17, none⟩ (.string t2')).heap[W1.heap.size]? = some (.cells #[.int .u64 x.c, .int .i64 x.s0.r, .int .u64 x.s0.c, .string x.s0.t, .int .i64 x.s0.ph, .int .i64 x.s0.p.k, .int .i64 x.s0.p.f, .int .u64 x.s0.p.c, .string x.s0.p.t, .bool x.s0.p.b, .int .i64 r', .int .u64 c', .string t', .int .i64 ph', .int .i64 k', .int .i64 f', .int .u64 c2', .string t2', .bool x.s1.p.b, .int .u64 x.v.c, .int .i64 x.v.k, .string x.v.t, .bool x.b0, .bool x.b1, .bool x.full, (.slice s1a s1n s1c)] 36 (0, 0)) := setCell_row hy907 _
    clear hy907
    have hb908 : But W1.heap.size W9 ((((((((W9.setCell ⟨W1.heap.size, 10, none⟩ (.int .i64 r')).setCell ⟨W1.heap.size, 11, none⟩ (.int .u64 c')).setCell ⟨W1.heap.size, 12, none⟩ (.string t')).setCell ⟨W1.heap.size, 13, none⟩ (.int .i64 ph')).setCell ⟨W1.heap.size, 14, none⟩ (.int .i64 k')).setCell ⟨W1.heap.size, 15, none⟩ (.int .i64 f')).setCell ⟨W1.heap.size, 16, none⟩ (.int .u64 c2')).setCell ⟨W1.heap.size, 17, none⟩ (.string t2')) := hb907.setCell _ _
    clear hb907
    have hy909 : (((((((((W9.setCell ⟨W1.heap.size, 10, none⟩ (.int .i64 r')).setCell ⟨W1.heap.size, 11, none⟩ (.int .u64 c')).setCell ⟨W1.heap.size, 12, none⟩ (.string t')).setCell ⟨W1.heap.size, 13, none⟩ (.int .i64 ph')).setCell ⟨W1.heap.size, 14, none⟩ (.int .i64 k')).setCell ⟨W1.heap.size, 15, none⟩ (.int .i64 f')).setCell ⟨W1.heap.size, 16, none⟩ (.int .u64 c2')).setCell ⟨W1.heap.size, 17, none⟩ (.string t2')).setCell ⟨W1.heap.size, 18, none⟩ (.bool fk')).heap[W1.heap.size]? = some (.cells #[.int .u64 x.c, .int .i64 x.s0.r, .int .u64 x.s0.c, .string x.s0.t, .int .i64 x.s0.ph, .int .i64 x.s0.p.k, .int .i64 x.s0.p.f, .int .u64 x.s0.p.c, .string x.s0.p.t, .bool x.s0.p.b, .int .i64 r', .int .u64 c', .string t', .int .i64 ph', .int .i64 k', .int .i64 f', .int .u64 c2', .string t2', .bool fk', .int .u64 x.v.c, .int .i64 x.v.k, .string x.v.t, .bool x.b0, .bool x.b1, .bool x.full, (.slice s1a s1n s1c)] 36 (0, 0)) := setCell_row hy908 _
    clear hy908
    have hb909 : But W1.heap.size W9 (((((((((W9.setCell ⟨W1.heap.size, 10, none⟩ (.int .i64 r')).setCell ⟨W1.heap.size, 11, none⟩ (.int .u64 c')).setCell ⟨W1.heap.size, 12, none⟩ (.string t')).setCell ⟨W1.heap.size, 13, none⟩ (.int .i64 ph')).setCell ⟨W1.heap.size, 14, none⟩ (.int .i64 k')).setCell ⟨W1.heap.size, 15, none⟩ (.int .i64 f')).setCell ⟨W1.heap.size, 16, none⟩ (.int .u64 c2')).setCell ⟨W1.heap.size, 17, none⟩ (.string t2')).setCell ⟨W1.heap.size, 18, none⟩ (.bool fk')) := hb908.setCell _ _
    clear hb908
    refine wp_forget (fun w' => Hid (ExAt w' W1.heap.size { x with s1 := ⟨r', c', t', ph', ⟨k', f', c2', t2', fk'⟩⟩ } (.slice s1a s1n s1c) ∧ Own w' W2.heap.size x.h (.slice s1a s1n s1c) ∧ w'.heap[w.heap.size + 1]? = some (.cells m.arr 41 (0, 0)) ∧ w'.heap[w.heap.size + 1 + 1]? = some (.cells _ 36 (0, 0)) ∧ w'.ownsRow W8.heap.size 61 6 vo O.length (O.flatMap Ou.cs) ∧ Ext w w' ∧ W8.heap.size ≤ w'.heap.size))
      (Lib.hid ⟨hy909, own_same (HA.out.ho.ext HX9.out) fun k hk _ => hb909.block k (show k ≠ W1.heap.size by omega), (hb909.block _ (by omega)).trans HM9.out, (hb909.block _ (by omega)).trans (heap_ext HA.out.hr HX9.out), own_same HOut.out fun k hk _ => hb909.block k (show k ≠ W1.heap.size by omega), hb909.ext HE9.out (by omega), Nat.le_trans HX9.out.size (Nat.le_of_eq hb909.size.symm)⟩) ?_
    clear hy909 hb909
    clear qT qy fy qm lm ly lT HY9 HM9 HE9 HX9 HOut
    rintro W10 HB
    obtain ⟨oa, ocap, rfl, hom, hov⟩ := own_view HB.out.2.2.2.2.1
    have HV := Lib.hid hov
    clear hov
    unfold maxLen at hom
    rcases O with _ | ⟨o, _ | ⟨o2, O2⟩⟩
    · simp only [List.length_nil]
      go_wp2_with fail
      go_loopg [102] 0 (fun g ii wr => ii = .int .i64 0 ∧ wr = W10)
      case atStart => exact ⟨rfl, rfl⟩
      case round =>
        obtain ⟨rfl, rfl⟩ := hrel
        go_wp2_with (first | (refine wpList_load_row rfl 36 _ rfl _ rfl _ _ (0, 0) _ (HB.out.1) Try.underlying36 rfl info_ex ?_) | (refine wpList_store_row rfl 36 _ _ rfl _ _ rfl rfl 36 _ (HB.out.2.2.2.1) info_ex rfl (arr_one ({ x with s1 := ⟨r', c', t', ph', ⟨k', f', c2', t2', fk'⟩⟩ }) rfl) ?_))
        refine bodyPost_ret (results_row_tmp rfl _ _ _ 36 _ (0, 0) _ rfl (setRow_heap _ _ _ _ _ _ HB.out.2.2.2.1) Try.underlying36 rfl info_ex) rfl ?_
        exact ⟨_, rfl, own_setRow (own_base (b' := w.heap.size) HB.out.2.1 (by omega)) HB.out.2.2.2.1 (by decide) _, Ext.setRow HB.out.2.2.2.2.2.1 (by omega) _⟩
    · obtain ⟨g, rfl, hgb, hgl, hcell⟩ := HV.out (by simp)
      simp only [List.flatMap_cons, List.flatMap_nil, List.append_nil, Ou.cs] at hcell
      have q0 := hcell 0 _ rfl
      have q1 := hcell 1 _ rfl
      have q2 := hcell 2 _ rfl
      have q3 := hcell 3 _ rfl
      have q4 := hcell 4 _ rfl
      have q5 := hcell 5 _ rfl
      clear hcell
      simp only [List.length_cons, List.length_nil, Nat.zero_add]
      have hm10 := HB.out.2.2.1
      have HM := Lib.hid hm10
      clear hm10
      have hbsz : W2.heap.size ≤ W10.heap.size := Nat.le_trans hgB HB.out.2.2.2.2.2.2
      go_wp2_with fail
      go_loopg [102] 1 (fun gg ii wr => (gg = 1 ∧ ii = .int .i64 0 ∧ wr = W10) ∨ (gg = 0 ∧ ii = .int .i64 1 ∧ ∃ a3 n3 c3, Hid (ExAt wr W1.heap.size { x with s1 := ⟨r', c', t', ph', ⟨k', f', c2', t2', fk'⟩⟩, h := hearS x.h m.lost o.l } (.slice a3 n3 c3) ∧ Own wr W2.heap.size (hearS x.h m.lost o.l) (.slice a3 n3 c3) ∧ wr.heap[w.heap.size + 1 + 1]? = some (.cells _ 36 (0, 0)) ∧ Ext w wr)))
      case atStart => exact .inl ⟨rfl, rfl, rfl⟩
      case round =>
        obtain ⟨rfl, rfl, rfl⟩ | ⟨rfl, rfl, a3, n3, c3, HD⟩ := hrel
        · go_wp2_with (first
            | (refine wpList_load_row rfl 41 _ rfl _ rfl _ _ (0, 0) _ (heap_ext HM.out ((Ext.refl _).alloc _)) Try.underlying41 rfl info_mv ?_)
            | (go_at_call 21; refine (mo_hears W2.heap.size W1.heap.size _ { x with s1 := ⟨r', c', t', ph', ⟨k', f', c2', t2', fk'⟩⟩ } (.slice s1a s1n s1c) m o.l _ (HB.out.1.ext (((Ext.refl _).alloc _).alloc _)) (HB.out.2.1.ext (((Ext.refl _).alloc _).alloc _)) (heap_new (by simp)) hyB (Nat.le_trans hbsz (((Ext.refl _).alloc _).alloc _).size) hn).mono ?_; rintro e W11 ⟨rfl, hH⟩; have HH := Lib.hid hH; clear hH))
          obtain ⟨v3, hy3, ho3, hk3, hr3⟩ := HH.out
          obtain ⟨a3, n3, c3, rfl⟩ := own_slice ho3
          go_roundg 0
          case rel =>
            refine .inr ⟨rfl, rfl, a3, n3, c3, Lib.hid ⟨hy3, ho3, ?_, ?_⟩⟩
            · refine (hk3.block _ (Nat.lt_of_lt_of_le (Array.getElem?_eq_some_iff.1 HB.out.2.2.2.1).1 (((Ext.refl _).alloc _).alloc _).size) ?_).trans (heap_ext HB.out.2.2.2.1 (((Ext.refl _).alloc _).alloc _))
              simp only [List.mem_cons, not_or]
              exact ⟨by omega, fun hm => by have := (own_rowB HB.out.2.1 _ hm).1; omega⟩
            · refine keeps_ext ((HB.out.2.2.2.2.2.1.alloc _).alloc _) hk3 ?_
              intro g' hg'
              simp only [List.mem_cons] at hg'
              exact hg'.elim (fun h => by omega) (fun h => by have := (own_rowB HB.out.2.1 _ h).1; omega)
          case measure => omega
        · go_wp2_with (first | (refine wpList_load_row rfl 36 _ rfl _ rfl _ _ (0, 0) _ (HD.out.1) Try.underlying36 rfl info_ex ?_) | (refine wpList_store_row rfl 36 _ _ rfl _ _ rfl rfl 36 _ (HD.out.2.2.1) info_ex rfl (arr_one (({ x with s1 := ⟨r', c', t', ph', ⟨k', f', c2', t2', fk'⟩⟩, h := hearS x.h m.lost o.l })) rfl) ?_))
          refine bodyPost_ret (results_row_tmp rfl _ _ _ 36 _ (0, 0) _ rfl (setRow_heap _ _ _ _ _ _ HD.out.2.2.1) Try.underlying36 rfl info_ex) rfl ?_
          exact ⟨_, rfl, own_setRow (own_base (b' := w.heap.size) HD.out.2.1 (by omega)) HD.out.2.2.1 (by decide) _, Ext.setRow HD.out.2.2.2 (by omega) _⟩
    · simp at hlen

end Go.Proofs.Ytodnfbfhdloogaa

/-
  Walks: a party's step. No condition.
-/
namespace Go.Proofs.Ytodnfbfhdloogaa
open Go.RowKit
attribute [local go_sem ↓] eql_lEq eql_sEq eql_eEq eql_oEq neq_lEq neq_sEq neq_eEq neq_oEq eql_vEq neq_vEq eql_nil
attribute [local go_sem] ExtOf.cell ExtOf.frozen ExtOf.lt ExtOf.le
attribute [local go_sem high] ExtOf.cell2 ExtOf.frozen2 ExtOf.lt2 ExtOf.cell3 ExtOf.frozen3 ExtOf.lt3

set_option maxRecDepth 100000 in
set_option maxHeartbeats 3200000 in
theorem st_30 (x : Ex) (v : Value) (m : Mv) (w : World) (B0 : Nat) (hO : Own w B0 x.h v) (hn : x.h.length ≤ 100000) (h4 : (m.k == 4) = false) (h6 : (m.k == 6) = false) (h5 : (m.k == 5) = false) (h1 : (m.k == 1) = false) (h2 : (m.k == 2) = false) (h3 : (m.k == 3) = true) (hw : m.who = 0) (hbad : x.b0 = false) : Calls Try.prog 7 #[.agg (x.arr v), .agg m.arr] w (Stpd w { x with s0 := (stepP 0 x.s0 ⟨3, x.c, { data := #[] }, l0⟩).1, h := hearsS x.h m.lost ((stepP 0 x.s0 ⟨3, x.c, { data := #[] }, l0⟩).2.map (·.l)) } true) := by
  have HBad := Lib.hid hbad
  clear hbad
  have hlen := stepP_len 0 x.s0 ⟨3, x.c, { data := #[] }, l0⟩
  have hT : ∀ w', Calls Try.prog 20 #[.int .i64 0, .agg #[.int .i64 x.s0.r, .int .u64 x.s0.c, .string x.s0.t, .int .i64 x.s0.ph, .int .i64 x.s0.p.k, .int .i64 x.s0.p.f, .int .u64 x.s0.p.c, .string x.s0.p.t, .bool x.s0.p.b], .agg #[.int .i64 3, .int .u64 x.c, .string { data := #[] }, .int .i64 0, .int .i64 0, .int .u64 0, .string { data := #[] }, .bool false]] w' (Stepped w' (stepP 0 x.s0 ⟨3, x.c, { data := #[] }, l0⟩)) := fun w' => mo_step 0 x.s0.r x.s0.c x.s0.t x.s0.ph x.s0.p.k x.s0.p.f x.s0.p.c x.s0.p.t x.s0.p.b 3 x.c { data := #[] } 0 0 0 { data := #[] } false w'
  generalize stepP 0 x.s0 ⟨3, x.c, { data := #[] }, l0⟩ = T at hT hlen ⊢
  obtain ⟨⟨r', c', t', ph', ⟨k', f', c2', t2', fk'⟩⟩, O⟩ := T
  have HT := Lib.hid hT
  clear hT
  obtain ⟨sa, sn, sc, hsv⟩ := own_slice hO
  have hv1 : v.oneCell' = true := by rw [hsv]; rfl
  have HO := Lib.hid hO
  clear hO hsv
  go_enter Try.func7, Try.ntmps7
  go_upto_region 1 with fail
  refine wp_forget (fun w' => ExAt w' w.heap.size x v ∧ w'.heap[w.heap.size + 1]? = some (.cells m.arr 41 (0, 0)) ∧ w'.heap[w.heap.size + 1 + 1]? = some (.cells #[.int .u64 0, .int .i64 0, .int .u64 0, .string { data := #[] }, .int .i64 0, .int .i64 0, .int .i64 0, .int .u64 0, .string { data := #[] }, .bool false, .int .i64 0, .int .u64 0, .string { data := #[] }, .int .i64 0, .int .i64 0, .int .i64 0, .int .u64 0, .string { data := #[] }, .bool false, .int .u64 0, .int .i64 0, .string { data := #[] }, .bool false, .bool false, .bool false, .slice none 0 0] 36 (0, 0)) ∧ Ext w w') (three_new (Ext.refl _)) ?_
  rintro W1 ⟨h1, h2, h3, e1⟩
  have HX1 := Lib.hid h1
  have HM1 := Lib.hid h2
  have HR1 := Lib.hid h3
  have HE1 := Lib.hid e1
  clear h1 h2 h3 e1
  go_upto_region 2 with (first
    | (refine wpList_load_row rfl 36 _ rfl _ rfl _ _ (0, 0) _ HX1.out Try.underlying36 rfl info_ex ?_)
    | (refine wpList_store_row rfl 36 _ _ rfl _ _ rfl rfl 36 _ (heap_new rfl) info_ex rfl (arr_one x hv1) ?_))
  refine wp_forget (fun w' => ExAt w' W1.heap.size x v ∧ Ext W1 w' ∧ W1.heap.size < w'.heap.size) ⟨setRow_heap _ _ _ _ _ _ (heap_new rfl), ((Ext.refl W1).alloc _).setRow (Nat.le_refl _) _, by simp⟩ ?_
  rintro W2 ⟨h1, e1, h2⟩
  have hl1 : w.heap.size + 1 + 1 < W1.heap.size := (Array.getElem?_eq_some_iff.1 HR1.out).1
  have qx2 : W2.cell? ⟨w.heap.size, 25, none⟩ = some v := by rw [cell_of_row _ _ _ _ _ _ (HX1.out.ext e1)]; rfl
  have lx2 : w.heap.size < W2.heap.size := by omega
  have HY2 := Lib.hid h1
  have HE2 := Lib.hid e1
  clear h1 e1
  have h2' := h2
  go_upto_region 3 with (go_at_call 18; refine (sl_clone v B0 x.h W2 (HO.out.ext (HE1.out.trans HE2.out)) hn).mono ?_; rintro e W3 ⟨v1, rfl, hown, hx⟩; obtain ⟨s1a, s1n, s1c, rfl⟩ := own_slice hown; have HO3 := Lib.hid hown; have hy3 := HY2.out.ext hx; have HY3 := Lib.hid hy3; unfold ExAt Ex.arr at hy3; have qy3 := fun j => cell_of_row W3 _ j _ _ _ hy3; have fy3 := fun j => frozen_of_row W3 _ j _ _ hy3; have ly3 : W1.heap.size < W3.heap.size := (Array.getElem?_eq_some_iff.1 hy3).1; have HE3 := Lib.hid hx; clear hown hx hy3)
  refine wp_forget (fun w' => ExAt w' W1.heap.size x (.slice s1a s1n s1c) ∧ Own w' W2.heap.size x.h (.slice s1a s1n s1c) ∧ Ext W1 w' ∧ W2.heap.size ≤ w'.heap.size) ⟨?a1, ?a2, ?a3, ?a4⟩ ?ar
  case a1 => exact setCell_row (o := 25) HY3.out _
  case a2 => exact own_same HO3.out fun k hk _ => cell_other (o := 25) (show k ≠ W1.heap.size by omega)
  case a3 => exact (HE2.out.trans HE3.out).setCell (Nat.le_refl _) _
  case a4 => simpa [World.setCell] using HE3.out.size
  rintro W4 ⟨h1, h3, h4, h5⟩
  have hx4 := HX1.out.ext h4
  unfold ExAt Ex.arr at hx4
  have qx4 := fun j => cell_of_row W4 _ j _ _ _ hx4
  have lx4 : w.heap.size < W4.heap.size := by omega
  have HY4 := Lib.hid h1
  have HO4 := Lib.hid h3
  have HE4 := Lib.hid h4
  clear h1 h3 h4 hx4 qy3 fy3 ly3 HO3 HY3 HE3 qx2 lx2 HY2
  go_upto_region 4 with fail
  refine wp_forget (fun w' => At4 w w' W2.heap.size W1.heap.size W4.heap.size x m v (.slice s1a s1n s1c) _) ⟨HX1.out.ext (HE4.out.alloc _), heap_ext HM1.out (HE4.out.alloc _), heap_ext HR1.out (HE4.out.alloc _), HY4.out.ext ((Ext.refl _).alloc _), HO4.out.ext ((Ext.refl _).alloc _), heap_new rfl, HE1.out.trans (HE4.out.alloc _), hl1, h2', h5, fun g hg => (own_rowB HO4.out g hg).2, rfl⟩ ?_
  clear qx4 lx4 HX1 HM1 HR1 HY4 HO4 HE4 HE2 HE1
  rintro W5 A4
  have hx5 := A4.hx
  unfold ExAt Ex.arr at hx5
  have qx := fun j => cell_of_row W5 _ j _ _ _ hx5
  have hm5 := A4.hm
  unfold Mv.arr at hm5
  have qm := fun j => cell_of_row W5 _ j _ _ _ hm5
  have hy5 := A4.hy
  unfold ExAt Ex.arr at hy5
  have qy := fun j => cell_of_row W5 _ j _ _ _ hy5
  have fy := fun j => frozen_of_row W5 _ j _ _ hy5
  have lx : w.heap.size < W5.heap.size := (Array.getElem?_eq_some_iff.1 hx5).1
  have lm : w.heap.size + 1 < W5.heap.size := (Array.getElem?_eq_some_iff.1 hm5).1
  have ly : W1.heap.size < W5.heap.size := (Array.getElem?_eq_some_iff.1 hy5).1
  clear hx5 hm5 hy5
  have HA := Lib.hid A4
  clear A4
  have he5 := HA.out.he
  have qe := fun j => cell_of_row W5 _ j _ _ _ he5
  have fe := fun j => frozen_of_row W5 _ j _ _ he5
  have le5 : W4.heap.size < W5.heap.size := (Array.getElem?_eq_some_iff.1 he5).1
  clear he5
  go_upto_region 28 with fail
  refine wp_forget (fun w' => At8 w w' W2.heap.size W1.heap.size W4.heap.size x m v (.slice s1a s1n s1c) _ #[.int .i64 3, .int .u64 x.c, .string { data := #[] }, .int .i64 0, .int .i64 0, .int .u64 0, .string { data := #[] }, .bool false]) (HA.out.to8 ((Keeps.refl _ _).setCell (.inl (.head _)) _ _) (setCell_row (o := 0) HA.out.he _)) ?_
  clear qx qm qy fy lx lm ly qe fe le5 HA
  rintro W8 A8
  have hx8 := A8.hx
  unfold ExAt Ex.arr at hx8
  have qx := fun j => cell_of_row W8 _ j _ _ _ hx8
  have hm8 := A8.hm
  unfold Mv.arr at hm8
  have qm := fun j => cell_of_row W8 _ j _ _ _ hm8
  have he8 := A8.he
  have qe := fun j => cell_of_row W8 _ j _ _ _ he8
  have lx : w.heap.size < W8.heap.size := (Array.getElem?_eq_some_iff.1 hx8).1
  have lm : w.heap.size + 1 < W8.heap.size := (Array.getElem?_eq_some_iff.1 hm8).1
  have le8 : W4.heap.size < W8.heap.size := (Array.getElem?_eq_some_iff.1 he8).1
  have ly8 : W1.heap.size < W8.heap.size := (Array.getElem?_eq_some_iff.1 A8.hy).1
  clear hx8 hm8 he8
  have hgB : W2.heap.size ≤ W8.heap.size := by have := A8.hge; omega
  have HA := Lib.hid A8
  clear A8
  have hbad := HBad.out
  go_wp2_with fail
  refine wp_region_mixF (af := ?af) #[.int .i64 0, .int .u64 0, .string { data := #[] }, .int .i64 0, .int .i64 0, .int .i64 0, .int .u64 0, .string { data := #[] }, .bool false] 29 [true, true, true, true, true, true, true, true, false, false, false, false, false, false, false] [false, false, false, false, false, false, false, false, false, true, true, true, false, false, true] 113 4 (C := Ext W8) (by kernel_rfl) rfl (by kernel_rfl) (fun _ _ h e => Ext.trans h e) (Ext.refl _).drew ?q ?r
  case q =>
    intro w' hw'
    obtain ⟨y, rfl⟩ := ext_of hw'
    simp only [pickT, if_true, if_false, Bool.false_eq_true]
    repeat (go_big_quiet_step (fail))
    exact rfl
  case r =>
    simp only [restL, if_true, if_false, Bool.false_eq_true]
    refine ⟨fun a w => by simp [go_sem], ?_⟩
    intro x1
    go_wp2_with fail
    refine (HT.out _).mono ?_
    rintro e w4 ⟨vo, rfl, hv, hx4⟩
    simp only [St.cs]
    go_wp2_with fail
    refine ⟨_, .inl ⟨rfl, fun w _ => ⟨rfl, rfl⟩⟩, ?_⟩
    refine ⟨_, .inl ⟨rfl, fun w _ => ⟨rfl, rfl⟩⟩, ?_⟩
    refine ⟨_, .inl ⟨rfl, fun w _ => ⟨rfl, rfl⟩⟩, ?_⟩
    intro x2 gT hgT hzT
    have e2 : Ext W8 x2.val := (((Ext.refl W8).drew.val x1).trans hx4).val x2
    intro x3
    go_wp2_with (refine wpList_store_row rfl 29 _ _ rfl gT _ rfl rfl 29 _ (heap_ext hzT x3.ext) info_state rfl (by simp [Value.oneCell']) ?_)
    refine ⟨(e2.val x3).setRow hgT _, ?_⟩
    refine ⟨_, .inl ⟨rfl, fun w _ => ⟨rfl, rfl⟩⟩, ?_⟩
    intro x4
    have eT : x4.val.heap[gT]? = some (.cells #[.int .i64 r', .int .u64 c', .string t', .int .i64 ph', .int .i64 k', .int .i64 f', .int .u64 c2', .string t2', .bool fk'] 29 (0, 0)) := heap_ext (setRow_heap _ _ _ _ _ _ (heap_ext hzT x3.ext)) x4.ext
    have eX : Ext W8 x4.val := ((e2.val x3).setRow hgT _).val x4
    have eO : x4.val.ownsRow W8.heap.size 61 6 vo O.length (O.flatMap Ou.cs) := own_base (own_ext (own_setRow (own_ext hv (x2.ext.trans x3.ext)) (heap_ext hzT x3.ext) (by decide) _) x4.ext) ((Ext.refl W8).drew.val x1).size
    generalize x4.val = W9 at eT eX eO ⊢
    clear x4 x3 x2 hzT hv hx4 e2 x1 qx qe lx le8 hbad HT
    have qT := fun j => cell_of_row W9 _ j _ _ _ eT
    have hy9 := HA.out.hy.ext eX
    have HY9 := Lib.hid hy9
    unfold ExAt Ex.arr at hy9
    have qy := fun j => cell_of_row W9 _ j _ _ _ hy9
    have fy := fun j => frozen_of_row W9 _ j _ _ hy9
    have hm9 := heap_ext HA.out.hm eX
    have HM9 := Lib.hid hm9
    unfold Mv.arr at hm9
    clear qm lm
    have qm := fun j => cell_of_row W9 _ j _ _ _ hm9
    have lm : w.heap.size + 1 < W9.heap.size := (Array.getElem?_eq_some_iff.1 hm9).1
    have ly : W1.heap.size < W9.heap.size := (Array.getElem?_eq_some_iff.1 hy9).1
    have lT : gT < W9.heap.size := (Array.getElem?_eq_some_iff.1 eT).1
    have HE9 := Lib.hid (HA.out.ext.trans eX)
    have HX9 := Lib.hid eX
    have HOut := Lib.hid eO
    clear eT hy9 hm9 eX eO
    have hwy : w.heap.size + 1 + 1 < W1.heap.size := HA.out.hgy
    have hyB : W1.heap.size < W2.heap.size := HA.out.hB
    go_upto_region 32 with fail
    have hy900 := HY9.out
    unfold ExAt Ex.arr at hy900
    have hb900 : But W1.heap.size W9 W9 := But.refl _ _
    have hy901 : (W9.setCell ⟨W1.heap.size, 1, none⟩ (.int .i64 r')).heap[W1.heap.size]? = some (.cells #[.int .u64 x.c, .int .i64 r', .int .u64 x.s0.c, .string x.s0.t, .int .i64 x.s0.ph, .int .i64 x.s0.p.k, .int .i64 x.s0.p.f, .int .u64 x.s0.p.c, .string x.s0.p.t, .bool x.s0.p.b, .int .i64 x.s1.r, .int .u64 x.s1.c, .string x.s1.t, .int .i64 x.s1.ph, .int .i64 x.s1.p.k, .int .i64 x.s1.p.f, .int .u64 x.s1.p.c, .string x.s1.p.t, .bool x.s1.p.b, .int .u64 x.v.c, .int .i64 x.v.k, .string x.v.t, .bool x.b0, .bool x.b1, .bool x.full, (.slice s1a s1n s1c)] 36 (0, 0)) := setCell_row hy900 _
    clear hy900
    have hb901 : But W1.heap.size W9 (W9.setCell ⟨W1.heap.size, 1, none⟩ (.int .i64 r')) := hb900.setCell _ _
    clear hb900
    have hy902 : ((W9.setCell ⟨W1.heap.size, 1, none⟩ (.int .i64 r')).setCell ⟨W1.heap.size, 2, none⟩ (.int .u64 c')).heap[W1.heap.size]? = some (.cells #[.int .u64 x.c, .int .i64 r', .int .u64 c', .string x.s0.t, .int .i64 x.s0.ph, .int .i64 x.s0.p.k, .int .i64 x.s0.p.f, .int .u64 x.s0.p.c, .string x.s0.p.t, .bool x.s0.p.b, .int .i64 x.s1.r, .int .u64 x.s1.c, .string x.s1.t, .int .i64 x.s1.ph, .int .i64 x.s1.p.k, .int .i64 x.s1.p.f, .int .u64 x.s1.p.c, .string x.s1.p.t, .bool x.s1.p.b, .int .u64 x.v.c, .int .i64 x.v.k, .string x.v.t, .bool x.b0, .bool x.b1, .bool x.full, (.slice s1a s1n s1c)] 36 (0, 0)) := setCell_row hy901 _
    clear hy901
    have hb902 : But W1.heap.size W9 ((W9.setCell ⟨W1.heap.size, 1, none⟩ (.int .i64 r')).setCell ⟨W1.heap.size, 2, none⟩ (.int .u64 c')) := hb901.setCell _ _
    clear hb901
    have hy903 : (((W9.setCell ⟨W1.heap.size, 1, none⟩ (.int .i64 r')).setCell ⟨W1.heap.size, 2, none⟩ (.int .u64 c')).setCell ⟨W1.heap.size, 3, none⟩ (.string t')).heap[W1.heap.size]? = some (.cells #[.int .u64 x.c, .int .i64 r', .int .u64 c', .string t', .int .i64 x.s0.ph, .int .i64 x.s0.p.k, .int .i64 x.s0.p.f, .int .u64 x.s0.p.c, .string x.s0.p.t, .bool x.s0.p.b, .int .i64 x.s1.r, .int .u64 x.s1.c, .string x.s1.t, .int .i64 x.s1.ph, .int .i64 x.s1.p.k, .int .i64 x.s1.p.f, .int .u64 x.s1.p.c, .string x.s1.p.t, .bool x.s1.p.b, .int .u64 x.v.c, .int .i64 x.v.k, .string x.v.t, .bool x.b0, .bool x.b1, .bool x.full, (.slice s1a s1n s1c)] 36 (0, 0)) := setCell_row hy902 _
    clear hy902
    have hb903 : But W1.heap.size W9 (((W9.setCell ⟨W1.heap.size, 1, none⟩ (.int .i64 r')).setCell ⟨W1.heap.size, 2, none⟩ (.int .u64 c')).setCell ⟨W1.heap.size, 3, none⟩ (.string t')) := hb902.setCell _ _
    clear hb902
    have hy904 : ((((W9.setCell ⟨W1.heap.size, 1, none⟩ (.int .i64 r')).setCell ⟨W1.heap.size, 2, none⟩ (.int .u64 c')).setCell ⟨W1.heap.size, 3, none⟩ (.string t')).setCell ⟨W1.heap.size, 4, none⟩ (.int .i64 ph')).heap[W1.heap.size]? = some (.cells #[.int .u64 x.c, .int .i64 r', .int .u64 c', .string t', .int .i64 ph', .int .i64 x.s0.p.k, .int .i64 x.s0.p.f, .int .u64 x.s0.p.c, .string x.s0.p.t, .bool x.s0.p.b, .int .i64 x.s1.r, .int .u64 x.s1.c, .string x.s1.t, .int .i64 x.s1.ph, .int .i64 x.s1.p.k, .int .i64 x.s1.p.f, .int .u64 x.s1.p.c, .string x.s1.p.t, .bool x.s1.p.b, .int .u64 x.v.c, .int .i64 x.v.k, .string x.v.t, .bool x.b0, .bool x.b1, .bool x.full, (.slice s1a s1n s1c)] 36 (0, 0)) := setCell_row hy903 _
    clear hy903
    have hb904 : But W1.heap.size W9 ((((W9.setCell ⟨W1.heap.size, 1, none⟩ (.int .i64 r')).setCell ⟨W1.heap.size, 2, none⟩ (.int .u64 c')).setCell ⟨W1.heap.size, 3, none⟩ (.string t')).setCell ⟨W1.heap.size, 4, none⟩ (.int .i64 ph')) := hb903.setCell _ _
    clear hb903
    have hy905 : (((((W9.setCell ⟨W1.heap.size, 1, none⟩ (.int .i64 r')).setCell ⟨W1.heap.size, 2, none⟩ (.int .u64 c')).setCell ⟨W1.heap.size, 3, none⟩ (.string t')).setCell ⟨W1.heap.size, 4, none⟩ (.int .i64 ph')).setCell ⟨W1.heap.size, 5, none⟩ (.int .i64 k')).heap[W1.heap.size]? = some (.cells #[.int .u64 x.c, .int .i64 r', .int .u64 c', .string t', .int .i64 ph', .int .i64 k', .int .i64 x.s0.p.f, .int .u64 x.s0.p.c, .string x.s0.p.t, .bool x.s0.p.b, .int .i64 x.s1.r, .int .u64 x.s1.c, .string x.s1.t, .int .i64 x.s1.ph, .int .i64 x.s1.p.k, .int .i64 x.s1.p.f, .int .u64 x.s1.p.c, .string x.s1.p.t, .bool x.s1.p.b, .int .u64 x.v.c, .int .i64 x.v.k, .string x.v.t, .bool x.b0, .bool x.b1, .bool x.full, (.slice s1a s1n s1c)] 36 (0, 0)) := setCell_row hy904 _
    clear hy904
    have hb905 : But W1.heap.size W9 (((((W9.setCell ⟨W1.heap.size, 1, none⟩ (.int .i64 r')).setCell ⟨W1.heap.size, 2, none⟩ (.int .u64 c')).setCell ⟨W1.heap.size, 3, none⟩ (.string t')).setCell ⟨W1.heap.size, 4, none⟩ (.int .i64 ph')).setCell ⟨W1.heap.size, 5, none⟩ (.int .i64 k')) := hb904.setCell _ _
    clear hb904
    have hy906 : ((((((W9.setCell ⟨W1.heap.size, 1, none⟩ (.int .i64 r')).setCell ⟨W1.heap.size, 2, none⟩ (.int .u64 c')).setCell ⟨W1.heap.size, 3, none⟩ (.string t')).setCell ⟨W1.heap.size, 4, none⟩ (.int .i64 ph')).setCell ⟨W1.heap.size, 5, none⟩ (.int .i64 k')).setCell ⟨W1.heap.size, 6, none⟩ (.int .i64 f')).heap[W1.heap.size]? = some (.cells #[.int .u64 x.c, .int .i64 r', .int .u64 c', .string t', .int .i64 ph', .int .i64 k', .int .i64 f', .int .u64 x.s0.p.c, .string x.s0.p.t, .bool x.s0.p.b, .int .i64 x.s1.r, .int .u64 x.s1.c, .string x.s1.t, .int .i64 x.s1.ph, .int .i64 x.s1.p.k, .int .i64 x.s1.p.f, .int .u64 x.s1.p.c, .string x.s1.p.t, .bool x.s1.p.b, .int .u64 x.v.c, .int .i64 x.v.k, .string x.v.t, .bool x.b0, .bool x.b1, .bool x.full, (.slice s1a s1n s1c)] 36 (0, 0)) := setCell_row hy905 _
    clear hy905
    have hb906 : But W1.heap.size W9 ((((((W9.setCell ⟨W1.heap.size, 1, none⟩ (.int .i64 r')).setCell ⟨W1.heap.size, 2, none⟩ (.int .u64 c')).setCell ⟨W1.heap.size, 3, none⟩ (.string t')).setCell ⟨W1.heap.size, 4, none⟩ (.int .i64 ph')).setCell ⟨W1.heap.size, 5, none⟩ (.int .i64 k')).setCell ⟨W1.heap.size, 6, none⟩ (.int .i64 f')) := hb905.setCell _ _
    clear hb905
    have hy907 : (((((((W9.setCell ⟨W1.heap.size, 1, none⟩ (.int .i64 r')).setCell ⟨W1.heap.size, 2, none⟩ (.int .u64 c')).setCell ⟨W1.heap.size, 3, none⟩ (.string t')).setCell ⟨W1.heap.size, 4, none⟩ (.int .i64 ph')).setCell ⟨W1.heap.size, 5, none⟩ (.int .i64 k')).setCell ⟨W1.heap.size, 6, none⟩ (.int .i64 f')).setCell ⟨W1.heap.size, 7, none⟩ (.int .u64 c2')).heap[W1.heap.size]? = some (.cells #[.int .u64 x.c, .int .i64 r', .int .u64 c', .string t', .int .i64 ph', .int .i64 k', .int .i64 f', .int .u64 c2', .string x.s0.p.t, .bool x.s0.p.b, .int .i64 x.s1.r, .int .u64 x.s1.c, .string x.s1.t, .int .i64 x.s1.ph, .int .i64 x.s1.p.k, .int .i64 x.s1.p.f, .int .u64 x.s1.p.c, .string x.s1.p.t, .bool x.s1.p.b, .int .u64 x.v.c, .int .i64 x.v.k, .string x.v.t, .bool x.b0, .bool x.b1, .bool x.full, (.slice s1a s1n s1c)] 36 (0, 0)) := setCell_row hy906 _
    clear hy906
    have hb907 : But W1.heap.size W9 (((((((W9.setCell ⟨W1.heap.size, 1, none⟩ (.int .i64 r')).setCell ⟨W1.heap.size, 2, none⟩ (.int .u64 c')).setCell ⟨W1.heap.size, 3, none⟩ (.string t')).setCell ⟨W1.heap.size, 4, none⟩ (.int .i64 ph')).setCell ⟨W1.heap.size, 5, none⟩ (.int .i64 k')).setCell ⟨W1.heap.size, 6, none⟩ (.int .i64 f')).setCell ⟨W1.heap.size, 7, none⟩ (.int .u64 c2')) := hb906.setCell _ _
    clear hb906
    have hy908 : ((((((((W9.setCell ⟨W1.heap.size, 1, none⟩ (.int .i64 r')).setCell ⟨W1.heap.size, 2, none⟩ (.int .u64 c')).setCell ⟨W1.heap.size, 3, none⟩ (.string t')).setCell ⟨W1.heap.size, 4, none⟩ (.int .i64 ph')).setCell ⟨W1.heap.size, 5, none⟩ (.int .i64 k')).setCell ⟨W1.heap.size, 6, none⟩ (.int .i64 f')).setCell ⟨W1.heap.size, 7, none⟩ (.int .u64 c2')).setCell ⟨W1.heap.size, 8, none⟩ (.string t2')).heap[W1.heap.size]? = some (.cells #[.int .u64 x.c, .int .i64 r', .int .u64 c', .string t', .int .i64 ph', .int .i64 k', .int .i64 f', .int .u64 c2', .string t2', .bool x.s0.p.b, .int .i64 x.s1.r, .int .u64 x.s1.c, .string x.s1.t, .int .i64 x.s1.ph, .int .i64 x.s1.p.k, .int .i64 x.s1.p.f, .int .u64 x.s1.p.c, .string x.s1.p.t, .bool x.s1.p.b, .int .u64 x.v.c, .int .i64 x.v.k, .string x.v.t, .bool x.b0, .bool x.b1, .bool x.full, (.slice s1a s1n s1c)] 36 (0, 0)) := setCell_row hy907 _
    clear hy907
    have hb908 : But W1.heap.size W9 ((((((((W9.setCell ⟨W1.heap.size, 1, none⟩ (.int .i64 r')).setCell ⟨W1.heap.size, 2, none⟩ (.int .u64 c')).setCell ⟨W1.heap.size, 3, none⟩ (.string t')).setCell ⟨W1.heap.size, 4, none⟩ (.int .i64 ph')).setCell ⟨W1.heap.size, 5, none⟩ (.int .i64 k')).setCell ⟨W1.heap.size, 6, none⟩ (.int .i64 f')).setCell ⟨W1.heap.size, 7, none⟩ (.int .u64 c2')).setCell ⟨W1.heap.size, 8, none⟩ (.string t2')) := hb907.setCell _ _
    clear hb907
    have hy909 : (((((((((W9.setCell ⟨W1.heap.size, 1, none⟩ (.int .i64 r')).setCell ⟨W1.heap.size, 2, none⟩ (.int .u64 c')).setCell ⟨W1.heap.size, 3, none⟩ (.string t')).setCell ⟨W1.heap.size, 4, none⟩ (.int .i64 ph')).setCell ⟨W1.heap.size, 5, none⟩ (.int .i64 k')).setCell ⟨W1.heap.size, 6, none⟩ (.int .i64 f')).setCell ⟨W1.heap.size, 7, none⟩ (.int .u64 c2')).setCell ⟨W1.heap.size, 8, none⟩ (.string t2')).setCell ⟨W1.heap.size, 9, none⟩ (.bool fk')).heap[W1.heap.size]? = some (.cells #[.int .u64 x.c, .int .i64 r', .int .u64 c', .string t', .int .i64 ph', .int .i64 k', .int .i64 f', .int .u64 c2', .string t2', .bool fk', .int .i64 x.s1.r, .int .u64 x.s1.c, .string x.s1.t, .int .i64 x.s1.ph, .int .i64 x.s1.p.k, .int .i64 x.s1.p.f, .int .u64 x.s1.p.c, .string x.s1.p.t, .bool x.s1.p.b, .int .u64 x.v.c, .int .i64 x.v.k, .string x.v.t, .bool x.b0, .bool x.b1, .bool x.full, (.slice s1a s1n s1c)] 36 (0, 0)) := setCell_row hy908 _
    clear hy908
    have hb909 : But W1.heap.size W9 (((((((((W9.setCell ⟨W1.heap.size, 1, none⟩ (.int .i64 r')).setCell ⟨W1.heap.size, 2, none⟩ (.int .u64 c')).setCell ⟨W1.heap.size, 3, none⟩ (.string t')).setCell ⟨W1.heap.size, 4, none⟩ (.int .i64 ph')).setCell ⟨W1.heap.size, 5, none⟩ (.int .i64 k')).setCell ⟨W1.heap.size, 6, none⟩ (.int .i64 f')).setCell ⟨W1.heap.size, 7, none⟩ (.int .u64 c2')).setCell ⟨W1.heap.size, 8, none⟩ (.string t2')).setCell ⟨W1.heap.size, 9, none⟩ (.bool fk')) := hb908.setCell _ _
    clear hb908
    refine wp_forget (fun w' => Hid (ExAt w' W1.heap.size { x with s0 := ⟨r', c', t', ph', ⟨k', f', c2', t2', fk'⟩⟩ } (.slice s1a s1n s1c) ∧ Own w' W2.heap.size x.h (.slice s1a s1n s1c) ∧ w'.heap[w.heap.size + 1]? = some (.cells m.arr 41 (0, 0)) ∧ w'.heap[w.heap.size + 1 + 1]? = some (.cells _ 36 (0, 0)) ∧ w'.ownsRow W8.heap.size 61 6 vo O.length (O.flatMap Ou.cs) ∧ Ext w w' ∧ W8.heap.size ≤ w'.heap.size))
      (Lib.hid ⟨hy909, own_same (HA.out.ho.ext HX9.out) fun k hk _ => hb909.block k (show k ≠ W1.heap.size by omega), (hb909.block _ (by omega)).trans HM9.out, (hb909.block _ (by omega)).trans (heap_ext HA.out.hr HX9.out), own_same HOut.out fun k hk _ => hb909.block k (show k ≠ W1.heap.size by omega), hb909.ext HE9.out (by omega), Nat.le_trans HX9.out.size (Nat.le_of_eq hb909.size.symm)⟩) ?_
    clear hy909 hb909
    clear qT qy fy qm lm ly lT HY9 HM9 HE9 HX9 HOut
    rintro W10 HB
    obtain ⟨oa, ocap, rfl, hom, hov⟩ := own_view HB.out.2.2.2.2.1
    have HV := Lib.hid hov
    clear hov
    unfold maxLen at hom
    rcases O with _ | ⟨o, _ | ⟨o2, O2⟩⟩
    · simp only [List.length_nil]
      go_wp2_with fail
      go_loopg [102] 0 (fun g ii wr => ii = .int .i64 0 ∧ wr = W10)
      case atStart => exact ⟨rfl, rfl⟩
      case round =>
        obtain ⟨rfl, rfl⟩ := hrel
        go_wp2_with (first | (refine wpList_load_row rfl 36 _ rfl _ rfl _ _ (0, 0) _ (HB.out.1) Try.underlying36 rfl info_ex ?_) | (refine wpList_store_row rfl 36 _ _ rfl _ _ rfl rfl 36 _ (HB.out.2.2.2.1) info_ex rfl (arr_one ({ x with s0 := ⟨r', c', t', ph', ⟨k', f', c2', t2', fk'⟩⟩ }) rfl) ?_))
        refine bodyPost_ret (results_row_tmp rfl _ _ _ 36 _ (0, 0) _ rfl (setRow_heap _ _ _ _ _ _ HB.out.2.2.2.1) Try.underlying36 rfl info_ex) rfl ?_
        exact ⟨_, rfl, own_setRow (own_base (b' := w.heap.size) HB.out.2.1 (by omega)) HB.out.2.2.2.1 (by decide) _, Ext.setRow HB.out.2.2.2.2.2.1 (by omega) _⟩
    · obtain ⟨g, rfl, hgb, hgl, hcell⟩ := HV.out (by simp)
      simp only [List.flatMap_cons, List.flatMap_nil, List.append_nil, Ou.cs] at hcell
      have q0 := hcell 0 _ rfl
      have q1 := hcell 1 _ rfl
      have q2 := hcell 2 _ rfl
      have q3 := hcell 3 _ rfl
      have q4 := hcell 4 _ rfl
      have q5 := hcell 5 _ rfl
      clear hcell
      simp only [List.length_cons, List.length_nil, Nat.zero_add]
      have hm10 := HB.out.2.2.1
      have HM := Lib.hid hm10
      clear hm10
      have hbsz : W2.heap.size ≤ W10.heap.size := Nat.le_trans hgB HB.out.2.2.2.2.2.2
      go_wp2_with fail
      go_loopg [102] 1 (fun gg ii wr => (gg = 1 ∧ ii = .int .i64 0 ∧ wr = W10) ∨ (gg = 0 ∧ ii = .int .i64 1 ∧ ∃ a3 n3 c3, Hid (ExAt wr W1.heap.size { x with s0 := ⟨r', c', t', ph', ⟨k', f', c2', t2', fk'⟩⟩, h := hearS x.h m.lost o.l } (.slice a3 n3 c3) ∧ Own wr W2.heap.size (hearS x.h m.lost o.l) (.slice a3 n3 c3) ∧ wr.heap[w.heap.size + 1 + 1]? = some (.cells _ 36 (0, 0)) ∧ Ext w wr)))
      case atStart => exact .inl ⟨rfl, rfl, rfl⟩
      case round =>
        obtain ⟨rfl, rfl, rfl⟩ | ⟨rfl, rfl, a3, n3, c3, HD⟩ := hrel
        · go_wp2_with (first
            | (refine wpList_load_row rfl 41 _ rfl _ rfl _ _ (0, 0) _ (heap_ext HM.out ((Ext.refl _).alloc _)) Try.underlying41 rfl info_mv ?_)
            | (go_at_call 21; refine (mo_hears W2.heap.size W1.heap.size _ { x with s0 := ⟨r', c', t', ph', ⟨k', f', c2', t2', fk'⟩⟩ } (.slice s1a s1n s1c) m o.l _ (HB.out.1.ext (((Ext.refl _).alloc _).alloc _)) (HB.out.2.1.ext (((Ext.refl _).alloc _).alloc _)) (heap_new (by simp)) hyB (Nat.le_trans hbsz (((Ext.refl _).alloc _).alloc _).size) hn).mono ?_; rintro e W11 ⟨rfl, hH⟩; have HH := Lib.hid hH; clear hH))
          obtain ⟨v3, hy3, ho3, hk3, hr3⟩ := HH.out
          obtain ⟨a3, n3, c3, rfl⟩ := own_slice ho3
          go_roundg 0
          case rel =>
            refine .inr ⟨rfl, rfl, a3, n3, c3, Lib.hid ⟨hy3, ho3, ?_, ?_⟩⟩
            · refine (hk3.block _ (Nat.lt_of_lt_of_le (Array.getElem?_eq_some_iff.1 HB.out.2.2.2.1).1 (((Ext.refl _).alloc _).alloc _).size) ?_).trans (heap_ext HB.out.2.2.2.1 (((Ext.refl _).alloc _).alloc _))
              simp only [List.mem_cons, not_or]
              exact ⟨by omega, fun hm => by have := (own_rowB HB.out.2.1 _ hm).1; omega⟩
            · refine keeps_ext ((HB.out.2.2.2.2.2.1.alloc _).alloc _) hk3 ?_
              intro g' hg'
              simp only [List.mem_cons] at hg'
              exact hg'.elim (fun h => by omega) (fun h => by have := (own_rowB HB.out.2.1 _ h).1; omega)
          case measure => omega
        · go_wp2_with (first | (refine wpList_load_row rfl 36 _ rfl _ rfl _ _ (0, 0) _ (HD.out.1) Try.underlying36 rfl info_ex ?_) | (refine wpList_store_row rfl 36 _ _ rfl _ _ rfl rfl 36 _ (HD.out.2.2.1) info_ex rfl (arr_one (({ x with s0 := ⟨r', c', t', ph', ⟨k', f', c2', t2', fk'⟩⟩, h := hearS x.h m.lost o.l })) rfl) ?_))
          refine bodyPost_ret (results_row_tmp rfl _ _ _ 36 _ (0, 0) _ rfl (setRow_heap _ _ _ _ _ _ HD.out.2.2.1) Try.underlying36 rfl info_ex) rfl ?_
          exact ⟨_, rfl, own_setRow (own_base (b' := w.heap.size) HD.out.2.1 (by omega)) HD.out.2.2.1 (by decide) _, Ext.setRow HD.out.2.2.2 (by omega) _⟩
    · simp at hlen

end Go.Proofs.Ytodnfbfhdloogaa
