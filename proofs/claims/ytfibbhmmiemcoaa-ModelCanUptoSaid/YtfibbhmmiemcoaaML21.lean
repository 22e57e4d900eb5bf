/-
  Walk: the kinds' shapes; the errors of a node's own fields. No condition.
-/
import Derived.Test.YtfibbhmmiemcoaaML20
set_option linter.all false
namespace Go.Proofs.Ytfibbhmmiemcoaa
open Go.RowKit
attribute [local go_sem] ExtOf.cell ExtOf.frozen ExtOf.lt ExtOf.le
attribute [local go_sem high] ExtOf.cell2 ExtOf.frozen2 ExtOf.lt2 ExtOf.cell3 ExtOf.frozen3 ExtOf.lt3

def shapesC : Array Value := #[.bool false, .bool false, .bool false, .bool false, .int .i64 0, .bool true, .bool false, .bool false, .bool false, .int .i64 0, .bool false, .bool false, .bool true, .bool false, .int .i64 0, .bool false, .bool false, .bool false, .bool true, .int .i64 0, .bool false, .bool false, .bool false, .bool false, .int .i64 2, .bool false, .bool false, .bool false, .bool false, .int .i64 1, .bool true, .bool false, .bool false, .bool false, .int .i64 0, .bool true, .bool false, .bool false, .bool false, .int .i64 1, .bool true, .bool true, .bool false, .bool false, .int .i64 1, .bool true, .bool true, .bool false, .bool false, .int .i64 1]
theorem info_shapes : (Try.prog.info? 175).map (·.size) = some 50 := by kernel_rfl
theorem info_shape : (Try.prog.info? 149).map (·.size) = some 5 := by kernel_rfl
theorem info_node : (Try.prog.info? 85).map (·.size) = some 7 := by kernel_rfl

set_option maxRecDepth 100000 in
set_option maxHeartbeats 1600000 in
theorem te_shapes (w : World) : Calls Try.prog 100 #[] w fun e w' => e = .returned (.agg shapesC) ∧ Ext w w' := by
  unfold shapesC
  go_enter Try.func100, Try.ntmps100
  go_wp2_with (refine wpList_store_row rfl 175 _ _ rfl _ _ rfl rfl 175 _ (heap_new rfl) info_shapes rfl (by simp [Value.oneCell']) ?_)
  exact bodyPost_ret (results_cell_row rfl _ _ _ _ _ (0, 0) _ rfl (setRow_heap _ _ _ _ _ _ (heap_new rfl)) Try.underlying175 rfl info_shapes) rfl ⟨rfl, ((Ext.refl _).alloc _).setRow (Nat.le_refl _) _⟩

theorem te_isName (n : Int) (h : 0 ≤ n ∧ n < 16) (w : World) : Calls Try.prog 92 #[.int .i64 n] w fun e w' => e = .returned (.bool true) ∧ w' = w := by
  obtain ⟨h0, h1⟩ := h
  go_enter Try.func92, Try.ntmps92
  go_wp2_with fail
  go_ret
  exact ⟨rfl, rfl⟩

theorem shx2 (w : World) : (Instr.index 175 (.agg shapesC) (.int .i64 2)).run Try.prog w = .ok (.agg #[.bool false, .bool false, .bool true, .bool false, .int .i64 0]) w := by kernel_rfl
set_option maxRecDepth 100000 in
set_option maxHeartbeats 1600000 in
theorem te_shapeOf2 (w : World) : Calls Try.prog 91 #[.int .i64 2] w fun e w' => e = .returned (.tuple #[.agg #[.bool false, .bool false, .bool true, .bool false, .int .i64 0], .bool true]) ∧ Ext w w' := by
  have hsh := te_shapes
  unfold shapesC at hsh
  have hix := shx2
  unfold shapesC at hix
  have HK := Lib.hid hsh
  clear hsh
  go_enter Try.func91, Try.ntmps91
  go_wp2_with fail
  refine (HK.out _).mono ?_
  rintro e w1 ⟨rfl, hx1⟩
  obtain ⟨y1, rfl⟩ := ext_of hx1
  clear hx1
  go_wp2_with (refine wpList_store_row rfl 149 _ _ rfl w.heap.size _ rfl rfl 149 _ (heap_ext (heap_new rfl) y1.ext) info_shape rfl (by simp [Value.oneCell']) ?_)
  exact bodyPost_ret (results_row_tmp rfl _ _ w.heap.size _ _ (0, 0) _ rfl (setRow_heap _ _ _ _ _ _ (heap_ext (heap_new rfl) y1.ext)) Try.underlying149 rfl info_shape) rfl ⟨rfl, (((Ext.refl w).alloc _).trans y1.ext).setRow (Nat.le_refl _) _⟩

set_option maxRecDepth 100000 in
set_option maxHeartbeats 1600000 in
theorem te_plain2 (f t n : Int) (s : ByteArray) (a b : Int) (hf : f = 0) (ht : t = 0) (hs : s = { data := #[] }) (w : World) : Calls Try.prog 77 #[.agg #[.int .i64 2, .int .i64 f, .int .i64 t, .int .u64 n, .string s, .int .i64 a, .int .i64 b]] w fun e w' => e = .returned (.tuple #[.agg #[.bool false, .bool false, .bool true, .bool false, .int .i64 0], .int .i64 0]) ∧ Ext w w' := by
  have HK := Lib.hid te_shapeOf2
  subst hf
  subst ht
  subst hs
  go_enter Try.func77, Try.ntmps77
  go_wp2_with fail
  refine (HK.out _).mono ?_
  rintro e w1 ⟨rfl, hx1⟩
  obtain ⟨y1, rfl⟩ := ext_of hx1
  clear hx1
  have hsz : w.heap.size + 1 < y1.val.heap.size := by have := y1.ext.size; simp at this; omega
  go_upto_region 2 with (refine wpList_store_row rfl 149 _ _ rfl y1.val.heap.size _ rfl rfl 149 _ (heap_new rfl) info_shape rfl (by simp [Value.oneCell']) ?_)
  refine wp_forget (fun w' => w'.heap[w.heap.size]? = some (.cells #[.int .i64 2, .int .i64 0, .int .i64 0, .int .u64 n, .string { data := #[] }, .int .i64 a, .int .i64 b] 85 (0, 0)) ∧ w'.heap[w.heap.size + 1]? = some (.cells #[.bool false, .bool false, .bool false, .bool false, .int .i64 0] 149 (0, 0)) ∧ w'.heap[y1.val.heap.size]? = some (.cells #[.bool false, .bool false, .bool true, .bool false, .int .i64 0] 149 (0, 0)) ∧ Ext w w')
    ⟨(setRow_other _ _ _ _ (by omega)).trans (heap_ext (heap_ext (heap_new rfl) ((Ext.refl _).alloc _)) (y1.ext.alloc _)), (setRow_other _ _ _ _ (by omega)).trans (heap_ext (heap_new (by simp)) (y1.ext.alloc _)), setRow_heap _ _ _ _ _ _ (heap_new rfl), (((((Ext.refl w).alloc _).alloc _).trans y1.ext).alloc _).setRow (by omega) _⟩ ?_
  rintro W2 ⟨hn2, hr2, hs2, hx2⟩
  generalize y1.val.heap.size = gs at hs2 hsz ⊢
  have ln2 : w.heap.size < W2.heap.size := (Array.getElem?_eq_some_iff.1 hn2).1
  have ls2 : gs < W2.heap.size := (Array.getElem?_eq_some_iff.1 hs2).1
  have cn2 := fun j => cell_of_row W2 _ j _ _ _ hn2
  have cs2 := fun j => cell_of_row W2 _ j _ _ _ hs2
  have HR2 := Lib.hid hr2
  have HS2 := Lib.hid hs2
  have HX2 := Lib.hid hx2
  clear hn2 hr2 hs2 hx2
  go_wp2_with (refine wpList_store_row rfl 149 _ _ rfl (w.heap.size + 1) _ rfl rfl 149 _ HR2.out info_shape rfl (by simp [Value.oneCell']) ?_)
  exact bodyPost_ret (results_row_tmp rfl _ _ (w.heap.size + 1) _ _ (0, 0) _ rfl (setRow_heap _ _ _ _ _ _ HR2.out) Try.underlying149 rfl info_shape) rfl ⟨rfl, HX2.out.setRow (by omega) _⟩

set_option maxRecDepth 100000 in
set_option maxHeartbeats 1600000 in
theorem te_fields2 (f t n : Int) (s : ByteArray) (a b : Int) (w : World) : Calls Try.prog 78 #[.agg #[.bool false, .bool false, .bool true, .bool false, .int .i64 0], .agg #[.int .i64 2, .int .i64 0, .int .i64 0, .int .u64 n, .string { data := #[] }, .int .i64 a, .int .i64 b]] w fun e w' => e = .returned (.int .i64 0) ∧ Ext w w' := by
  go_enter Try.func78, Try.ntmps78
  go_wp2_with fail
  go_ret
  exact ⟨rfl, ((Ext.refl w).alloc _).alloc _⟩

theorem shx3 (w : World) : (Instr.index 175 (.agg shapesC) (.int .i64 3)).run Try.prog w = .ok (.agg #[.bool false, .bool false, .bool false, .bool true, .int .i64 0]) w := by kernel_rfl
set_option maxRecDepth 100000 in
set_option maxHeartbeats 1600000 in
theorem te_shapeOf3 (w : World) : Calls Try.prog 91 #[.int .i64 3] w fun e w' => e = .returned (.tuple #[.agg #[.bool false, .bool false, .bool false, .bool true, .int .i64 0], .bool true]) ∧ Ext w w' := by
  have hsh := te_shapes
  unfold shapesC at hsh
  have hix := shx3
  unfold shapesC at hix
  have HK := Lib.hid hsh
  clear hsh
  go_enter Try.func91, Try.ntmps91
  go_wp2_with fail
  refine (HK.out _).mono ?_
  rintro e w1 ⟨rfl, hx1⟩
  obtain ⟨y1, rfl⟩ := ext_of hx1
  clear hx1
  go_wp2_with (refine wpList_store_row rfl 149 _ _ rfl w.heap.size _ rfl rfl 149 _ (heap_ext (heap_new rfl) y1.ext) info_shape rfl (by simp [Value.oneCell']) ?_)
  exact bodyPost_ret (results_row_tmp rfl _ _ w.heap.size _ _ (0, 0) _ rfl (setRow_heap _ _ _ _ _ _ (heap_ext (heap_new rfl) y1.ext)) Try.underlying149 rfl info_shape) rfl ⟨rfl, (((Ext.refl w).alloc _).trans y1.ext).setRow (Nat.le_refl _) _⟩

set_option maxRecDepth 100000 in
set_option maxHeartbeats 1600000 in
theorem te_plain3 (f t n : Int) (s : ByteArray) (a b : Int) (hf : f = 0) (ht : t = 0) (hn : n = 0) (w : World) : Calls Try.prog 77 #[.agg #[.int .i64 3, .int .i64 f, .int .i64 t, .int .u64 n, .string s, .int .i64 a, .int .i64 b]] w fun e w' => e = .returned (.tuple #[.agg #[.bool false, .bool false, .bool false, .bool true, .int .i64 0], .int .i64 0]) ∧ Ext w w' := by
  have HK := Lib.hid te_shapeOf3
  subst hf
  subst ht
  subst hn
  go_enter Try.func77, Try.ntmps77
  go_wp2_with fail
  refine (HK.out _).mono ?_
  rintro e w1 ⟨rfl, hx1⟩
  obtain ⟨y1, rfl⟩ := ext_of hx1
  clear hx1
  have hsz : w.heap.size + 1 < y1.val.heap.size := by have := y1.ext.size; simp at this; omega
  go_upto_region 2 with (refine wpList_store_row rfl 149 _ _ rfl y1.val.heap.size _ rfl rfl 149 _ (heap_new rfl) info_shape rfl (by simp [Value.oneCell']) ?_)
  refine wp_forget (fun w' => w'.heap[w.heap.size]? = some (.cells #[.int .i64 3, .int .i64 0, .int .i64 0, .int .u64 0, .string s, .int .i64 a, .int .i64 b] 85 (0, 0)) ∧ w'.heap[w.heap.size + 1]? = some (.cells #[.bool false, .bool false, .bool false, .bool false, .int .i64 0] 149 (0, 0)) ∧ w'.heap[y1.val.heap.size]? = some (.cells #[.bool false, .bool false, .bool false, .bool true, .int .i64 0] 149 (0, 0)) ∧ Ext w w')
    ⟨(setRow_other _ _ _ _ (by omega)).trans (heap_ext (heap_ext (heap_new rfl) ((Ext.refl _).alloc _)) (y1.ext.alloc _)), (setRow_other _ _ _ _ (by omega)).trans (heap_ext (heap_new (by simp)) (y1.ext.alloc _)), setRow_heap _ _ _ _ _ _ (heap_new rfl), (((((Ext.refl w).alloc _).alloc _).trans y1.ext).alloc _).setRow (by omega) _⟩ ?_
  rintro W2 ⟨hn2, hr2, hs2, hx2⟩
  generalize y1.val.heap.size = gs at hs2 hsz ⊢
  have ln2 : w.heap.size < W2.heap.size := (Array.getElem?_eq_some_iff.1 hn2).1
  have ls2 : gs < W2.heap.size := (Array.getElem?_eq_some_iff.1 hs2).1
  have cn2 := fun j => cell_of_row W2 _ j _ _ _ hn2
  have cs2 := fun j => cell_of_row W2 _ j _ _ _ hs2
  have HR2 := Lib.hid hr2
  have HS2 := Lib.hid hs2
  have HX2 := Lib.hid hx2
  clear hn2 hr2 hs2 hx2
  go_wp2_with (refine wpList_store_row rfl 149 _ _ rfl (w.heap.size + 1) _ rfl rfl 149 _ HR2.out info_shape rfl (by simp [Value.oneCell']) ?_)
  exact bodyPost_ret (results_row_tmp rfl _ _ (w.heap.size + 1) _ _ (0, 0) _ rfl (setRow_heap _ _ _ _ _ _ HR2.out) Try.underlying149 rfl info_shape) rfl ⟨rfl, HX2.out.setRow (by omega) _⟩

set_option maxRecDepth 100000 in
set_option maxHeartbeats 1600000 in
theorem te_fields3 (f t n : Int) (s : ByteArray) (a b : Int) (hs : s.size ≤ 64) (w : World) : Calls Try.prog 78 #[.agg #[.bool false, .bool false, .bool false, .bool true, .int .i64 0], .agg #[.int .i64 3, .int .i64 0, .int .i64 0, .int .u64 0, .string s, .int .i64 a, .int .i64 b]] w fun e w' => e = .returned (.int .i64 0) ∧ Ext w w' := by
  go_enter Try.func78, Try.ntmps78
  have hs2 : ¬ (64 : Int) < (s.size : Int) := by omega
  go_wp2_with fail
  go_ret
  exact ⟨rfl, ((Ext.refl w).alloc _).alloc _⟩

theorem shx4 (w : World) : (Instr.index 175 (.agg shapesC) (.int .i64 4)).run Try.prog w = .ok (.agg #[.bool false, .bool false, .bool false, .bool false, .int .i64 2]) w := by kernel_rfl
set_option maxRecDepth 100000 in
set_option maxHeartbeats 1600000 in
theorem te_shapeOf4 (w : World) : Calls Try.prog 91 #[.int .i64 4] w fun e w' => e = .returned (.tuple #[.agg #[.bool false, .bool false, .bool false, .bool false, .int .i64 2], .bool true]) ∧ Ext w w' := by
  have hsh := te_shapes
  unfold shapesC at hsh
  have hix := shx4
  unfold shapesC at hix
  have HK := Lib.hid hsh
  clear hsh
  go_enter Try.func91, Try.ntmps91
  go_wp2_with fail
  refine (HK.out _).mono ?_
  rintro e w1 ⟨rfl, hx1⟩
  obtain ⟨y1, rfl⟩ := ext_of hx1
  clear hx1
  go_wp2_with (refine wpList_store_row rfl 149 _ _ rfl w.heap.size _ rfl rfl 149 _ (heap_ext (heap_new rfl) y1.ext) info_shape rfl (by simp [Value.oneCell']) ?_)
  exact bodyPost_ret (results_row_tmp rfl _ _ w.heap.size _ _ (0, 0) _ rfl (setRow_heap _ _ _ _ _ _ (heap_ext (heap_new rfl) y1.ext)) Try.underlying149 rfl info_shape) rfl ⟨rfl, (((Ext.refl w).alloc _).trans y1.ext).setRow (Nat.le_refl _) _⟩

set_option maxRecDepth 100000 in
set_option maxHeartbeats 1600000 in
theorem te_plain4 (f t n : Int) (s : ByteArray) (a b : Int) (hf : f = 0) (ht : t = 0) (hn : n = 0) (hs : s = { data := #[] }) (w : World) : Calls Try.prog 77 #[.agg #[.int .i64 4, .int .i64 f, .int .i64 t, .int .u64 n, .string s, .int .i64 a, .int .i64 b]] w fun e w' => e = .returned (.tuple #[.agg #[.bool false, .bool false, .bool false, .bool false, .int .i64 2], .int .i64 0]) ∧ Ext w w' := by
  have HK := Lib.hid te_shapeOf4
  subst hf
  subst ht
  subst hn
  subst hs
  go_enter Try.func77, Try.ntmps77
  go_wp2_with fail
  refine (HK.out _).mono ?_
  rintro e w1 ⟨rfl, hx1⟩
  obtain ⟨y1, rfl⟩ := ext_of hx1
  clear hx1
  have hsz : w.heap.size + 1 < y1.val.heap.size := by have := y1.ext.size; simp at this; omega
  go_upto_region 2 with (refine wpList_store_row rfl 149 _ _ rfl y1.val.heap.size _ rfl rfl 149 _ (heap_new rfl) info_shape rfl (by simp [Value.oneCell']) ?_)
  refine wp_forget (fun w' => w'.heap[w.heap.size]? = some (.cells #[.int .i64 4, .int .i64 0, .int .i64 0, .int .u64 0, .string { data := #[] }, .int .i64 a, .int .i64 b] 85 (0, 0)) ∧ w'.heap[w.heap.size + 1]? = some (.cells #[.bool false, .bool false, .bool false, .bool false, .int .i64 0] 149 (0, 0)) ∧ w'.heap[y1.val.heap.size]? = some (.cells #[.bool false, .bool false, .bool false, .bool false, .int .i64 2] 149 (0, 0)) ∧ Ext w w')
    ⟨(setRow_other _ _ _ _ (by omega)).trans (heap_ext (heap_ext (heap_new rfl) ((Ext.refl _).alloc _)) (y1.ext.alloc _)), (setRow_other _ _ _ _ (by omega)).trans (heap_ext (heap_new (by simp)) (y1.ext.alloc _)), setRow_heap _ _ _ _ _ _ (heap_new rfl), (((((Ext.refl w).alloc _).alloc _).trans y1.ext).alloc _).setRow (by omega) _⟩ ?_
  rintro W2 ⟨hn2, hr2, hs2, hx2⟩
  generalize y1.val.heap.size = gs at hs2 hsz ⊢
  have ln2 : w.heap.size < W2.heap.size := (Array.getElem?_eq_some_iff.1 hn2).1
  have ls2 : gs < W2.heap.size := (Array.getElem?_eq_some_iff.1 hs2).1
  have cn2 := fun j => cell_of_row W2 _ j _ _ _ hn2
  have cs2 := fun j => cell_of_row W2 _ j _ _ _ hs2
  have HR2 := Lib.hid hr2
  have HS2 := Lib.hid hs2
  have HX2 := Lib.hid hx2
  clear hn2 hr2 hs2 hx2
  go_wp2_with (refine wpList_store_row rfl 149 _ _ rfl (w.heap.size + 1) _ rfl rfl 149 _ HR2.out info_shape rfl (by simp [Value.oneCell']) ?_)
  exact bodyPost_ret (results_row_tmp rfl _ _ (w.heap.size + 1) _ _ (0, 0) _ rfl (setRow_heap _ _ _ _ _ _ HR2.out) Try.underlying149 rfl info_shape) rfl ⟨rfl, HX2.out.setRow (by omega) _⟩

set_option maxRecDepth 100000 in
set_option maxHeartbeats 1600000 in
theorem te_fields4 (f t n : Int) (s : ByteArray) (a b : Int) (w : World) : Calls Try.prog 78 #[.agg #[.bool false, .bool false, .bool false, .bool false, .int .i64 2], .agg #[.int .i64 4, .int .i64 0, .int .i64 0, .int .u64 0, .string { data := #[] }, .int .i64 a, .int .i64 b]] w fun e w' => e = .returned (.int .i64 0) ∧ Ext w w' := by
  go_enter Try.func78, Try.ntmps78
  go_wp2_with fail
  go_ret
  exact ⟨rfl, ((Ext.refl w).alloc _).alloc _⟩

theorem shx6 (w : World) : (Instr.index 175 (.agg shapesC) (.int .i64 6)).run Try.prog w = .ok (.agg #[.bool true, .bool false, .bool false, .bool false, .int .i64 0]) w := by kernel_rfl
set_option maxRecDepth 100000 in
set_option maxHeartbeats 1600000 in
theorem te_shapeOf6 (w : World) : Calls Try.prog 91 #[.int .i64 6] w fun e w' => e = .returned (.tuple #[.agg #[.bool true, .bool false, .bool false, .bool false, .int .i64 0], .bool true]) ∧ Ext w w' := by
  have hsh := te_shapes
  unfold shapesC at hsh
  have hix := shx6
  unfold shapesC at hix
  have HK := Lib.hid hsh
  clear hsh
  go_enter Try.func91, Try.ntmps91
  go_wp2_with fail
  refine (HK.out _).mono ?_
  rintro e w1 ⟨rfl, hx1⟩
  obtain ⟨y1, rfl⟩ := ext_of hx1
  clear hx1
  go_wp2_with (refine wpList_store_row rfl 149 _ _ rfl w.heap.size _ rfl rfl 149 _ (heap_ext (heap_new rfl) y1.ext) info_shape rfl (by simp [Value.oneCell']) ?_)
  exact bodyPost_ret (results_row_tmp rfl _ _ w.heap.size _ _ (0, 0) _ rfl (setRow_heap _ _ _ _ _ _ (heap_ext (heap_new rfl) y1.ext)) Try.underlying149 rfl info_shape) rfl ⟨rfl, (((Ext.refl w).alloc _).trans y1.ext).setRow (Nat.le_refl _) _⟩

set_option maxRecDepth 100000 in
set_option maxHeartbeats 1600000 in
theorem te_plain6 (f t n : Int) (s : ByteArray) (a b : Int) (ht : t = 0) (hn : n = 0) (hs : s = { data := #[] }) (w : World) : Calls Try.prog 77 #[.agg #[.int .i64 6, .int .i64 f, .int .i64 t, .int .u64 n, .string s, .int .i64 a, .int .i64 b]] w fun e w' => e = .returned (.tuple #[.agg #[.bool true, .bool false, .bool false, .bool false, .int .i64 0], .int .i64 0]) ∧ Ext w w' := by
  have HK := Lib.hid te_shapeOf6
  subst ht
  subst hn
  subst hs
  go_enter Try.func77, Try.ntmps77
  go_wp2_with fail
  refine (HK.out _).mono ?_
  rintro e w1 ⟨rfl, hx1⟩
  obtain ⟨y1, rfl⟩ := ext_of hx1
  clear hx1
  have hsz : w.heap.size + 1 < y1.val.heap.size := by have := y1.ext.size; simp at this; omega
  go_upto_region 2 with (refine wpList_store_row rfl 149 _ _ rfl y1.val.heap.size _ rfl rfl 149 _ (heap_new rfl) info_shape rfl (by simp [Value.oneCell']) ?_)
  refine wp_forget (fun w' => w'.heap[w.heap.size]? = some (.cells #[.int .i64 6, .int .i64 f, .int .i64 0, .int .u64 0, .string { data := #[] }, .int .i64 a, .int .i64 b] 85 (0, 0)) ∧ w'.heap[w.heap.size + 1]? = some (.cells #[.bool false, .bool false, .bool false, .bool false, .int .i64 0] 149 (0, 0)) ∧ w'.heap[y1.val.heap.size]? = some (.cells #[.bool true, .bool false, .bool false, .bool false, .int .i64 0] 149 (0, 0)) ∧ Ext w w')
    ⟨(setRow_other _ _ _ _ (by omega)).trans (heap_ext (heap_ext (heap_new rfl) ((Ext.refl _).alloc _)) (y1.ext.alloc _)), (setRow_other _ _ _ _ (by omega)).trans (heap_ext (heap_new (by simp)) (y1.ext.alloc _)), setRow_heap _ _ _ _ _ _ (heap_new rfl), (((((Ext.refl w).alloc _).alloc _).trans y1.ext).alloc _).setRow (by omega) _⟩ ?_
  rintro W2 ⟨hn2, hr2, hs2, hx2⟩
  generalize y1.val.heap.size = gs at hs2 hsz ⊢
  have ln2 : w.heap.size < W2.heap.size := (Array.getElem?_eq_some_iff.1 hn2).1
  have ls2 : gs < W2.heap.size := (Array.getElem?_eq_some_iff.1 hs2).1
  have cn2 := fun j => cell_of_row W2 _ j _ _ _ hn2
  have cs2 := fun j => cell_of_row W2 _ j _ _ _ hs2
  have HR2 := Lib.hid hr2
  have HS2 := Lib.hid hs2
  have HX2 := Lib.hid hx2
  clear hn2 hr2 hs2 hx2
  go_wp2_with (refine wpList_store_row rfl 149 _ _ rfl (w.heap.size + 1) _ rfl rfl 149 _ HR2.out info_shape rfl (by simp [Value.oneCell']) ?_)
  exact bodyPost_ret (results_row_tmp rfl _ _ (w.heap.size + 1) _ _ (0, 0) _ rfl (setRow_heap _ _ _ _ _ _ HR2.out) Try.underlying149 rfl info_shape) rfl ⟨rfl, HX2.out.setRow (by omega) _⟩

set_option maxRecDepth 100000 in
set_option maxHeartbeats 1600000 in
theorem te_fields6 (f t n : Int) (s : ByteArray) (a b : Int) (hf : 0 ≤ f ∧ f < 16) (w : World) : Calls Try.prog 78 #[.agg #[.bool true, .bool false, .bool false, .bool false, .int .i64 0], .agg #[.int .i64 6, .int .i64 f, .int .i64 0, .int .u64 0, .string { data := #[] }, .int .i64 a, .int .i64 b]] w fun e w' => e = .returned (.int .i64 0) ∧ Ext w w' := by
  go_enter Try.func78, Try.ntmps78
  go_wp2_with fail
  refine (te_isName f hf _).mono ?_
  rintro e w1 ⟨rfl, rfl⟩
  go_wp2_with fail
  go_ret
  exact ⟨rfl, ((Ext.refl w).alloc _).alloc _⟩

theorem shx7 (w : World) : (Instr.index 175 (.agg shapesC) (.int .i64 7)).run Try.prog w = .ok (.agg #[.bool true, .bool false, .bool false, .bool false, .int .i64 1]) w := by kernel_rfl
set_option maxRecDepth 100000 in
set_option maxHeartbeats 1600000 in
theorem te_shapeOf7 (w : World) : Calls Try.prog 91 #[.int .i64 7] w fun e w' => e = .returned (.tuple #[.agg #[.bool true, .bool false, .bool false, .bool false, .int .i64 1], .bool true]) ∧ Ext w w' := by
  have hsh := te_shapes
  unfold shapesC at hsh
  have hix := shx7
  unfold shapesC at hix
  have HK := Lib.hid hsh
  clear hsh
  go_enter Try.func91, Try.ntmps91
  go_wp2_with fail
  refine (HK.out _).mono ?_
  rintro e w1 ⟨rfl, hx1⟩
  obtain ⟨y1, rfl⟩ := ext_of hx1
  clear hx1
  go_wp2_with (refine wpList_store_row rfl 149 _ _ rfl w.heap.size _ rfl rfl 149 _ (heap_ext (heap_new rfl) y1.ext) info_shape rfl (by simp [Value.oneCell']) ?_)
  exact bodyPost_ret (results_row_tmp rfl _ _ w.heap.size _ _ (0, 0) _ rfl (setRow_heap _ _ _ _ _ _ (heap_ext (heap_new rfl) y1.ext)) Try.underlying149 rfl info_shape) rfl ⟨rfl, (((Ext.refl w).alloc _).trans y1.ext).setRow (Nat.le_refl _) _⟩

set_option maxRecDepth 100000 in
set_option maxHeartbeats 1600000 in
theorem te_plain7 (f t n : Int) (s : ByteArray) (a b : Int) (ht : t = 0) (hn : n = 0) (hs : s = { data := #[] }) (w : World) : Calls Try.prog 77 #[.agg #[.int .i64 7, .int .i64 f, .int .i64 t, .int .u64 n, .string s, .int .i64 a, .int .i64 b]] w fun e w' => e = .returned (.tuple #[.agg #[.bool true, .bool false, .bool false, .bool false, .int .i64 1], .int .i64 0]) ∧ Ext w w' := by
  have HK := Lib.hid te_shapeOf7
  subst ht
  subst hn
  subst hs
  go_enter Try.func77, Try.ntmps77
  go_wp2_with fail
  refine (HK.out _).mono ?_
  rintro e w1 ⟨rfl, hx1⟩
  obtain ⟨y1, rfl⟩ := ext_of hx1
  clear hx1
  have hsz : w.heap.size + 1 < y1.val.heap.size := by have := y1.ext.size; simp at this; omega
  go_upto_region 2 with (refine wpList_store_row rfl 149 _ _ rfl y1.val.heap.size _ rfl rfl 149 _ (heap_new rfl) info_shape rfl (by simp [Value.oneCell']) ?_)
  refine wp_forget (fun w' => w'.heap[w.heap.size]? = some (.cells #[.int .i64 7, .int .i64 f, .int .i64 0, .int .u64 0, .string { data := #[] }, .int .i64 a, .int .i64 b] 85 (0, 0)) ∧ w'.heap[w.heap.size + 1]? = some (.cells #[.bool false, .bool false, .bool false, .bool false, .int .i64 0] 149 (0, 0)) ∧ w'.heap[y1.val.heap.size]? = some (.cells #[.bool true, .bool false, .bool false, .bool false, .int .i64 1] 149 (0, 0)) ∧ Ext w w')
    ⟨(setRow_other _ _ _ _ (by omega)).trans (heap_ext (heap_ext (heap_new rfl) ((Ext.refl _).alloc _)) (y1.ext.alloc _)), (setRow_other _ _ _ _ (by omega)).trans (heap_ext (heap_new (by simp)) (y1.ext.alloc _)), setRow_heap _ _ _ _ _ _ (heap_new rfl), (((((Ext.refl w).alloc _).alloc _).trans y1.ext).alloc _).setRow (by omega) _⟩ ?_
  rintro W2 ⟨hn2, hr2, hs2, hx2⟩
  generalize y1.val.heap.size = gs at hs2 hsz ⊢
  have ln2 : w.heap.size < W2.heap.size := (Array.getElem?_eq_some_iff.1 hn2).1
  have ls2 : gs < W2.heap.size := (Array.getElem?_eq_some_iff.1 hs2).1
  have cn2 := fun j => cell_of_row W2 _ j _ _ _ hn2
  have cs2 := fun j => cell_of_row W2 _ j _ _ _ hs2
  have HR2 := Lib.hid hr2
  have HS2 := Lib.hid hs2
  have HX2 := Lib.hid hx2
  clear hn2 hr2 hs2 hx2
  go_wp2_with (refine wpList_store_row rfl 149 _ _ rfl (w.heap.size + 1) _ rfl rfl 149 _ HR2.out info_shape rfl (by simp [Value.oneCell']) ?_)
  exact bodyPost_ret (results_row_tmp rfl _ _ (w.heap.size + 1) _ _ (0, 0) _ rfl (setRow_heap _ _ _ _ _ _ HR2.out) Try.underlying149 rfl info_shape) rfl ⟨rfl, HX2.out.setRow (by omega) _⟩

set_option maxRecDepth 100000 in
set_option maxHeartbeats 1600000 in
theorem te_fields7 (f t n : Int) (s : ByteArray) (a b : Int) (hf : 0 ≤ f ∧ f < 16) (w : World) : Calls Try.prog 78 #[.agg #[.bool true, .bool false, .bool false, .bool false, .int .i64 1], .agg #[.int .i64 7, .int .i64 f, .int .i64 0, .int .u64 0, .string { data := #[] }, .int .i64 a, .int .i64 b]] w fun e w' => e = .returned (.int .i64 0) ∧ Ext w w' := by
  go_enter Try.func78, Try.ntmps78
  go_wp2_with fail
  refine (te_isName f hf _).mono ?_
  rintro e w1 ⟨rfl, rfl⟩
  go_wp2_with fail
  go_ret
  exact ⟨rfl, ((Ext.refl w).alloc _).alloc _⟩

theorem shx8 (w : World) : (Instr.index 175 (.agg shapesC) (.int .i64 8)).run Try.prog w = .ok (.agg #[.bool true, .bool true, .bool false, .bool false, .int .i64 1]) w := by kernel_rfl
set_option maxRecDepth 100000 in
set_option maxHeartbeats 1600000 in
theorem te_shapeOf8 (w : World) : Calls Try.prog 91 #[.int .i64 8] w fun e w' => e = .returned (.tuple #[.agg #[.bool true, .bool true, .bool false, .bool false, .int .i64 1], .bool true]) ∧ Ext w w' := by
  have hsh := te_shapes
  unfold shapesC at hsh
  have hix := shx8
  unfold shapesC at hix
  have HK := Lib.hid hsh
  clear hsh
  go_enter Try.func91, Try.ntmps91
  go_wp2_with fail
  refine (HK.out _).mono ?_
  rintro e w1 ⟨rfl, hx1⟩
  obtain ⟨y1, rfl⟩ := ext_of hx1
  clear hx1
  go_wp2_with (refine wpList_store_row rfl 149 _ _ rfl w.heap.size _ rfl rfl 149 _ (heap_ext (heap_new rfl) y1.ext) info_shape rfl (by simp [Value.oneCell']) ?_)
  exact bodyPost_ret (results_row_tmp rfl _ _ w.heap.size _ _ (0, 0) _ rfl (setRow_heap _ _ _ _ _ _ (heap_ext (heap_new rfl) y1.ext)) Try.underlying149 rfl info_shape) rfl ⟨rfl, (((Ext.refl w).alloc _).trans y1.ext).setRow (Nat.le_refl _) _⟩

set_option maxRecDepth 100000 in
set_option maxHeartbeats 1600000 in
theorem te_plain8 (f t n : Int) (s : ByteArray) (a b : Int) (hn : n = 0) (hs : s = { data := #[] }) (w : World) : Calls Try.prog 77 #[.agg #[.int .i64 8, .int .i64 f, .int .i64 t, .int .u64 n, .string s, .int .i64 a, .int .i64 b]] w fun e w' => e = .returned (.tuple #[.agg #[.bool true, .bool true, .bool false, .bool false, .int .i64 1], .int .i64 0]) ∧ Ext w w' := by
  have HK := Lib.hid te_shapeOf8
  subst hn
  subst hs
  go_enter Try.func77, Try.ntmps77
  go_wp2_with fail
  refine (HK.out _).mono ?_
  rintro e w1 ⟨rfl, hx1⟩
  obtain ⟨y1, rfl⟩ := ext_of hx1
  clear hx1
  have hsz : w.heap.size + 1 < y1.val.heap.size := by have := y1.ext.size; simp at this; omega
  go_upto_region 2 with (refine wpList_store_row rfl 149 _ _ rfl y1.val.heap.size _ rfl rfl 149 _ (heap_new rfl) info_shape rfl (by simp [Value.oneCell']) ?_)
  refine wp_forget (fun w' => w'.heap[w.heap.size]? = some (.cells #[.int .i64 8, .int .i64 f, .int .i64 t, .int .u64 0, .string { data := #[] }, .int .i64 a, .int .i64 b] 85 (0, 0)) ∧ w'.heap[w.heap.size + 1]? = some (.cells #[.bool false, .bool false, .bool false, .bool false, .int .i64 0] 149 (0, 0)) ∧ w'.heap[y1.val.heap.size]? = some (.cells #[.bool true, .bool true, .bool false, .bool false, .int .i64 1] 149 (0, 0)) ∧ Ext w w')
    ⟨(setRow_other _ _ _ _ (by omega)).trans (heap_ext (heap_ext (heap_new rfl) ((Ext.refl _).alloc _)) (y1.ext.alloc _)), (setRow_other _ _ _ _ (by omega)).trans (heap_ext (heap_new (by simp)) (y1.ext.alloc _)), setRow_heap _ _ _ _ _ _ (heap_new rfl), (((((Ext.refl w).alloc _).alloc _).trans y1.ext).alloc _).setRow (by omega) _⟩ ?_
  rintro W2 ⟨hn2, hr2, hs2, hx2⟩
  generalize y1.val.heap.size = gs at hs2 hsz ⊢
  have ln2 : w.heap.size < W2.heap.size := (Array.getElem?_eq_some_iff.1 hn2).1
  have ls2 : gs < W2.heap.size := (Array.getElem?_eq_some_iff.1 hs2).1
  have cn2 := fun j => cell_of_row W2 _ j _ _ _ hn2
  have cs2 := fun j => cell_of_row W2 _ j _ _ _ hs2
  have HR2 := Lib.hid hr2
  have HS2 := Lib.hid hs2
  have HX2 := Lib.hid hx2
  clear hn2 hr2 hs2 hx2
  go_wp2_with (refine wpList_store_row rfl 149 _ _ rfl (w.heap.size + 1) _ rfl rfl 149 _ HR2.out info_shape rfl (by simp [Value.oneCell']) ?_)
  exact bodyPost_ret (results_row_tmp rfl _ _ (w.heap.size + 1) _ _ (0, 0) _ rfl (setRow_heap _ _ _ _ _ _ HR2.out) Try.underlying149 rfl info_shape) rfl ⟨rfl, HX2.out.setRow (by omega) _⟩

set_option maxRecDepth 100000 in
set_option maxHeartbeats 1600000 in
theorem te_fields8 (f t n : Int) (s : ByteArray) (a b : Int) (hf : 0 ≤ f ∧ f < 16) (ht : 0 ≤ t ∧ t < 16) (hne : ¬ t = f) (w : World) : Calls Try.prog 78 #[.agg #[.bool true, .bool true, .bool false, .bool false, .int .i64 1], .agg #[.int .i64 8, .int .i64 f, .int .i64 t, .int .u64 0, .string { data := #[] }, .int .i64 a, .int .i64 b]] w fun e w' => e = .returned (.int .i64 0) ∧ Ext w w' := by
  go_enter Try.func78, Try.ntmps78
  have hne2 : (t == f) = false := by simpa using hne
  go_wp2_with fail
  refine (te_isName f hf _).mono ?_
  rintro e w1 ⟨rfl, rfl⟩
  go_wp2_with fail
  refine (te_isName t ht _).mono ?_
  rintro e w1 ⟨rfl, rfl⟩
  go_wp2_with fail
  go_ret
  exact ⟨rfl, ((Ext.refl w).alloc _).alloc _⟩

theorem shx9 (w : World) : (Instr.index 175 (.agg shapesC) (.int .i64 9)).run Try.prog w = .ok (.agg #[.bool true, .bool true, .bool false, .bool false, .int .i64 1]) w := by kernel_rfl
set_option maxRecDepth 100000 in
set_option maxHeartbeats 1600000 in
theorem te_shapeOf9 (w : World) : Calls Try.prog 91 #[.int .i64 9] w fun e w' => e = .returned (.tuple #[.agg #[.bool true, .bool true, .bool false, .bool false, .int .i64 1], .bool true]) ∧ Ext w w' := by
  have hsh := te_shapes
  unfold shapesC at hsh
  have hix := shx9
  unfold shapesC at hix
  have HK := Lib.hid hsh
  clear hsh
  go_enter Try.func91, Try.ntmps91
  go_wp2_with fail
  refine (HK.out _).mono ?_
  rintro e w1 ⟨rfl, hx1⟩
  obtain ⟨y1, rfl⟩ := ext_of hx1
  clear hx1
  go_wp2_with (refine wpList_store_row rfl 149 _ _ rfl w.heap.size _ rfl rfl 149 _ (heap_ext (heap_new rfl) y1.ext) info_shape rfl (by simp [Value.oneCell']) ?_)
  exact bodyPost_ret (results_row_tmp rfl _ _ w.heap.size _ _ (0, 0) _ rfl (setRow_heap _ _ _ _ _ _ (heap_ext (heap_new rfl) y1.ext)) Try.underlying149 rfl info_shape) rfl ⟨rfl, (((Ext.refl w).alloc _).trans y1.ext).setRow (Nat.le_refl _) _⟩

set_option maxRecDepth 100000 in
set_option maxHeartbeats 1600000 in
theorem te_plain9 (f t n : Int) (s : ByteArray) (a b : Int) (hn : n = 0) (hs : s = { data := #[] }) (w : World) : Calls Try.prog 77 #[.agg #[.int .i64 9, .int .i64 f, .int .i64 t, .int .u64 n, .string s, .int .i64 a, .int .i64 b]] w fun e w' => e = .returned (.tuple #[.agg #[.bool true, .bool true, .bool false, .bool false, .int .i64 1], .int .i64 0]) ∧ Ext w w' := by
  have HK := Lib.hid te_shapeOf9
  subst hn
  subst hs
  go_enter Try.func77, Try.ntmps77
  go_wp2_with fail
  refine (HK.out _).mono ?_
  rintro e w1 ⟨rfl, hx1⟩
  obtain ⟨y1, rfl⟩ := ext_of hx1
  clear hx1
  have hsz : w.heap.size + 1 < y1.val.heap.size := by have := y1.ext.size; simp at this; omega
  go_upto_region 2 with (refine wpList_store_row rfl 149 _ _ rfl y1.val.heap.size _ rfl rfl 149 _ (heap_new rfl) info_shape rfl (by simp [Value.oneCell']) ?_)
  refine wp_forget (fun w' => w'.heap[w.heap.size]? = some (.cells #[.int .i64 9, .int .i64 f, .int .i64 t, .int .u64 0, .string { data := #[] }, .int .i64 a, .int .i64 b] 85 (0, 0)) ∧ w'.heap[w.heap.size + 1]? = some (.cells #[.bool false, .bool false, .bool false, .bool false, .int .i64 0] 149 (0, 0)) ∧ w'.heap[y1.val.heap.size]? = some (.cells #[.bool true, .bool true, .bool false, .bool false, .int .i64 1] 149 (0, 0)) ∧ Ext w w')
    ⟨(setRow_other _ _ _ _ (by omega)).trans (heap_ext (heap_ext (heap_new rfl) ((Ext.refl _).alloc _)) (y1.ext.alloc _)), (setRow_other _ _ _ _ (by omega)).trans (heap_ext (heap_new (by simp)) (y1.ext.alloc _)), setRow_heap _ _ _ _ _ _ (heap_new rfl), (((((Ext.refl w).alloc _).alloc _).trans y1.ext).alloc _).setRow (by omega) _⟩ ?_
  rintro W2 ⟨hn2, hr2, hs2, hx2⟩
  generalize y1.val.heap.size = gs at hs2 hsz ⊢
  have ln2 : w.heap.size < W2.heap.size := (Array.getElem?_eq_some_iff.1 hn2).1
  have ls2 : gs < W2.heap.size := (Array.getElem?_eq_some_iff.1 hs2).1
  have cn2 := fun j => cell_of_row W2 _ j _ _ _ hn2
  have cs2 := fun j => cell_of_row W2 _ j _ _ _ hs2
  have HR2 := Lib.hid hr2
  have HS2 := Lib.hid hs2
  have HX2 := Lib.hid hx2
  clear hn2 hr2 hs2 hx2
  go_wp2_with (refine wpList_store_row rfl 149 _ _ rfl (w.heap.size + 1) _ rfl rfl 149 _ HR2.out info_shape rfl (by simp [Value.oneCell']) ?_)
  exact bodyPost_ret (results_row_tmp rfl _ _ (w.heap.size + 1) _ _ (0, 0) _ rfl (setRow_heap _ _ _ _ _ _ HR2.out) Try.underlying149 rfl info_shape) rfl ⟨rfl, HX2.out.setRow (by omega) _⟩

set_option maxRecDepth 100000 in
set_option maxHeartbeats 1600000 in
theorem te_fields9 (f t n : Int) (s : ByteArray) (a b : Int) (hf : 0 ≤ f ∧ f < 16) (ht : 0 ≤ t ∧ t < 16) (hne : ¬ t = f) (w : World) : Calls Try.prog 78 #[.agg #[.bool true, .bool true, .bool false, .bool false, .int .i64 1], .agg #[.int .i64 9, .int .i64 f, .int .i64 t, .int .u64 0, .string { data := #[] }, .int .i64 a, .int .i64 b]] w fun e w' => e = .returned (.int .i64 0) ∧ Ext w w' := by
  go_enter Try.func78, Try.ntmps78
  have hne2 : (t == f) = false := by simpa using hne
  go_wp2_with fail
  refine (te_isName f hf _).mono ?_
  rintro e w1 ⟨rfl, rfl⟩
  go_wp2_with fail
  refine (te_isName t ht _).mono ?_
  rintro e w1 ⟨rfl, rfl⟩
  go_wp2_with fail
  go_ret
  exact ⟨rfl, ((Ext.refl w).alloc _).alloc _⟩
end Go.Proofs.Ytfibbhmmiemcoaa

/-
  A pool of terms in memory; what only reads it. No condition.
-/
namespace Go.Proofs.Ytfibbhmmiemcoaa
open Go.RowKit
attribute [local go_sem] ExtOf.cell ExtOf.frozen ExtOf.lt ExtOf.le
attribute [local go_sem high] ExtOf.cell2 ExtOf.frozen2 ExtOf.lt2 ExtOf.cell3 ExtOf.frozen3 ExtOf.lt3

def Nd.cs (n : Nd) : List Value := [.int .i64 n.k, .int .i64 n.f, .int .i64 n.t, .int .u64 n.n, .string n.s, .int .i64 n.a, .int .i64 n.b]
def ndV (n : Nd) : Value := .agg #[.int .i64 n.k, .int .i64 n.f, .int .i64 n.t, .int .u64 n.n, .string n.s, .int .i64 n.a, .int .i64 n.b]

theorem eq_nd (x y : Nd) (w : World) : (Op.equal 85 (ndV x) (ndV y)).run Try.prog w = .ok (decide (y = x)) w := by
  obtain ⟨k, f, t, n, s, a, b⟩ := x
  obtain ⟨k', f', t', n', s', a', b'⟩ := y
  unfold ndV Op.equal Op.maxDepth
  simp [go_sem, toList_beq]
  rw [decide_eq_decide.2 (eq_comm (a := k') (b := k)), decide_eq_decide.2 (eq_comm (a := f') (b := f)), decide_eq_decide.2 (eq_comm (a := t') (b := t)), decide_eq_decide.2 (eq_comm (a := n') (b := n)), decide_eq_decide.2 (eq_comm (a := s') (b := s)), decide_eq_decide.2 (eq_comm (a := a') (b := a)), decide_eq_decide.2 (eq_comm (a := b') (b := b))]
  simp only [Int.ofNat_inj]
  repeat' split
  all_goals first | rfl | (simp [*]; done) | infer_instance
theorem chk_nd (x : Nd) (e : Bool) (w : World) : (Instr.checkKey e 10000 85 (ndV x)).run Try.prog w = .ok () w := by
  cases e <;> kernel_rfl
theorem bits_nd (x : Nd) : Instr.sameBits 10000 (ndV x) (ndV x) = true := by
  simp [ndV, Instr.sameBits]
  rw [beq_toListBytes]
  simp
theorem keys_nd : KeysOk Try.prog 85 ndV := keys_struct Try.underlying85 eq_nd chk_nd bits_nd
end Go.Proofs.Ytfibbhmmiemcoaa
