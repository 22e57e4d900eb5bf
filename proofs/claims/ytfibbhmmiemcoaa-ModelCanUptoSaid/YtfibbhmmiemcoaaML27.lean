/-
  Walk: the size and the depth of a node that may be. No condition.
-/
import Derived.Test.YtfibbhmmiemcoaaML26
import Derived.LoopN
import Derived.OwnWalk
set_option linter.all false
namespace Go.Proofs.Ytfibbhmmiemcoaa
open Go.RowKit
attribute [local go_sem] ExtOf.cell ExtOf.frozen ExtOf.lt ExtOf.le
attribute [local go_sem high] ExtOf.cell2 ExtOf.frozen2 ExtOf.lt2 ExtOf.cell3 ExtOf.frozen3 ExtOf.lt3

theorem depthT_pos (t : Tt) : 1 ≤ depthT t := by cases t <;> simp [depthT]

set_option maxRecDepth 100000 in
set_option maxHeartbeats 3200000 in
theorem te_check0 (pb : Nat) (k f t n : Int) (s : ByteArray) (x1 x2 x3 x4 : Bool)
    (hpl : ∀ w, Calls Try.prog 77 #[.agg #[.int .i64 k, .int .i64 f, .int .i64 t, .int .u64 n, .string s, .int .i64 0, .int .i64 0]] w fun e w' => e = .returned (.tuple #[.agg #[.bool x1, .bool x2, .bool x3, .bool x4, .int .i64 0], .int .i64 0]) ∧ Ext w w')
    (hfi : ∀ w, Calls Try.prog 78 #[.agg #[.bool x1, .bool x2, .bool x3, .bool x4, .int .i64 0], .agg #[.int .i64 k, .int .i64 f, .int .i64 t, .int .u64 n, .string s, .int .i64 0, .int .i64 0]] w fun e w' => e = .returned (.int .i64 0) ∧ Ext w w')
    (w : World) : Calls Try.prog 68 #[.pointer (some ⟨pb, 0, none⟩), .agg #[.int .i64 k, .int .i64 f, .int .i64 t, .int .u64 n, .string s, .int .i64 0, .int .i64 0]] w fun e w' => e = .returned (.tuple #[.int .i64 1, .int .i64 1, .int .i64 0]) ∧ Ext w w' := by
  have HPL := Lib.hid hpl
  have HFI := Lib.hid hfi
  clear hpl hfi
  go_enter Try.func68, Try.ntmps68
  go_wp2_with fail
  refine (HPL.out _).mono ?_
  rintro e w1 ⟨rfl, hx1⟩
  obtain ⟨y1, rfl⟩ := ext_of hx1
  clear hx1
  have hsz : w.heap.size < y1.val.heap.size := by have := y1.ext.size; simp at this; omega
  go_upto_region 2 with (refine wpList_store_row rfl 149 _ _ rfl y1.val.heap.size _ rfl rfl 149 _ (heap_new rfl) info_shape rfl (by simp [Value.oneCell']) ?_)
  refine wp_forget (fun w' => w'.heap[w.heap.size]? = some (.cells #[.int .i64 k, .int .i64 f, .int .i64 t, .int .u64 n, .string s, .int .i64 0, .int .i64 0] 85 (0, 0)) ∧ w'.heap[y1.val.heap.size]? = some (.cells #[.bool x1, .bool x2, .bool x3, .bool x4, .int .i64 0] 149 (0, 0)) ∧ Ext w w')
    ⟨(setRow_other _ _ _ _ (by omega)).trans (heap_ext (heap_new rfl) (y1.ext.alloc _)), setRow_heap _ _ _ _ _ _ (heap_new rfl), ((((Ext.refl w).alloc _).trans y1.ext).alloc _).setRow (by omega) _⟩ ?_
  rintro W2 ⟨hn2, hs2, hx2⟩
  generalize y1.val.heap.size = gs at hs2 hsz ⊢
  have ln2 : w.heap.size < W2.heap.size := (Array.getElem?_eq_some_iff.1 hn2).1
  have ls2 : gs < W2.heap.size := (Array.getElem?_eq_some_iff.1 hs2).1
  have cn2 := fun j => cell_of_row W2 _ j _ _ _ hn2
  have cs2 := fun j => cell_of_row W2 _ j _ _ _ hs2
  have HX2 := Lib.hid hx2
  clear hn2 hs2 hx2
  go_wp2_with fail
  refine (HFI.out _).mono ?_
  rintro e w3 ⟨rfl, hx3⟩
  obtain ⟨y3, rfl⟩ := ext_of hx3
  clear hx3
  have HX3 : Hid (∀ o, Ext w (y3.val.alloc o)) := Lib.hid fun o => HX2.out.trans (y3.ext.alloc o)
  go_wp2_with fail
  refine wp_loop_rounds 1 ?_
  rw [rounds_succ]
  go_wp2_with fail
  refine bodyPost_ret (results_tmp3 rfl _ _ _) rfl ?_
  exact ⟨rfl, HX3.out _⟩

set_option maxRecDepth 100000 in
set_option maxHeartbeats 3200000 in
theorem te_check1 (B pb mb : Nat) (v : Value) (L : List Tt) (i : Nat) (u : Tt) (hi : L[i]? = some u) (hL : L.length ≤ 100000) (hsz1 : sizeT u ≤ 1000) (hdp1 : depthT u ≤ 60) (k f t n : Int) (s : ByteArray) (x1 x2 x3 x4 : Bool)
    (hpl : ∀ w, Calls Try.prog 77 #[.agg #[.int .i64 k, .int .i64 f, .int .i64 t, .int .u64 n, .string s, .int .i64 ((i : Int) + 1), .int .i64 0]] w fun e w' => e = .returned (.tuple #[.agg #[.bool x1, .bool x2, .bool x3, .bool x4, .int .i64 1], .int .i64 0]) ∧ Ext w w')
    (hfi : ∀ w, Calls Try.prog 78 #[.agg #[.bool x1, .bool x2, .bool x3, .bool x4, .int .i64 1], .agg #[.int .i64 k, .int .i64 f, .int .i64 t, .int .u64 n, .string s, .int .i64 ((i : Int) + 1), .int .i64 0]] w fun e w' => e = .returned (.int .i64 0) ∧ Ext w w')
    (w : World) (hP : PoolAt B pb mb v L w) : Calls Try.prog 68 #[.pointer (some ⟨pb, 0, none⟩), .agg #[.int .i64 k, .int .i64 f, .int .i64 t, .int .u64 n, .string s, .int .i64 ((i : Int) + 1), .int .i64 0]] w fun e w' => e = .returned (.tuple #[.int .i64 (1 + (sizeT u : Int)), .int .i64 ((depthT u : Int) + 1), .int .i64 0]) ∧ Ext w w' := by
  have hN1 : (((i : Nat) + 1 : Nat) : Int) = (i : Int) + 1 := by omega
  have hlt1 : i < L.length := (List.getElem?_eq_some_iff.1 hi).1
  have HIN1 := Lib.hid (fun w' (e : Ext w w') => te_in B pb mb v L (i + 1) w' (hP.ext e))
  have HSZ1 := Lib.hid (fun w' (e : Ext w w') => te_size B pb mb v L i u w' (hP.ext e) hL hi)
  have HDP1 := Lib.hid (fun w' (e : Ext w w') => te_depth B pb mb v L i u w' (hP.ext e) hL hi)
  rw [decide_eq_true ⟨by omega, hlt1⟩, hN1] at HIN1
  rw [hN1] at HSZ1 HDP1
  have hnn1 : ¬ ((i : Int) + 1 = 0) := by omega
  have hi1 : (i : Int) + 1 ≤ 100000 := by omega
  have hdz1 : (0 : Int) < (depthT u : Int) := by have := depthT_pos u; omega
  have hsz1' : (sizeT u : Int) ≤ 1000 ∧ (0 : Int) ≤ (sizeT u : Int) := by omega
  have hdp1' : (depthT u : Int) ≤ 60 := by omega
  clear hsz1 hdp1
  generalize (sizeT u : Int) = su1 at *
  generalize (depthT u : Int) = du1 at *
  have HPL := Lib.hid hpl
  have HFI := Lib.hid hfi
  clear hpl hfi
  go_enter Try.func68, Try.ntmps68
  go_wp2_with fail
  refine (HPL.out _).mono ?_
  rintro e w1 ⟨rfl, hx1⟩
  obtain ⟨y1, rfl⟩ := ext_of hx1
  clear hx1
  have hsz : w.heap.size < y1.val.heap.size := by have := y1.ext.size; simp at this; omega
  go_upto_region 2 with (refine wpList_store_row rfl 149 _ _ rfl y1.val.heap.size _ rfl rfl 149 _ (heap_new rfl) info_shape rfl (by simp [Value.oneCell']) ?_)
  refine wp_forget (fun w' => w'.heap[w.heap.size]? = some (.cells #[.int .i64 k, .int .i64 f, .int .i64 t, .int .u64 n, .string s, .int .i64 ((i : Int) + 1), .int .i64 0] 85 (0, 0)) ∧ w'.heap[y1.val.heap.size]? = some (.cells #[.bool x1, .bool x2, .bool x3, .bool x4, .int .i64 1] 149 (0, 0)) ∧ Ext w w')
    ⟨(setRow_other _ _ _ _ (by omega)).trans (heap_ext (heap_new rfl) (y1.ext.alloc _)), setRow_heap _ _ _ _ _ _ (heap_new rfl), ((((Ext.refl w).alloc _).trans y1.ext).alloc _).setRow (by omega) _⟩ ?_
  rintro W2 ⟨hn2, hs2, hx2⟩
  generalize y1.val.heap.size = gs at hs2 hsz ⊢
  have ln2 : w.heap.size < W2.heap.size := (Array.getElem?_eq_some_iff.1 hn2).1
  have ls2 : gs < W2.heap.size := (Array.getElem?_eq_some_iff.1 hs2).1
  have cn2 := fun j => cell_of_row W2 _ j _ _ _ hn2
  have cs2 := fun j => cell_of_row W2 _ j _ _ _ hs2
  have HX2 := Lib.hid hx2
  clear hn2 hs2 hx2
  go_wp2_with fail
  refine (HFI.out _).mono ?_
  rintro e w3 ⟨rfl, hx3⟩
  obtain ⟨y3, rfl⟩ := ext_of hx3
  clear hx3
  have HX3 : Hid (∀ o, Ext w (y3.val.alloc o)) := Lib.hid fun o => HX2.out.trans (y3.ext.alloc o)
  go_wp2_with fail
  refine wp_loop_rounds 2 ?_
  rw [rounds_succ]
  go_wp2_with fail
  refine (HIN1.out _ (HX3.out _)).mono ?_
  rintro e w4 ⟨rfl, rfl⟩
  go_wp2_with fail
  refine (HSZ1.out _ (HX3.out _)).mono ?_
  rintro e w4 ⟨rfl, rfl⟩
  go_wp2_with fail
  refine (HDP1.out _ (HX3.out _)).mono ?_
  rintro e w4 ⟨rfl, rfl⟩
  go_wp2_with fail
  refine Eq.mpr (rounds_succ (n := 0)) ?_
  go_upto_region 18 with fail
  have hg3 : ¬ (4096 : Int) < 1 + su1 := by omega
  have hg4 : ¬ (64 : Int) < du1 + 1 := by omega
  generalize hS : 1 + su1 = S at hg3 ⊢
  generalize hD : du1 + 1 = D at hg4 ⊢
  have HS := Lib.hid hS
  have HD := Lib.hid hD
  clear hsz1' hdz1 hdp1' hS hD
  go_wp2_with fail
  refine bodyPost_ret (results_tmp3 rfl _ _ _) rfl ?_
  rw [HS.out, HD.out]
  exact ⟨rfl, HX3.out _⟩

set_option maxRecDepth 100000 in
set_option maxHeartbeats 3200000 in
theorem te_check2a (B pb mb : Nat) (v : Value) (L : List Tt) (i j : Nat) (u u2 : Tt) (hi : L[i]? = some u) (hj : L[j]? = some u2) (hL : L.length ≤ 100000) (hsz1 : sizeT u ≤ 1000) (hdp1 : depthT u ≤ 60) (hsz2 : sizeT u2 ≤ 1000) (hdp2 : depthT u2 ≤ 60) (h12 : depthT u < depthT u2) (k f t n : Int) (s : ByteArray) (x1 x2 x3 x4 : Bool)
    (hpl : ∀ w, Calls Try.prog 77 #[.agg #[.int .i64 k, .int .i64 f, .int .i64 t, .int .u64 n, .string s, .int .i64 ((i : Int) + 1), .int .i64 ((j : Int) + 1)]] w fun e w' => e = .returned (.tuple #[.agg #[.bool x1, .bool x2, .bool x3, .bool x4, .int .i64 2], .int .i64 0]) ∧ Ext w w')
    (hfi : ∀ w, Calls Try.prog 78 #[.agg #[.bool x1, .bool x2, .bool x3, .bool x4, .int .i64 2], .agg #[.int .i64 k, .int .i64 f, .int .i64 t, .int .u64 n, .string s, .int .i64 ((i : Int) + 1), .int .i64 ((j : Int) + 1)]] w fun e w' => e = .returned (.int .i64 0) ∧ Ext w w')
    (w : World) (hP : PoolAt B pb mb v L w) : Calls Try.prog 68 #[.pointer (some ⟨pb, 0, none⟩), .agg #[.int .i64 k, .int .i64 f, .int .i64 t, .int .u64 n, .string s, .int .i64 ((i : Int) + 1), .int .i64 ((j : Int) + 1)]] w fun e w' => e = .returned (.tuple #[.int .i64 (1 + (sizeT u : Int) + (sizeT u2 : Int)), .int .i64 ((depthT u2 : Int) + 1), .int .i64 0]) ∧ Ext w w' := by
  have h12z : (depthT u : Int) < (depthT u2 : Int) := by omega
  clear h12
  have hN1 : (((i : Nat) + 1 : Nat) : Int) = (i : Int) + 1 := by omega
  have hlt1 : i < L.length := (List.getElem?_eq_some_iff.1 hi).1
  have HIN1 := Lib.hid (fun w' (e : Ext w w') => te_in B pb mb v L (i + 1) w' (hP.ext e))
  have HSZ1 := Lib.hid (fun w' (e : Ext w w') => te_size B pb mb v L i u w' (hP.ext e) hL hi)
  have HDP1 := Lib.hid (fun w' (e : Ext w w') => te_depth B pb mb v L i u w' (hP.ext e) hL hi)
  rw [decide_eq_true ⟨by omega, hlt1⟩, hN1] at HIN1
  rw [hN1] at HSZ1 HDP1
  have hnn1 : ¬ ((i : Int) + 1 = 0) := by omega
  have hi1 : (i : Int) + 1 ≤ 100000 := by omega
  have hdz1 : (0 : Int) < (depthT u : Int) := by have := depthT_pos u; omega
  have hsz1' : (sizeT u : Int) ≤ 1000 ∧ (0 : Int) ≤ (sizeT u : Int) := by omega
  have hdp1' : (depthT u : Int) ≤ 60 := by omega
  clear hsz1 hdp1
  generalize (sizeT u : Int) = su1 at *
  generalize (depthT u : Int) = du1 at *
  have hN2 : (((j : Nat) + 1 : Nat) : Int) = (j : Int) + 1 := by omega
  have hlt2 : j < L.length := (List.getElem?_eq_some_iff.1 hj).1
  have HIN2 := Lib.hid (fun w' (e : Ext w w') => te_in B pb mb v L (j + 1) w' (hP.ext e))
  have HSZ2 := Lib.hid (fun w' (e : Ext w w') => te_size B pb mb v L j u2 w' (hP.ext e) hL hj)
  have HDP2 := Lib.hid (fun w' (e : Ext w w') => te_depth B pb mb v L j u2 w' (hP.ext e) hL hj)
  rw [decide_eq_true ⟨by omega, hlt2⟩, hN2] at HIN2
  rw [hN2] at HSZ2 HDP2
  have hnn2 : ¬ ((i : Int) + 1 = 0) := by omega
  have hi2 : (j : Int) + 1 ≤ 100000 := by omega
  have hdz2 : (0 : Int) < (depthT u2 : Int) := by have := depthT_pos u2; omega
  have hsz2' : (sizeT u2 : Int) ≤ 1000 ∧ (0 : Int) ≤ (sizeT u2 : Int) := by omega
  have hdp2' : (depthT u2 : Int) ≤ 60 := by omega
  clear hsz2 hdp2
  generalize (sizeT u2 : Int) = su2 at *
  generalize (depthT u2 : Int) = du2 at *
  have HPL := Lib.hid hpl
  have HFI := Lib.hid hfi
  clear hpl hfi
  go_enter Try.func68, Try.ntmps68
  go_wp2_with fail
  refine (HPL.out _).mono ?_
  rintro e w1 ⟨rfl, hx1⟩
  obtain ⟨y1, rfl⟩ := ext_of hx1
  clear hx1
  have hsz : w.heap.size < y1.val.heap.size := by have := y1.ext.size; simp at this; omega
  go_upto_region 2 with (refine wpList_store_row rfl 149 _ _ rfl y1.val.heap.size _ rfl rfl 149 _ (heap_new rfl) info_shape rfl (by simp [Value.oneCell']) ?_)
  refine wp_forget (fun w' => w'.heap[w.heap.size]? = some (.cells #[.int .i64 k, .int .i64 f, .int .i64 t, .int .u64 n, .string s, .int .i64 ((i : Int) + 1), .int .i64 ((j : Int) + 1)] 85 (0, 0)) ∧ w'.heap[y1.val.heap.size]? = some (.cells #[.bool x1, .bool x2, .bool x3, .bool x4, .int .i64 2] 149 (0, 0)) ∧ Ext w w')
    ⟨(setRow_other _ _ _ _ (by omega)).trans (heap_ext (heap_new rfl) (y1.ext.alloc _)), setRow_heap _ _ _ _ _ _ (heap_new rfl), ((((Ext.refl w).alloc _).trans y1.ext).alloc _).setRow (by omega) _⟩ ?_
  rintro W2 ⟨hn2, hs2, hx2⟩
  generalize y1.val.heap.size = gs at hs2 hsz ⊢
  have ln2 : w.heap.size < W2.heap.size := (Array.getElem?_eq_some_iff.1 hn2).1
  have ls2 : gs < W2.heap.size := (Array.getElem?_eq_some_iff.1 hs2).1
  have cn2 := fun j => cell_of_row W2 _ j _ _ _ hn2
  have cs2 := fun j => cell_of_row W2 _ j _ _ _ hs2
  have HX2 := Lib.hid hx2
  clear hn2 hs2 hx2
  go_wp2_with fail
  refine (HFI.out _).mono ?_
  rintro e w3 ⟨rfl, hx3⟩
  obtain ⟨y3, rfl⟩ := ext_of hx3
  clear hx3
  have HX3 : Hid (∀ o, Ext w (y3.val.alloc o)) := Lib.hid fun o => HX2.out.trans (y3.ext.alloc o)
  go_wp2_with fail
  refine wp_loop_rounds 3 ?_
  rw [rounds_succ]
  go_wp2_with fail
  refine (HIN1.out _ (HX3.out _)).mono ?_
  rintro e w4 ⟨rfl, rfl⟩
  go_wp2_with fail
  refine (HSZ1.out _ (HX3.out _)).mono ?_
  rintro e w4 ⟨rfl, rfl⟩
  go_wp2_with fail
  refine (HDP1.out _ (HX3.out _)).mono ?_
  rintro e w4 ⟨rfl, rfl⟩
  go_wp2_with fail
  refine Eq.mpr (rounds_succ (n := 1)) ?_
  go_wp2_with fail
  refine (HIN2.out _ (HX3.out _)).mono ?_
  rintro e w4 ⟨rfl, rfl⟩
  go_wp2_with fail
  refine (HSZ2.out _ (HX3.out _)).mono ?_
  rintro e w4 ⟨rfl, rfl⟩
  go_wp2_with fail
  refine (HDP2.out _ (HX3.out _)).mono ?_
  rintro e w4 ⟨rfl, rfl⟩
  go_wp2_with fail
  refine Eq.mpr (rounds_succ (n := 0)) ?_
  go_upto_region 18 with fail
  have hg3 : ¬ (4096 : Int) < 1 + su1 + su2 := by omega
  have hg4 : ¬ (64 : Int) < du2 + 1 := by omega
  generalize hS : 1 + su1 + su2 = S at hg3 ⊢
  generalize hD : du2 + 1 = D at hg4 ⊢
  have HS := Lib.hid hS
  have HD := Lib.hid hD
  clear hsz1' hdz1 hdp1' hsz2' hdz2 hdp2' hS hD
  go_wp2_with fail
  refine bodyPost_ret (results_tmp3 rfl _ _ _) rfl ?_
  rw [HS.out, HD.out]
  exact ⟨rfl, HX3.out _⟩

set_option maxRecDepth 100000 in
set_option maxHeartbeats 3200000 in
theorem te_check2b (B pb mb : Nat) (v : Value) (L : List Tt) (i j : Nat) (u u2 : Tt) (hi : L[i]? = some u) (hj : L[j]? = some u2) (hL : L.length ≤ 100000) (hsz1 : sizeT u ≤ 1000) (hdp1 : depthT u ≤ 60) (hsz2 : sizeT u2 ≤ 1000) (hdp2 : depthT u2 ≤ 60) (h12 : ¬ depthT u < depthT u2) (k f t n : Int) (s : ByteArray) (x1 x2 x3 x4 : Bool)
    (hpl : ∀ w, Calls Try.prog 77 #[.agg #[.int .i64 k, .int .i64 f, .int .i64 t, .int .u64 n, .string s, .int .i64 ((i : Int) + 1), .int .i64 ((j : Int) + 1)]] w fun e w' => e = .returned (.tuple #[.agg #[.bool x1, .bool x2, .bool x3, .bool x4, .int .i64 2], .int .i64 0]) ∧ Ext w w')
    (hfi : ∀ w, Calls Try.prog 78 #[.agg #[.bool x1, .bool x2, .bool x3, .bool x4, .int .i64 2], .agg #[.int .i64 k, .int .i64 f, .int .i64 t, .int .u64 n, .string s, .int .i64 ((i : Int) + 1), .int .i64 ((j : Int) + 1)]] w fun e w' => e = .returned (.int .i64 0) ∧ Ext w w')
    (w : World) (hP : PoolAt B pb mb v L w) : Calls Try.prog 68 #[.pointer (some ⟨pb, 0, none⟩), .agg #[.int .i64 k, .int .i64 f, .int .i64 t, .int .u64 n, .string s, .int .i64 ((i : Int) + 1), .int .i64 ((j : Int) + 1)]] w fun e w' => e = .returned (.tuple #[.int .i64 (1 + (sizeT u : Int) + (sizeT u2 : Int)), .int .i64 ((depthT u : Int) + 1), .int .i64 0]) ∧ Ext w w' := by
  have h12z : ¬ (depthT u : Int) < (depthT u2 : Int) := by omega
  clear h12
  have hN1 : (((i : Nat) + 1 : Nat) : Int) = (i : Int) + 1 := by omega
  have hlt1 : i < L.length := (List.getElem?_eq_some_iff.1 hi).1
  have HIN1 := Lib.hid (fun w' (e : Ext w w') => te_in B pb mb v L (i + 1) w' (hP.ext e))
  have HSZ1 := Lib.hid (fun w' (e : Ext w w') => te_size B pb mb v L i u w' (hP.ext e) hL hi)
  have HDP1 := Lib.hid (fun w' (e : Ext w w') => te_depth B pb mb v L i u w' (hP.ext e) hL hi)
  rw [decide_eq_true ⟨by omega, hlt1⟩, hN1] at HIN1
  rw [hN1] at HSZ1 HDP1
  have hnn1 : ¬ ((i : Int) + 1 = 0) := by omega
  have hi1 : (i : Int) + 1 ≤ 100000 := by omega
  have hdz1 : (0 : Int) < (depthT u : Int) := by have := depthT_pos u; omega
  have hsz1' : (sizeT u : Int) ≤ 1000 ∧ (0 : Int) ≤ (sizeT u : Int) := by omega
  have hdp1' : (depthT u : Int) ≤ 60 := by omega
  clear hsz1 hdp1
  generalize (sizeT u : Int) = su1 at *
  generalize (depthT u : Int) = du1 at *
  have hN2 : (((j : Nat) + 1 : Nat) : Int) = (j : Int) + 1 := by omega
  have hlt2 : j < L.length := (List.getElem?_eq_some_iff.1 hj).1
  have HIN2 := Lib.hid (fun w' (e : Ext w w') => te_in B pb mb v L (j + 1) w' (hP.ext e))
  have HSZ2 := Lib.hid (fun w' (e : Ext w w') => te_size B pb mb v L j u2 w' (hP.ext e) hL hj)
  have HDP2 := Lib.hid (fun w' (e : Ext w w') => te_depth B pb mb v L j u2 w' (hP.ext e) hL hj)
  rw [decide_eq_true ⟨by omega, hlt2⟩, hN2] at HIN2
  rw [hN2] at HSZ2 HDP2
  have hnn2 : ¬ ((i : Int) + 1 = 0) := by omega
  have hi2 : (j : Int) + 1 ≤ 100000 := by omega
  have hdz2 : (0 : Int) < (depthT u2 : Int) := by have := depthT_pos u2; omega
  have hsz2' : (sizeT u2 : Int) ≤ 1000 ∧ (0 : Int) ≤ (sizeT u2 : Int) := by omega
  have hdp2' : (depthT u2 : Int) ≤ 60 := by omega
  clear hsz2 hdp2
  generalize (sizeT u2 : Int) = su2 at *
  generalize (depthT u2 : Int) = du2 at *
  have HPL := Lib.hid hpl
  have HFI := Lib.hid hfi
  clear hpl hfi
  go_enter Try.func68, Try.ntmps68
  go_wp2_with fail
  refine (HPL.out _).mono ?_
  rintro e w1 ⟨rfl, hx1⟩
  obtain ⟨y1, rfl⟩ := ext_of hx1
  clear hx1
  have hsz : w.heap.size < y1.val.heap.size := by have := y1.ext.size; simp at this; omega
  go_upto_region 2 with (refine wpList_store_row rfl 149 _ _ rfl y1.val.heap.size _ rfl rfl 149 _ (heap_new rfl) info_shape rfl (by simp [Value.oneCell']) ?_)
  refine wp_forget (fun w' => w'.heap[w.heap.size]? = some (.cells #[.int .i64 k, .int .i64 f, .int .i64 t, .int .u64 n, .string s, .int .i64 ((i : Int) + 1), .int .i64 ((j : Int) + 1)] 85 (0, 0)) ∧ w'.heap[y1.val.heap.size]? = some (.cells #[.bool x1, .bool x2, .bool x3, .bool x4, .int .i64 2] 149 (0, 0)) ∧ Ext w w')
    ⟨(setRow_other _ _ _ _ (by omega)).trans (heap_ext (heap_new rfl) (y1.ext.alloc _)), setRow_heap _ _ _ _ _ _ (heap_new rfl), ((((Ext.refl w).alloc _).trans y1.ext).alloc _).setRow (by omega) _⟩ ?_
  rintro W2 ⟨hn2, hs2, hx2⟩
  generalize y1.val.heap.size = gs at hs2 hsz ⊢
  have ln2 : w.heap.size < W2.heap.size := (Array.getElem?_eq_some_iff.1 hn2).1
  have ls2 : gs < W2.heap.size := (Array.getElem?_eq_some_iff.1 hs2).1
  have cn2 := fun j => cell_of_row W2 _ j _ _ _ hn2
  have cs2 := fun j => cell_of_row W2 _ j _ _ _ hs2
  have HX2 := Lib.hid hx2
  clear hn2 hs2 hx2
  go_wp2_with fail
  refine (HFI.out _).mono ?_
  rintro e w3 ⟨rfl, hx3⟩
  obtain ⟨y3, rfl⟩ := ext_of hx3
  clear hx3
  have HX3 : Hid (∀ o, Ext w (y3.val.alloc o)) := Lib.hid fun o => HX2.out.trans (y3.ext.alloc o)
  go_wp2_with fail
  refine wp_loop_rounds 3 ?_
  rw [rounds_succ]
  go_wp2_with fail
  refine (HIN1.out _ (HX3.out _)).mono ?_
  rintro e w4 ⟨rfl, rfl⟩
  go_wp2_with fail
  refine (HSZ1.out _ (HX3.out _)).mono ?_
  rintro e w4 ⟨rfl, rfl⟩
  go_wp2_with fail
  refine (HDP1.out _ (HX3.out _)).mono ?_
  rintro e w4 ⟨rfl, rfl⟩
  go_wp2_with fail
  refine Eq.mpr (rounds_succ (n := 1)) ?_
  go_wp2_with fail
  refine (HIN2.out _ (HX3.out _)).mono ?_
  rintro e w4 ⟨rfl, rfl⟩
  go_wp2_with fail
  refine (HSZ2.out _ (HX3.out _)).mono ?_
  rintro e w4 ⟨rfl, rfl⟩
  go_wp2_with fail
  refine (HDP2.out _ (HX3.out _)).mono ?_
  rintro e w4 ⟨rfl, rfl⟩
  go_wp2_with fail
  refine Eq.mpr (rounds_succ (n := 0)) ?_
  go_upto_region 18 with fail
  have hg3 : ¬ (4096 : Int) < 1 + su1 + su2 := by omega
  have hg4 : ¬ (64 : Int) < du1 + 1 := by omega
  generalize hS : 1 + su1 + su2 = S at hg3 ⊢
  generalize hD : du1 + 1 = D at hg4 ⊢
  have HS := Lib.hid hS
  have HD := Lib.hid hD
  clear hsz1' hdz1 hdp1' hsz2' hdz2 hdp2' hS hD
  go_wp2_with fail
  refine bodyPost_ret (results_tmp3 rfl _ _ _) rfl ?_
  rw [HS.out, HD.out]
  exact ⟨rfl, HX3.out _⟩
end Go.Proofs.Ytfibbhmmiemcoaa

/-
  Walks: a node's term, if it is there; a tree's node. No condition.
-/
namespace Go.Proofs.Ytfibbhmmiemcoaa
open Go.RowKit
attribute [local go_sem] ExtOf.cell ExtOf.frozen ExtOf.lt ExtOf.le
attribute [local go_sem high] ExtOf.cell2 ExtOf.frozen2 ExtOf.lt2 ExtOf.cell3 ExtOf.frozen3 ExtOf.lt3

theorem zero_term (w : World) : (zeroValue 44).run Try.prog w = .ok (.int .i64 0) w := by kernel_rfl
theorem look_nd {B pb mb : Nat} {v : Value} {L : List Tt} {w : World} (hP : PoolAt B pb mb v L w) (nd : Nd) : (Instr.lookup 71 (.map (some mb)) (ndV nd) true).run Try.prog w = .ok (lookG (L.map fun t => (ndT L t, .int .i64 (idT L t))) nd (.int .i64 0) true) w :=
  run_lookupG keys_nd Try.underlying71 zero_term hP.map nd true

set_option maxRecDepth 100000 in
set_option maxHeartbeats 1600000 in
theorem te_has (B pb mb : Nat) (v : Value) (L : List Tt) (nd : Nd) (r : Int) (ok : Bool) (hr : lookG (L.map fun t => (ndT L t, .int .i64 (idT L t))) nd (.int .i64 0) true = .tuple #[.int .i64 r, .bool ok]) (w : World) (hP : PoolAt B pb mb v L w) :
    Calls Try.prog 81 #[.pointer (some ⟨pb, 0, none⟩), ndV nd] w fun e w' => e = .returned (.tuple #[.int .i64 r, .bool ok]) ∧ Ext w w' := by
  have hlk := fun w' (e : Ext w w') => look_nd (hP.ext e) nd
  simp only [hr] at hlk
  unfold ndV at hlk ⊢
  have hb := hP.head
  have lb : pb < w.heap.size := (Array.getElem?_eq_some_iff.1 hb).1
  have hcb := fun j => cell_of_row w _ j _ _ _ hb
  have HLK := Lib.hid hlk
  clear hlk hr hb
  go_enter Try.func81, Try.ntmps81
  go_upto_region 3 with fail
  have hk := HLK.out _ ((Ext.refl w).alloc (.cells #[.int .i64 nd.k, .int .i64 nd.f, .int .i64 nd.t, .int .u64 nd.n, .string nd.s, .int .i64 nd.a, .int .i64 nd.b] 85)).drew
  go_region
  all_goals go_wp2_with fail
  all_goals refine bodyPost_ret (results_tmp2 rfl _ _ _) rfl ?_
  all_goals exact ⟨rfl, ((Ext.refl _).alloc _).drew⟩

set_option maxRecDepth 100000 in
set_option maxHeartbeats 1600000 in
theorem te_nodeOf (k f t n : Int) (s : ByteArray) (x : Value) (w : World) : Calls Try.prog 76 #[.agg #[.int .i64 k, .int .i64 f, .int .i64 t, .int .u64 n, .string s, x]] w fun e w' => e = .returned (.agg #[.int .i64 k, .int .i64 f, .int .i64 t, .int .u64 n, .string s, .int .i64 0, .int .i64 0]) ∧ Ext w w' := by
  go_enter Try.func76, Try.ntmps76
  go_wp2_with fail
  exact bodyPost_ret (results_cell_row rfl _ _ _ 85 _ (0, 0) _ rfl (heap_new (by simp)) Try.underlying85 rfl (info_nd ⟨k, f, t, n, s, 0, 0⟩)) rfl ⟨rfl, ((Ext.refl _).alloc _).alloc _⟩
end Go.Proofs.Ytfibbhmmiemcoaa

/-
  The walk of term.looks. No condition.
-/
namespace Go.Proofs.Ytfibbhmmiemcoaa
open Go.RowKit
attribute [local go_sem] ExtOf.cell ExtOf.frozen ExtOf.lt ExtOf.le
attribute [local go_sem high] ExtOf.cell2 ExtOf.frozen2 ExtOf.lt2 ExtOf.cell3 ExtOf.frozen3 ExtOf.lt3

/-- Behind looks: no error, so many seen. -/
def Looked (sb : Nat) (n : Int) (w : World) (e : Ending) (w' : World) : Prop :=
  e = .returned (.int .i64 0) ∧ Keeps [sb] w w' ∧ w'.heap[sb]? = some (.cells #[.int .i64 n] 3 (0, 0))
/-- What is known behind the counting. -/
def LkAt (sb : Nat) (n : Int) (row : Array Value) (w w' : World) : Prop :=
  Keeps [sb] w w' ∧ w'.heap[sb]? = some (.cells #[.int .i64 n] 3 (0, 0)) ∧ w'.heap[w.heap.size]? = some (.cells row 82 (0, 0))
theorem LkAt.start {sb : Nat} {n m : Int} {row : Array Value} {w : World} (h : w.heap[sb]? = some (.cells #[.int .i64 n] 3 (0, 0))) :
    LkAt sb m row w ((w.setCell ⟨sb, 0, none⟩ (.int .i64 m)).alloc (.cells row 82)) := by
  have l := (Array.getElem?_eq_some_iff.1 h).1
  exact ⟨((Keeps.refl _ w).setCell (.inl (.head _)) 0 _).ext ((Ext.refl _).alloc _), heap_ext (setCell_row h (.int .i64 m)) ((Ext.refl _).alloc _), heap_new (by simp)⟩
theorem LkAt.kid {sb : Nat} {n m : Int} {row : Array Value} {w w' w'' : World} {e : Ending} (hsb : sb < w.heap.size) (h : LkAt sb n row w w') (k : Looked sb m w' e w'') : e = .returned (.int .i64 0) ∧ LkAt sb m row w w'' := by
  refine ⟨k.1, h.1.trans k.2.1, k.2.2, ?_⟩
  rw [k.2.1.block w.heap.size (Array.getElem?_eq_some_iff.1 h.2.2).1 (by simp; omega)]
  exact h.2.2
theorem LkAt.ext {sb : Nat} {n : Int} {row : Array Value} {w w' w'' : World} (h : LkAt sb n row w w') (e : Ext w' w'') : LkAt sb n row w w'' :=
  ⟨h.1.ext e, heap_ext h.2.1 e, heap_ext h.2.2 e⟩


set_option maxRecDepth 100000 in
set_option maxHeartbeats 3200000 in
theorem te_looks0 (sb : Nat) (n inside : Int) (k f t m : Int) (s : ByteArray) (x1 x2 x3 x4 : Bool)  (w : World)
    (hpl : ∀ w, Calls Try.prog 77 #[.agg #[.int .i64 k, .int .i64 f, .int .i64 t, .int .u64 m, .string s, .int .i64 0, .int .i64 0]] w fun e w' => e = .returned (.tuple #[.agg #[.bool x1, .bool x2, .bool x3, .bool x4, .int .i64 0], .int .i64 0]) ∧ Ext w w')
    (hfi : ∀ w, Calls Try.prog 78 #[.agg #[.bool x1, .bool x2, .bool x3, .bool x4, .int .i64 0], .agg #[.int .i64 k, .int .i64 f, .int .i64 t, .int .u64 m, .string s, .int .i64 0, .int .i64 0]] w fun e w' => e = .returned (.int .i64 0) ∧ Ext w w')
    (hs : w.heap[sb]? = some (.cells #[.int .i64 n] 3 (0, 0))) (h0 : 0 ≤ n) (h1 : ¬ (4096 : Int) ≤ n) (hi : 0 ≤ inside) (h2 : ¬ (64 : Int) ≤ inside) :
    Calls Try.prog 56 #[.agg #[.int .i64 k, .int .i64 f, .int .i64 t, .int .u64 m, .string s, .slice none 0 0], .int .i64 inside, .pointer (some ⟨sb, 0, none⟩)] w (Looked sb (n + 1) w) := by
  have HPL := Lib.hid hpl
  have HFI := Lib.hid hfi
  clear hpl hfi  
  have HS := Lib.hid hs
  have hcs := fun j => cell_of_row w _ j _ _ _ hs
  have lsb : sb < w.heap.size := (Array.getElem?_eq_some_iff.1 hs).1
  have LSB := Lib.hid lsb
  have hw : wrap64 (n + 1) = n + 1 := by unfold wrap64; omega
  have hwi : wrap64 (inside + 1) = inside + 1 := by unfold wrap64; omega
  have hfs := fun j => frozen_of_row w _ j _ _ hs
  clear hs
  go_enter Try.func56, Try.ntmps56
  go_upto_region 4 with fail
  refine wp_forget (fun w' => Hid (LkAt sb (n + 1) #[.int .i64 k, .int .i64 f, .int .i64 t, .int .u64 m, .string s, .slice none 0 0] w w')) (Lib.hid (LkAt.start HS.out)) ?_
  intro w1 HL
  have hcl := fun j => cell_of_row w1 _ j _ _ _ HL.out.2.2
  have lb1 := (Array.getElem?_eq_some_iff.1 HL.out.2.2).1
  clear hcs hfs hw
  go_wp2_with fail
  refine (te_nodeOf k f t m s _ _).mono ?_
  rintro e w2 ⟨rfl, hx⟩
  have HL2 := Lib.hid (HL.out.ext hx)
  clear hx hcl lb1 HL w1
  go_wp2_with fail
  refine (HPL.out _).mono ?_
  rintro e w3 ⟨rfl, hx⟩
  have HL3 := Lib.hid (HL2.out.ext (((Ext.refl w2).alloc (.cells #[.int .i64 k, .int .i64 f, .int .i64 t, .int .u64 m, .string s, .int .i64 0, .int .i64 0] 85)).trans hx))
  have HN3 := Lib.hid (heap_ext (heap_new (w := w2) (o := .cells #[.int .i64 k, .int .i64 f, .int .i64 t, .int .u64 m, .string s, .int .i64 0, .int .i64 0] 85) rfl) hx)
  have hcl := fun j => cell_of_row w3 _ j _ _ _ HL3.out.2.2
  have hcn := fun j => cell_of_row w3 _ j _ _ _ HN3.out
  have lb3 := (Array.getElem?_eq_some_iff.1 HL3.out.2.2).1
  have ln3 := (Array.getElem?_eq_some_iff.1 HN3.out).1
  clear hx HL2
  go_wp2_with fail
  refine (HFI.out _).mono ?_
  rintro e w4 ⟨rfl, hx⟩
  have HL4 := Lib.hid (HL3.out.ext (((Ext.refl w3).alloc (.cells #[.bool x1, .bool x2, .bool x3, .bool x4, .int .i64 0] 149)).trans hx))
  clear hcl hcn
  have hcl := fun j => cell_of_row w4 _ j _ _ _ HL4.out.2.2
  have lb4 := (Array.getElem?_eq_some_iff.1 HL4.out.2.2).1
  clear hx HL3 HN3 lb3 ln3
  go_wp2_with fail
  refine wp_loop_rounds 1 ?_
  rw [rounds_succ]
  go_wp2_with fail
  go_ret
  exact ⟨rfl, HL4.out.1, HL4.out.2.1⟩

set_option maxRecDepth 100000 in
set_option maxHeartbeats 3200000 in
theorem te_looks1 (sb : Nat) (n inside : Int) (k f t m : Int) (s : ByteArray) (x1 x2 x3 x4 : Bool) (k1 f1 t1 m1 : Int) (s1 : ByteArray) (z1 : Value) (c1 : Int) (g : Nat) (w : World)
    (hpl : ∀ w, Calls Try.prog 77 #[.agg #[.int .i64 k, .int .i64 f, .int .i64 t, .int .u64 m, .string s, .int .i64 0, .int .i64 0]] w fun e w' => e = .returned (.tuple #[.agg #[.bool x1, .bool x2, .bool x3, .bool x4, .int .i64 1], .int .i64 0]) ∧ Ext w w')
    (hfi : ∀ w, Calls Try.prog 78 #[.agg #[.bool x1, .bool x2, .bool x3, .bool x4, .int .i64 1], .agg #[.int .i64 k, .int .i64 f, .int .i64 t, .int .u64 m, .string s, .int .i64 0, .int .i64 0]] w fun e w' => e = .returned (.int .i64 0) ∧ Ext w w')
    (hk1 : ∀ w', Keeps [sb] w w' → w'.heap[sb]? = some (.cells #[.int .i64 (n + 1)] 3 (0, 0)) → Calls Try.prog 56 #[.agg #[.int .i64 k1, .int .i64 f1, .int .i64 t1, .int .u64 m1, .string s1, z1], .int .i64 (inside + 1), .pointer (some ⟨sb, 0, none⟩)] w' (Looked sb (n + 1 + c1) w'))
    (hg : ∀ w', Keeps [sb] w w' → ∀ j u, ([.int .i64 k1, .int .i64 f1, .int .i64 t1, .int .u64 m1, .string s1, z1] : List Value)[j]? = some u → w'.cell? ⟨g, j, none⟩ = some u) (hgl : ∀ w', Keeps [sb] w w' → g < w'.heap.size)
    (hs : w.heap[sb]? = some (.cells #[.int .i64 n] 3 (0, 0))) (h0 : 0 ≤ n) (h1 : ¬ (4096 : Int) ≤ n) (hi : 0 ≤ inside) (h2 : ¬ (64 : Int) ≤ inside) :
    Calls Try.prog 56 #[.agg #[.int .i64 k, .int .i64 f, .int .i64 t, .int .u64 m, .string s, .slice (some ⟨g, 0, none⟩) 1 1], .int .i64 inside, .pointer (some ⟨sb, 0, none⟩)] w (Looked sb (n + 1 + c1) w) := by
  have HPL := Lib.hid hpl
  have HFI := Lib.hid hfi
  have HK1 := Lib.hid hk1
  have HG := Lib.hid hg
  have HGL := Lib.hid hgl
  clear hpl hfi hk1 hg hgl
  have HS := Lib.hid hs
  have hcs := fun j => cell_of_row w _ j _ _ _ hs
  have lsb : sb < w.heap.size := (Array.getElem?_eq_some_iff.1 hs).1
  have LSB := Lib.hid lsb
  have hw : wrap64 (n + 1) = n + 1 := by unfold wrap64; omega
  have hwi : wrap64 (inside + 1) = inside + 1 := by unfold wrap64; omega
  have hfs := fun j => frozen_of_row w _ j _ _ hs
  clear hs
  go_enter Try.func56, Try.ntmps56
  go_upto_region 4 with fail
  refine wp_forget (fun w' => Hid (LkAt sb (n + 1) #[.int .i64 k, .int .i64 f, .int .i64 t, .int .u64 m, .string s, .slice (some ⟨g, 0, none⟩) 1 1] w w')) (Lib.hid (LkAt.start HS.out)) ?_
  intro w1 HL
  have hcl := fun j => cell_of_row w1 _ j _ _ _ HL.out.2.2
  have lb1 := (Array.getElem?_eq_some_iff.1 HL.out.2.2).1
  clear hcs hfs hw
  go_wp2_with fail
  refine (te_nodeOf k f t m s _ _).mono ?_
  rintro e w2 ⟨rfl, hx⟩
  have HL2 := Lib.hid (HL.out.ext hx)
  clear hx hcl lb1 HL w1
  go_wp2_with fail
  refine (HPL.out _).mono ?_
  rintro e w3 ⟨rfl, hx⟩
  have HL3 := Lib.hid (HL2.out.ext (((Ext.refl w2).alloc (.cells #[.int .i64 k, .int .i64 f, .int .i64 t, .int .u64 m, .string s, .int .i64 0, .int .i64 0] 85)).trans hx))
  have HN3 := Lib.hid (heap_ext (heap_new (w := w2) (o := .cells #[.int .i64 k, .int .i64 f, .int .i64 t, .int .u64 m, .string s, .int .i64 0, .int .i64 0] 85) rfl) hx)
  have hcl := fun j => cell_of_row w3 _ j _ _ _ HL3.out.2.2
  have hcn := fun j => cell_of_row w3 _ j _ _ _ HN3.out
  have lb3 := (Array.getElem?_eq_some_iff.1 HL3.out.2.2).1
  have ln3 := (Array.getElem?_eq_some_iff.1 HN3.out).1
  clear hx HL2
  go_wp2_with fail
  refine (HFI.out _).mono ?_
  rintro e w4 ⟨rfl, hx⟩
  have HL4 := Lib.hid (HL3.out.ext (((Ext.refl w3).alloc (.cells #[.bool x1, .bool x2, .bool x3, .bool x4, .int .i64 1] 149)).trans hx))
  clear hcl hcn
  have hcl := fun j => cell_of_row w4 _ j _ _ _ HL4.out.2.2
  have lb4 := (Array.getElem?_eq_some_iff.1 HL4.out.2.2).1
  have hg4 := HG.out _ HL4.out.1
  have lg4 := HGL.out _ HL4.out.1
  have c0_4 := hg4 0 _ rfl
  have c1_4 := hg4 1 _ rfl
  have c2_4 := hg4 2 _ rfl
  have c3_4 := hg4 3 _ rfl
  have c4_4 := hg4 4 _ rfl
  have c5_4 := hg4 5 _ rfl
  clear hg4
  clear hx HL3 HN3 lb3 ln3
  go_wp2_with fail
  refine wp_loop_rounds 2 ?_
  rw [rounds_succ]
  go_wp2_with fail
  refine (HK1.out _ HL4.out.1 HL4.out.2.1).mono ?_
  intro e w5 hk
  obtain ⟨rfl, HL50⟩ := HL4.out.kid LSB.out hk
  have HL5 := Lib.hid HL50
  clear HL50 hk hcl lb4 lg4 c0_4 c1_4 c2_4 c3_4 c4_4 c5_4 HL4 w4
  have hcl := fun j => cell_of_row w5 _ j _ _ _ HL5.out.2.2
  have lb5 := (Array.getElem?_eq_some_iff.1 HL5.out.2.2).1
  have hg5 := HG.out _ HL5.out.1
  have lg5 := HGL.out _ HL5.out.1
  have c0_5 := hg5 0 _ rfl
  have c1_5 := hg5 1 _ rfl
  have c2_5 := hg5 2 _ rfl
  have c3_5 := hg5 3 _ rfl
  have c4_5 := hg5 4 _ rfl
  have c5_5 := hg5 5 _ rfl
  clear hg5
  go_wp2_with fail
  refine Eq.mpr (rounds_succ (n := 0)) ?_
  go_wp2_with fail
  go_ret
  exact ⟨rfl, HL5.out.1, HL5.out.2.1⟩

set_option maxRecDepth 100000 in
set_option maxHeartbeats 3200000 in
theorem te_looks2 (sb : Nat) (n inside : Int) (k f t m : Int) (s : ByteArray) (x1 x2 x3 x4 : Bool) (k1 f1 t1 m1 : Int) (s1 : ByteArray) (z1 : Value) (c1 : Int) (k2 f2 t2 m2 : Int) (s2 : ByteArray) (z2 : Value) (c2 : Int) (g : Nat) (w : World)
    (hpl : ∀ w, Calls Try.prog 77 #[.agg #[.int .i64 k, .int .i64 f, .int .i64 t, .int .u64 m, .string s, .int .i64 0, .int .i64 0]] w fun e w' => e = .returned (.tuple #[.agg #[.bool x1, .bool x2, .bool x3, .bool x4, .int .i64 2], .int .i64 0]) ∧ Ext w w')
    (hfi : ∀ w, Calls Try.prog 78 #[.agg #[.bool x1, .bool x2, .bool x3, .bool x4, .int .i64 2], .agg #[.int .i64 k, .int .i64 f, .int .i64 t, .int .u64 m, .string s, .int .i64 0, .int .i64 0]] w fun e w' => e = .returned (.int .i64 0) ∧ Ext w w')
    (hk1 : ∀ w', Keeps [sb] w w' → w'.heap[sb]? = some (.cells #[.int .i64 (n + 1)] 3 (0, 0)) → Calls Try.prog 56 #[.agg #[.int .i64 k1, .int .i64 f1, .int .i64 t1, .int .u64 m1, .string s1, z1], .int .i64 (inside + 1), .pointer (some ⟨sb, 0, none⟩)] w' (Looked sb (n + 1 + c1) w'))
    (hk2 : ∀ w', Keeps [sb] w w' → w'.heap[sb]? = some (.cells #[.int .i64 (n + 1 + c1)] 3 (0, 0)) → Calls Try.prog 56 #[.agg #[.int .i64 k2, .int .i64 f2, .int .i64 t2, .int .u64 m2, .string s2, z2], .int .i64 (inside + 1), .pointer (some ⟨sb, 0, none⟩)] w' (Looked sb (n + 1 + c1 + c2) w'))
    (hg : ∀ w', Keeps [sb] w w' → ∀ j u, ([.int .i64 k1, .int .i64 f1, .int .i64 t1, .int .u64 m1, .string s1, z1 , .int .i64 k2, .int .i64 f2, .int .i64 t2, .int .u64 m2, .string s2, z2] : List Value)[j]? = some u → w'.cell? ⟨g, j, none⟩ = some u) (hgl : ∀ w', Keeps [sb] w w' → g < w'.heap.size)
    (hs : w.heap[sb]? = some (.cells #[.int .i64 n] 3 (0, 0))) (h0 : 0 ≤ n) (h1 : ¬ (4096 : Int) ≤ n) (hi : 0 ≤ inside) (h2 : ¬ (64 : Int) ≤ inside) :
    Calls Try.prog 56 #[.agg #[.int .i64 k, .int .i64 f, .int .i64 t, .int .u64 m, .string s, .slice (some ⟨g, 0, none⟩) 2 2], .int .i64 inside, .pointer (some ⟨sb, 0, none⟩)] w (Looked sb (n + 1 + c1 + c2) w) := by
  have HPL := Lib.hid hpl
  have HFI := Lib.hid hfi
  have HK1 := Lib.hid hk1
  have HK2 := Lib.hid hk2
  have HG := Lib.hid hg
  have HGL := Lib.hid hgl
  clear hpl hfi hk1 hk2 hg hgl
  have HS := Lib.hid hs
  have hcs := fun j => cell_of_row w _ j _ _ _ hs
  have lsb : sb < w.heap.size := (Array.getElem?_eq_some_iff.1 hs).1
  have LSB := Lib.hid lsb
  have hw : wrap64 (n + 1) = n + 1 := by unfold wrap64; omega
  have hwi : wrap64 (inside + 1) = inside + 1 := by unfold wrap64; omega
  have hfs := fun j => frozen_of_row w _ j _ _ hs
  clear hs
  go_enter Try.func56, Try.ntmps56
  go_upto_region 4 with fail
  refine wp_forget (fun w' => Hid (LkAt sb (n + 1) #[.int .i64 k, .int .i64 f, .int .i64 t, .int .u64 m, .string s, .slice (some ⟨g, 0, none⟩) 2 2] w w')) (Lib.hid (LkAt.start HS.out)) ?_
  intro w1 HL
  have hcl := fun j => cell_of_row w1 _ j _ _ _ HL.out.2.2
  have lb1 := (Array.getElem?_eq_some_iff.1 HL.out.2.2).1
  clear hcs hfs hw
  go_wp2_with fail
  refine (te_nodeOf k f t m s _ _).mono ?_
  rintro e w2 ⟨rfl, hx⟩
  have HL2 := Lib.hid (HL.out.ext hx)
  clear hx hcl lb1 HL w1
  go_wp2_with fail
  refine (HPL.out _).mono ?_
  rintro e w3 ⟨rfl, hx⟩
  have HL3 := Lib.hid (HL2.out.ext (((Ext.refl w2).alloc (.cells #[.int .i64 k, .int .i64 f, .int .i64 t, .int .u64 m, .string s, .int .i64 0, .int .i64 0] 85)).trans hx))
  have HN3 := Lib.hid (heap_ext (heap_new (w := w2) (o := .cells #[.int .i64 k, .int .i64 f, .int .i64 t, .int .u64 m, .string s, .int .i64 0, .int .i64 0] 85) rfl) hx)
  have hcl := fun j => cell_of_row w3 _ j _ _ _ HL3.out.2.2
  have hcn := fun j => cell_of_row w3 _ j _ _ _ HN3.out
  have lb3 := (Array.getElem?_eq_some_iff.1 HL3.out.2.2).1
  have ln3 := (Array.getElem?_eq_some_iff.1 HN3.out).1
  clear hx HL2
  go_wp2_with fail
  refine (HFI.out _).mono ?_
  rintro e w4 ⟨rfl, hx⟩
  have HL4 := Lib.hid (HL3.out.ext (((Ext.refl w3).alloc (.cells #[.bool x1, .bool x2, .bool x3, .bool x4, .int .i64 2] 149)).trans hx))
  clear hcl hcn
  have hcl := fun j => cell_of_row w4 _ j _ _ _ HL4.out.2.2
  have lb4 := (Array.getElem?_eq_some_iff.1 HL4.out.2.2).1
  have hg4 := HG.out _ HL4.out.1
  have lg4 := HGL.out _ HL4.out.1
  have c0_4 := hg4 0 _ rfl
  have c1_4 := hg4 1 _ rfl
  have c2_4 := hg4 2 _ rfl
  have c3_4 := hg4 3 _ rfl
  have c4_4 := hg4 4 _ rfl
  have c5_4 := hg4 5 _ rfl
  have c6_4 := hg4 6 _ rfl
  have c7_4 := hg4 7 _ rfl
  have c8_4 := hg4 8 _ rfl
  have c9_4 := hg4 9 _ rfl
  have c10_4 := hg4 10 _ rfl
  have c11_4 := hg4 11 _ rfl
  clear hg4
  clear hx HL3 HN3 lb3 ln3
  go_wp2_with fail
  refine wp_loop_rounds 3 ?_
  rw [rounds_succ]
  go_wp2_with fail
  refine (HK1.out _ HL4.out.1 HL4.out.2.1).mono ?_
  intro e w5 hk
  obtain ⟨rfl, HL50⟩ := HL4.out.kid LSB.out hk
  have HL5 := Lib.hid HL50
  clear HL50 hk hcl lb4 lg4 c0_4 c1_4 c2_4 c3_4 c4_4 c5_4 c6_4 c7_4 c8_4 c9_4 c10_4 c11_4 HL4 w4
  have hcl := fun j => cell_of_row w5 _ j _ _ _ HL5.out.2.2
  have lb5 := (Array.getElem?_eq_some_iff.1 HL5.out.2.2).1
  have hg5 := HG.out _ HL5.out.1
  have lg5 := HGL.out _ HL5.out.1
  have c0_5 := hg5 0 _ rfl
  have c1_5 := hg5 1 _ rfl
  have c2_5 := hg5 2 _ rfl
  have c3_5 := hg5 3 _ rfl
  have c4_5 := hg5 4 _ rfl
  have c5_5 := hg5 5 _ rfl
  have c6_5 := hg5 6 _ rfl
  have c7_5 := hg5 7 _ rfl
  have c8_5 := hg5 8 _ rfl
  have c9_5 := hg5 9 _ rfl
  have c10_5 := hg5 10 _ rfl
  have c11_5 := hg5 11 _ rfl
  clear hg5
  go_wp2_with fail
  refine Eq.mpr (rounds_succ (n := 1)) ?_
  go_wp2_with fail
  refine (HK2.out _ HL5.out.1 HL5.out.2.1).mono ?_
  intro e w6 hk
  obtain ⟨rfl, HL60⟩ := HL5.out.kid LSB.out hk
  have HL6 := Lib.hid HL60
  clear HL60 hk hcl lb5 lg5 c0_5 c1_5 c2_5 c3_5 c4_5 c5_5 c6_5 c7_5 c8_5 c9_5 c10_5 c11_5 HL5 w5
  have hcl := fun j => cell_of_row w6 _ j _ _ _ HL6.out.2.2
  have lb6 := (Array.getElem?_eq_some_iff.1 HL6.out.2.2).1
  have hg6 := HG.out _ HL6.out.1
  have lg6 := HGL.out _ HL6.out.1
  have c0_6 := hg6 0 _ rfl
  have c1_6 := hg6 1 _ rfl
  have c2_6 := hg6 2 _ rfl
  have c3_6 := hg6 3 _ rfl
  have c4_6 := hg6 4 _ rfl
  have c5_6 := hg6 5 _ rfl
  have c6_6 := hg6 6 _ rfl
  have c7_6 := hg6 7 _ rfl
  have c8_6 := hg6 8 _ rfl
  have c9_6 := hg6 9 _ rfl
  have c10_6 := hg6 10 _ rfl
  have c11_6 := hg6 11 _ rfl
  clear hg6
  go_wp2_with fail
  refine Eq.mpr (rounds_succ (n := 0)) ?_
  go_wp2_with fail
  go_ret
  exact ⟨rfl, HL6.out.1, HL6.out.2.1⟩
end Go.Proofs.Ytfibbhmmiemcoaa

/-
  Walk: a node's term is made: it is there already. No condition.
-/
namespace Go.Proofs.Ytfibbhmmiemcoaa
open Go.RowKit
attribute [local go_sem] ExtOf.cell ExtOf.frozen ExtOf.lt ExtOf.le
attribute [local go_sem high] ExtOf.cell2 ExtOf.frozen2 ExtOf.lt2 ExtOf.cell3 ExtOf.frozen3 ExtOf.lt3

set_option maxRecDepth 100000 in
set_option maxHeartbeats 3200000 in
theorem te_make_there (B pb mb : Nat) (v : Value) (L : List Tt) (nd : Nd) (r sz dp : Int) (hr : lookG (L.map fun t => (ndT L t, .int .i64 (idT L t))) nd (.int .i64 0) true = .tuple #[.int .i64 r, .bool true]) (w : World) (hP : PoolAt B pb mb v L w)
    (hck : ∀ w', Ext w w' → Calls Try.prog 68 #[.pointer (some ⟨pb, 0, none⟩), ndV nd] w' fun e w'' => e = .returned (.tuple #[.int .i64 sz, .int .i64 dp, .int .i64 0]) ∧ Ext w' w'') :
    Calls Try.prog 33 #[.pointer (some ⟨pb, 0, none⟩), ndV nd] w fun e w' => e = .returned (.tuple #[.int .i64 r, .int .i64 0]) ∧ Ext w w' := by
  have hlk := fun w' (e : Ext w w') => look_nd (hP.ext e) nd
  simp only [hr] at hlk
  unfold ndV at hlk hck ⊢
  have hb := hP.head
  have lb : pb < w.heap.size := (Array.getElem?_eq_some_iff.1 hb).1
  have hcb := fun j => cell_of_row w _ j _ _ _ hb
  have HLK := Lib.hid hlk
  have HCK := Lib.hid hck
  clear hlk hr hb hck
  go_enter Try.func33, Try.ntmps33
  go_wp2_with fail
  refine (HCK.out _ ((Ext.refl w).alloc _)).mono ?_
  rintro e w1 ⟨rfl, hx1⟩
  obtain ⟨y1, rfl⟩ := ext_of hx1
  clear hx1
  go_upto_region 6 with fail
  have hk := HLK.out _ (((Ext.refl w).alloc (.cells #[.int .i64 nd.k, .int .i64 nd.f, .int .i64 nd.t, .int .u64 nd.n, .string nd.s, .int .i64 nd.a, .int .i64 nd.b] 85)).trans y1.ext).drew
  have HX : Hid (Ext w y1.val.drew) := Lib.hid (((Ext.refl w).alloc (.cells #[.int .i64 nd.k, .int .i64 nd.f, .int .i64 nd.t, .int .u64 nd.n, .string nd.s, .int .i64 nd.a, .int .i64 nd.b] 85)).trans y1.ext).drew
  go_region
  all_goals go_wp2_with fail
  all_goals refine bodyPost_ret (results_tmp2 rfl _ _ _) rfl ?_
  all_goals exact ⟨rfl, HX.out⟩
end Go.Proofs.Ytfibbhmmiemcoaa
