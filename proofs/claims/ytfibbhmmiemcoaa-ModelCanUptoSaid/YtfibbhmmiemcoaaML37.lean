/-
  Walks: is an exchange one? No condition.
-/
import Derived.Test.YtfibbhmmiemcoaaML36
set_option linter.all false
namespace Go.Proofs.Ytfibbhmmiemcoaa
open Go.RowKit
attribute [local go_sem ↓] eql_lEq eql_sEq eql_eEq eql_oEq neq_lEq neq_sEq neq_eEq neq_oEq eql_vEq neq_vEq eql_nil
attribute [local go_sem] ExtOf.cell ExtOf.frozen ExtOf.lt ExtOf.le
attribute [local go_sem high] ExtOf.cell2 ExtOf.frozen2 ExtOf.lt2 ExtOf.cell3 ExtOf.frozen3 ExtOf.lt3

/-- One block that was just made. -/
theorem one_new {w w1 : World} {A : Obj} (hx : Ext (w.alloc A) w1) : w1.heap[w.heap.size]? = some A ∧ Ext w w1 :=
  ⟨heap_ext (heap_new rfl) hx, ((Ext.refl _).alloc _).trans hx⟩

/-- Are all letters letters of contract c, none said twice? -/
def lettersB (c : Int) (L : List Lt) : Bool := decide ((∀ l ∈ L, lchk l = 0 ∧ l.c = c) ∧ L.Nodup)
theorem nodup_of {α : Type} : ∀ (L : List α), (∀ (j : Nat) z, L[j]? = some z → z ∉ L.take j) → L.Nodup := by
  intro L h
  rw [List.nodup_iff_pairwise_ne, List.pairwise_iff_getElem]
  intro i j hi hj hij he
  refine h j L[j] (List.getElem?_eq_getElem hj) ?_
  rw [← he]
  exact List.mem_take_iff_getElem.2 ⟨i, by omega, rfl⟩
theorem not_mem_take {α : Type} {L : List α} (h : L.Nodup) {j : Nat} {z : α} (hz : L[j]? = some z) : z ∉ L.take j := by
  intro hm
  obtain ⟨i, hi, he⟩ := List.mem_take_iff_getElem.1 hm
  obtain ⟨hj, he2⟩ := List.getElem?_eq_some_iff.1 hz
  rw [List.nodup_iff_pairwise_ne, List.pairwise_iff_getElem] at h
  exact h i j (by omega) hj (by omega) (by rw [he, he2])
theorem letters_bad {c : Int} {L : List Lt} {j : Nat} {z : Lt} (hz : L[j]? = some z) (h : (lchk z != 0) = true ∨ (z.c != c) = true ∨ z ∈ L.take j) : lettersB c L = false := by
  unfold lettersB
  refine decide_eq_false fun ⟨h1, h2⟩ => ?_
  obtain ⟨k1, k2⟩ := h1 z (mem_of_get hz)
  rcases h with h | h | h
  · simp [k1] at h
  · simp [k2] at h
  · exact not_mem_take h2 hz h
theorem letters_ok {c : Int} {L : List Lt} (h : ∀ (j : Nat) z, L[j]? = some z → (lchk z != 0) = false ∧ (z.c != c) = false ∧ z ∉ L.take j) : lettersB c L = true := by
  unfold lettersB
  refine decide_eq_true ⟨fun l hl => ?_, nodup_of L fun j z hz => (h j z hz).2.2⟩
  obtain ⟨j, hj⟩ := List.getElem?_of_mem hl
  obtain ⟨h1, h2, _⟩ := h j l hj
  exact ⟨by simpa using h1, by simpa using h2⟩
theorem checkX_eq (x : Ex) : checkX x = (chkS x.s0 && (chkA x.s1 && (!(x.s0.c != x.c) && (!(x.s1.c != x.c) && ((vEq x.v.c x.v.k x.v.t 0 0 { data := #[] } || ((saysS x.v).isSome && !(x.v.c != x.c))) && lettersB x.c x.h))))) := by
  unfold checkX lettersB saysOk
  rw [show vEq x.v.c x.v.k x.v.t 0 0 { data := #[] } = decide (x.v = v0) from vEq_vd x.v v0]
  have e : ∀ a b : Int, decide (a = b) = !(a != b) := fun a b => by by_cases h : a = b <;> simp [h]
  simp only [e]

theorem lt_len5 : ∀ L : List Lt, (L.flatMap Lt.cs).length = L.length * 5
  | [] => rfl
  | a :: L => by rw [List.flatMap_cons, List.length_append, lt_len5 L, List.length_cons, Nat.succ_mul, Nat.add_comm]; rfl
/-- A front part of a row. -/
theorem row_take {w : World} {g off n cap : Nat} {L : List Lt} (hn : n ≤ L.length) (hm : n ≤ maxLen) (h : ∀ j u, (L.flatMap Lt.cs)[j]? = some u → w.cell? ⟨g, off + j, none⟩ = some u) :
    Row w 5 (.slice (some ⟨g, off, none⟩) n cap) (L.take n).length ((L.take n).flatMap Lt.cs) := by
  have hl : (L.take n).length = n := by simp; omega
  rw [hl]
  refine ⟨?_, .inr ⟨g, off, cap, rfl, hm, fun j u hj => h j u ?_⟩⟩
  · have := lt_len5 (L.take n)
    rw [this, hl]
  · have : L.flatMap Lt.cs = (L.take n).flatMap Lt.cs ++ (L.drop n).flatMap Lt.cs := by rw [← List.flatMap_append, List.take_append_drop]
    rw [this, List.getElem?_append_left (List.getElem?_eq_some_iff.1 hj).1]
    exact hj

set_option maxRecDepth 100000 in
set_option maxHeartbeats 3200000 in
theorem ck_0 (x : Ex) (v : Value) (w : World) (h0 : chkS x.s0 = false) : Calls Try.prog 5 #[.agg (x.arr v)] w fun e w' => e = .returned (.bool false) ∧ Ext w w' := by
  have hO0 := fun w => or_check x.s0.r x.s0.c x.s0.t x.s0.ph x.s0.p.k x.s0.p.f x.s0.p.c x.s0.p.t x.s0.p.b w
  rw [show chk x.s0.r x.s0.c x.s0.t x.s0.ph x.s0.p.k x.s0.p.f x.s0.p.c x.s0.p.t x.s0.p.b = chkS x.s0 from rfl, h0] at hO0
  have H0 := Lib.hid hO0
  clear hO0
  clear h0
  go_enter Try.func5, Try.ntmps5
  go_upto_region 1 with fail
  refine wp_forget (fun w' => ExAt w' w.heap.size x v ∧ Ext w w') (one_new (Ext.refl _)) ?_
  rintro W1 ⟨h1, x1⟩
  unfold ExAt Ex.arr at h1
  have q1 := fun j => cell_of_row W1 _ j _ _ _ h1
  have l1 : w.heap.size < W1.heap.size := (Array.getElem?_eq_some_iff.1 h1).1
  have HE1 := Lib.hid h1
  have X1 := Lib.hid x1
  clear x1 h1
  go_wp2_with (first | (go_at_call 17; refine (H0.out _).mono ?_; rintro e w1 ⟨rfl, hx⟩; obtain ⟨y1, rfl⟩ := ext_of hx; clear hx))
  go_ret
  exact ⟨rfl, X1.out.val y1⟩

set_option maxRecDepth 100000 in
set_option maxHeartbeats 3200000 in
theorem ck_1 (x : Ex) (v : Value) (w : World) (h0 : chkS x.s0 = true) (h1 : chkA x.s1 = false) : Calls Try.prog 5 #[.agg (x.arr v)] w fun e w' => e = .returned (.bool false) ∧ Ext w w' := by
  have hO0 := fun w => or_check x.s0.r x.s0.c x.s0.t x.s0.ph x.s0.p.k x.s0.p.f x.s0.p.c x.s0.p.t x.s0.p.b w
  rw [show chk x.s0.r x.s0.c x.s0.t x.s0.ph x.s0.p.k x.s0.p.f x.s0.p.c x.s0.p.t x.s0.p.b = chkS x.s0 from rfl, h0] at hO0
  have H0 := Lib.hid hO0
  clear hO0
  have hO1 := fun w => an_check x.s1.r x.s1.c x.s1.t x.s1.ph x.s1.p.k x.s1.p.f x.s1.p.c x.s1.p.t x.s1.p.b w
  rw [show (⟨x.s1.r, x.s1.c, x.s1.t, x.s1.ph, ⟨x.s1.p.k, x.s1.p.f, x.s1.p.c, x.s1.p.t, x.s1.p.b⟩⟩ : St) = x.s1 from rfl, h1] at hO1
  have H1 := Lib.hid hO1
  clear hO1
  clear h0 h1
  go_enter Try.func5, Try.ntmps5
  go_upto_region 1 with fail
  refine wp_forget (fun w' => ExAt w' w.heap.size x v ∧ Ext w w') (one_new (Ext.refl _)) ?_
  rintro W1 ⟨h1, x1⟩
  unfold ExAt Ex.arr at h1
  have q1 := fun j => cell_of_row W1 _ j _ _ _ h1
  have l1 : w.heap.size < W1.heap.size := (Array.getElem?_eq_some_iff.1 h1).1
  have HE1 := Lib.hid h1
  have X1 := Lib.hid x1
  clear x1 h1
  go_wp2_with (first | (go_at_call 17; refine (H0.out _).mono ?_; rintro e w1 ⟨rfl, hx⟩; obtain ⟨y1, rfl⟩ := ext_of hx; clear hx) | (go_at_call 18; refine (H1.out _).mono ?_; rintro e w1 ⟨rfl, hx⟩; obtain ⟨y2, rfl⟩ := ext_of hx; clear hx))
  go_ret
  exact ⟨rfl, (X1.out.val y1).val y2⟩

set_option maxRecDepth 100000 in
set_option maxHeartbeats 3200000 in
theorem ck_2 (x : Ex) (v : Value) (w : World) (h0 : chkS x.s0 = true) (h1 : chkA x.s1 = true) (h2 : (x.s0.c != x.c) = true) : Calls Try.prog 5 #[.agg (x.arr v)] w fun e w' => e = .returned (.bool false) ∧ Ext w w' := by
  have hO0 := fun w => or_check x.s0.r x.s0.c x.s0.t x.s0.ph x.s0.p.k x.s0.p.f x.s0.p.c x.s0.p.t x.s0.p.b w
  rw [show chk x.s0.r x.s0.c x.s0.t x.s0.ph x.s0.p.k x.s0.p.f x.s0.p.c x.s0.p.t x.s0.p.b = chkS x.s0 from rfl, h0] at hO0
  have H0 := Lib.hid hO0
  clear hO0
  have hO1 := fun w => an_check x.s1.r x.s1.c x.s1.t x.s1.ph x.s1.p.k x.s1.p.f x.s1.p.c x.s1.p.t x.s1.p.b w
  rw [show (⟨x.s1.r, x.s1.c, x.s1.t, x.s1.ph, ⟨x.s1.p.k, x.s1.p.f, x.s1.p.c, x.s1.p.t, x.s1.p.b⟩⟩ : St) = x.s1 from rfl, h1] at hO1
  have H1 := Lib.hid hO1
  clear hO1
  clear h0 h1
  go_enter Try.func5, Try.ntmps5
  go_upto_region 1 with fail
  refine wp_forget (fun w' => ExAt w' w.heap.size x v ∧ Ext w w') (one_new (Ext.refl _)) ?_
  rintro W1 ⟨h1, x1⟩
  unfold ExAt Ex.arr at h1
  have q1 := fun j => cell_of_row W1 _ j _ _ _ h1
  have l1 : w.heap.size < W1.heap.size := (Array.getElem?_eq_some_iff.1 h1).1
  have HE1 := Lib.hid h1
  have X1 := Lib.hid x1
  clear x1 h1
  go_wp2_with (first | (go_at_call 17; refine (H0.out _).mono ?_; rintro e w1 ⟨rfl, hx⟩; obtain ⟨y1, rfl⟩ := ext_of hx; clear hx) | (go_at_call 18; refine (H1.out _).mono ?_; rintro e w1 ⟨rfl, hx⟩; obtain ⟨y2, rfl⟩ := ext_of hx; clear hx))
  go_ret
  exact ⟨rfl, (X1.out.val y1).val y2⟩

set_option maxRecDepth 100000 in
set_option maxHeartbeats 3200000 in
theorem ck_3 (x : Ex) (v : Value) (w : World) (h0 : chkS x.s0 = true) (h1 : chkA x.s1 = true) (h2 : (x.s0.c != x.c) = false) (h3 : (x.s1.c != x.c) = true) : Calls Try.prog 5 #[.agg (x.arr v)] w fun e w' => e = .returned (.bool false) ∧ Ext w w' := by
  have hO0 := fun w => or_check x.s0.r x.s0.c x.s0.t x.s0.ph x.s0.p.k x.s0.p.f x.s0.p.c x.s0.p.t x.s0.p.b w
  rw [show chk x.s0.r x.s0.c x.s0.t x.s0.ph x.s0.p.k x.s0.p.f x.s0.p.c x.s0.p.t x.s0.p.b = chkS x.s0 from rfl, h0] at hO0
  have H0 := Lib.hid hO0
  clear hO0
  have hO1 := fun w => an_check x.s1.r x.s1.c x.s1.t x.s1.ph x.s1.p.k x.s1.p.f x.s1.p.c x.s1.p.t x.s1.p.b w
  rw [show (⟨x.s1.r, x.s1.c, x.s1.t, x.s1.ph, ⟨x.s1.p.k, x.s1.p.f, x.s1.p.c, x.s1.p.t, x.s1.p.b⟩⟩ : St) = x.s1 from rfl, h1] at hO1
  have H1 := Lib.hid hO1
  clear hO1
  clear h0 h1
  go_enter Try.func5, Try.ntmps5
  go_upto_region 1 with fail
  refine wp_forget (fun w' => ExAt w' w.heap.size x v ∧ Ext w w') (one_new (Ext.refl _)) ?_
  rintro W1 ⟨h1, x1⟩
  unfold ExAt Ex.arr at h1
  have q1 := fun j => cell_of_row W1 _ j _ _ _ h1
  have l1 : w.heap.size < W1.heap.size := (Array.getElem?_eq_some_iff.1 h1).1
  have HE1 := Lib.hid h1
  have X1 := Lib.hid x1
  clear x1 h1
  go_wp2_with (first | (go_at_call 17; refine (H0.out _).mono ?_; rintro e w1 ⟨rfl, hx⟩; obtain ⟨y1, rfl⟩ := ext_of hx; clear hx) | (go_at_call 18; refine (H1.out _).mono ?_; rintro e w1 ⟨rfl, hx⟩; obtain ⟨y2, rfl⟩ := ext_of hx; clear hx))
  go_ret
  exact ⟨rfl, (X1.out.val y1).val y2⟩

set_option maxRecDepth 100000 in
set_option maxHeartbeats 3200000 in
theorem ck_4 (x : Ex) (v : Value) (w : World) (h0 : chkS x.s0 = true) (h1 : chkA x.s1 = true) (h2 : (x.s0.c != x.c) = false) (h3 : (x.s1.c != x.c) = false) (hv : vEq x.v.c x.v.k x.v.t 0 0 { data := #[] } = false) (hs : (saysS x.v).isSome = false) : Calls Try.prog 5 #[.agg (x.arr v)] w fun e w' => e = .returned (.bool false) ∧ Ext w w' := by
  have hO0 := fun w => or_check x.s0.r x.s0.c x.s0.t x.s0.ph x.s0.p.k x.s0.p.f x.s0.p.c x.s0.p.t x.s0.p.b w
  rw [show chk x.s0.r x.s0.c x.s0.t x.s0.ph x.s0.p.k x.s0.p.f x.s0.p.c x.s0.p.t x.s0.p.b = chkS x.s0 from rfl, h0] at hO0
  have H0 := Lib.hid hO0
  clear hO0
  have hO1 := fun w => an_check x.s1.r x.s1.c x.s1.t x.s1.ph x.s1.p.k x.s1.p.f x.s1.p.c x.s1.p.t x.s1.p.b w
  rw [show (⟨x.s1.r, x.s1.c, x.s1.t, x.s1.ph, ⟨x.s1.p.k, x.s1.p.f, x.s1.p.c, x.s1.p.t, x.s1.p.b⟩⟩ : St) = x.s1 from rfl, h1] at hO1
  have H1 := Lib.hid hO1
  clear hO1
  have hS := fun w => ve_says x.v.c x.v.k x.v.t w
  rw [show (⟨x.v.c, x.v.k, x.v.t⟩ : Vd) = x.v from rfl, hs] at hS
  have HS := Lib.hid hS
  clear hS
  clear h0 h1 hs
  go_enter Try.func5, Try.ntmps5
  go_upto_region 1 with fail
  refine wp_forget (fun w' => ExAt w' w.heap.size x v ∧ Ext w w') (one_new (Ext.refl _)) ?_
  rintro W1 ⟨h1, x1⟩
  unfold ExAt Ex.arr at h1
  have q1 := fun j => cell_of_row W1 _ j _ _ _ h1
  have l1 : w.heap.size < W1.heap.size := (Array.getElem?_eq_some_iff.1 h1).1
  have HE1 := Lib.hid h1
  have X1 := Lib.hid x1
  clear x1 h1
  go_wp2_with (first | (go_at_call 17; refine (H0.out _).mono ?_; rintro e w1 ⟨rfl, hx⟩; obtain ⟨y1, rfl⟩ := ext_of hx; clear hx) | (go_at_call 18; refine (H1.out _).mono ?_; rintro e w1 ⟨rfl, hx⟩; obtain ⟨y2, rfl⟩ := ext_of hx; clear hx) | (go_at_call 19; refine (HS.out _).mono ?_; rintro e w1 ⟨rfl, hx⟩; obtain ⟨y3, rfl⟩ := ext_of hx; clear hx))
  go_ret
  exact ⟨rfl, ((((X1.out.val y1).val y2).val y3).alloc _)⟩

set_option maxRecDepth 100000 in
set_option maxHeartbeats 3200000 in
theorem ck_5 (x : Ex) (v : Value) (w : World) (h0 : chkS x.s0 = true) (h1 : chkA x.s1 = true) (h2 : (x.s0.c != x.c) = false) (h3 : (x.s1.c != x.c) = false) (hv : vEq x.v.c x.v.k x.v.t 0 0 { data := #[] } = false) (hs : (saysS x.v).isSome = true) (hc : (x.v.c != x.c) = true) : Calls Try.prog 5 #[.agg (x.arr v)] w fun e w' => e = .returned (.bool false) ∧ Ext w w' := by
  have hO0 := fun w => or_check x.s0.r x.s0.c x.s0.t x.s0.ph x.s0.p.k x.s0.p.f x.s0.p.c x.s0.p.t x.s0.p.b w
  rw [show chk x.s0.r x.s0.c x.s0.t x.s0.ph x.s0.p.k x.s0.p.f x.s0.p.c x.s0.p.t x.s0.p.b = chkS x.s0 from rfl, h0] at hO0
  have H0 := Lib.hid hO0
  clear hO0
  have hO1 := fun w => an_check x.s1.r x.s1.c x.s1.t x.s1.ph x.s1.p.k x.s1.p.f x.s1.p.c x.s1.p.t x.s1.p.b w
  rw [show (⟨x.s1.r, x.s1.c, x.s1.t, x.s1.ph, ⟨x.s1.p.k, x.s1.p.f, x.s1.p.c, x.s1.p.t, x.s1.p.b⟩⟩ : St) = x.s1 from rfl, h1] at hO1
  have H1 := Lib.hid hO1
  clear hO1
  have hS := fun w => ve_says x.v.c x.v.k x.v.t w
  rw [show (⟨x.v.c, x.v.k, x.v.t⟩ : Vd) = x.v from rfl, hs] at hS
  have HS := Lib.hid hS
  clear hS
  clear h0 h1 hs
  go_enter Try.func5, Try.ntmps5
  go_upto_region 1 with fail
  refine wp_forget (fun w' => ExAt w' w.heap.size x v ∧ Ext w w') (one_new (Ext.refl _)) ?_
  rintro W1 ⟨h1, x1⟩
  unfold ExAt Ex.arr at h1
  have q1 := fun j => cell_of_row W1 _ j _ _ _ h1
  have l1 : w.heap.size < W1.heap.size := (Array.getElem?_eq_some_iff.1 h1).1
  have HE1 := Lib.hid h1
  have X1 := Lib.hid x1
  clear x1 h1
  go_wp2_with (first | (go_at_call 17; refine (H0.out _).mono ?_; rintro e w1 ⟨rfl, hx⟩; obtain ⟨y1, rfl⟩ := ext_of hx; clear hx) | (go_at_call 18; refine (H1.out _).mono ?_; rintro e w1 ⟨rfl, hx⟩; obtain ⟨y2, rfl⟩ := ext_of hx; clear hx) | (go_at_call 19; refine (HS.out _).mono ?_; rintro e w1 ⟨rfl, hx⟩; obtain ⟨y3, rfl⟩ := ext_of hx; clear hx))
  go_ret
  exact ⟨rfl, ((((X1.out.val y1).val y2).val y3).alloc _)⟩

set_option maxRecDepth 100000 in
set_option maxHeartbeats 3200000 in
theorem ck_6 (x : Ex) (v : Value) (B : Nat) (w : World) (hO : Own w B x.h v) (h0 : chkS x.s0 = true) (h1 : chkA x.s1 = true) (h2 : (x.s0.c != x.c) = false) (h3 : (x.s1.c != x.c) = false) (hv : vEq x.v.c x.v.k x.v.t 0 0 { data := #[] } = true) : Calls Try.prog 5 #[.agg (x.arr v)] w fun e w' => e = .returned (.bool (lettersB x.c x.h)) ∧ Ext w w' := by
  obtain ⟨a, cap, rfl, hm, hcap, hvw⟩ : ∃ a cap, v = .slice a x.h.length cap ∧ x.h.length ≤ maxLen ∧ x.h.length ≤ cap ∧ (0 < x.h.length → ∃ g, a = some ⟨g, 0, none⟩ ∧ g < w.heap.size ∧ ∀ j u, (x.h.flatMap Lt.cs)[j]? = some u → w.cell? ⟨g, j, none⟩ = some u) := by
    obtain ⟨a, cap, hv1, hm, hvw⟩ := own_view hO
    refine ⟨a, cap, hv1, hm, ?_, fun h => let ⟨g, ha, _, hg, hcell⟩ := hvw h; ⟨g, ha, hg, hcell⟩⟩
    rcases hO.2 with ⟨hv2, hn⟩ | ⟨g, cap2, cur, hv2, _, _, hnc, _⟩
    · rw [hn]; exact Nat.zero_le _
    · rw [hv2] at hv1
      injection hv1 with h1 h2 h3
      omega
  have HV := Lib.hid hvw
  clear hvw hO
  unfold maxLen at hm
  generalize hL : x.h = L at HV hm hcap ⊢
  clear hL
  have hO0 := fun w => or_check x.s0.r x.s0.c x.s0.t x.s0.ph x.s0.p.k x.s0.p.f x.s0.p.c x.s0.p.t x.s0.p.b w
  rw [show chk x.s0.r x.s0.c x.s0.t x.s0.ph x.s0.p.k x.s0.p.f x.s0.p.c x.s0.p.t x.s0.p.b = chkS x.s0 from rfl, h0] at hO0
  have H0 := Lib.hid hO0
  clear hO0
  have hO1 := fun w => an_check x.s1.r x.s1.c x.s1.t x.s1.ph x.s1.p.k x.s1.p.f x.s1.p.c x.s1.p.t x.s1.p.b w
  rw [show (⟨x.s1.r, x.s1.c, x.s1.t, x.s1.ph, ⟨x.s1.p.k, x.s1.p.f, x.s1.p.c, x.s1.p.t, x.s1.p.b⟩⟩ : St) = x.s1 from rfl, h1] at hO1
  have H1 := Lib.hid hO1
  clear hO1
  have hS := fun w => ve_says x.v.c x.v.k x.v.t w
  rw [show (⟨x.v.c, x.v.k, x.v.t⟩ : Vd) = x.v from rfl] at hS
  have HS := Lib.hid hS
  clear hS
  clear h0 h1
  go_enter Try.func5, Try.ntmps5
  go_upto_region 1 with fail
  refine wp_forget (fun w' => ExAt w' w.heap.size x (.slice a L.length cap) ∧ Ext w w') (one_new (Ext.refl _)) ?_
  rintro W1 ⟨h1, x1⟩
  unfold ExAt Ex.arr at h1
  have q1 := fun j => cell_of_row W1 _ j _ _ _ h1
  have l1 : w.heap.size < W1.heap.size := (Array.getElem?_eq_some_iff.1 h1).1
  have HE1 := Lib.hid h1
  have X1 := Lib.hid x1
  clear x1 h1
  go_upto_region 6 with (first | (go_at_call 17; refine (H0.out _).mono ?_; rintro e w1 ⟨rfl, hx⟩; obtain ⟨y1, rfl⟩ := ext_of hx; clear hx) | (go_at_call 18; refine (H1.out _).mono ?_; rintro e w1 ⟨rfl, hx⟩; obtain ⟨y2, rfl⟩ := ext_of hx; clear hx) | (go_at_call 19; refine (HS.out _).mono ?_; rintro e w1 ⟨rfl, hx⟩; obtain ⟨y3, rfl⟩ := ext_of hx; clear hx))
  refine wp_forget (fun w' => ExAt w' w.heap.size x (.slice a L.length cap) ∧ Ext w w') ⟨heap_ext HE1.out (((((Ext.refl _).val y1).val y2).val y3).alloc _), ((((X1.out.val y1).val y2).val y3).alloc _)⟩ ?_
  clear q1 l1
  rintro W2 ⟨h2, x2⟩
  unfold ExAt Ex.arr at h2
  have q1 := fun j => cell_of_row W2 _ j _ _ _ h2
  have l1 : w.heap.size < W2.heap.size := (Array.getElem?_eq_some_iff.1 h2).1
  have X2 := Lib.hid x2
  clear h2 x2 HE1 X1
  go_wp2_with fail
  go_loopg [62] L.length (fun g ii wr => ∃ (n : Nat) (y : ExtOf W2), ii = .int .i64 (n : Int) ∧ n + g = L.length ∧ wr = y.val ∧ Hid (∀ (j : Nat) z, j < n → L[j]? = some z → (lchk z != 0) = false ∧ (z.c != x.c) = false ∧ z ∉ L.take j))
  case atStart => exact ⟨0, ⟨W2, Ext.refl _⟩, rfl, by omega, rfl, Lib.hid fun _ _ h => by omega⟩
  case round =>
    obtain ⟨n, y, rfl, hg, rfl, HN⟩ := hrel
    by_cases hlt : n < L.length
    · obtain ⟨g, rfl, hgl, hcell⟩ := HV.out (by omega)
      obtain ⟨z, hx⟩ : ∃ x, L[n]? = some x := ⟨_, List.getElem?_eq_getElem hlt⟩
      obtain ⟨q10, q11, q12, q13, q14⟩ := lt_cellsO (off := 0) (fun j u hj => by rw [Nat.zero_add]; exact cell_keep (hcell j u hj) X2.out) hx
      simp only [Nat.zero_add] at q10 q11 q12 q13 q14
      have hRow := row_take (w := W2) (g := g) (off := 0) (n := n) (cap := cap) (L := L) (by omega) (by unfold maxLen; omega) (fun j u hj => by rw [Nat.zero_add]; exact cell_keep (hcell j u hj) X2.out)
      have hCo := fun w' (hw : Ext W2 w') => sl_contains (.slice (some ⟨g, 0, none⟩) n cap) (L.take n) z w' (hRow.ext hw)
      have HX := Lib.hid hx
      have hgl1 : g < W2.heap.size := Nat.lt_of_lt_of_le hgl X2.out.size
      clear hx hcell hgl hRow
      have hlt' : (n : Int) < (L.length : Int) := by omega
      have hnc : (n : Int) ≤ (cap : Int) := by omega
      have HLC := Lib.hid (fun w => le_check z w)
      rcases e1 : (lchk z != 0)
      · rcases e2 : (z.c != x.c)
        · rcases e3 : decide (z ∈ L.take n)
          · rw [e3] at hCo
            have HCo := Lib.hid hCo
            have HB : Hid (z ∉ L.take n) := Lib.hid (of_decide_eq_false e3)
            clear hCo e3
            go_wp2_with fail
            refine wp_forget (fun w' => LtAt w' y.val.heap.size z ∧ Ext y.val w') (one_new (Ext.refl _)) ?_
            rintro W3 ⟨h3, x3⟩
            have qz := fun j => cell_of_row W3 _ j _ _ _ h3
            have lz : y.val.heap.size < W3.heap.size := (Array.getElem?_eq_some_iff.1 h3).1
            obtain ⟨y3, rfl⟩ := ext_of x3
            clear x3 h3
            refine wp_region_ext (by kernel_rfl) (by kernel_rfl) ?_
            repeat (go_big_quiet_step (first | (go_at_call 8; exact calls_ext (HLC.out _)) | (go_at_call 20; exact calls_ext (HCo.out _ ((y.ext.val y3).val _)))))
            refine wpQuiet_nil ?_
            intro _ hx'
            obtain ⟨z', rfl⟩ := hx'
            go_wp2_with fail
            go_roundg (gk - 1)
            case rel =>
              refine ⟨n + 1, ⟨z'.val, (y.ext.val y3).val z'⟩, rfl, by omega, rfl, Lib.hid fun j u hj hu => ?_⟩
              by_cases hjn : j = n
              · subst hjn
                rw [HX.out, Option.some.injEq] at hu
                rw [← hu]
                exact ⟨e1, e2, HB.out⟩
              · exact HN.out j u (by omega) hu
            case measure => omega
          · rw [e3] at hCo
            have HCo := Lib.hid hCo
            have HB : Hid (lettersB x.c L = false) := Lib.hid (letters_bad HX.out (.inr (.inr (of_decide_eq_true e3))))
            clear hCo e3
            go_wp2_with fail
            refine wp_forget (fun w' => LtAt w' y.val.heap.size z ∧ Ext y.val w') (one_new (Ext.refl _)) ?_
            rintro W3 ⟨h3, x3⟩
            have qz := fun j => cell_of_row W3 _ j _ _ _ h3
            have lz : y.val.heap.size < W3.heap.size := (Array.getElem?_eq_some_iff.1 h3).1
            obtain ⟨y3, rfl⟩ := ext_of x3
            clear x3 h3
            refine wp_region_ext (by kernel_rfl) (by kernel_rfl) ?_
            repeat (go_big_quiet_step (first | (go_at_call 8; exact calls_ext (HLC.out _)) | (go_at_call 20; exact calls_ext (HCo.out _ ((y.ext.val y3).val _)))))
            refine wpQuiet_nil ?_
            intro _ hx'
            obtain ⟨z', rfl⟩ := hx'
            go_wp2_with fail
            go_ret
            refine ⟨?_, X2.out.trans ((y.ext.val y3).val z')⟩
            rw [HB.out]
            rfl
        · have HB : Hid (lettersB x.c L = false) := Lib.hid (letters_bad HX.out (.inr (.inl e2)))
          have HCo := Lib.hid hCo
          clear hCo
          go_wp2_with fail
          refine wp_forget (fun w' => LtAt w' y.val.heap.size z ∧ Ext y.val w') (one_new (Ext.refl _)) ?_
          rintro W3 ⟨h3, x3⟩
          have qz := fun j => cell_of_row W3 _ j _ _ _ h3
          have lz : y.val.heap.size < W3.heap.size := (Array.getElem?_eq_some_iff.1 h3).1
          obtain ⟨y3, rfl⟩ := ext_of x3
          clear x3 h3
          refine wp_region_ext (by kernel_rfl) (by kernel_rfl) ?_
          repeat (go_big_quiet_step (first | (go_at_call 8; exact calls_ext (HLC.out _)) | (go_at_call 20; exact calls_ext (HCo.out _ ((y.ext.val y3).val _)))))
          refine wpQuiet_nil ?_
          intro _ hx'
          obtain ⟨z', rfl⟩ := hx'
          go_wp2_with fail
          go_ret
          refine ⟨?_, X2.out.trans ((y.ext.val y3).val z')⟩
          rw [HB.out]
          rfl
      · have HB : Hid (lettersB x.c L = false) := Lib.hid (letters_bad HX.out (.inl e1))
        have HCo := Lib.hid hCo
        clear hCo
        go_wp2_with fail
        refine wp_forget (fun w' => LtAt w' y.val.heap.size z ∧ Ext y.val w') (one_new (Ext.refl _)) ?_
        rintro W3 ⟨h3, x3⟩
        have qz := fun j => cell_of_row W3 _ j _ _ _ h3
        have lz : y.val.heap.size < W3.heap.size := (Array.getElem?_eq_some_iff.1 h3).1
        obtain ⟨y3, rfl⟩ := ext_of x3
        clear x3 h3
        refine wp_region_ext (by kernel_rfl) (by kernel_rfl) ?_
        repeat (go_big_quiet_step (first | (go_at_call 8; exact calls_ext (HLC.out _)) | (go_at_call 20; exact calls_ext (HCo.out _ ((y.ext.val y3).val _)))))
        refine wpQuiet_nil ?_
        intro _ hx'
        obtain ⟨z', rfl⟩ := hx'
        go_wp2_with fail
        go_ret
        refine ⟨?_, X2.out.trans ((y.ext.val y3).val z')⟩
        rw [HB.out]
        rfl
    · have hge : (L.length : Int) ≤ (n : Int) := by omega
      go_wp2_with fail
      go_ret
      refine ⟨?_, X2.out.val y⟩
      rw [letters_ok fun j z hz => HN.out j z (by have := (List.getElem?_eq_some_iff.1 hz).1; omega) hz]
      rfl

set_option maxRecDepth 100000 in
set_option maxHeartbeats 3200000 in
theorem ck_7 (x : Ex) (v : Value) (B : Nat) (w : World) (hO : Own w B x.h v) (h0 : chkS x.s0 = true) (h1 : chkA x.s1 = true) (h2 : (x.s0.c != x.c) = false) (h3 : (x.s1.c != x.c) = false) (hv : vEq x.v.c x.v.k x.v.t 0 0 { data := #[] } = false) (hs : (saysS x.v).isSome = true) (hc : (x.v.c != x.c) = false) : Calls Try.prog 5 #[.agg (x.arr v)] w fun e w' => e = .returned (.bool (lettersB x.c x.h)) ∧ Ext w w' := by
  obtain ⟨a, cap, rfl, hm, hcap, hvw⟩ : ∃ a cap, v = .slice a x.h.length cap ∧ x.h.length ≤ maxLen ∧ x.h.length ≤ cap ∧ (0 < x.h.length → ∃ g, a = some ⟨g, 0, none⟩ ∧ g < w.heap.size ∧ ∀ j u, (x.h.flatMap Lt.cs)[j]? = some u → w.cell? ⟨g, j, none⟩ = some u) := by
    obtain ⟨a, cap, hv1, hm, hvw⟩ := own_view hO
    refine ⟨a, cap, hv1, hm, ?_, fun h => let ⟨g, ha, _, hg, hcell⟩ := hvw h; ⟨g, ha, hg, hcell⟩⟩
    rcases hO.2 with ⟨hv2, hn⟩ | ⟨g, cap2, cur, hv2, _, _, hnc, _⟩
    · rw [hn]; exact Nat.zero_le _
    · rw [hv2] at hv1
      injection hv1 with h1 h2 h3
      omega
  have HV := Lib.hid hvw
  clear hvw hO
  unfold maxLen at hm
  generalize hL : x.h = L at HV hm hcap ⊢
  clear hL
  have hO0 := fun w => or_check x.s0.r x.s0.c x.s0.t x.s0.ph x.s0.p.k x.s0.p.f x.s0.p.c x.s0.p.t x.s0.p.b w
  rw [show chk x.s0.r x.s0.c x.s0.t x.s0.ph x.s0.p.k x.s0.p.f x.s0.p.c x.s0.p.t x.s0.p.b = chkS x.s0 from rfl, h0] at hO0
  have H0 := Lib.hid hO0
  clear hO0
  have hO1 := fun w => an_check x.s1.r x.s1.c x.s1.t x.s1.ph x.s1.p.k x.s1.p.f x.s1.p.c x.s1.p.t x.s1.p.b w
  rw [show (⟨x.s1.r, x.s1.c, x.s1.t, x.s1.ph, ⟨x.s1.p.k, x.s1.p.f, x.s1.p.c, x.s1.p.t, x.s1.p.b⟩⟩ : St) = x.s1 from rfl, h1] at hO1
  have H1 := Lib.hid hO1
  clear hO1
  have hS := fun w => ve_says x.v.c x.v.k x.v.t w
  rw [show (⟨x.v.c, x.v.k, x.v.t⟩ : Vd) = x.v from rfl, hs] at hS
  have HS := Lib.hid hS
  clear hS
  clear h0 h1 hs
  go_enter Try.func5, Try.ntmps5
  go_upto_region 1 with fail
  refine wp_forget (fun w' => ExAt w' w.heap.size x (.slice a L.length cap) ∧ Ext w w') (one_new (Ext.refl _)) ?_
  rintro W1 ⟨h1, x1⟩
  unfold ExAt Ex.arr at h1
  have q1 := fun j => cell_of_row W1 _ j _ _ _ h1
  have l1 : w.heap.size < W1.heap.size := (Array.getElem?_eq_some_iff.1 h1).1
  have HE1 := Lib.hid h1
  have X1 := Lib.hid x1
  clear x1 h1
  go_upto_region 6 with (first | (go_at_call 17; refine (H0.out _).mono ?_; rintro e w1 ⟨rfl, hx⟩; obtain ⟨y1, rfl⟩ := ext_of hx; clear hx) | (go_at_call 18; refine (H1.out _).mono ?_; rintro e w1 ⟨rfl, hx⟩; obtain ⟨y2, rfl⟩ := ext_of hx; clear hx) | (go_at_call 19; refine (HS.out _).mono ?_; rintro e w1 ⟨rfl, hx⟩; obtain ⟨y3, rfl⟩ := ext_of hx; clear hx))
  refine wp_forget (fun w' => ExAt w' w.heap.size x (.slice a L.length cap) ∧ Ext w w') ⟨heap_ext HE1.out (((((Ext.refl _).val y1).val y2).val y3).alloc _), ((((X1.out.val y1).val y2).val y3).alloc _)⟩ ?_
  clear q1 l1
  rintro W2 ⟨h2, x2⟩
  unfold ExAt Ex.arr at h2
  have q1 := fun j => cell_of_row W2 _ j _ _ _ h2
  have l1 : w.heap.size < W2.heap.size := (Array.getElem?_eq_some_iff.1 h2).1
  have X2 := Lib.hid x2
  clear h2 x2 HE1 X1
  go_wp2_with fail
  go_loopg [62] L.length (fun g ii wr => ∃ (n : Nat) (y : ExtOf W2), ii = .int .i64 (n : Int) ∧ n + g = L.length ∧ wr = y.val ∧ Hid (∀ (j : Nat) z, j < n → L[j]? = some z → (lchk z != 0) = false ∧ (z.c != x.c) = false ∧ z ∉ L.take j))
  case atStart => exact ⟨0, ⟨W2, Ext.refl _⟩, rfl, by omega, rfl, Lib.hid fun _ _ h => by omega⟩
  case round =>
    obtain ⟨n, y, rfl, hg, rfl, HN⟩ := hrel
    by_cases hlt : n < L.length
    · obtain ⟨g, rfl, hgl, hcell⟩ := HV.out (by omega)
      obtain ⟨z, hx⟩ : ∃ x, L[n]? = some x := ⟨_, List.getElem?_eq_getElem hlt⟩
      obtain ⟨q10, q11, q12, q13, q14⟩ := lt_cellsO (off := 0) (fun j u hj => by rw [Nat.zero_add]; exact cell_keep (hcell j u hj) X2.out) hx
      simp only [Nat.zero_add] at q10 q11 q12 q13 q14
      have hRow := row_take (w := W2) (g := g) (off := 0) (n := n) (cap := cap) (L := L) (by omega) (by unfold maxLen; omega) (fun j u hj => by rw [Nat.zero_add]; exact cell_keep (hcell j u hj) X2.out)
      have hCo := fun w' (hw : Ext W2 w') => sl_contains (.slice (some ⟨g, 0, none⟩) n cap) (L.take n) z w' (hRow.ext hw)
      have HX := Lib.hid hx
      have hgl1 : g < W2.heap.size := Nat.lt_of_lt_of_le hgl X2.out.size
      clear hx hcell hgl hRow
      have hlt' : (n : Int) < (L.length : Int) := by omega
      have hnc : (n : Int) ≤ (cap : Int) := by omega
      have HLC := Lib.hid (fun w => le_check z w)
      rcases e1 : (lchk z != 0)
      · rcases e2 : (z.c != x.c)
        · rcases e3 : decide (z ∈ L.take n)
          · rw [e3] at hCo
            have HCo := Lib.hid hCo
            have HB : Hid (z ∉ L.take n) := Lib.hid (of_decide_eq_false e3)
            clear hCo e3
            go_wp2_with fail
            refine wp_forget (fun w' => LtAt w' y.val.heap.size z ∧ Ext y.val w') (one_new (Ext.refl _)) ?_
            rintro W3 ⟨h3, x3⟩
            have qz := fun j => cell_of_row W3 _ j _ _ _ h3
            have lz : y.val.heap.size < W3.heap.size := (Array.getElem?_eq_some_iff.1 h3).1
            obtain ⟨y3, rfl⟩ := ext_of x3
            clear x3 h3
            refine wp_region_ext (by kernel_rfl) (by kernel_rfl) ?_
            repeat (go_big_quiet_step (first | (go_at_call 8; exact calls_ext (HLC.out _)) | (go_at_call 20; exact calls_ext (HCo.out _ ((y.ext.val y3).val _)))))
            refine wpQuiet_nil ?_
            intro _ hx'
            obtain ⟨z', rfl⟩ := hx'
            go_wp2_with fail
            go_roundg (gk - 1)
            case rel =>
              refine ⟨n + 1, ⟨z'.val, (y.ext.val y3).val z'⟩, rfl, by omega, rfl, Lib.hid fun j u hj hu => ?_⟩
              by_cases hjn : j = n
              · subst hjn
                rw [HX.out, Option.some.injEq] at hu
                rw [← hu]
                exact ⟨e1, e2, HB.out⟩
              · exact HN.out j u (by omega) hu
            case measure => omega
          · rw [e3] at hCo
            have HCo := Lib.hid hCo
            have HB : Hid (lettersB x.c L = false) := Lib.hid (letters_bad HX.out (.inr (.inr (of_decide_eq_true e3))))
            clear hCo e3
            go_wp2_with fail
            refine wp_forget (fun w' => LtAt w' y.val.heap.size z ∧ Ext y.val w') (one_new (Ext.refl _)) ?_
            rintro W3 ⟨h3, x3⟩
            have qz := fun j => cell_of_row W3 _ j _ _ _ h3
            have lz : y.val.heap.size < W3.heap.size := (Array.getElem?_eq_some_iff.1 h3).1
            obtain ⟨y3, rfl⟩ := ext_of x3
            clear x3 h3
            refine wp_region_ext (by kernel_rfl) (by kernel_rfl) ?_
            repeat (go_big_quiet_step (first | (go_at_call 8; exact calls_ext (HLC.out _)) | (go_at_call 20; exact calls_ext (HCo.out _ ((y.ext.val y3).val _)))))
            refine wpQuiet_nil ?_
            intro _ hx'
            obtain ⟨z', rfl⟩ := hx'
            go_wp2_with fail
            go_ret
            refine ⟨?_, X2.out.trans ((y.ext.val y3).val z')⟩
            rw [HB.out]
            rfl
        · have HB : Hid (lettersB x.c L = false) := Lib.hid (letters_bad HX.out (.inr (.inl e2)))
          have HCo := Lib.hid hCo
          clear hCo
          go_wp2_with fail
          refine wp_forget (fun w' => LtAt w' y.val.heap.size z ∧ Ext y.val w') (one_new (Ext.refl _)) ?_
          rintro W3 ⟨h3, x3⟩
          have qz := fun j => cell_of_row W3 _ j _ _ _ h3
          have lz : y.val.heap.size < W3.heap.size := (Array.getElem?_eq_some_iff.1 h3).1
          obtain ⟨y3, rfl⟩ := ext_of x3
          clear x3 h3
          refine wp_region_ext (by kernel_rfl) (by kernel_rfl) ?_
          repeat (go_big_quiet_step (first | (go_at_call 8; exact calls_ext (HLC.out _)) | (go_at_call 20; exact calls_ext (HCo.out _ ((y.ext.val y3).val _)))))
          refine wpQuiet_nil ?_
          intro _ hx'
          obtain ⟨z', rfl⟩ := hx'
          go_wp2_with fail
          go_ret
          refine ⟨?_, X2.out.trans ((y.ext.val y3).val z')⟩
          rw [HB.out]
          rfl
      · have HB : Hid (lettersB x.c L = false) := Lib.hid (letters_bad HX.out (.inl e1))
        have HCo := Lib.hid hCo
        clear hCo
        go_wp2_with fail
        refine wp_forget (fun w' => LtAt w' y.val.heap.size z ∧ Ext y.val w') (one_new (Ext.refl _)) ?_
        rintro W3 ⟨h3, x3⟩
        have qz := fun j => cell_of_row W3 _ j _ _ _ h3
        have lz : y.val.heap.size < W3.heap.size := (Array.getElem?_eq_some_iff.1 h3).1
        obtain ⟨y3, rfl⟩ := ext_of x3
        clear x3 h3
        refine wp_region_ext (by kernel_rfl) (by kernel_rfl) ?_
        repeat (go_big_quiet_step (first | (go_at_call 8; exact calls_ext (HLC.out _)) | (go_at_call 20; exact calls_ext (HCo.out _ ((y.ext.val y3).val _)))))
        refine wpQuiet_nil ?_
        intro _ hx'
        obtain ⟨z', rfl⟩ := hx'
        go_wp2_with fail
        go_ret
        refine ⟨?_, X2.out.trans ((y.ext.val y3).val z')⟩
        rw [HB.out]
        rfl
    · have hge : (L.length : Int) ≤ (n : Int) := by omega
      go_wp2_with fail
      go_ret
      refine ⟨?_, X2.out.val y⟩
      rw [letters_ok fun j z hz => HN.out j z (by have := (List.getElem?_eq_some_iff.1 hz).1; omega) hz]
      rfl

theorem mo_check (x : Ex) (v : Value) (B : Nat) (w : World) (hO : Own w B x.h v) : Calls Try.prog 5 #[.agg (x.arr v)] w fun e w' => e = .returned (.bool (checkX x)) ∧ Ext w w' := by
  rw [checkX_eq]
  rcases h0 : chkS x.s0
  · simpa using ck_0 x v w h0
  rcases h1 : chkA x.s1
  · simpa using ck_1 x v w h0 h1
  rcases h2 : (x.s0.c != x.c)
  case true => simpa using ck_2 x v w h0 h1 h2
  rcases h3 : (x.s1.c != x.c)
  case true => simpa using ck_3 x v w h0 h1 h2 h3
  rcases hv : vEq x.v.c x.v.k x.v.t 0 0 { data := #[] }
  case true => simpa using ck_6 x v B w hO h0 h1 h2 h3 hv
  rcases hs : (saysS x.v).isSome
  · simpa using ck_4 x v w h0 h1 h2 h3 hv hs
  rcases hc : (x.v.c != x.c)
  case true => simpa using ck_5 x v w h0 h1 h2 h3 hv hs hc
  · simpa using ck_7 x v B w hO h0 h1 h2 h3 hv hs hc
end Go.Proofs.Ytfibbhmmiemcoaa

/-
  The walks of the law's own large, own, num. No condition.
-/
namespace Go.Proofs.Ytfibbhmmiemcoaa
open Go.RowKit
attribute [local go_sem ↓] eql_lEq eql_sEq eql_eEq eql_oEq neq_lEq neq_sEq neq_eEq neq_oEq eql_vEq neq_vEq eql_nil
attribute [local go_sem] ExtOf.cell ExtOf.frozen ExtOf.lt ExtOf.le
attribute [local go_sem high] ExtOf.cell2 ExtOf.frozen2 ExtOf.lt2 ExtOf.cell3 ExtOf.frozen3 ExtOf.lt3

set_option maxRecDepth 100000 in
set_option maxHeartbeats 800000 in
theorem la_num (n : Int) (w : World) : Calls Try.prog 7 #[.int .i64 n] w fun e w' => e = .returned (.int .i64 n) ∧ w' = w := by
  go_enter Try.func7, Try.ntmps7
  go_wp2_with fail
  go_ret
  exact ⟨rfl, rfl⟩

/-- What large says: a truth value. -/
def Larges (w : World) (e : Ending) (w' : World) : Prop := ∃ b : Bool, e = .returned (.bool b) ∧ Ext w w'

set_option maxRecDepth 100000 in
set_option maxHeartbeats 3200000 in
theorem la_large (x : Ex) (v : Value) (w : World) (hR : Hrd w x v) : Calls Try.prog 4 #[.agg (x.arr v)] w (Larges w) := by
  have HR := Lib.hid hR
  obtain ⟨a, cap, rfl, hm, hvw⟩ := row_view hR
  have HV := Lib.hid hvw
  clear hR hvw
  unfold maxLen at hm
  go_enter Try.func4, Try.ntmps4
  go_upto_region 1 with fail
  refine wp_forget (fun w' => ExAt w' w.heap.size x (.slice a x.h.length cap) ∧ Ext w w') (one_new (Ext.refl _)) ?_
  rintro W1 ⟨h1, x1⟩
  unfold ExAt Ex.arr at h1
  have q1 := fun j => cell_of_row W1 _ j _ _ _ h1
  have l1 : w.heap.size < W1.heap.size := (Array.getElem?_eq_some_iff.1 h1).1
  have HX1 := Lib.hid x1
  clear h1 x1
  go_wp2_with fail
  go_loopg [3, 4] x.h.length (fun g s i wr => ∃ (k : Nat) (N : Int), k + g = x.h.length ∧ k ≤ 61 ∧ i = .int .i64 (k : Int) ∧ s = .int .i64 N ∧ wr = W1)
  case atStart => exact ⟨0, _, by omega, by omega, rfl, rfl, rfl⟩
  case round =>
    obtain ⟨k, N, hk, hk61, rfl, rfl, rfl⟩ := hrel
    by_cases h1 : k < x.h.length
    · by_cases h2 : k ≤ 60
      · obtain ⟨g, off, rfl, hg, hcell⟩ := HV.out (by omega)
        have hg' := hg (by omega)
        obtain ⟨l, hl⟩ : ∃ l, x.h[k]? = some l := ⟨_, List.getElem?_eq_getElem h1⟩
        obtain ⟨-, -, -, q3, -⟩ := lt_cellsO (fun j u hj => cell_keep (hcell j u hj) HX1.out) hl
        have hgl1 : g < wr.heap.size := Nat.lt_of_lt_of_le hg' HX1.out.size
        clear hl hcell hg hg'
        have i1 : (k : Int) < (x.h.length : Int) := by omega
        have i2 : (k : Int) ≤ 60 := by omega
        go_wp2_with fail
        go_roundg (gk - 1)
        case rel => exact ⟨k + 1, _, by omega, by omega, rfl, rfl, rfl⟩
        case measure => omega
      · have i1 : (k : Int) < (x.h.length : Int) := by omega
        have i2 : ¬ (k : Int) ≤ 60 := by omega
        have i3 : (60 : Int) < (x.h.length : Int) := by omega
        go_wp2_with fail
        go_ret
        exact ⟨true, rfl, HX1.out⟩
    · have i1 : ¬ (k : Int) < (x.h.length : Int) := by omega
      by_cases i3 : (60 : Int) < (x.h.length : Int)
      · go_wp2_with fail
        go_ret
        exact ⟨true, rfl, HX1.out⟩
      · go_wp2_with fail
        go_ret
        exact ⟨_, rfl, HX1.out⟩

theorem own_baseK {w : World} {b b' : Nat} {e : TypeId} {size : Nat} {v : Value} {n : Nat} {xs : List Value} (hb : b' ≤ b) (h : w.ownsRow b e size v n xs) : w.ownsRow b' e size v n xs := by
  refine ⟨h.1, h.2.imp id ?_⟩
  rintro ⟨g, cap, cur, hv, h1, r⟩
  exact ⟨g, cap, cur, hv, by omega, r⟩
theorem arr_oneK (x : Ex) {v : Value} (h : v.oneCell' = true) : (x.arr v).all (·.oneCell') = true := by
  simp [Ex.arr, Value.oneCell'] at h ⊢
  exact h
def exZ : Array Value := #[.int .u64 0, .int .i64 0, .int .u64 0, .string { data := #[] }, .int .i64 0, .int .i64 0, .int .i64 0, .int .u64 0, .string { data := #[] }, .bool false, .int .i64 0, .int .u64 0, .string { data := #[] }, .int .i64 0, .int .i64 0, .int .i64 0, .int .u64 0, .string { data := #[] }, .bool false, .int .u64 0, .int .i64 0, .string { data := #[] }, .bool false, .bool false, .bool false, .slice none 0 0]
set_option maxRecDepth 100000 in
set_option maxHeartbeats 3200000 in
theorem la_own (x : Ex) (v : Value) (w : World) (hR : Hrd w x v) (hn : x.h.length ≤ 100000) (hv : v = .slice none 0 0 ∨ ∃ a n c, v = .slice (some a) n c) :
    Calls Try.prog 6 #[.agg (x.arr v)] w fun e w' => ∃ v', e = .returned (.agg (x.arr v')) ∧ Own w' w.heap.size x.h v' ∧ Ext w w' := by
  obtain ⟨ti0, hi, hz0, hz1, hz2⟩ := info_parts info_letter
  have HR := Lib.hid hR
  have HVV := Lib.hid hv
  obtain ⟨a, cap, rfl, hm, _⟩ := row_view hR
  clear hR hv hm
  go_enter Try.func6, Try.ntmps6
  go_upto_region 1 with fail
  refine wp_forget (fun w' => Hid (ExAt w' w.heap.size x (.slice a x.h.length cap) ∧ w'.heap[w.heap.size + 1]? = some (.cells exZ 33 (0, 0)) ∧ Ext w w')) (Lib.hid ⟨heap_ext (heap_new rfl) ((Ext.refl _).alloc _), heap_new (by simp), ((Ext.refl w).alloc _).alloc _⟩) ?_
  intro W1 H1
  have HB := H1.out.1
  unfold ExAt Ex.arr at HB
  have q1 := fun j => cell_of_row W1 _ j _ _ _ HB
  have f1 := fun j => frozen_of_row W1 _ j _ _ HB
  have l1 : w.heap.size < W1.heap.size := (Array.getElem?_eq_some_iff.1 HB).1
  have l2 : w.heap.size + 1 < W1.heap.size := (Array.getElem?_eq_some_iff.1 H1.out.2.1).1
  clear HB
  go_wp2_with (first | (at_builtin; refine unHd ?_))
  unfold Hd2
  refine wpList_app4 W1.heap.size 31 24 ti0 _ 5 48 Try.underlying31 hi hz0 hz1 hz2 rfl (by decide) rfl _ _ rfl _ 0 [] rfl (own_new (Ext.refl W1) rfl (by decide) rfl rfl) (by simp) _ x.h.length (x.h.flatMap Lt.cs) rfl
    ((HR.out.ext H1.out.2.2).ext ((Ext.refl _).alloc _)) HVV.out (lt_one x.h) (by unfold maxLen; omega) (by omega) ?_
  intro v' w2 ho2 hb2 hg2
  rw [Nat.zero_add, List.nil_append] at ho2
  replace hg2 : (W1.alloc (.cells #[] 24)).grownBy w2 (some W1.heap.size) := hg2
  have blk : ∀ k, k < W1.heap.size → w2.heap[k]? = W1.heap[k]? := fun k hk => (hg2.block k (by simp; omega) (by simp; omega)).trans (((Ext.refl W1).alloc (.cells #[] 24)).block k hk)
  have hx2 : Ext W1 w2 := ⟨hg2.os, hg2.tape, hg2.output, Nat.le_trans (by simp) hg2.size, blk⟩
  obtain ⟨a2, c2, hv2, _, _⟩ := own_view ho2
  subst hv2
  have HO2 := Lib.hid ho2
  have HX2 := Lib.hid hx2
  have hr2 := heap_ext H1.out.1 hx2
  unfold Ex.arr at hr2
  have q2 := fun j => cell_of_row w2 _ j _ _ _ hr2
  have f2 := fun j => frozen_of_row w2 _ j _ _ hr2
  have l3 : w.heap.size < w2.heap.size := (Array.getElem?_eq_some_iff.1 hr2).1
  clear ho2 hb2 hg2 blk hx2 q1 f1 l1 l2 hr2
  go_upto_region 2 with fail
  have hE : ExAt (w2.setCell ⟨w.heap.size, 25, none⟩ (.slice a2 x.h.length c2)) w.heap.size x (.slice a2 x.h.length c2) := setCell_row (heap_ext H1.out.1 HX2.out) (.slice a2 x.h.length c2)
  have hR2 : (w2.setCell ⟨w.heap.size, 25, none⟩ (.slice a2 x.h.length c2)).heap[w.heap.size + 1]? = some (.cells exZ 33 (0, 0)) := (cell_other (by omega)).trans (heap_ext H1.out.2.1 HX2.out)
  have hO : Own (w2.setCell ⟨w.heap.size, 25, none⟩ (.slice a2 x.h.length c2)) w.heap.size x.h (.slice a2 x.h.length c2) := own_baseK (Nat.le_of_lt (by have := (Array.getElem?_eq_some_iff.1 H1.out.1).1; omega)) <| own_at HO2.out fun k hk => cell_other (show k ≠ w.heap.size from fun e => by
    have := row_lo HO2.out _ hk
    have := (Array.getElem?_eq_some_iff.1 H1.out.1).1
    omega)
  have hx3 : Ext w (w2.setCell ⟨w.heap.size, 25, none⟩ (.slice a2 x.h.length c2)) := (H1.out.2.2.trans HX2.out).setCell (Nat.le_refl _) _
  clear q2 f2 l3
  generalize w2.setCell ⟨w.heap.size, 25, none⟩ (.slice a2 x.h.length c2) = w3 at hE hR2 hO hx3 ⊢
  go_wp2_with (first | (refine wpList_load_row rfl 33 _ rfl _ rfl _ _ (0, 0) _ hE Try.underlying33 rfl info_ex ?_) | (refine wpList_store_row rfl 33 _ _ rfl _ _ rfl rfl 33 _ hR2 info_ex rfl (arr_oneK x rfl) ?_))
  refine bodyPost_ret (results_cell_row rfl _ _ (w.heap.size + 1) 33 (x.arr (.slice a2 x.h.length c2)) (0, 0) _ rfl (setRow_heap _ _ _ _ _ _ hR2) Try.underlying33 rfl info_ex) rfl ?_
  refine ⟨_, rfl, own_at hO fun k hk => setRow_other _ _ _ _ (fun e => ?_), hx3.setRow (Nat.le_succ _) _⟩
  subst e
  have := row_lo HO2.out _ hk
  have := (Array.getElem?_eq_some_iff.1 H1.out.2.1).1
  omega
end Go.Proofs.Ytfibbhmmiemcoaa
