/-
  Walks: can a letter be said? No condition.
-/
import Derived.Test.YtfibbhmmiemcoaaML24
set_option linter.all false
namespace Go.Proofs.Ytfibbhmmiemcoaa
open Go.RowKit
attribute [local go_sem ↓] eql_lEq eql_sEq eql_eEq eql_oEq neq_lEq neq_sEq neq_eEq neq_oEq eql_vEq neq_vEq eql_nil
attribute [local go_sem] ExtOf.cell ExtOf.frozen ExtOf.lt ExtOf.le
attribute [local go_sem high] ExtOf.cell2 ExtOf.frozen2 ExtOf.lt2 ExtOf.cell3 ExtOf.frozen3 ExtOf.lt3

theorem two_new {w w1 : World} {A B : Obj} (hx : Ext ((w.alloc A).alloc B) w1) : w1.heap[w.heap.size]? = some A ∧ w1.heap[w.heap.size + 1]? = some B ∧ Ext w w1 :=
  ⟨heap_ext (heap_ext (heap_new rfl) ((Ext.refl _).alloc _)) hx, heap_ext (heap_new (by simp)) hx, (((Ext.refl _).alloc _).alloc _).trans hx⟩

/-- The cells of an exchange. -/
def Ex.arr (x : Ex) (v : Value) : Array Value := #[.int .u64 x.c, .int .i64 x.s0.r, .int .u64 x.s0.c, .string x.s0.t, .int .i64 x.s0.ph, .int .i64 x.s0.p.k, .int .i64 x.s0.p.f, .int .u64 x.s0.p.c, .string x.s0.p.t, .bool x.s0.p.b,
  .int .i64 x.s1.r, .int .u64 x.s1.c, .string x.s1.t, .int .i64 x.s1.ph, .int .i64 x.s1.p.k, .int .i64 x.s1.p.f, .int .u64 x.s1.p.c, .string x.s1.p.t, .bool x.s1.p.b,
  .int .u64 x.v.c, .int .i64 x.v.k, .string x.v.t, .bool x.b0, .bool x.b1, .bool x.full, v]
/-- What an exchange that is read shows. -/
def Hrd (w : World) (x : Ex) (v : Value) : Prop := Row w 5 v x.h.length (x.h.flatMap Lt.cs)
theorem Hrd.ext {w w' : World} {x : Ex} {v : Value} (h : Hrd w x v) (e : Ext w w') : Hrd w' x v := Row.ext h e
theorem info_ex : (Try.prog.info? 33).map (·.size) = some 26 := by kernel_rfl

/-- A struct that lies whole in a block, loaded behind a guard. -/
theorem wpList_load_rowG {P : Program} {ops : Array Oper} {rest : List Oper} {o : Oper} {a : Act} {w : World} {Q : Exit → Act → World → Prop} (hwt : Region.wanted o (yielded ops a.tmps) = true) (ty : TypeId) (x : Operand) (ho : o.op = .load ty x)
    (g : Nat) (hx : a.eval x = .pointer (some ⟨g, 0, none⟩)) (t : TypeId) (cs : Array Value) (fr : Nat × Nat) (d : TypeDesc) (hg : w.heap[g]? = some (.cells cs t fr))
    (hu : P.underlying ty = some d) (hd : (match d with | .struct _ | .array _ _ => true | _ => false) = true) (hi : (P.info? ty).map (·.size) = some cs.size)
    (h : wpList P ops Q rest (a.put o.dst (.agg cs)) w) : wpList P ops Q (o :: rest) a w := by
  unfold wpList
  rw [if_pos hwt]
  exact .inl (wp_load_row ty x ho g hx t cs fr d hg hu hd hi h)

/-- The beginning of Can: the world behind its two boxes. -/
theorem ca_open {w w1 : World} {x : Ex} {v : Value} {l : Lt} (hx : Ext ((w.alloc (.cells (x.arr v) 33)).alloc (.cells #[.int .i64 l.k, .int .i64 l.f, .int .u64 l.c, .string l.t, .bool l.b] 24)) w1) :
    w1.heap[w.heap.size]? = some (.cells (x.arr v) 33 (0, 0)) ∧ LtAt w1 (w.heap.size + 1) l ∧ Ext w w1 := two_new hx

set_option maxRecDepth 100000 in
set_option maxHeartbeats 3200000 in
theorem can1_0false (x : Ex) (v : Value) (c : Int) (t : ByteArray) (w : World) (HLC : Hid (∀ w, Calls Try.prog 8 #[.agg #[.int .i64 1, .int .i64 0, .int .u64 c, .string t, .bool false]] w fun e w' => e = .returned (.int .i64 0) ∧ Ext w w')) (hc' : (c != x.c) = false) (HCo : Hid (∀ w', Ext w w' → Calls Try.prog 20 #[v, .agg #[.int .i64 1, .int .i64 0, .int .u64 c, .string t, .bool false]] w' fun e w'' => e = .returned (.bool false) ∧ Ext w' w'')) (wi : Bool) (HWi : Hid (∀ W1 : World, W1.heap[w.heap.size]? = some (.cells (x.arr v) 33 (0, 0)) → LtAt W1 (w.heap.size + 1) ⟨1, 0, c, t, false⟩ → Ext w W1 → Calls Try.prog 35 #[.pointer (some ⟨w.heap.size, 0, none⟩), .pointer (some ⟨w.heap.size + 1, 0, none⟩)] W1 fun e w' => e = .returned (.bool wi) ∧ Ext W1 w')) :
    Calls Try.prog 16 #[.agg (x.arr v), .agg #[.int .i64 1, .int .i64 0, .int .u64 c, .string t, .bool false]] w fun e w' => e = .returned (.bool (x.b0 || wi)) ∧ Ext w w' := by
  rcases hbb : x.b0
  all_goals
    have HB := Lib.hid hbb
    clear hbb
    unfold Ex.arr
    go_enter Try.func16, Try.ntmps16
    go_wp2_with (first | (go_at_call 8; refine (HLC.out _).mono ?_; rintro e W1 ⟨rfl, hx⟩; obtain ⟨h1, h2, h3⟩ := ca_open (x := x) (v := v) (l := ⟨1, 0, c, t, false⟩) hx; clear hx; have HX := Lib.hid h1; have HLt := Lib.hid h2; have HE := Lib.hid h3; unfold Ex.arr at h1; have q1 := fun j => cell_of_row W1 _ j _ _ _ h1; have q2 := fun j => cell_of_row W1 _ j _ _ _ h2; have l1 : w.heap.size < W1.heap.size := (Array.getElem?_eq_some_iff.1 h1).1; have l2 : w.heap.size + 1 < W1.heap.size := (Array.getElem?_eq_some_iff.1 h2).1; clear h1 h2 h3; have hbb := HB.out) | (go_at_call 20; refine (HCo.out _ HE.out).mono ?_; rintro e w1 ⟨rfl, hx⟩; obtain ⟨x2, rfl⟩ := ext_of hx; clear hx) | (go_at_call 35; refine (HWi.out _ (heap_ext HX.out x2.ext) (HLt.out.ext x2.ext) (HE.out.val x2)).mono ?_; rintro e w1 ⟨rfl, hx⟩; obtain ⟨x3, rfl⟩ := ext_of hx; clear hx))
    go_ret
    first | exact ⟨rfl, (HE.out.val x2).val x3⟩ | exact ⟨rfl, HE.out.val x2⟩

set_option maxRecDepth 100000 in
set_option maxHeartbeats 3200000 in
theorem can1_0true (x : Ex) (v : Value) (c : Int) (t : ByteArray) (w : World) (HLC : Hid (∀ w, Calls Try.prog 8 #[.agg #[.int .i64 1, .int .i64 0, .int .u64 c, .string t, .bool true]] w fun e w' => e = .returned (.int .i64 0) ∧ Ext w w')) (hc' : (c != x.c) = false) (HCo : Hid (∀ w', Ext w w' → Calls Try.prog 20 #[v, .agg #[.int .i64 1, .int .i64 0, .int .u64 c, .string t, .bool true]] w' fun e w'' => e = .returned (.bool false) ∧ Ext w' w'')) (wi : Bool) (HWi : Hid (∀ W1 : World, W1.heap[w.heap.size]? = some (.cells (x.arr v) 33 (0, 0)) → LtAt W1 (w.heap.size + 1) ⟨1, 0, c, t, true⟩ → Ext w W1 → Calls Try.prog 35 #[.pointer (some ⟨w.heap.size, 0, none⟩), .pointer (some ⟨w.heap.size + 1, 0, none⟩)] W1 fun e w' => e = .returned (.bool wi) ∧ Ext W1 w')) :
    Calls Try.prog 16 #[.agg (x.arr v), .agg #[.int .i64 1, .int .i64 0, .int .u64 c, .string t, .bool true]] w fun e w' => e = .returned (.bool (x.b1 || wi)) ∧ Ext w w' := by
  rcases hbb : x.b1
  all_goals
    have HB := Lib.hid hbb
    clear hbb
    unfold Ex.arr
    go_enter Try.func16, Try.ntmps16
    go_wp2_with (first | (go_at_call 8; refine (HLC.out _).mono ?_; rintro e W1 ⟨rfl, hx⟩; obtain ⟨h1, h2, h3⟩ := ca_open (x := x) (v := v) (l := ⟨1, 0, c, t, true⟩) hx; clear hx; have HX := Lib.hid h1; have HLt := Lib.hid h2; have HE := Lib.hid h3; unfold Ex.arr at h1; have q1 := fun j => cell_of_row W1 _ j _ _ _ h1; have q2 := fun j => cell_of_row W1 _ j _ _ _ h2; have l1 : w.heap.size < W1.heap.size := (Array.getElem?_eq_some_iff.1 h1).1; have l2 : w.heap.size + 1 < W1.heap.size := (Array.getElem?_eq_some_iff.1 h2).1; clear h1 h2 h3; have hbb := HB.out) | (go_at_call 20; refine (HCo.out _ HE.out).mono ?_; rintro e w1 ⟨rfl, hx⟩; obtain ⟨x2, rfl⟩ := ext_of hx; clear hx) | (go_at_call 35; refine (HWi.out _ (heap_ext HX.out x2.ext) (HLt.out.ext x2.ext) (HE.out.val x2)).mono ?_; rintro e w1 ⟨rfl, hx⟩; obtain ⟨x3, rfl⟩ := ext_of hx; clear hx))
    go_ret
    first | exact ⟨rfl, (HE.out.val x2).val x3⟩ | exact ⟨rfl, HE.out.val x2⟩

set_option maxRecDepth 100000 in
set_option maxHeartbeats 3200000 in
theorem can1_1false (x : Ex) (v : Value) (c : Int) (t : ByteArray) (w : World) (HLC : Hid (∀ w, Calls Try.prog 8 #[.agg #[.int .i64 1, .int .i64 1, .int .u64 c, .string t, .bool false]] w fun e w' => e = .returned (.int .i64 0) ∧ Ext w w')) (hc' : (c != x.c) = false) (HCo : Hid (∀ w', Ext w w' → Calls Try.prog 20 #[v, .agg #[.int .i64 1, .int .i64 1, .int .u64 c, .string t, .bool false]] w' fun e w'' => e = .returned (.bool false) ∧ Ext w' w'')) (wi : Bool) (HWi : Hid (∀ W1 : World, W1.heap[w.heap.size]? = some (.cells (x.arr v) 33 (0, 0)) → LtAt W1 (w.heap.size + 1) ⟨1, 1, c, t, false⟩ → Ext w W1 → Calls Try.prog 35 #[.pointer (some ⟨w.heap.size, 0, none⟩), .pointer (some ⟨w.heap.size + 1, 0, none⟩)] W1 fun e w' => e = .returned (.bool wi) ∧ Ext W1 w')) :
    Calls Try.prog 16 #[.agg (x.arr v), .agg #[.int .i64 1, .int .i64 1, .int .u64 c, .string t, .bool false]] w fun e w' => e = .returned (.bool (x.b1 || wi)) ∧ Ext w w' := by
  rcases hbb : x.b1
  all_goals
    have HB := Lib.hid hbb
    clear hbb
    unfold Ex.arr
    go_enter Try.func16, Try.ntmps16
    go_wp2_with (first | (go_at_call 8; refine (HLC.out _).mono ?_; rintro e W1 ⟨rfl, hx⟩; obtain ⟨h1, h2, h3⟩ := ca_open (x := x) (v := v) (l := ⟨1, 1, c, t, false⟩) hx; clear hx; have HX := Lib.hid h1; have HLt := Lib.hid h2; have HE := Lib.hid h3; unfold Ex.arr at h1; have q1 := fun j => cell_of_row W1 _ j _ _ _ h1; have q2 := fun j => cell_of_row W1 _ j _ _ _ h2; have l1 : w.heap.size < W1.heap.size := (Array.getElem?_eq_some_iff.1 h1).1; have l2 : w.heap.size + 1 < W1.heap.size := (Array.getElem?_eq_some_iff.1 h2).1; clear h1 h2 h3; have hbb := HB.out) | (go_at_call 20; refine (HCo.out _ HE.out).mono ?_; rintro e w1 ⟨rfl, hx⟩; obtain ⟨x2, rfl⟩ := ext_of hx; clear hx) | (go_at_call 35; refine (HWi.out _ (heap_ext HX.out x2.ext) (HLt.out.ext x2.ext) (HE.out.val x2)).mono ?_; rintro e w1 ⟨rfl, hx⟩; obtain ⟨x3, rfl⟩ := ext_of hx; clear hx))
    go_ret
    first | exact ⟨rfl, (HE.out.val x2).val x3⟩ | exact ⟨rfl, HE.out.val x2⟩

set_option maxRecDepth 100000 in
set_option maxHeartbeats 3200000 in
theorem can1_1true (x : Ex) (v : Value) (c : Int) (t : ByteArray) (w : World) (HLC : Hid (∀ w, Calls Try.prog 8 #[.agg #[.int .i64 1, .int .i64 1, .int .u64 c, .string t, .bool true]] w fun e w' => e = .returned (.int .i64 0) ∧ Ext w w')) (hc' : (c != x.c) = false) (HCo : Hid (∀ w', Ext w w' → Calls Try.prog 20 #[v, .agg #[.int .i64 1, .int .i64 1, .int .u64 c, .string t, .bool true]] w' fun e w'' => e = .returned (.bool false) ∧ Ext w' w'')) (wi : Bool) (HWi : Hid (∀ W1 : World, W1.heap[w.heap.size]? = some (.cells (x.arr v) 33 (0, 0)) → LtAt W1 (w.heap.size + 1) ⟨1, 1, c, t, true⟩ → Ext w W1 → Calls Try.prog 35 #[.pointer (some ⟨w.heap.size, 0, none⟩), .pointer (some ⟨w.heap.size + 1, 0, none⟩)] W1 fun e w' => e = .returned (.bool wi) ∧ Ext W1 w')) :
    Calls Try.prog 16 #[.agg (x.arr v), .agg #[.int .i64 1, .int .i64 1, .int .u64 c, .string t, .bool true]] w fun e w' => e = .returned (.bool (x.b0 || wi)) ∧ Ext w w' := by
  rcases hbb : x.b0
  all_goals
    have HB := Lib.hid hbb
    clear hbb
    unfold Ex.arr
    go_enter Try.func16, Try.ntmps16
    go_wp2_with (first | (go_at_call 8; refine (HLC.out _).mono ?_; rintro e W1 ⟨rfl, hx⟩; obtain ⟨h1, h2, h3⟩ := ca_open (x := x) (v := v) (l := ⟨1, 1, c, t, true⟩) hx; clear hx; have HX := Lib.hid h1; have HLt := Lib.hid h2; have HE := Lib.hid h3; unfold Ex.arr at h1; have q1 := fun j => cell_of_row W1 _ j _ _ _ h1; have q2 := fun j => cell_of_row W1 _ j _ _ _ h2; have l1 : w.heap.size < W1.heap.size := (Array.getElem?_eq_some_iff.1 h1).1; have l2 : w.heap.size + 1 < W1.heap.size := (Array.getElem?_eq_some_iff.1 h2).1; clear h1 h2 h3; have hbb := HB.out) | (go_at_call 20; refine (HCo.out _ HE.out).mono ?_; rintro e w1 ⟨rfl, hx⟩; obtain ⟨x2, rfl⟩ := ext_of hx; clear hx) | (go_at_call 35; refine (HWi.out _ (heap_ext HX.out x2.ext) (HLt.out.ext x2.ext) (HE.out.val x2)).mono ?_; rintro e w1 ⟨rfl, hx⟩; obtain ⟨x3, rfl⟩ := ext_of hx; clear hx))
    go_ret
    first | exact ⟨rfl, (HE.out.val x2).val x3⟩ | exact ⟨rfl, HE.out.val x2⟩

set_option maxRecDepth 100000 in
set_option maxHeartbeats 3200000 in
theorem can2_0 (x : Ex) (v : Value) (c : Int) (t : ByteArray) (b : Bool) (w : World) (HLC : Hid (∀ w, Calls Try.prog 8 #[.agg #[.int .i64 2, .int .i64 0, .int .u64 c, .string t, .bool b]] w fun e w' => e = .returned (.int .i64 0) ∧ Ext w w')) (hc' : (c != x.c) = false) (HCo : Hid (∀ w', Ext w w' → Calls Try.prog 20 #[v, .agg #[.int .i64 2, .int .i64 0, .int .u64 c, .string t, .bool b]] w' fun e w'' => e = .returned (.bool false) ∧ Ext w' w'')) :
    Calls Try.prog 16 #[.agg (x.arr v), .agg #[.int .i64 2, .int .i64 0, .int .u64 c, .string t, .bool b]] w fun e w' => e = .returned (.bool x.b0) ∧ Ext w w' := by
  unfold Ex.arr
  go_enter Try.func16, Try.ntmps16
  go_wp2_with (first | (go_at_call 8; refine (HLC.out _).mono ?_; rintro e W1 ⟨rfl, hx⟩; obtain ⟨h1, h2, h3⟩ := ca_open (x := x) (v := v) (l := ⟨2, 0, c, t, b⟩) hx; clear hx; have HX := Lib.hid h1; have HLt := Lib.hid h2; have HE := Lib.hid h3; unfold Ex.arr at h1; have q1 := fun j => cell_of_row W1 _ j _ _ _ h1; have q2 := fun j => cell_of_row W1 _ j _ _ _ h2; have l1 : w.heap.size < W1.heap.size := (Array.getElem?_eq_some_iff.1 h1).1; have l2 : w.heap.size + 1 < W1.heap.size := (Array.getElem?_eq_some_iff.1 h2).1; clear h1 h2 h3) | (go_at_call 20; refine (HCo.out _ HE.out).mono ?_; rintro e w1 ⟨rfl, hx⟩; obtain ⟨x2, rfl⟩ := ext_of hx; clear hx))
  go_ret
  exact ⟨rfl, HE.out.val x2⟩

set_option maxRecDepth 100000 in
set_option maxHeartbeats 3200000 in
theorem can2_1 (x : Ex) (v : Value) (c : Int) (t : ByteArray) (b : Bool) (w : World) (HLC : Hid (∀ w, Calls Try.prog 8 #[.agg #[.int .i64 2, .int .i64 1, .int .u64 c, .string t, .bool b]] w fun e w' => e = .returned (.int .i64 0) ∧ Ext w w')) (hc' : (c != x.c) = false) (HCo : Hid (∀ w', Ext w w' → Calls Try.prog 20 #[v, .agg #[.int .i64 2, .int .i64 1, .int .u64 c, .string t, .bool b]] w' fun e w'' => e = .returned (.bool false) ∧ Ext w' w'')) :
    Calls Try.prog 16 #[.agg (x.arr v), .agg #[.int .i64 2, .int .i64 1, .int .u64 c, .string t, .bool b]] w fun e w' => e = .returned (.bool x.b1) ∧ Ext w w' := by
  unfold Ex.arr
  go_enter Try.func16, Try.ntmps16
  go_wp2_with (first | (go_at_call 8; refine (HLC.out _).mono ?_; rintro e W1 ⟨rfl, hx⟩; obtain ⟨h1, h2, h3⟩ := ca_open (x := x) (v := v) (l := ⟨2, 1, c, t, b⟩) hx; clear hx; have HX := Lib.hid h1; have HLt := Lib.hid h2; have HE := Lib.hid h3; unfold Ex.arr at h1; have q1 := fun j => cell_of_row W1 _ j _ _ _ h1; have q2 := fun j => cell_of_row W1 _ j _ _ _ h2; have l1 : w.heap.size < W1.heap.size := (Array.getElem?_eq_some_iff.1 h1).1; have l2 : w.heap.size + 1 < W1.heap.size := (Array.getElem?_eq_some_iff.1 h2).1; clear h1 h2 h3) | (go_at_call 20; refine (HCo.out _ HE.out).mono ?_; rintro e w1 ⟨rfl, hx⟩; obtain ⟨x2, rfl⟩ := ext_of hx; clear hx))
  go_ret
  exact ⟨rfl, HE.out.val x2⟩

set_option maxRecDepth 100000 in
set_option maxHeartbeats 3200000 in
theorem can3 (x : Ex) (v : Value) (f c : Int) (t : ByteArray) (b : Bool) (w : World) (HLC : Hid (∀ w, Calls Try.prog 8 #[.agg #[.int .i64 3, .int .i64 f, .int .u64 c, .string t, .bool b]] w fun e w' => e = .returned (.int .i64 0) ∧ Ext w w')) (hc' : (c != x.c) = false) (HCo : Hid (∀ w', Ext w w' → Calls Try.prog 20 #[v, .agg #[.int .i64 3, .int .i64 f, .int .u64 c, .string t, .bool b]] w' fun e w'' => e = .returned (.bool false) ∧ Ext w' w'')) :
    Calls Try.prog 16 #[.agg (x.arr v), .agg #[.int .i64 3, .int .i64 f, .int .u64 c, .string t, .bool b]] w fun e w' => e = .returned (.bool x.b0) ∧ Ext w w' := by
  unfold Ex.arr
  go_enter Try.func16, Try.ntmps16
  go_wp2_with (first | (go_at_call 8; refine (HLC.out _).mono ?_; rintro e W1 ⟨rfl, hx⟩; obtain ⟨h1, h2, h3⟩ := ca_open (x := x) (v := v) (l := ⟨3, f, c, t, b⟩) hx; clear hx; have HX := Lib.hid h1; have HLt := Lib.hid h2; have HE := Lib.hid h3; unfold Ex.arr at h1; have q1 := fun j => cell_of_row W1 _ j _ _ _ h1; have q2 := fun j => cell_of_row W1 _ j _ _ _ h2; have l1 : w.heap.size < W1.heap.size := (Array.getElem?_eq_some_iff.1 h1).1; have l2 : w.heap.size + 1 < W1.heap.size := (Array.getElem?_eq_some_iff.1 h2).1; clear h1 h2 h3) | (go_at_call 20; refine (HCo.out _ HE.out).mono ?_; rintro e w1 ⟨rfl, hx⟩; obtain ⟨x2, rfl⟩ := ext_of hx; clear hx))
  go_ret
  exact ⟨rfl, HE.out.val x2⟩

set_option maxRecDepth 100000 in
set_option maxHeartbeats 3200000 in
theorem can5 (x : Ex) (v : Value) (f c : Int) (t : ByteArray) (b : Bool) (w : World) (HLC : Hid (∀ w, Calls Try.prog 8 #[.agg #[.int .i64 5, .int .i64 f, .int .u64 c, .string t, .bool b]] w fun e w' => e = .returned (.int .i64 0) ∧ Ext w w')) (hc' : (c != x.c) = false) (HCo : Hid (∀ w', Ext w w' → Calls Try.prog 20 #[v, .agg #[.int .i64 5, .int .i64 f, .int .u64 c, .string t, .bool b]] w' fun e w'' => e = .returned (.bool false) ∧ Ext w' w'')) :
    Calls Try.prog 16 #[.agg (x.arr v), .agg #[.int .i64 5, .int .i64 f, .int .u64 c, .string t, .bool b]] w fun e w' => e = .returned (.bool false) ∧ Ext w w' := by
  unfold Ex.arr
  go_enter Try.func16, Try.ntmps16
  go_wp2_with (first | (go_at_call 8; refine (HLC.out _).mono ?_; rintro e W1 ⟨rfl, hx⟩; obtain ⟨h1, h2, h3⟩ := ca_open (x := x) (v := v) (l := ⟨5, f, c, t, b⟩) hx; clear hx; have HX := Lib.hid h1; have HLt := Lib.hid h2; have HE := Lib.hid h3; unfold Ex.arr at h1; have q1 := fun j => cell_of_row W1 _ j _ _ _ h1; have q2 := fun j => cell_of_row W1 _ j _ _ _ h2; have l1 : w.heap.size < W1.heap.size := (Array.getElem?_eq_some_iff.1 h1).1; have l2 : w.heap.size + 1 < W1.heap.size := (Array.getElem?_eq_some_iff.1 h2).1; clear h1 h2 h3) | (go_at_call 20; refine (HCo.out _ HE.out).mono ?_; rintro e w1 ⟨rfl, hx⟩; obtain ⟨x2, rfl⟩ := ext_of hx; clear hx))
  go_ret
  exact ⟨rfl, HE.out.val x2⟩

set_option maxRecDepth 100000 in
set_option maxHeartbeats 3200000 in
theorem can6 (x : Ex) (v : Value) (f c : Int) (t : ByteArray) (b : Bool) (w : World) (HLC : Hid (∀ w, Calls Try.prog 8 #[.agg #[.int .i64 6, .int .i64 f, .int .u64 c, .string t, .bool b]] w fun e w' => e = .returned (.int .i64 0) ∧ Ext w w')) (hc' : (c != x.c) = false) (HCo : Hid (∀ w', Ext w w' → Calls Try.prog 20 #[v, .agg #[.int .i64 6, .int .i64 f, .int .u64 c, .string t, .bool b]] w' fun e w'' => e = .returned (.bool false) ∧ Ext w' w'')) :
    Calls Try.prog 16 #[.agg (x.arr v), .agg #[.int .i64 6, .int .i64 f, .int .u64 c, .string t, .bool b]] w fun e w' => e = .returned (.bool false) ∧ Ext w w' := by
  unfold Ex.arr
  go_enter Try.func16, Try.ntmps16
  go_wp2_with (first | (go_at_call 8; refine (HLC.out _).mono ?_; rintro e W1 ⟨rfl, hx⟩; obtain ⟨h1, h2, h3⟩ := ca_open (x := x) (v := v) (l := ⟨6, f, c, t, b⟩) hx; clear hx; have HX := Lib.hid h1; have HLt := Lib.hid h2; have HE := Lib.hid h3; unfold Ex.arr at h1; have q1 := fun j => cell_of_row W1 _ j _ _ _ h1; have q2 := fun j => cell_of_row W1 _ j _ _ _ h2; have l1 : w.heap.size < W1.heap.size := (Array.getElem?_eq_some_iff.1 h1).1; have l2 : w.heap.size + 1 < W1.heap.size := (Array.getElem?_eq_some_iff.1 h2).1; clear h1 h2 h3) | (go_at_call 20; refine (HCo.out _ HE.out).mono ?_; rintro e w1 ⟨rfl, hx⟩; obtain ⟨x2, rfl⟩ := ext_of hx; clear hx))
  go_ret
  exact ⟨rfl, HE.out.val x2⟩

set_option maxRecDepth 100000 in
set_option maxHeartbeats 3200000 in
theorem can7 (x : Ex) (v : Value) (f c : Int) (t : ByteArray) (b : Bool) (w : World) (HLC : Hid (∀ w, Calls Try.prog 8 #[.agg #[.int .i64 7, .int .i64 f, .int .u64 c, .string t, .bool b]] w fun e w' => e = .returned (.int .i64 0) ∧ Ext w w')) (hc' : (c != x.c) = false) (HCo : Hid (∀ w', Ext w w' → Calls Try.prog 20 #[v, .agg #[.int .i64 7, .int .i64 f, .int .u64 c, .string t, .bool b]] w' fun e w'' => e = .returned (.bool false) ∧ Ext w' w'')) :
    Calls Try.prog 16 #[.agg (x.arr v), .agg #[.int .i64 7, .int .i64 f, .int .u64 c, .string t, .bool b]] w fun e w' => e = .returned (.bool true) ∧ Ext w w' := by
  unfold Ex.arr
  go_enter Try.func16, Try.ntmps16
  go_wp2_with (first | (go_at_call 8; refine (HLC.out _).mono ?_; rintro e W1 ⟨rfl, hx⟩; obtain ⟨h1, h2, h3⟩ := ca_open (x := x) (v := v) (l := ⟨7, f, c, t, b⟩) hx; clear hx; have HX := Lib.hid h1; have HLt := Lib.hid h2; have HE := Lib.hid h3; unfold Ex.arr at h1; have q1 := fun j => cell_of_row W1 _ j _ _ _ h1; have q2 := fun j => cell_of_row W1 _ j _ _ _ h2; have l1 : w.heap.size < W1.heap.size := (Array.getElem?_eq_some_iff.1 h1).1; have l2 : w.heap.size + 1 < W1.heap.size := (Array.getElem?_eq_some_iff.1 h2).1; clear h1 h2 h3) | (go_at_call 20; refine (HCo.out _ HE.out).mono ?_; rintro e w1 ⟨rfl, hx⟩; obtain ⟨x2, rfl⟩ := ext_of hx; clear hx))
  go_ret
  exact ⟨rfl, HE.out.val x2⟩

set_option maxRecDepth 100000 in
set_option maxHeartbeats 3200000 in
theorem can4_0f (x : Ex) (v : Value) (c : Int) (t : ByteArray) (b : Bool) (w : World) (HLC : Hid (∀ w, Calls Try.prog 8 #[.agg #[.int .i64 4, .int .i64 0, .int .u64 c, .string t, .bool b]] w fun e w' => e = .returned (.int .i64 0) ∧ Ext w w')) (hc' : (c != x.c) = false) (HCo : Hid (∀ w', Ext w w' → Calls Try.prog 20 #[v, .agg #[.int .i64 4, .int .i64 0, .int .u64 c, .string t, .bool b]] w' fun e w'' => e = .returned (.bool false) ∧ Ext w' w'')) (HB : Hid (x.b0 = false)) :
    Calls Try.prog 16 #[.agg (x.arr v), .agg #[.int .i64 4, .int .i64 0, .int .u64 c, .string t, .bool b]] w fun e w' => e = .returned (.bool false) ∧ Ext w w' := by
  unfold Ex.arr
  go_enter Try.func16, Try.ntmps16
  go_wp2_with (first | (go_at_call 8; refine (HLC.out _).mono ?_; rintro e W1 ⟨rfl, hx⟩; obtain ⟨h1, h2, h3⟩ := ca_open (x := x) (v := v) (l := ⟨4, 0, c, t, b⟩) hx; clear hx; have HX := Lib.hid h1; have HLt := Lib.hid h2; have HE := Lib.hid h3; unfold Ex.arr at h1; have q1 := fun j => cell_of_row W1 _ j _ _ _ h1; have q2 := fun j => cell_of_row W1 _ j _ _ _ h2; have l1 : w.heap.size < W1.heap.size := (Array.getElem?_eq_some_iff.1 h1).1; have l2 : w.heap.size + 1 < W1.heap.size := (Array.getElem?_eq_some_iff.1 h2).1; clear h1 h2 h3; have hbb := HB.out) | (go_at_call 20; refine (HCo.out _ HE.out).mono ?_; rintro e W2 ⟨rfl, hx⟩; clear q1 q2 l1 l2; have h1 := heap_ext HX.out hx; have h2 := HLt.out.ext hx; have HE2 := Lib.hid (HE.out.trans hx); have HX2 := Lib.hid h1; clear hx; unfold Ex.arr at h1; have q1 := fun j => cell_of_row W2 _ j _ _ _ h1; have q2 := fun j => cell_of_row W2 _ j _ _ _ h2; have l1 : w.heap.size < W2.heap.size := (Array.getElem?_eq_some_iff.1 h1).1; have l2 : w.heap.size + 1 < W2.heap.size := (Array.getElem?_eq_some_iff.1 h2).1; clear h1 h2))
  go_ret
  exact ⟨rfl, (HE2.out.alloc _).alloc _⟩

set_option maxRecDepth 100000 in
set_option maxHeartbeats 3200000 in
theorem can4_0tf (x : Ex) (v : Value) (c : Int) (t : ByteArray) (b : Bool) (w : World) (HLC : Hid (∀ w, Calls Try.prog 8 #[.agg #[.int .i64 4, .int .i64 0, .int .u64 c, .string t, .bool b]] w fun e w' => e = .returned (.int .i64 0) ∧ Ext w w')) (hc' : (c != x.c) = false) (HCo : Hid (∀ w', Ext w w' → Calls Try.prog 20 #[v, .agg #[.int .i64 4, .int .i64 0, .int .u64 c, .string t, .bool b]] w' fun e w'' => e = .returned (.bool false) ∧ Ext w' w'')) (HB : Hid (x.b0 = true)) (hp0 : ∀ w', Ext w w' → Calls Try.prog 16 #[.agg (x.arr v), .agg #[.int .i64 1, .int .i64 0, .int .u64 c, .string t, .bool b]] w' fun e w'' => e = .returned (.bool false) ∧ Ext w' w'') :
    Calls Try.prog 16 #[.agg (x.arr v), .agg #[.int .i64 4, .int .i64 0, .int .u64 c, .string t, .bool b]] w fun e w' => e = .returned (.bool false) ∧ Ext w w' := by
  have HP0 := Lib.hid hp0
  clear hp0
  unfold Ex.arr
  go_enter Try.func16, Try.ntmps16
  go_wp2_with (first | (go_at_call 8; refine (HLC.out _).mono ?_; rintro e W1 ⟨rfl, hx⟩; obtain ⟨h1, h2, h3⟩ := ca_open (x := x) (v := v) (l := ⟨4, 0, c, t, b⟩) hx; clear hx; have HX := Lib.hid h1; have HLt := Lib.hid h2; have HE := Lib.hid h3; unfold Ex.arr at h1; have q1 := fun j => cell_of_row W1 _ j _ _ _ h1; have q2 := fun j => cell_of_row W1 _ j _ _ _ h2; have l1 : w.heap.size < W1.heap.size := (Array.getElem?_eq_some_iff.1 h1).1; have l2 : w.heap.size + 1 < W1.heap.size := (Array.getElem?_eq_some_iff.1 h2).1; clear h1 h2 h3; have hbb := HB.out) | (go_at_call 20; refine (HCo.out _ HE.out).mono ?_; rintro e W2 ⟨rfl, hx⟩; clear q1 q2 l1 l2; have h1 := heap_ext HX.out hx; have h2 := HLt.out.ext hx; have HE2 := Lib.hid (HE.out.trans hx); have HX2 := Lib.hid h1; clear hx; unfold Ex.arr at h1; have q1 := fun j => cell_of_row W2 _ j _ _ _ h1; have q2 := fun j => cell_of_row W2 _ j _ _ _ h2; have l1 : w.heap.size < W2.heap.size := (Array.getElem?_eq_some_iff.1 h1).1; have l2 : w.heap.size + 1 < W2.heap.size := (Array.getElem?_eq_some_iff.1 h2).1; clear h1 h2) | (refine wpList_load_rowG rfl 33 _ rfl _ rfl _ _ (0, 0) _ HX3.out Try.underlying33 rfl info_ex ?_) | (refine wpList_load_rowG rfl 33 _ rfl _ rfl _ _ (0, 0) _ (heap_ext HX2.out (((Ext.refl _).alloc _).alloc _)) Try.underlying33 rfl info_ex ?_) | (go_at_call 16; refine (HP0.out _ ((HE2.out.alloc _).alloc _)).mono ?_; rintro e W3 ⟨rfl, hx⟩; obtain ⟨h4, h5, h6⟩ := two_new hx; have h1 := heap_ext HX2.out h6; have HE3 := Lib.hid (HE2.out.trans h6); have HX3 := Lib.hid h1; clear hx q1 q2 l1 l2; unfold Ex.arr at h1; have q1 := fun j => cell_of_row W3 _ j _ _ _ h1; have q2 := fun j => cell_of_row W3 _ j _ _ _ h5; have l1 : w.heap.size < W3.heap.size := (Array.getElem?_eq_some_iff.1 h1).1; have l2 : W2.heap.size + 1 < W3.heap.size := (Array.getElem?_eq_some_iff.1 h5).1; clear h1 h4 h5 h6 HP0))
  go_ret
  exact ⟨rfl, HE3.out⟩

set_option maxRecDepth 100000 in
set_option maxHeartbeats 3200000 in
theorem can4_0tt (x : Ex) (v : Value) (c : Int) (t : ByteArray) (b : Bool) (w : World) (HLC : Hid (∀ w, Calls Try.prog 8 #[.agg #[.int .i64 4, .int .i64 0, .int .u64 c, .string t, .bool b]] w fun e w' => e = .returned (.int .i64 0) ∧ Ext w w')) (hc' : (c != x.c) = false) (HCo : Hid (∀ w', Ext w w' → Calls Try.prog 20 #[v, .agg #[.int .i64 4, .int .i64 0, .int .u64 c, .string t, .bool b]] w' fun e w'' => e = .returned (.bool false) ∧ Ext w' w'')) (HB : Hid (x.b0 = true)) (hp0 : ∀ w', Ext w w' → Calls Try.prog 16 #[.agg (x.arr v), .agg #[.int .i64 1, .int .i64 0, .int .u64 c, .string t, .bool b]] w' fun e w'' => e = .returned (.bool true) ∧ Ext w' w'') (p1 : Bool) (hp1 : ∀ w', Ext w w' → Calls Try.prog 16 #[.agg (x.arr v), .agg #[.int .i64 1, .int .i64 1, .int .u64 c, .string t, .bool b]] w' fun e w'' => e = .returned (.bool p1) ∧ Ext w' w'') :
    Calls Try.prog 16 #[.agg (x.arr v), .agg #[.int .i64 4, .int .i64 0, .int .u64 c, .string t, .bool b]] w fun e w' => e = .returned (.bool p1) ∧ Ext w w' := by
  have HP0 := Lib.hid hp0
  clear hp0
  have HP1 := Lib.hid hp1
  clear hp1
  unfold Ex.arr
  go_enter Try.func16, Try.ntmps16
  go_wp2_with (first | (go_at_call 8; refine (HLC.out _).mono ?_; rintro e W1 ⟨rfl, hx⟩; obtain ⟨h1, h2, h3⟩ := ca_open (x := x) (v := v) (l := ⟨4, 0, c, t, b⟩) hx; clear hx; have HX := Lib.hid h1; have HLt := Lib.hid h2; have HE := Lib.hid h3; unfold Ex.arr at h1; have q1 := fun j => cell_of_row W1 _ j _ _ _ h1; have q2 := fun j => cell_of_row W1 _ j _ _ _ h2; have l1 : w.heap.size < W1.heap.size := (Array.getElem?_eq_some_iff.1 h1).1; have l2 : w.heap.size + 1 < W1.heap.size := (Array.getElem?_eq_some_iff.1 h2).1; clear h1 h2 h3; have hbb := HB.out) | (go_at_call 20; refine (HCo.out _ HE.out).mono ?_; rintro e W2 ⟨rfl, hx⟩; clear q1 q2 l1 l2; have h1 := heap_ext HX.out hx; have h2 := HLt.out.ext hx; have HE2 := Lib.hid (HE.out.trans hx); have HX2 := Lib.hid h1; clear hx; unfold Ex.arr at h1; have q1 := fun j => cell_of_row W2 _ j _ _ _ h1; have q2 := fun j => cell_of_row W2 _ j _ _ _ h2; have l1 : w.heap.size < W2.heap.size := (Array.getElem?_eq_some_iff.1 h1).1; have l2 : w.heap.size + 1 < W2.heap.size := (Array.getElem?_eq_some_iff.1 h2).1; clear h1 h2) | (refine wpList_load_rowG rfl 33 _ rfl _ rfl _ _ (0, 0) _ HX3.out Try.underlying33 rfl info_ex ?_) | (refine wpList_load_rowG rfl 33 _ rfl _ rfl _ _ (0, 0) _ (heap_ext HX2.out (((Ext.refl _).alloc _).alloc _)) Try.underlying33 rfl info_ex ?_) | (go_at_call 16; refine (HP0.out _ ((HE2.out.alloc _).alloc _)).mono ?_; rintro e W3 ⟨rfl, hx⟩; obtain ⟨h4, h5, h6⟩ := two_new hx; have h1 := heap_ext HX2.out h6; have HE3 := Lib.hid (HE2.out.trans h6); have HX3 := Lib.hid h1; clear hx q1 q2 l1 l2; unfold Ex.arr at h1; have q1 := fun j => cell_of_row W3 _ j _ _ _ h1; have q2 := fun j => cell_of_row W3 _ j _ _ _ h5; have l1 : w.heap.size < W3.heap.size := (Array.getElem?_eq_some_iff.1 h1).1; have l2 : W2.heap.size + 1 < W3.heap.size := (Array.getElem?_eq_some_iff.1 h5).1; clear h1 h4 h5 h6 HP0) | (go_at_call 16; refine (HP1.out _ HE3.out).mono ?_; rintro e w1 ⟨rfl, hx⟩; obtain ⟨x4, rfl⟩ := ext_of hx; clear hx))
  go_ret
  exact ⟨rfl, HE3.out.val x4⟩

set_option maxRecDepth 100000 in
set_option maxHeartbeats 3200000 in
theorem can4_1f (x : Ex) (v : Value) (c : Int) (t : ByteArray) (b : Bool) (w : World) (HLC : Hid (∀ w, Calls Try.prog 8 #[.agg #[.int .i64 4, .int .i64 1, .int .u64 c, .string t, .bool b]] w fun e w' => e = .returned (.int .i64 0) ∧ Ext w w')) (hc' : (c != x.c) = false) (HCo : Hid (∀ w', Ext w w' → Calls Try.prog 20 #[v, .agg #[.int .i64 4, .int .i64 1, .int .u64 c, .string t, .bool b]] w' fun e w'' => e = .returned (.bool false) ∧ Ext w' w'')) (HB : Hid (x.b1 = false)) :
    Calls Try.prog 16 #[.agg (x.arr v), .agg #[.int .i64 4, .int .i64 1, .int .u64 c, .string t, .bool b]] w fun e w' => e = .returned (.bool false) ∧ Ext w w' := by
  unfold Ex.arr
  go_enter Try.func16, Try.ntmps16
  go_wp2_with (first | (go_at_call 8; refine (HLC.out _).mono ?_; rintro e W1 ⟨rfl, hx⟩; obtain ⟨h1, h2, h3⟩ := ca_open (x := x) (v := v) (l := ⟨4, 1, c, t, b⟩) hx; clear hx; have HX := Lib.hid h1; have HLt := Lib.hid h2; have HE := Lib.hid h3; unfold Ex.arr at h1; have q1 := fun j => cell_of_row W1 _ j _ _ _ h1; have q2 := fun j => cell_of_row W1 _ j _ _ _ h2; have l1 : w.heap.size < W1.heap.size := (Array.getElem?_eq_some_iff.1 h1).1; have l2 : w.heap.size + 1 < W1.heap.size := (Array.getElem?_eq_some_iff.1 h2).1; clear h1 h2 h3; have hbb := HB.out) | (go_at_call 20; refine (HCo.out _ HE.out).mono ?_; rintro e W2 ⟨rfl, hx⟩; clear q1 q2 l1 l2; have h1 := heap_ext HX.out hx; have h2 := HLt.out.ext hx; have HE2 := Lib.hid (HE.out.trans hx); have HX2 := Lib.hid h1; clear hx; unfold Ex.arr at h1; have q1 := fun j => cell_of_row W2 _ j _ _ _ h1; have q2 := fun j => cell_of_row W2 _ j _ _ _ h2; have l1 : w.heap.size < W2.heap.size := (Array.getElem?_eq_some_iff.1 h1).1; have l2 : w.heap.size + 1 < W2.heap.size := (Array.getElem?_eq_some_iff.1 h2).1; clear h1 h2))
  go_ret
  exact ⟨rfl, (HE2.out.alloc _).alloc _⟩

set_option maxRecDepth 100000 in
set_option maxHeartbeats 3200000 in
theorem can4_1tf (x : Ex) (v : Value) (c : Int) (t : ByteArray) (b : Bool) (w : World) (HLC : Hid (∀ w, Calls Try.prog 8 #[.agg #[.int .i64 4, .int .i64 1, .int .u64 c, .string t, .bool b]] w fun e w' => e = .returned (.int .i64 0) ∧ Ext w w')) (hc' : (c != x.c) = false) (HCo : Hid (∀ w', Ext w w' → Calls Try.prog 20 #[v, .agg #[.int .i64 4, .int .i64 1, .int .u64 c, .string t, .bool b]] w' fun e w'' => e = .returned (.bool false) ∧ Ext w' w'')) (HB : Hid (x.b1 = true)) (hp0 : ∀ w', Ext w w' → Calls Try.prog 16 #[.agg (x.arr v), .agg #[.int .i64 1, .int .i64 0, .int .u64 c, .string t, .bool b]] w' fun e w'' => e = .returned (.bool false) ∧ Ext w' w'') :
    Calls Try.prog 16 #[.agg (x.arr v), .agg #[.int .i64 4, .int .i64 1, .int .u64 c, .string t, .bool b]] w fun e w' => e = .returned (.bool false) ∧ Ext w w' := by
  have HP0 := Lib.hid hp0
  clear hp0
  unfold Ex.arr
  go_enter Try.func16, Try.ntmps16
  go_wp2_with (first | (go_at_call 8; refine (HLC.out _).mono ?_; rintro e W1 ⟨rfl, hx⟩; obtain ⟨h1, h2, h3⟩ := ca_open (x := x) (v := v) (l := ⟨4, 1, c, t, b⟩) hx; clear hx; have HX := Lib.hid h1; have HLt := Lib.hid h2; have HE := Lib.hid h3; unfold Ex.arr at h1; have q1 := fun j => cell_of_row W1 _ j _ _ _ h1; have q2 := fun j => cell_of_row W1 _ j _ _ _ h2; have l1 : w.heap.size < W1.heap.size := (Array.getElem?_eq_some_iff.1 h1).1; have l2 : w.heap.size + 1 < W1.heap.size := (Array.getElem?_eq_some_iff.1 h2).1; clear h1 h2 h3; have hbb := HB.out) | (go_at_call 20; refine (HCo.out _ HE.out).mono ?_; rintro e W2 ⟨rfl, hx⟩; clear q1 q2 l1 l2; have h1 := heap_ext HX.out hx; have h2 := HLt.out.ext hx; have HE2 := Lib.hid (HE.out.trans hx); have HX2 := Lib.hid h1; clear hx; unfold Ex.arr at h1; have q1 := fun j => cell_of_row W2 _ j _ _ _ h1; have q2 := fun j => cell_of_row W2 _ j _ _ _ h2; have l1 : w.heap.size < W2.heap.size := (Array.getElem?_eq_some_iff.1 h1).1; have l2 : w.heap.size + 1 < W2.heap.size := (Array.getElem?_eq_some_iff.1 h2).1; clear h1 h2) | (refine wpList_load_rowG rfl 33 _ rfl _ rfl _ _ (0, 0) _ HX3.out Try.underlying33 rfl info_ex ?_) | (refine wpList_load_rowG rfl 33 _ rfl _ rfl _ _ (0, 0) _ (heap_ext HX2.out (((Ext.refl _).alloc _).alloc _)) Try.underlying33 rfl info_ex ?_) | (go_at_call 16; refine (HP0.out _ ((HE2.out.alloc _).alloc _)).mono ?_; rintro e W3 ⟨rfl, hx⟩; obtain ⟨h4, h5, h6⟩ := two_new hx; have h1 := heap_ext HX2.out h6; have HE3 := Lib.hid (HE2.out.trans h6); have HX3 := Lib.hid h1; clear hx q1 q2 l1 l2; unfold Ex.arr at h1; have q1 := fun j => cell_of_row W3 _ j _ _ _ h1; have q2 := fun j => cell_of_row W3 _ j _ _ _ h5; have l1 : w.heap.size < W3.heap.size := (Array.getElem?_eq_some_iff.1 h1).1; have l2 : W2.heap.size + 1 < W3.heap.size := (Array.getElem?_eq_some_iff.1 h5).1; clear h1 h4 h5 h6 HP0))
  go_ret
  exact ⟨rfl, HE3.out⟩

set_option maxRecDepth 100000 in
set_option maxHeartbeats 3200000 in
theorem can4_1tt (x : Ex) (v : Value) (c : Int) (t : ByteArray) (b : Bool) (w : World) (HLC : Hid (∀ w, Calls Try.prog 8 #[.agg #[.int .i64 4, .int .i64 1, .int .u64 c, .string t, .bool b]] w fun e w' => e = .returned (.int .i64 0) ∧ Ext w w')) (hc' : (c != x.c) = false) (HCo : Hid (∀ w', Ext w w' → Calls Try.prog 20 #[v, .agg #[.int .i64 4, .int .i64 1, .int .u64 c, .string t, .bool b]] w' fun e w'' => e = .returned (.bool false) ∧ Ext w' w'')) (HB : Hid (x.b1 = true)) (hp0 : ∀ w', Ext w w' → Calls Try.prog 16 #[.agg (x.arr v), .agg #[.int .i64 1, .int .i64 0, .int .u64 c, .string t, .bool b]] w' fun e w'' => e = .returned (.bool true) ∧ Ext w' w'') (p1 : Bool) (hp1 : ∀ w', Ext w w' → Calls Try.prog 16 #[.agg (x.arr v), .agg #[.int .i64 1, .int .i64 1, .int .u64 c, .string t, .bool b]] w' fun e w'' => e = .returned (.bool p1) ∧ Ext w' w'') :
    Calls Try.prog 16 #[.agg (x.arr v), .agg #[.int .i64 4, .int .i64 1, .int .u64 c, .string t, .bool b]] w fun e w' => e = .returned (.bool p1) ∧ Ext w w' := by
  have HP0 := Lib.hid hp0
  clear hp0
  have HP1 := Lib.hid hp1
  clear hp1
  unfold Ex.arr
  go_enter Try.func16, Try.ntmps16
  go_wp2_with (first | (go_at_call 8; refine (HLC.out _).mono ?_; rintro e W1 ⟨rfl, hx⟩; obtain ⟨h1, h2, h3⟩ := ca_open (x := x) (v := v) (l := ⟨4, 1, c, t, b⟩) hx; clear hx; have HX := Lib.hid h1; have HLt := Lib.hid h2; have HE := Lib.hid h3; unfold Ex.arr at h1; have q1 := fun j => cell_of_row W1 _ j _ _ _ h1; have q2 := fun j => cell_of_row W1 _ j _ _ _ h2; have l1 : w.heap.size < W1.heap.size := (Array.getElem?_eq_some_iff.1 h1).1; have l2 : w.heap.size + 1 < W1.heap.size := (Array.getElem?_eq_some_iff.1 h2).1; clear h1 h2 h3; have hbb := HB.out) | (go_at_call 20; refine (HCo.out _ HE.out).mono ?_; rintro e W2 ⟨rfl, hx⟩; clear q1 q2 l1 l2; have h1 := heap_ext HX.out hx; have h2 := HLt.out.ext hx; have HE2 := Lib.hid (HE.out.trans hx); have HX2 := Lib.hid h1; clear hx; unfold Ex.arr at h1; have q1 := fun j => cell_of_row W2 _ j _ _ _ h1; have q2 := fun j => cell_of_row W2 _ j _ _ _ h2; have l1 : w.heap.size < W2.heap.size := (Array.getElem?_eq_some_iff.1 h1).1; have l2 : w.heap.size + 1 < W2.heap.size := (Array.getElem?_eq_some_iff.1 h2).1; clear h1 h2) | (refine wpList_load_rowG rfl 33 _ rfl _ rfl _ _ (0, 0) _ HX3.out Try.underlying33 rfl info_ex ?_) | (refine wpList_load_rowG rfl 33 _ rfl _ rfl _ _ (0, 0) _ (heap_ext HX2.out (((Ext.refl _).alloc _).alloc _)) Try.underlying33 rfl info_ex ?_) | (go_at_call 16; refine (HP0.out _ ((HE2.out.alloc _).alloc _)).mono ?_; rintro e W3 ⟨rfl, hx⟩; obtain ⟨h4, h5, h6⟩ := two_new hx; have h1 := heap_ext HX2.out h6; have HE3 := Lib.hid (HE2.out.trans h6); have HX3 := Lib.hid h1; clear hx q1 q2 l1 l2; unfold Ex.arr at h1; have q1 := fun j => cell_of_row W3 _ j _ _ _ h1; have q2 := fun j => cell_of_row W3 _ j _ _ _ h5; have l1 : w.heap.size < W3.heap.size := (Array.getElem?_eq_some_iff.1 h1).1; have l2 : W2.heap.size + 1 < W3.heap.size := (Array.getElem?_eq_some_iff.1 h5).1; clear h1 h4 h5 h6 HP0) | (go_at_call 16; refine (HP1.out _ HE3.out).mono ?_; rintro e w1 ⟨rfl, hx⟩; obtain ⟨x4, rfl⟩ := ext_of hx; clear hx))
  go_ret
  exact ⟨rfl, HE3.out.val x4⟩

set_option maxRecDepth 100000 in
set_option maxHeartbeats 3200000 in
theorem mo_canX (x : Ex) (v : Value) (l : Lt) (w : World) (hR : Hrd w x v) (hP : l.k = 4 → ∀ n, n = 0 ∨ n = 1 → ∀ w', Ext w w' → Calls Try.prog 16 #[.agg (x.arr v), .agg #[.int .i64 1, .int .i64 n, .int .u64 l.c, .string l.t, .bool l.b]] w' fun e w'' => e = .returned (.bool (canP x ⟨1, n, l.c, l.t, l.b⟩)) ∧ Ext w' w'') :
    Calls Try.prog 16 #[.agg (x.arr v), .agg #[.int .i64 l.k, .int .i64 l.f, .int .u64 l.c, .string l.t, .bool l.b]] w fun e w' => e = .returned (.bool (canS x l)) ∧ Ext w w' := by
  have key : ∀ b : Bool, canS x l = b → Hid (canS x l = b) := fun _ h => Lib.hid h
  have HR := Lib.hid hR
  clear hR
  have hlc := le_check l
  have hwi := fun W1 (h1 : W1.heap[w.heap.size]? = some (.cells (x.arr v) 33 (0, 0))) (h2 : LtAt W1 (w.heap.size + 1) l) (h3 : Ext w W1) => ca_wished v x.h l w.heap.size (w.heap.size + 1) W1 (by rw [cell_of_row _ _ _ _ _ _ h1]; rfl) (Row.ext HR.out h3) h2
  have HWi := Lib.hid hwi
  have hco := fun w' (hw : Ext w w') => sl_contains v x.h l w' (Row.ext HR.out hw)
  clear hwi
  obtain ⟨k, f, c, t, b⟩ := l
  simp only at hlc hco hP ⊢
  by_cases h0 : lchk ⟨k, f, c, t, b⟩ = 0
  case neg =>
    have hK := key false (by unfold canS; rw [if_pos (.inl h0)])
    have h0' : (lchk ⟨k, f, c, t, b⟩ != 0) = true := by simpa using h0
    have HLC := Lib.hid hlc
    clear h0 hlc hco hP
    unfold Ex.arr
    go_enter Try.func16, Try.ntmps16
    go_wp2_with (go_at_call 8; refine (HLC.out _).mono ?_; rintro e W1 ⟨rfl, hx⟩; obtain ⟨h1, h2, h3⟩ := ca_open (x := x) (v := v) (l := ⟨k, f, c, t, b⟩) hx; clear hx; have HX := Lib.hid h1; have HLt := Lib.hid h2; have HE := Lib.hid h3; unfold Ex.arr at h1; have q1 := fun j => cell_of_row W1 _ j _ _ _ h1; have q2 := fun j => cell_of_row W1 _ j _ _ _ h2; have l1 : w.heap.size < W1.heap.size := (Array.getElem?_eq_some_iff.1 h1).1; have l2 : w.heap.size + 1 < W1.heap.size := (Array.getElem?_eq_some_iff.1 h2).1; clear h1 h2 h3)
    go_ret
    exact ⟨by rw [hK.out]; rfl, HE.out⟩
  rw [h0] at hlc
  have HLC := Lib.hid hlc
  clear hlc
  by_cases hc : c = x.c
  case neg =>
    have hK := key false (by unfold canS; rw [if_pos (.inr hc)])
    have hc' : (c != x.c) = true := by simpa using hc
    clear h0 hc hco hP
    unfold Ex.arr
    go_enter Try.func16, Try.ntmps16
    go_wp2_with (go_at_call 8; refine (HLC.out _).mono ?_; rintro e W1 ⟨rfl, hx⟩; obtain ⟨h1, h2, h3⟩ := ca_open (x := x) (v := v) (l := ⟨k, f, c, t, b⟩) hx; clear hx; have HX := Lib.hid h1; have HLt := Lib.hid h2; have HE := Lib.hid h3; unfold Ex.arr at h1; have q1 := fun j => cell_of_row W1 _ j _ _ _ h1; have q2 := fun j => cell_of_row W1 _ j _ _ _ h2; have l1 : w.heap.size < W1.heap.size := (Array.getElem?_eq_some_iff.1 h1).1; have l2 : w.heap.size + 1 < W1.heap.size := (Array.getElem?_eq_some_iff.1 h2).1; clear h1 h2 h3)
    go_ret
    exact ⟨by rw [hK.out]; rfl, HE.out⟩
  have hc' : (c != x.c) = false := by simpa using hc
  have hno : ¬ (lchk ⟨k, f, c, t, b⟩ ≠ 0 ∨ (⟨k, f, c, t, b⟩ : Lt).c ≠ x.c) := by
    rintro (h | h)
    · exact h h0
    · exact h hc
  have hsz := lchk_size h0
  clear h0 hc
  by_cases hm : (⟨k, f, c, t, b⟩ : Lt) ∈ x.h
  · have hK := key true (by unfold canS; rw [if_neg hno, if_pos hm])
    rw [decide_eq_true hm] at hco
    have HCo := Lib.hid hco
    clear hco hno hm hsz hP
    unfold Ex.arr
    go_enter Try.func16, Try.ntmps16
    go_wp2_with (first | (go_at_call 8; refine (HLC.out _).mono ?_; rintro e W1 ⟨rfl, hx⟩; obtain ⟨h1, h2, h3⟩ := ca_open (x := x) (v := v) (l := ⟨k, f, c, t, b⟩) hx; clear hx; have HX := Lib.hid h1; have HLt := Lib.hid h2; have HE := Lib.hid h3; unfold Ex.arr at h1; have q1 := fun j => cell_of_row W1 _ j _ _ _ h1; have q2 := fun j => cell_of_row W1 _ j _ _ _ h2; have l1 : w.heap.size < W1.heap.size := (Array.getElem?_eq_some_iff.1 h1).1; have l2 : w.heap.size + 1 < W1.heap.size := (Array.getElem?_eq_some_iff.1 h2).1; clear h1 h2 h3) | (go_at_call 20; refine (HCo.out _ HE.out).mono ?_; rintro e w1 ⟨rfl, hx⟩; obtain ⟨x2, rfl⟩ := ext_of hx; clear hx))
    go_ret
    exact ⟨by rw [hK.out]; rfl, HE.out.val x2⟩
  rw [decide_eq_false hm] at hco
  have HCo := Lib.hid hco
  have key2 : canS x ⟨k, f, c, t, b⟩ = (if k = 1 then x.bad (if b = true then 1 - f else f) || wishS x.h ⟨k, f, c, t, b⟩ else if k = 2 then x.bad f else if k = 3 then x.b0 else if k = 4 then x.bad f && (canP x ⟨1, 0, c, t, b⟩ && canP x ⟨1, 1, c, t, b⟩) else decide (k = 7)) := by unfold canS; rw [if_neg hno, if_neg hm]
  rw [key2]
  clear hco hno hm key2 key
  simp only at hsz
  obtain ⟨_, hf, hk1, hk7, _⟩ := hsz
  obtain rfl | rfl | rfl | rfl | hk : k = 1 ∨ k = 2 ∨ k = 3 ∨ k = 4 ∨ (k = 5 ∨ k = 6 ∨ k = 7) := by omega
  · rcases hf with rfl | rfl
    · cases b
      · exact can1_0false x v c t w HLC hc' HCo _ HWi
      · exact can1_0true x v c t w HLC hc' HCo _ HWi
    · cases b
      · exact can1_1false x v c t w HLC hc' HCo _ HWi
      · exact can1_1true x v c t w HLC hc' HCo _ HWi
  · rcases hf with rfl | rfl
    · exact can2_0 x v c t b w HLC hc' HCo
    · exact can2_1 x v c t b w HLC hc' HCo
  · exact can3 x v f c t b w HLC hc' HCo
  · have hp0 := hP rfl 0 (.inl rfl)
    have hp1 := hP rfl 1 (.inr rfl)
    generalize canP x ⟨1, 0, c, t, b⟩ = p0 at hp0 ⊢
    generalize canP x ⟨1, 1, c, t, b⟩ = p1 at hp1 ⊢
    rcases hf with rfl | rfl
    · show Calls Try.prog 16 _ w fun e w' => e = .returned (.bool (x.b0 && (p0 && p1))) ∧ Ext w w'
      rcases hbb : x.b0
      · exact can4_0f x v c t b w HLC hc' HCo (Lib.hid hbb)
      · cases p0
        · exact can4_0tf x v c t b w HLC hc' HCo (Lib.hid hbb) hp0
        · exact can4_0tt x v c t b w HLC hc' HCo (Lib.hid hbb) hp0 p1 hp1
    · show Calls Try.prog 16 _ w fun e w' => e = .returned (.bool (x.b1 && (p0 && p1))) ∧ Ext w w'
      rcases hbb : x.b1
      · exact can4_1f x v c t b w HLC hc' HCo (Lib.hid hbb)
      · cases p0
        · exact can4_1tf x v c t b w HLC hc' HCo (Lib.hid hbb) hp0
        · exact can4_1tt x v c t b w HLC hc' HCo (Lib.hid hbb) hp0 p1 hp1
  · rcases hk with rfl | rfl | rfl
    · exact can5 x v f c t b w HLC hc' HCo
    · exact can6 x v f c t b w HLC hc' HCo
    · exact can7 x v f c t b w HLC hc' HCo

theorem canS_P (x : Ex) (l : Lt) (h : l.k = 1) : canS x l = canP x l := by unfold canS canP; rw [if_pos h]

/-- Can a letter be said? -/
theorem mo_can (x : Ex) (v : Value) (l : Lt) (w : World) (hR : Hrd w x v) :
    Calls Try.prog 16 #[.agg (x.arr v), .agg #[.int .i64 l.k, .int .i64 l.f, .int .u64 l.c, .string l.t, .bool l.b]] w fun e w' => e = .returned (.bool (canS x l)) ∧ Ext w w' := by
  refine mo_canX x v l w hR fun _ n hn w' hw => ?_
  have := mo_canX x v ⟨1, n, l.c, l.t, l.b⟩ w' (hR.ext hw) fun h => absurd (show (1 : Int) = 4 from h) (by decide)
  rw [canS_P _ _ rfl] at this
  exact this
end Go.Proofs.Ytfibbhmmiemcoaa
