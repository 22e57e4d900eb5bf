/-
  Walk: 'live' of the originator's statements. No condition.
-/
import Derived.Test.YtnfehccnofhmnaaW8
namespace Go.Proofs.Ytnfehccnofhmnaa
open Go.RowKit
attribute [local go_sem ↓] eql_lEq eql_sEq eql_eEq eql_oEq neq_lEq neq_sEq neq_eEq neq_oEq
attribute [local go_sem] ExtOf.cell ExtOf.frozen ExtOf.lt ExtOf.le
attribute [local go_sem high] ExtOf.cell2 ExtOf.frozen2 ExtOf.lt2 ExtOf.cell3 ExtOf.frozen3 ExtOf.lt3 ExtOf.cellB ExtOf.frozenB ExtOf.cellX ExtOf.frozenX ExtOf.cellX' ExtOf.frozenX'
attribute [local go_sem] BelOf.cell BelOf.frozen BelOf.lt

/-- A step that sends one letter. -/
theorem or_step1 (r c : Int) (t : ByteArray) (ph k f c2 : Int) (t2 : ByteArray) (fk : Bool) (ek ec : Int) (et : ByteArray) (lk lf lc : Int) (lt : ByteArray) (lb : Bool) (w : World) (T : St) (o : Ou) (h : stepS ⟨r, c, t, ph, ⟨k, f, c2, t2, fk⟩⟩ ⟨ek, ec, et, ⟨lk, lf, lc, lt, lb⟩⟩ = (T, [o])) :
    Calls Try.prog 10 #[.agg #[.int .i64 r, .int .u64 c, .string t, .int .i64 ph, .int .i64 k, .int .i64 f, .int .u64 c2, .string t2, .bool fk], .agg #[.int .i64 ek, .int .u64 ec, .string et, .int .i64 lk, .int .i64 lf, .int .u64 lc, .string lt, .bool lb]] w fun e w' => ∃ g cap, e = .returned (.tuple #[.agg #[.int .i64 T.r, .int .u64 T.c, .string T.t, .int .i64 T.ph, .int .i64 T.p.k, .int .i64 T.p.f, .int .u64 T.p.c, .string T.p.t, .bool T.p.b], .slice (some ⟨g, 0, none⟩) 1 cap]) ∧ g < w'.heap.size ∧
      w'.cell? ⟨g, 0, none⟩ = some (.int .i64 o.to) ∧ w'.cell? ⟨g, 1, none⟩ = some (.int .i64 o.l.k) ∧ Ext w w' :=
  (or_step r c t ph k f c2 t2 fk ek ec et lk lf lc lt lb w).mono fun e w' ⟨v, he, hv, hx⟩ => by
    rw [h] at he hv
    obtain ⟨a, cap, rfl, _, hvw⟩ := own_view hv
    obtain ⟨g, rfl, _, hg, hc⟩ := hvw (by simp)
    exact ⟨g, cap, he, hg, hc 0 _ rfl, hc 1 _ rfl, hx⟩
/-- A step that sends nothing. -/
theorem or_stepN (r c : Int) (t : ByteArray) (ph k f c2 : Int) (t2 : ByteArray) (fk : Bool) (ek ec : Int) (et : ByteArray) (lk lf lc : Int) (lt : ByteArray) (lb : Bool) (w : World) (T : St) (h : stepS ⟨r, c, t, ph, ⟨k, f, c2, t2, fk⟩⟩ ⟨ek, ec, et, ⟨lk, lf, lc, lt, lb⟩⟩ = (T, [])) :
    Calls Try.prog 10 #[.agg #[.int .i64 r, .int .u64 c, .string t, .int .i64 ph, .int .i64 k, .int .i64 f, .int .u64 c2, .string t2, .bool fk], .agg #[.int .i64 ek, .int .u64 ec, .string et, .int .i64 lk, .int .i64 lf, .int .u64 lc, .string lt, .bool lb]] w fun e w' => ∃ a cap, e = .returned (.tuple #[.agg #[.int .i64 T.r, .int .u64 T.c, .string T.t, .int .i64 T.ph, .int .i64 T.p.k, .int .i64 T.p.f, .int .u64 T.p.c, .string T.p.t, .bool T.p.b], .slice a 0 cap]) ∧ Ext w w' :=
  (or_step r c t ph k f c2 t2 fk ek ec et lk lf lc lt lb w).mono fun e w' ⟨v, he, hv, hx⟩ => by
    rw [h] at he hv
    obtain ⟨a, cap, rfl, _, _⟩ := own_view hv
    exact ⟨a, cap, he, hx⟩
/-- A slice's length, as a literal. -/
theorem made_len {w w' : World} {e size n m : Nat} {xs : List Value} {en : Ending} (h : Made w e size n xs en w') (hm : n = m) : ∃ a cap, en = .returned (.slice a m cap) ∧ Ext w w' := by
  obtain ⟨v, he, hv, hx⟩ := h
  obtain ⟨a, cap, rfl, _, _⟩ := own_view hv
  subst hm
  exact ⟨a, cap, he, hx⟩
theorem live_0 : stepS ⟨0, 7, { data := #[] }, 0, ⟨0, 0, 0, { data := #[] }, false⟩⟩ ⟨1, 7, { data := #[120] }, ⟨0, 0, 0, { data := #[] }, false⟩⟩ = (⟨0, 7, { data := #[120] }, 2, ⟨0, 0, 0, { data := #[] }, false⟩⟩, [⟨1, ⟨1, 0, 7, { data := #[120] }, false⟩⟩]) := by kernel_rfl
theorem live_1 : stepS ⟨0, 7, { data := #[120] }, 2, ⟨0, 0, 0, { data := #[] }, false⟩⟩ ⟨2, 0, { data := #[] }, ⟨1, 1, 7, { data := #[120] }, false⟩⟩ = (⟨0, 7, { data := #[120] }, 3, ⟨0, 0, 0, { data := #[] }, false⟩⟩, [⟨1, ⟨2, 0, 7, { data := #[120] }, false⟩⟩]) := by kernel_rfl
theorem live_2 : stepS ⟨0, 7, { data := #[120] }, 3, ⟨0, 0, 0, { data := #[] }, false⟩⟩ ⟨2, 0, { data := #[] }, ⟨2, 1, 7, { data := #[120] }, false⟩⟩ = (⟨0, 7, { data := #[120] }, 6, ⟨2, 1, 7, { data := #[120] }, false⟩⟩, []) := by kernel_rfl
theorem live_3 : stepS ⟨0, 7, { data := #[120] }, 2, ⟨0, 0, 0, { data := #[] }, false⟩⟩ ⟨3, 7, { data := #[] }, ⟨0, 0, 0, { data := #[] }, false⟩⟩ = (⟨0, 7, { data := #[120] }, 4, ⟨0, 0, 0, { data := #[] }, false⟩⟩, [⟨2, ⟨3, 0, 7, { data := #[] }, false⟩⟩]) := by kernel_rfl
theorem live_4 : stepS ⟨0, 7, { data := #[120] }, 4, ⟨0, 0, 0, { data := #[] }, false⟩⟩ ⟨2, 0, { data := #[] }, ⟨5, 0, 7, { data := #[] }, false⟩⟩ = (⟨0, 7, { data := #[120] }, 7, ⟨0, 0, 0, { data := #[] }, false⟩⟩, []) := by kernel_rfl

theorem live_c : chk 0 7 { data := #[120] } 6 2 1 7 { data := #[120] } false = true := by kernel_rfl
theorem live_f1 : finS ⟨0, 7, { data := #[120] }, 7, ⟨0, 0, 0, { data := #[] }, false⟩⟩ = true := by kernel_rfl
theorem live_f2 : finS ⟨0, 7, { data := #[120] }, 4, ⟨0, 0, 0, { data := #[] }, false⟩⟩ = false := by kernel_rfl
theorem live_w : waitS ⟨0, 7, { data := #[120] }, 4, ⟨0, 0, 0, { data := #[] }, false⟩⟩ = true := by kernel_rfl
theorem live_e : (evsS ⟨0, 7, { data := #[120] }, 2, ⟨0, 0, 0, { data := #[] }, false⟩⟩).length = 2 := by kernel_rfl
theorem live_n : (nextS ⟨0, 7, { data := #[120] }, 3, ⟨0, 0, 0, { data := #[] }, false⟩⟩ (evsS ⟨0, 7, { data := #[120] }, 3, ⟨0, 0, 0, { data := #[] }, false⟩⟩)).length = 2 := by kernel_rfl

theorem cell_keep {w w' : World} {a : Addr} {v : Value} (h : w.cell? a = some v) (e : Ext w w') : w'.cell? a = some v := by
  rw [Below.cell e (World.block_lt_of_cell? w _ h)]; exact h

set_option maxHeartbeats 1600000 in
theorem live_any (w : World) : Calls Try.prog 9 #[] w fun e w' => e = .returned (.bool true) ∧ Ext w w' := by
  go_enter Try.func9, Try.ntmps9
  go_wp2_with fail
  refine (or_new _ _).mono ?_
  rintro e w0 ⟨rfl, hx0⟩
  have HX := Lib.hid hx0
  clear hx0
  go_wp2_with fail
  refine (or_step1 _ _ _ _ _ _ _ _ _ _ _ _ _ _ _ _ _ _ ⟨0, 7, { data := #[120] }, 2, ⟨0, 0, 0, { data := #[] }, false⟩⟩ ⟨1, ⟨1, 0, 7, { data := #[120] }, false⟩⟩ live_0).mono ?_
  rintro e w1 ⟨g0, cap0, rfl, -, hp0, hq0, hx⟩
  have hy : Ext w0 w1 := hx
  have HX0 := Lib.hid (HX.out.trans hy)
  clear HX
  have pS0_0 := Lib.hid hp0
  have qS0_0 := Lib.hid hq0
  clear hp0 hq0
  clear hx hy
  go_wp2_with fail
  refine (or_step1 _ _ _ _ _ _ _ _ _ _ _ _ _ _ _ _ _ _ ⟨0, 7, { data := #[120] }, 3, ⟨0, 0, 0, { data := #[] }, false⟩⟩ ⟨1, ⟨2, 0, 7, { data := #[120] }, false⟩⟩ live_1).mono ?_
  rintro e w2 ⟨g1, cap1, rfl, -, hp1, hq1, hx⟩
  have hy : Ext w1 w2 := ((Ext.refl _).alloc _).trans hx
  have HX1 := Lib.hid (HX0.out.trans hy)
  clear HX0
  have B1_1 := Lib.hid (heap_ext (heap_new (w := w1) rfl) hx)
  have pS0_1 := Lib.hid (cell_keep pS0_0.out hy)
  have qS0_1 := Lib.hid (cell_keep qS0_0.out hy)
  clear pS0_0 qS0_0
  have pS1_1 := Lib.hid hp1
  have qS1_1 := Lib.hid hq1
  clear hp1 hq1
  have cB1_1 := fun j => cell_of_row w2 _ j _ _ _ B1_1.out
  have lB1_1 : w1.heap.size < w2.heap.size := (Array.getElem?_eq_some_iff.1 B1_1.out).1
  clear hx hy
  go_wp2_with fail
  refine (or_stepN _ _ _ _ _ _ _ _ _ _ _ _ _ _ _ _ _ _ ⟨0, 7, { data := #[120] }, 6, ⟨2, 1, 7, { data := #[120] }, false⟩⟩ live_2).mono ?_
  rintro e w3 ⟨a2, cap2, rfl, hx⟩
  have hy : Ext w2 w3 := ((Ext.refl _).alloc _).trans hx
  have HX2 := Lib.hid (HX1.out.trans hy)
  clear HX1
  have B1_2 := Lib.hid (heap_ext B1_1.out hy)
  clear B1_1 cB1_1 lB1_1
  have B2_2 := Lib.hid (heap_ext (heap_new (w := w2) rfl) hx)
  have pS0_2 := Lib.hid (cell_keep pS0_1.out hy)
  have qS0_2 := Lib.hid (cell_keep qS0_1.out hy)
  clear pS0_1 qS0_1
  have pS1_2 := Lib.hid (cell_keep pS1_1.out hy)
  have qS1_2 := Lib.hid (cell_keep qS1_1.out hy)
  clear pS1_1 qS1_1
  have cB1_2 := fun j => cell_of_row w3 _ j _ _ _ B1_2.out
  have lB1_2 : w1.heap.size < w3.heap.size := (Array.getElem?_eq_some_iff.1 B1_2.out).1
  have cB2_2 := fun j => cell_of_row w3 _ j _ _ _ B2_2.out
  have lB2_2 : w2.heap.size < w3.heap.size := (Array.getElem?_eq_some_iff.1 B2_2.out).1
  clear hx hy
  go_wp2_with fail
  refine (or_step1 _ _ _ _ _ _ _ _ _ _ _ _ _ _ _ _ _ _ ⟨0, 7, { data := #[120] }, 4, ⟨0, 0, 0, { data := #[] }, false⟩⟩ ⟨2, ⟨3, 0, 7, { data := #[] }, false⟩⟩ live_3).mono ?_
  rintro e w4 ⟨g3, cap3, rfl, -, hp3, hq3, hx⟩
  have hy : Ext w3 w4 := ((Ext.refl _).alloc _).trans hx
  have HX3 := Lib.hid (HX2.out.trans hy)
  clear HX2
  have B1_3 := Lib.hid (heap_ext B1_2.out hy)
  clear B1_2 cB1_2 lB1_2
  have B2_3 := Lib.hid (heap_ext B2_2.out hy)
  clear B2_2 cB2_2 lB2_2
  have B3_3 := Lib.hid (heap_ext (heap_new (w := w3) rfl) hx)
  have pS0_3 := Lib.hid (cell_keep pS0_2.out hy)
  have qS0_3 := Lib.hid (cell_keep qS0_2.out hy)
  clear pS0_2 qS0_2
  have pS1_3 := Lib.hid (cell_keep pS1_2.out hy)
  have qS1_3 := Lib.hid (cell_keep qS1_2.out hy)
  clear pS1_2 qS1_2
  have pS3_3 := Lib.hid hp3
  have qS3_3 := Lib.hid hq3
  clear hp3 hq3
  have cB1_3 := fun j => cell_of_row w4 _ j _ _ _ B1_3.out
  have lB1_3 : w1.heap.size < w4.heap.size := (Array.getElem?_eq_some_iff.1 B1_3.out).1
  have cB2_3 := fun j => cell_of_row w4 _ j _ _ _ B2_3.out
  have lB2_3 : w2.heap.size < w4.heap.size := (Array.getElem?_eq_some_iff.1 B2_3.out).1
  have cB3_3 := fun j => cell_of_row w4 _ j _ _ _ B3_3.out
  have lB3_3 : w3.heap.size < w4.heap.size := (Array.getElem?_eq_some_iff.1 B3_3.out).1
  clear hx hy
  go_wp2_with fail
  refine (or_stepN _ _ _ _ _ _ _ _ _ _ _ _ _ _ _ _ _ _ ⟨0, 7, { data := #[120] }, 7, ⟨0, 0, 0, { data := #[] }, false⟩⟩ live_4).mono ?_
  rintro e w5 ⟨a4, cap4, rfl, hx⟩
  have hy : Ext w4 w5 := ((Ext.refl _).alloc _).trans hx
  have HX4 := Lib.hid (HX3.out.trans hy)
  clear HX3
  have B1_4 := Lib.hid (heap_ext B1_3.out hy)
  clear B1_3 cB1_3 lB1_3
  have B2_4 := Lib.hid (heap_ext B2_3.out hy)
  clear B2_3 cB2_3 lB2_3
  have B3_4 := Lib.hid (heap_ext B3_3.out hy)
  clear B3_3 cB3_3 lB3_3
  have B4_4 := Lib.hid (heap_ext (heap_new (w := w4) rfl) hx)
  have pS0_4 := Lib.hid (cell_keep pS0_3.out hy)
  have qS0_4 := Lib.hid (cell_keep qS0_3.out hy)
  clear pS0_3 qS0_3
  have pS1_4 := Lib.hid (cell_keep pS1_3.out hy)
  have qS1_4 := Lib.hid (cell_keep qS1_3.out hy)
  clear pS1_3 qS1_3
  have pS3_4 := Lib.hid (cell_keep pS3_3.out hy)
  have qS3_4 := Lib.hid (cell_keep qS3_3.out hy)
  clear pS3_3 qS3_3
  have cB1_4 := fun j => cell_of_row w5 _ j _ _ _ B1_4.out
  have lB1_4 : w1.heap.size < w5.heap.size := (Array.getElem?_eq_some_iff.1 B1_4.out).1
  have cB2_4 := fun j => cell_of_row w5 _ j _ _ _ B2_4.out
  have lB2_4 : w2.heap.size < w5.heap.size := (Array.getElem?_eq_some_iff.1 B2_4.out).1
  have cB3_4 := fun j => cell_of_row w5 _ j _ _ _ B3_4.out
  have lB3_4 : w3.heap.size < w5.heap.size := (Array.getElem?_eq_some_iff.1 B3_4.out).1
  have cB4_4 := fun j => cell_of_row w5 _ j _ _ _ B4_4.out
  have lB4_4 : w4.heap.size < w5.heap.size := (Array.getElem?_eq_some_iff.1 B4_4.out).1
  clear hx hy
  have oS0_4 := pS0_4.out
  have kS0_4 := qS0_4.out
  have tS0_4 : g0 < w5.heap.size := World.block_lt_of_cell? _ _ oS0_4
  have oS1_4 := pS1_4.out
  have kS1_4 := qS1_4.out
  have tS1_4 : g1 < w5.heap.size := World.block_lt_of_cell? _ _ oS1_4
  have oS3_4 := pS3_4.out
  have kS3_4 := qS3_4.out
  have tS3_4 : g3 < w5.heap.size := World.block_lt_of_cell? _ _ oS3_4
  go_wp2_with fail
  refine (or_check _ _ _ _ _ _ _ _ _ _).mono ?_
  rintro e v0 ⟨rfl, hx⟩
  rw [live_c]
  have hy : Ext w5 v0 := ((Ext.refl _).alloc _).trans hx
  have HY0 := Lib.hid (HX4.out.trans hy)
  clear HX4
  have B1_v0 := Lib.hid (heap_ext B1_4.out hy)
  clear B1_4 cB1_4 lB1_4
  have B2_v0 := Lib.hid (heap_ext B2_4.out hy)
  clear B2_4 cB2_4 lB2_4
  have B3_v0 := Lib.hid (heap_ext B3_4.out hy)
  clear B3_4 cB3_4 lB3_4
  have B4_v0 := Lib.hid (heap_ext B4_4.out hy)
  clear B4_4 cB4_4 lB4_4
  have B5_v0 := Lib.hid (heap_ext (heap_new (w := w5) rfl) hx)
  clear oS0_4 kS0_4 tS0_4
  clear oS1_4 kS1_4 tS1_4
  clear oS3_4 kS3_4 tS3_4
  have cB1_v0 := fun j => cell_of_row v0 _ j _ _ _ B1_v0.out
  have lB1_v0 : w1.heap.size < v0.heap.size := (Array.getElem?_eq_some_iff.1 B1_v0.out).1
  have cB2_v0 := fun j => cell_of_row v0 _ j _ _ _ B2_v0.out
  have lB2_v0 : w2.heap.size < v0.heap.size := (Array.getElem?_eq_some_iff.1 B2_v0.out).1
  have cB3_v0 := fun j => cell_of_row v0 _ j _ _ _ B3_v0.out
  have lB3_v0 : w3.heap.size < v0.heap.size := (Array.getElem?_eq_some_iff.1 B3_v0.out).1
  have cB4_v0 := fun j => cell_of_row v0 _ j _ _ _ B4_v0.out
  have lB4_v0 : w4.heap.size < v0.heap.size := (Array.getElem?_eq_some_iff.1 B4_v0.out).1
  have cB5_v0 := fun j => cell_of_row v0 _ j _ _ _ B5_v0.out
  have lB5_v0 : w5.heap.size < v0.heap.size := (Array.getElem?_eq_some_iff.1 B5_v0.out).1
  clear hx hy
  go_wp2_with fail
  refine (or_final _ _ _ _ _ _ _ _ _ _).mono ?_
  rintro e v1 ⟨rfl, hx⟩
  rw [live_f1]
  have hy : Ext v0 v1 := hx
  have HY1 := Lib.hid (HY0.out.trans hy)
  clear HY0
  have B1_v1 := Lib.hid (heap_ext B1_v0.out hy)
  clear B1_v0 cB1_v0 lB1_v0
  have B2_v1 := Lib.hid (heap_ext B2_v0.out hy)
  clear B2_v0 cB2_v0 lB2_v0
  have B3_v1 := Lib.hid (heap_ext B3_v0.out hy)
  clear B3_v0 cB3_v0 lB3_v0
  have B4_v1 := Lib.hid (heap_ext B4_v0.out hy)
  clear B4_v0 cB4_v0 lB4_v0
  have B5_v1 := Lib.hid (heap_ext B5_v0.out hy)
  clear B5_v0 cB5_v0 lB5_v0
  have cB1_v1 := fun j => cell_of_row v1 _ j _ _ _ B1_v1.out
  have lB1_v1 : w1.heap.size < v1.heap.size := (Array.getElem?_eq_some_iff.1 B1_v1.out).1
  have cB2_v1 := fun j => cell_of_row v1 _ j _ _ _ B2_v1.out
  have lB2_v1 : w2.heap.size < v1.heap.size := (Array.getElem?_eq_some_iff.1 B2_v1.out).1
  have cB3_v1 := fun j => cell_of_row v1 _ j _ _ _ B3_v1.out
  have lB3_v1 : w3.heap.size < v1.heap.size := (Array.getElem?_eq_some_iff.1 B3_v1.out).1
  have cB4_v1 := fun j => cell_of_row v1 _ j _ _ _ B4_v1.out
  have lB4_v1 : w4.heap.size < v1.heap.size := (Array.getElem?_eq_some_iff.1 B4_v1.out).1
  have cB5_v1 := fun j => cell_of_row v1 _ j _ _ _ B5_v1.out
  have lB5_v1 : w5.heap.size < v1.heap.size := (Array.getElem?_eq_some_iff.1 B5_v1.out).1
  clear hx hy
  go_wp2_with fail
  refine (or_final _ _ _ _ _ _ _ _ _ _).mono ?_
  rintro e v2 ⟨rfl, hx⟩
  rw [live_f2]
  have hy : Ext v1 v2 := hx
  have HY2 := Lib.hid (HY1.out.trans hy)
  clear HY1
  have B1_v2 := Lib.hid (heap_ext B1_v1.out hy)
  clear B1_v1 cB1_v1 lB1_v1
  have B2_v2 := Lib.hid (heap_ext B2_v1.out hy)
  clear B2_v1 cB2_v1 lB2_v1
  have B3_v2 := Lib.hid (heap_ext B3_v1.out hy)
  clear B3_v1 cB3_v1 lB3_v1
  have B4_v2 := Lib.hid (heap_ext B4_v1.out hy)
  clear B4_v1 cB4_v1 lB4_v1
  have B5_v2 := Lib.hid (heap_ext B5_v1.out hy)
  clear B5_v1 cB5_v1 lB5_v1
  have cB1_v2 := fun j => cell_of_row v2 _ j _ _ _ B1_v2.out
  have lB1_v2 : w1.heap.size < v2.heap.size := (Array.getElem?_eq_some_iff.1 B1_v2.out).1
  have cB2_v2 := fun j => cell_of_row v2 _ j _ _ _ B2_v2.out
  have lB2_v2 : w2.heap.size < v2.heap.size := (Array.getElem?_eq_some_iff.1 B2_v2.out).1
  have cB3_v2 := fun j => cell_of_row v2 _ j _ _ _ B3_v2.out
  have lB3_v2 : w3.heap.size < v2.heap.size := (Array.getElem?_eq_some_iff.1 B3_v2.out).1
  have cB4_v2 := fun j => cell_of_row v2 _ j _ _ _ B4_v2.out
  have lB4_v2 : w4.heap.size < v2.heap.size := (Array.getElem?_eq_some_iff.1 B4_v2.out).1
  have cB5_v2 := fun j => cell_of_row v2 _ j _ _ _ B5_v2.out
  have lB5_v2 : w5.heap.size < v2.heap.size := (Array.getElem?_eq_some_iff.1 B5_v2.out).1
  clear hx hy
  go_wp2_with fail
  refine (or_waits _ _ _ _ _ _ _ _ _ _).mono ?_
  rintro e v3 ⟨rfl, hx⟩
  rw [live_w]
  have hy : Ext v2 v3 := hx
  have HY3 := Lib.hid (HY2.out.trans hy)
  clear HY2
  have B1_v3 := Lib.hid (heap_ext B1_v2.out hy)
  clear B1_v2 cB1_v2 lB1_v2
  have B2_v3 := Lib.hid (heap_ext B2_v2.out hy)
  clear B2_v2 cB2_v2 lB2_v2
  have B3_v3 := Lib.hid (heap_ext B3_v2.out hy)
  clear B3_v2 cB3_v2 lB3_v2
  have B4_v3 := Lib.hid (heap_ext B4_v2.out hy)
  clear B4_v2 cB4_v2 lB4_v2
  have B5_v3 := Lib.hid (heap_ext B5_v2.out hy)
  clear B5_v2 cB5_v2 lB5_v2
  have cB1_v3 := fun j => cell_of_row v3 _ j _ _ _ B1_v3.out
  have lB1_v3 : w1.heap.size < v3.heap.size := (Array.getElem?_eq_some_iff.1 B1_v3.out).1
  have cB2_v3 := fun j => cell_of_row v3 _ j _ _ _ B2_v3.out
  have lB2_v3 : w2.heap.size < v3.heap.size := (Array.getElem?_eq_some_iff.1 B2_v3.out).1
  have cB3_v3 := fun j => cell_of_row v3 _ j _ _ _ B3_v3.out
  have lB3_v3 : w3.heap.size < v3.heap.size := (Array.getElem?_eq_some_iff.1 B3_v3.out).1
  have cB4_v3 := fun j => cell_of_row v3 _ j _ _ _ B4_v3.out
  have lB4_v3 : w4.heap.size < v3.heap.size := (Array.getElem?_eq_some_iff.1 B4_v3.out).1
  have cB5_v3 := fun j => cell_of_row v3 _ j _ _ _ B5_v3.out
  have lB5_v3 : w5.heap.size < v3.heap.size := (Array.getElem?_eq_some_iff.1 B5_v3.out).1
  clear hx hy
  go_wp2_with fail
  refine (or_events _ _ _ _ _ _ _ _ _ _).mono ?_
  intro e v4 hmade
  obtain ⟨av4, capv4, rfl, hx⟩ := made_len hmade live_e
  clear hmade
  have hy : Ext v3 v4 := hx
  have HY4 := Lib.hid (HY3.out.trans hy)
  clear HY3
  have B1_v4 := Lib.hid (heap_ext B1_v3.out hy)
  clear B1_v3 cB1_v3 lB1_v3
  have B2_v4 := Lib.hid (heap_ext B2_v3.out hy)
  clear B2_v3 cB2_v3 lB2_v3
  have B3_v4 := Lib.hid (heap_ext B3_v3.out hy)
  clear B3_v3 cB3_v3 lB3_v3
  have B4_v4 := Lib.hid (heap_ext B4_v3.out hy)
  clear B4_v3 cB4_v3 lB4_v3
  have B5_v4 := Lib.hid (heap_ext B5_v3.out hy)
  clear B5_v3 cB5_v3 lB5_v3
  have cB1_v4 := fun j => cell_of_row v4 _ j _ _ _ B1_v4.out
  have lB1_v4 : w1.heap.size < v4.heap.size := (Array.getElem?_eq_some_iff.1 B1_v4.out).1
  have cB2_v4 := fun j => cell_of_row v4 _ j _ _ _ B2_v4.out
  have lB2_v4 : w2.heap.size < v4.heap.size := (Array.getElem?_eq_some_iff.1 B2_v4.out).1
  have cB3_v4 := fun j => cell_of_row v4 _ j _ _ _ B3_v4.out
  have lB3_v4 : w3.heap.size < v4.heap.size := (Array.getElem?_eq_some_iff.1 B3_v4.out).1
  have cB4_v4 := fun j => cell_of_row v4 _ j _ _ _ B4_v4.out
  have lB4_v4 : w4.heap.size < v4.heap.size := (Array.getElem?_eq_some_iff.1 B4_v4.out).1
  have cB5_v4 := fun j => cell_of_row v4 _ j _ _ _ B5_v4.out
  have lB5_v4 : w5.heap.size < v4.heap.size := (Array.getElem?_eq_some_iff.1 B5_v4.out).1
  clear hx hy
  go_wp2_with fail
  refine (or_next _ _ _ _ _ _ _ _ _ _).mono ?_
  intro e v5 hmade
  obtain ⟨av5, capv5, rfl, hx⟩ := made_len hmade live_n
  clear hmade
  have hy : Ext v4 v5 := hx
  have HY5 := Lib.hid (HY4.out.trans hy)
  clear HY4
  have B1_v5 := Lib.hid (heap_ext B1_v4.out hy)
  clear B1_v4 cB1_v4 lB1_v4
  have B2_v5 := Lib.hid (heap_ext B2_v4.out hy)
  clear B2_v4 cB2_v4 lB2_v4
  have B3_v5 := Lib.hid (heap_ext B3_v4.out hy)
  clear B3_v4 cB3_v4 lB3_v4
  have B4_v5 := Lib.hid (heap_ext B4_v4.out hy)
  clear B4_v4 cB4_v4 lB4_v4
  have B5_v5 := Lib.hid (heap_ext B5_v4.out hy)
  clear B5_v4 cB5_v4 lB5_v4
  have cB1_v5 := fun j => cell_of_row v5 _ j _ _ _ B1_v5.out
  have lB1_v5 : w1.heap.size < v5.heap.size := (Array.getElem?_eq_some_iff.1 B1_v5.out).1
  have cB2_v5 := fun j => cell_of_row v5 _ j _ _ _ B2_v5.out
  have lB2_v5 : w2.heap.size < v5.heap.size := (Array.getElem?_eq_some_iff.1 B2_v5.out).1
  have cB3_v5 := fun j => cell_of_row v5 _ j _ _ _ B3_v5.out
  have lB3_v5 : w3.heap.size < v5.heap.size := (Array.getElem?_eq_some_iff.1 B3_v5.out).1
  have cB4_v5 := fun j => cell_of_row v5 _ j _ _ _ B4_v5.out
  have lB4_v5 : w4.heap.size < v5.heap.size := (Array.getElem?_eq_some_iff.1 B4_v5.out).1
  have cB5_v5 := fun j => cell_of_row v5 _ j _ _ _ B5_v5.out
  have lB5_v5 : w5.heap.size < v5.heap.size := (Array.getElem?_eq_some_iff.1 B5_v5.out).1
  clear hx hy
  go_wp2_with fail
  go_ret
  exact ⟨rfl, HY5.out⟩
end Go.Proofs.Ytnfehccnofhmnaa
