/-
  The walks of letter.tree, one for each kind. No condition.
-/
import Derived.Test.YtfibbhmmiemcoaaML29
set_option linter.all false
namespace Go.Proofs.Ytfibbhmmiemcoaa
open Go.RowKit
attribute [local go_sem] ExtOf.cell ExtOf.frozen ExtOf.lt ExtOf.le
attribute [local go_sem high] ExtOf.cell2 ExtOf.frozen2 ExtOf.lt2 ExtOf.cell3 ExtOf.frozen3 ExtOf.lt3 ExtOf.cellX ExtOf.frozenX ExtOf.cellX' ExtOf.frozenX'

abbrev row0 : Array Value := #[.int .i64 0, .int .i64 0, .int .i64 0, .int .u64 0, .string { data := #[] }, .slice none 0 0]
/-- What is known ahead of the switch. -/
def LdAt (w w' : World) (k f c : Int) (t : ByteArray) (b : Bool) (g : Nat) (kd : Value) : Prop :=
  Ext w w' ∧ w'.heap[w.heap.size]? = some (.cells #[.int .i64 k, .int .i64 f, .int .u64 c, .string t, .bool b] 24 (0, 0)) ∧
  w'.heap[w.heap.size + 1]? = some (.cells row0 82 (0, 0)) ∧ w.heap.size + 1 < g ∧
  w'.heap[g]? = some (.cells (trC (dealT c t) kd).toArray 82 (0, 0)) ∧ kidsAt (fun i => w.heap.size + 1 + 1 ≤ i) w' (dealT c t) kd
theorem LdAt.ext {w w' w'' : World} {k f c : Int} {t : ByteArray} {b : Bool} {g : Nat} {kd : Value} (h : LdAt w w' k f c t b g kd) (e : Ext w' w'') : LdAt w w'' k f c t b g kd :=
  ⟨h.1.trans e, heap_ext h.2.1 e, heap_ext h.2.2.1 e, h.2.2.2.1, heap_ext h.2.2.2.2.1 e, kids_ext h.2.2.2.2.2 e⟩
theorem LdAt.start {w w1 : World} {k f c : Int} {t : ByteArray} {b : Bool} {kd : Value} (hx : Ext w w1) (h0 : w1.heap[w.heap.size]? = some (.cells #[.int .i64 k, .int .i64 f, .int .u64 c, .string t, .bool b] 24 (0, 0))) (h1 : w1.heap[w.heap.size + 1]? = some (.cells row0 82 (0, 0))) (hk : kidsAt (fun i => w.heap.size + 1 + 1 ≤ i) w1 (dealT c t) kd) :
    LdAt w ((w1.alloc (.cells row0 82)).setRow w1.heap.size (trC (dealT c t) kd).toArray) k f c t b w1.heap.size kd := by
  have l1 := (Array.getElem?_eq_some_iff.1 h1).1
  have e : Ext w1 ((w1.alloc (.cells row0 82)).setRow w1.heap.size (trC (dealT c t) kd).toArray) := ((Ext.refl w1).alloc _).setRow (Nat.le_refl _) _
  exact ⟨hx.trans e, heap_ext h0 e, heap_ext h1 e, l1, setRow_heap _ _ _ _ _ _ (heap_new rfl), kids_ext hk e⟩

set_option maxRecDepth 100000 in
set_option maxHeartbeats 3200000 in
theorem le_tree1 (C : Nat) (f c : Int) (t : ByteArray) (b : Bool) (hf : f = 0 ∨ f = 1) (w : World) (hC : C ≤ w.heap.size) : Calls Try.prog 29 #[.agg #[.int .i64 1, .int .i64 f, .int .u64 c, .string t, .bool b]] w (TM C (prmT f b (dealT c t)) w) := by
  go_enter Try.func29, Try.ntmps29
  go_wp2_with fail
  refine (le_deal (w.heap.size + 1 + 1) _ _ _ (by simp)).mono ?_
  rintro e w1 ⟨hx1, kd, rfl, hk1⟩
  obtain ⟨ad, nd, cd, rfl⟩ := kids_slice hk1
  have hr0 := heap_ext (heap_ext (heap_new (w := w) (o := .cells #[.int .i64 1, .int .i64 f, .int .u64 c, .string t, .bool b] 24) rfl) ((Ext.refl _).alloc (.cells row0 82))) hx1
  have hr1 : w1.heap[w.heap.size + 1]? = some (.cells row0 82 (0, 0)) := heap_ext (heap_new (by simp)) hx1
  have hxw := (((Ext.refl w).alloc (.cells #[.int .i64 1, .int .i64 f, .int .u64 c, .string t, .bool b] 24)).alloc (.cells row0 82)).trans hx1
  have HL := Lib.hid (LdAt.start hxw hr0 hr1 hk1)
  clear hx1 hk1 hr0 hr1 hxw
  unfold trV
  go_upto_region 2 with (refine wpList_store_row rfl 82 _ _ rfl _ _ rfl rfl 82 _ (heap_new rfl) (info_tree _ _ _ _ _ _) rfl (by simp [Value.oneCell']) ?_)
  generalize w1.heap.size = g at HL ⊢
  refine wp_forget (fun w' => Hid (LdAt w w' 1 f c t b g (.slice ad nd cd))) HL ?_
  clear HL w1
  intro w1 HL
  have hcl := fun j => cell_of_row w1 _ j _ _ _ HL.out.2.1
  go_wp2_with (refine wpList_load_row rfl 82 _ rfl _ rfl _ _ (0, 0) _ (HL.out.2.2.2.2.1) Try.underlying82 rfl (info_tree _ _ _ _ _ _) ?_)
  refine (le_promise (w.heap.size + 1 + 1) f b (dealT c t) (.slice ad nd cd) _ hf (by have := (Array.getElem?_eq_some_iff.1 HL.out.2.2.1).1; omega) HL.out.2.2.2.2.2).mono ?_
  rintro e w2 ⟨hx2, k2, rfl, hk2⟩
  obtain ⟨a2, n2, c2, rfl⟩ := kids_slice hk2
  unfold trV
  go_wp2_with (refine wpList_store_row rfl 82 _ _ rfl _ _ rfl rfl 82 _ (heap_ext HL.out.2.2.1 hx2) (info_tree _ _ _ _ _ _) rfl (by simp [Value.oneCell']) ?_)
  refine bodyPost_ret (results_cell_row rfl _ _ _ 82 _ (0, 0) _ rfl (setRow_heap _ _ _ _ _ _ (heap_ext HL.out.2.2.1 hx2)) Try.underlying82 rfl (info_tree _ _ _ _ _ _)) rfl ?_
  exact ⟨Ext.setRow (HL.out.1.trans hx2) (Nat.le_succ _) _, _, rfl, kids_row hk2 (Nat.le_succ_of_le hC)⟩

set_option maxRecDepth 100000 in
set_option maxHeartbeats 3200000 in
theorem le_tree2 (C : Nat) (f c : Int) (t : ByteArray) (b : Bool) (w : World) (hC : C ≤ w.heap.size) : Calls Try.prog 29 #[.agg #[.int .i64 2, .int .i64 f, .int .u64 c, .string t, .bool b]] w (TM C (.sign f (dealT c t)) w) := by
  go_enter Try.func29, Try.ntmps29
  go_wp2_with fail
  refine (le_deal (w.heap.size + 1 + 1) _ _ _ (by simp)).mono ?_
  rintro e w1 ⟨hx1, kd, rfl, hk1⟩
  obtain ⟨ad, nd, cd, rfl⟩ := kids_slice hk1
  have hr0 := heap_ext (heap_ext (heap_new (w := w) (o := .cells #[.int .i64 2, .int .i64 f, .int .u64 c, .string t, .bool b] 24) rfl) ((Ext.refl _).alloc (.cells row0 82))) hx1
  have hr1 : w1.heap[w.heap.size + 1]? = some (.cells row0 82 (0, 0)) := heap_ext (heap_new (by simp)) hx1
  have hxw := (((Ext.refl w).alloc (.cells #[.int .i64 2, .int .i64 f, .int .u64 c, .string t, .bool b] 24)).alloc (.cells row0 82)).trans hx1
  have HL := Lib.hid (LdAt.start hxw hr0 hr1 hk1)
  clear hx1 hk1 hr0 hr1 hxw
  unfold trV
  go_upto_region 2 with (refine wpList_store_row rfl 82 _ _ rfl _ _ rfl rfl 82 _ (heap_new rfl) (info_tree _ _ _ _ _ _) rfl (by simp [Value.oneCell']) ?_)
  generalize w1.heap.size = g at HL ⊢
  refine wp_forget (fun w' => Hid (LdAt w w' 2 f c t b g (.slice ad nd cd))) HL ?_
  clear HL w1
  intro w1 HL
  have hcl := fun j => cell_of_row w1 _ j _ _ _ HL.out.2.1
  go_wp2_with (refine wpList_load_row rfl 82 _ rfl _ rfl _ _ (0, 0) _ (HL.out.2.2.2.2.1) Try.underlying82 rfl (info_tree _ _ _ _ _ _) ?_)
  refine (le_sign (w.heap.size + 1 + 1) f (dealT c t) (.slice ad nd cd) _ (by have := (Array.getElem?_eq_some_iff.1 HL.out.2.2.1).1; omega) HL.out.2.2.2.2.2).mono ?_
  rintro e w2 ⟨hx2, k2, rfl, hk2⟩
  obtain ⟨a2, n2, c2, rfl⟩ := kids_slice hk2
  unfold trV
  go_wp2_with (refine wpList_store_row rfl 82 _ _ rfl _ _ rfl rfl 82 _ (heap_ext HL.out.2.2.1 hx2) (info_tree _ _ _ _ _ _) rfl (by simp [Value.oneCell']) ?_)
  refine bodyPost_ret (results_cell_row rfl _ _ _ 82 _ (0, 0) _ rfl (setRow_heap _ _ _ _ _ _ (heap_ext HL.out.2.2.1 hx2)) Try.underlying82 rfl (info_tree _ _ _ _ _ _)) rfl ?_
  exact ⟨Ext.setRow (HL.out.1.trans hx2) (Nat.le_succ _) _, _, rfl, kids_row hk2 (Nat.le_succ_of_le hC)⟩

set_option maxRecDepth 100000 in
set_option maxHeartbeats 3200000 in
theorem le_tree3 (C : Nat) (f c : Int) (t : ByteArray) (b : Bool) (w : World) (hC : C ≤ w.heap.size) : Calls Try.prog 29 #[.agg #[.int .i64 3, .int .i64 f, .int .u64 c, .string t, .bool b]] w (TM C (.sign 0 (.pair (.data wAbort) (.num c))) w) := by
  go_enter Try.func29, Try.ntmps29
  go_wp2_with fail
  refine (le_deal (w.heap.size + 1 + 1) _ _ _ (by simp)).mono ?_
  rintro e w1 ⟨hx1, kd, rfl, hk1⟩
  obtain ⟨ad, nd, cd, rfl⟩ := kids_slice hk1
  have hr0 := heap_ext (heap_ext (heap_new (w := w) (o := .cells #[.int .i64 3, .int .i64 f, .int .u64 c, .string t, .bool b] 24) rfl) ((Ext.refl _).alloc (.cells row0 82))) hx1
  have hr1 : w1.heap[w.heap.size + 1]? = some (.cells row0 82 (0, 0)) := heap_ext (heap_new (by simp)) hx1
  have hxw := (((Ext.refl w).alloc (.cells #[.int .i64 3, .int .i64 f, .int .u64 c, .string t, .bool b] 24)).alloc (.cells row0 82)).trans hx1
  have HL := Lib.hid (LdAt.start hxw hr0 hr1 hk1)
  clear hx1 hk1 hr0 hr1 hxw
  unfold trV
  go_upto_region 2 with (refine wpList_store_row rfl 82 _ _ rfl _ _ rfl rfl 82 _ (heap_new rfl) (info_tree _ _ _ _ _ _) rfl (by simp [Value.oneCell']) ?_)
  generalize w1.heap.size = g at HL ⊢
  refine wp_forget (fun w' => Hid (LdAt w w' 3 f c t b g (.slice ad nd cd))) HL ?_
  clear HL w1
  intro w1 HL
  have hcl := fun j => cell_of_row w1 _ j _ _ _ HL.out.2.1
  go_wp2_with fail
  have lb1 := (Array.getElem?_eq_some_iff.1 HL.out.2.2.1).1
  have lb0 : w.heap.size < w1.heap.size := by omega
  have lbg := (Array.getElem?_eq_some_iff.1 HL.out.2.2.2.2.1).1
  have lg := HL.out.2.2.2.1
  refine wp_region_mixX (w.heap.size + 1) (af := ?af) [true, true, true, true, false, false, false] 68 (by kernel_rfl) rfl (by kernel_rfl) ?q ?r
  case q =>
    intro x0
    simp only [pickT, if_true, if_false, Bool.false_eq_true]
    repeat (go_big_quiet_step ((first | (go_at_call 63; exact calls_ext (le_data _ _)) | (go_at_call 64; exact calls_ext (le_number _ _)))))
    exact rfl
  case r =>
    have hC1 : w.heap.size + 1 + 1 ≤ w1.heap.size := lb1
    have HD0 := Lib.hid HL.out.2.2.2.2.2
    simp only [pickF, if_true, if_false, Bool.false_eq_true]
    intro x1
    have e1 : Ext w1 x1.val := (Ext.refl _).drew.val x1
    have HD := Lib.hid (kids_ext HD0.out e1)
    generalize x1.val = wa at e1 HD ⊢
    have E := Lib.hid e1
    clear e1 x1 hcl HD0
    go_wp2_with fail
    refine (le_pair (w.heap.size + 1 + 1) (.data wAbort) (.num c) _ _ _ (Nat.le_trans hC1 E.out.size) (kids_data _) (kids_num _)).mono ?_
    rintro e wb ⟨hb, ka, rfl, hka⟩
    have Ea := Lib.hid (E.out.trans hb)
    have HB := Lib.hid hb
    clear E hb
    go_wp2_with fail
    refine ⟨but_ext (but_refl _ w1) Ea.out, ?_⟩
    intro x2
    have e1 : Ext w1 x2.val := Ea.out.val x2
    have HD' := Lib.hid (kids_ext HD.out (HB.out.val x2))
    clear HD
    have HD := HD'
    clear HD'
    have HKa := Lib.hid (kids_ext hka x2.ext)
    clear hka
    generalize x2.val = wa at e1 HKa HD ⊢
    have E := Lib.hid e1
    clear e1 x2 HB Ea wb
    go_wp2_with fail
    refine (le_sign (w.heap.size + 1 + 1) 0 _ _ _ (Nat.le_trans hC1 E.out.size) HKa.out).mono ?_
    rintro e wb ⟨hb, kb, rfl, hkb⟩
    have Eb := Lib.hid (E.out.trans hb)
    have HB := Lib.hid hb
    clear E hb
    go_wp2_with fail
    refine ⟨but_ext (but_refl _ w1) Eb.out, ?_⟩
    intro x2
    have e1 : Ext w1 x2.val := Eb.out.val x2
    have HD' := Lib.hid (kids_ext HD.out (HB.out.val x2))
    clear HD
    have HD := HD'
    clear HD'
    have HKa' := Lib.hid (kids_ext HKa.out (HB.out.val x2))
    clear HKa
    have HKa := HKa'
    clear HKa'
    have HKb := Lib.hid (kids_ext hkb x2.ext)
    clear hkb
    generalize x2.val = wa at e1 HKb HD HKa ⊢
    have E := Lib.hid e1
    clear e1 x2 HB Eb wb
    have hkl := HKb.out
    obtain ⟨a2, n2, c2, rfl⟩ := kids_slice hkl
    unfold trV
    go_wp2_with (refine wpList_store_row rfl 82 _ _ rfl _ _ rfl rfl 82 _ (heap_ext HL.out.2.2.1 E.out) (info_tree _ _ _ _ _ _) rfl (by simp [Value.oneCell']) ?_)
    refine ⟨but_setRow (but_ext (but_refl _ w1) E.out) _, ?_⟩
    intro x3
    go_wp2_with fail
    refine bodyPost_ret (results_cell_row rfl _ _ _ 82 _ (0, 0) _ rfl (heap_ext (setRow_heap _ _ _ _ _ _ (heap_ext HL.out.2.2.1 E.out)) x3.ext) Try.underlying82 rfl (info_tree _ _ _ _ _ _)) rfl ?_
    exact ⟨(Ext.setRow (HL.out.1.trans E.out) (Nat.le_succ _) _).trans x3.ext, _, rfl, kids_ext (kids_row hkl (Nat.le_succ_of_le hC)) x3.ext⟩

set_option maxRecDepth 100000 in
set_option maxHeartbeats 3200000 in
theorem le_tree5 (C : Nat) (f c : Int) (t : ByteArray) (b : Bool) (w : World) (hC : C ≤ w.heap.size) : Calls Try.prog 29 #[.agg #[.int .i64 5, .int .i64 f, .int .u64 c, .string t, .bool b]] w (TM C (.sign 2 (.pair (.data wAborted) (.num c))) w) := by
  go_enter Try.func29, Try.ntmps29
  go_wp2_with fail
  refine (le_deal (w.heap.size + 1 + 1) _ _ _ (by simp)).mono ?_
  rintro e w1 ⟨hx1, kd, rfl, hk1⟩
  obtain ⟨ad, nd, cd, rfl⟩ := kids_slice hk1
  have hr0 := heap_ext (heap_ext (heap_new (w := w) (o := .cells #[.int .i64 5, .int .i64 f, .int .u64 c, .string t, .bool b] 24) rfl) ((Ext.refl _).alloc (.cells row0 82))) hx1
  have hr1 : w1.heap[w.heap.size + 1]? = some (.cells row0 82 (0, 0)) := heap_ext (heap_new (by simp)) hx1
  have hxw := (((Ext.refl w).alloc (.cells #[.int .i64 5, .int .i64 f, .int .u64 c, .string t, .bool b] 24)).alloc (.cells row0 82)).trans hx1
  have HL := Lib.hid (LdAt.start hxw hr0 hr1 hk1)
  clear hx1 hk1 hr0 hr1 hxw
  unfold trV
  go_upto_region 2 with (refine wpList_store_row rfl 82 _ _ rfl _ _ rfl rfl 82 _ (heap_new rfl) (info_tree _ _ _ _ _ _) rfl (by simp [Value.oneCell']) ?_)
  generalize w1.heap.size = g at HL ⊢
  refine wp_forget (fun w' => Hid (LdAt w w' 5 f c t b g (.slice ad nd cd))) HL ?_
  clear HL w1
  intro w1 HL
  have hcl := fun j => cell_of_row w1 _ j _ _ _ HL.out.2.1
  go_wp2_with fail
  have lb1 := (Array.getElem?_eq_some_iff.1 HL.out.2.2.1).1
  have lb0 : w.heap.size < w1.heap.size := by omega
  have lbg := (Array.getElem?_eq_some_iff.1 HL.out.2.2.2.2.1).1
  have lg := HL.out.2.2.2.1
  refine wp_region_mixX (w.heap.size + 1) (af := ?af) [true, true, true, true, false, false, false] 68 (by kernel_rfl) rfl (by kernel_rfl) ?q ?r
  case q =>
    intro x0
    simp only [pickT, if_true, if_false, Bool.false_eq_true]
    repeat (go_big_quiet_step ((first | (go_at_call 63; exact calls_ext (le_data _ _)) | (go_at_call 64; exact calls_ext (le_number _ _)))))
    exact rfl
  case r =>
    have hC1 : w.heap.size + 1 + 1 ≤ w1.heap.size := lb1
    have HD0 := Lib.hid HL.out.2.2.2.2.2
    simp only [pickF, if_true, if_false, Bool.false_eq_true]
    intro x1
    have e1 : Ext w1 x1.val := (Ext.refl _).drew.val x1
    have HD := Lib.hid (kids_ext HD0.out e1)
    generalize x1.val = wa at e1 HD ⊢
    have E := Lib.hid e1
    clear e1 x1 hcl HD0
    go_wp2_with fail
    refine (le_pair (w.heap.size + 1 + 1) (.data wAborted) (.num c) _ _ _ (Nat.le_trans hC1 E.out.size) (kids_data _) (kids_num _)).mono ?_
    rintro e wb ⟨hb, ka, rfl, hka⟩
    have Ea := Lib.hid (E.out.trans hb)
    have HB := Lib.hid hb
    clear E hb
    go_wp2_with fail
    refine ⟨but_ext (but_refl _ w1) Ea.out, ?_⟩
    intro x2
    have e1 : Ext w1 x2.val := Ea.out.val x2
    have HD' := Lib.hid (kids_ext HD.out (HB.out.val x2))
    clear HD
    have HD := HD'
    clear HD'
    have HKa := Lib.hid (kids_ext hka x2.ext)
    clear hka
    generalize x2.val = wa at e1 HKa HD ⊢
    have E := Lib.hid e1
    clear e1 x2 HB Ea wb
    go_wp2_with fail
    refine (le_sign (w.heap.size + 1 + 1) 2 _ _ _ (Nat.le_trans hC1 E.out.size) HKa.out).mono ?_
    rintro e wb ⟨hb, kb, rfl, hkb⟩
    have Eb := Lib.hid (E.out.trans hb)
    have HB := Lib.hid hb
    clear E hb
    go_wp2_with fail
    refine ⟨but_ext (but_refl _ w1) Eb.out, ?_⟩
    intro x2
    have e1 : Ext w1 x2.val := Eb.out.val x2
    have HD' := Lib.hid (kids_ext HD.out (HB.out.val x2))
    clear HD
    have HD := HD'
    clear HD'
    have HKa' := Lib.hid (kids_ext HKa.out (HB.out.val x2))
    clear HKa
    have HKa := HKa'
    clear HKa'
    have HKb := Lib.hid (kids_ext hkb x2.ext)
    clear hkb
    generalize x2.val = wa at e1 HKb HD HKa ⊢
    have E := Lib.hid e1
    clear e1 x2 HB Eb wb
    have hkl := HKb.out
    obtain ⟨a2, n2, c2, rfl⟩ := kids_slice hkl
    unfold trV
    go_wp2_with (refine wpList_store_row rfl 82 _ _ rfl _ _ rfl rfl 82 _ (heap_ext HL.out.2.2.1 E.out) (info_tree _ _ _ _ _ _) rfl (by simp [Value.oneCell']) ?_)
    refine ⟨but_setRow (but_ext (but_refl _ w1) E.out) _, ?_⟩
    intro x3
    go_wp2_with fail
    refine bodyPost_ret (results_cell_row rfl _ _ _ 82 _ (0, 0) _ rfl (heap_ext (setRow_heap _ _ _ _ _ _ (heap_ext HL.out.2.2.1 E.out)) x3.ext) Try.underlying82 rfl (info_tree _ _ _ _ _ _)) rfl ?_
    exact ⟨(Ext.setRow (HL.out.1.trans E.out) (Nat.le_succ _) _).trans x3.ext, _, rfl, kids_ext (kids_row hkl (Nat.le_succ_of_le hC)) x3.ext⟩

set_option maxRecDepth 100000 in
set_option maxHeartbeats 3200000 in
theorem le_tree6 (C : Nat) (f c : Int) (t : ByteArray) (b : Bool) (w : World) (hC : C ≤ w.heap.size) : Calls Try.prog 29 #[.agg #[.int .i64 6, .int .i64 f, .int .u64 c, .string t, .bool b]] w (TM C (.sign 2 (.pair (.data wInstead) (dealT c t))) w) := by
  go_enter Try.func29, Try.ntmps29
  go_wp2_with fail
  refine (le_deal (w.heap.size + 1 + 1) _ _ _ (by simp)).mono ?_
  rintro e w1 ⟨hx1, kd, rfl, hk1⟩
  obtain ⟨ad, nd, cd, rfl⟩ := kids_slice hk1
  have hr0 := heap_ext (heap_ext (heap_new (w := w) (o := .cells #[.int .i64 6, .int .i64 f, .int .u64 c, .string t, .bool b] 24) rfl) ((Ext.refl _).alloc (.cells row0 82))) hx1
  have hr1 : w1.heap[w.heap.size + 1]? = some (.cells row0 82 (0, 0)) := heap_ext (heap_new (by simp)) hx1
  have hxw := (((Ext.refl w).alloc (.cells #[.int .i64 6, .int .i64 f, .int .u64 c, .string t, .bool b] 24)).alloc (.cells row0 82)).trans hx1
  have HL := Lib.hid (LdAt.start hxw hr0 hr1 hk1)
  clear hx1 hk1 hr0 hr1 hxw
  unfold trV
  go_upto_region 2 with (refine wpList_store_row rfl 82 _ _ rfl _ _ rfl rfl 82 _ (heap_new rfl) (info_tree _ _ _ _ _ _) rfl (by simp [Value.oneCell']) ?_)
  generalize w1.heap.size = g at HL ⊢
  refine wp_forget (fun w' => Hid (LdAt w w' 6 f c t b g (.slice ad nd cd))) HL ?_
  clear HL w1
  intro w1 HL
  have hcd := fun j => cell_of_row w1 _ j _ _ _ HL.out.2.2.2.2.1
  simp only [List.toArray, trC] at hcd
  have hcl := fun j => cell_of_row w1 _ j _ _ _ HL.out.2.1
  go_wp2_with fail
  have lb1 := (Array.getElem?_eq_some_iff.1 HL.out.2.2.1).1
  have lb0 : w.heap.size < w1.heap.size := by omega
  have lbg := (Array.getElem?_eq_some_iff.1 HL.out.2.2.2.2.1).1
  have lg := HL.out.2.2.2.1
  refine wp_region_mixX (w.heap.size + 1) (af := ?af) [true, true, false, false, false] 68 (by kernel_rfl) rfl (by kernel_rfl) ?q ?r
  case q =>
    intro x0
    simp only [pickT, if_true, if_false, Bool.false_eq_true]
    repeat (go_big_quiet_step ((first | (go_at_call 63; exact calls_ext (le_data _ _)))))
    exact rfl
  case r =>
    have hC1 : w.heap.size + 1 + 1 ≤ w1.heap.size := lb1
    have HD0 := Lib.hid HL.out.2.2.2.2.2
    simp only [pickF, if_true, if_false, Bool.false_eq_true]
    intro x1
    have e1 : Ext w1 x1.val := (Ext.refl _).drew.val x1
    have HD := Lib.hid (kids_ext HD0.out e1)
    generalize x1.val = wa at e1 HD ⊢
    have E := Lib.hid e1
    clear e1 x1 hcl HD0
    go_wp2_with fail
    refine (le_pair (w.heap.size + 1 + 1) (.data wInstead) (dealT c t) _ _ _ (Nat.le_trans hC1 E.out.size) (kids_data _) HD.out).mono ?_
    rintro e wb ⟨hb, ka, rfl, hka⟩
    have Ea := Lib.hid (E.out.trans hb)
    have HB := Lib.hid hb
    clear E hb
    go_wp2_with fail
    refine ⟨but_ext (but_refl _ w1) Ea.out, ?_⟩
    intro x2
    have e1 : Ext w1 x2.val := Ea.out.val x2
    have HD' := Lib.hid (kids_ext HD.out (HB.out.val x2))
    clear HD
    have HD := HD'
    clear HD'
    have HKa := Lib.hid (kids_ext hka x2.ext)
    clear hka
    generalize x2.val = wa at e1 HKa HD ⊢
    have E := Lib.hid e1
    clear e1 x2 HB Ea wb
    go_wp2_with fail
    refine (le_sign (w.heap.size + 1 + 1) 2 _ _ _ (Nat.le_trans hC1 E.out.size) HKa.out).mono ?_
    rintro e wb ⟨hb, kb, rfl, hkb⟩
    have Eb := Lib.hid (E.out.trans hb)
    have HB := Lib.hid hb
    clear E hb
    go_wp2_with fail
    refine ⟨but_ext (but_refl _ w1) Eb.out, ?_⟩
    intro x2
    have e1 : Ext w1 x2.val := Eb.out.val x2
    have HD' := Lib.hid (kids_ext HD.out (HB.out.val x2))
    clear HD
    have HD := HD'
    clear HD'
    have HKa' := Lib.hid (kids_ext HKa.out (HB.out.val x2))
    clear HKa
    have HKa := HKa'
    clear HKa'
    have HKb := Lib.hid (kids_ext hkb x2.ext)
    clear hkb
    generalize x2.val = wa at e1 HKb HD HKa ⊢
    have E := Lib.hid e1
    clear e1 x2 HB Eb wb
    have hkl := HKb.out
    obtain ⟨a2, n2, c2, rfl⟩ := kids_slice hkl
    unfold trV
    go_wp2_with (refine wpList_store_row rfl 82 _ _ rfl _ _ rfl rfl 82 _ (heap_ext HL.out.2.2.1 E.out) (info_tree _ _ _ _ _ _) rfl (by simp [Value.oneCell']) ?_)
    refine ⟨but_setRow (but_ext (but_refl _ w1) E.out) _, ?_⟩
    intro x3
    go_wp2_with fail
    refine bodyPost_ret (results_cell_row rfl _ _ _ 82 _ (0, 0) _ rfl (heap_ext (setRow_heap _ _ _ _ _ _ (heap_ext HL.out.2.2.1 E.out)) x3.ext) Try.underlying82 rfl (info_tree _ _ _ _ _ _)) rfl ?_
    exact ⟨(Ext.setRow (HL.out.1.trans E.out) (Nat.le_succ _) _).trans x3.ext, _, rfl, kids_ext (kids_row hkl (Nat.le_succ_of_le hC)) x3.ext⟩

set_option maxRecDepth 100000 in
set_option maxHeartbeats 3200000 in
theorem le_tree4 (C : Nat) (f c : Int) (t : ByteArray) (b : Bool) (w : World) (hC : C ≤ w.heap.size) : Calls Try.prog 29 #[.agg #[.int .i64 4, .int .i64 f, .int .u64 c, .string t, .bool b]] w (TM C (.sign f (.pair (.data wResolve) (.pair (prmT 0 b (dealT c t)) (prmT 1 b (dealT c t))))) w) := by
  go_enter Try.func29, Try.ntmps29
  go_wp2_with fail
  refine (le_deal (w.heap.size + 1 + 1) _ _ _ (by simp)).mono ?_
  rintro e w1 ⟨hx1, kd, rfl, hk1⟩
  obtain ⟨ad, nd, cd, rfl⟩ := kids_slice hk1
  have hr0 := heap_ext (heap_ext (heap_new (w := w) (o := .cells #[.int .i64 4, .int .i64 f, .int .u64 c, .string t, .bool b] 24) rfl) ((Ext.refl _).alloc (.cells row0 82))) hx1
  have hr1 : w1.heap[w.heap.size + 1]? = some (.cells row0 82 (0, 0)) := heap_ext (heap_new (by simp)) hx1
  have hxw := (((Ext.refl w).alloc (.cells #[.int .i64 4, .int .i64 f, .int .u64 c, .string t, .bool b] 24)).alloc (.cells row0 82)).trans hx1
  have HL := Lib.hid (LdAt.start hxw hr0 hr1 hk1)
  clear hx1 hk1 hr0 hr1 hxw
  unfold trV
  go_upto_region 2 with (refine wpList_store_row rfl 82 _ _ rfl _ _ rfl rfl 82 _ (heap_new rfl) (info_tree _ _ _ _ _ _) rfl (by simp [Value.oneCell']) ?_)
  generalize w1.heap.size = g at HL ⊢
  refine wp_forget (fun w' => Hid (LdAt w w' 4 f c t b g (.slice ad nd cd))) HL ?_
  clear HL w1
  intro w1 HL
  have hcd := fun j => cell_of_row w1 _ j _ _ _ HL.out.2.2.2.2.1
  simp only [List.toArray, trC] at hcd
  have hcl := fun j => cell_of_row w1 _ j _ _ _ HL.out.2.1
  go_wp2_with fail
  have lb1 := (Array.getElem?_eq_some_iff.1 HL.out.2.2.1).1
  have lb0 : w.heap.size < w1.heap.size := by omega
  have lbg := (Array.getElem?_eq_some_iff.1 HL.out.2.2.2.2.1).1
  have lg := HL.out.2.2.2.1
  refine wp_region_mixX (w.heap.size + 1) (af := ?af) [true, true, true, true, true, true, false, true, true, true, false, false, false, false, false] 68 (by kernel_rfl) rfl (by kernel_rfl) ?q ?r
  case q =>
    intro x0
    simp only [pickT, if_true, if_false, Bool.false_eq_true]
    repeat (go_big_quiet_step ((first | (go_at_call 63; exact calls_ext (le_data _ _)))))
    exact rfl
  case r =>
    have hC1 : w.heap.size + 1 + 1 ≤ w1.heap.size := lb1
    have HD0 := Lib.hid HL.out.2.2.2.2.2
    simp only [pickF, if_true, if_false, Bool.false_eq_true]
    intro x1
    have e1 : Ext w1 x1.val := (Ext.refl _).drew.val x1
    have HD := Lib.hid (kids_ext HD0.out e1)
    generalize x1.val = wa at e1 HD ⊢
    have E := Lib.hid e1
    clear e1 x1 hcl HD0
    go_wp2_with fail
    refine (le_promise (w.heap.size + 1 + 1) 0 b (dealT c t) _ _ (.inl rfl) (Nat.le_trans hC1 E.out.size) HD.out).mono ?_
    rintro e wb ⟨hb, ka, rfl, hka⟩
    have Ea := Lib.hid (E.out.trans hb)
    have HB := Lib.hid hb
    clear E hb
    go_wp2_with fail
    refine ⟨but_ext (but_refl _ w1) Ea.out, ?_⟩
    intro x2
    have e1 : Ext w1 x2.val := Ea.out.val x2
    have HD' := Lib.hid (kids_ext HD.out (HB.out.val x2))
    clear HD
    have HD := HD'
    clear HD'
    have HKa := Lib.hid (kids_ext hka x2.ext)
    clear hka
    generalize x2.val = wa at e1 HKa HD ⊢
    have E := Lib.hid e1
    clear e1 x2 HB Ea wb
    go_wp2_with fail
    refine (le_promise (w.heap.size + 1 + 1) 1 b (dealT c t) _ _ (.inr rfl) (Nat.le_trans hC1 E.out.size) HD.out).mono ?_
    rintro e wb ⟨hb, kb, rfl, hkb⟩
    have Eb := Lib.hid (E.out.trans hb)
    have HB := Lib.hid hb
    clear E hb
    go_wp2_with fail
    refine ⟨but_ext (but_refl _ w1) Eb.out, ?_⟩
    intro x2
    have e1 : Ext w1 x2.val := Eb.out.val x2
    have HD' := Lib.hid (kids_ext HD.out (HB.out.val x2))
    clear HD
    have HD := HD'
    clear HD'
    have HKa' := Lib.hid (kids_ext HKa.out (HB.out.val x2))
    clear HKa
    have HKa := HKa'
    clear HKa'
    have HKb := Lib.hid (kids_ext hkb x2.ext)
    clear hkb
    generalize x2.val = wa at e1 HKb HD HKa ⊢
    have E := Lib.hid e1
    clear e1 x2 HB Eb wb
    go_wp2_with fail
    refine (le_pair (w.heap.size + 1 + 1) _ _ _ _ _ (Nat.le_trans hC1 E.out.size) HKa.out HKb.out).mono ?_
    rintro e wb ⟨hb, kc, rfl, hkc⟩
    have Ec := Lib.hid (E.out.trans hb)
    have HB := Lib.hid hb
    clear E hb
    go_wp2_with fail
    refine ⟨but_ext (but_refl _ w1) Ec.out, ?_⟩
    intro x2
    have e1 : Ext w1 x2.val := Ec.out.val x2
    have HD' := Lib.hid (kids_ext HD.out (HB.out.val x2))
    clear HD
    have HD := HD'
    clear HD'
    have HKa' := Lib.hid (kids_ext HKa.out (HB.out.val x2))
    clear HKa
    have HKa := HKa'
    clear HKa'
    have HKb' := Lib.hid (kids_ext HKb.out (HB.out.val x2))
    clear HKb
    have HKb := HKb'
    clear HKb'
    have HKc := Lib.hid (kids_ext hkc x2.ext)
    clear hkc
    generalize x2.val = wa at e1 HKc HD HKa HKb ⊢
    have E := Lib.hid e1
    clear e1 x2 HB Ec wb
    go_wp2_with fail
    refine (le_pair (w.heap.size + 1 + 1) (.data wResolve) _ _ _ _ (Nat.le_trans hC1 E.out.size) (kids_data _) HKc.out).mono ?_
    rintro e wb ⟨hb, kd, rfl, hkd⟩
    have Ed := Lib.hid (E.out.trans hb)
    have HB := Lib.hid hb
    clear E hb
    go_wp2_with fail
    refine ⟨but_ext (but_refl _ w1) Ed.out, ?_⟩
    intro x2
    have e1 : Ext w1 x2.val := Ed.out.val x2
    have HD' := Lib.hid (kids_ext HD.out (HB.out.val x2))
    clear HD
    have HD := HD'
    clear HD'
    have HKa' := Lib.hid (kids_ext HKa.out (HB.out.val x2))
    clear HKa
    have HKa := HKa'
    clear HKa'
    have HKb' := Lib.hid (kids_ext HKb.out (HB.out.val x2))
    clear HKb
    have HKb := HKb'
    clear HKb'
    have HKc' := Lib.hid (kids_ext HKc.out (HB.out.val x2))
    clear HKc
    have HKc := HKc'
    clear HKc'
    have HKd := Lib.hid (kids_ext hkd x2.ext)
    clear hkd
    generalize x2.val = wa at e1 HKd HD HKa HKb HKc ⊢
    have E := Lib.hid e1
    clear e1 x2 HB Ed wb
    go_wp2_with fail
    refine (le_sign (w.heap.size + 1 + 1) f _ _ _ (Nat.le_trans hC1 E.out.size) HKd.out).mono ?_
    rintro e wb ⟨hb, ke, rfl, hke⟩
    have Ee := Lib.hid (E.out.trans hb)
    have HB := Lib.hid hb
    clear E hb
    go_wp2_with fail
    refine ⟨but_ext (but_refl _ w1) Ee.out, ?_⟩
    intro x2
    have e1 : Ext w1 x2.val := Ee.out.val x2
    have HD' := Lib.hid (kids_ext HD.out (HB.out.val x2))
    clear HD
    have HD := HD'
    clear HD'
    have HKa' := Lib.hid (kids_ext HKa.out (HB.out.val x2))
    clear HKa
    have HKa := HKa'
    clear HKa'
    have HKb' := Lib.hid (kids_ext HKb.out (HB.out.val x2))
    clear HKb
    have HKb := HKb'
    clear HKb'
    have HKc' := Lib.hid (kids_ext HKc.out (HB.out.val x2))
    clear HKc
    have HKc := HKc'
    clear HKc'
    have HKd' := Lib.hid (kids_ext HKd.out (HB.out.val x2))
    clear HKd
    have HKd := HKd'
    clear HKd'
    have HKe := Lib.hid (kids_ext hke x2.ext)
    clear hke
    generalize x2.val = wa at e1 HKe HD HKa HKb HKc HKd ⊢
    have E := Lib.hid e1
    clear e1 x2 HB Ee wb
    have hkl := HKe.out
    obtain ⟨a2, n2, c2, rfl⟩ := kids_slice hkl
    unfold trV
    go_wp2_with (refine wpList_store_row rfl 82 _ _ rfl _ _ rfl rfl 82 _ (heap_ext HL.out.2.2.1 E.out) (info_tree _ _ _ _ _ _) rfl (by simp [Value.oneCell']) ?_)
    refine ⟨but_setRow (but_ext (but_refl _ w1) E.out) _, ?_⟩
    intro x3
    go_wp2_with fail
    refine bodyPost_ret (results_cell_row rfl _ _ _ 82 _ (0, 0) _ rfl (heap_ext (setRow_heap _ _ _ _ _ _ (heap_ext HL.out.2.2.1 E.out)) x3.ext) Try.underlying82 rfl (info_tree _ _ _ _ _ _)) rfl ?_
    exact ⟨(Ext.setRow (HL.out.1.trans E.out) (Nat.le_succ _) _).trans x3.ext, _, rfl, kids_ext (kids_row hkl (Nat.le_succ_of_le hC)) x3.ext⟩

set_option maxRecDepth 100000 in
set_option maxHeartbeats 3200000 in
theorem le_tree7 (C : Nat) (f c : Int) (t : ByteArray) (b : Bool) (w : World) (hC : C ≤ w.heap.size) : Calls Try.prog 29 #[.agg #[.int .i64 7, .int .i64 f, .int .u64 c, .string t, .bool b]] w (TM C (.pair (.data wFull) (.num c)) w) := by
  go_enter Try.func29, Try.ntmps29
  go_wp2_with fail
  refine (le_deal (w.heap.size + 1 + 1) _ _ _ (by simp)).mono ?_
  rintro e w1 ⟨hx1, kd, rfl, hk1⟩
  obtain ⟨ad, nd, cd, rfl⟩ := kids_slice hk1
  have hr0 := heap_ext (heap_ext (heap_new (w := w) (o := .cells #[.int .i64 7, .int .i64 f, .int .u64 c, .string t, .bool b] 24) rfl) ((Ext.refl _).alloc (.cells row0 82))) hx1
  have hr1 : w1.heap[w.heap.size + 1]? = some (.cells row0 82 (0, 0)) := heap_ext (heap_new (by simp)) hx1
  have hxw := (((Ext.refl w).alloc (.cells #[.int .i64 7, .int .i64 f, .int .u64 c, .string t, .bool b] 24)).alloc (.cells row0 82)).trans hx1
  have HL := Lib.hid (LdAt.start hxw hr0 hr1 hk1)
  clear hx1 hk1 hr0 hr1 hxw
  unfold trV
  go_upto_region 2 with (refine wpList_store_row rfl 82 _ _ rfl _ _ rfl rfl 82 _ (heap_new rfl) (info_tree _ _ _ _ _ _) rfl (by simp [Value.oneCell']) ?_)
  generalize w1.heap.size = g at HL ⊢
  refine wp_forget (fun w' => Hid (LdAt w w' 7 f c t b g (.slice ad nd cd))) HL ?_
  clear HL w1
  intro w1 HL
  have hcl := fun j => cell_of_row w1 _ j _ _ _ HL.out.2.1
  go_wp2_with fail
  have lb1 := (Array.getElem?_eq_some_iff.1 HL.out.2.2.1).1
  have lb0 : w.heap.size < w1.heap.size := by omega
  have lbg := (Array.getElem?_eq_some_iff.1 HL.out.2.2.2.2.1).1
  have lg := HL.out.2.2.2.1
  refine wp_region_mixX (w.heap.size + 1) (af := ?af) [true, true, true, true, false, false] 68 (by kernel_rfl) rfl (by kernel_rfl) ?q ?r
  case q =>
    intro x0
    simp only [pickT, if_true, if_false, Bool.false_eq_true]
    repeat (go_big_quiet_step ((first | (go_at_call 63; exact calls_ext (le_data _ _)) | (go_at_call 64; exact calls_ext (le_number _ _)))))
    exact rfl
  case r =>
    have hC1 : w.heap.size + 1 + 1 ≤ w1.heap.size := lb1
    have HD0 := Lib.hid HL.out.2.2.2.2.2
    simp only [pickF, if_true, if_false, Bool.false_eq_true]
    intro x1
    have e1 : Ext w1 x1.val := (Ext.refl _).drew.val x1
    have HD := Lib.hid (kids_ext HD0.out e1)
    generalize x1.val = wa at e1 HD ⊢
    have E := Lib.hid e1
    clear e1 x1 hcl HD0
    go_wp2_with fail
    refine (le_pair (w.heap.size + 1 + 1) (.data wFull) (.num c) _ _ _ (Nat.le_trans hC1 E.out.size) (kids_data _) (kids_num _)).mono ?_
    rintro e wb ⟨hb, ka, rfl, hka⟩
    have Ea := Lib.hid (E.out.trans hb)
    have HB := Lib.hid hb
    clear E hb
    go_wp2_with fail
    refine ⟨but_ext (but_refl _ w1) Ea.out, ?_⟩
    intro x2
    have e1 : Ext w1 x2.val := Ea.out.val x2
    have HD' := Lib.hid (kids_ext HD.out (HB.out.val x2))
    clear HD
    have HD := HD'
    clear HD'
    have HKa := Lib.hid (kids_ext hka x2.ext)
    clear hka
    generalize x2.val = wa at e1 HKa HD ⊢
    have E := Lib.hid e1
    clear e1 x2 HB Ea wb
    have hkl := HKa.out
    obtain ⟨a2, n2, c2, rfl⟩ := kids_slice hkl
    unfold trV
    go_wp2_with (refine wpList_store_row rfl 82 _ _ rfl _ _ rfl rfl 82 _ (heap_ext HL.out.2.2.1 E.out) (info_tree _ _ _ _ _ _) rfl (by simp [Value.oneCell']) ?_)
    refine ⟨but_setRow (but_ext (but_refl _ w1) E.out) _, ?_⟩
    intro x3
    go_wp2_with fail
    refine bodyPost_ret (results_cell_row rfl _ _ _ 82 _ (0, 0) _ rfl (heap_ext (setRow_heap _ _ _ _ _ _ (heap_ext HL.out.2.2.1 E.out)) x3.ext) Try.underlying82 rfl (info_tree _ _ _ _ _ _)) rfl ?_
    exact ⟨(Ext.setRow (HL.out.1.trans E.out) (Nat.le_succ _) _).trans x3.ext, _, rfl, kids_ext (kids_row hkl (Nat.le_succ_of_le hC)) x3.ext⟩

/-- The tree of a letter. -/
theorem le_tree (C : Nat) (l : Lt) (hk : 1 ≤ l.k ∧ l.k ≤ 7) (hf : l.f = 0 ∨ l.f = 1) (w : World) (hC : C ≤ w.heap.size) : Calls Try.prog 29 #[.agg #[.int .i64 l.k, .int .i64 l.f, .int .u64 l.c, .string l.t, .bool l.b]] w (TM C (treeL l) w) := by
  obtain ⟨k, f, c, t, b⟩ := l
  simp only at hk hf
  rcases kinds7 hk with rfl | rfl | rfl | rfl | rfl | rfl | rfl
  · exact le_tree1 C f c t b hf w hC
  · exact le_tree2 C f c t b w hC
  · exact le_tree3 C f c t b w hC
  · exact le_tree4 C f c t b w hC
  · exact le_tree5 C f c t b w hC
  · exact le_tree6 C f c t b w hC
  · exact le_tree7 C f c t b w hC
end Go.Proofs.Ytfibbhmmiemcoaa

/-
  The walks of grow over a whole tree, of Of, of letter.Build, of term.New, of Key. No condition.
-/
namespace Go.Proofs.Ytfibbhmmiemcoaa
open Go.RowKit
attribute [local go_sem] ExtOf.cell ExtOf.frozen ExtOf.lt ExtOf.le
attribute [local go_sem high] ExtOf.cell2 ExtOf.frozen2 ExtOf.lt2 ExtOf.cell3 ExtOf.frozen3 ExtOf.lt3

theorem idT_pre {L L' : List Tt} {t : Tt} (h : L <+: L') (ht : t ∈ L) : idT L' t = idT L t := by
  obtain ⟨M, rfl⟩ := h
  exact idT_app ht
theorem kids_pool {pb mb : Nat} {v v' : Value} {w w' : World} {t : Tt} {k : Value} (h : kidsAt (fun g => g ∉ pb :: mb :: rowB v) w t k) (K : Keeps (pb :: mb :: rowB v) w w') (hv : ∀ g ∈ rowB v', g ∈ rowB v ∨ w.heap.size ≤ g) : kidsAt (fun g => g ∉ pb :: mb :: rowB v') w' t k :=
  kids_mono (fun g h1 h2 => ⟨by
    simp only [List.mem_cons, not_or] at h1 ⊢
    refine ⟨h1.1, h1.2.1, fun hm => ?_⟩
    rcases hv g hm with h | h
    · exact h1.2.2 h
    · omega, Nat.lt_of_lt_of_le h2 K.size, K.block g h2 h1⟩) h
/-- Grown: the pool with a tree's terms, and its number. -/
def Grown (B pb mb : Nat) (v : Value) (L : List Tt) (t : Tt) (w : World) (e : Ending) (w' : World) : Prop :=
  e = .returned (.tuple #[.int .i64 (idT (growT t L) t), .int .i64 0]) ∧ Pooled B pb mb v (growT t L) w w'

theorem te_grow : ∀ (t : Tt) (k : Value) (L : List Tt) (B pb mb : Nat) (v : Value) (w : World), PoolOk L → PoolAt B pb mb v L w → kidsAt (fun g => g ∉ pb :: mb :: rowB v) w t k → FitT t → sizeT t ≤ 1000 → depthT t ≤ 60 → L.length + sizeT t ≤ 60000 →
    Calls Try.prog 57 #[.pointer (some ⟨pb, 0, none⟩), trV t k] w (Grown B pb mb v L t w) := by
  intro t
  have leaf : ∀ (t : Tt) (k f u m : Int) (s : ByteArray) (L : List Tt) (B pb mb : Nat) (v : Value) (w : World), kidsT t = [] → growT t L = addT L t → FitT t → PoolOk L → PoolAt B pb mb v L w → L.length ≤ 60000 → (∀ L', ndV (ndT L' t) = .agg #[.int .i64 k, .int .i64 f, .int .i64 u, .int .u64 m, .string s, .int .i64 0, .int .i64 0]) →
      Calls Try.prog 57 #[.pointer (some ⟨pb, 0, none⟩), .agg #[.int .i64 k, .int .i64 f, .int .i64 u, .int .u64 m, .string s, .slice none 0 0]] w (Grown B pb mb v L t w) := by
    intro t k f u m s L B pb mb v w hk hg hf ok hP hl hn
    unfold Grown
    rw [hg]
    refine te_grow0 B pb mb v L _ _ k f u m s w hP fun v' w' hP' => ?_
    have := te_make B pb mb v' L t w' ok hP' hl (by rw [hk]; simp) hf.own (by rw [hk]; simp)
    rw [hn] at this
    exact this
  have one : ∀ (t a : Tt) (k f u m : Int) (s : ByteArray) (x : Value) (L : List Tt) (B pb mb g : Nat) (v : Value) (w : World), (∀ (k : Value) (L : List Tt) (B pb mb : Nat) (v : Value) (w : World), PoolOk L → PoolAt B pb mb v L w → kidsAt (fun g => g ∉ pb :: mb :: rowB v) w a k → FitT a → sizeT a ≤ 1000 → depthT a ≤ 60 → L.length + sizeT a ≤ 60000 →
      Calls Try.prog 57 #[.pointer (some ⟨pb, 0, none⟩), trV a k] w (Grown B pb mb v L a w)) → kidsT t = [a] → (∀ L, growT t L = addT (growT a L) t) → FitT t → FitT a → sizeT a ≤ 1000 → depthT a ≤ 60 → PoolOk L → PoolAt B pb mb v L w → L.length + sizeT a + 1 ≤ 60000 → (∀ L', ndV (ndT L' t) = .agg #[.int .i64 k, .int .i64 f, .int .i64 u, .int .u64 m, .string s, .int .i64 (idT L' a), .int .i64 0]) →
      g ∉ pb :: mb :: rowB v → g < w.heap.size → (∀ j u, (trC a x)[j]? = some u → w.cell? ⟨g, j, none⟩ = some u) → kidsAt (fun g => g ∉ pb :: mb :: rowB v) w a x →
      Calls Try.prog 57 #[.pointer (some ⟨pb, 0, none⟩), .agg #[.int .i64 k, .int .i64 f, .int .i64 u, .int .u64 m, .string s, .slice (some ⟨g, 0, none⟩) 1 1]] w (Grown B pb mb v L t w) := by
    intro t a k f u m s x L B pb mb g v w ih hk hg hf hfa hsz hdp ok hP hl hn hok hlt hc hka
    obtain ⟨a1, n1, e1, rfl⟩ := kids_slice hka
    unfold Grown
    obtain ⟨ok1, m1, p1, l1⟩ := growT_ok a ok
    rw [hg]
    refine te_grow1 B pb mb v L _ _ k f u m s _ _ _ _ _ a1 n1 e1 (idT (growT a L) a) (growT a L) g w hP (fun v' w' hP' K hv => ih _ L B pb mb v' w' ok hP' (kids_pool hka K hv) hfa hsz hdp (by omega)) (fun v' w' hP' => ?_)
      (fun w' K j u hj => K.cell hok (hc j u hj)) (fun w' K => Nat.lt_of_lt_of_le hlt K.size)
    have := te_make B pb mb v' (growT a L) t w' ok1 hP' (by omega) (by rw [hk]; simpa using m1) hf.own (by rw [hk]; simpa using ⟨hsz, hdp⟩)
    rw [hn] at this
    exact this
  induction t with
  | name n => intro k L B pb mb v w ok hP hk hf; exact hf.elim
  | hash a ih => intro k L B pb mb v w ok hP hk hf; exact hf.elim
  | num c =>
    intro k L B pb mb v w ok hP hk hf h1 h2 h3
    rw [show k = .slice none 0 0 from hk]
    exact leaf (.num c) 2 0 0 c { data := #[] } L B pb mb v w rfl rfl hf ok hP (by omega) (fun _ => rfl)
  | data s =>
    intro k L B pb mb v w ok hP hk hf h1 h2 h3
    rw [show k = .slice none 0 0 from hk]
    exact leaf (.data s) 3 0 0 0 s L B pb mb v w rfl rfl hf ok hP (by omega) (fun _ => rfl)
  | key c =>
    intro k L B pb mb v w ok hP hk hf h1 h2 h3
    rw [show k = .slice none 0 0 from hk]
    exact leaf (.key c) 6 c 0 0 { data := #[] } L B pb mb v w rfl rfl hf ok hP (by omega) (fun _ => rfl)
  | sign c a ih =>
    intro k L B pb mb v w ok hP hk hf h1 h2 h3
    obtain ⟨g, x, rfl, hok, hlt, hc, hka⟩ := hk
    simp only [sizeT, depthT] at h1 h2 h3
    exact one (.sign c a) a 7 c 0 0 { data := #[] } x L B pb mb g v w ih rfl (fun _ => rfl) hf hf.2 (by omega) (by omega) ok hP (by omega) (fun _ => rfl) hok hlt hc hka
  | prom f t a ih =>
    intro k L B pb mb v w ok hP hk hf h1 h2 h3
    obtain ⟨g, x, rfl, hok, hlt, hc, hka⟩ := hk
    simp only [sizeT, depthT] at h1 h2 h3
    exact one (.prom f t a) a 8 f t 0 { data := #[] } x L B pb mb g v w ih rfl (fun _ => rfl) hf hf.2 (by omega) (by omega) ok hP (by omega) (fun _ => rfl) hok hlt hc hka
  | fake f t a ih =>
    intro k L B pb mb v w ok hP hk hf h1 h2 h3
    obtain ⟨g, x, rfl, hok, hlt, hc, hka⟩ := hk
    simp only [sizeT, depthT] at h1 h2 h3
    exact one (.fake f t a) a 9 f t 0 { data := #[] } x L B pb mb g v w ih rfl (fun _ => rfl) hf hf.2 (by omega) (by omega) ok hP (by omega) (fun _ => rfl) hok hlt hc hka
  | pair a b iha ihb =>
    intro k L B pb mb v w ok hP hk hf h1 h2 h3
    obtain ⟨g, x, y, rfl, hok, hlt, hc, hka, hkb⟩ := hk
    simp only [sizeT, depthT] at h1 h2 h3
    have hda : depthT a ≤ 59 := by have := Nat.le_max_left (depthT a) (depthT b); omega
    have hdb : depthT b ≤ 59 := by have := Nat.le_max_right (depthT a) (depthT b); omega
    obtain ⟨a1, n1, e1, rfl⟩ := kids_slice hka
    obtain ⟨a2, n2, e2, rfl⟩ := kids_slice hkb
    obtain ⟨ok1, m1, p1, l1⟩ := growT_ok a ok
    obtain ⟨ok2, m2, p2, l2⟩ := growT_ok b ok1
    have hid : idT (growT b (growT a L)) a = idT (growT a L) a := idT_pre p2 m1
    refine te_grow2 B pb mb v L _ _ 4 0 0 0 { data := #[] } _ _ _ _ _ a1 n1 e1 (idT (growT a L) a) (growT a L) _ _ _ _ _ a2 n2 e2 (idT (growT b (growT a L)) b) (growT b (growT a L)) g w hP
      (fun v' w' hP' K hv => iha _ L B pb mb v' w' ok hP' (kids_pool hka K hv) hf.1 (by omega) (by omega) (by omega))
      (fun v' w' hP' K hv => ihb _ _ B pb mb v' w' ok1 hP' (kids_pool hkb K hv) hf.2 (by omega) (by omega) (by omega)) (fun v' w' hP' => ?_)
      (fun w' K j u hj => K.cell hok (hc j u hj)) (fun w' K => Nat.lt_of_lt_of_le hlt K.size)
    have := te_make B pb mb v' _ (.pair a b) w' ok2 hP' (by omega) (by simp only [kidsT, List.mem_cons, List.not_mem_nil, or_false]; rintro u (rfl | rfl); exact p2.subset m1; exact m2) trivial (by simp only [kidsT, List.mem_cons, List.not_mem_nil, or_false]; rintro u (rfl | rfl); exact ⟨by omega, by omega⟩; exact ⟨by omega, by omega⟩)
    rw [show ndV (ndT (growT b (growT a L)) (.pair a b)) = .agg #[.int .i64 4, .int .i64 0, .int .i64 0, .int .u64 0, .string { data := #[] }, .int .i64 (idT (growT b (growT a L)) a), .int .i64 (idT (growT b (growT a L)) b)] from rfl, hid] at this
    exact this

theorem Pooled.of_ext {B pb mb : Nat} {v : Value} {L' : List Tt} {w w1 w2 : World} (e : Ext w w1) (h : Pooled B pb mb v L' w1 w2) : Pooled B pb mb v L' w w2 := by
  obtain ⟨v', h1, h2, h3⟩ := h
  refine ⟨v', h1, ⟨h2.os.trans e.os, h2.tape.trans e.tape, h2.output.trans e.output, Nat.le_trans e.size h2.size, fun k hk hx => (h2.block k (Nat.lt_of_lt_of_le hk e.size) hx).trans (e.block k hk)⟩, fun g hg => (h3 g hg).imp id fun h => Nat.le_trans e.size h⟩
theorem keeps_ext' {X : List Nat} {w a b : World} (h : Ext w a) (k : Keeps X a b) (hX : ∀ g ∈ X, w.heap.size ≤ g) : Ext w b :=
  ⟨k.os.trans h.os, k.tape.trans h.tape, k.output.trans h.output, Nat.le_trans h.size k.size, fun i hi => (k.block i (Nat.lt_of_lt_of_le hi h.size) fun he => absurd (hX i he) (by omega)).trans (h.block i hi)⟩

set_option maxRecDepth 100000 in
set_option maxHeartbeats 3200000 in
theorem te_of (t : Tt) (k : Value) (L : List Tt) (B pb mb : Nat) (v : Value) (w : World) (ok : PoolOk L) (hP : PoolAt B pb mb v L w) (hk : kidsAt (fun g => g ∉ pb :: mb :: rowB v) w t k) (hf : FitT t) (hsz : sizeT t ≤ 1000) (hdp : depthT t ≤ 60) (hL : L.length + sizeT t ≤ 60000) :
    Calls Try.prog 28 #[.pointer (some ⟨pb, 0, none⟩), trV t k] w (Grown B pb mb v L t w) := by
  obtain ⟨ak, nk, ek, rfl⟩ := kids_slice hk
  have HK := Lib.hid hk
  have HP := Lib.hid hP
  have lo : Hid (pb < w.heap.size) := Lib.hid (by have := hP.lo; omega)
  have HF := Lib.hid (And.intro hf (And.intro ok (And.intro hsz (And.intro hdp hL))))
  clear hP hk hf hsz hdp hL ok
  unfold trV
  go_enter Try.func28, Try.ntmps28
  go_wp2_with fail
  have HE := Lib.hid (((Ext.refl w).alloc (.cells (trC t (.slice ak nk ek)).toArray 82)).alloc (.cells #[.int .i64 0] 3))
  refine (te_looks t (.slice ak nk ek) _ (w.heap.size + 1) 0 0 HF.out.1 (kids_mono (fun g h1 h2 => ⟨by omega, Nat.lt_of_lt_of_le h2 HE.out.size, HE.out.block g h2⟩) HK.out) (heap_new (by simp)) (by omega) (by have := HF.out.2.2.1; omega) (by omega) (by have := HF.out.2.2.2.1; omega)).mono ?_
  rintro e w3 ⟨rfl, hk3, _⟩
  have hx3 := keeps_ext' HE.out hk3 (by simp)
  have hr3 : w3.heap[w.heap.size]? = some (.cells (trC t (.slice ak nk ek)).toArray 82 (0, 0)) := (hk3.block _ (by simp; omega) (by simp)).trans (heap_ext (heap_new rfl) ((Ext.refl _).alloc _))
  have HX3 := Lib.hid hx3
  have HP3 := Lib.hid (HP.out.ext hx3)
  have HR3 := Lib.hid hr3
  have hcp := fun j => cell_of_row w3 _ j _ _ _ HP3.out.head
  have lb3 := (Array.getElem?_eq_some_iff.1 HP3.out.head).1
  have lr3 := (Array.getElem?_eq_some_iff.1 hr3).1
  obtain ⟨a, cap, hv, _, _⟩ := own_view HP3.out.row
  subst hv
  clear hk3 hx3 hr3 HE
  go_wp2_with (refine wpList_load_row rfl 82 _ rfl _ rfl _ _ (0, 0) _ (HR3.out) Try.underlying82 rfl (info_tree _ _ _ _ _ _) ?_)
  refine (te_grow t (.slice ak nk ek) L B pb mb _ w3 HF.out.2.1 HP3.out (kids_ext HK.out HX3.out) HF.out.1 HF.out.2.2.1 HF.out.2.2.2.1 HF.out.2.2.2.2).mono ?_
  rintro e w4 ⟨rfl, hp4⟩
  have HP4 := Lib.hid (Pooled.of_ext HX3.out hp4)
  clear hp4
  go_wp2_with fail
  refine bodyPost_ret (results_tmp2 rfl _ _ _) rfl ?_
  exact ⟨rfl, HP4.out⟩
end Go.Proofs.Ytfibbhmmiemcoaa
