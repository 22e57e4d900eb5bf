/-
  Walks: a letter's error; what a verdict says. No condition.
-/
import Derived.Test.YtfibbhmmiemcoaaML22
set_option linter.all false
namespace Go.Proofs.Ytfibbhmmiemcoaa
open Go.RowKit
attribute [local go_sem ↓] eql_lEq eql_sEq eql_eEq eql_oEq neq_lEq neq_sEq neq_eEq neq_oEq eql_vEq neq_vEq eql_nil
attribute [local go_sem] ExtOf.cell ExtOf.frozen ExtOf.lt ExtOf.le
attribute [local go_sem high] ExtOf.cell2 ExtOf.frozen2 ExtOf.lt2 ExtOf.cell3 ExtOf.frozen3 ExtOf.lt3

def kindsC : Array Value := #[.bool false, .bool false, .bool false, .string { data := #[] },
  .bool true, .bool true, .bool true, .string { data := #[112, 114, 111, 109, 105, 115, 101] }, .bool true, .bool true, .bool false, .string { data := #[115, 105, 103, 110] },
  .bool false, .bool false, .bool false, .string { data := #[97, 98, 111, 114, 116] }, .bool true, .bool true, .bool true, .string { data := #[114, 101, 115, 111, 108, 118, 101] },
  .bool false, .bool false, .bool false, .string { data := #[116, 111, 107, 101, 110] }, .bool false, .bool true, .bool false, .string { data := #[105, 110, 115, 116, 101, 97, 100] },
  .bool false, .bool false, .bool false, .string { data := #[102, 117, 108, 108] }]
theorem info_kinds : (Try.prog.info? 57).map (·.size) = some 32 := by kernel_rfl
theorem info_kind : (Try.prog.info? 56).map (·.size) = some 4 := by kernel_rfl

set_option maxRecDepth 100000 in
set_option maxHeartbeats 1600000 in
theorem le_kinds (w : World) : Calls Try.prog 21 #[] w fun e w' => e = .returned (.agg kindsC) ∧ Ext w w' := by
  unfold kindsC
  go_enter Try.func21, Try.ntmps21
  go_wp2_with (refine wpList_store_row rfl 57 _ _ rfl _ _ rfl rfl 57 _ (heap_new rfl) info_kinds rfl (by simp [Value.oneCell']) ?_)
  exact bodyPost_ret (results_cell_row rfl _ _ _ _ _ (0, 0) _ rfl (setRow_heap _ _ _ _ _ _ (heap_new rfl)) Try.underlying57 rfl info_kinds) rfl ⟨rfl, ((Ext.refl _).alloc _).setRow (Nat.le_refl _) _⟩

theorem idx1 (w : World) : (Instr.index 57 (.agg kindsC) (.int .i64 1)).run Try.prog w = .ok (.agg #[.bool true, .bool true, .bool true, .string { data := #[112, 114, 111, 109, 105, 115, 101] }]) w := by kernel_rfl
theorem idx2 (w : World) : (Instr.index 57 (.agg kindsC) (.int .i64 2)).run Try.prog w = .ok (.agg #[.bool true, .bool true, .bool false, .string { data := #[115, 105, 103, 110] }]) w := by kernel_rfl
theorem idx3 (w : World) : (Instr.index 57 (.agg kindsC) (.int .i64 3)).run Try.prog w = .ok (.agg #[.bool false, .bool false, .bool false, .string { data := #[97, 98, 111, 114, 116] }]) w := by kernel_rfl
theorem idx4 (w : World) : (Instr.index 57 (.agg kindsC) (.int .i64 4)).run Try.prog w = .ok (.agg #[.bool true, .bool true, .bool true, .string { data := #[114, 101, 115, 111, 108, 118, 101] }]) w := by kernel_rfl
theorem idx5 (w : World) : (Instr.index 57 (.agg kindsC) (.int .i64 5)).run Try.prog w = .ok (.agg #[.bool false, .bool false, .bool false, .string { data := #[116, 111, 107, 101, 110] }]) w := by kernel_rfl
theorem idx6 (w : World) : (Instr.index 57 (.agg kindsC) (.int .i64 6)).run Try.prog w = .ok (.agg #[.bool false, .bool true, .bool false, .string { data := #[105, 110, 115, 116, 101, 97, 100] }]) w := by kernel_rfl
theorem idx7 (w : World) : (Instr.index 57 (.agg kindsC) (.int .i64 7)).run Try.prog w = .ok (.agg #[.bool false, .bool false, .bool false, .string { data := #[102, 117, 108, 108] }]) w := by kernel_rfl

theorem empty_eq (t : ByteArray) : (t.toList.isEmpty = true) ↔ t = { data := #[] } := by
  rw [← toList_eq_iff, List.isEmpty_iff]; simp [ByteArray.toList_eq]
theorem empty_ne (t : ByteArray) : (t.toList.isEmpty = false) ↔ ¬ t = { data := #[] } := by
  rw [← empty_eq, Bool.not_eq_true]

set_option maxRecDepth 100000 in
set_option maxHeartbeats 3200000 in
theorem le_check1 (f c : Int) (t : ByteArray) (b : Bool) (w : World) : Calls Try.prog 8 #[.agg #[.int .i64 1, .int .i64 f, .int .u64 c, .string t, .bool b]] w fun e w' => e = .returned (.int .i64 (lchk ⟨1, f, c, t, b⟩)) ∧ Ext w w' := by
  have hkd := le_kinds
  unfold kindsC at hkd
  have hix := idx1
  unfold kindsC at hix
  have HK := Lib.hid hkd
  clear hkd
  go_enter Try.func8, Try.ntmps8
  go_wp2_with fail
  refine wp_forget (fun w' => w'.heap[w.heap.size]? = some (.cells #[.int .i64 1, .int .i64 f, .int .u64 c, .string t, .bool b] 24 (0, 0)) ∧ Ext w w') ⟨heap_new rfl, (Ext.refl _).alloc _⟩ ?_
  rintro W1 ⟨h1, x1⟩
  have c1 := fun j => cell_of_row W1 _ j _ _ _ h1
  have l1 : w.heap.size < W1.heap.size := (Array.getElem?_eq_some_iff.1 h1).1
  have H1 := Lib.hid h1
  have X1 := Lib.hid x1
  clear h1 x1
  refine wp_region_mixF (af := ?af) #[.bool false, .bool false, .bool false, .string { data := #[] }] 56 [true, true, true, true, false, false] [false, false, false, false, false, false] 53 0 (C := Ext W1) (by kernel_rfl) rfl (by kernel_rfl) (fun _ _ h e => Ext.trans h e) (Ext.refl _).drew ?q ?r
  case q =>
    intro w' hw'
    obtain ⟨y, rfl⟩ := ext_of hw'
    simp only [pickT, if_true, if_false, Bool.false_eq_true]
    repeat (go_big_quiet_step ((go_at_call 21; exact calls_ext (HK.out _))))
    exact rfl
  case r =>
    simp only [restL, if_true, if_false, Bool.false_eq_true]
    refine ⟨fun a w => by simp [go_sem], ?_⟩
    intro x1 gT hgT hzT
    intro x3
    go_wp2_with (refine wpList_store_row rfl 56 _ _ rfl gT _ rfl rfl 56 _ (heap_ext hzT x3.ext) info_kind rfl (by simp [Value.oneCell']) ?_)
    refine ⟨(((Ext.refl W1).drew.val x1).val x3).setRow hgT _, ?_⟩
    intro x2
    have e1 : x2.val.heap[gT]? = some (.cells #[.bool true, .bool true, .bool true, .string { data := #[112, 114, 111, 109, 105, 115, 101] }] 56 (0, 0)) := heap_ext (setRow_heap _ _ _ _ _ _ (heap_ext hzT x3.ext)) x2.ext
    have eX : Ext W1 x2.val := (((Ext.refl W1).drew.val x1).val x3).setRow hgT _ |>.val x2
    have e2 := heap_ext H1.out eX
    have EX := Lib.hid (X1.out.trans eX)
    generalize x2.val = W2 at e1 e2 EX ⊢
    clear eX x2 hzT x3 x1 c1 l1 H1 X1 HK hix
    have c1 := fun j => cell_of_row W2 _ j _ _ _ e1
    have c2 := fun j => cell_of_row W2 _ j _ _ _ e2
    clear e1 e2
    clear hgT
    have key : ∀ v : Int, (lchk ⟨1, f, c, t, b⟩ = v) → Hid (lchk ⟨1, f, c, t, b⟩ = v) := fun _ h => Lib.hid h
    by_cases hf : f = 0 ∨ f = 1
    case neg =>
      have hK := key 110 (by unfold lchk; rw [if_neg (by simp), if_pos hf])
      have hf0 : (f != 0) = true := by simp; omega
      have hf1 : (f != 1) = true := by simp; omega
      clear hf
      go_wp2_with fail
      go_ret
      exact ⟨by rw [hK.out]; rfl, EX.out⟩
    by_cases hs : 64 < t.size
    case pos =>
      rcases hf with rfl | rfl
      all_goals
        have hK := key 1 (by unfold lchk; rw [if_neg (by simp), if_neg (by simp), if_neg (by simp), if_neg (by simp), if_neg (by simp), if_pos hs])
        have hs' : (64 : Int) < (t.size : Int) := by omega
        clear hs
        go_wp2_with fail
        go_ret
        exact ⟨by rw [hK.out]; rfl, EX.out⟩
    rcases hf with rfl | rfl
    all_goals
      have hK := key 0 (by unfold lchk; rw [if_neg (by simp), if_neg (by simp), if_neg (by simp), if_neg (by simp), if_neg (by simp), if_neg (by simp; try omega)])
      have hs' : (t.size : Int) ≤ 64 := by omega
      clear hs
      go_wp2_with fail
      go_ret
      exact ⟨by rw [hK.out]; rfl, EX.out⟩

set_option maxRecDepth 100000 in
set_option maxHeartbeats 3200000 in
theorem le_check2 (f c : Int) (t : ByteArray) (b : Bool) (w : World) : Calls Try.prog 8 #[.agg #[.int .i64 2, .int .i64 f, .int .u64 c, .string t, .bool b]] w fun e w' => e = .returned (.int .i64 (lchk ⟨2, f, c, t, b⟩)) ∧ Ext w w' := by
  have hkd := le_kinds
  unfold kindsC at hkd
  have hix := idx2
  unfold kindsC at hix
  have HK := Lib.hid hkd
  clear hkd
  go_enter Try.func8, Try.ntmps8
  go_wp2_with fail
  refine wp_forget (fun w' => w'.heap[w.heap.size]? = some (.cells #[.int .i64 2, .int .i64 f, .int .u64 c, .string t, .bool b] 24 (0, 0)) ∧ Ext w w') ⟨heap_new rfl, (Ext.refl _).alloc _⟩ ?_
  rintro W1 ⟨h1, x1⟩
  have c1 := fun j => cell_of_row W1 _ j _ _ _ h1
  have l1 : w.heap.size < W1.heap.size := (Array.getElem?_eq_some_iff.1 h1).1
  have H1 := Lib.hid h1
  have X1 := Lib.hid x1
  clear h1 x1
  refine wp_region_mixF (af := ?af) #[.bool false, .bool false, .bool false, .string { data := #[] }] 56 [true, true, true, true, false, false] [false, false, false, false, false, false] 53 0 (C := Ext W1) (by kernel_rfl) rfl (by kernel_rfl) (fun _ _ h e => Ext.trans h e) (Ext.refl _).drew ?q ?r
  case q =>
    intro w' hw'
    obtain ⟨y, rfl⟩ := ext_of hw'
    simp only [pickT, if_true, if_false, Bool.false_eq_true]
    repeat (go_big_quiet_step ((go_at_call 21; exact calls_ext (HK.out _))))
    exact rfl
  case r =>
    simp only [restL, if_true, if_false, Bool.false_eq_true]
    refine ⟨fun a w => by simp [go_sem], ?_⟩
    intro x1 gT hgT hzT
    intro x3
    go_wp2_with (refine wpList_store_row rfl 56 _ _ rfl gT _ rfl rfl 56 _ (heap_ext hzT x3.ext) info_kind rfl (by simp [Value.oneCell']) ?_)
    refine ⟨(((Ext.refl W1).drew.val x1).val x3).setRow hgT _, ?_⟩
    intro x2
    have e1 : x2.val.heap[gT]? = some (.cells #[.bool true, .bool true, .bool false, .string { data := #[115, 105, 103, 110] }] 56 (0, 0)) := heap_ext (setRow_heap _ _ _ _ _ _ (heap_ext hzT x3.ext)) x2.ext
    have eX : Ext W1 x2.val := (((Ext.refl W1).drew.val x1).val x3).setRow hgT _ |>.val x2
    have e2 := heap_ext H1.out eX
    have EX := Lib.hid (X1.out.trans eX)
    generalize x2.val = W2 at e1 e2 EX ⊢
    clear eX x2 hzT x3 x1 c1 l1 H1 X1 HK hix
    have c1 := fun j => cell_of_row W2 _ j _ _ _ e1
    have c2 := fun j => cell_of_row W2 _ j _ _ _ e2
    clear e1 e2
    clear hgT
    have key : ∀ v : Int, (lchk ⟨2, f, c, t, b⟩ = v) → Hid (lchk ⟨2, f, c, t, b⟩ = v) := fun _ h => Lib.hid h
    by_cases hf : f = 0 ∨ f = 1
    case neg =>
      have hK := key 110 (by unfold lchk; rw [if_neg (by simp), if_pos hf])
      have hf0 : (f != 0) = true := by simp; omega
      have hf1 : (f != 1) = true := by simp; omega
      clear hf
      go_wp2_with fail
      go_ret
      exact ⟨by rw [hK.out]; rfl, EX.out⟩
    cases b
    case true =>
      rcases hf with rfl | rfl
      all_goals
        have hK := key 110 (by unfold lchk; rw [if_neg (by simp), if_neg (by simp), if_neg (by simp), if_neg (by simp), if_pos (by simp)])
        go_wp2_with fail
        go_ret
        exact ⟨by rw [hK.out]; rfl, EX.out⟩
    by_cases hs : 64 < t.size
    case pos =>
      rcases hf with rfl | rfl
      all_goals
        have hK := key 1 (by unfold lchk; rw [if_neg (by simp), if_neg (by simp), if_neg (by simp), if_neg (by simp), if_neg (by simp), if_pos hs])
        have hs' : (64 : Int) < (t.size : Int) := by omega
        clear hs
        go_wp2_with fail
        go_ret
        exact ⟨by rw [hK.out]; rfl, EX.out⟩
    rcases hf with rfl | rfl
    all_goals
      have hK := key 0 (by unfold lchk; rw [if_neg (by simp), if_neg (by simp), if_neg (by simp), if_neg (by simp), if_neg (by simp), if_neg (by simp; try omega)])
      have hs' : (t.size : Int) ≤ 64 := by omega
      clear hs
      go_wp2_with fail
      go_ret
      exact ⟨by rw [hK.out]; rfl, EX.out⟩

set_option maxRecDepth 100000 in
set_option maxHeartbeats 3200000 in
theorem le_check3 (f c : Int) (t : ByteArray) (b : Bool) (w : World) : Calls Try.prog 8 #[.agg #[.int .i64 3, .int .i64 f, .int .u64 c, .string t, .bool b]] w fun e w' => e = .returned (.int .i64 (lchk ⟨3, f, c, t, b⟩)) ∧ Ext w w' := by
  have hkd := le_kinds
  unfold kindsC at hkd
  have hix := idx3
  unfold kindsC at hix
  have HK := Lib.hid hkd
  clear hkd
  go_enter Try.func8, Try.ntmps8
  go_wp2_with fail
  refine wp_forget (fun w' => w'.heap[w.heap.size]? = some (.cells #[.int .i64 3, .int .i64 f, .int .u64 c, .string t, .bool b] 24 (0, 0)) ∧ Ext w w') ⟨heap_new rfl, (Ext.refl _).alloc _⟩ ?_
  rintro W1 ⟨h1, x1⟩
  have c1 := fun j => cell_of_row W1 _ j _ _ _ h1
  have l1 : w.heap.size < W1.heap.size := (Array.getElem?_eq_some_iff.1 h1).1
  have H1 := Lib.hid h1
  have X1 := Lib.hid x1
  clear h1 x1
  refine wp_region_mixF (af := ?af) #[.bool false, .bool false, .bool false, .string { data := #[] }] 56 [true, true, true, true, false, false] [false, false, false, false, false, false] 53 0 (C := Ext W1) (by kernel_rfl) rfl (by kernel_rfl) (fun _ _ h e => Ext.trans h e) (Ext.refl _).drew ?q ?r
  case q =>
    intro w' hw'
    obtain ⟨y, rfl⟩ := ext_of hw'
    simp only [pickT, if_true, if_false, Bool.false_eq_true]
    repeat (go_big_quiet_step ((go_at_call 21; exact calls_ext (HK.out _))))
    exact rfl
  case r =>
    simp only [restL, if_true, if_false, Bool.false_eq_true]
    refine ⟨fun a w => by simp [go_sem], ?_⟩
    intro x1 gT hgT hzT
    intro x3
    go_wp2_with (refine wpList_store_row rfl 56 _ _ rfl gT _ rfl rfl 56 _ (heap_ext hzT x3.ext) info_kind rfl (by simp [Value.oneCell']) ?_)
    refine ⟨(((Ext.refl W1).drew.val x1).val x3).setRow hgT _, ?_⟩
    intro x2
    have e1 : x2.val.heap[gT]? = some (.cells #[.bool false, .bool false, .bool false, .string { data := #[97, 98, 111, 114, 116] }] 56 (0, 0)) := heap_ext (setRow_heap _ _ _ _ _ _ (heap_ext hzT x3.ext)) x2.ext
    have eX : Ext W1 x2.val := (((Ext.refl W1).drew.val x1).val x3).setRow hgT _ |>.val x2
    have e2 := heap_ext H1.out eX
    have EX := Lib.hid (X1.out.trans eX)
    generalize x2.val = W2 at e1 e2 EX ⊢
    clear eX x2 hzT x3 x1 c1 l1 H1 X1 HK hix
    have c1 := fun j => cell_of_row W2 _ j _ _ _ e1
    have c2 := fun j => cell_of_row W2 _ j _ _ _ e2
    clear e1 e2
    clear hgT
    have key : ∀ v : Int, (lchk ⟨3, f, c, t, b⟩ = v) → Hid (lchk ⟨3, f, c, t, b⟩ = v) := fun _ h => Lib.hid h
    by_cases hf : f = 0 ∨ f = 1
    case neg =>
      have hK := key 110 (by unfold lchk; rw [if_neg (by simp), if_pos hf])
      have hf0 : (f != 0) = true := by simp; omega
      have hf1 : (f != 1) = true := by simp; omega
      clear hf
      go_wp2_with fail
      go_ret
      exact ⟨by rw [hK.out]; rfl, EX.out⟩
    by_cases hf0 : f = 0
    case neg =>
      have hf1 : f = 1 := by omega
      subst hf1
      have hK := key 110 (by unfold lchk; rw [if_neg (by simp), if_neg (by simp), if_pos (by simp)])
      clear hf hf0
      go_wp2_with fail
      go_ret
      exact ⟨by rw [hK.out]; rfl, EX.out⟩
    subst hf0
    by_cases ht : t = { data := #[] }
    case neg =>
      have hK := key 110 (by unfold lchk; rw [if_neg (by simp), if_neg (by simp), if_neg (by simp), if_pos ⟨by simp, ht⟩])
      have ht' : t.toList.isEmpty = false := (empty_ne t).2 ht
      clear hf ht
      go_wp2_with fail
      go_ret
      exact ⟨by rw [hK.out]; rfl, EX.out⟩
    subst ht
    cases b
    case true =>
      have hK := key 110 (by unfold lchk; rw [if_neg (by simp), if_neg (by simp), if_neg (by simp), if_neg (by simp), if_pos (by simp)])
      clear hf
      go_wp2_with fail
      go_ret
      exact ⟨by rw [hK.out]; rfl, EX.out⟩
    have hK := key 0 (by unfold lchk; rw [if_neg (by simp), if_neg (by simp), if_neg (by simp), if_neg (by simp), if_neg (by simp), if_neg (by simp [ByteArray.size])])
    clear hf
    go_wp2_with fail
    go_ret
    exact ⟨by rw [hK.out]; rfl, EX.out⟩

set_option maxRecDepth 100000 in
set_option maxHeartbeats 3200000 in
theorem le_check4 (f c : Int) (t : ByteArray) (b : Bool) (w : World) : Calls Try.prog 8 #[.agg #[.int .i64 4, .int .i64 f, .int .u64 c, .string t, .bool b]] w fun e w' => e = .returned (.int .i64 (lchk ⟨4, f, c, t, b⟩)) ∧ Ext w w' := by
  have hkd := le_kinds
  unfold kindsC at hkd
  have hix := idx4
  unfold kindsC at hix
  have HK := Lib.hid hkd
  clear hkd
  go_enter Try.func8, Try.ntmps8
  go_wp2_with fail
  refine wp_forget (fun w' => w'.heap[w.heap.size]? = some (.cells #[.int .i64 4, .int .i64 f, .int .u64 c, .string t, .bool b] 24 (0, 0)) ∧ Ext w w') ⟨heap_new rfl, (Ext.refl _).alloc _⟩ ?_
  rintro W1 ⟨h1, x1⟩
  have c1 := fun j => cell_of_row W1 _ j _ _ _ h1
  have l1 : w.heap.size < W1.heap.size := (Array.getElem?_eq_some_iff.1 h1).1
  have H1 := Lib.hid h1
  have X1 := Lib.hid x1
  clear h1 x1
  refine wp_region_mixF (af := ?af) #[.bool false, .bool false, .bool false, .string { data := #[] }] 56 [true, true, true, true, false, false] [false, false, false, false, false, false] 53 0 (C := Ext W1) (by kernel_rfl) rfl (by kernel_rfl) (fun _ _ h e => Ext.trans h e) (Ext.refl _).drew ?q ?r
  case q =>
    intro w' hw'
    obtain ⟨y, rfl⟩ := ext_of hw'
    simp only [pickT, if_true, if_false, Bool.false_eq_true]
    repeat (go_big_quiet_step ((go_at_call 21; exact calls_ext (HK.out _))))
    exact rfl
  case r =>
    simp only [restL, if_true, if_false, Bool.false_eq_true]
    refine ⟨fun a w => by simp [go_sem], ?_⟩
    intro x1 gT hgT hzT
    intro x3
    go_wp2_with (refine wpList_store_row rfl 56 _ _ rfl gT _ rfl rfl 56 _ (heap_ext hzT x3.ext) info_kind rfl (by simp [Value.oneCell']) ?_)
    refine ⟨(((Ext.refl W1).drew.val x1).val x3).setRow hgT _, ?_⟩
    intro x2
    have e1 : x2.val.heap[gT]? = some (.cells #[.bool true, .bool true, .bool true, .string { data := #[114, 101, 115, 111, 108, 118, 101] }] 56 (0, 0)) := heap_ext (setRow_heap _ _ _ _ _ _ (heap_ext hzT x3.ext)) x2.ext
    have eX : Ext W1 x2.val := (((Ext.refl W1).drew.val x1).val x3).setRow hgT _ |>.val x2
    have e2 := heap_ext H1.out eX
    have EX := Lib.hid (X1.out.trans eX)
    generalize x2.val = W2 at e1 e2 EX ⊢
    clear eX x2 hzT x3 x1 c1 l1 H1 X1 HK hix
    have c1 := fun j => cell_of_row W2 _ j _ _ _ e1
    have c2 := fun j => cell_of_row W2 _ j _ _ _ e2
    clear e1 e2
    clear hgT
    have key : ∀ v : Int, (lchk ⟨4, f, c, t, b⟩ = v) → Hid (lchk ⟨4, f, c, t, b⟩ = v) := fun _ h => Lib.hid h
    by_cases hf : f = 0 ∨ f = 1
    case neg =>
      have hK := key 110 (by unfold lchk; rw [if_neg (by simp), if_pos hf])
      have hf0 : (f != 0) = true := by simp; omega
      have hf1 : (f != 1) = true := by simp; omega
      clear hf
      go_wp2_with fail
      go_ret
      exact ⟨by rw [hK.out]; rfl, EX.out⟩
    by_cases hs : 64 < t.size
    case pos =>
      rcases hf with rfl | rfl
      all_goals
        have hK := key 1 (by unfold lchk; rw [if_neg (by simp), if_neg (by simp), if_neg (by simp), if_neg (by simp), if_neg (by simp), if_pos hs])
        have hs' : (64 : Int) < (t.size : Int) := by omega
        clear hs
        go_wp2_with fail
        go_ret
        exact ⟨by rw [hK.out]; rfl, EX.out⟩
    rcases hf with rfl | rfl
    all_goals
      have hK := key 0 (by unfold lchk; rw [if_neg (by simp), if_neg (by simp), if_neg (by simp), if_neg (by simp), if_neg (by simp), if_neg (by simp; try omega)])
      have hs' : (t.size : Int) ≤ 64 := by omega
      clear hs
      go_wp2_with fail
      go_ret
      exact ⟨by rw [hK.out]; rfl, EX.out⟩

set_option maxRecDepth 100000 in
set_option maxHeartbeats 3200000 in
theorem le_check5 (f c : Int) (t : ByteArray) (b : Bool) (w : World) : Calls Try.prog 8 #[.agg #[.int .i64 5, .int .i64 f, .int .u64 c, .string t, .bool b]] w fun e w' => e = .returned (.int .i64 (lchk ⟨5, f, c, t, b⟩)) ∧ Ext w w' := by
  have hkd := le_kinds
  unfold kindsC at hkd
  have hix := idx5
  unfold kindsC at hix
  have HK := Lib.hid hkd
  clear hkd
  go_enter Try.func8, Try.ntmps8
  go_wp2_with fail
  refine wp_forget (fun w' => w'.heap[w.heap.size]? = some (.cells #[.int .i64 5, .int .i64 f, .int .u64 c, .string t, .bool b] 24 (0, 0)) ∧ Ext w w') ⟨heap_new rfl, (Ext.refl _).alloc _⟩ ?_
  rintro W1 ⟨h1, x1⟩
  have c1 := fun j => cell_of_row W1 _ j _ _ _ h1
  have l1 : w.heap.size < W1.heap.size := (Array.getElem?_eq_some_iff.1 h1).1
  have H1 := Lib.hid h1
  have X1 := Lib.hid x1
  clear h1 x1
  refine wp_region_mixF (af := ?af) #[.bool false, .bool false, .bool false, .string { data := #[] }] 56 [true, true, true, true, false, false] [false, false, false, false, false, false] 53 0 (C := Ext W1) (by kernel_rfl) rfl (by kernel_rfl) (fun _ _ h e => Ext.trans h e) (Ext.refl _).drew ?q ?r
  case q =>
    intro w' hw'
    obtain ⟨y, rfl⟩ := ext_of hw'
    simp only [pickT, if_true, if_false, Bool.false_eq_true]
    repeat (go_big_quiet_step ((go_at_call 21; exact calls_ext (HK.out _))))
    exact rfl
  case r =>
    simp only [restL, if_true, if_false, Bool.false_eq_true]
    refine ⟨fun a w => by simp [go_sem], ?_⟩
    intro x1 gT hgT hzT
    intro x3
    go_wp2_with (refine wpList_store_row rfl 56 _ _ rfl gT _ rfl rfl 56 _ (heap_ext hzT x3.ext) info_kind rfl (by simp [Value.oneCell']) ?_)
    refine ⟨(((Ext.refl W1).drew.val x1).val x3).setRow hgT _, ?_⟩
    intro x2
    have e1 : x2.val.heap[gT]? = some (.cells #[.bool false, .bool false, .bool false, .string { data := #[116, 111, 107, 101, 110] }] 56 (0, 0)) := heap_ext (setRow_heap _ _ _ _ _ _ (heap_ext hzT x3.ext)) x2.ext
    have eX : Ext W1 x2.val := (((Ext.refl W1).drew.val x1).val x3).setRow hgT _ |>.val x2
    have e2 := heap_ext H1.out eX
    have EX := Lib.hid (X1.out.trans eX)
    generalize x2.val = W2 at e1 e2 EX ⊢
    clear eX x2 hzT x3 x1 c1 l1 H1 X1 HK hix
    have c1 := fun j => cell_of_row W2 _ j _ _ _ e1
    have c2 := fun j => cell_of_row W2 _ j _ _ _ e2
    clear e1 e2
    clear hgT
    have key : ∀ v : Int, (lchk ⟨5, f, c, t, b⟩ = v) → Hid (lchk ⟨5, f, c, t, b⟩ = v) := fun _ h => Lib.hid h
    by_cases hf : f = 0 ∨ f = 1
    case neg =>
      have hK := key 110 (by unfold lchk; rw [if_neg (by simp), if_pos hf])
      have hf0 : (f != 0) = true := by simp; omega
      have hf1 : (f != 1) = true := by simp; omega
      clear hf
      go_wp2_with fail
      go_ret
      exact ⟨by rw [hK.out]; rfl, EX.out⟩
    by_cases hf0 : f = 0
    case neg =>
      have hf1 : f = 1 := by omega
      subst hf1
      have hK := key 110 (by unfold lchk; rw [if_neg (by simp), if_neg (by simp), if_pos (by simp)])
      clear hf hf0
      go_wp2_with fail
      go_ret
      exact ⟨by rw [hK.out]; rfl, EX.out⟩
    subst hf0
    by_cases ht : t = { data := #[] }
    case neg =>
      have hK := key 110 (by unfold lchk; rw [if_neg (by simp), if_neg (by simp), if_neg (by simp), if_pos ⟨by simp, ht⟩])
      have ht' : t.toList.isEmpty = false := (empty_ne t).2 ht
      clear hf ht
      go_wp2_with fail
      go_ret
      exact ⟨by rw [hK.out]; rfl, EX.out⟩
    subst ht
    cases b
    case true =>
      have hK := key 110 (by unfold lchk; rw [if_neg (by simp), if_neg (by simp), if_neg (by simp), if_neg (by simp), if_pos (by simp)])
      clear hf
      go_wp2_with fail
      go_ret
      exact ⟨by rw [hK.out]; rfl, EX.out⟩
    have hK := key 0 (by unfold lchk; rw [if_neg (by simp), if_neg (by simp), if_neg (by simp), if_neg (by simp), if_neg (by simp), if_neg (by simp [ByteArray.size])])
    clear hf
    go_wp2_with fail
    go_ret
    exact ⟨by rw [hK.out]; rfl, EX.out⟩

set_option maxRecDepth 100000 in
set_option maxHeartbeats 3200000 in
theorem le_check6 (f c : Int) (t : ByteArray) (b : Bool) (w : World) : Calls Try.prog 8 #[.agg #[.int .i64 6, .int .i64 f, .int .u64 c, .string t, .bool b]] w fun e w' => e = .returned (.int .i64 (lchk ⟨6, f, c, t, b⟩)) ∧ Ext w w' := by
  have hkd := le_kinds
  unfold kindsC at hkd
  have hix := idx6
  unfold kindsC at hix
  have HK := Lib.hid hkd
  clear hkd
  go_enter Try.func8, Try.ntmps8
  go_wp2_with fail
  refine wp_forget (fun w' => w'.heap[w.heap.size]? = some (.cells #[.int .i64 6, .int .i64 f, .int .u64 c, .string t, .bool b] 24 (0, 0)) ∧ Ext w w') ⟨heap_new rfl, (Ext.refl _).alloc _⟩ ?_
  rintro W1 ⟨h1, x1⟩
  have c1 := fun j => cell_of_row W1 _ j _ _ _ h1
  have l1 : w.heap.size < W1.heap.size := (Array.getElem?_eq_some_iff.1 h1).1
  have H1 := Lib.hid h1
  have X1 := Lib.hid x1
  clear h1 x1
  refine wp_region_mixF (af := ?af) #[.bool false, .bool false, .bool false, .string { data := #[] }] 56 [true, true, true, true, false, false] [false, false, false, false, false, false] 53 0 (C := Ext W1) (by kernel_rfl) rfl (by kernel_rfl) (fun _ _ h e => Ext.trans h e) (Ext.refl _).drew ?q ?r
  case q =>
    intro w' hw'
    obtain ⟨y, rfl⟩ := ext_of hw'
    simp only [pickT, if_true, if_false, Bool.false_eq_true]
    repeat (go_big_quiet_step ((go_at_call 21; exact calls_ext (HK.out _))))
    exact rfl
  case r =>
    simp only [restL, if_true, if_false, Bool.false_eq_true]
    refine ⟨fun a w => by simp [go_sem], ?_⟩
    intro x1 gT hgT hzT
    intro x3
    go_wp2_with (refine wpList_store_row rfl 56 _ _ rfl gT _ rfl rfl 56 _ (heap_ext hzT x3.ext) info_kind rfl (by simp [Value.oneCell']) ?_)
    refine ⟨(((Ext.refl W1).drew.val x1).val x3).setRow hgT _, ?_⟩
    intro x2
    have e1 : x2.val.heap[gT]? = some (.cells #[.bool false, .bool true, .bool false, .string { data := #[105, 110, 115, 116, 101, 97, 100] }] 56 (0, 0)) := heap_ext (setRow_heap _ _ _ _ _ _ (heap_ext hzT x3.ext)) x2.ext
    have eX : Ext W1 x2.val := (((Ext.refl W1).drew.val x1).val x3).setRow hgT _ |>.val x2
    have e2 := heap_ext H1.out eX
    have EX := Lib.hid (X1.out.trans eX)
    generalize x2.val = W2 at e1 e2 EX ⊢
    clear eX x2 hzT x3 x1 c1 l1 H1 X1 HK hix
    have c1 := fun j => cell_of_row W2 _ j _ _ _ e1
    have c2 := fun j => cell_of_row W2 _ j _ _ _ e2
    clear e1 e2
    clear hgT
    have key : ∀ v : Int, (lchk ⟨6, f, c, t, b⟩ = v) → Hid (lchk ⟨6, f, c, t, b⟩ = v) := fun _ h => Lib.hid h
    by_cases hf : f = 0 ∨ f = 1
    case neg =>
      have hK := key 110 (by unfold lchk; rw [if_neg (by simp), if_pos hf])
      have hf0 : (f != 0) = true := by simp; omega
      have hf1 : (f != 1) = true := by simp; omega
      clear hf
      go_wp2_with fail
      go_ret
      exact ⟨by rw [hK.out]; rfl, EX.out⟩
    by_cases hf0 : f = 0
    case neg =>
      have hf1 : f = 1 := by omega
      subst hf1
      have hK := key 110 (by unfold lchk; rw [if_neg (by simp), if_neg (by simp), if_pos (by simp)])
      clear hf hf0
      go_wp2_with fail
      go_ret
      exact ⟨by rw [hK.out]; rfl, EX.out⟩
    subst hf0
    cases b
    case true =>
      have hK := key 110 (by unfold lchk; rw [if_neg (by simp), if_neg (by simp), if_neg (by simp), if_neg (by simp), if_pos (by simp)])
      clear hf
      go_wp2_with fail
      go_ret
      exact ⟨by rw [hK.out]; rfl, EX.out⟩
    by_cases hs : 64 < t.size
    case pos =>
      have hK := key 1 (by unfold lchk; rw [if_neg (by simp), if_neg (by simp), if_neg (by simp), if_neg (by simp), if_neg (by simp), if_pos hs])
      have hs' : (64 : Int) < (t.size : Int) := by omega
      clear hs hf
      go_wp2_with fail
      go_ret
      exact ⟨by rw [hK.out]; rfl, EX.out⟩
    have hK := key 0 (by unfold lchk; rw [if_neg (by simp), if_neg (by simp), if_neg (by simp), if_neg (by simp), if_neg (by simp), if_neg (by simp; try omega)])
    have hs' : (t.size : Int) ≤ 64 := by omega
    clear hs
    clear hf
    go_wp2_with fail
    go_ret
    exact ⟨by rw [hK.out]; rfl, EX.out⟩

set_option maxRecDepth 100000 in
set_option maxHeartbeats 3200000 in
theorem le_check7 (f c : Int) (t : ByteArray) (b : Bool) (w : World) : Calls Try.prog 8 #[.agg #[.int .i64 7, .int .i64 f, .int .u64 c, .string t, .bool b]] w fun e w' => e = .returned (.int .i64 (lchk ⟨7, f, c, t, b⟩)) ∧ Ext w w' := by
  have hkd := le_kinds
  unfold kindsC at hkd
  have hix := idx7
  unfold kindsC at hix
  have HK := Lib.hid hkd
  clear hkd
  go_enter Try.func8, Try.ntmps8
  go_wp2_with fail
  refine wp_forget (fun w' => w'.heap[w.heap.size]? = some (.cells #[.int .i64 7, .int .i64 f, .int .u64 c, .string t, .bool b] 24 (0, 0)) ∧ Ext w w') ⟨heap_new rfl, (Ext.refl _).alloc _⟩ ?_
  rintro W1 ⟨h1, x1⟩
  have c1 := fun j => cell_of_row W1 _ j _ _ _ h1
  have l1 : w.heap.size < W1.heap.size := (Array.getElem?_eq_some_iff.1 h1).1
  have H1 := Lib.hid h1
  have X1 := Lib.hid x1
  clear h1 x1
  refine wp_region_mixF (af := ?af) #[.bool false, .bool false, .bool false, .string { data := #[] }] 56 [true, true, true, true, false, false] [false, false, false, false, false, false] 53 0 (C := Ext W1) (by kernel_rfl) rfl (by kernel_rfl) (fun _ _ h e => Ext.trans h e) (Ext.refl _).drew ?q ?r
  case q =>
    intro w' hw'
    obtain ⟨y, rfl⟩ := ext_of hw'
    simp only [pickT, if_true, if_false, Bool.false_eq_true]
    repeat (go_big_quiet_step ((go_at_call 21; exact calls_ext (HK.out _))))
    exact rfl
  case r =>
    simp only [restL, if_true, if_false, Bool.false_eq_true]
    refine ⟨fun a w => by simp [go_sem], ?_⟩
    intro x1 gT hgT hzT
    intro x3
    go_wp2_with (refine wpList_store_row rfl 56 _ _ rfl gT _ rfl rfl 56 _ (heap_ext hzT x3.ext) info_kind rfl (by simp [Value.oneCell']) ?_)
    refine ⟨(((Ext.refl W1).drew.val x1).val x3).setRow hgT _, ?_⟩
    intro x2
    have e1 : x2.val.heap[gT]? = some (.cells #[.bool false, .bool false, .bool false, .string { data := #[102, 117, 108, 108] }] 56 (0, 0)) := heap_ext (setRow_heap _ _ _ _ _ _ (heap_ext hzT x3.ext)) x2.ext
    have eX : Ext W1 x2.val := (((Ext.refl W1).drew.val x1).val x3).setRow hgT _ |>.val x2
    have e2 := heap_ext H1.out eX
    have EX := Lib.hid (X1.out.trans eX)
    generalize x2.val = W2 at e1 e2 EX ⊢
    clear eX x2 hzT x3 x1 c1 l1 H1 X1 HK hix
    have c1 := fun j => cell_of_row W2 _ j _ _ _ e1
    have c2 := fun j => cell_of_row W2 _ j _ _ _ e2
    clear e1 e2
    clear hgT
    have key : ∀ v : Int, (lchk ⟨7, f, c, t, b⟩ = v) → Hid (lchk ⟨7, f, c, t, b⟩ = v) := fun _ h => Lib.hid h
    by_cases hf : f = 0 ∨ f = 1
    case neg =>
      have hK := key 110 (by unfold lchk; rw [if_neg (by simp), if_pos hf])
      have hf0 : (f != 0) = true := by simp; omega
      have hf1 : (f != 1) = true := by simp; omega
      clear hf
      go_wp2_with fail
      go_ret
      exact ⟨by rw [hK.out]; rfl, EX.out⟩
    by_cases hf0 : f = 0
    case neg =>
      have hf1 : f = 1 := by omega
      subst hf1
      have hK := key 110 (by unfold lchk; rw [if_neg (by simp), if_neg (by simp), if_pos (by simp)])
      clear hf hf0
      go_wp2_with fail
      go_ret
      exact ⟨by rw [hK.out]; rfl, EX.out⟩
    subst hf0
    by_cases ht : t = { data := #[] }
    case neg =>
      have hK := key 110 (by unfold lchk; rw [if_neg (by simp), if_neg (by simp), if_neg (by simp), if_pos ⟨by simp, ht⟩])
      have ht' : t.toList.isEmpty = false := (empty_ne t).2 ht
      clear hf ht
      go_wp2_with fail
      go_ret
      exact ⟨by rw [hK.out]; rfl, EX.out⟩
    subst ht
    cases b
    case true =>
      have hK := key 110 (by unfold lchk; rw [if_neg (by simp), if_neg (by simp), if_neg (by simp), if_neg (by simp), if_pos (by simp)])
      clear hf
      go_wp2_with fail
      go_ret
      exact ⟨by rw [hK.out]; rfl, EX.out⟩
    have hK := key 0 (by unfold lchk; rw [if_neg (by simp), if_neg (by simp), if_neg (by simp), if_neg (by simp), if_neg (by simp), if_neg (by simp [ByteArray.size])])
    clear hf
    go_wp2_with fail
    go_ret
    exact ⟨by rw [hK.out]; rfl, EX.out⟩

set_option maxRecDepth 100000 in
set_option maxHeartbeats 800000 in
theorem le_check (l : Lt) (w : World) : Calls Try.prog 8 #[.agg #[.int .i64 l.k, .int .i64 l.f, .int .u64 l.c, .string l.t, .bool l.b]] w fun e w' => e = .returned (.int .i64 (lchk l)) ∧ Ext w w' := by
  obtain ⟨k, f, c, t, b⟩ := l
  simp only
  by_cases hk : k < 1
  · have e : lchk ⟨k, f, c, t, b⟩ = 110 := by unfold lchk; rw [if_pos (.inl hk)]
    rw [e]
    clear e
    go_enter Try.func8, Try.ntmps8
    go_wp2_with fail
    go_ret
    exact ⟨rfl, (Ext.refl _).alloc _⟩
  by_cases hk7 : 7 < k
  · have e : lchk ⟨k, f, c, t, b⟩ = 110 := by unfold lchk; rw [if_pos (.inr hk7)]
    rw [e]
    clear e
    go_enter Try.func8, Try.ntmps8
    go_wp2_with fail
    go_ret
    exact ⟨rfl, (Ext.refl _).alloc _⟩
  obtain rfl | rfl | rfl | rfl | rfl | rfl | rfl : k = 1 ∨ k = 2 ∨ k = 3 ∨ k = 4 ∨ k = 5 ∨ k = 6 ∨ k = 7 := by omega
  · exact le_check1 f c t b w
  · exact le_check2 f c t b w
  · exact le_check3 f c t b w
  · exact le_check4 f c t b w
  · exact le_check5 f c t b w
  · exact le_check6 f c t b w
  · exact le_check7 f c t b w
end Go.Proofs.Ytfibbhmmiemcoaa
