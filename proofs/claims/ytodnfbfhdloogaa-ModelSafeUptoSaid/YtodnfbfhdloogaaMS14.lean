/-
  Walks: a letter's error; what a verdict says. No condition.
-/
import Derived.Test.YtodnfbfhdloogaaMS13
set_option linter.all false
namespace Go.Proofs.Ytodnfbfhdloogaa
open Go.RowKit
attribute [local go_sem ↓] eql_lEq eql_sEq eql_eEq eql_oEq neq_lEq neq_sEq neq_eEq neq_oEq eql_vEq neq_vEq eql_nil
attribute [local go_sem] ExtOf.cell ExtOf.frozen ExtOf.lt ExtOf.le
attribute [local go_sem high] ExtOf.cell2 ExtOf.frozen2 ExtOf.lt2 ExtOf.cell3 ExtOf.frozen3 ExtOf.lt3

def kindsC : Array Value := #[.bool false, .bool false, .bool false, .string { data := #[] },
  .bool true, .bool true, .bool true, .string { data := #[112, 114, 111, 109, 105, 115, 101] }, .bool true, .bool true, .bool false, .string { data := #[115, 105, 103, 110] },
  .bool false, .bool false, .bool false, .string { data := #[97, 98, 111, 114, 116] }, .bool true, .bool true, .bool true, .string { data := #[114, 101, 115, 111, 108, 118, 101] },
  .bool false, .bool false, .bool false, .string { data := #[116, 111, 107, 101, 110] }, .bool false, .bool true, .bool false, .string { data := #[105, 110, 115, 116, 101, 97, 100] },
  .bool false, .bool false, .bool false, .string { data := #[102, 117, 108, 108] }]
theorem info_kinds : (Try.prog.info? 83).map (·.size) = some 32 := by kernel_rfl
theorem info_kind : (Try.prog.info? 82).map (·.size) = some 4 := by kernel_rfl

set_option maxRecDepth 100000 in
set_option maxHeartbeats 1600000 in
theorem le_kinds (w : World) : Calls Try.prog 44 #[] w fun e w' => e = .returned (.agg kindsC) ∧ Ext w w' := by
  unfold kindsC
  go_enter Try.func44, Try.ntmps44
  go_wp2_with (refine wpList_store_row rfl 83 _ _ rfl _ _ rfl rfl 83 _ (heap_new rfl) info_kinds rfl (by simp [Value.oneCell']) ?_)
  exact bodyPost_ret (results_cell_row rfl _ _ _ _ _ (0, 0) _ rfl (setRow_heap _ _ _ _ _ _ (heap_new rfl)) Try.underlying83 rfl info_kinds) rfl ⟨rfl, ((Ext.refl _).alloc _).setRow (Nat.le_refl _) _⟩

theorem idx1 (w : World) : (Instr.index 83 (.agg kindsC) (.int .i64 1)).run Try.prog w = .ok (.agg #[.bool true, .bool true, .bool true, .string { data := #[112, 114, 111, 109, 105, 115, 101] }]) w := by kernel_rfl
theorem idx2 (w : World) : (Instr.index 83 (.agg kindsC) (.int .i64 2)).run Try.prog w = .ok (.agg #[.bool true, .bool true, .bool false, .string { data := #[115, 105, 103, 110] }]) w := by kernel_rfl
theorem idx3 (w : World) : (Instr.index 83 (.agg kindsC) (.int .i64 3)).run Try.prog w = .ok (.agg #[.bool false, .bool false, .bool false, .string { data := #[97, 98, 111, 114, 116] }]) w := by kernel_rfl
theorem idx4 (w : World) : (Instr.index 83 (.agg kindsC) (.int .i64 4)).run Try.prog w = .ok (.agg #[.bool true, .bool true, .bool true, .string { data := #[114, 101, 115, 111, 108, 118, 101] }]) w := by kernel_rfl
theorem idx5 (w : World) : (Instr.index 83 (.agg kindsC) (.int .i64 5)).run Try.prog w = .ok (.agg #[.bool false, .bool false, .bool false, .string { data := #[116, 111, 107, 101, 110] }]) w := by kernel_rfl
theorem idx6 (w : World) : (Instr.index 83 (.agg kindsC) (.int .i64 6)).run Try.prog w = .ok (.agg #[.bool false, .bool true, .bool false, .string { data := #[105, 110, 115, 116, 101, 97, 100] }]) w := by kernel_rfl
theorem idx7 (w : World) : (Instr.index 83 (.agg kindsC) (.int .i64 7)).run Try.prog w = .ok (.agg #[.bool false, .bool false, .bool false, .string { data := #[102, 117, 108, 108] }]) w := by kernel_rfl

theorem empty_eq (t : ByteArray) : (t.toList.isEmpty = true) ↔ t = { data := #[] } := by
  rw [← toList_eq_iff, List.isEmpty_iff]; simp [ByteArray.toList_eq]
theorem empty_ne (t : ByteArray) : (t.toList.isEmpty = false) ↔ ¬ t = { data := #[] } := by
  rw [← empty_eq, Bool.not_eq_true]

set_option maxRecDepth 100000 in
set_option maxHeartbeats 3200000 in
theorem le_check1 (f c : Int) (t : ByteArray) (b : Bool) (w : World) : Calls Try.prog 26 #[.agg #[.int .i64 1, .int .i64 f, .int .u64 c, .string t, .bool b]] w fun e w' => e = .returned (.int .i64 (lchk ⟨1, f, c, t, b⟩)) ∧ Ext w w' := by
  have hkd := le_kinds
  unfold kindsC at hkd
  have hix := idx1
  unfold kindsC at hix
  have HK := Lib.hid hkd
  clear hkd
  go_enter Try.func26, Try.ntmps26
  go_wp2_with fail
  refine wp_forget (fun w' => w'.heap[w.heap.size]? = some (.cells #[.int .i64 1, .int .i64 f, .int .u64 c, .string t, .bool b] 27 (0, 0)) ∧ Ext w w') ⟨heap_new rfl, (Ext.refl _).alloc _⟩ ?_
  rintro W1 ⟨h1, x1⟩
  have c1 := fun j => cell_of_row W1 _ j _ _ _ h1
  have l1 : w.heap.size < W1.heap.size := (Array.getElem?_eq_some_iff.1 h1).1
  have H1 := Lib.hid h1
  have X1 := Lib.hid x1
  clear h1 x1
  refine wp_region_mixF (af := ?af) #[.bool false, .bool false, .bool false, .string { data := #[] }] 82 [true, true, true, true, false, false] [false, false, false, false, false, false] 53 0 (C := Ext W1) (by kernel_rfl) rfl (by kernel_rfl) (fun _ _ h e => Ext.trans h e) (Ext.refl _).drew ?q ?r
  case q =>
    intro w' hw'
    obtain ⟨y, rfl⟩ := ext_of hw'
    simp only [pickT, if_true, if_false, Bool.false_eq_true]
    repeat (go_big_quiet_step ((go_at_call 44; exact calls_ext (HK.out _))))
    exact rfl
  case r =>
    simp only [restL, if_true, if_false, Bool.false_eq_true]
    refine ⟨fun a w => by simp [go_sem], ?_⟩
    intro x1 gT hgT hzT
    intro x3
    go_wp2_with (refine wpList_store_row rfl 82 _ _ rfl gT _ rfl rfl 82 _ (heap_ext hzT x3.ext) info_kind rfl (by simp [Value.oneCell']) ?_)
    refine ⟨(((Ext.refl W1).drew.val x1).val x3).setRow hgT _, ?_⟩
    intro x2
    have e1 : x2.val.heap[gT]? = some (.cells #[.bool true, .bool true, .bool true, .string { data := #[112, 114, 111, 109, 105, 115, 101] }] 82 (0, 0)) := heap_ext (setRow_heap _ _ _ _ _ _ (heap_ext hzT x3.ext)) x2.ext
    have eX : Ext W1 x2.val := (((Ext.refl W1).drew.val x1).val x3).setRow hgT _ |>.val x2
    have e2 := heap_ext H1.out eX
    have EX := Lib.hid (X1.out.trans eX)
    generalize x2.val = W2 at e1 e2 EX ⊢
    clear eX x2 hzT x3 x1 c1 l1 H1 X1 HK hix
    have c1 := fun j => cell_of_row W2 _ j _ _ _ e1
    have c2 := fun j => cell_of_row W2 _ j _ _ _ e2
    clear e1 e2
    clear hgT
    have key : ∀ v : Int, (lchk ⟨1, f, c, t, b⟩ = v) → Hid (lchk ⟨1, f, c, t, b⟩ = v) := fun _ h => Lib.hid h
    by_cases hf : f = 0 ∨ f = 1
    case neg =>
      have hK := key 110 (by unfold lchk; rw [if_neg (by simp), if_pos hf])
      have hf0 : (f != 0) = true := by simp; omega
      have hf1 : (f != 1) = true := by simp; omega
      clear hf
      go_wp2_with fail
      go_ret
      exact ⟨by rw [hK.out]; rfl, EX.out⟩
    by_cases hs : 64 < t.size
    case pos =>
      rcases hf with rfl | rfl
      all_goals
        have hK := key 1 (by unfold lchk; rw [if_neg (by simp), if_neg (by simp), if_neg (by simp), if_neg (by simp), if_neg (by simp), if_pos hs])
        have hs' : (64 : Int) < (t.size : Int) := by omega
        clear hs
        go_wp2_with fail
        go_ret
        exact ⟨by rw [hK.out]; rfl, EX.out⟩
    rcases hf with rfl | rfl
    all_goals
      have hK := key 0 (by unfold lchk; rw [if_neg (by simp), if_neg (by simp), if_neg (by simp), if_neg (by simp), if_neg (by simp), if_neg (by simp; try omega)])
      have hs' : (t.size : Int) ≤ 64 := by omega
      clear hs
      go_wp2_with fail
      go_ret
      exact ⟨by rw [hK.out]; rfl, EX.out⟩

set_option maxRecDepth 100000 in
set_option maxHeartbeats 3200000 in
theorem le_check2 (f c : Int) (t : ByteArray) (b : Bool) (w : World) : Calls Try.prog 26 #[.agg #[.int .i64 2, .int .i64 f, .int .u64 c, .string t, .bool b]] w fun e w' => e = .returned (.int .i64 (lchk ⟨2, f, c, t, b⟩)) ∧ Ext w w' := by
  have hkd := le_kinds
  unfold kindsC at hkd
  have hix := idx2
  unfold kindsC at hix
  have HK := Lib.hid hkd
  clear hkd
  go_enter Try.func26, Try.ntmps26
  go_wp2_with fail
  refine wp_forget (fun w' => w'.heap[w.heap.size]? = some (.cells #[.int .i64 2, .int .i64 f, .int .u64 c, .string t, .bool b] 27 (0, 0)) ∧ Ext w w') ⟨heap_new rfl, (Ext.refl _).alloc _⟩ ?_
  rintro W1 ⟨h1, x1⟩
  have c1 := fun j => cell_of_row W1 _ j _ _ _ h1
  have l1 : w.heap.size < W1.heap.size := (Array.getElem?_eq_some_iff.1 h1).1
  have H1 := Lib.hid h1
  have X1 := Lib.hid x1
  clear h1 x1
  refine wp_region_mixF (af := ?af) #[.bool false, .bool false, .bool false, .string { data := #[] }] 82 [true, true, true, true, false, false] [false, false, false, false, false, false] 53 0 (C := Ext W1) (by kernel_rfl) rfl (by kernel_rfl) (fun _ _ h e => Ext.trans h e) (Ext.refl _).drew ?q ?r
  case q =>
    intro w' hw'
    obtain ⟨y, rfl⟩ := ext_of hw'
    simp only [pickT, if_true, if_false, Bool.false_eq_true]
    repeat (go_big_quiet_step ((go_at_call 44; exact calls_ext (HK.out _))))
    exact rfl
  case r =>
    simp only [restL, if_true, if_false, Bool.false_eq_true]
    refine ⟨fun a w => by simp [go_sem], ?_⟩
    intro x1 gT hgT hzT
    intro x3
    go_wp2_with (refine wpList_store_row rfl 82 _ _ rfl gT _ rfl rfl 82 _ (heap_ext hzT x3.ext) info_kind rfl (by simp [Value.oneCell']) ?_)
    refine ⟨(((Ext.refl W1).drew.val x1).val x3).setRow hgT _, ?_⟩
    intro x2
    have e1 : x2.val.heap[gT]? = some (.cells #[.bool true, .bool true, .bool false, .string { data := #[115, 105, 103, 110] }] 82 (0, 0)) := heap_ext (setRow_heap _ _ _ _ _ _ (heap_ext hzT x3.ext)) x2.ext
    have eX : Ext W1 x2.val := (((Ext.refl W1).drew.val x1).val x3).setRow hgT _ |>.val x2
    have e2 := heap_ext H1.out eX
    have EX := Lib.hid (X1.out.trans eX)
    generalize x2.val = W2 at e1 e2 EX ⊢
    clear eX x2 hzT x3 x1 c1 l1 H1 X1 HK hix
    have c1 := fun j => cell_of_row W2 _ j _ _ _ e1
    have c2 := fun j => cell_of_row W2 _ j _ _ _ e2
    clear e1 e2
    clear hgT
    have key : ∀ v : Int, (lchk ⟨2, f, c, t, b⟩ = v) → Hid (lchk ⟨2, f, c, t, b⟩ = v) := fun _ h => Lib.hid h
    by_cases hf : f = 0 ∨ f = 1
    case neg =>
      have hK := key 110 (by unfold lchk; rw [if_neg (by simp), if_pos hf])
      have hf0 : (f != 0) = true := by simp; omega
      have hf1 : (f != 1) = true := by simp; omega
      clear hf
      go_wp2_with fail
      go_ret
      exact ⟨by rw [hK.out]; rfl, EX.out⟩
    cases b
    case true =>
      rcases hf with rfl | rfl
      all_goals
        have hK := key 110 (by unfold lchk; rw [if_neg (by simp), if_neg (by simp), if_neg (by simp), if_neg (by simp), if_pos (by simp)])
        go_wp2_with fail
        go_ret
        exact ⟨by rw [hK.out]; rfl, EX.out⟩
    by_cases hs : 64 < t.size
    case pos =>
      rcases hf with rfl | rfl
      all_goals
        have hK := key 1 (by unfold lchk; rw [if_neg (by simp), if_neg (by simp), if_neg (by simp), if_neg (by simp), if_neg (by simp), if_pos hs])
        have hs' : (64 : Int) < (t.size : Int) := by omega
        clear hs
        go_wp2_with fail
        go_ret
        exact ⟨by rw [hK.out]; rfl, EX.out⟩
    rcases hf with rfl | rfl
    all_goals
      have hK := key 0 (by unfold lchk; rw [if_neg (by simp), if_neg (by simp), if_neg (by simp), if_neg (by simp), if_neg (by simp), if_neg (by simp; try omega)])
      have hs' : (t.size : Int) ≤ 64 := by omega
      clear hs
      go_wp2_with fail
      go_ret
      exact ⟨by rw [hK.out]; rfl, EX.out⟩

set_option maxRecDepth 100000 in
set_option maxHeartbeats 3200000 in
theorem le_check3 (f c : Int) (t : ByteArray) (b : Bool) (w : World) : Calls Try.prog 26 #[.agg #[.int .i64 3, .int .i64 f, .int .u64 c, .string t, .bool b]] w fun e w' => e = .returned (.int .i64 (lchk ⟨3, f, c, t, b⟩)) ∧ Ext w w' := by
  have hkd := le_kinds
  unfold kindsC at hkd
  have hix := idx3
  unfold kindsC at hix
  have HK := Lib.hid hkd
  clear hkd
  go_enter Try.func26, Try.ntmps26
  go_wp2_with fail
  refine wp_forget (fun w' => w'.heap[w.heap.size]? = some (.cells #[.int .i64 3, .int .i64 f, .int .u64 c, .string t, .bool b] 27 (0, 0)) ∧ Ext w w') ⟨heap_new rfl, (Ext.refl _).alloc _⟩ ?_
  rintro W1 ⟨h1, x1⟩
  have c1 := fun j => cell_of_row W1 _ j _ _ _ h1
  have l1 : w.heap.size < W1.heap.size := (Array.getElem?_eq_some_iff.1 h1).1
  have H1 := Lib.hid h1
  have X1 := Lib.hid x1
  clear h1 x1
  refine wp_region_mixF (af := ?af) #[.bool false, .bool false, .bool false, .string { data := #[] }] 82 [true, true, true, true, false, false] [false, false, false, false, false, false] 53 0 (C := Ext W1) (by kernel_rfl) rfl (by kernel_rfl) (fun _ _ h e => Ext.trans h e) (Ext.refl _).drew ?q ?r
  case q =>
    intro w' hw'
    obtain ⟨y, rfl⟩ := ext_of hw'
    simp only [pickT, if_true, if_false, Bool.false_eq_true]
    repeat (go_big_quiet_step ((go_at_call 44; exact calls_ext (HK.out _))))
    exact rfl
  case r =>
    simp only [restL, if_true, if_false, Bool.false_eq_true]
    refine ⟨fun a w => by simp [go_sem], ?_⟩
    intro x1 gT hgT hzT
    intro x3
    go_wp2_with (refine wpList_store_row rfl 82 _ _ rfl gT _ rfl rfl 82 _ (heap_ext hzT x3.ext) info_kind rfl (by simp [Value.oneCell']) ?_)
    refine ⟨(((Ext.refl W1).drew.val x1).val x3).setRow hgT _, ?_⟩
    intro x2
    have e1 : x2.val.heap[gT]? = some (.cells #[.bool false, .bool false, .bool false, .string { data := #[97, 98, 111, 114, 116] }] 82 (0, 0)) := heap_ext (setRow_heap _ _ _ _ _ _ (heap_ext hzT x3.ext)) x2.ext
    have eX : Ext W1 x2.val := (((Ext.refl W1).drew.val x1).val x3).setRow hgT _ |>.val x2
    have e2 := heap_ext H1.out eX
    have EX := Lib.hid (X1.out.trans eX)
    generalize x2.val = W2 at e1 e2 EX ⊢
    clear eX x2 hzT x3 x1 c1 l1 H1 X1 HK hix
    have c1 := fun j => cell_of_row W2 _ j _ _ _ e1
    have c2 := fun j => cell_of_row W2 _ j _ _ _ e2
    clear e1 e2
    clear hgT
    have key : ∀ v : Int, (lchk ⟨3, f, c, t, b⟩ = v) → Hid (lchk ⟨3, f, c, t, b⟩ = v) := fun _ h => Lib.hid h
    by_cases hf : f = 0 ∨ f = 1
    case neg =>
      have hK := key 110 (by unfold lchk; rw [if_neg (by simp), if_pos hf])
      have hf0 : (f != 0) = true := by simp; omega
      have hf1 : (f != 1) = true := by simp; omega
      clear hf
      go_wp2_with fail
      go_ret
      exact ⟨by rw [hK.out]; rfl, EX.out⟩
    by_cases hf0 : f = 0
    case neg =>
      have hf1 : f = 1 := by omega
      subst hf1
      have hK := key 110 (by unfold lchk; rw [if_neg (by simp), if_neg (by simp), if_pos (by simp)])
      clear hf hf0
      go_wp2_with fail
      go_ret
      exact ⟨by rw [hK.out]; rfl, EX.out⟩
    subst hf0
    by_cases ht : t = { data := #[] }
    case neg =>
      have hK := key 110 (by unfold lchk; rw [if_neg (by simp), if_neg (by simp), if_neg (by simp), if_pos ⟨by simp, ht⟩])
      have ht' : t.toList.isEmpty = false := (empty_ne t).2 ht
      clear hf ht
      go_wp2_with fail
      go_ret
      exact ⟨by rw [hK.out]; rfl, EX.out⟩
    subst ht
    cases b
    case true =>
      have hK := key 110 (by unfold lchk; rw [if_neg (by simp), if_neg (by simp), if_neg (by simp), if_neg (by simp), if_pos (by simp)])
      clear hf
      go_wp2_with fail
      go_ret
      exact ⟨by rw [hK.out]; rfl, EX.out⟩
    have hK := key 0 (by unfold lchk; rw [if_neg (by simp), if_neg (by simp), if_neg (by simp), if_neg (by simp), if_neg (by simp), if_neg (by simp [ByteArray.size])])
    clear hf
    go_wp2_with fail
    go_ret
    exact ⟨by rw [hK.out]; rfl, EX.out⟩

set_option maxRecDepth 100000 in
set_option maxHeartbeats 3200000 in
theorem le_check4 (f c : Int) (t : ByteArray) (b : Bool) (w : World) : Calls Try.prog 26 #[.agg #[.int .i64 4, .int .i64 f, .int .u64 c, .string t, .bool b]] w fun e w' => e = .returned (.int .i64 (lchk ⟨4, f, c, t, b⟩)) ∧ Ext w w' := by
  have hkd := le_kinds
  unfold kindsC at hkd
  have hix := idx4
  unfold kindsC at hix
  have HK := Lib.hid hkd
  clear hkd
  go_enter Try.func26, Try.ntmps26
  go_wp2_with fail
  refine wp_forget (fun w' => w'.heap[w.heap.size]? = some (.cells #[.int .i64 4, .int .i64 f, .int .u64 c, .string t, .bool b] 27 (0, 0)) ∧ Ext w w') ⟨heap_new rfl, (Ext.refl _).alloc _⟩ ?_
  rintro W1 ⟨h1, x1⟩
  have c1 := fun j => cell_of_row W1 _ j _ _ _ h1
  have l1 : w.heap.size < W1.heap.size := (Array.getElem?_eq_some_iff.1 h1).1
  have H1 := Lib.hid h1
  have X1 := Lib.hid x1
  clear h1 x1
  refine wp_region_mixF (af := ?af) #[.bool false, .bool false, .bool false, .string { data := #[] }] 82 [true, true, true, true, false, false] [false, false, false, false, false, false] 53 0 (C := Ext W1) (by kernel_rfl) rfl (by kernel_rfl) (fun _ _ h e => Ext.trans h e) (Ext.refl _).drew ?q ?r
  case q =>
    intro w' hw'
    obtain ⟨y, rfl⟩ := ext_of hw'
    simp only [pickT, if_true, if_false, Bool.false_eq_true]
    repeat (go_big_quiet_step ((go_at_call 44; exact calls_ext (HK.out _))))
    exact rfl
  case r =>
    simp only [restL, if_true, if_false, Bool.false_eq_true]
    refine ⟨fun a w => by simp [go_sem], ?_⟩
    intro x1 gT hgT hzT
    intro x3
    go_wp2_with (refine wpList_store_row rfl 82 _ _ rfl gT _ rfl rfl 82 _ (heap_ext hzT x3.ext) info_kind rfl (by simp [Value.oneCell']) ?_)
    refine ⟨(((Ext.refl W1).drew.val x1).val x3).setRow hgT _, ?_⟩
    intro x2
    have e1 : x2.val.heap[gT]? = some (.cells #[.bool true, .bool true, .bool true, .string { data := #[114, 101, 115, 111, 108, 118, 101] }] 82 (0, 0)) := heap_ext (setRow_heap _ _ _ _ _ _ (heap_ext hzT x3.ext)) x2.ext
    have eX : Ext W1 x2.val := (((Ext.refl W1).drew.val x1).val x3).setRow hgT _ |>.val x2
    have e2 := heap_ext H1.out eX
    have EX := Lib.hid (X1.out.trans eX)
    generalize x2.val = W2 at e1 e2 EX ⊢
    clear eX x2 hzT x3 x1 c1 l1 H1 X1 HK hix
    have c1 := fun j => cell_of_row W2 _ j _ _ _ e1
    have c2 := fun j => cell_of_row W2 _ j _ _ _ e2
    clear e1 e2
    clear hgT
    have key : ∀ v : Int, (lchk ⟨4, f, c, t, b⟩ = v) → Hid (lchk ⟨4, f, c, t, b⟩ = v) := fun _ h => Lib.hid h
    by_cases hf : f = 0 ∨ f = 1
    case neg =>
      have hK := key 110 (by unfold lchk; rw [if_neg (by simp), if_pos hf])
      have hf0 : (f != 0) = true := by simp; omega
      have hf1 : (f != 1) = true := by simp; omega
      clear hf
      go_wp2_with fail
      go_ret
      exact ⟨by rw [hK.out]; rfl, EX.out⟩
    by_cases hs : 64 < t.size
    case pos =>
      rcases hf with rfl | rfl
      all_goals
        have hK := key 1 (by unfold lchk; rw [if_neg (by simp), if_neg (by simp), if_neg (by simp), if_neg (by simp), if_neg (by simp), if_pos hs])
        have hs' : (64 : Int) < (t.size : Int) := by omega
        clear hs
        go_wp2_with fail
        go_ret
        exact ⟨by rw [hK.out]; rfl, EX.out⟩
    rcases hf with rfl | rfl
    all_goals
      have hK := key 0 (by unfold lchk; rw [if_neg (by simp), if_neg (by simp), if_neg (by simp), if_neg (by simp), if_neg (by simp), if_neg (by simp; try omega)])
      have hs' : (t.size : Int) ≤ 64 := by omega
      clear hs
      go_wp2_with fail
      go_ret
      exact ⟨by rw [hK.out]; rfl, EX.out⟩

set_option maxRecDepth 100000 in
set_option maxHeartbeats 3200000 in
theorem le_check5 (f c : Int) (t : ByteArray) (b : Bool) (w : World) : Calls Try.prog 26 #[.agg #[.int .i64 5, .int .i64 f, .int .u64 c, .string t, .bool b]] w fun e w' => e = .returned (.int .i64 (lchk ⟨5, f, c, t, b⟩)) ∧ Ext w w' := by
  have hkd := le_kinds
  unfold kindsC at hkd
  have hix := idx5
  unfold kindsC at hix
  have HK := Lib.hid hkd
  clear hkd
  go_enter Try.func26, Try.ntmps26
  go_wp2_with fail
  refine wp_forget (fun w' => w'.heap[w.heap.size]? = some (.cells #[.int .i64 5, .int .i64 f, .int .u64 c, .string t, .bool b] 27 (0, 0)) ∧ Ext w w') ⟨heap_new rfl, (Ext.refl _).alloc _⟩ ?_
  rintro W1 ⟨h1, x1⟩
  have c1 := fun j => cell_of_row W1 _ j _ _ _ h1
  have l1 : w.heap.size < W1.heap.size := (Array.getElem?_eq_some_iff.1 h1).1
  have H1 := Lib.hid h1
  have X1 := Lib.hid x1
  clear h1 x1
  refine wp_region_mixF (af := ?af) #[.bool false, .bool false, .bool false, .string { data := #[] }] 82 [true, true, true, true, false, false] [false, false, false, false, false, false] 53 0 (C := Ext W1) (by kernel_rfl) rfl (by kernel_rfl) (fun _ _ h e => Ext.trans h e) (Ext.refl _).drew ?q ?r
  case q =>
    intro w' hw'
    obtain ⟨y, rfl⟩ := ext_of hw'
    simp only [pickT, if_true, if_false, Bool.false_eq_true]
    repeat (go_big_quiet_step ((go_at_call 44; exact calls_ext (HK.out _))))
    exact rfl
  case r =>
    simp only [restL, if_true, if_false, Bool.false_eq_true]
    refine ⟨fun a w => by simp [go_sem], ?_⟩
    intro x1 gT hgT hzT
    intro x3
    go_wp2_with (refine wpList_store_row rfl 82 _ _ rfl gT _ rfl rfl 82 _ (heap_ext hzT x3.ext) info_kind rfl (by simp [Value.oneCell']) ?_)
    refine ⟨(((Ext.refl W1).drew.val x1).val x3).setRow hgT _, ?_⟩
    intro x2
    have e1 : x2.val.heap[gT]? = some (.cells #[.bool false, .bool false, .bool false, .string { data := #[116, 111, 107, 101, 110] }] 82 (0, 0)) := heap_ext (setRow_heap _ _ _ _ _ _ (heap_ext hzT x3.ext)) x2.ext
    have eX : Ext W1 x2.val := (((Ext.refl W1).drew.val x1).val x3).setRow hgT _ |>.val x2
    have e2 := heap_ext H1.out eX
    have EX := Lib.hid (X1.out.trans eX)
    generalize x2.val = W2 at e1 e2 EX ⊢
    clear eX x2 hzT x3 x1 c1 l1 H1 X1 HK hix
    have c1 := fun j => cell_of_row W2 _ j _ _ _ e1
    have c2 := fun j => cell_of_row W2 _ j _ _ _ e2
    clear e1 e2
    clear hgT
    have key : ∀ v : Int, (lchk ⟨5, f, c, t, b⟩ = v) → Hid (lchk ⟨5, f, c, t, b⟩ = v) := fun _ h => Lib.hid h
    by_cases hf : f = 0 ∨ f = 1
    case neg =>
      have hK := key 110 (by unfold lchk; rw [if_neg (by simp), if_pos hf])
      have hf0 : (f != 0) = true := by simp; omega
      have hf1 : (f != 1) = true := by simp; omega
      clear hf
      go_wp2_with fail
      go_ret
      exact ⟨by rw [hK.out]; rfl, EX.out⟩
    by_cases hf0 : f = 0
    case neg =>
      have hf1 : f = 1 := by omega
      subst hf1
      have hK := key 110 (by unfold lchk; rw [if_neg (by simp), if_neg (by simp), if_pos (by simp)])
      clear hf hf0
      go_wp2_with fail
      go_ret
      exact ⟨by rw [hK.out]; rfl, EX.out⟩
    subst hf0
    by_cases ht : t = { data := #[] }
    case neg =>
      have hK := key 110 (by unfold lchk; rw [if_neg (by simp), if_neg (by simp), if_neg (by simp), if_pos ⟨by simp, ht⟩])
      have ht' : t.toList.isEmpty = false := (empty_ne t).2 ht
      clear hf ht
      go_wp2_with fail
      go_ret
      exact ⟨by rw [hK.out]; rfl, EX.out⟩
    subst ht
    cases b
    case true =>
      have hK := key 110 (by unfold lchk; rw [if_neg (by simp), if_neg (by simp), if_neg (by simp), if_neg (by simp), if_pos (by simp)])
      clear hf
      go_wp2_with fail
      go_ret
      exact ⟨by rw [hK.out]; rfl, EX.out⟩
    have hK := key 0 (by unfold lchk; rw [if_neg (by simp), if_neg (by simp), if_neg (by simp), if_neg (by simp), if_neg (by simp), if_neg (by simp [ByteArray.size])])
    clear hf
    go_wp2_with fail
    go_ret
    exact ⟨by rw [hK.out]; rfl, EX.out⟩

set_option maxRecDepth 100000 in
set_option maxHeartbeats 3200000 in
theorem le_check6 (f c : Int) (t : ByteArray) (b : Bool) (w : World) : Calls Try.prog 26 #[.agg #[.int .i64 6, .int .i64 f, .int .u64 c, .string t, .bool b]] w fun e w' => e = .returned (.int .i64 (lchk ⟨6, f, c, t, b⟩)) ∧ Ext w w' := by
  have hkd := le_kinds
  unfold kindsC at hkd
  have hix := idx6
  unfold kindsC at hix
  have HK := Lib.hid hkd
  clear hkd
  go_enter Try.func26, Try.ntmps26
  go_wp2_with fail
  refine wp_forget (fun w' => w'.heap[w.heap.size]? = some (.cells #[.int .i64 6, .int .i64 f, .int .u64 c, .string t, .bool b] 27 (0, 0)) ∧ Ext w w') ⟨heap_new rfl, (Ext.refl _).alloc _⟩ ?_
  rintro W1 ⟨h1, x1⟩
  have c1 := fun j => cell_of_row W1 _ j _ _ _ h1
  have l1 : w.heap.size < W1.heap.size := (Array.getElem?_eq_some_iff.1 h1).1
  have H1 := Lib.hid h1
  have X1 := Lib.hid x1
  clear h1 x1
  refine wp_region_mixF (af := ?af) #[.bool false, .bool false, .bool false, .string { data := #[] }] 82 [true, true, true, true, false, false] [false, false, false, false, false, false] 53 0 (C := Ext W1) (by kernel_rfl) rfl (by kernel_rfl) (fun _ _ h e => Ext.trans h e) (Ext.refl _).drew ?q ?r
  case q =>
    intro w' hw'
    obtain ⟨y, rfl⟩ := ext_of hw'
    simp only [pickT, if_true, if_false, Bool.false_eq_true]
    repeat (go_big_quiet_step ((go_at_call 44; exact calls_ext (HK.out _))))
    exact rfl
  case r =>
    simp only [restL, if_true, if_false, Bool.false_eq_true]
    refine ⟨fun a w => by simp [go_sem], ?_⟩
    intro x1 gT hgT hzT
    intro x3
    go_wp2_with (refine wpList_store_row rfl 82 _ _ rfl gT _ rfl rfl 82 _ (heap_ext hzT x3.ext) info_kind rfl (by simp [Value.oneCell']) ?_)
    refine ⟨(((Ext.refl W1).drew.val x1).val x3).setRow hgT _, ?_⟩
    intro x2
    have e1 : x2.val.heap[gT]? = some (.cells #[.bool false, .bool true, .bool false, .string { data := #[105, 110, 115, 116, 101, 97, 100] }] 82 (0, 0)) := heap_ext (setRow_heap _ _ _ _ _ _ (heap_ext hzT x3.ext)) x2.ext
    have eX : Ext W1 x2.val := (((Ext.refl W1).drew.val x1).val x3).setRow hgT _ |>.val x2
    have e2 := heap_ext H1.out eX
    have EX := Lib.hid (X1.out.trans eX)
    generalize x2.val = W2 at e1 e2 EX ⊢
    clear eX x2 hzT x3 x1 c1 l1 H1 X1 HK hix
    have c1 := fun j => cell_of_row W2 _ j _ _ _ e1
    have c2 := fun j => cell_of_row W2 _ j _ _ _ e2
    clear e1 e2
    clear hgT
    have key : ∀ v : Int, (lchk ⟨6, f, c, t, b⟩ = v) → Hid (lchk ⟨6, f, c, t, b⟩ = v) := fun _ h => Lib.hid h
    by_cases hf : f = 0 ∨ f = 1
    case neg =>
      have hK := key 110 (by unfold lchk; rw [if_neg (by simp), if_pos hf])
      have hf0 : (f != 0) = true := by simp; omega
      have hf1 : (f != 1) = true := by simp; omega
      clear hf
      go_wp2_with fail
      go_ret
      exact ⟨by rw [hK.out]; rfl, EX.out⟩
    by_cases hf0 : f = 0
    case neg =>
      have hf1 : f = 1 := by omega
      subst hf1
      have hK := key 110 (by unfold lchk; rw [if_neg (by simp), if_neg (by simp), if_pos (by simp)])
      clear hf hf0
      go_wp2_with fail
      go_ret
      exact ⟨by rw [hK.out]; rfl, EX.out⟩
    subst hf0
    cases b
    case true =>
      have hK := key 110 (by unfold lchk; rw [if_neg (by simp), if_neg (by simp), if_neg (by simp), if_neg (by simp), if_pos (by simp)])
      clear hf
      go_wp2_with fail
      go_ret
      exact ⟨by rw [hK.out]; rfl, EX.out⟩
    by_cases hs : 64 < t.size
    case pos =>
      have hK := key 1 (by unfold lchk; rw [if_neg (by simp), if_neg (by simp), if_neg (by simp), if_neg (by simp), if_neg (by simp), if_pos hs])
      have hs' : (64 : Int) < (t.size : Int) := by omega
      clear hs hf
      go_wp2_with fail
      go_ret
      exact ⟨by rw [hK.out]; rfl, EX.out⟩
    have hK := key 0 (by unfold lchk; rw [if_neg (by simp), if_neg (by simp), if_neg (by simp), if_neg (by simp), if_neg (by simp), if_neg (by simp; try omega)])
    have hs' : (t.size : Int) ≤ 64 := by omega
    clear hs
    clear hf
    go_wp2_with fail
    go_ret
    exact ⟨by rw [hK.out]; rfl, EX.out⟩

set_option maxRecDepth 100000 in
set_option maxHeartbeats 3200000 in
theorem le_check7 (f c : Int) (t : ByteArray) (b : Bool) (w : World) : Calls Try.prog 26 #[.agg #[.int .i64 7, .int .i64 f, .int .u64 c, .string t, .bool b]] w fun e w' => e = .returned (.int .i64 (lchk ⟨7, f, c, t, b⟩)) ∧ Ext w w' := by
  have hkd := le_kinds
  unfold kindsC at hkd
  have hix := idx7
  unfold kindsC at hix
  have HK := Lib.hid hkd
  clear hkd
  go_enter Try.func26, Try.ntmps26
  go_wp2_with fail
  refine wp_forget (fun w' => w'.heap[w.heap.size]? = some (.cells #[.int .i64 7, .int .i64 f, .int .u64 c, .string t, .bool b] 27 (0, 0)) ∧ Ext w w') ⟨heap_new rfl, (Ext.refl _).alloc _⟩ ?_
  rintro W1 ⟨h1, x1⟩
  have c1 := fun j => cell_of_row W1 _ j _ _ _ h1
  have l1 : w.heap.size < W1.heap.size := (Array.getElem?_eq_some_iff.1 h1).1
  have H1 := Lib.hid h1
  have X1 := Lib.hid x1
  clear h1 x1
  refine wp_region_mixF (af := ?af) #[.bool false, .bool false, .bool false, .string { data := #[] }] 82 [true, true, true, true, false, false] [false, false, false, false, false, false] 53 0 (C := Ext W1) (by kernel_rfl) rfl (by kernel_rfl) (fun _ _ h e => Ext.trans h e) (Ext.refl _).drew ?q ?r
  case q =>
    intro w' hw'
    obtain ⟨y, rfl⟩ := ext_of hw'
    simp only [pickT, if_true, if_false, Bool.false_eq_true]
    repeat (go_big_quiet_step ((go_at_call 44; exact calls_ext (HK.out _))))
    exact rfl
  case r =>
    simp only [restL, if_true, if_false, Bool.false_eq_true]
    refine ⟨fun a w => by simp [go_sem], ?_⟩
    intro x1 gT hgT hzT
    intro x3
    go_wp2_with (refine wpList_store_row rfl 82 _ _ rfl gT _ rfl rfl 82 _ (heap_ext hzT x3.ext) info_kind rfl (by simp [Value.oneCell']) ?_)
    refine ⟨(((Ext.refl W1).drew.val x1).val x3).setRow hgT _, ?_⟩
    intro x2
    have e1 : x2.val.heap[gT]? = some (.cells #[.bool false, .bool false, .bool false, .string { data := #[102, 117, 108, 108] }] 82 (0, 0)) := heap_ext (setRow_heap _ _ _ _ _ _ (heap_ext hzT x3.ext)) x2.ext
    have eX : Ext W1 x2.val := (((Ext.refl W1).drew.val x1).val x3).setRow hgT _ |>.val x2
    have e2 := heap_ext H1.out eX
    have EX := Lib.hid (X1.out.trans eX)
    generalize x2.val = W2 at e1 e2 EX ⊢
    clear eX x2 hzT x3 x1 c1 l1 H1 X1 HK hix
    have c1 := fun j => cell_of_row W2 _ j _ _ _ e1
    have c2 := fun j => cell_of_row W2 _ j _ _ _ e2
    clear e1 e2
    clear hgT
    have key : ∀ v : Int, (lchk ⟨7, f, c, t, b⟩ = v) → Hid (lchk ⟨7, f, c, t, b⟩ = v) := fun _ h => Lib.hid h
    by_cases hf : f = 0 ∨ f = 1
    case neg =>
      have hK := key 110 (by unfold lchk; rw [if_neg (by simp), if_pos hf])
      have hf0 : (f != 0) = true := by simp; omega
      have hf1 : (f != 1) = true := by simp; omega
      clear hf
      go_wp2_with fail
      go_ret
      exact ⟨by rw [hK.out]; rfl, EX.out⟩
    by_cases hf0 : f = 0
    case neg =>
      have hf1 : f = 1 := by omega
      subst hf1
      have hK := key 110 (by unfold lchk; rw [if_neg (by simp), if_neg (by simp), if_pos (by simp)])
      clear hf hf0
      go_wp2_with fail
      go_ret
      exact ⟨by rw [hK.out]; rfl, EX.out⟩
    subst hf0
    by_cases ht : t = { data := #[] }
    case neg =>
      have hK := key 110 (by unfold lchk; rw [if_neg (by simp), if_neg (by simp), if_neg (by simp), if_pos ⟨by simp, ht⟩])
      have ht' : t.toList.isEmpty = false := (empty_ne t).2 ht
      clear hf ht
      go_wp2_with fail
      go_ret
      exact ⟨by rw [hK.out]; rfl, EX.out⟩
    subst ht
    cases b
    case true =>
      have hK := key 110 (by unfold lchk; rw [if_neg (by simp), if_neg (by simp), if_neg (by simp), if_neg (by simp), if_pos (by simp)])
      clear hf
      go_wp2_with fail
      go_ret
      exact ⟨by rw [hK.out]; rfl, EX.out⟩
    have hK := key 0 (by unfold lchk; rw [if_neg (by simp), if_neg (by simp), if_neg (by simp), if_neg (by simp), if_neg (by simp), if_neg (by simp [ByteArray.size])])
    clear hf
    go_wp2_with fail
    go_ret
    exact ⟨by rw [hK.out]; rfl, EX.out⟩

set_option maxRecDepth 100000 in
set_option maxHeartbeats 800000 in
theorem le_check (l : Lt) (w : World) : Calls Try.prog 26 #[.agg #[.int .i64 l.k, .int .i64 l.f, .int .u64 l.c, .string l.t, .bool l.b]] w fun e w' => e = .returned (.int .i64 (lchk l)) ∧ Ext w w' := by
  obtain ⟨k, f, c, t, b⟩ := l
  simp only
  by_cases hk : k < 1
  · have e : lchk ⟨k, f, c, t, b⟩ = 110 := by unfold lchk; rw [if_pos (.inl hk)]
    rw [e]
    clear e
    go_enter Try.func26, Try.ntmps26
    go_wp2_with fail
    go_ret
    exact ⟨rfl, (Ext.refl _).alloc _⟩
  by_cases hk7 : 7 < k
  · have e : lchk ⟨k, f, c, t, b⟩ = 110 := by unfold lchk; rw [if_pos (.inr hk7)]
    rw [e]
    clear e
    go_enter Try.func26, Try.ntmps26
    go_wp2_with fail
    go_ret
    exact ⟨rfl, (Ext.refl _).alloc _⟩
  obtain rfl | rfl | rfl | rfl | rfl | rfl | rfl : k = 1 ∨ k = 2 ∨ k = 3 ∨ k = 4 ∨ k = 5 ∨ k = 6 ∨ k = 7 := by omega
  · exact le_check1 f c t b w
  · exact le_check2 f c t b w
  · exact le_check3 f c t b w
  · exact le_check4 f c t b w
  · exact le_check5 f c t b w
  · exact le_check6 f c t b w
  · exact le_check7 f c t b w
end Go.Proofs.Ytodnfbfhdloogaa

/-
  Walks: what a verdict says; the responder's small functions. No condition.
-/
namespace Go.Proofs.Ytodnfbfhdloogaa
open Go.RowKit
attribute [local go_sem ↓] eql_lEq eql_sEq eql_eEq eql_oEq neq_lEq neq_sEq neq_eEq neq_oEq eql_vEq neq_vEq eql_nil
attribute [local go_sem] ExtOf.cell ExtOf.frozen ExtOf.lt ExtOf.le
attribute [local go_sem high] ExtOf.cell2 ExtOf.frozen2 ExtOf.lt2 ExtOf.cell3 ExtOf.frozen3 ExtOf.lt3

theorem info_lt : (Try.prog.info? 27).map (·.size) = some 5 := by kernel_rfl

def saysL (v : Vd) : Lt := (saysS v).getD l0
theorem says_1 (c : Int) (t : ByteArray) (h : t = { data := #[] }) : saysS ⟨c, 1, t⟩ = some ⟨5, 0, c, { data := #[] }, false⟩ := by unfold saysS; rw [if_pos ⟨rfl, h⟩]
theorem says_2 (c : Int) (t : ByteArray) (h : t.size ≤ 64) : saysS ⟨c, 2, t⟩ = some ⟨6, 0, c, t, false⟩ := by unfold saysS; rw [if_neg (by simp), if_pos ⟨rfl, h⟩]
theorem says_n (c k : Int) (t : ByteArray) (h1 : ¬ (k = 1 ∧ t = { data := #[] })) (h2 : ¬ (k = 2 ∧ t.size ≤ 64)) : saysS ⟨c, k, t⟩ = none := by unfold saysS; rw [if_neg h1, if_neg h2]

set_option maxHeartbeats 800000 in
theorem ve_says (c k : Int) (t : ByteArray) (w : World) : Calls Try.prog 23 #[.agg #[.int .u64 c, .int .i64 k, .string t]] w fun e w' =>
    e = .returned (.tuple #[.agg #[.int .i64 (saysL ⟨c, k, t⟩).k, .int .i64 (saysL ⟨c, k, t⟩).f, .int .u64 (saysL ⟨c, k, t⟩).c, .string (saysL ⟨c, k, t⟩).t, .bool (saysL ⟨c, k, t⟩).b], .bool (saysS ⟨c, k, t⟩).isSome]) ∧ Ext w w' := by
  unfold saysL
  by_cases h1 : k = 1 ∧ t = { data := #[] }
  · obtain ⟨rfl, rfl⟩ := h1
    rw [says_1 c _ rfl]
    simp only [Option.getD_some, Option.isSome_some]
    go_enter Try.func23, Try.ntmps23
    go_wp2_with (refine wpList_store_row rfl 27 _ _ rfl _ _ rfl rfl 27 _ (heap_new (by simp)) info_lt rfl (by simp [Value.oneCell']) ?_)
    exact bodyPost_ret (results_row_tmp rfl _ _ _ 27 _ (0, 0) _ rfl (setRow_heap _ _ _ _ _ _ (heap_new (by simp))) Try.underlying27 rfl info_lt) rfl ⟨rfl, Ext.setRow (((Ext.refl _).alloc _).alloc _) (by omega) _⟩
  by_cases h2 : k = 2 ∧ t.size ≤ 64
  · obtain ⟨rfl, hs⟩ := h2
    rw [says_2 c _ hs]
    simp only [Option.getD_some, Option.isSome_some]
    have hs' : (t.size : Int) ≤ 64 := by omega
    clear hs h1
    go_enter Try.func23, Try.ntmps23
    go_wp2_with (refine wpList_store_row rfl 27 _ _ rfl _ _ rfl rfl 27 _ (heap_new (by simp)) info_lt rfl (by simp [Value.oneCell']) ?_)
    exact bodyPost_ret (results_row_tmp rfl _ _ _ 27 _ (0, 0) _ rfl (setRow_heap _ _ _ _ _ _ (heap_new (by simp))) Try.underlying27 rfl info_lt) rfl ⟨rfl, Ext.setRow (((Ext.refl _).alloc _).alloc _) (by omega) _⟩
  rw [says_n c k t h1 h2]
  unfold l0
  simp only [Option.getD_none, Option.isSome_none]
  by_cases hk1 : k = 1
  · subst hk1
    have ht : t.toList.isEmpty = false := (empty_ne t).2 fun h => h1 ⟨rfl, h⟩
    clear h1 h2
    go_enter Try.func23, Try.ntmps23
    go_wp2_with (refine wpList_store_row rfl 27 _ _ rfl _ _ rfl rfl 27 _ (heap_new (by simp)) info_lt rfl (by simp [Value.oneCell']) ?_)
    exact bodyPost_ret (results_row_tmp rfl _ _ _ 27 _ (0, 0) _ rfl (setRow_heap _ _ _ _ _ _ (heap_new (by simp))) Try.underlying27 rfl info_lt) rfl ⟨rfl, Ext.setRow (((Ext.refl _).alloc _).alloc _) (by omega) _⟩
  by_cases hk2 : k = 2
  · subst hk2
    have hs' : ¬ (t.size : Int) ≤ 64 := fun h => h2 ⟨rfl, by omega⟩
    clear h1 h2
    go_enter Try.func23, Try.ntmps23
    go_wp2_with (refine wpList_store_row rfl 27 _ _ rfl _ _ rfl rfl 27 _ (heap_new (by simp)) info_lt rfl (by simp [Value.oneCell']) ?_)
    exact bodyPost_ret (results_row_tmp rfl _ _ _ 27 _ (0, 0) _ rfl (setRow_heap _ _ _ _ _ _ (heap_new (by simp))) Try.underlying27 rfl info_lt) rfl ⟨rfl, Ext.setRow (((Ext.refl _).alloc _).alloc _) (by omega) _⟩
  · have e1 : (k == 1) = false := by simpa using hk1
    have e2 : (k == 2) = false := by simpa using hk2
    clear h1 h2 hk1 hk2
    go_enter Try.func23, Try.ntmps23
    go_wp2_with (refine wpList_store_row rfl 27 _ _ rfl _ _ rfl rfl 27 _ (heap_new (by simp)) info_lt rfl (by simp [Value.oneCell']) ?_)
    exact bodyPost_ret (results_row_tmp rfl _ _ _ 27 _ (0, 0) _ rfl (setRow_heap _ _ _ _ _ _ (heap_new (by simp))) Try.underlying27 rfl info_lt) rfl ⟨rfl, Ext.setRow (((Ext.refl _).alloc _).alloc _) (by omega) _⟩

theorem an_promise (r c ph : Int) (t : ByteArray) (k f c2 : Int) (t2 : ByteArray) (fk : Bool) (n : Int) (w : World) :
    Calls Try.prog 60 #[.agg #[.int .i64 r, .int .u64 c, .string t, .int .i64 ph, .int .i64 k, .int .i64 f, .int .u64 c2, .string t2, .bool fk], .int .i64 n] w fun e w' => e = .returned (.agg #[.int .i64 1, .int .i64 n, .int .u64 c, .string t, .bool false]) ∧ Ext w w' := by
  go_enter Try.func60, Try.ntmps60
  go_wp2
  exact bodyPost_ret (v := .agg #[.int .i64 1, .int .i64 n, .int .u64 c, .string t, .bool false]) (by simp [results, Try.results60, go_sem]) rfl ⟨rfl, ((Ext.refl _).alloc _).alloc _⟩

theorem an_signature (r c ph : Int) (t : ByteArray) (k f c2 : Int) (t2 : ByteArray) (fk : Bool) (n : Int) (w : World) :
    Calls Try.prog 42 #[.agg #[.int .i64 r, .int .u64 c, .string t, .int .i64 ph, .int .i64 k, .int .i64 f, .int .u64 c2, .string t2, .bool fk], .int .i64 n] w fun e w' => e = .returned (.agg #[.int .i64 2, .int .i64 n, .int .u64 c, .string t, .bool false]) ∧ Ext w w' := by
  go_enter Try.func42, Try.ntmps42
  go_wp2
  exact bodyPost_ret (v := .agg #[.int .i64 2, .int .i64 n, .int .u64 c, .string t, .bool false]) (by simp [results, Try.results42, go_sem]) rfl ⟨rfl, ((Ext.refl _).alloc _).alloc _⟩

theorem an_instead (r c ph : Int) (t : ByteArray) (k f c2 : Int) (t2 : ByteArray) (fk : Bool) (w : World) :
    Calls Try.prog 43 #[.agg #[.int .i64 r, .int .u64 c, .string t, .int .i64 ph, .int .i64 k, .int .i64 f, .int .u64 c2, .string t2, .bool fk]] w fun e w' => e = .returned (.agg #[.int .i64 6, .int .i64 0, .int .u64 c, .string t, .bool false]) ∧ Ext w w' := by
  go_enter Try.func43, Try.ntmps43
  go_wp2
  exact bodyPost_ret (v := .agg #[.int .i64 6, .int .i64 0, .int .u64 c, .string t, .bool false]) (by simp [results, Try.results43, go_sem]) rfl ⟨rfl, ((Ext.refl _).alloc _).alloc _⟩

theorem an_new (c : Int) (w : World) :
    Calls Try.prog 17 #[.int .u64 c] w fun e w' => e = .returned (.agg #[.int .i64 1, .int .u64 c, .string { data := #[] }, .int .i64 0, .int .i64 0, .int .i64 0, .int .u64 0, .string { data := #[] }, .bool false]) ∧ Ext w w' := by
  go_enter Try.func17, Try.ntmps17
  go_wp2
  exact bodyPost_ret (v := .agg #[.int .i64 1, .int .u64 c, .string { data := #[] }, .int .i64 0, .int .i64 0, .int .i64 0, .int .u64 0, .string { data := #[] }, .bool false]) (by simp [results, Try.results17, go_sem]) rfl ⟨rfl, (Ext.refl _).alloc _⟩

theorem an_in (r c ph : Int) (t : ByteArray) (k f c2 : Int) (t2 : ByteArray) (fk : Bool) (n : Int) (w : World) :
    Calls Try.prog 58 #[.agg #[.int .i64 r, .int .u64 c, .string t, .int .i64 ph, .int .i64 k, .int .i64 f, .int .u64 c2, .string t2, .bool fk], .int .i64 n] w fun e w' => e = .returned (.agg #[.int .i64 r, .int .u64 c, .string t, .int .i64 n, .int .i64 k, .int .i64 f, .int .u64 c2, .string t2, .bool fk]) ∧ Ext w w' := by
  go_enter Try.func58, Try.ntmps58
  go_wp2
  exact bodyPost_ret (v := .agg #[.int .i64 r, .int .u64 c, .string t, .int .i64 n, .int .i64 k, .int .i64 f, .int .u64 c2, .string t2, .bool fk]) (by simp [results, Try.results58, go_sem]) rfl ⟨rfl, ((Ext.refl _).alloc _).alloc _⟩

theorem an_proved (r c ph : Int) (t : ByteArray) (k f c2 : Int) (t2 : ByteArray) (fk : Bool) (lk lf lc : Int) (lt : ByteArray) (lb : Bool) (w : World) :
    Calls Try.prog 61 #[.agg #[.int .i64 r, .int .u64 c, .string t, .int .i64 ph, .int .i64 k, .int .i64 f, .int .u64 c2, .string t2, .bool fk], .agg #[.int .i64 lk, .int .i64 lf, .int .u64 lc, .string lt, .bool lb]] w fun e w' => e = .returned (.agg #[.int .i64 r, .int .u64 c, .string t, .int .i64 6, .int .i64 lk, .int .i64 lf, .int .u64 lc, .string lt, .bool lb]) ∧ Ext w w' := by
  go_enter Try.func61, Try.ntmps61
  go_wp2_with fail
  go_region
  go_wp2
  exact bodyPost_ret (v := .agg #[.int .i64 r, .int .u64 c, .string t, .int .i64 6, .int .i64 lk, .int .i64 lf, .int .u64 lc, .string lt, .bool lb]) (by simp [results, Try.results61, go_sem]) rfl ⟨rfl, ((((Ext.refl _).alloc _).alloc _).alloc _).drew⟩

theorem an_to (n : Int) (lk lf lc : Int) (lt : ByteArray) (lb : Bool) (w : World) :
    Calls Try.prog 59 #[.int .i64 n, .agg #[.int .i64 lk, .int .i64 lf, .int .u64 lc, .string lt, .bool lb]] w (Made w 61 6 1 [.int .i64 n, .int .i64 lk, .int .i64 lf, .int .u64 lc, .string lt, .bool lb]) := by
  go_enter Try.func59, Try.ntmps59
  go_wp2_with fail
  go_ret
  exact ⟨_, rfl, own_new ((Ext.refl w).alloc _) (by simp) (by decide) rfl rfl, ((Ext.refl _).alloc _).alloc _⟩

/-- Is a state the responder's? -/
def chkR (r c : Int) (t : ByteArray) (ph k f c2 : Int) (t2 : ByteArray) (fk : Bool) : Bool :=
  if r = 1 ∧ t.size ≤ 64 then
    if ph = 6 then lEq k f c2 t2 fk 2 0 c t false || lEq k f c2 t2 fk 6 0 c t false
    else if ph = 0 then t.toList.isEmpty && lEq k f c2 t2 fk 0 0 0 { data := #[] } false
    else if ph = 1 ∨ ph = 2 ∨ ph = 5 ∨ ph = 7 then lEq k f c2 t2 fk 0 0 0 { data := #[] } false
    else false
  else false

theorem chkA_eq (r c : Int) (t : ByteArray) (ph k f c2 : Int) (t2 : ByteArray) (fk : Bool) : chkA ⟨r, c, t, ph, ⟨k, f, c2, t2, fk⟩⟩ = chkR r c t ph k f c2 t2 fk := by
  have e : ∀ a b c d e, lEq k f c2 t2 fk a b c d e = decide ((⟨k, f, c2, t2, fk⟩ : Lt) = ⟨a, b, c, d, e⟩) := fun a b c d e => lEq_lt ⟨k, f, c2, t2, fk⟩ ⟨a, b, c, d, e⟩
  have e0 : t.toList.isEmpty = decide (t = { data := #[] }) := by
    rw [Bool.eq_iff_iff, empty_eq, decide_eq_true_eq]
  unfold chkA chkR
  simp only [e, e0, sgS, inS, l0]
  by_cases h : r = 1 ∧ t.size ≤ 64
  · rw [if_pos h, decide_eq_true h, Bool.true_and]
    by_cases h6 : ph = 6
    · subst h6
      rw [if_neg (by simp), if_neg (by simp), if_pos rfl, if_pos rfl]
      rfl
    · by_cases h0 : ph = 0
      · subst h0
        rfl
      · simp only [h6, h0, if_false]
        rfl
  · rw [if_neg h, decide_eq_false h, Bool.false_and]

set_option maxHeartbeats 400000 in
theorem an_check6 (c : Int) (t : ByteArray) (k f c2 : Int) (t2 : ByteArray) (fk : Bool) (w : World) (ht : (t.size : Int) ≤ 64) :
    Calls Try.prog 25 #[.agg #[.int .i64 1, .int .u64 c, .string t, .int .i64 6, .int .i64 k, .int .i64 f, .int .u64 c2, .string t2, .bool fk]] w fun e w' => e = .returned (.bool (lEq k f c2 t2 fk 2 0 c t false || lEq k f c2 t2 fk 6 0 c t false)) ∧ Ext w w' := by
  rcases h : lEq k f c2 t2 fk 2 0 c t false
  all_goals
    go_enter Try.func25, Try.ntmps25
    go_wp2_with fail
    refine wp_region_ext (by kernel_rfl) (by kernel_rfl) ?_
    repeat (go_big_quiet_step ((first | (go_at_call 42; exact calls_ext (an_signature _ _ _ _ _ _ _ _ _ _ _)) | (go_at_call 43; exact calls_ext (an_instead _ _ _ _ _ _ _ _ _ _)))))
    refine wpQuiet_nil ?_
    intro _ hx
    obtain ⟨x, rfl⟩ := hx
    go_wp2
    go_ret
    exact ⟨by simp, ((Ext.refl _).alloc _).val x⟩

set_option maxHeartbeats 400000 in
theorem an_checkR (r c : Int) (t : ByteArray) (ph k f c2 : Int) (t2 : ByteArray) (fk : Bool) (w : World) :
    Calls Try.prog 25 #[.agg #[.int .i64 r, .int .u64 c, .string t, .int .i64 ph, .int .i64 k, .int .i64 f, .int .u64 c2, .string t2, .bool fk]] w fun e w' => e = .returned (.bool (chkR r c t ph k f c2 t2 fk)) ∧ Ext w w' := by
  by_cases h0 : r = 1 ∧ t.size ≤ 64
  · obtain ⟨rfl, h1⟩ := h0
    by_cases h6 : ph = 6
    · subst h6
      have := an_check6 c t k f c2 t2 fk w (by omega)
      simpa [chkR, h1] using this
    · go_enter Try.func25, Try.ntmps25
      go_wp2
      all_goals (go_ret; exact ⟨ret_bool (by go_light; simp_all [chkR]), (Ext.refl _).alloc _⟩)
  · have e : chkR r c t ph k f c2 t2 fk = false := by unfold chkR; rw [if_neg h0]
    rw [e]
    clear e
    have h1 : ¬ (r = 1 ∧ (t.size : Int) ≤ 64) := by omega
    go_enter Try.func25, Try.ntmps25
    go_wp2
    all_goals first | (go_light; omega) | (go_ret; exact ⟨rfl, (Ext.refl _).alloc _⟩)

theorem an_check (r c : Int) (t : ByteArray) (ph k f c2 : Int) (t2 : ByteArray) (fk : Bool) (w : World) :
    Calls Try.prog 25 #[.agg #[.int .i64 r, .int .u64 c, .string t, .int .i64 ph, .int .i64 k, .int .i64 f, .int .u64 c2, .string t2, .bool fk]] w fun e w' => e = .returned (.bool (chkA ⟨r, c, t, ph, ⟨k, f, c2, t2, fk⟩⟩)) ∧ Ext w w' := by
  rw [chkA_eq]
  exact an_checkR r c t ph k f c2 t2 fk w

set_option maxHeartbeats 800000 in
theorem an_final (r c : Int) (t : ByteArray) (ph k f c2 : Int) (t2 : ByteArray) (fk : Bool) (w : World) :
    Calls Try.prog 29 #[.agg #[.int .i64 r, .int .u64 c, .string t, .int .i64 ph, .int .i64 k, .int .i64 f, .int .u64 c2, .string t2, .bool fk]] w fun e w' => e = .returned (.bool (finA ⟨r, c, t, ph, ⟨k, f, c2, t2, fk⟩⟩)) ∧ Ext w w' := by
  rcases hc : chkA ⟨r, c, t, ph, ⟨k, f, c2, t2, fk⟩⟩
  · have hs : finA ⟨r, c, t, ph, ⟨k, f, c2, t2, fk⟩⟩ = false := by simp [finA, hc]
    rw [hs]; clear hs
    go_enter Try.func29, Try.ntmps29
    go_wp2_with (go_at_call 25; refine (an_check _ _ _ _ _ _ _ _ _ _).mono ?_; rintro e w1 ⟨rfl, hx⟩; obtain ⟨x1, rfl⟩ := ext_of hx; clear hx)
    go_ret
    exact ⟨rfl, ((Ext.refl _).alloc _).val x1⟩
  · have hs : finA ⟨r, c, t, ph, ⟨k, f, c2, t2, fk⟩⟩ = (ph == 6 || ph == 7) := by simp [finA, hc]
    rw [hs]; clear hs
    rcases h6 : (ph == 6)
    all_goals
      go_enter Try.func29, Try.ntmps29
      go_wp2_with (go_at_call 25; refine (an_check _ _ _ _ _ _ _ _ _ _).mono ?_; rintro e w1 ⟨rfl, hx⟩; obtain ⟨x1, rfl⟩ := ext_of hx; clear hx)
      go_ret
      exact ⟨by simp, ((Ext.refl _).alloc _).val x1⟩
end Go.Proofs.Ytodnfbfhdloogaa
