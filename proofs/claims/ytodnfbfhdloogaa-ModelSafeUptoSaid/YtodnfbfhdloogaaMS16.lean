/-
  Walks: the responder's step in one; the step of a party. No condition.
-/
import Derived.Test.YtodnfbfhdloogaaMS15
set_option linter.all false
namespace Go.Proofs.Ytodnfbfhdloogaa
open Go.RowKit
attribute [local go_sem ↓] eql_lEq eql_sEq eql_eEq eql_oEq neq_lEq neq_sEq neq_eEq neq_oEq eql_vEq neq_vEq eql_nil
attribute [local go_sem] ExtOf.cell ExtOf.frozen ExtOf.lt ExtOf.le
attribute [local go_sem high] ExtOf.cell2 ExtOf.frozen2 ExtOf.lt2 ExtOf.cell3 ExtOf.frozen3 ExtOf.lt3

theorem three_new {w w1 : World} {A B C : Obj} (hx : Ext (((w.alloc A).alloc B).alloc C) w1) : w1.heap[w.heap.size]? = some A ∧ w1.heap[w.heap.size + 1]? = some B ∧ w1.heap[w.heap.size + 1 + 1]? = some C ∧ Ext w w1 :=
  ⟨heap_ext (heap_ext (heap_new rfl) (((Ext.refl _).alloc _).alloc _)) hx, heap_ext (heap_ext (heap_new (by simp)) ((Ext.refl _).alloc _)) hx, heap_ext (heap_new (by simp)) hx, ((((Ext.refl _).alloc _).alloc _).alloc _).trans hx⟩
theorem two_new {w w1 : World} {A B : Obj} (hx : Ext ((w.alloc A).alloc B) w1) : w1.heap[w.heap.size]? = some A ∧ w1.heap[w.heap.size + 1]? = some B ∧ Ext w w1 :=
  ⟨heap_ext (heap_ext (heap_new rfl) ((Ext.refl _).alloc _)) hx, heap_ext (heap_new (by simp)) hx, (((Ext.refl _).alloc _).alloc _).trans hx⟩

theorem an_takes (r c : Int) (t : ByteArray) (ph k f c2 : Int) (t2 : ByteArray) (fk : Bool) (lk lf lc : Int) (lt : ByteArray) (lb : Bool) (w : World) :
    Calls Try.prog 53 #[.agg #[.int .i64 r, .int .u64 c, .string t, .int .i64 ph, .int .i64 k, .int .i64 f, .int .u64 c2, .string t2, .bool fk], .agg #[.int .i64 lk, .int .i64 lf, .int .u64 lc, .string lt, .bool lb]] w
      (Stepped w (takesA ⟨r, c, t, ph, ⟨k, f, c2, t2, fk⟩⟩ ⟨lk, lf, lc, lt, lb⟩)) := by
  have hT := an_told r c t ph k f c2 t2 fk lk lf lc lt lb
  generalize hn : toldA ⟨r, c, t, ph, ⟨k, f, c2, t2, fk⟩⟩ ⟨lk, lf, lc, lt, lb⟩ = n at hT
  unfold takesA
  rw [hn]
  clear hn
  have q : ∀ {a b : Int}, ¬ a = b → (a == b) = false := fun h => by simpa using h
  split
  · rename_i h1
    simp only at h1
    subst h1
    split
    · rename_i h2
      subst h2
      exact an_takes_11 _ _ _ _ _ _ _ _ _ _ _ _ _ w hT
    · exact an_takes_1n _ _ _ _ _ _ _ _ _ _ _ _ _ n w hT (q ‹_›)
  · rename_i n1
    split
    · rename_i h1
      simp only at h1
      subst h1
      split
      · rename_i h2
        subst h2
        exact an_takes_56 _ _ _ _ _ _ _ _ _ _ _ _ _ w hT
      · rename_i m6
        split
        · rename_i h2
          subst h2
          exact an_takes_55 _ _ _ _ _ _ _ _ _ _ _ _ _ w hT
        · rename_i m5
          split
          · rename_i h2
            subst h2
            exact an_takes_52 _ _ _ _ _ _ _ _ _ _ _ _ _ w hT
          · exact an_takes_5n _ _ _ _ _ _ _ _ _ _ _ _ _ n w hT (q m6) (q m5) (q ‹_›)
    · rename_i n5
      split
      · rename_i h1
        simp only at h1
        subst h1
        split
        · rename_i h2
          subst h2
          exact an_takes_22 _ _ _ _ _ _ _ _ _ _ _ _ _ w hT
        · rename_i m2
          split
          · rename_i h2
            subst h2
            exact an_takes_21 _ _ _ _ _ _ _ _ _ _ _ _ _ w hT
          · exact an_takes_2n _ _ _ _ _ _ _ _ _ _ _ _ _ n w hT (q m2) (q ‹_›)
      · rename_i n2
        split
        · rename_i h1
          simp only at h1
          subst h1
          split
          · rename_i h2
            subst h2
            exact an_takes_62 _ _ _ _ _ _ _ _ _ _ _ _ _ w hT
          · exact an_takes_6n _ _ _ _ _ _ _ _ _ _ _ _ _ n w hT (q ‹_›)
        · exact an_takes_n _ _ _ _ _ _ _ _ _ _ _ _ _ _ n w hT (q n1) (q n5) (q n2) (q ‹_›)

set_option maxHeartbeats 800000 in
theorem an_ticks_1 (r c : Int) (t : ByteArray) (k f c2 : Int) (t2 : ByteArray) (fk : Bool) (w : World) :
    Calls Try.prog 54 #[.agg #[.int .i64 r, .int .u64 c, .string t, .int .i64 1, .int .i64 k, .int .i64 f, .int .u64 c2, .string t2, .bool fk]] w (Stepped w (⟨r, c, t, 7, ⟨k, f, c2, t2, fk⟩⟩, [])) := by
  go_enter Try.func54, Try.ntmps54
  go_wp2_with (first
    | (go_at_call 58; refine (an_in _ _ _ _ _ _ _ _ _ _ _).mono ?_; rintro e w1 ⟨rfl, hx⟩; obtain ⟨x1, rfl⟩ := ext_of hx; clear hx)
    | (refine wpList_store_row rfl 29 _ _ rfl _ _ rfl rfl 29 _ (heap_ext (heap_new (by simp)) x1.ext) info_state rfl (by simp [Value.oneCell']) ?_))
  refine bodyPost_ret (results_row_tmp rfl _ _ _ 29 _ (0, 0) _ rfl (setRow_heap _ _ _ _ _ _ (heap_ext (heap_new (by simp)) x1.ext)) Try.underlying29 rfl info_state) rfl ?_
  exact ⟨_, rfl, World.ownsRow_nil _ _ _ _, Ext.setRow ((((Ext.refl _).alloc _).alloc _).val x1) (by omega) _⟩

set_option maxHeartbeats 800000 in
theorem an_ticks_n (r c : Int) (t : ByteArray) (ph k f c2 : Int) (t2 : ByteArray) (fk : Bool) (w : World) (h1 : (ph == 1) = false) (h2 : (ph == 2) = false) (h5 : (ph == 5) = false) :
    Calls Try.prog 54 #[.agg #[.int .i64 r, .int .u64 c, .string t, .int .i64 ph, .int .i64 k, .int .i64 f, .int .u64 c2, .string t2, .bool fk]] w (Stepped w (⟨r, c, t, ph, ⟨k, f, c2, t2, fk⟩⟩, [])) := by
  go_enter Try.func54, Try.ntmps54
  go_wp2_with (refine wpList_store_row rfl 29 _ _ rfl _ _ rfl rfl 29 _ (heap_new (by simp)) info_state rfl (by simp [Value.oneCell']) ?_)
  refine bodyPost_ret (results_row_tmp rfl _ _ _ 29 _ (0, 0) _ rfl (setRow_heap _ _ _ _ _ _ (heap_new (by simp))) Try.underlying29 rfl info_state) rfl ?_
  exact ⟨_, rfl, World.ownsRow_nil _ _ _ _, Ext.setRow (((Ext.refl _).alloc _).alloc _) (by omega) _⟩

theorem an_ticks (r c : Int) (t : ByteArray) (ph k f c2 : Int) (t2 : ByteArray) (fk : Bool) (w : World) :
    Calls Try.prog 54 #[.agg #[.int .i64 r, .int .u64 c, .string t, .int .i64 ph, .int .i64 k, .int .i64 f, .int .u64 c2, .string t2, .bool fk]] w (Stepped w (ticksA ⟨r, c, t, ph, ⟨k, f, c2, t2, fk⟩⟩)) := by
  have q : ∀ {a b : Int}, ¬ a = b → (a == b) = false := fun h => by simpa using h
  unfold ticksA
  split
  · rename_i h1
    simp only at h1
    subst h1
    exact an_ticks_1 _ _ _ _ _ _ _ _ w
  · rename_i n1
    split
    · rename_i h1
      simp only at h1
      rcases h1 with rfl | rfl
      · exact an_ticks_2 _ _ _ _ _ _ _ _ w
      · exact an_ticks_5 _ _ _ _ _ _ _ _ w
    · rename_i n2
      exact an_ticks_n _ _ _ _ _ _ _ _ _ w (q n1) (q fun h => n2 (.inl h)) (q fun h => n2 (.inr h))

set_option maxHeartbeats 1600000 in
theorem an_step (r c : Int) (t : ByteArray) (ph k f c2 : Int) (t2 : ByteArray) (fk : Bool) (ek ec : Int) (et : ByteArray) (lk lf lc : Int) (lt : ByteArray) (lb : Bool) (w : World) :
    Calls Try.prog 39 #[.agg #[.int .i64 r, .int .u64 c, .string t, .int .i64 ph, .int .i64 k, .int .i64 f, .int .u64 c2, .string t2, .bool fk], .agg #[.int .i64 ek, .int .u64 ec, .string et, .int .i64 lk, .int .i64 lf, .int .u64 lc, .string lt, .bool lb]] w
      (Stepped w (stepA ⟨r, c, t, ph, ⟨k, f, c2, t2, fk⟩⟩ ⟨ek, ec, et, ⟨lk, lf, lc, lt, lb⟩⟩)) := by
  have key : ∀ X : St × List Ou, (stepA ⟨r, c, t, ph, ⟨k, f, c2, t2, fk⟩⟩ ⟨ek, ec, et, ⟨lk, lf, lc, lt, lb⟩⟩ = X) → Hid (stepA ⟨r, c, t, ph, ⟨k, f, c2, t2, fk⟩⟩ ⟨ek, ec, et, ⟨lk, lf, lc, lt, lb⟩⟩ = X) := fun _ h => Lib.hid h
  have hC := an_check r c t ph k f c2 t2 fk
  rcases hc : chkA ⟨r, c, t, ph, ⟨k, f, c2, t2, fk⟩⟩
  · have hK := key (⟨r, c, t, ph, ⟨k, f, c2, t2, fk⟩⟩, []) (by unfold stepA; rw [hc, if_neg (by simp)])
    rw [hc] at hC
    clear hc
    have HC := Lib.hid hC
    clear hC
    go_enter Try.func39, Try.ntmps39
    go_wp2_with (first
      | (go_at_call 25; refine (HC.out _).mono ?_; rintro e w1 ⟨rfl, hx⟩; obtain ⟨x1, rfl⟩ := ext_of hx; clear hx)
      | (refine wpList_store_row rfl 29 _ _ rfl _ _ rfl rfl 29 _ (heap_ext (heap_new (by simp)) x1.ext) info_state rfl (by simp [Value.oneCell']) ?_))
    refine bodyPost_ret (results_row_tmp rfl _ _ _ 29 _ (0, 0) _ rfl (setRow_heap _ _ _ _ _ _ (heap_ext (heap_new (by simp)) x1.ext)) Try.underlying29 rfl info_state) rfl ?_
    rw [hK.out]
    exact ⟨_, rfl, World.ownsRow_nil _ _ _ _, Ext.setRow (((((Ext.refl _).alloc _).alloc _).alloc _).val x1) (by omega) _⟩
  rw [hc] at hC
  have HC := Lib.hid hC
  clear hC
  by_cases h2 : ek = 2
  · subst h2
    have hK := key (takesA ⟨r, c, t, ph, ⟨k, f, c2, t2, fk⟩⟩ ⟨lk, lf, lc, lt, lb⟩) (by unfold stepA; rw [if_pos hc, if_pos rfl])
    have hT := an_takes r c t ph k f c2 t2 fk lk lf lc lt lb
    generalize takesA ⟨r, c, t, ph, ⟨k, f, c2, t2, fk⟩⟩ ⟨lk, lf, lc, lt, lb⟩ = T at hK hT
    obtain ⟨⟨r', c', t', ph', ⟨k', f', c2', t2', fk'⟩⟩, O⟩ := T
    have HT := Lib.hid hT
    clear hT hc
    go_enter Try.func39, Try.ntmps39
    go_wp2_with (first
      | (go_at_call 25; refine (HC.out _).mono ?_; rintro e w1 ⟨rfl, hx⟩; obtain ⟨x1, rfl⟩ := ext_of hx; clear hx)
      | (go_at_call 53; refine (HT.out _).mono ?_; rintro e w1 ⟨v, rfl, hv, hx⟩; simp only [St.cs]; have HV := Lib.hid hv; clear hv; obtain ⟨x2, rfl⟩ := ext_of hx; clear hx)
      | (refine wpList_store_row rfl 29 _ _ rfl _ _ rfl rfl 29 _ (heap_ext (heap_new (by simp)) (x1.ext.trans x2.ext)) info_state rfl (by simp [Value.oneCell']) ?_))
    refine bodyPost_ret (results_row_tmp rfl _ _ _ 29 _ (0, 0) _ rfl (setRow_heap _ _ _ _ _ _ (heap_ext (heap_new (by simp)) (x1.ext.trans x2.ext))) Try.underlying29 rfl info_state) rfl ?_
    rw [hK.out]
    exact ⟨_, rfl, own_setRow (own_base (b' := w.heap.size) HV.out (((((Ext.refl _).alloc _).alloc _).alloc _).val x1).size) (heap_ext (heap_new (by simp)) (x1.ext.trans x2.ext)) (by decide) _, Ext.setRow ((((((Ext.refl _).alloc _).alloc _).alloc _).val x1).val x2) (by omega) _⟩
  have n2 : (ek == 2) = false := by simpa using h2
  by_cases h3 : ec = c
  case neg =>
    have hK := key (⟨r, c, t, ph, ⟨k, f, c2, t2, fk⟩⟩, []) (by unfold stepA; rw [if_pos hc, if_neg h2, if_neg h3])
    have n3 : (ec != c) = true := by simpa using h3
    clear h3 h2 hc
    go_enter Try.func39, Try.ntmps39
    go_wp2_with (first
      | (go_at_call 25; refine (HC.out _).mono ?_; rintro e w1 ⟨rfl, hx⟩; obtain ⟨x1, rfl⟩ := ext_of hx; clear hx)
      | (refine wpList_store_row rfl 29 _ _ rfl _ _ rfl rfl 29 _ (heap_ext (heap_new (by simp)) x1.ext) info_state rfl (by simp [Value.oneCell']) ?_))
    refine bodyPost_ret (results_row_tmp rfl _ _ _ 29 _ (0, 0) _ rfl (setRow_heap _ _ _ _ _ _ (heap_ext (heap_new (by simp)) x1.ext)) Try.underlying29 rfl info_state) rfl ?_
    rw [hK.out]
    exact ⟨_, rfl, World.ownsRow_nil _ _ _ _, Ext.setRow (((((Ext.refl _).alloc _).alloc _).alloc _).val x1) (by omega) _⟩
  subst h3
  by_cases h4 : ek = 3
  · subst h4
    have hK := key (ticksA ⟨r, ec, t, ph, ⟨k, f, c2, t2, fk⟩⟩) (by unfold stepA; rw [if_pos hc, if_neg (by simp), if_pos rfl, if_pos rfl])
    have hT := an_ticks r ec t ph k f c2 t2 fk
    generalize ticksA ⟨r, ec, t, ph, ⟨k, f, c2, t2, fk⟩⟩ = T at hK hT
    obtain ⟨⟨r', c', t', ph', ⟨k', f', c2', t2', fk'⟩⟩, O⟩ := T
    have HT := Lib.hid hT
    clear hT hc h2
    go_enter Try.func39, Try.ntmps39
    go_wp2_with (first
      | (go_at_call 25; refine (HC.out _).mono ?_; rintro e w1 ⟨rfl, hx⟩; obtain ⟨x1, rfl⟩ := ext_of hx; clear hx)
      | (go_at_call 54; refine (HT.out _).mono ?_; rintro e w1 ⟨v, rfl, hv, hx⟩; simp only [St.cs]; have HV := Lib.hid hv; clear hv; obtain ⟨x2, rfl⟩ := ext_of hx; clear hx)
      | (refine wpList_store_row rfl 29 _ _ rfl _ _ rfl rfl 29 _ (heap_ext (heap_new (by simp)) (x1.ext.trans x2.ext)) info_state rfl (by simp [Value.oneCell']) ?_))
    refine bodyPost_ret (results_row_tmp rfl _ _ _ 29 _ (0, 0) _ rfl (setRow_heap _ _ _ _ _ _ (heap_ext (heap_new (by simp)) (x1.ext.trans x2.ext))) Try.underlying29 rfl info_state) rfl ?_
    rw [hK.out]
    exact ⟨_, rfl, own_setRow (own_base (b' := w.heap.size) HV.out (((((Ext.refl _).alloc _).alloc _).alloc _).val x1).size) (heap_ext (heap_new (by simp)) (x1.ext.trans x2.ext)) (by decide) _, Ext.setRow ((((((Ext.refl _).alloc _).alloc _).alloc _).val x1).val x2) (by omega) _⟩
  have n4 : (ek == 3) = false := by simpa using h4
  by_cases h5 : ek = 1 ∧ ph = 0 ∧ et.size ≤ 64
  · obtain ⟨rfl, rfl, hs⟩ := h5
    have hK := key (⟨r, ec, et, 1, ⟨k, f, c2, t2, fk⟩⟩, []) (by unfold stepA; rw [if_pos hc, if_neg h2, if_pos rfl, if_neg h4, if_pos ⟨rfl, rfl, hs⟩])
    have hs' : (et.size : Int) ≤ 64 := by omega
    clear hs hc h2 h4 n2 n4
    go_enter Try.func39, Try.ntmps39
    go_wp2_with (first
      | (go_at_call 25; refine (HC.out _).mono ?_; rintro e w1 ⟨rfl, hx⟩; obtain ⟨h1a, h1b, h1c, hxx⟩ := three_new hx; clear hx; have q1 := fun j => cell_of_row w1 _ j _ _ _ h1a; have q2 := fun j => cell_of_row w1 _ j _ _ _ h1b; have f1 := fun j => frozen_of_row w1 _ j _ _ h1a; have l1 : w.heap.size < w1.heap.size := (Array.getElem?_eq_some_iff.1 h1a).1; have l2 : w.heap.size + 1 < w1.heap.size := (Array.getElem?_eq_some_iff.1 h1b).1; have H1 := Lib.hid h1a; have H3 := Lib.hid h1c; have HX := Lib.hid hxx; clear h1a h1b h1c hxx)
      | (refine wpList_store_row rfl 29 _ _ rfl _ _ rfl rfl 29 _ ((heap_setCell_other _ _ _ _ (by simp only []; omega)).trans ((heap_setCell_other _ _ _ _ (by simp only []; omega)).trans H3.out)) info_state rfl (by simp [Value.oneCell']) ?_))
    refine bodyPost_ret (results_row_tmp rfl _ _ _ 29 _ (0, 0) _ rfl (setRow_heap _ _ _ _ _ _ ((heap_setCell_other _ _ _ _ (Nat.ne_of_gt (Nat.lt_succ_of_lt (Nat.lt_succ_self _)))).trans ((heap_setCell_other _ _ _ _ (Nat.ne_of_gt (Nat.lt_succ_of_lt (Nat.lt_succ_self _)))).trans H3.out))) Try.underlying29 rfl info_state) rfl ?_
    rw [hK.out]
    exact ⟨_, rfl, World.ownsRow_nil _ _ _ _, Ext.setRow ((HX.out.setCell (Nat.le_refl _) _).setCell (Nat.le_refl _) _) (by omega) _⟩
  · have hK := key (⟨r, ec, t, ph, ⟨k, f, c2, t2, fk⟩⟩, []) (by unfold stepA; rw [if_pos hc, if_neg h2, if_pos rfl, if_neg h4, if_neg h5])
    have h5' : (ek == 1) = false ∨ (ek = 1 ∧ (ph == 0) = false) ∨ (ek = 1 ∧ ph = 0 ∧ ¬ (et.size : Int) ≤ 64) := by
      by_cases a : ek = 1
      · by_cases b : ph = 0
        · exact .inr (.inr ⟨a, b, fun h => h5 ⟨a, b, by omega⟩⟩)
        · exact .inr (.inl ⟨a, by simpa using b⟩)
      · exact .inl (by simpa using a)
    clear h5 hc h2 h4
    rcases h5' with h5 | ⟨rfl, h6⟩ | ⟨rfl, rfl, h7⟩
    all_goals
      go_enter Try.func39, Try.ntmps39
      go_wp2_with (first
        | (go_at_call 25; refine (HC.out _).mono ?_; rintro e w1 ⟨rfl, hx⟩; obtain ⟨x1, rfl⟩ := ext_of hx; clear hx)
        | (refine wpList_store_row rfl 29 _ _ rfl _ _ rfl rfl 29 _ (heap_ext (heap_new (by simp)) x1.ext) info_state rfl (by simp [Value.oneCell']) ?_))
      refine bodyPost_ret (results_row_tmp rfl _ _ _ 29 _ (0, 0) _ rfl (setRow_heap _ _ _ _ _ _ (heap_ext (heap_new (by simp)) x1.ext)) Try.underlying29 rfl info_state) rfl ?_
      rw [hK.out]
      exact ⟨_, rfl, World.ownsRow_nil _ _ _ _, Ext.setRow (((((Ext.refl _).alloc _).alloc _).alloc _).val x1) (by omega) _⟩

/-- The party's step. -/
def stepP (who : Int) (s : St) (e : Ev) : St × List Ou := if who = 0 then stepS s e else stepA s e

set_option maxHeartbeats 1600000 in
theorem mo_step (who : Int) (r c : Int) (t : ByteArray) (ph k f c2 : Int) (t2 : ByteArray) (fk : Bool) (ek ec : Int) (et : ByteArray) (lk lf lc : Int) (lt : ByteArray) (lb : Bool) (w : World) :
    Calls Try.prog 20 #[.int .i64 who, .agg #[.int .i64 r, .int .u64 c, .string t, .int .i64 ph, .int .i64 k, .int .i64 f, .int .u64 c2, .string t2, .bool fk], .agg #[.int .i64 ek, .int .u64 ec, .string et, .int .i64 lk, .int .i64 lf, .int .u64 lc, .string lt, .bool lb]] w
      (Stepped w (stepP who ⟨r, c, t, ph, ⟨k, f, c2, t2, fk⟩⟩ ⟨ek, ec, et, ⟨lk, lf, lc, lt, lb⟩⟩)) := by
  unfold stepP
  by_cases h0 : who = 0
  · subst h0
    rw [if_pos rfl]
    have hT := or_step r c t ph k f c2 t2 fk ek ec et lk lf lc lt lb
    generalize stepS ⟨r, c, t, ph, ⟨k, f, c2, t2, fk⟩⟩ ⟨ek, ec, et, ⟨lk, lf, lc, lt, lb⟩⟩ = T at hT ⊢
    obtain ⟨⟨r', c', t', ph', ⟨k', f', c2', t2', fk'⟩⟩, O⟩ := T
    have HT := Lib.hid hT
    clear hT
    go_enter Try.func20, Try.ntmps20
    go_wp2_with (first
      | (go_at_call 38; refine (HT.out _).mono ?_; rintro e w1 ⟨v, rfl, hv, hx⟩; simp only [St.cs]; have HV := Lib.hid hv; clear hv; obtain ⟨x2, rfl⟩ := ext_of hx; clear hx)
      | (refine wpList_store_row rfl 29 _ _ rfl _ _ rfl rfl 29 _ (heap_ext (heap_new (by simp)) x2.ext) info_state rfl (by simp [Value.oneCell']) ?_))
    refine bodyPost_ret (results_row_tmp rfl _ _ _ 29 _ (0, 0) _ rfl (setRow_heap _ _ _ _ _ _ (heap_ext (heap_new (by simp)) x2.ext)) Try.underlying29 rfl info_state) rfl ?_
    exact ⟨_, rfl, own_setRow (own_base (b' := w.heap.size) HV.out ((((Ext.refl _).alloc _).alloc _).alloc _).size) (heap_ext (heap_new (by simp)) x2.ext) (by decide) _, Ext.setRow (((((Ext.refl _).alloc _).alloc _).alloc _).val x2) (by omega) _⟩
  · rw [if_neg h0]
    have n0 : (who == 0) = false := by simpa using h0
    clear h0
    have hT := an_step r c t ph k f c2 t2 fk ek ec et lk lf lc lt lb
    generalize stepA ⟨r, c, t, ph, ⟨k, f, c2, t2, fk⟩⟩ ⟨ek, ec, et, ⟨lk, lf, lc, lt, lb⟩⟩ = T at hT ⊢
    obtain ⟨⟨r', c', t', ph', ⟨k', f', c2', t2', fk'⟩⟩, O⟩ := T
    have HT := Lib.hid hT
    clear hT
    go_enter Try.func20, Try.ntmps20
    go_wp2_with (first
      | (go_at_call 39; refine (HT.out _).mono ?_; rintro e w1 ⟨v, rfl, hv, hx⟩; simp only [St.cs]; have HV := Lib.hid hv; clear hv; obtain ⟨x2, rfl⟩ := ext_of hx; clear hx)
      | (refine wpList_store_row rfl 29 _ _ rfl _ _ rfl rfl 29 _ (heap_ext (heap_new (by simp)) x2.ext) info_state rfl (by simp [Value.oneCell']) ?_))
    refine bodyPost_ret (results_row_tmp rfl _ _ _ 29 _ (0, 0) _ rfl (setRow_heap _ _ _ _ _ _ (heap_ext (heap_new (by simp)) x2.ext)) Try.underlying29 rfl info_state) rfl ?_
    exact ⟨_, rfl, own_setRow (own_base (b' := w.heap.size) HV.out ((((Ext.refl _).alloc _).alloc _).alloc _).size) (heap_ext (heap_new (by simp)) x2.ext) (by decide) _, Ext.setRow (((((Ext.refl _).alloc _).alloc _).alloc _).val x2) (by omega) _⟩
end Go.Proofs.Ytodnfbfhdloogaa

/-
  Walks: can a letter be said? No condition.
-/
namespace Go.Proofs.Ytodnfbfhdloogaa
open Go.RowKit
attribute [local go_sem ↓] eql_lEq eql_sEq eql_eEq eql_oEq neq_lEq neq_sEq neq_eEq neq_oEq eql_vEq neq_vEq eql_nil
attribute [local go_sem] ExtOf.cell ExtOf.frozen ExtOf.lt ExtOf.le
attribute [local go_sem high] ExtOf.cell2 ExtOf.frozen2 ExtOf.lt2 ExtOf.cell3 ExtOf.frozen3 ExtOf.lt3

def Lt.val (l : Lt) : Value := .agg #[.int .i64 l.k, .int .i64 l.f, .int .u64 l.c, .string l.t, .bool l.b]
/-- The letter l lies in block g. -/
def LtAt (w : World) (g : Nat) (l : Lt) : Prop := w.heap[g]? = some (.cells #[.int .i64 l.k, .int .i64 l.f, .int .u64 l.c, .string l.t, .bool l.b] 27 (0, 0))
theorem LtAt.ext {w w' : World} {g : Nat} {l : Lt} (h : LtAt w g l) (e : Ext w w') : LtAt w' g l := heap_ext h e

def wish1 (h l : Lt) : Bool := h.k == 4 && (h.b == l.b && decide (h.t = l.t))
theorem wishS_any (h : List Lt) (l : Lt) : wishS h l = h.any fun x => wish1 x l := rfl

set_option maxHeartbeats 1600000 in
theorem ca_hit (h l : Lt) (g : Nat) (w : World) (hl : LtAt w g l) :
    Calls Try.prog 32 #[.agg #[.int .i64 h.k, .int .i64 h.f, .int .u64 h.c, .string h.t, .bool h.b], .pointer (some ⟨g, 0, none⟩)] w fun e w' => e = .returned (.bool (wish1 h l)) ∧ Ext w w' := by
  have c1 := fun j => cell_of_row w _ j _ _ _ hl
  have l1 : g < w.heap.size := (Array.getElem?_eq_some_iff.1 hl).1
  clear hl
  have key : ∀ v : Bool, wish1 h l = v → Hid (wish1 h l = v) := fun _ h => Lib.hid h
  obtain ⟨hk, hf, hc, ht, hb⟩ := h
  simp only at key ⊢
  by_cases h4 : hk = 4
  case neg =>
    have hK := key false (by simp [wish1, h4])
    have h4' : (hk == 4) = false := by simpa using h4
    clear h4
    go_enter Try.func32, Try.ntmps32
    go_wp2_with fail
    go_ret
    exact ⟨by rw [hK.out]; rfl, (Ext.refl _).alloc _⟩
  subst h4
  by_cases h5 : hb = l.b
  case neg =>
    have hK := key false (by simp [wish1, h5])
    have h5' : (hb == l.b) = false := by simpa using h5
    clear h5
    go_enter Try.func32, Try.ntmps32
    go_wp2_with fail
    go_ret
    exact ⟨by rw [hK.out]; rfl, (Ext.refl _).alloc _⟩
  subst h5
  by_cases h6 : ht = l.t
  · have hK := key true (by simp [wish1, h6])
    subst h6
    go_enter Try.func32, Try.ntmps32
    go_wp2_with fail
    go_ret
    exact ⟨by rw [hK.out]; simp, (Ext.refl _).alloc _⟩
  · have hK := key false (by simp [wish1, h6])
    have h6' : (ht.toList == l.t.toList) = false := by rw [beq_eq_false_iff_ne]; exact fun h => h6 ((toList_eq_iff _ _).1 h)
    clear h6
    go_enter Try.func32, Try.ntmps32
    go_wp2_with fail
    go_ret
    exact ⟨by rw [hK.out]; simp [h6'], (Ext.refl _).alloc _⟩

set_option maxHeartbeats 1600000 in
theorem sl_indexF (v : Value) (L : List Lt) (l : Lt) (gl : Nat) (w : World) (hR : Row w 5 v L.length (L.flatMap Lt.cs)) (hl : LtAt w gl l) :
    Calls Try.prog 45 #[v, .func (.func 32) #[] #[.pointer (some ⟨gl, 0, none⟩)]] w fun e w' => ∃ n : Int, e = .returned (.int .i64 n) ∧ decide (0 ≤ n) = wishS L l ∧ Ext w w' := by
  obtain ⟨a, cap, rfl, hm, hvw⟩ := row_view hR
  have HV := Lib.hid hvw
  have HL := Lib.hid hl
  clear hvw hR hl
  unfold maxLen at hm
  go_enter Try.func45, Try.ntmps45
  go_wp2_with fail
  go_loopg [8] L.length (fun g ii wr => ∃ (n : Nat) (y : ExtOf w), ii = .int .i64 (n : Int) ∧ n + g = L.length ∧ wr = y.val ∧ Hid (∀ (j : Nat) z, j < n → L[j]? = some z → wish1 z l = false))
  case atStart => exact ⟨0, ⟨w, Ext.refl _⟩, rfl, by omega, rfl, Lib.hid fun _ _ h => by omega⟩
  case round =>
    obtain ⟨n, y, rfl, hg, rfl, HN⟩ := hrel
    by_cases hlt : n < L.length
    · obtain ⟨g, off, rfl, hgl, hcell⟩ := HV.out (by omega)
      have hgl := hgl (by omega)
      obtain ⟨x, hx⟩ : ∃ x, L[n]? = some x := ⟨_, List.getElem?_eq_getElem hlt⟩
      obtain ⟨q0, q1, q2, q3, q4⟩ := lt_cellsO hcell hx
      have HX := Lib.hid hx
      clear hx hcell
      have hlt' : (n : Int) < (L.length : Int) := by omega
      have hHit := fun w' (hw : Ext w w') => ca_hit x l gl w' (HL.out.ext hw)
      rcases hw : wish1 x l
      all_goals
        rw [hw] at hHit
        have HH := Lib.hid hHit
        have HW := Lib.hid hw
        clear hHit hw
        go_wp2_with (go_at_call 32; refine (HH.out _ y.ext).mono ?_; rintro e w1 ⟨rfl, hx1⟩; have HX1 := Lib.hid hx1; clear hx1)
      · go_roundg (gk - 1)
        case rel =>
          refine ⟨n + 1, ⟨_, y.ext.trans HX1.out⟩, rfl, by omega, rfl, Lib.hid fun j u hj hu => ?_⟩
          by_cases hjn : j = n
          · subst hjn
            rw [HX.out, Option.some.injEq] at hu
            rw [← hu]
            exact HW.out
          · exact HN.out j u (by omega) hu
        case measure => omega
      · go_ret
        refine ⟨n, rfl, ?_, y.ext.trans HX1.out⟩
        rw [wishS_any, List.any_eq_true.2 ⟨x, mem_of_get HX.out, HW.out⟩]
        exact decide_eq_true (by omega)
    · have hge : (L.length : Int) ≤ (n : Int) := by omega
      go_wp2_with fail
      go_ret
      refine ⟨-1, rfl, ?_, y.ext⟩
      rw [wishS_any, List.any_eq_false.2]
      · rfl
      · intro z hz
        obtain ⟨j, hj⟩ := List.getElem?_of_mem hz
        have := (List.getElem?_eq_some_iff.1 hj).1
        rw [HN.out j z (by omega) hj]
        simp

set_option maxHeartbeats 800000 in
theorem sl_containsF (v : Value) (L : List Lt) (l : Lt) (gl : Nat) (w : World) (hR : Row w 5 v L.length (L.flatMap Lt.cs)) (hl : LtAt w gl l) :
    Calls Try.prog 31 #[v, .func (.func 32) #[] #[.pointer (some ⟨gl, 0, none⟩)]] w fun e w' => e = .returned (.bool (wishS L l)) ∧ Ext w w' := by
  have HR := Lib.hid hR
  have HL := Lib.hid hl
  clear hR hl
  go_enter Try.func31, Try.ntmps31
  go_wp2_with (refine (sl_indexF v L l gl _ HR.out HL.out).mono ?_; rintro e w1 ⟨n, rfl, hn, hx⟩; have HN := Lib.hid hn; have HX := Lib.hid hx; clear hn hx)
  go_ret
  exact ⟨by rw [← HN.out]; rfl, HX.out⟩

set_option maxHeartbeats 800000 in
theorem ca_wished (v : Value) (L : List Lt) (l : Lt) (gx gl : Nat) (w : World) (hv : w.cell? ⟨gx, 25, none⟩ = some v) (hR : Row w 5 v L.length (L.flatMap Lt.cs)) (hl : LtAt w gl l) :
    Calls Try.prog 30 #[.pointer (some ⟨gx, 0, none⟩), .pointer (some ⟨gl, 0, none⟩)] w fun e w' => e = .returned (.bool (wishS L l)) ∧ Ext w w' := by
  have HR := Lib.hid hR
  have HL := Lib.hid hl
  clear hR hl
  go_enter Try.func30, Try.ntmps30
  go_wp2_with (go_at_call 31; refine (sl_containsF v L l gl _ HR.out HL.out).mono ?_; rintro e w1 ⟨rfl, hx⟩; have HX := Lib.hid hx; clear hx)
  go_ret
  exact ⟨rfl, HX.out⟩
end Go.Proofs.Ytodnfbfhdloogaa
