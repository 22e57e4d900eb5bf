/-
  Walks: the responder's steps. No condition.
-/
import Derived.Test.YtodnfbfhdloogaaMS14
set_option linter.all false
namespace Go.Proofs.Ytodnfbfhdloogaa
open Go.RowKit
attribute [local go_sem ↓] eql_lEq eql_sEq eql_eEq eql_oEq neq_lEq neq_sEq neq_eEq neq_oEq eql_vEq neq_vEq eql_nil
attribute [local go_sem] ExtOf.cell ExtOf.frozen ExtOf.lt ExtOf.le
attribute [local go_sem high] ExtOf.cell2 ExtOf.frozen2 ExtOf.lt2 ExtOf.cell3 ExtOf.frozen3 ExtOf.lt3 ExtOf.cellB ExtOf.frozenB ExtOf.cellX ExtOf.frozenX ExtOf.cellX' ExtOf.frozenX'
attribute [local go_sem] BelOf.cell BelOf.frozen BelOf.lt

theorem ExtOf.cell4 {w : World} {x : ExtOf w} {y : ExtOf x.val} {z : ExtOf y.val} (u : ExtOf z.val) {a : Addr} (h : a.block < w.heap.size) : u.val.cell? a = w.cell? a := Below.cell (((x.ext.trans y.ext).trans z.ext).trans u.ext) h
theorem ExtOf.frozen4 {w : World} {x : ExtOf w} {y : ExtOf x.val} {z : ExtOf y.val} (u : ExtOf z.val) {a : Addr} (h : a.block < w.heap.size) : u.val.frozen? a = w.frozen? a := Below.frozen (((x.ext.trans y.ext).trans z.ext).trans u.ext) h
attribute [local go_sem high] ExtOf.cell4 ExtOf.frozen4

theorem told_0 {s : St} {l : Lt} (h : lchk l ≠ 0 ∨ l.b = true ∨ l.c ≠ s.c) : toldA s l = 0 := by unfold toldA; rw [if_pos h]
theorem told_y {s : St} {l : Lt} (h : ¬ (lchk l ≠ 0 ∨ l.b = true ∨ l.c ≠ s.c)) (h2 : l = prS s.c s.t 0 ∨ l = sgS s.c s.t 0 ∨ l = inS s.c s.t ∨ l = tkS s.c) : toldA s l = l.k := by unfold toldA; rw [if_neg h, if_pos h2]
theorem told_n {s : St} {l : Lt} (h : ¬ (lchk l ≠ 0 ∨ l.b = true ∨ l.c ≠ s.c)) (h1 : l ≠ prS s.c s.t 0) (h2 : l ≠ sgS s.c s.t 0) (h3 : l ≠ inS s.c s.t) (h4 : l ≠ tkS s.c) : toldA s l = 0 := by
  unfold toldA; rw [if_neg h, if_neg]
  rintro (h | h | h | h)
  · exact h1 h
  · exact h2 h
  · exact h3 h
  · exact h4 h
theorem lt_neta {a b : Lt} (h : lEq a.k a.f a.c a.t a.b b.k b.f b.c b.t b.b = false) : a ≠ b := by
  rw [lEq_lt] at h; simpa using h

set_option maxHeartbeats 1600000 in
theorem an_told (r c : Int) (t : ByteArray) (ph k f c2 : Int) (t2 : ByteArray) (fk : Bool) (lk lf lc : Int) (lt : ByteArray) (lb : Bool) (w : World) :
    Calls Try.prog 57 #[.agg #[.int .i64 r, .int .u64 c, .string t, .int .i64 ph, .int .i64 k, .int .i64 f, .int .u64 c2, .string t2, .bool fk], .agg #[.int .i64 lk, .int .i64 lf, .int .u64 lc, .string lt, .bool lb]] w fun e w' => e = .returned (.int .i64 (toldA ⟨r, c, t, ph, ⟨k, f, c2, t2, fk⟩⟩ ⟨lk, lf, lc, lt, lb⟩)) ∧ Ext w w' := by
  have key : ∀ v : Int, (toldA ⟨r, c, t, ph, ⟨k, f, c2, t2, fk⟩⟩ ⟨lk, lf, lc, lt, lb⟩ = v) → Hid (toldA ⟨r, c, t, ph, ⟨k, f, c2, t2, fk⟩⟩ ⟨lk, lf, lc, lt, lb⟩ = v) := fun _ h => Lib.hid h
  have hlc := le_check ⟨lk, lf, lc, lt, lb⟩
  simp only at hlc
  by_cases h0 : lchk ⟨lk, lf, lc, lt, lb⟩ = 0
  case neg =>
    have hK := key 0 (told_0 (.inl h0))
    have h0' : (lchk ⟨lk, lf, lc, lt, lb⟩ != 0) = true := by simpa using h0
    clear h0
    go_enter Try.func57, Try.ntmps57
    go_wp2_with (go_at_call 26; refine (hlc _).mono ?_; rintro e w1 ⟨rfl, hx⟩; obtain ⟨x1, rfl⟩ := ext_of hx; clear hx)
    go_ret
    exact ⟨by rw [hK.out]; rfl, (((Ext.refl _).alloc _).alloc _).val x1⟩
  rw [h0] at hlc
  cases lb
  case true =>
    have hK := key 0 (told_0 (.inr (.inl rfl)))
    go_enter Try.func57, Try.ntmps57
    go_wp2_with (go_at_call 26; refine (hlc _).mono ?_; rintro e w1 ⟨rfl, hx⟩; obtain ⟨x1, rfl⟩ := ext_of hx; clear hx)
    go_ret
    exact ⟨by rw [hK.out]; rfl, (((Ext.refl _).alloc _).alloc _).val x1⟩
  by_cases hc : lc = c
  case neg =>
    have hK := key 0 (told_0 (.inr (.inr hc)))
    have hc' : (lc != c) = true := by simpa using hc
    clear hc
    go_enter Try.func57, Try.ntmps57
    go_wp2_with (go_at_call 26; refine (hlc _).mono ?_; rintro e w1 ⟨rfl, hx⟩; obtain ⟨x1, rfl⟩ := ext_of hx; clear hx)
    go_ret
    exact ⟨by rw [hK.out]; rfl, (((Ext.refl _).alloc _).alloc _).val x1⟩
  subst hc
  have hno : ¬ (lchk ⟨lk, lf, lc, lt, false⟩ ≠ 0 ∨ (⟨lk, lf, lc, lt, false⟩ : Lt).b = true ∨ (⟨lk, lf, lc, lt, false⟩ : Lt).c ≠ (⟨r, lc, t, ph, ⟨k, f, c2, t2, fk⟩⟩ : St).c) := by
    rintro (h | h | h)
    · exact h h0
    · cases h
    · exact h rfl
  have HNo := Lib.hid hno
  clear hno h0
  rcases h0 : lEq lk lf lc lt false 1 0 lc t false
  case true =>
    have hK := key lk (told_y HNo.out (.inl <| lt_eta (a := ⟨lk, lf, lc, lt, false⟩) (b := prS lc t 0) h0))
    go_enter Try.func57, Try.ntmps57
    go_wp2_with (first
      | (go_at_call 26; refine (hlc _).mono ?_; rintro e w1 ⟨rfl, hx⟩; obtain ⟨x1, rfl⟩ := ext_of hx; clear hx)
      | (go_at_call 60; refine (an_promise _ _ _ _ _ _ _ _ _ _ _).mono ?_; rintro e w1 ⟨rfl, hx⟩; obtain ⟨x2, rfl⟩ := ext_of hx; clear hx)
      | (go_at_call 42; refine (an_signature _ _ _ _ _ _ _ _ _ _ _).mono ?_; rintro e w1 ⟨rfl, hx⟩; obtain ⟨x3, rfl⟩ := ext_of hx; clear hx)
      | (go_at_call 43; refine (an_instead _ _ _ _ _ _ _ _ _ _).mono ?_; rintro e w1 ⟨rfl, hx⟩; obtain ⟨x4, rfl⟩ := ext_of hx; clear hx))
    go_ret
    exact ⟨by rw [hK.out]; rfl, ((((Ext.refl _).alloc _).alloc _).val x1).val x2⟩
  rcases h1 : lEq lk lf lc lt false 2 0 lc t false
  case true =>
    have hK := key lk (told_y HNo.out (.inr <| .inl <| lt_eta (a := ⟨lk, lf, lc, lt, false⟩) (b := sgS lc t 0) h1))
    go_enter Try.func57, Try.ntmps57
    go_wp2_with (first
      | (go_at_call 26; refine (hlc _).mono ?_; rintro e w1 ⟨rfl, hx⟩; obtain ⟨x1, rfl⟩ := ext_of hx; clear hx)
      | (go_at_call 60; refine (an_promise _ _ _ _ _ _ _ _ _ _ _).mono ?_; rintro e w1 ⟨rfl, hx⟩; obtain ⟨x2, rfl⟩ := ext_of hx; clear hx)
      | (go_at_call 42; refine (an_signature _ _ _ _ _ _ _ _ _ _ _).mono ?_; rintro e w1 ⟨rfl, hx⟩; obtain ⟨x3, rfl⟩ := ext_of hx; clear hx)
      | (go_at_call 43; refine (an_instead _ _ _ _ _ _ _ _ _ _).mono ?_; rintro e w1 ⟨rfl, hx⟩; obtain ⟨x4, rfl⟩ := ext_of hx; clear hx))
    go_ret
    exact ⟨by rw [hK.out]; rfl, (((((Ext.refl _).alloc _).alloc _).val x1).val x2).val x3⟩
  rcases h2 : lEq lk lf lc lt false 6 0 lc t false
  case true =>
    have hK := key lk (told_y HNo.out (.inr <| .inr <| .inl <| lt_eta (a := ⟨lk, lf, lc, lt, false⟩) (b := inS lc t) h2))
    go_enter Try.func57, Try.ntmps57
    go_wp2_with (first
      | (go_at_call 26; refine (hlc _).mono ?_; rintro e w1 ⟨rfl, hx⟩; obtain ⟨x1, rfl⟩ := ext_of hx; clear hx)
      | (go_at_call 60; refine (an_promise _ _ _ _ _ _ _ _ _ _ _).mono ?_; rintro e w1 ⟨rfl, hx⟩; obtain ⟨x2, rfl⟩ := ext_of hx; clear hx)
      | (go_at_call 42; refine (an_signature _ _ _ _ _ _ _ _ _ _ _).mono ?_; rintro e w1 ⟨rfl, hx⟩; obtain ⟨x3, rfl⟩ := ext_of hx; clear hx)
      | (go_at_call 43; refine (an_instead _ _ _ _ _ _ _ _ _ _).mono ?_; rintro e w1 ⟨rfl, hx⟩; obtain ⟨x4, rfl⟩ := ext_of hx; clear hx))
    go_ret
    exact ⟨by rw [hK.out]; rfl, ((((((Ext.refl _).alloc _).alloc _).val x1).val x2).val x3).val x4⟩
  rcases h3 : lEq lk lf lc lt false 5 0 lc { data := #[] } false
  case true =>
    have hK := key lk (told_y HNo.out (.inr <| .inr <| .inr <| lt_eta (a := ⟨lk, lf, lc, lt, false⟩) (b := tkS lc) h3))
    go_enter Try.func57, Try.ntmps57
    go_wp2_with (first
      | (go_at_call 26; refine (hlc _).mono ?_; rintro e w1 ⟨rfl, hx⟩; obtain ⟨x1, rfl⟩ := ext_of hx; clear hx)
      | (go_at_call 60; refine (an_promise _ _ _ _ _ _ _ _ _ _ _).mono ?_; rintro e w1 ⟨rfl, hx⟩; obtain ⟨x2, rfl⟩ := ext_of hx; clear hx)
      | (go_at_call 42; refine (an_signature _ _ _ _ _ _ _ _ _ _ _).mono ?_; rintro e w1 ⟨rfl, hx⟩; obtain ⟨x3, rfl⟩ := ext_of hx; clear hx)
      | (go_at_call 43; refine (an_instead _ _ _ _ _ _ _ _ _ _).mono ?_; rintro e w1 ⟨rfl, hx⟩; obtain ⟨x4, rfl⟩ := ext_of hx; clear hx))
    go_ret
    exact ⟨by rw [hK.out]; rfl, ((((((Ext.refl _).alloc _).alloc _).val x1).val x2).val x3).val x4⟩
  have hK := key 0 (told_n HNo.out (lt_neta (a := ⟨lk, lf, lc, lt, false⟩) (b := prS lc t 0) h0) (lt_neta (a := ⟨lk, lf, lc, lt, false⟩) (b := sgS lc t 0) h1) (lt_neta (a := ⟨lk, lf, lc, lt, false⟩) (b := inS lc t) h2) (lt_neta (a := ⟨lk, lf, lc, lt, false⟩) (b := tkS lc) h3))
  go_enter Try.func57, Try.ntmps57
  go_wp2_with (first
    | (go_at_call 26; refine (hlc _).mono ?_; rintro e w1 ⟨rfl, hx⟩; obtain ⟨x1, rfl⟩ := ext_of hx; clear hx)
    | (go_at_call 60; refine (an_promise _ _ _ _ _ _ _ _ _ _ _).mono ?_; rintro e w1 ⟨rfl, hx⟩; obtain ⟨x2, rfl⟩ := ext_of hx; clear hx)
    | (go_at_call 42; refine (an_signature _ _ _ _ _ _ _ _ _ _ _).mono ?_; rintro e w1 ⟨rfl, hx⟩; obtain ⟨x3, rfl⟩ := ext_of hx; clear hx)
    | (go_at_call 43; refine (an_instead _ _ _ _ _ _ _ _ _ _).mono ?_; rintro e w1 ⟨rfl, hx⟩; obtain ⟨x4, rfl⟩ := ext_of hx; clear hx))
  go_ret
  exact ⟨by rw [hK.out]; rfl, ((((((Ext.refl _).alloc _).alloc _).val x1).val x2).val x3).val x4⟩

set_option maxHeartbeats 800000 in
theorem an_takes_n (r c : Int) (t : ByteArray) (ph k f c2 : Int) (t2 : ByteArray) (fk : Bool) (lk lf lc : Int) (lt : ByteArray) (lb : Bool) (n : Int) (w : World) (hT : ∀ w, Calls Try.prog 57 #[.agg #[.int .i64 r, .int .u64 c, .string t, .int .i64 ph, .int .i64 k, .int .i64 f, .int .u64 c2, .string t2, .bool fk], .agg #[.int .i64 lk, .int .i64 lf, .int .u64 lc, .string lt, .bool lb]] w fun e w' => e = .returned (.int .i64 n) ∧ Ext w w') (h1 : (ph == 1) = false) (h5 : (ph == 5) = false) (h2 : (ph == 2) = false) (h6 : (ph == 6) = false) :
    Calls Try.prog 53 #[.agg #[.int .i64 r, .int .u64 c, .string t, .int .i64 ph, .int .i64 k, .int .i64 f, .int .u64 c2, .string t2, .bool fk], .agg #[.int .i64 lk, .int .i64 lf, .int .u64 lc, .string lt, .bool lb]] w (Stepped w (⟨r, c, t, ph, ⟨k, f, c2, t2, fk⟩⟩, [])) := by
  have HT := Lib.hid hT
  clear hT
  go_enter Try.func53, Try.ntmps53
  go_wp2_with (first | (go_at_call 57; refine (HT.out _).mono ?_; rintro e w1 ⟨rfl, hx⟩; obtain ⟨x1, rfl⟩ := ext_of hx; clear hx) | (refine wpList_store_row rfl 29 _ _ rfl _ _ rfl rfl 29 _ (heap_ext (heap_new (by simp)) x1.ext) info_state rfl (by simp [Value.oneCell']) ?_))
  refine bodyPost_ret (results_row_tmp rfl _ _ _ 29 _ (0, 0) _ rfl (setRow_heap _ _ _ _ _ _ (heap_ext (heap_new (by simp)) x1.ext)) Try.underlying29 rfl info_state) rfl ?_
  exact ⟨_, rfl, World.ownsRow_nil _ _ _ _, Ext.setRow (((((Ext.refl _).alloc _).alloc _).alloc _).val x1) (by omega) _⟩

set_option maxHeartbeats 800000 in
theorem an_takes_1n (r c : Int) (t : ByteArray) (k f c2 : Int) (t2 : ByteArray) (fk : Bool) (lk lf lc : Int) (lt : ByteArray) (lb : Bool) (n : Int) (w : World) (hT : ∀ w, Calls Try.prog 57 #[.agg #[.int .i64 r, .int .u64 c, .string t, .int .i64 1, .int .i64 k, .int .i64 f, .int .u64 c2, .string t2, .bool fk], .agg #[.int .i64 lk, .int .i64 lf, .int .u64 lc, .string lt, .bool lb]] w fun e w' => e = .returned (.int .i64 n) ∧ Ext w w') (h1 : (n == 1) = false) :
    Calls Try.prog 53 #[.agg #[.int .i64 r, .int .u64 c, .string t, .int .i64 1, .int .i64 k, .int .i64 f, .int .u64 c2, .string t2, .bool fk], .agg #[.int .i64 lk, .int .i64 lf, .int .u64 lc, .string lt, .bool lb]] w (Stepped w (⟨r, c, t, 1, ⟨k, f, c2, t2, fk⟩⟩, [])) := by
  have HT := Lib.hid hT
  clear hT
  go_enter Try.func53, Try.ntmps53
  go_wp2_with (first | (go_at_call 57; refine (HT.out _).mono ?_; rintro e w1 ⟨rfl, hx⟩; obtain ⟨x1, rfl⟩ := ext_of hx; clear hx) | (refine wpList_store_row rfl 29 _ _ rfl _ _ rfl rfl 29 _ (heap_ext (heap_new (by simp)) x1.ext) info_state rfl (by simp [Value.oneCell']) ?_))
  refine bodyPost_ret (results_row_tmp rfl _ _ _ 29 _ (0, 0) _ rfl (setRow_heap _ _ _ _ _ _ (heap_ext (heap_new (by simp)) x1.ext)) Try.underlying29 rfl info_state) rfl ?_
  exact ⟨_, rfl, World.ownsRow_nil _ _ _ _, Ext.setRow (((((Ext.refl _).alloc _).alloc _).alloc _).val x1) (by omega) _⟩

set_option maxHeartbeats 800000 in
theorem an_takes_5n (r c : Int) (t : ByteArray) (k f c2 : Int) (t2 : ByteArray) (fk : Bool) (lk lf lc : Int) (lt : ByteArray) (lb : Bool) (n : Int) (w : World) (hT : ∀ w, Calls Try.prog 57 #[.agg #[.int .i64 r, .int .u64 c, .string t, .int .i64 5, .int .i64 k, .int .i64 f, .int .u64 c2, .string t2, .bool fk], .agg #[.int .i64 lk, .int .i64 lf, .int .u64 lc, .string lt, .bool lb]] w fun e w' => e = .returned (.int .i64 n) ∧ Ext w w') (h1 : (n == 6) = false) (h2 : (n == 5) = false) (h3 : (n == 2) = false) :
    Calls Try.prog 53 #[.agg #[.int .i64 r, .int .u64 c, .string t, .int .i64 5, .int .i64 k, .int .i64 f, .int .u64 c2, .string t2, .bool fk], .agg #[.int .i64 lk, .int .i64 lf, .int .u64 lc, .string lt, .bool lb]] w (Stepped w (⟨r, c, t, 5, ⟨k, f, c2, t2, fk⟩⟩, [])) := by
  have HT := Lib.hid hT
  clear hT
  rcases h4 : (n == 1)
  all_goals
    go_enter Try.func53, Try.ntmps53
    go_wp2_with (first | (go_at_call 57; refine (HT.out _).mono ?_; rintro e w1 ⟨rfl, hx⟩; obtain ⟨x1, rfl⟩ := ext_of hx; clear hx) | (refine wpList_store_row rfl 29 _ _ rfl _ _ rfl rfl 29 _ (heap_ext (heap_new (by simp)) x1.ext) info_state rfl (by simp [Value.oneCell']) ?_))
    refine bodyPost_ret (results_row_tmp rfl _ _ _ 29 _ (0, 0) _ rfl (setRow_heap _ _ _ _ _ _ (heap_ext (heap_new (by simp)) x1.ext)) Try.underlying29 rfl info_state) rfl ?_
    exact ⟨_, rfl, World.ownsRow_nil _ _ _ _, Ext.setRow (((((Ext.refl _).alloc _).alloc _).alloc _).val x1) (by omega) _⟩

set_option maxHeartbeats 800000 in
theorem an_takes_2n (r c : Int) (t : ByteArray) (k f c2 : Int) (t2 : ByteArray) (fk : Bool) (lk lf lc : Int) (lt : ByteArray) (lb : Bool) (n : Int) (w : World) (hT : ∀ w, Calls Try.prog 57 #[.agg #[.int .i64 r, .int .u64 c, .string t, .int .i64 2, .int .i64 k, .int .i64 f, .int .u64 c2, .string t2, .bool fk], .agg #[.int .i64 lk, .int .i64 lf, .int .u64 lc, .string lt, .bool lb]] w fun e w' => e = .returned (.int .i64 n) ∧ Ext w w') (h1 : (n == 2) = false) (h2 : (n == 1) = false) :
    Calls Try.prog 53 #[.agg #[.int .i64 r, .int .u64 c, .string t, .int .i64 2, .int .i64 k, .int .i64 f, .int .u64 c2, .string t2, .bool fk], .agg #[.int .i64 lk, .int .i64 lf, .int .u64 lc, .string lt, .bool lb]] w (Stepped w (⟨r, c, t, 2, ⟨k, f, c2, t2, fk⟩⟩, [])) := by
  have HT := Lib.hid hT
  clear hT
  go_enter Try.func53, Try.ntmps53
  go_wp2_with (first | (go_at_call 57; refine (HT.out _).mono ?_; rintro e w1 ⟨rfl, hx⟩; obtain ⟨x1, rfl⟩ := ext_of hx; clear hx) | (refine wpList_store_row rfl 29 _ _ rfl _ _ rfl rfl 29 _ (heap_ext (heap_new (by simp)) x1.ext) info_state rfl (by simp [Value.oneCell']) ?_))
  refine bodyPost_ret (results_row_tmp rfl _ _ _ 29 _ (0, 0) _ rfl (setRow_heap _ _ _ _ _ _ (heap_ext (heap_new (by simp)) x1.ext)) Try.underlying29 rfl info_state) rfl ?_
  exact ⟨_, rfl, World.ownsRow_nil _ _ _ _, Ext.setRow (((((Ext.refl _).alloc _).alloc _).alloc _).val x1) (by omega) _⟩

set_option maxHeartbeats 800000 in
theorem an_takes_6n (r c : Int) (t : ByteArray) (k f c2 : Int) (t2 : ByteArray) (fk : Bool) (lk lf lc : Int) (lt : ByteArray) (lb : Bool) (n : Int) (w : World) (hT : ∀ w, Calls Try.prog 57 #[.agg #[.int .i64 r, .int .u64 c, .string t, .int .i64 6, .int .i64 k, .int .i64 f, .int .u64 c2, .string t2, .bool fk], .agg #[.int .i64 lk, .int .i64 lf, .int .u64 lc, .string lt, .bool lb]] w fun e w' => e = .returned (.int .i64 n) ∧ Ext w w') (h1 : (n == 2) = false) :
    Calls Try.prog 53 #[.agg #[.int .i64 r, .int .u64 c, .string t, .int .i64 6, .int .i64 k, .int .i64 f, .int .u64 c2, .string t2, .bool fk], .agg #[.int .i64 lk, .int .i64 lf, .int .u64 lc, .string lt, .bool lb]] w (Stepped w (⟨r, c, t, 6, ⟨k, f, c2, t2, fk⟩⟩, [])) := by
  have HT := Lib.hid hT
  clear hT
  go_enter Try.func53, Try.ntmps53
  go_wp2_with (first | (go_at_call 57; refine (HT.out _).mono ?_; rintro e w1 ⟨rfl, hx⟩; obtain ⟨x1, rfl⟩ := ext_of hx; clear hx) | (refine wpList_store_row rfl 29 _ _ rfl _ _ rfl rfl 29 _ (heap_ext (heap_new (by simp)) x1.ext) info_state rfl (by simp [Value.oneCell']) ?_))
  refine bodyPost_ret (results_row_tmp rfl _ _ _ 29 _ (0, 0) _ rfl (setRow_heap _ _ _ _ _ _ (heap_ext (heap_new (by simp)) x1.ext)) Try.underlying29 rfl info_state) rfl ?_
  exact ⟨_, rfl, World.ownsRow_nil _ _ _ _, Ext.setRow (((((Ext.refl _).alloc _).alloc _).alloc _).val x1) (by omega) _⟩

set_option maxHeartbeats 800000 in
theorem an_takes_56 (r c : Int) (t : ByteArray) (k f c2 : Int) (t2 : ByteArray) (fk : Bool) (lk lf lc : Int) (lt : ByteArray) (lb : Bool) (w : World) (hT : ∀ w, Calls Try.prog 57 #[.agg #[.int .i64 r, .int .u64 c, .string t, .int .i64 5, .int .i64 k, .int .i64 f, .int .u64 c2, .string t2, .bool fk], .agg #[.int .i64 lk, .int .i64 lf, .int .u64 lc, .string lt, .bool lb]] w fun e w' => e = .returned (.int .i64 6) ∧ Ext w w') :
    Calls Try.prog 53 #[.agg #[.int .i64 r, .int .u64 c, .string t, .int .i64 5, .int .i64 k, .int .i64 f, .int .u64 c2, .string t2, .bool fk], .agg #[.int .i64 lk, .int .i64 lf, .int .u64 lc, .string lt, .bool lb]] w (Stepped w (⟨r, c, t, 6, ⟨lk, lf, lc, lt, lb⟩⟩, [])) := by
  have HT := Lib.hid hT
  clear hT
  go_enter Try.func53, Try.ntmps53
  go_wp2_with (first | (go_at_call 57; refine (HT.out _).mono ?_; rintro e w1 ⟨rfl, hx⟩; obtain ⟨x1, rfl⟩ := ext_of hx; clear hx) | (go_at_call 61; refine (an_proved _ _ _ _ _ _ _ _ _ _ _ _ _ _ _).mono ?_; rintro e w1 ⟨rfl, hx⟩; obtain ⟨x2, rfl⟩ := ext_of hx; clear hx) | (refine wpList_store_row rfl 29 _ _ rfl _ _ rfl rfl 29 _ (heap_ext (heap_new (by simp)) (x1.ext.trans x2.ext)) info_state rfl (by simp [Value.oneCell']) ?_))
  refine bodyPost_ret (results_row_tmp rfl _ _ _ 29 _ (0, 0) _ rfl (setRow_heap _ _ _ _ _ _ (heap_ext (heap_new (by simp)) (x1.ext.trans x2.ext))) Try.underlying29 rfl info_state) rfl ?_
  exact ⟨_, rfl, World.ownsRow_nil _ _ _ _, Ext.setRow ((((((Ext.refl _).alloc _).alloc _).alloc _).val x1).val x2) (by omega) _⟩

set_option maxHeartbeats 800000 in
theorem an_takes_55 (r c : Int) (t : ByteArray) (k f c2 : Int) (t2 : ByteArray) (fk : Bool) (lk lf lc : Int) (lt : ByteArray) (lb : Bool) (w : World) (hT : ∀ w, Calls Try.prog 57 #[.agg #[.int .i64 r, .int .u64 c, .string t, .int .i64 5, .int .i64 k, .int .i64 f, .int .u64 c2, .string t2, .bool fk], .agg #[.int .i64 lk, .int .i64 lf, .int .u64 lc, .string lt, .bool lb]] w fun e w' => e = .returned (.int .i64 5) ∧ Ext w w') :
    Calls Try.prog 53 #[.agg #[.int .i64 r, .int .u64 c, .string t, .int .i64 5, .int .i64 k, .int .i64 f, .int .u64 c2, .string t2, .bool fk], .agg #[.int .i64 lk, .int .i64 lf, .int .u64 lc, .string lt, .bool lb]] w (Stepped w (⟨r, c, t, 7, ⟨k, f, c2, t2, fk⟩⟩, [])) := by
  have HT := Lib.hid hT
  clear hT
  go_enter Try.func53, Try.ntmps53
  go_wp2_with (first | (go_at_call 57; refine (HT.out _).mono ?_; rintro e w1 ⟨rfl, hx⟩; obtain ⟨x1, rfl⟩ := ext_of hx; clear hx) | (go_at_call 58; refine (an_in _ _ _ _ _ _ _ _ _ _ _).mono ?_; rintro e w1 ⟨rfl, hx⟩; obtain ⟨x2, rfl⟩ := ext_of hx; clear hx) | (refine wpList_store_row rfl 29 _ _ rfl _ _ rfl rfl 29 _ (heap_ext (heap_new (by simp)) (x1.ext.trans x2.ext)) info_state rfl (by simp [Value.oneCell']) ?_))
  refine bodyPost_ret (results_row_tmp rfl _ _ _ 29 _ (0, 0) _ rfl (setRow_heap _ _ _ _ _ _ (heap_ext (heap_new (by simp)) (x1.ext.trans x2.ext))) Try.underlying29 rfl info_state) rfl ?_
  exact ⟨_, rfl, World.ownsRow_nil _ _ _ _, Ext.setRow ((((((Ext.refl _).alloc _).alloc _).alloc _).val x1).val x2) (by omega) _⟩

set_option maxHeartbeats 800000 in
theorem an_takes_11 (r c : Int) (t : ByteArray) (k f c2 : Int) (t2 : ByteArray) (fk : Bool) (lk lf lc : Int) (lt : ByteArray) (lb : Bool) (w : World) (hT : ∀ w, Calls Try.prog 57 #[.agg #[.int .i64 r, .int .u64 c, .string t, .int .i64 1, .int .i64 k, .int .i64 f, .int .u64 c2, .string t2, .bool fk], .agg #[.int .i64 lk, .int .i64 lf, .int .u64 lc, .string lt, .bool lb]] w fun e w' => e = .returned (.int .i64 1) ∧ Ext w w') :
    Calls Try.prog 53 #[.agg #[.int .i64 r, .int .u64 c, .string t, .int .i64 1, .int .i64 k, .int .i64 f, .int .u64 c2, .string t2, .bool fk], .agg #[.int .i64 lk, .int .i64 lf, .int .u64 lc, .string lt, .bool lb]] w (Stepped w (⟨r, c, t, 2, ⟨k, f, c2, t2, fk⟩⟩, [⟨0, prS c t 1⟩])) := by
  have HT := Lib.hid hT
  clear hT
  go_enter Try.func53, Try.ntmps53
  go_wp2_with (go_at_call 57; refine (HT.out _).mono ?_; rintro e w1 ⟨rfl, hx⟩; obtain ⟨x1, rfl⟩ := ext_of hx; clear hx)
  refine wp_forget (fun w' => w'.heap[w.heap.size]? = some (.cells #[.int .i64 r, .int .u64 c, .string t, .int .i64 1, .int .i64 k, .int .i64 f, .int .u64 c2, .string t2, .bool fk] 29 (0, 0)) ∧ w'.heap[w.heap.size + 1]? = some (.cells #[.int .i64 lk, .int .i64 lf, .int .u64 lc, .string lt, .bool lb] 27 (0, 0)) ∧ w'.heap[w.heap.size + 1 + 1]? = some (.cells #[.int .i64 0, .int .u64 0, .string { data := #[] }, .int .i64 0, .int .i64 0, .int .i64 0, .int .u64 0, .string { data := #[] }, .bool false] 29 (0, 0)) ∧ Ext w w') ⟨?f1, ?f2, ?f3, ?f4⟩ ?fr
  case f1 => exact heap_ext (heap_ext (heap_new rfl) (((Ext.refl _).alloc _).alloc _)) x1.ext
  case f2 => exact heap_ext (heap_ext (heap_new (by simp)) ((Ext.refl _).alloc _)) x1.ext
  case f3 => exact heap_ext (heap_new (by simp)) x1.ext
  case f4 => exact ((((Ext.refl _).alloc _).alloc _).alloc _).val x1
  clear x1 HT
  rintro W7 ⟨h7a, h7c, h7b, h7x⟩
  have hc7 := fun j => cell_of_row W7 _ j _ _ _ h7a
  have hd7 := fun j => cell_of_row W7 _ j _ _ _ h7c
  have hl7 : w.heap.size < W7.heap.size := (Array.getElem?_eq_some_iff.1 h7a).1
  have hm7 : w.heap.size + 1 < W7.heap.size := (Array.getElem?_eq_some_iff.1 h7c).1
  have H7b := Lib.hid h7b
  clear h7a h7b h7c
  have b7 := but_refl (w.heap.size + 1 + 1) W7
  refine wp_region_mixX (w.heap.size + 1 + 1) (af := ?af) [true, true, true, true, false, false, false] 65 (by kernel_rfl) rfl (by kernel_rfl) ?q ?r
  case q =>
    intro x0
    simp only [pickT, if_true, if_false, Bool.false_eq_true]
    repeat (go_big_quiet_step ((first | (go_at_call 58; exact calls_ext (an_in _ _ _ _ _ _ _ _ _ _ _)) | (go_at_call 60; exact calls_ext (an_promise _ _ _ _ _ _ _ _ _ _ _)))))
    exact rfl
  case r =>
    simp only [pickF, if_true, if_false, Bool.false_eq_true]
    intro x1
    have e1 : Ext W7 x1.val := (Ext.refl _).drew.val x1
    have g1 := h7x.trans e1
    go_wp2_with (go_at_call 59; refine (an_to _ _ _ _ _ _ _).mono ?_; rintro e w2 ⟨v, rfl, hv, hx2⟩)
    refine ⟨but_ext b7 (e1.trans hx2), ?_⟩
    intro x2
    have e2 := (e1.trans hx2).trans x2.ext
    go_wp2_with (refine wpList_store_row rfl 29 _ _ rfl _ _ rfl rfl 29 _ (heap_ext H7b.out e2) info_state rfl (by simp [Value.oneCell']) ?_)
    refine ⟨but_setRow (but_ext b7 e2) _, ?_⟩
    intro x3
    go_wp2_with fail
    refine ⟨but_ext (but_setRow (but_ext b7 e2) _) x3.ext, ?_⟩
    intro x4
    go_wp2_with fail
    have gx : Ext w x4.val := ((Ext.setRow (h7x.trans e2) (by omega) _).val x3).val x4
    refine bodyPost_ret (results_row_tmp rfl _ _ _ 29 _ (0, 0) _ rfl (heap_ext (heap_ext (setRow_heap _ _ _ _ _ _ (heap_ext H7b.out e2)) x3.ext) x4.ext) Try.underlying29 rfl info_state) rfl ?_
    refine ⟨_, rfl, ?_, gx⟩
    have hv2 := own_ext (own_base (b' := w.heap.size) hv g1.size) x2.ext
    exact own_ext (own_ext (own_setRow hv2 (heap_ext H7b.out e2) (by decide) _) x3.ext) x4.ext

set_option maxHeartbeats 800000 in
theorem an_takes_52 (r c : Int) (t : ByteArray) (k f c2 : Int) (t2 : ByteArray) (fk : Bool) (lk lf lc : Int) (lt : ByteArray) (lb : Bool) (w : World) (hT : ∀ w, Calls Try.prog 57 #[.agg #[.int .i64 r, .int .u64 c, .string t, .int .i64 5, .int .i64 k, .int .i64 f, .int .u64 c2, .string t2, .bool fk], .agg #[.int .i64 lk, .int .i64 lf, .int .u64 lc, .string lt, .bool lb]] w fun e w' => e = .returned (.int .i64 2) ∧ Ext w w') :
    Calls Try.prog 53 #[.agg #[.int .i64 r, .int .u64 c, .string t, .int .i64 5, .int .i64 k, .int .i64 f, .int .u64 c2, .string t2, .bool fk], .agg #[.int .i64 lk, .int .i64 lf, .int .u64 lc, .string lt, .bool lb]] w (Stepped w (⟨r, c, t, 6, ⟨lk, lf, lc, lt, lb⟩⟩, [⟨0, sgS c t 1⟩])) := by
  have HT := Lib.hid hT
  clear hT
  go_enter Try.func53, Try.ntmps53
  go_wp2_with (go_at_call 57; refine (HT.out _).mono ?_; rintro e w1 ⟨rfl, hx⟩; obtain ⟨x1, rfl⟩ := ext_of hx; clear hx)
  refine wp_forget (fun w' => w'.heap[w.heap.size]? = some (.cells #[.int .i64 r, .int .u64 c, .string t, .int .i64 5, .int .i64 k, .int .i64 f, .int .u64 c2, .string t2, .bool fk] 29 (0, 0)) ∧ w'.heap[w.heap.size + 1]? = some (.cells #[.int .i64 lk, .int .i64 lf, .int .u64 lc, .string lt, .bool lb] 27 (0, 0)) ∧ w'.heap[w.heap.size + 1 + 1]? = some (.cells #[.int .i64 0, .int .u64 0, .string { data := #[] }, .int .i64 0, .int .i64 0, .int .i64 0, .int .u64 0, .string { data := #[] }, .bool false] 29 (0, 0)) ∧ Ext w w') ⟨?f1, ?f2, ?f3, ?f4⟩ ?fr
  case f1 => exact heap_ext (heap_ext (heap_new rfl) (((Ext.refl _).alloc _).alloc _)) x1.ext
  case f2 => exact heap_ext (heap_ext (heap_new (by simp)) ((Ext.refl _).alloc _)) x1.ext
  case f3 => exact heap_ext (heap_new (by simp)) x1.ext
  case f4 => exact ((((Ext.refl _).alloc _).alloc _).alloc _).val x1
  clear x1 HT
  rintro W7 ⟨h7a, h7c, h7b, h7x⟩
  have hc7 := fun j => cell_of_row W7 _ j _ _ _ h7a
  have hd7 := fun j => cell_of_row W7 _ j _ _ _ h7c
  have hl7 : w.heap.size < W7.heap.size := (Array.getElem?_eq_some_iff.1 h7a).1
  have hm7 : w.heap.size + 1 < W7.heap.size := (Array.getElem?_eq_some_iff.1 h7c).1
  have H7b := Lib.hid h7b
  clear h7a h7b h7c
  have b7 := but_refl (w.heap.size + 1 + 1) W7
  refine wp_region_mixX (w.heap.size + 1 + 1) (af := ?af) [true, true, true, true, true, false, false, false] 65 (by kernel_rfl) rfl (by kernel_rfl) ?q ?r
  case q =>
    intro x0
    simp only [pickT, if_true, if_false, Bool.false_eq_true]
    repeat (go_big_quiet_step ((first | (go_at_call 61; exact calls_ext (an_proved _ _ _ _ _ _ _ _ _ _ _ _ _ _ _)) | (go_at_call 42; exact calls_ext (an_signature _ _ _ _ _ _ _ _ _ _ _)))))
    exact rfl
  case r =>
    simp only [pickF, if_true, if_false, Bool.false_eq_true]
    intro x1
    have e1 : Ext W7 x1.val := (Ext.refl _).drew.val x1
    have g1 := h7x.trans e1
    go_wp2_with (go_at_call 59; refine (an_to _ _ _ _ _ _ _).mono ?_; rintro e w2 ⟨v, rfl, hv, hx2⟩)
    refine ⟨but_ext b7 (e1.trans hx2), ?_⟩
    intro x2
    have e2 := (e1.trans hx2).trans x2.ext
    go_wp2_with (refine wpList_store_row rfl 29 _ _ rfl _ _ rfl rfl 29 _ (heap_ext H7b.out e2) info_state rfl (by simp [Value.oneCell']) ?_)
    refine ⟨but_setRow (but_ext b7 e2) _, ?_⟩
    intro x3
    go_wp2_with fail
    refine ⟨but_ext (but_setRow (but_ext b7 e2) _) x3.ext, ?_⟩
    intro x4
    go_wp2_with fail
    have gx : Ext w x4.val := ((Ext.setRow (h7x.trans e2) (by omega) _).val x3).val x4
    refine bodyPost_ret (results_row_tmp rfl _ _ _ 29 _ (0, 0) _ rfl (heap_ext (heap_ext (setRow_heap _ _ _ _ _ _ (heap_ext H7b.out e2)) x3.ext) x4.ext) Try.underlying29 rfl info_state) rfl ?_
    refine ⟨_, rfl, ?_, gx⟩
    have hv2 := own_ext (own_base (b' := w.heap.size) hv g1.size) x2.ext
    exact own_ext (own_ext (own_setRow hv2 (heap_ext H7b.out e2) (by decide) _) x3.ext) x4.ext

set_option maxHeartbeats 800000 in
theorem an_takes_22 (r c : Int) (t : ByteArray) (k f c2 : Int) (t2 : ByteArray) (fk : Bool) (lk lf lc : Int) (lt : ByteArray) (lb : Bool) (w : World) (hT : ∀ w, Calls Try.prog 57 #[.agg #[.int .i64 r, .int .u64 c, .string t, .int .i64 2, .int .i64 k, .int .i64 f, .int .u64 c2, .string t2, .bool fk], .agg #[.int .i64 lk, .int .i64 lf, .int .u64 lc, .string lt, .bool lb]] w fun e w' => e = .returned (.int .i64 2) ∧ Ext w w') :
    Calls Try.prog 53 #[.agg #[.int .i64 r, .int .u64 c, .string t, .int .i64 2, .int .i64 k, .int .i64 f, .int .u64 c2, .string t2, .bool fk], .agg #[.int .i64 lk, .int .i64 lf, .int .u64 lc, .string lt, .bool lb]] w (Stepped w (⟨r, c, t, 6, ⟨lk, lf, lc, lt, lb⟩⟩, [⟨0, sgS c t 1⟩])) := by
  have HT := Lib.hid hT
  clear hT
  go_enter Try.func53, Try.ntmps53
  go_wp2_with (go_at_call 57; refine (HT.out _).mono ?_; rintro e w1 ⟨rfl, hx⟩; obtain ⟨x1, rfl⟩ := ext_of hx; clear hx)
  refine wp_forget (fun w' => w'.heap[w.heap.size]? = some (.cells #[.int .i64 r, .int .u64 c, .string t, .int .i64 2, .int .i64 k, .int .i64 f, .int .u64 c2, .string t2, .bool fk] 29 (0, 0)) ∧ w'.heap[w.heap.size + 1]? = some (.cells #[.int .i64 lk, .int .i64 lf, .int .u64 lc, .string lt, .bool lb] 27 (0, 0)) ∧ w'.heap[w.heap.size + 1 + 1]? = some (.cells #[.int .i64 0, .int .u64 0, .string { data := #[] }, .int .i64 0, .int .i64 0, .int .i64 0, .int .u64 0, .string { data := #[] }, .bool false] 29 (0, 0)) ∧ Ext w w') ⟨?f1, ?f2, ?f3, ?f4⟩ ?fr
  case f1 => exact heap_ext (heap_ext (heap_new rfl) (((Ext.refl _).alloc _).alloc _)) x1.ext
  case f2 => exact heap_ext (heap_ext (heap_new (by simp)) ((Ext.refl _).alloc _)) x1.ext
  case f3 => exact heap_ext (heap_new (by simp)) x1.ext
  case f4 => exact ((((Ext.refl _).alloc _).alloc _).alloc _).val x1
  clear x1 HT
  rintro W7 ⟨h7a, h7c, h7b, h7x⟩
  have hc7 := fun j => cell_of_row W7 _ j _ _ _ h7a
  have hd7 := fun j => cell_of_row W7 _ j _ _ _ h7c
  have hl7 : w.heap.size < W7.heap.size := (Array.getElem?_eq_some_iff.1 h7a).1
  have hm7 : w.heap.size + 1 < W7.heap.size := (Array.getElem?_eq_some_iff.1 h7c).1
  have H7b := Lib.hid h7b
  clear h7a h7b h7c
  have b7 := but_refl (w.heap.size + 1 + 1) W7
  refine wp_region_mixX (w.heap.size + 1 + 1) (af := ?af) [true, true, true, true, true, false, false, false] 65 (by kernel_rfl) rfl (by kernel_rfl) ?q ?r
  case q =>
    intro x0
    simp only [pickT, if_true, if_false, Bool.false_eq_true]
    repeat (go_big_quiet_step ((first | (go_at_call 61; exact calls_ext (an_proved _ _ _ _ _ _ _ _ _ _ _ _ _ _ _)) | (go_at_call 42; exact calls_ext (an_signature _ _ _ _ _ _ _ _ _ _ _)))))
    exact rfl
  case r =>
    simp only [pickF, if_true, if_false, Bool.false_eq_true]
    intro x1
    have e1 : Ext W7 x1.val := (Ext.refl _).drew.val x1
    have g1 := h7x.trans e1
    go_wp2_with (go_at_call 59; refine (an_to _ _ _ _ _ _ _).mono ?_; rintro e w2 ⟨v, rfl, hv, hx2⟩)
    refine ⟨but_ext b7 (e1.trans hx2), ?_⟩
    intro x2
    have e2 := (e1.trans hx2).trans x2.ext
    go_wp2_with (refine wpList_store_row rfl 29 _ _ rfl _ _ rfl rfl 29 _ (heap_ext H7b.out e2) info_state rfl (by simp [Value.oneCell']) ?_)
    refine ⟨but_setRow (but_ext b7 e2) _, ?_⟩
    intro x3
    go_wp2_with fail
    refine ⟨but_ext (but_setRow (but_ext b7 e2) _) x3.ext, ?_⟩
    intro x4
    go_wp2_with fail
    have gx : Ext w x4.val := ((Ext.setRow (h7x.trans e2) (by omega) _).val x3).val x4
    refine bodyPost_ret (results_row_tmp rfl _ _ _ 29 _ (0, 0) _ rfl (heap_ext (heap_ext (setRow_heap _ _ _ _ _ _ (heap_ext H7b.out e2)) x3.ext) x4.ext) Try.underlying29 rfl info_state) rfl ?_
    refine ⟨_, rfl, ?_, gx⟩
    have hv2 := own_ext (own_base (b' := w.heap.size) hv g1.size) x2.ext
    exact own_ext (own_ext (own_setRow hv2 (heap_ext H7b.out e2) (by decide) _) x3.ext) x4.ext

set_option maxHeartbeats 800000 in
theorem an_takes_21 (r c : Int) (t : ByteArray) (k f c2 : Int) (t2 : ByteArray) (fk : Bool) (lk lf lc : Int) (lt : ByteArray) (lb : Bool) (w : World) (hT : ∀ w, Calls Try.prog 57 #[.agg #[.int .i64 r, .int .u64 c, .string t, .int .i64 2, .int .i64 k, .int .i64 f, .int .u64 c2, .string t2, .bool fk], .agg #[.int .i64 lk, .int .i64 lf, .int .u64 lc, .string lt, .bool lb]] w fun e w' => e = .returned (.int .i64 1) ∧ Ext w w') :
    Calls Try.prog 53 #[.agg #[.int .i64 r, .int .u64 c, .string t, .int .i64 2, .int .i64 k, .int .i64 f, .int .u64 c2, .string t2, .bool fk], .agg #[.int .i64 lk, .int .i64 lf, .int .u64 lc, .string lt, .bool lb]] w (Stepped w (⟨r, c, t, 2, ⟨k, f, c2, t2, fk⟩⟩, [⟨0, prS c t 1⟩])) := by
  have HT := Lib.hid hT
  clear hT
  go_enter Try.func53, Try.ntmps53
  go_wp2_with (go_at_call 57; refine (HT.out _).mono ?_; rintro e w1 ⟨rfl, hx⟩; obtain ⟨x1, rfl⟩ := ext_of hx; clear hx)
  refine wp_forget (fun w' => w'.heap[w.heap.size]? = some (.cells #[.int .i64 r, .int .u64 c, .string t, .int .i64 2, .int .i64 k, .int .i64 f, .int .u64 c2, .string t2, .bool fk] 29 (0, 0)) ∧ w'.heap[w.heap.size + 1]? = some (.cells #[.int .i64 lk, .int .i64 lf, .int .u64 lc, .string lt, .bool lb] 27 (0, 0)) ∧ w'.heap[w.heap.size + 1 + 1]? = some (.cells #[.int .i64 0, .int .u64 0, .string { data := #[] }, .int .i64 0, .int .i64 0, .int .i64 0, .int .u64 0, .string { data := #[] }, .bool false] 29 (0, 0)) ∧ Ext w w') ⟨?f1, ?f2, ?f3, ?f4⟩ ?fr
  case f1 => exact heap_ext (heap_ext (heap_new rfl) (((Ext.refl _).alloc _).alloc _)) x1.ext
  case f2 => exact heap_ext (heap_ext (heap_new (by simp)) ((Ext.refl _).alloc _)) x1.ext
  case f3 => exact heap_ext (heap_new (by simp)) x1.ext
  case f4 => exact ((((Ext.refl _).alloc _).alloc _).alloc _).val x1
  clear x1 HT
  rintro W7 ⟨h7a, h7c, h7b, h7x⟩
  have hc7 := fun j => cell_of_row W7 _ j _ _ _ h7a
  have hd7 := fun j => cell_of_row W7 _ j _ _ _ h7c
  have hl7 : w.heap.size < W7.heap.size := (Array.getElem?_eq_some_iff.1 h7a).1
  have hm7 : w.heap.size + 1 < W7.heap.size := (Array.getElem?_eq_some_iff.1 h7c).1
  have H7b := Lib.hid h7b
  clear h7a h7b h7c
  have b7 := but_refl (w.heap.size + 1 + 1) W7
  refine wp_region_mixX (w.heap.size + 1 + 1) (af := ?af) [true, true, true, false, false, false] 65 (by kernel_rfl) rfl (by kernel_rfl) ?q ?r
  case q =>
    intro x0
    simp only [pickT, if_true, if_false, Bool.false_eq_true]
    repeat (go_big_quiet_step ((first | (go_at_call 60; exact calls_ext (an_promise _ _ _ _ _ _ _ _ _ _ _)))))
    exact rfl
  case r =>
    simp only [pickF, if_true, if_false, Bool.false_eq_true]
    intro x1
    have e1 : Ext W7 x1.val := (Ext.refl _).drew.val x1
    have g1 := h7x.trans e1
    go_wp2_with (go_at_call 59; refine (an_to _ _ _ _ _ _ _).mono ?_; rintro e w2 ⟨v, rfl, hv, hx2⟩)
    refine ⟨but_ext b7 (e1.trans hx2), ?_⟩
    intro x2
    have e2 := (e1.trans hx2).trans x2.ext
    go_wp2_with (refine wpList_store_row rfl 29 _ _ rfl _ _ rfl rfl 29 _ (heap_ext H7b.out e2) info_state rfl (by simp [Value.oneCell']) ?_)
    refine ⟨but_setRow (but_ext b7 e2) _, ?_⟩
    intro x3
    go_wp2_with fail
    refine ⟨but_ext (but_setRow (but_ext b7 e2) _) x3.ext, ?_⟩
    intro x4
    go_wp2_with fail
    have gx : Ext w x4.val := ((Ext.setRow (h7x.trans e2) (by omega) _).val x3).val x4
    refine bodyPost_ret (results_row_tmp rfl _ _ _ 29 _ (0, 0) _ rfl (heap_ext (heap_ext (setRow_heap _ _ _ _ _ _ (heap_ext H7b.out e2)) x3.ext) x4.ext) Try.underlying29 rfl info_state) rfl ?_
    refine ⟨_, rfl, ?_, gx⟩
    have hv2 := own_ext (own_base (b' := w.heap.size) hv g1.size) x2.ext
    exact own_ext (own_ext (own_setRow hv2 (heap_ext H7b.out e2) (by decide) _) x3.ext) x4.ext

set_option maxHeartbeats 800000 in
theorem an_takes_62 (r c : Int) (t : ByteArray) (k f c2 : Int) (t2 : ByteArray) (fk : Bool) (lk lf lc : Int) (lt : ByteArray) (lb : Bool) (w : World) (hT : ∀ w, Calls Try.prog 57 #[.agg #[.int .i64 r, .int .u64 c, .string t, .int .i64 6, .int .i64 k, .int .i64 f, .int .u64 c2, .string t2, .bool fk], .agg #[.int .i64 lk, .int .i64 lf, .int .u64 lc, .string lt, .bool lb]] w fun e w' => e = .returned (.int .i64 2) ∧ Ext w w') :
    Calls Try.prog 53 #[.agg #[.int .i64 r, .int .u64 c, .string t, .int .i64 6, .int .i64 k, .int .i64 f, .int .u64 c2, .string t2, .bool fk], .agg #[.int .i64 lk, .int .i64 lf, .int .u64 lc, .string lt, .bool lb]] w (Stepped w (⟨r, c, t, 6, ⟨k, f, c2, t2, fk⟩⟩, [⟨0, sgS c t 1⟩])) := by
  have HT := Lib.hid hT
  clear hT
  go_enter Try.func53, Try.ntmps53
  go_wp2_with (go_at_call 57; refine (HT.out _).mono ?_; rintro e w1 ⟨rfl, hx⟩; obtain ⟨x1, rfl⟩ := ext_of hx; clear hx)
  refine wp_forget (fun w' => w'.heap[w.heap.size]? = some (.cells #[.int .i64 r, .int .u64 c, .string t, .int .i64 6, .int .i64 k, .int .i64 f, .int .u64 c2, .string t2, .bool fk] 29 (0, 0)) ∧ w'.heap[w.heap.size + 1]? = some (.cells #[.int .i64 lk, .int .i64 lf, .int .u64 lc, .string lt, .bool lb] 27 (0, 0)) ∧ w'.heap[w.heap.size + 1 + 1]? = some (.cells #[.int .i64 0, .int .u64 0, .string { data := #[] }, .int .i64 0, .int .i64 0, .int .i64 0, .int .u64 0, .string { data := #[] }, .bool false] 29 (0, 0)) ∧ Ext w w') ⟨?f1, ?f2, ?f3, ?f4⟩ ?fr
  case f1 => exact heap_ext (heap_ext (heap_new rfl) (((Ext.refl _).alloc _).alloc _)) x1.ext
  case f2 => exact heap_ext (heap_ext (heap_new (by simp)) ((Ext.refl _).alloc _)) x1.ext
  case f3 => exact heap_ext (heap_new (by simp)) x1.ext
  case f4 => exact ((((Ext.refl _).alloc _).alloc _).alloc _).val x1
  clear x1 HT
  rintro W7 ⟨h7a, h7c, h7b, h7x⟩
  have hc7 := fun j => cell_of_row W7 _ j _ _ _ h7a
  have hd7 := fun j => cell_of_row W7 _ j _ _ _ h7c
  have hl7 : w.heap.size < W7.heap.size := (Array.getElem?_eq_some_iff.1 h7a).1
  have hm7 : w.heap.size + 1 < W7.heap.size := (Array.getElem?_eq_some_iff.1 h7c).1
  have H7b := Lib.hid h7b
  clear h7a h7b h7c
  have b7 := but_refl (w.heap.size + 1 + 1) W7
  refine wp_region_mixX (w.heap.size + 1 + 1) (af := ?af) [true, true, true, false, false, false] 65 (by kernel_rfl) rfl (by kernel_rfl) ?q ?r
  case q =>
    intro x0
    simp only [pickT, if_true, if_false, Bool.false_eq_true]
    repeat (go_big_quiet_step ((first | (go_at_call 42; exact calls_ext (an_signature _ _ _ _ _ _ _ _ _ _ _)))))
    exact rfl
  case r =>
    simp only [pickF, if_true, if_false, Bool.false_eq_true]
    intro x1
    have e1 : Ext W7 x1.val := (Ext.refl _).drew.val x1
    have g1 := h7x.trans e1
    go_wp2_with (go_at_call 59; refine (an_to _ _ _ _ _ _ _).mono ?_; rintro e w2 ⟨v, rfl, hv, hx2⟩)
    refine ⟨but_ext b7 (e1.trans hx2), ?_⟩
    intro x2
    have e2 := (e1.trans hx2).trans x2.ext
    go_wp2_with (refine wpList_store_row rfl 29 _ _ rfl _ _ rfl rfl 29 _ (heap_ext H7b.out e2) info_state rfl (by simp [Value.oneCell']) ?_)
    refine ⟨but_setRow (but_ext b7 e2) _, ?_⟩
    intro x3
    go_wp2_with fail
    refine ⟨but_ext (but_setRow (but_ext b7 e2) _) x3.ext, ?_⟩
    intro x4
    go_wp2_with fail
    have gx : Ext w x4.val := ((Ext.setRow (h7x.trans e2) (by omega) _).val x3).val x4
    refine bodyPost_ret (results_row_tmp rfl _ _ _ 29 _ (0, 0) _ rfl (heap_ext (heap_ext (setRow_heap _ _ _ _ _ _ (heap_ext H7b.out e2)) x3.ext) x4.ext) Try.underlying29 rfl info_state) rfl ?_
    refine ⟨_, rfl, ?_, gx⟩
    have hv2 := own_ext (own_base (b' := w.heap.size) hv g1.size) x2.ext
    exact own_ext (own_ext (own_setRow hv2 (heap_ext H7b.out e2) (by decide) _) x3.ext) x4.ext

set_option maxHeartbeats 800000 in
theorem an_ticks_2 (r c : Int) (t : ByteArray) (k f c2 : Int) (t2 : ByteArray) (fk : Bool)  (w : World)  :
    Calls Try.prog 54 #[.agg #[.int .i64 r, .int .u64 c, .string t, .int .i64 2, .int .i64 k, .int .i64 f, .int .u64 c2, .string t2, .bool fk]] w (Stepped w (⟨r, c, t, 5, ⟨k, f, c2, t2, fk⟩⟩, [⟨2, rsA c t⟩])) := by
  go_enter Try.func54, Try.ntmps54
  go_wp2_with fail
  refine wp_forget (fun w' => w'.heap[w.heap.size]? = some (.cells #[.int .i64 r, .int .u64 c, .string t, .int .i64 2, .int .i64 k, .int .i64 f, .int .u64 c2, .string t2, .bool fk] 29 (0, 0)) ∧ w'.heap[w.heap.size + 1]? = some (.cells #[.int .i64 0, .int .u64 0, .string { data := #[] }, .int .i64 0, .int .i64 0, .int .i64 0, .int .u64 0, .string { data := #[] }, .bool false] 29 (0, 0)) ∧ Ext w w') ⟨?f1, ?f3, ?f4⟩ ?fr
  case f1 => exact heap_ext (heap_new rfl) ((Ext.refl _).alloc _)
  case f3 => exact heap_new (by simp)
  case f4 => exact ((Ext.refl _).alloc _).alloc _
  rintro W7 ⟨h7a, h7b, h7x⟩
  have hc7 := fun j => cell_of_row W7 _ j _ _ _ h7a
  have hl7 : w.heap.size < W7.heap.size := (Array.getElem?_eq_some_iff.1 h7a).1
  have H7b := Lib.hid h7b
  clear h7a h7b
  have b7 := but_refl (w.heap.size + 1) W7
  refine wp_region_mixX (w.heap.size + 1) (af := ?af) [true, true, true, true, true, true, true, false, false, false] 22 (by kernel_rfl) rfl (by kernel_rfl) ?q ?r
  case q =>
    intro x0
    simp only [pickT, if_true, if_false, Bool.false_eq_true]
    repeat (go_big_quiet_step ((first | (go_at_call 58; exact calls_ext (an_in _ _ _ _ _ _ _ _ _ _ _)))))
    exact rfl
  case r =>
    simp only [pickF, if_true, if_false, Bool.false_eq_true]
    intro x1
    have e1 : Ext W7 x1.val := (Ext.refl _).drew.val x1
    have g1 := h7x.trans e1
    go_wp2_with (go_at_call 59; refine (an_to _ _ _ _ _ _ _).mono ?_; rintro e w2 ⟨v, rfl, hv, hx2⟩)
    refine ⟨but_ext b7 (e1.trans hx2), ?_⟩
    intro x2
    have e2 := (e1.trans hx2).trans x2.ext
    go_wp2_with (refine wpList_store_row rfl 29 _ _ rfl _ _ rfl rfl 29 _ (heap_ext H7b.out e2) info_state rfl (by simp [Value.oneCell']) ?_)
    refine ⟨but_setRow (but_ext b7 e2) _, ?_⟩
    intro x3
    go_wp2_with fail
    refine ⟨but_ext (but_setRow (but_ext b7 e2) _) x3.ext, ?_⟩
    intro x4
    go_wp2_with fail
    have gx : Ext w x4.val := ((Ext.setRow (h7x.trans e2) (by omega) _).val x3).val x4
    refine bodyPost_ret (results_row_tmp rfl _ _ _ 29 _ (0, 0) _ rfl (heap_ext (heap_ext (setRow_heap _ _ _ _ _ _ (heap_ext H7b.out e2)) x3.ext) x4.ext) Try.underlying29 rfl info_state) rfl ?_
    refine ⟨_, rfl, ?_, gx⟩
    have hv2 := own_ext (own_base (b' := w.heap.size) hv g1.size) x2.ext
    exact own_ext (own_ext (own_setRow hv2 (heap_ext H7b.out e2) (by decide) _) x3.ext) x4.ext

set_option maxHeartbeats 800000 in
theorem an_ticks_5 (r c : Int) (t : ByteArray) (k f c2 : Int) (t2 : ByteArray) (fk : Bool)  (w : World)  :
    Calls Try.prog 54 #[.agg #[.int .i64 r, .int .u64 c, .string t, .int .i64 5, .int .i64 k, .int .i64 f, .int .u64 c2, .string t2, .bool fk]] w (Stepped w (⟨r, c, t, 5, ⟨k, f, c2, t2, fk⟩⟩, [⟨2, rsA c t⟩])) := by
  go_enter Try.func54, Try.ntmps54
  go_wp2_with fail
  refine wp_forget (fun w' => w'.heap[w.heap.size]? = some (.cells #[.int .i64 r, .int .u64 c, .string t, .int .i64 5, .int .i64 k, .int .i64 f, .int .u64 c2, .string t2, .bool fk] 29 (0, 0)) ∧ w'.heap[w.heap.size + 1]? = some (.cells #[.int .i64 0, .int .u64 0, .string { data := #[] }, .int .i64 0, .int .i64 0, .int .i64 0, .int .u64 0, .string { data := #[] }, .bool false] 29 (0, 0)) ∧ Ext w w') ⟨?f1, ?f3, ?f4⟩ ?fr
  case f1 => exact heap_ext (heap_new rfl) ((Ext.refl _).alloc _)
  case f3 => exact heap_new (by simp)
  case f4 => exact ((Ext.refl _).alloc _).alloc _
  rintro W7 ⟨h7a, h7b, h7x⟩
  have hc7 := fun j => cell_of_row W7 _ j _ _ _ h7a
  have hl7 : w.heap.size < W7.heap.size := (Array.getElem?_eq_some_iff.1 h7a).1
  have H7b := Lib.hid h7b
  clear h7a h7b
  have b7 := but_refl (w.heap.size + 1) W7
  refine wp_region_mixX (w.heap.size + 1) (af := ?af) [true, true, true, true, true, true, true, false, false, false] 22 (by kernel_rfl) rfl (by kernel_rfl) ?q ?r
  case q =>
    intro x0
    simp only [pickT, if_true, if_false, Bool.false_eq_true]
    repeat (go_big_quiet_step ((first | (go_at_call 58; exact calls_ext (an_in _ _ _ _ _ _ _ _ _ _ _)))))
    exact rfl
  case r =>
    simp only [pickF, if_true, if_false, Bool.false_eq_true]
    intro x1
    have e1 : Ext W7 x1.val := (Ext.refl _).drew.val x1
    have g1 := h7x.trans e1
    go_wp2_with (go_at_call 59; refine (an_to _ _ _ _ _ _ _).mono ?_; rintro e w2 ⟨v, rfl, hv, hx2⟩)
    refine ⟨but_ext b7 (e1.trans hx2), ?_⟩
    intro x2
    have e2 := (e1.trans hx2).trans x2.ext
    go_wp2_with (refine wpList_store_row rfl 29 _ _ rfl _ _ rfl rfl 29 _ (heap_ext H7b.out e2) info_state rfl (by simp [Value.oneCell']) ?_)
    refine ⟨but_setRow (but_ext b7 e2) _, ?_⟩
    intro x3
    go_wp2_with fail
    refine ⟨but_ext (but_setRow (but_ext b7 e2) _) x3.ext, ?_⟩
    intro x4
    go_wp2_with fail
    have gx : Ext w x4.val := ((Ext.setRow (h7x.trans e2) (by omega) _).val x3).val x4
    refine bodyPost_ret (results_row_tmp rfl _ _ _ 29 _ (0, 0) _ rfl (heap_ext (heap_ext (setRow_heap _ _ _ _ _ _ (heap_ext H7b.out e2)) x3.ext) x4.ext) Try.underlying29 rfl info_state) rfl ?_
    refine ⟨_, rfl, ?_, gx⟩
    have hv2 := own_ext (own_base (b' := w.heap.size) hv g1.size) x2.ext
    exact own_ext (own_ext (own_setRow hv2 (heap_ext H7b.out e2) (by decide) _) x3.ext) x4.ext

end Go.Proofs.Ytodnfbfhdloogaa
