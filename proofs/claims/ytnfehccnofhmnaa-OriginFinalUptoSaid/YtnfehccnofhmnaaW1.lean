/-
  Walks of the originator's small functions. No condition.
-/
import Derived.Test.YtnfehccnofhmnaaTypes
import Derived.Deep.Light
namespace Go.Proofs.Ytnfehccnofhmnaa
open Go.RowKit
attribute [local go_sem ↓] eql_lEq eql_sEq eql_eEq eql_oEq neq_lEq neq_sEq neq_eEq neq_oEq
attribute [local go_sem] ExtOf.cell ExtOf.frozen ExtOf.lt ExtOf.le
attribute [local go_sem high] ExtOf.cell2 ExtOf.frozen2 ExtOf.lt2 ExtOf.cell3 ExtOf.frozen3 ExtOf.lt3

theorem ret_bool {a b : Bool} (h : a = b) : Ending.returned (.bool a) = .returned (.bool b) := by rw [h]

theorem or_promise (r c ph : Int) (t : ByteArray) (k f c2 : Int) (t2 : ByteArray) (fk : Bool) (n : Int) (w : World) :
    Calls Try.prog 30 #[.agg #[.int .i64 r, .int .u64 c, .string t, .int .i64 ph, .int .i64 k, .int .i64 f, .int .u64 c2, .string t2, .bool fk], .int .i64 n] w fun e w' => e = .returned (.agg #[.int .i64 1, .int .i64 n, .int .u64 c, .string t, .bool false]) ∧ Ext w w' := by
  go_enter Try.func30, Try.ntmps30
  go_wp2
  exact bodyPost_ret (v := .agg #[.int .i64 1, .int .i64 n, .int .u64 c, .string t, .bool false]) (by simp [results, Try.results30, go_sem]) rfl ⟨rfl, ((Ext.refl _).alloc _).alloc _⟩

theorem or_signature (r c ph : Int) (t : ByteArray) (k f c2 : Int) (t2 : ByteArray) (fk : Bool) (n : Int) (w : World) :
    Calls Try.prog 37 #[.agg #[.int .i64 r, .int .u64 c, .string t, .int .i64 ph, .int .i64 k, .int .i64 f, .int .u64 c2, .string t2, .bool fk], .int .i64 n] w fun e w' => e = .returned (.agg #[.int .i64 2, .int .i64 n, .int .u64 c, .string t, .bool false]) ∧ Ext w w' := by
  go_enter Try.func37, Try.ntmps37
  go_wp2
  exact bodyPost_ret (v := .agg #[.int .i64 2, .int .i64 n, .int .u64 c, .string t, .bool false]) (by simp [results, Try.results37, go_sem]) rfl ⟨rfl, ((Ext.refl _).alloc _).alloc _⟩

theorem or_instead (r c ph : Int) (t : ByteArray) (k f c2 : Int) (t2 : ByteArray) (fk : Bool) (w : World) :
    Calls Try.prog 38 #[.agg #[.int .i64 r, .int .u64 c, .string t, .int .i64 ph, .int .i64 k, .int .i64 f, .int .u64 c2, .string t2, .bool fk]] w fun e w' => e = .returned (.agg #[.int .i64 6, .int .i64 0, .int .u64 c, .string t, .bool false]) ∧ Ext w w' := by
  go_enter Try.func38, Try.ntmps38
  go_wp2
  exact bodyPost_ret (v := .agg #[.int .i64 6, .int .i64 0, .int .u64 c, .string t, .bool false]) (by simp [results, Try.results38, go_sem]) rfl ⟨rfl, ((Ext.refl _).alloc _).alloc _⟩

theorem or_token (r c ph : Int) (t : ByteArray) (k f c2 : Int) (t2 : ByteArray) (fk : Bool) (w : World) :
    Calls Try.prog 41 #[.agg #[.int .i64 r, .int .u64 c, .string t, .int .i64 ph, .int .i64 k, .int .i64 f, .int .u64 c2, .string t2, .bool fk]] w fun e w' => e = .returned (.agg #[.int .i64 5, .int .i64 0, .int .u64 c, .string { data := #[] }, .bool false]) ∧ Ext w w' := by
  go_enter Try.func41, Try.ntmps41
  go_wp2
  exact bodyPost_ret (v := .agg #[.int .i64 5, .int .i64 0, .int .u64 c, .string { data := #[] }, .bool false]) (by simp [results, Try.results41, go_sem]) rfl ⟨rfl, ((Ext.refl _).alloc _).alloc _⟩



/-- A state's phase 6: signed. -/
def chk6 (c : Int) (t : ByteArray) (k f c2 : Int) (t2 : ByteArray) (fk : Bool) : Bool :=
  lEq k f c2 t2 fk 2 1 c t false || lEq k f c2 t2 fk 6 0 c t false

set_option maxHeartbeats 400000 in
theorem or_check6 (c : Int) (t : ByteArray) (k f c2 : Int) (t2 : ByteArray) (fk : Bool) (w : World) (ht : (t.size : Int) ≤ 64) :
    Calls Try.prog 13 #[.agg #[.int .i64 0, .int .u64 c, .string t, .int .i64 6, .int .i64 k, .int .i64 f, .int .u64 c2, .string t2, .bool fk]] w fun e w' => e = .returned (.bool (chk6 c t k f c2 t2 fk)) ∧ Ext w w' := by
  unfold chk6
  rcases h : lEq k f c2 t2 fk 2 1 c t false
  all_goals
    go_enter Try.func13, Try.ntmps13
    go_wp2_with fail
    refine wp_region_ext (by kernel_rfl) (by kernel_rfl) ?_
    repeat (go_big_quiet_step ((first | (go_at_call 37; exact calls_ext (or_signature _ _ _ _ _ _ _ _ _ _ _)) | (go_at_call 38; exact calls_ext (or_instead _ _ _ _ _ _ _ _ _ _)))))
    refine wpQuiet_nil ?_
    intro _ hx
    obtain ⟨x, rfl⟩ := hx
    go_wp2
    go_ret
    exact ⟨by simp, ((Ext.refl _).alloc _).val x⟩

/-- Is a state good? -/
def chk (r c : Int) (t : ByteArray) (ph k f c2 : Int) (t2 : ByteArray) (fk : Bool) : Bool :=
  if r = 0 ∧ t.size ≤ 64 then
    if ph = 6 then chk6 c t k f c2 t2 fk
    else if ph = 0 then t.toList.isEmpty && lEq k f c2 t2 fk 0 0 0 { data := #[] } false
    else if ph = 2 ∨ ph = 3 ∨ ph = 4 ∨ ph = 5 ∨ ph = 7 then lEq k f c2 t2 fk 0 0 0 { data := #[] } false
    else false
  else false

set_option maxHeartbeats 400000 in
theorem or_check (r c : Int) (t : ByteArray) (ph k f c2 : Int) (t2 : ByteArray) (fk : Bool) (w : World) :
    Calls Try.prog 13 #[.agg #[.int .i64 r, .int .u64 c, .string t, .int .i64 ph, .int .i64 k, .int .i64 f, .int .u64 c2, .string t2, .bool fk]] w fun e w' => e = .returned (.bool (chk r c t ph k f c2 t2 fk)) ∧ Ext w w' := by
  by_cases h0 : r = 0 ∧ t.size ≤ 64
  · obtain ⟨rfl, h1⟩ := h0
    by_cases h6 : ph = 6
    · subst h6
      have := or_check6 c t k f c2 t2 fk w (by omega)
      simpa [chk, h1] using this
    · go_enter Try.func13, Try.ntmps13
      go_wp2
      all_goals (go_ret; exact ⟨ret_bool (by go_light; simp_all [chk]), (Ext.refl _).alloc _⟩)
  · have e : chk r c t ph k f c2 t2 fk = false := by unfold chk; rw [if_neg h0]
    rw [e]
    clear e
    have h1 : ¬ (r = 0 ∧ (t.size : Int) ≤ 64) := by omega
    go_enter Try.func13, Try.ntmps13
    go_wp2
    all_goals first | (go_light; omega) | (go_ret; exact ⟨rfl, (Ext.refl _).alloc _⟩)
end Go.Proofs.Ytnfehccnofhmnaa
