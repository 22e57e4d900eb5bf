/-
  Walks: what a verdict says; the responder's small functions. No condition.
-/
import Derived.Test.YtfibbhmmiemcoaaML23
set_option linter.all false
namespace Go.Proofs.Ytfibbhmmiemcoaa
open Go.RowKit
attribute [local go_sem ↓] eql_lEq eql_sEq eql_eEq eql_oEq neq_lEq neq_sEq neq_eEq neq_oEq eql_vEq neq_vEq eql_nil
attribute [local go_sem] ExtOf.cell ExtOf.frozen ExtOf.lt ExtOf.le
attribute [local go_sem high] ExtOf.cell2 ExtOf.frozen2 ExtOf.lt2 ExtOf.cell3 ExtOf.frozen3 ExtOf.lt3

theorem info_lt : (Try.prog.info? 24).map (·.size) = some 5 := by kernel_rfl

def saysL (v : Vd) : Lt := (saysS v).getD l0
theorem says_1 (c : Int) (t : ByteArray) (h : t = { data := #[] }) : saysS ⟨c, 1, t⟩ = some ⟨5, 0, c, { data := #[] }, false⟩ := by unfold saysS; rw [if_pos ⟨rfl, h⟩]
theorem says_2 (c : Int) (t : ByteArray) (h : t.size ≤ 64) : saysS ⟨c, 2, t⟩ = some ⟨6, 0, c, t, false⟩ := by unfold saysS; rw [if_neg (by simp), if_pos ⟨rfl, h⟩]
theorem says_n (c k : Int) (t : ByteArray) (h1 : ¬ (k = 1 ∧ t = { data := #[] })) (h2 : ¬ (k = 2 ∧ t.size ≤ 64)) : saysS ⟨c, k, t⟩ = none := by unfold saysS; rw [if_neg h1, if_neg h2]

set_option maxHeartbeats 800000 in
theorem ve_says (c k : Int) (t : ByteArray) (w : World) : Calls Try.prog 19 #[.agg #[.int .u64 c, .int .i64 k, .string t]] w fun e w' =>
    e = .returned (.tuple #[.agg #[.int .i64 (saysL ⟨c, k, t⟩).k, .int .i64 (saysL ⟨c, k, t⟩).f, .int .u64 (saysL ⟨c, k, t⟩).c, .string (saysL ⟨c, k, t⟩).t, .bool (saysL ⟨c, k, t⟩).b], .bool (saysS ⟨c, k, t⟩).isSome]) ∧ Ext w w' := by
  unfold saysL
  by_cases h1 : k = 1 ∧ t = { data := #[] }
  · obtain ⟨rfl, rfl⟩ := h1
    rw [says_1 c _ rfl]
    simp only [Option.getD_some, Option.isSome_some]
    go_enter Try.func19, Try.ntmps19
    go_wp2_with (refine wpList_store_row rfl 24 _ _ rfl _ _ rfl rfl 24 _ (heap_new (by simp)) info_lt rfl (by simp [Value.oneCell']) ?_)
    exact bodyPost_ret (results_row_tmp rfl _ _ _ 24 _ (0, 0) _ rfl (setRow_heap _ _ _ _ _ _ (heap_new (by simp))) Try.underlying24 rfl info_lt) rfl ⟨rfl, Ext.setRow (((Ext.refl _).alloc _).alloc _) (by omega) _⟩
  by_cases h2 : k = 2 ∧ t.size ≤ 64
  · obtain ⟨rfl, hs⟩ := h2
    rw [says_2 c _ hs]
    simp only [Option.getD_some, Option.isSome_some]
    have hs' : (t.size : Int) ≤ 64 := by omega
    clear hs h1
    go_enter Try.func19, Try.ntmps19
    go_wp2_with (refine wpList_store_row rfl 24 _ _ rfl _ _ rfl rfl 24 _ (heap_new (by simp)) info_lt rfl (by simp [Value.oneCell']) ?_)
    exact bodyPost_ret (results_row_tmp rfl _ _ _ 24 _ (0, 0) _ rfl (setRow_heap _ _ _ _ _ _ (heap_new (by simp))) Try.underlying24 rfl info_lt) rfl ⟨rfl, Ext.setRow (((Ext.refl _).alloc _).alloc _) (by omega) _⟩
  rw [says_n c k t h1 h2]
  unfold l0
  simp only [Option.getD_none, Option.isSome_none]
  by_cases hk1 : k = 1
  · subst hk1
    have ht : t.toList.isEmpty = false := (empty_ne t).2 fun h => h1 ⟨rfl, h⟩
    clear h1 h2
    go_enter Try.func19, Try.ntmps19
    go_wp2_with (refine wpList_store_row rfl 24 _ _ rfl _ _ rfl rfl 24 _ (heap_new (by simp)) info_lt rfl (by simp [Value.oneCell']) ?_)
    exact bodyPost_ret (results_row_tmp rfl _ _ _ 24 _ (0, 0) _ rfl (setRow_heap _ _ _ _ _ _ (heap_new (by simp))) Try.underlying24 rfl info_lt) rfl ⟨rfl, Ext.setRow (((Ext.refl _).alloc _).alloc _) (by omega) _⟩
  by_cases hk2 : k = 2
  · subst hk2
    have hs' : ¬ (t.size : Int) ≤ 64 := fun h => h2 ⟨rfl, by omega⟩
    clear h1 h2
    go_enter Try.func19, Try.ntmps19
    go_wp2_with (refine wpList_store_row rfl 24 _ _ rfl _ _ rfl rfl 24 _ (heap_new (by simp)) info_lt rfl (by simp [Value.oneCell']) ?_)
    exact bodyPost_ret (results_row_tmp rfl _ _ _ 24 _ (0, 0) _ rfl (setRow_heap _ _ _ _ _ _ (heap_new (by simp))) Try.underlying24 rfl info_lt) rfl ⟨rfl, Ext.setRow (((Ext.refl _).alloc _).alloc _) (by omega) _⟩
  · have e1 : (k == 1) = false := by simpa using hk1
    have e2 : (k == 2) = false := by simpa using hk2
    clear h1 h2 hk1 hk2
    go_enter Try.func19, Try.ntmps19
    go_wp2_with (refine wpList_store_row rfl 24 _ _ rfl _ _ rfl rfl 24 _ (heap_new (by simp)) info_lt rfl (by simp [Value.oneCell']) ?_)
    exact bodyPost_ret (results_row_tmp rfl _ _ _ 24 _ (0, 0) _ rfl (setRow_heap _ _ _ _ _ _ (heap_new (by simp))) Try.underlying24 rfl info_lt) rfl ⟨rfl, Ext.setRow (((Ext.refl _).alloc _).alloc _) (by omega) _⟩

theorem an_promise (r c ph : Int) (t : ByteArray) (k f c2 : Int) (t2 : ByteArray) (fk : Bool) (n : Int) (w : World) :
    Calls Try.prog 97 #[.agg #[.int .i64 r, .int .u64 c, .string t, .int .i64 ph, .int .i64 k, .int .i64 f, .int .u64 c2, .string t2, .bool fk], .int .i64 n] w fun e w' => e = .returned (.agg #[.int .i64 1, .int .i64 n, .int .u64 c, .string t, .bool false]) ∧ Ext w w' := by
  go_enter Try.func97, Try.ntmps97
  go_wp2
  exact bodyPost_ret (v := .agg #[.int .i64 1, .int .i64 n, .int .u64 c, .string t, .bool false]) (by simp [results, Try.results97, go_sem]) rfl ⟨rfl, ((Ext.refl _).alloc _).alloc _⟩

theorem an_signature (r c ph : Int) (t : ByteArray) (k f c2 : Int) (t2 : ByteArray) (fk : Bool) (n : Int) (w : World) :
    Calls Try.prog 40 #[.agg #[.int .i64 r, .int .u64 c, .string t, .int .i64 ph, .int .i64 k, .int .i64 f, .int .u64 c2, .string t2, .bool fk], .int .i64 n] w fun e w' => e = .returned (.agg #[.int .i64 2, .int .i64 n, .int .u64 c, .string t, .bool false]) ∧ Ext w w' := by
  go_enter Try.func40, Try.ntmps40
  go_wp2
  exact bodyPost_ret (v := .agg #[.int .i64 2, .int .i64 n, .int .u64 c, .string t, .bool false]) (by simp [results, Try.results40, go_sem]) rfl ⟨rfl, ((Ext.refl _).alloc _).alloc _⟩

theorem an_instead (r c ph : Int) (t : ByteArray) (k f c2 : Int) (t2 : ByteArray) (fk : Bool) (w : World) :
    Calls Try.prog 41 #[.agg #[.int .i64 r, .int .u64 c, .string t, .int .i64 ph, .int .i64 k, .int .i64 f, .int .u64 c2, .string t2, .bool fk]] w fun e w' => e = .returned (.agg #[.int .i64 6, .int .i64 0, .int .u64 c, .string t, .bool false]) ∧ Ext w w' := by
  go_enter Try.func41, Try.ntmps41
  go_wp2
  exact bodyPost_ret (v := .agg #[.int .i64 6, .int .i64 0, .int .u64 c, .string t, .bool false]) (by simp [results, Try.results41, go_sem]) rfl ⟨rfl, ((Ext.refl _).alloc _).alloc _⟩

theorem an_new (c : Int) (w : World) :
    Calls Try.prog 44 #[.int .u64 c] w fun e w' => e = .returned (.agg #[.int .i64 1, .int .u64 c, .string { data := #[] }, .int .i64 0, .int .i64 0, .int .i64 0, .int .u64 0, .string { data := #[] }, .bool false]) ∧ Ext w w' := by
  go_enter Try.func44, Try.ntmps44
  go_wp2
  exact bodyPost_ret (v := .agg #[.int .i64 1, .int .u64 c, .string { data := #[] }, .int .i64 0, .int .i64 0, .int .i64 0, .int .u64 0, .string { data := #[] }, .bool false]) (by simp [results, Try.results44, go_sem]) rfl ⟨rfl, (Ext.refl _).alloc _⟩

theorem an_in (r c ph : Int) (t : ByteArray) (k f c2 : Int) (t2 : ByteArray) (fk : Bool) (n : Int) (w : World) :
    Calls Try.prog 95 #[.agg #[.int .i64 r, .int .u64 c, .string t, .int .i64 ph, .int .i64 k, .int .i64 f, .int .u64 c2, .string t2, .bool fk], .int .i64 n] w fun e w' => e = .returned (.agg #[.int .i64 r, .int .u64 c, .string t, .int .i64 n, .int .i64 k, .int .i64 f, .int .u64 c2, .string t2, .bool fk]) ∧ Ext w w' := by
  go_enter Try.func95, Try.ntmps95
  go_wp2
  exact bodyPost_ret (v := .agg #[.int .i64 r, .int .u64 c, .string t, .int .i64 n, .int .i64 k, .int .i64 f, .int .u64 c2, .string t2, .bool fk]) (by simp [results, Try.results95, go_sem]) rfl ⟨rfl, ((Ext.refl _).alloc _).alloc _⟩

theorem an_proved (r c ph : Int) (t : ByteArray) (k f c2 : Int) (t2 : ByteArray) (fk : Bool) (lk lf lc : Int) (lt : ByteArray) (lb : Bool) (w : World) :
    Calls Try.prog 98 #[.agg #[.int .i64 r, .int .u64 c, .string t, .int .i64 ph, .int .i64 k, .int .i64 f, .int .u64 c2, .string t2, .bool fk], .agg #[.int .i64 lk, .int .i64 lf, .int .u64 lc, .string lt, .bool lb]] w fun e w' => e = .returned (.agg #[.int .i64 r, .int .u64 c, .string t, .int .i64 6, .int .i64 lk, .int .i64 lf, .int .u64 lc, .string lt, .bool lb]) ∧ Ext w w' := by
  go_enter Try.func98, Try.ntmps98
  go_wp2_with fail
  go_region
  go_wp2
  exact bodyPost_ret (v := .agg #[.int .i64 r, .int .u64 c, .string t, .int .i64 6, .int .i64 lk, .int .i64 lf, .int .u64 lc, .string lt, .bool lb]) (by simp [results, Try.results98, go_sem]) rfl ⟨rfl, ((((Ext.refl _).alloc _).alloc _).alloc _).drew⟩

theorem an_to (n : Int) (lk lf lc : Int) (lt : ByteArray) (lb : Bool) (w : World) :
    Calls Try.prog 96 #[.int .i64 n, .agg #[.int .i64 lk, .int .i64 lf, .int .u64 lc, .string lt, .bool lb]] w (Made w 111 6 1 [.int .i64 n, .int .i64 lk, .int .i64 lf, .int .u64 lc, .string lt, .bool lb]) := by
  go_enter Try.func96, Try.ntmps96
  go_wp2_with fail
  go_ret
  exact ⟨_, rfl, own_new ((Ext.refl w).alloc _) (by simp) (by decide) rfl rfl, ((Ext.refl _).alloc _).alloc _⟩

/-- Is a state the responder's? -/
def chkR (r c : Int) (t : ByteArray) (ph k f c2 : Int) (t2 : ByteArray) (fk : Bool) : Bool :=
  if r = 1 ∧ t.size ≤ 64 then
    if ph = 6 then lEq k f c2 t2 fk 2 0 c t false || lEq k f c2 t2 fk 6 0 c t false
    else if ph = 0 then t.toList.isEmpty && lEq k f c2 t2 fk 0 0 0 { data := #[] } false
    else if ph = 1 ∨ ph = 2 ∨ ph = 5 ∨ ph = 7 then lEq k f c2 t2 fk 0 0 0 { data := #[] } false
    else false
  else false

theorem chkA_eq (r c : Int) (t : ByteArray) (ph k f c2 : Int) (t2 : ByteArray) (fk : Bool) : chkA ⟨r, c, t, ph, ⟨k, f, c2, t2, fk⟩⟩ = chkR r c t ph k f c2 t2 fk := by
  have e : ∀ a b c d e, lEq k f c2 t2 fk a b c d e = decide ((⟨k, f, c2, t2, fk⟩ : Lt) = ⟨a, b, c, d, e⟩) := fun a b c d e => lEq_lt ⟨k, f, c2, t2, fk⟩ ⟨a, b, c, d, e⟩
  have e0 : t.toList.isEmpty = decide (t = { data := #[] }) := by
    rw [Bool.eq_iff_iff, empty_eq, decide_eq_true_eq]
  unfold chkA chkR
  simp only [e, e0, sgS, inS, l0]
  by_cases h : r = 1 ∧ t.size ≤ 64
  · rw [if_pos h, decide_eq_true h, Bool.true_and]
    by_cases h6 : ph = 6
    · subst h6
      rw [if_neg (by simp), if_neg (by simp), if_pos rfl, if_pos rfl]
      rfl
    · by_cases h0 : ph = 0
      · subst h0
        rfl
      · simp only [h6, h0, if_false]
        rfl
  · rw [if_neg h, decide_eq_false h, Bool.false_and]

set_option maxHeartbeats 400000 in
theorem an_check6 (c : Int) (t : ByteArray) (k f c2 : Int) (t2 : ByteArray) (fk : Bool) (w : World) (ht : (t.size : Int) ≤ 64) :
    Calls Try.prog 18 #[.agg #[.int .i64 1, .int .u64 c, .string t, .int .i64 6, .int .i64 k, .int .i64 f, .int .u64 c2, .string t2, .bool fk]] w fun e w' => e = .returned (.bool (lEq k f c2 t2 fk 2 0 c t false || lEq k f c2 t2 fk 6 0 c t false)) ∧ Ext w w' := by
  rcases h : lEq k f c2 t2 fk 2 0 c t false
  all_goals
    go_enter Try.func18, Try.ntmps18
    go_wp2_with fail
    refine wp_region_ext (by kernel_rfl) (by kernel_rfl) ?_
    repeat (go_big_quiet_step ((first | (go_at_call 40; exact calls_ext (an_signature _ _ _ _ _ _ _ _ _ _ _)) | (go_at_call 41; exact calls_ext (an_instead _ _ _ _ _ _ _ _ _ _)))))
    refine wpQuiet_nil ?_
    intro _ hx
    obtain ⟨x, rfl⟩ := hx
    go_wp2
    go_ret
    exact ⟨by simp, ((Ext.refl _).alloc _).val x⟩

set_option maxHeartbeats 400000 in
theorem an_checkR (r c : Int) (t : ByteArray) (ph k f c2 : Int) (t2 : ByteArray) (fk : Bool) (w : World) :
    Calls Try.prog 18 #[.agg #[.int .i64 r, .int .u64 c, .string t, .int .i64 ph, .int .i64 k, .int .i64 f, .int .u64 c2, .string t2, .bool fk]] w fun e w' => e = .returned (.bool (chkR r c t ph k f c2 t2 fk)) ∧ Ext w w' := by
  by_cases h0 : r = 1 ∧ t.size ≤ 64
  · obtain ⟨rfl, h1⟩ := h0
    by_cases h6 : ph = 6
    · subst h6
      have := an_check6 c t k f c2 t2 fk w (by omega)
      simpa [chkR, h1] using this
    · go_enter Try.func18, Try.ntmps18
      go_wp2
      all_goals (go_ret; exact ⟨ret_bool (by go_light; simp_all [chkR]), (Ext.refl _).alloc _⟩)
  · have e : chkR r c t ph k f c2 t2 fk = false := by unfold chkR; rw [if_neg h0]
    rw [e]
    clear e
    have h1 : ¬ (r = 1 ∧ (t.size : Int) ≤ 64) := by omega
    go_enter Try.func18, Try.ntmps18
    go_wp2
    all_goals first | (go_light; omega) | (go_ret; exact ⟨rfl, (Ext.refl _).alloc _⟩)

theorem an_check (r c : Int) (t : ByteArray) (ph k f c2 : Int) (t2 : ByteArray) (fk : Bool) (w : World) :
    Calls Try.prog 18 #[.agg #[.int .i64 r, .int .u64 c, .string t, .int .i64 ph, .int .i64 k, .int .i64 f, .int .u64 c2, .string t2, .bool fk]] w fun e w' => e = .returned (.bool (chkA ⟨r, c, t, ph, ⟨k, f, c2, t2, fk⟩⟩)) ∧ Ext w w' := by
  rw [chkA_eq]
  exact an_checkR r c t ph k f c2 t2 fk w

set_option maxHeartbeats 800000 in
theorem an_final (r c : Int) (t : ByteArray) (ph k f c2 : Int) (t2 : ByteArray) (fk : Bool) (w : World) :
    Calls Try.prog 51 #[.agg #[.int .i64 r, .int .u64 c, .string t, .int .i64 ph, .int .i64 k, .int .i64 f, .int .u64 c2, .string t2, .bool fk]] w fun e w' => e = .returned (.bool (finA ⟨r, c, t, ph, ⟨k, f, c2, t2, fk⟩⟩)) ∧ Ext w w' := by
  rcases hc : chkA ⟨r, c, t, ph, ⟨k, f, c2, t2, fk⟩⟩
  · have hs : finA ⟨r, c, t, ph, ⟨k, f, c2, t2, fk⟩⟩ = false := by simp [finA, hc]
    rw [hs]; clear hs
    go_enter Try.func51, Try.ntmps51
    go_wp2_with (go_at_call 18; refine (an_check _ _ _ _ _ _ _ _ _ _).mono ?_; rintro e w1 ⟨rfl, hx⟩; obtain ⟨x1, rfl⟩ := ext_of hx; clear hx)
    go_ret
    exact ⟨rfl, ((Ext.refl _).alloc _).val x1⟩
  · have hs : finA ⟨r, c, t, ph, ⟨k, f, c2, t2, fk⟩⟩ = (ph == 6 || ph == 7) := by simp [finA, hc]
    rw [hs]; clear hs
    rcases h6 : (ph == 6)
    all_goals
      go_enter Try.func51, Try.ntmps51
      go_wp2_with (go_at_call 18; refine (an_check _ _ _ _ _ _ _ _ _ _).mono ?_; rintro e w1 ⟨rfl, hx⟩; obtain ⟨x1, rfl⟩ := ext_of hx; clear hx)
      go_ret
      exact ⟨by simp, ((Ext.refl _).alloc _).val x1⟩
end Go.Proofs.Ytfibbhmmiemcoaa

/-
  Walks: can a letter be said? No condition.
-/
namespace Go.Proofs.Ytfibbhmmiemcoaa
open Go.RowKit
attribute [local go_sem ↓] eql_lEq eql_sEq eql_eEq eql_oEq neq_lEq neq_sEq neq_eEq neq_oEq eql_vEq neq_vEq eql_nil
attribute [local go_sem] ExtOf.cell ExtOf.frozen ExtOf.lt ExtOf.le
attribute [local go_sem high] ExtOf.cell2 ExtOf.frozen2 ExtOf.lt2 ExtOf.cell3 ExtOf.frozen3 ExtOf.lt3

def Lt.val (l : Lt) : Value := .agg #[.int .i64 l.k, .int .i64 l.f, .int .u64 l.c, .string l.t, .bool l.b]
/-- The letter l lies in block g. -/
def LtAt (w : World) (g : Nat) (l : Lt) : Prop := w.heap[g]? = some (.cells #[.int .i64 l.k, .int .i64 l.f, .int .u64 l.c, .string l.t, .bool l.b] 24 (0, 0))
theorem LtAt.ext {w w' : World} {g : Nat} {l : Lt} (h : LtAt w g l) (e : Ext w w') : LtAt w' g l := heap_ext h e

def wish1 (h l : Lt) : Bool := h.k == 4 && (h.b == l.b && decide (h.t = l.t))
theorem wishS_any (h : List Lt) (l : Lt) : wishS h l = h.any fun x => wish1 x l := rfl

set_option maxHeartbeats 1600000 in
theorem ca_hit (h l : Lt) (g : Nat) (w : World) (hl : LtAt w g l) :
    Calls Try.prog 37 #[.agg #[.int .i64 h.k, .int .i64 h.f, .int .u64 h.c, .string h.t, .bool h.b], .pointer (some ⟨g, 0, none⟩)] w fun e w' => e = .returned (.bool (wish1 h l)) ∧ Ext w w' := by
  have c1 := fun j => cell_of_row w _ j _ _ _ hl
  have l1 : g < w.heap.size := (Array.getElem?_eq_some_iff.1 hl).1
  clear hl
  have key : ∀ v : Bool, wish1 h l = v → Hid (wish1 h l = v) := fun _ h => Lib.hid h
  obtain ⟨hk, hf, hc, ht, hb⟩ := h
  simp only at key ⊢
  by_cases h4 : hk = 4
  case neg =>
    have hK := key false (by simp [wish1, h4])
    have h4' : (hk == 4) = false := by simpa using h4
    clear h4
    go_enter Try.func37, Try.ntmps37
    go_wp2_with fail
    go_ret
    exact ⟨by rw [hK.out]; rfl, (Ext.refl _).alloc _⟩
  subst h4
  by_cases h5 : hb = l.b
  case neg =>
    have hK := key false (by simp [wish1, h5])
    have h5' : (hb == l.b) = false := by simpa using h5
    clear h5
    go_enter Try.func37, Try.ntmps37
    go_wp2_with fail
    go_ret
    exact ⟨by rw [hK.out]; rfl, (Ext.refl _).alloc _⟩
  subst h5
  by_cases h6 : ht = l.t
  · have hK := key true (by simp [wish1, h6])
    subst h6
    go_enter Try.func37, Try.ntmps37
    go_wp2_with fail
    go_ret
    exact ⟨by rw [hK.out]; simp, (Ext.refl _).alloc _⟩
  · have hK := key false (by simp [wish1, h6])
    have h6' : (ht.toList == l.t.toList) = false := by rw [beq_eq_false_iff_ne]; exact fun h => h6 ((toList_eq_iff _ _).1 h)
    clear h6
    go_enter Try.func37, Try.ntmps37
    go_wp2_with fail
    go_ret
    exact ⟨by rw [hK.out]; simp [h6'], (Ext.refl _).alloc _⟩

set_option maxHeartbeats 1600000 in
theorem sl_indexF (v : Value) (L : List Lt) (l : Lt) (gl : Nat) (w : World) (hR : Row w 5 v L.length (L.flatMap Lt.cs)) (hl : LtAt w gl l) :
    Calls Try.prog 71 #[v, .func (.func 37) #[] #[.pointer (some ⟨gl, 0, none⟩)]] w fun e w' => ∃ n : Int, e = .returned (.int .i64 n) ∧ decide (0 ≤ n) = wishS L l ∧ Ext w w' := by
  obtain ⟨a, cap, rfl, hm, hvw⟩ := row_view hR
  have HV := Lib.hid hvw
  have HL := Lib.hid hl
  clear hvw hR hl
  unfold maxLen at hm
  go_enter Try.func71, Try.ntmps71
  go_wp2_with fail
  go_loopg [8] L.length (fun g ii wr => ∃ (n : Nat) (y : ExtOf w), ii = .int .i64 (n : Int) ∧ n + g = L.length ∧ wr = y.val ∧ Hid (∀ (j : Nat) z, j < n → L[j]? = some z → wish1 z l = false))
  case atStart => exact ⟨0, ⟨w, Ext.refl _⟩, rfl, by omega, rfl, Lib.hid fun _ _ h => by omega⟩
  case round =>
    obtain ⟨n, y, rfl, hg, rfl, HN⟩ := hrel
    by_cases hlt : n < L.length
    · obtain ⟨g, off, rfl, hgl, hcell⟩ := HV.out (by omega)
      have hgl := hgl (by omega)
      obtain ⟨x, hx⟩ : ∃ x, L[n]? = some x := ⟨_, List.getElem?_eq_getElem hlt⟩
      obtain ⟨q0, q1, q2, q3, q4⟩ := lt_cellsO hcell hx
      have HX := Lib.hid hx
      clear hx hcell
      have hlt' : (n : Int) < (L.length : Int) := by omega
      have hHit := fun w' (hw : Ext w w') => ca_hit x l gl w' (HL.out.ext hw)
      rcases hw : wish1 x l
      all_goals
        rw [hw] at hHit
        have HH := Lib.hid hHit
        have HW := Lib.hid hw
        clear hHit hw
        go_wp2_with (go_at_call 37; refine (HH.out _ y.ext).mono ?_; rintro e w1 ⟨rfl, hx1⟩; have HX1 := Lib.hid hx1; clear hx1)
      · go_roundg (gk - 1)
        case rel =>
          refine ⟨n + 1, ⟨_, y.ext.trans HX1.out⟩, rfl, by omega, rfl, Lib.hid fun j u hj hu => ?_⟩
          by_cases hjn : j = n
          · subst hjn
            rw [HX.out, Option.some.injEq] at hu
            rw [← hu]
            exact HW.out
          · exact HN.out j u (by omega) hu
        case measure => omega
      · go_ret
        refine ⟨n, rfl, ?_, y.ext.trans HX1.out⟩
        rw [wishS_any, List.any_eq_true.2 ⟨x, mem_of_get HX.out, HW.out⟩]
        exact decide_eq_true (by omega)
    · have hge : (L.length : Int) ≤ (n : Int) := by omega
      go_wp2_with fail
      go_ret
      refine ⟨-1, rfl, ?_, y.ext⟩
      rw [wishS_any, List.any_eq_false.2]
      · rfl
      · intro z hz
        obtain ⟨j, hj⟩ := List.getElem?_of_mem hz
        have := (List.getElem?_eq_some_iff.1 hj).1
        rw [HN.out j z (by omega) hj]
        simp

set_option maxHeartbeats 800000 in
theorem sl_containsF (v : Value) (L : List Lt) (l : Lt) (gl : Nat) (w : World) (hR : Row w 5 v L.length (L.flatMap Lt.cs)) (hl : LtAt w gl l) :
    Calls Try.prog 36 #[v, .func (.func 37) #[] #[.pointer (some ⟨gl, 0, none⟩)]] w fun e w' => e = .returned (.bool (wishS L l)) ∧ Ext w w' := by
  have HR := Lib.hid hR
  have HL := Lib.hid hl
  clear hR hl
  go_enter Try.func36, Try.ntmps36
  go_wp2_with (refine (sl_indexF v L l gl _ HR.out HL.out).mono ?_; rintro e w1 ⟨n, rfl, hn, hx⟩; have HN := Lib.hid hn; have HX := Lib.hid hx; clear hn hx)
  go_ret
  exact ⟨by rw [← HN.out]; rfl, HX.out⟩

set_option maxHeartbeats 800000 in
theorem ca_wished (v : Value) (L : List Lt) (l : Lt) (gx gl : Nat) (w : World) (hv : w.cell? ⟨gx, 25, none⟩ = some v) (hR : Row w 5 v L.length (L.flatMap Lt.cs)) (hl : LtAt w gl l) :
    Calls Try.prog 35 #[.pointer (some ⟨gx, 0, none⟩), .pointer (some ⟨gl, 0, none⟩)] w fun e w' => e = .returned (.bool (wishS L l)) ∧ Ext w w' := by
  have HR := Lib.hid hR
  have HL := Lib.hid hl
  clear hR hl
  go_enter Try.func35, Try.ntmps35
  go_wp2_with (go_at_call 36; refine (sl_containsF v L l gl _ HR.out HL.out).mono ?_; rintro e w1 ⟨rfl, hx⟩; have HX := Lib.hid hx; clear hx)
  go_ret
  exact ⟨rfl, HX.out⟩
end Go.Proofs.Ytfibbhmmiemcoaa
