/-
  Walk: the originator's step, behind its beginning. No condition.
-/
import Derived.Test.YtnfehccnofhmnaaW4
namespace Go.Proofs.Ytnfehccnofhmnaa
open Go.RowKit
attribute [local go_sem ↓] eql_lEq eql_sEq eql_eEq eql_oEq neq_lEq neq_sEq neq_eEq neq_oEq
attribute [local go_sem] ExtOf.cell ExtOf.frozen ExtOf.lt ExtOf.le
attribute [local go_sem high] ExtOf.cell2 ExtOf.frozen2 ExtOf.lt2 ExtOf.cell3 ExtOf.frozen3 ExtOf.lt3 ExtOf.cellB ExtOf.frozenB ExtOf.cellX ExtOf.frozenX ExtOf.cellX' ExtOf.frozenX'
attribute [local go_sem] BelOf.cell BelOf.frozen BelOf.lt

theorem rw_cells {w : World} {g : Nat} {L : List Rw} {k : Nat} {x : Rw} (h : ∀ j u, (L.flatMap Rw.cs)[j]? = some u → w.cell? ⟨g, j, none⟩ = some u) (hx : L[k]? = some x) :
    w.cell? ⟨g, k * 12, none⟩ = some (.bool x.tick) ∧ w.cell? ⟨g, k * 12 + 1, none⟩ = some (.int .i64 x.comes.k) ∧ w.cell? ⟨g, k * 12 + 2, none⟩ = some (.int .i64 x.comes.f) ∧
    w.cell? ⟨g, k * 12 + 3, none⟩ = some (.int .u64 x.comes.c) ∧ w.cell? ⟨g, k * 12 + 4, none⟩ = some (.string x.comes.t) ∧ w.cell? ⟨g, k * 12 + 5, none⟩ = some (.bool x.comes.b) ∧
    w.cell? ⟨g, k * 12 + 6, none⟩ = some (.int .i64 x.to) ∧ w.cell? ⟨g, k * 12 + 7, none⟩ = some (.int .i64 x.sends.k) ∧ w.cell? ⟨g, k * 12 + 8, none⟩ = some (.int .i64 x.sends.f) ∧
    w.cell? ⟨g, k * 12 + 9, none⟩ = some (.int .u64 x.sends.c) ∧ w.cell? ⟨g, k * 12 + 10, none⟩ = some (.string x.sends.t) ∧ w.cell? ⟨g, k * 12 + 11, none⟩ = some (.bool x.sends.b) := by
  have f := fun j hj => flat_get Rw.cs 12 (fun _ => rfl) L k x hx j hj
  refine ⟨h _ _ (f 0 (by omega)), h _ _ (f 1 (by omega)), h _ _ (f 2 (by omega)), h _ _ (f 3 (by omega)), h _ _ (f 4 (by omega)), h _ _ (f 5 (by omega)), h _ _ (f 6 (by omega)), h _ _ (f 7 (by omega)), h _ _ (f 8 (by omega)), h _ _ (f 9 (by omega)), h _ _ (f 10 (by omega)), h _ _ (f 11 (by omega))⟩

theorem find_first {α : Type} (p : α → Bool) : ∀ (L : List α) (n : Nat) (x : α), L[n]? = some x → p x = true → (∀ j z, j < n → L[j]? = some z → p z = false) → L.find? p = some x
  | [], n, x, h, _, _ => by simp at h
  | y :: L, 0, x, h, hp, _ => by
    simp only [List.getElem?_cons_zero, Option.some.injEq] at h
    subst h
    simp [hp]
  | y :: L, n + 1, x, h, hp, hn => by
    have hy : p y = false := hn 0 y (by omega) rfl
    rw [List.find?_cons, hy]
    exact find_first p L n x (by simpa using h) hp fun j z hj hz => hn (j + 1) z (by omega) (by simpa using hz)

theorem step_found {r c : Int} {t : ByteArray} {ph k f c2 : Int} {t2 : ByteArray} {fk : Bool} {e : Ev} {L : List Rw} {n : Nat} {x : Rw} (hL : rowsS c t ph = L) (hc : chk r c t ph k f c2 t2 fk = true) (hp : (ph == 0) = false)
    (hx : L[n]? = some x) (ht : takesR x ⟨r, c, t, ph, ⟨k, f, c2, t2, fk⟩⟩ e = true) (hno : ∀ j z, j < n → L[j]? = some z → takesR z ⟨r, c, t, ph, ⟨k, f, c2, t2, fk⟩⟩ e = false) :
    stepS ⟨r, c, t, ph, ⟨k, f, c2, t2, fk⟩⟩ e = (toS x ⟨r, c, t, ph, ⟨k, f, c2, t2, fk⟩⟩, outS x.sends) := by
  have hp' : ¬ ph = 0 := by simpa using hp
  have hf := find_first (fun x => takesR x ⟨r, c, t, ph, ⟨k, f, c2, t2, fk⟩⟩ e) L n x hx ht hno
  unfold stepS chkS
  simp only [hc, if_true, hp', if_false, hL, hf]

theorem step_none {r c : Int} {t : ByteArray} {ph k f c2 : Int} {t2 : ByteArray} {fk : Bool} {e : Ev} {L : List Rw} (hL : rowsS c t ph = L) (hc : chk r c t ph k f c2 t2 fk = true) (hp : (ph == 0) = false)
    (hno : ∀ (j : Nat) z, L[j]? = some z → takesR z ⟨r, c, t, ph, ⟨k, f, c2, t2, fk⟩⟩ e = false) :
    stepS ⟨r, c, t, ph, ⟨k, f, c2, t2, fk⟩⟩ e = (⟨r, c, t, ph, ⟨k, f, c2, t2, fk⟩⟩, []) := by
  have hp' : ¬ ph = 0 := by simpa using hp
  have hf : L.find? (fun x => takesR x ⟨r, c, t, ph, ⟨k, f, c2, t2, fk⟩⟩ e) = none := by
    rw [List.find?_eq_none]
    intro z hz
    obtain ⟨j, hj⟩ := List.getElem?_of_mem hz
    simp [hno j z hj]
  unfold stepS chkS
  simp only [hc, if_true, hp', if_false, hL, hf]

set_option maxHeartbeats 800000 in
theorem or_stepC (r c : Int) (t : ByteArray) (ph k f c2 : Int) (t2 : ByteArray) (fk : Bool) (ek ec : Int) (et : ByteArray) (lk lf lc : Int) (lt : ByteArray) (lb : Bool) (w : World) (hc : chk r c t ph k f c2 t2 fk = true) (hp : (ph == 0) = false) :
    Calls Try.prog 10 #[.agg #[.int .i64 r, .int .u64 c, .string t, .int .i64 ph, .int .i64 k, .int .i64 f, .int .u64 c2, .string t2, .bool fk],
      .agg #[.int .i64 ek, .int .u64 ec, .string et, .int .i64 lk, .int .i64 lf, .int .u64 lc, .string lt, .bool lb]] w
      (Stepped w (stepS ⟨r, c, t, ph, ⟨k, f, c2, t2, fk⟩⟩ ⟨ek, ec, et, ⟨lk, lf, lc, lt, lb⟩⟩)) := by
  have HC := Lib.hid hc
  have HP := Lib.hid hp
  generalize hL : rowsS c t ph = L
  have HL := Lib.hid hL
  clear hL
  go_enter Try.func10, Try.ntmps10
  go_wp2_with (first
    | (go_at_call 13; refine (or_check _ _ _ _ _ _ _ _ _ _).mono ?_; rintro e w1 ⟨rfl, hx⟩; obtain ⟨x1, rfl⟩ := ext_of hx; clear hx)
    | (go_at_call 31; refine (or_rows _ _ _ _ _ _ _ _ _ _).mono ?_; rintro e w2 ⟨v, rfl, hv, hx2⟩; rw [HL.out] at hv; obtain ⟨a, cap, rfl, hm, hvw⟩ := own_view hv; obtain ⟨x2, rfl⟩ := ext_of hx2; clear hx2 hv))
  refine wp_forget (fun w' => w'.heap[w.heap.size]? = some (.cells #[.int .i64 r, .int .u64 c, .string t, .int .i64 ph, .int .i64 k, .int .i64 f, .int .u64 c2, .string t2, .bool fk] 26 (0, 0)) ∧ w'.heap[w.heap.size + 1]? = some (.cells #[.int .i64 ek, .int .u64 ec, .string et, .int .i64 lk, .int .i64 lf, .int .u64 lc, .string lt, .bool lb] 28 (0, 0)) ∧ w'.heap[w.heap.size + 1 + 1]? = some (.cells #[.int .i64 0, .int .u64 0, .string { data := #[] }, .int .i64 0, .int .i64 0, .int .i64 0, .int .u64 0, .string { data := #[] }, .bool false] 26 (0, 0)) ∧ Ext w w' ∧
      (0 < L.length → ∃ g, a = some ⟨g, 0, none⟩ ∧ g < w'.heap.size ∧ ∀ j u, (L.flatMap Rw.cs)[j]? = some u → w'.cell? ⟨g, j, none⟩ = some u)) ⟨?f1, ?f2, ?f3, ?f4, ?f5⟩ ?fr
  case f1 => exact heap_ext (heap_ext (heap_ext (heap_new rfl) (((Ext.refl _).alloc _).alloc _)) x1.ext) x2.ext
  case f2 => exact heap_ext (heap_ext (heap_ext (heap_new (by simp)) ((Ext.refl _).alloc _)) x1.ext) x2.ext
  case f3 => exact heap_ext (heap_ext (heap_new (by simp)) x1.ext) x2.ext
  case f4 => exact (((((Ext.refl _).alloc _).alloc _).alloc _).val x1).val x2
  case f5 => exact fun h => let ⟨g, ha, _, hg, hcell⟩ := hvw h; ⟨g, ha, hg, hcell⟩
  clear hvw x2 x1
  rintro W3 ⟨h3a, h3b, h3c, h3x, hvw⟩
  have HV := Lib.hid hvw
  clear hvw
  have hc3 := fun j => cell_of_row W3 _ j _ _ _ h3a
  have hd3 := fun j => cell_of_row W3 _ j _ _ _ h3b
  have hl3 : w.heap.size < W3.heap.size := (Array.getElem?_eq_some_iff.1 h3a).1
  have hm3 : w.heap.size + 1 < W3.heap.size := (Array.getElem?_eq_some_iff.1 h3b).1
  have H3a := Lib.hid h3a
  have H3c := Lib.hid h3c
  clear h3a h3b h3c
  unfold maxLen at hm
  go_loopw [43] (fun i wr => ∃ n : Nat, n ≤ L.length ∧ i = .int .i64 n ∧ (∃ y : ExtOf W3, wr = y.val) ∧ ∀ j x, j < n → L[j]? = some x → takesR x ⟨r, c, t, ph, ⟨k, f, c2, t2, fk⟩⟩ ⟨ek, ec, et, ⟨lk, lf, lc, lt, lb⟩⟩ = false) (fun i _ => L.length - (intOf i).toNat)
  case atStart => exact ⟨0, Nat.zero_le _, rfl, ⟨⟨W3, Ext.refl _⟩, rfl⟩, fun _ _ h => by omega⟩
  case round =>
    obtain ⟨n, hn, rfl, ⟨y, rfl⟩, hno⟩ := hrel
    have HN := Lib.hid hno
    clear hno
    by_cases hlt : n < L.length
    · obtain ⟨g, rfl, hg, hcell⟩ := HV.out (by omega)
      obtain ⟨x, hx⟩ : ∃ x, L[n]? = some x := ⟨_, List.getElem?_eq_getElem hlt⟩
      obtain ⟨q0, q1, q2, q3, q4, q5, q6, q7, q8, q9, q10, q11⟩ := rw_cells hcell hx
      have HX := Lib.hid hx
      clear hx hcell
      rcases ht : takesR x ⟨r, c, t, ph, ⟨k, f, c2, t2, fk⟩⟩ ⟨ek, ec, et, ⟨lk, lf, lc, lt, lb⟩⟩
      · have HT := Lib.hid ht
        simp only [takesR] at ht
        go_wp2_with (go_at_call 32; refine (or_takes _ _ _ _ _ _ _ _ _ _ _ _ _ _ _ _ _ _ _ _ _ _ _ _ _ _ _ _ _ _).mono ?_; rintro e w4 ⟨rfl, hx4⟩; obtain ⟨x4, rfl⟩ := ext_of hx4; clear hx4)
        go_roundw
        case rel =>
          refine ⟨n + 1, by omega, by go_num, ⟨⟨x4.val, (y.ext.alloc _).val x4⟩, rfl⟩, fun j z hj hz => ?_⟩
          by_cases hjn : j = n
          · subst hjn
            rw [HX.out] at hz
            simp only [Option.some.injEq] at hz
            subst hz
            exact HT.out
          · exact HN.out j z (by omega) hz
        case measure => simp [intOf]; omega
      · have HT := Lib.hid ht
        simp only [takesR] at ht
        go_wp2_with (go_at_call 32; refine (or_takes _ _ _ _ _ _ _ _ _ _ _ _ _ _ _ _ _ _ _ _ _ _ _ _ _ _ _ _ _ _).mono ?_; rintro e w4 ⟨rfl, hx4⟩; obtain ⟨x4, rfl⟩ := ext_of hx4; clear hx4)
        refine wp_forget (fun w' => w'.heap[w.heap.size]? = some (.cells #[.int .i64 r, .int .u64 c, .string t, .int .i64 ph, .int .i64 k, .int .i64 f, .int .u64 c2, .string t2, .bool fk] 26 (0, 0)) ∧ w'.heap[w.heap.size + 1 + 1]? = some (.cells #[.int .i64 0, .int .u64 0, .string { data := #[] }, .int .i64 0, .int .i64 0, .int .i64 0, .int .u64 0, .string { data := #[] }, .bool false] 26 (0, 0)) ∧ w'.heap[y.val.heap.size]? = some (.cells #[.bool x.tick, .int .i64 x.comes.k, .int .i64 x.comes.f, .int .u64 x.comes.c, .string x.comes.t, .bool x.comes.b, .int .i64 x.to, .int .i64 x.sends.k, .int .i64 x.sends.f, .int .u64 x.sends.c, .string x.sends.t, .bool x.sends.b] 55 (0, 0)) ∧ Ext w w' ∧ w.heap.size + 1 + 1 < y.val.heap.size) ⟨?d1, ?d2, ?d3, ?d4, ?d5⟩ ?dr
        case d1 => exact heap_ext H3a.out ((y.ext.alloc _).val x4)
        case d2 => exact heap_ext H3c.out ((y.ext.alloc _).val x4)
        case d3 => exact heap_ext (heap_new rfl) x4.ext
        case d4 => exact h3x.trans ((y.ext.alloc _).val x4)
        case d5 => exact Nat.lt_of_lt_of_le (Array.getElem?_eq_some_iff.1 H3c.out).1 y.ext.size
        clear x4 q0 q1 q2 q3 q4 q5 q6 q7 q8 q9 q10 q11 hc3 hd3
        rintro W7 ⟨h7a, h7b, h7c, h7x, h7l⟩
        have hc7 := fun j => cell_of_row W7 _ j _ _ _ h7a
        have hd7 := fun j => cell_of_row W7 _ j _ _ _ h7c
        have hl7 : w.heap.size < W7.heap.size := (Array.getElem?_eq_some_iff.1 h7a).1
        have hm7 : y.val.heap.size < W7.heap.size := (Array.getElem?_eq_some_iff.1 h7c).1
        have H7b := Lib.hid h7b
        clear h7a h7b h7c
        have b7 := but_refl (w.heap.size + 1 + 1) W7
        refine wp_region_mixX (w.heap.size + 1 + 1) (af := ?af) [true, true, true, true, true, false, false, false] 59 (by kernel_rfl) rfl (by kernel_rfl) ?q ?r
        case q =>
          intro x0
          simp only [pickT, if_true, if_false, Bool.false_eq_true]
          repeat (go_big_quiet_step ((go_at_call 33; exact calls_ext (or_toE _ _ _ _ _ _ _ _ _ _ _ _ _ _ _ _ _ _ _ _ _ _))))
          exact rfl
        case r =>
          simp only [pickF, if_true, if_false, Bool.false_eq_true]
          intro x1
          have e1 : Ext W7 x1.val := (Ext.refl _).drew.val x1
          have g1 := h7x.trans e1
          go_wp2_with (go_at_call 29; refine (or_out _ _ _ _ _ _).mono ?_; rintro e w2 ⟨v, rfl, hv, hx2⟩)
          refine ⟨but_ext b7 (e1.trans hx2), ?_⟩
          intro x2
          have e2 := (e1.trans hx2).trans x2.ext
          go_wp2_with (refine wpList_store_row rfl 26 _ _ rfl _ _ rfl rfl 26 _ (heap_ext H7b.out e2) info_state rfl (by simp [Value.oneCell']) ?_)
          refine ⟨but_setRow (but_ext b7 e2) _, ?_⟩
          intro x3
          go_wp2_with fail
          refine ⟨but_ext (but_setRow (but_ext b7 e2) _) x3.ext, ?_⟩
          intro x4
          go_wp2_with fail
          have gx : Ext w x4.val := ((Ext.setRow (h7x.trans e2) (Nat.le_succ_of_le (Nat.le_succ _)) _).val x3).val x4
          refine bodyPost_ret (results_row_tmp rfl _ _ _ 26 _ (0, 0) _ rfl (heap_ext (heap_ext (setRow_heap _ _ _ _ _ _ (heap_ext H7b.out e2)) x3.ext) x4.ext) Try.underlying26 rfl info_state) rfl ?_
          rw [step_found HL.out HC.out HP.out HX.out HT.out HN.out]
          refine ⟨_, rfl, ?_, gx⟩
          have hv2 := own_ext (own_base (b' := w.heap.size) hv g1.size) x2.ext
          exact own_ext (own_ext (own_setRow hv2 (heap_ext H7b.out e2) (by decide) _) x3.ext) x4.ext
    · have hs : stepS ⟨r, c, t, ph, ⟨k, f, c2, t2, fk⟩⟩ ⟨ek, ec, et, ⟨lk, lf, lc, lt, lb⟩⟩ = (⟨r, c, t, ph, ⟨k, f, c2, t2, fk⟩⟩, []) := by
        exact step_none HL.out HC.out HP.out (fun j z hz => HN.out j z (by have := (List.getElem?_eq_some_iff.1 hz).1; omega) hz)
      have HS := Lib.hid hs
      clear hs
      go_wp2_with (refine wpList_store_row rfl 26 _ _ rfl _ _ rfl rfl 26 _ (heap_ext H3c.out y.ext) info_state rfl (by simp [Value.oneCell']) ?_)
      refine bodyPost_ret (results_row_tmp rfl _ _ _ 26 _ (0, 0) _ rfl (setRow_heap _ _ _ _ _ _ (heap_ext H3c.out y.ext)) Try.underlying26 rfl info_state) rfl ?_
      rw [HS.out]
      exact ⟨_, rfl, World.ownsRow_nil _ _ _ _, Ext.setRow (h3x.val y) (by omega) _⟩
end Go.Proofs.Ytnfehccnofhmnaa
