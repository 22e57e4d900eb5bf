/-
  Walk: the originator's events. No condition.
-/
import Derived.Test.YtnfehccnofhmnaaW6
namespace Go.Proofs.Ytnfehccnofhmnaa
open Go.RowKit
attribute [local go_sem ↓] eql_lEq eql_sEq eql_eEq eql_oEq neq_lEq neq_sEq neq_eEq neq_oEq
attribute [local go_sem] ExtOf.cell ExtOf.frozen ExtOf.lt ExtOf.le
attribute [local go_sem high] ExtOf.cell2 ExtOf.frozen2 ExtOf.lt2 ExtOf.cell3 ExtOf.frozen3 ExtOf.lt3 ExtOf.cellB ExtOf.frozenB ExtOf.cellX ExtOf.frozenX ExtOf.cellX' ExtOf.frozenX'
attribute [local go_sem] BelOf.cell BelOf.frozen BelOf.lt

def evR (sc : Int) (x : Rw) : Ev := if x.tick then ⟨3, sc, { data := #[] }, l0⟩ else ⟨2, 0, { data := #[] }, x.comes⟩
def evsS (s : St) : List Ev := if waitS s then (rowsS s.c s.t s.ph).map (evR s.c) else []

theorem rows_len (c : Int) (t : ByteArray) (ph : Int) : (rowsS c t ph).length ≤ 3 := by
  unfold rowsS
  repeat' split
  all_goals simp

theorem take_flat {α : Type} (f : α → List Value) {L : List α} {n : Nat} {x : α} (h : L[n]? = some x) : (L.take (n + 1)).flatMap f = (L.take n).flatMap f ++ f x := by
  rw [List.take_add_one, h]
  simp

theorem info_event : (Try.prog.info? 28).map (fun i => (i.zero, i.size, i.bytes)) = some (some (.agg #[.int .i64 0, .int .u64 0, .string { data := #[] }, .int .i64 0, .int .i64 0, .int .u64 0, .string { data := #[] }, .bool false]), 8, 80) := by kernel_rfl

theorem evR_t {sc : Int} {x : Rw} (h : x.tick = true) : evR sc x = ⟨3, sc, { data := #[] }, l0⟩ := by simp [evR, h]
theorem evR_f {sc : Int} {x : Rw} (h : x.tick = false) : evR sc x = ⟨2, 0, { data := #[] }, x.comes⟩ := by simp [evR, h]

set_option maxHeartbeats 800000 in
theorem or_eventsW (r c : Int) (t : ByteArray) (ph k f c2 : Int) (t2 : ByteArray) (fk : Bool) (w : World) (hw : waitS ⟨r, c, t, ph, ⟨k, f, c2, t2, fk⟩⟩ = true) :
    Calls Try.prog 20 #[.agg #[.int .i64 r, .int .u64 c, .string t, .int .i64 ph, .int .i64 k, .int .i64 f, .int .u64 c2, .string t2, .bool fk]] w (Made w 28 8 (rowsS c t ph).length (((rowsS c t ph).map (evR c)).flatMap Ev.cs)) := by
  obtain ⟨i0, hi, hz0, hz1, hz2⟩ := info_parts info_event
  have hm3 := rows_len c t ph
  generalize hL : rowsS c t ph = L
  rw [hL] at hm3
  have HL := Lib.hid hL
  clear hL
  go_enter Try.func20, Try.ntmps20
  go_wp2_with (first
    | (go_at_call 17; refine (or_waits _ _ _ _ _ _ _ _ _ _).mono ?_; rintro e w1 ⟨rfl, hx⟩; obtain ⟨x1, rfl⟩ := ext_of hx; clear hx)
    | (go_at_call 31; refine (or_rows _ _ _ _ _ _ _ _ _ _).mono ?_; rintro e w2 ⟨v, rfl, hv, hx2⟩; rw [HL.out] at hv; obtain ⟨a, cap, rfl, hm, hvw⟩ := own_view hv; obtain ⟨x2, rfl⟩ := ext_of hx2; clear hx2 hv))
  refine wp_forget (fun w' => w'.heap[w.heap.size]? = some (.cells #[.int .i64 r, .int .u64 c, .string t, .int .i64 ph, .int .i64 k, .int .i64 f, .int .u64 c2, .string t2, .bool fk] 26 (0, 0)) ∧ Ext w w' ∧
      (0 < L.length → ∃ g, a = some ⟨g, 0, none⟩ ∧ g < w'.heap.size ∧ ∀ j u, (L.flatMap Rw.cs)[j]? = some u → w'.cell? ⟨g, j, none⟩ = some u)) ⟨?f1, ?f4, ?f5⟩ ?fr
  case f1 => exact heap_ext (heap_ext (heap_new rfl) x1.ext) x2.ext
  case f4 => exact (((Ext.refl _).alloc _).val x1).val x2
  case f5 => exact fun h => let ⟨g, ha, _, hg, hcell⟩ := hvw h; ⟨g, ha, hg, hcell⟩
  clear hvw x2 x1
  rintro W3 ⟨h3a, h3x, hvw⟩
  have HV := Lib.hid hvw
  clear hvw
  have hc3 := fun j => cell_of_row W3 _ j _ _ _ h3a
  have hl3 : w.heap.size < W3.heap.size := (Array.getElem?_eq_some_iff.1 h3a).1
  clear h3a
  unfold maxLen at hm
  go_loopw [3, 12] (fun l i wr => ∃ (n : Nat) (y : ExtOf W3), n ≤ L.length ∧ i = .int .i64 n ∧ wr = y.val ∧ y.val.ownsRow W3.heap.size 28 8 l n (((L.take n).map (evR c)).flatMap Ev.cs)) (fun _ i _ => L.length - (intOf i).toNat)
  case atStart => exact ⟨0, ⟨W3, Ext.refl _⟩, Nat.zero_le _, rfl, rfl, World.ownsRow_nil _ _ _ _⟩
  case round =>
    obtain ⟨n, y, hn, rfl, rfl, hown⟩ := hrel
    by_cases hlt : n < L.length
    · obtain ⟨g, rfl, hg, hcell⟩ := HV.out (by omega)
      obtain ⟨x, hx⟩ : ∃ x, L[n]? = some x := ⟨_, List.getElem?_eq_getElem hlt⟩
      obtain ⟨q0, q1, q2, q3, q4, q5, q6, q7, q8, q9, q10, q11⟩ := rw_cells hcell hx
      have HX := Lib.hid hx
      clear hx hcell
      have hyB : W3.heap.size ≤ ((y.val.alloc (.cells #[] 0)).alloc (.cells #[] 0)).heap.size := Nat.le_trans y.ext.size (((Ext.refl y.val).alloc _).alloc _).size
      rcases ht : x.tick
      all_goals
        have HT := Lib.hid ht
        go_wp2_with (at_builtin; refine wpList_app W3.heap.size 30 28 i0 _ 8 80 Try.underlying30 hi hz0 hz1 hz2 rfl (by decide) rfl _ _ rfl _ n _ rfl (own_ext hown (((Ext.refl y.val).alloc _).alloc _)) (Nat.le_trans y.ext.size (((Ext.refl y.val).alloc _).alloc _).size) (y.val.heap.size + 1) 1 1 _ rfl (heap_new (by simp)) rfl (by simp [Value.oneCell']) (by unfold maxLen; omega) (by omega) ?_; intro v2 w2 hv2 hb2 _)
        go_roundw
        case rel =>
          refine ⟨n + 1, ⟨w2, (((y.ext.alloc _).alloc _).trans' hb2)⟩, by omega, by go_num, rfl, ?_⟩
          rw [List.map_take] at hv2 ⊢
          rw [take_flat Ev.cs (x := evR c x) (by rw [List.getElem?_map, HX.out]; rfl)]
          first
            | (rw [evR_t HT.out]; exact hv2)
            | (rw [evR_f HT.out]; exact hv2)
        case measure => simp [intOf]; omega
    · obtain rfl : n = L.length := by omega
      go_wp2
      go_ret
      refine ⟨_, rfl, ?_, h3x.trans y.ext⟩
      rw [List.take_length] at hown
      exact own_base hown h3x.size
end Go.Proofs.Ytnfehccnofhmnaa
