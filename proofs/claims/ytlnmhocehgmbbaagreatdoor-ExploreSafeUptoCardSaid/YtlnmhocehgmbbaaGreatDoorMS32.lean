/-
  Walk: the law of a safe contract: true. No condition.
-/
import Derived.Test.YtlnmhocehgmbbaaGreatDoorMS31
import Derived.ProofKit
import Derived.Deep.Slices
import Derived.Lib.SmallJoins
import Derived.JoinedCond
import Derived.OpenShut
import Derived.Deep.DeepHandedRow
import Derived.Lib.LaidTab
import Derived.Stop.LaidErr
import Derived.MakeChecks
namespace Go.Proofs.YtlnmhocehgmbbaaGreatDoor
open Go.RowKit
attribute [local go_sem] ExtOf.cell ExtOf.frozen ExtOf.lt ExtOf.le
attribute [local go_sem high] ExtOf.cell2 ExtOf.frozen2 ExtOf.lt2 ExtOf.cell3 ExtOf.frozen3 ExtOf.lt3

theorem row_init {w : World} {g off n cp : Nat} {xs : List Value} (h : Row w 1 (.slice (some ⟨g, off, none⟩) n cp) n xs) : Row w 1 (.slice (some ⟨g, off, none⟩) (n - 1) cp) (n - 1) xs.dropLast := by
  obtain ⟨hl, h⟩ := h
  refine ⟨by rw [List.length_dropLast, hl]; omega, ?_⟩
  rcases h with ⟨h0, _⟩ | ⟨g', off', cap', hv, hm, hc⟩
  · exact .inl ⟨by omega, _, _, by rw [h0]⟩
  · simp only [Value.slice.injEq, Option.some.injEq, Addr.mk.injEq] at hv
    obtain ⟨⟨rfl, rfl, _⟩, _, rfl⟩ := hv
    refine .inr ⟨g, off, cp, rfl, by omega, fun j u hj => hc j u ?_⟩
    rw [List.getElem?_dropLast] at hj
    split at hj
    · exact hj
    · cases hj
/-- One of a row of exchanges. -/
theorem xrow_f {w : World} {B : Nat} {L : List (Ex × Value)} {v : Value} {i : Nat} {p : Ex × Value} (h : XRow w B L v) (hp : L[i]? = some p) :
    ∃ g cap, v = .slice (some ⟨g, 0, none⟩) L.length cap ∧ g < w.heap.size ∧ L.length ≤ maxLen ∧ w.rangeAt g (i * 26) (p.1.arr p.2).toList := by
  have hi := (List.getElem?_eq_some_iff.1 hp).1
  obtain ⟨_, ⟨_, h0⟩ | ⟨g, cap, cur, hv, hb, hg, hn, hm, hs, hx⟩⟩ := h
  · omega
  refine ⟨g, cap, hv, (Array.getElem?_eq_some_iff.1 hg).1, by omega, fun j v hj => ?_⟩
  have hjl : j < 26 := (List.getElem?_eq_some_iff.1 hj).1
  have h2 := flat_get exC 26 exC_len L i p hp j (by omega)
  have h3 : (exC p)[j]? = some v := hj
  rw [h3, ← hx, List.getElem?_take_of_lt (by omega)] at h2
  rw [cell_of_row w g _ cur _ (0, 0) hg]
  simpa using h2
theorem any_more {L : List (Ex × Value)} {k : Nat} {z : Ex × Value} (f : Ex × Value → Bool) (h : L[k]? = some z) : (L.take (k + 1)).any f = ((L.take k).any f || f z) := by
  obtain ⟨h1, h2⟩ := List.getElem?_eq_some_iff.1 h
  rw [List.take_succ_eq_append_getElem h1, List.any_append, h2]
  simp
def sfA (c : Int) (r : Rg) (tv : Value) (bad lost : Bool) : Array Value := #[.int .u64 c, tv, .bool r.b, .bool r.l, .int .i64 r.m, .bool bad, .bool lost]
theorem info_rgA (r : Rg) (tv : Value) : (Tryz.prog.info? 36).map (·.size) = some (r.arr tv).size := by
  rw [show (r.arr tv).size = 4 from rfl]
  kernel_rfl

set_option maxRecDepth 100000 in
set_option maxHeartbeats 6400000 in
theorem lw_safe (c : Int) (r : Rg) (tv : Value) (bad lost : Bool) (w : World) (hc : U64 c) (hcap : ∀ a n cp, tv = .slice a n cp → n ≤ cp) (hT : Row w 1 tv r.t.length (r.t.map Value.string)) (htab : TabW w) :
    Calls Tryz.prog 7 #[.agg (sfA c r tv bad lost)] w fun e w' => e = .returned (.bool true) ∧ Ext w w' := by
  obtain ⟨ta, tc, rfl, htm, hvw⟩ := row_view hT
  have HVW := Lib.hid hvw
  have HCAP : Hid (r.t.length ≤ tc) := Lib.hid (hcap _ _ _ rfl)
  have HT := Lib.hid hT
  have HTAB := Lib.hid htab
  have HX := Lib.hid (rng_new hc)
  clear hT htab hvw hc hcap
  unfold maxLen at htm
  go_enter Tryz.func7, Tryz.ntmps7
  go_upto_region 1 with fail
  refine wp_forget (fun w' => ∃ gs, Hid (gs = w.heap.size) ∧ Hid (w'.heap[gs]? = some (.cells (sfA c r (.slice ta r.t.length tc) bad lost) 78 (0, 0))) ∧ Hid (Ext w w')) ⟨_, Lib.hid rfl, Lib.hid (one_new (Ext.refl _)).1, Lib.hid (one_new (Ext.refl _)).2⟩ ?_
  rintro W1 ⟨gs, hgs, HS1, HE1⟩
  rw [← hgs.out]
  clear hgs
  have hs1 := HS1.out
  have qs0 : W1.cell? ⟨gs, 0, none⟩ = some (.int .u64 c) := cell_of_row W1 gs 0 _ _ _ hs1
  have qs5 : W1.cell? ⟨gs, 5, none⟩ = some (.bool bad) := cell_of_row W1 gs 5 _ _ _ hs1
  have qs6 : W1.cell? ⟨gs, 6, none⟩ = some (.bool lost) := cell_of_row W1 gs 6 _ _ _ hs1
  have HRG : Hid (W1.rangeAt gs 1 (r.arr (.slice ta r.t.length tc)).toList) := Lib.hid (range_of_row hs1 1 4 _ rfl)
  have ls1 : gs < W1.heap.size := (Array.getElem?_eq_some_iff.1 hs1).1
  clear hs1
  refine wp_region_mixF (af := ?af) #[.slice none 0 0, .bool false, .bool false, .int .i64 0] 36 [true, true, true, true, true, true, true, true, false, false, false, false, false] [false, false, false, false, false, false, false, false, false, true, false, true, true] 133 0 (C := Ext W1) (by kernel_rfl) rfl (by kernel_rfl) (fun _ _ h e => Ext.trans h e) (Ext.refl _).drew ?q ?r
  case q =>
    intro w' hw'
    obtain ⟨y1, rfl⟩ := ext_of hw'
    simp only [pickT, if_true, if_false, Bool.false_eq_true]
    go_big_quiet_step (fail)
    go_big_quiet_step (fail)
    go_big_quiet_step (fail)
    (go_big_quiet_want; refine quiet_load_midA 36 _ rfl gs (1) rfl (r.arr (.slice ta r.t.length tc)) (.struct _) (fun j v hj => cell_keep (HRG.out j v hj) y1.ext) Tryz.underlying36 rfl (info_rgA r _) ?_; go_big_quiet_on; simp only [Act.put, List.setIfInBounds_toArray, List.set_cons_succ, List.set_cons_zero])
    go_big_quiet_step (fail)
    go_big_quiet_step (fail)
    go_big_quiet_step (fail)
    go_big_quiet_step (fail)
    refine wpQuiet_nil ?_
    exact rfl
  case r =>
    simp only [restL, if_true, if_false, Bool.false_eq_true]
    refine ⟨fun a w => by simp [go_sem], ?_⟩
    intro x2 gT hgT hzT
    refine ⟨.int .u64 c, .inl ⟨rfl, fun w _ => ⟨rfl, rfl⟩⟩, ?_⟩
    intro x3
    have e3 : Ext W1 x3.val := ((Ext.refl W1).drew.val x2).val x3
    go_wp2_with (refine wpList_store_row rfl 36 _ _ rfl gT _ rfl rfl 36 _ (heap_ext hzT x3.ext) (info_rgA r (.slice ta r.t.length tc)) rfl (by simp [Rg.arr, Value.oneCell']) ?_)
    refine ⟨e3.setRow hgT _, ?_⟩
    refine ⟨.bool bad, .inl ⟨rfl, fun w _ => ⟨rfl, rfl⟩⟩, ?_⟩
    refine ⟨.bool lost, .inl ⟨rfl, fun w _ => ⟨rfl, rfl⟩⟩, ?_⟩
    intro x4
    have HR2 : Hid (RgAt x4.val gT r (.slice ta r.t.length tc)) := Lib.hid (heap_ext (setRow_heap _ _ _ _ _ _ (heap_ext hzT x3.ext)) x4.ext)
    have HE2 : Hid (Ext W1 x4.val) := Lib.hid ((e3.setRow hgT _).val x4)
    have HGT := Lib.hid hgT
    clear e3 hzT hgT
    generalize x4.val = W2 at HR2 HE2 ⊢
    clear x4 x3 x2 qs0 qs5 qs6 HRG ls1 HS1
    have HEW2 : Hid (Ext w W2) := Lib.hid (HE1.out.trans HE2.out)
    go_upto_region 3 with (first | (go_at_call 26; refine (mo_new _ _).mono ?_; rintro e w2 ⟨rfl, hx2⟩; have HX2 := Lib.hid hx2; clear hx2) | (refine wpList_store_row rfl 33 _ _ rfl w2.heap.size _ rfl rfl 33 _ (heap_new rfl) info_ex rfl (arr_one (newX c) rfl) ?_))
    refine wp_forget (fun w' => ∃ gx, Hid (gx = w2.heap.size) ∧ Hid (ExAt w' gx (newX c) (.slice none 0 0)) ∧ Hid (Ext W2 w')) ⟨w2.heap.size, Lib.hid rfl, Lib.hid (setRow_heap _ _ _ _ _ _ (heap_new rfl)), Lib.hid ((HX2.out.alloc _).setRow HX2.out.size _)⟩ ?_
    rintro W3 ⟨gx, hgx, HN3, HE3⟩
    rw [← hgx.out]
    clear hgx HX2
    have HLG := Lib.hid (lw_large (newX c) rfl r (.slice ta r.t.length tc) W3 (HT.out.ext (HEW2.out.trans HE3.out)))
    go_wp2_with (first | ((with_reducible refine wpList_load_rowG ?_ 33 (.tmp 7) ?_ gx ?_ 33 ((newX c).arr (.slice none 0 0)) (0, 0) _ ?_ Tryz.underlying33 ?_ ?_ ?_); (· rfl); (· rfl); (· rfl); (· exact HN3.out); (· rfl); (· exact info_ex)) | ((with_reducible refine wpList_load_rowG ?_ 36 (.tmp 4) ?_ gT ?_ 36 (r.arr (.slice ta r.t.length tc)) (0, 0) _ ?_ Tryz.underlying36 ?_ ?_ ?_); (· rfl); (· rfl); (· rfl); (· exact (HR2.out.ext HE3.out)); (· rfl); (· exact info_range)))
    refine HLG.out.mono ?_
    rintro e w4 ⟨b, rfl, hb, hx4⟩
    have HE4 : Hid (Ext W3 w4) := Lib.hid hx4
    have HEW4 : Hid (Ext w w4) := Lib.hid ((HEW2.out.trans HE3.out).trans hx4)
    clear hx4 HLG
    rcases b
    case true =>
      clear hb
      go_wp2_with fail
      refine (lw_live _ (HTAB.out.ext HEW4.out)).mono ?_
      rintro e w5 ⟨rfl, hx5⟩
      go_wp2_with fail
      go_ret
      exact ⟨rfl, HEW4.out.trans hx5⟩
    obtain ⟨hrt, hrm⟩ := hb rfl
    clear hb
    have HCE := Lib.hid (ex_census (newX c) (.slice none 0 0) 0 r (.slice ta r.t.length tc) w4 (World.ownsRow_nil _ _ _ _) (Nat.zero_le 100) (HT.out.ext HEW4.out) (by omega) (by omega) HX.out (HTAB.out.ext HEW4.out))
    go_upto_region 6 with (first | ((with_reducible refine wpList_load_rowG ?_ 33 (.tmp 7) ?_ gx ?_ 33 ((newX c).arr (.slice none 0 0)) (0, 0) _ ?_ Tryz.underlying33 ?_ ?_ ?_); (· rfl); (· rfl); (· rfl); (· exact (heap_ext HN3.out HE4.out)); (· rfl); (· exact info_ex)) | ((with_reducible refine wpList_load_rowG ?_ 36 (.tmp 4) ?_ gT ?_ 36 (r.arr (.slice ta r.t.length tc)) (0, 0) _ ?_ Tryz.underlying36 ?_ ?_ ?_); (· rfl); (· rfl); (· rfl); (· exact (HR2.out.ext (HE3.out.trans HE4.out))); (· rfl); (· exact info_range)) | (go_at_call 17; refine HCE.out.mono ?_; rintro e w5 ⟨a, b00, b01, b10, b11, bk, hCn, rfl, hx5⟩; have HCn := Lib.hid hCn; have HX5 := Lib.hid hx5; clear hCn hx5) | (refine wpList_store_row rfl 58 _ _ rfl w5.heap.size _ rfl rfl 58 _ (heap_new rfl) info_cen rfl (by simp [cenA, Value.oneCell']) ?_))
    have hcs := cen_safe HCn.out
    generalize hall : allX (mostR r) (movesR evsS · r) (newX c) = A at hcs HCn HCE
    have HALL := Lib.hid hall
    have hlen : A.1.length ≤ 60 := by
      have h1 := all_le1 (mv := (movesR evsS · r)) (x := newX c) (show 1 ≤ mostR r by unfold mostR; omega)
      rw [hall] at h1
      have h2 : mostR r ≤ 60 := by unfold mostR; omega
      omega
    clear hall
    obtain ⟨hk0, hl1, hsum⟩ := hcs
    subst hk0
    refine wp_forget (fun w' => ∃ gc, Hid (gc = w5.heap.size) ∧ Hid (w'.heap[gc]? = some (.cells (cenA A.1.length A.2 a b00 b01 b10 b11 0) 58 (0, 0))) ∧ Hid (Ext W3 w')) ⟨w5.heap.size, Lib.hid rfl, Lib.hid (setRow_heap _ _ _ _ _ _ (heap_new rfl)), Lib.hid ((HE4.out.trans HX5.out).alloc _ |>.setRow (HE4.out.trans HX5.out).size _)⟩ ?_
    rintro W6 ⟨gc, hgc, HC6, HE6⟩
    rw [← hgc.out]
    clear hgc HX5 HCE HEW4 HE4
    have qc0 : W6.cell? ⟨gc, 0, none⟩ = some (.int .i64 (A.1.length : Int)) := cell_of_row W6 gc 0 _ _ _ HC6.out
    have qc3 : W6.cell? ⟨gc, 3, none⟩ = some (.int .i64 (b00 : Int)) := cell_of_row W6 gc 3 _ _ _ HC6.out
    have qc4 : W6.cell? ⟨gc, 4, none⟩ = some (.int .i64 (b01 : Int)) := cell_of_row W6 gc 4 _ _ _ HC6.out
    have qc5 : W6.cell? ⟨gc, 5, none⟩ = some (.int .i64 (b10 : Int)) := cell_of_row W6 gc 5 _ _ _ HC6.out
    have qc6 : W6.cell? ⟨gc, 6, none⟩ = some (.int .i64 (b11 : Int)) := cell_of_row W6 gc 6 _ _ _ HC6.out
    have qc7 : W6.cell? ⟨gc, 7, none⟩ = some (.int .i64 0) := cell_of_row W6 gc 7 _ _ _ HC6.out
    have lc6 : gc < W6.heap.size := (Array.getElem?_eq_some_iff.1 HC6.out).1
    have i1 : ¬ (A.1.length : Int) < 1 := by omega
    have i2 : ¬ (A.1.length : Int) < (b00 : Int) + (b01 : Int) + (b10 : Int) + (b11 : Int) := by omega
    go_upto_region 8 with fail
    go_upto_region 9 with (first | ((with_reducible refine wpList_load_rowG ?_ 36 (.tmp 4) ?_ gT ?_ 36 (r.arr (.slice ta r.t.length tc)) (0, 0) _ ?_ Tryz.underlying36 ?_ ?_ ?_); (· rfl); (· rfl); (· rfl); (· exact (HR2.out.ext (HE3.out.trans HE6.out))); (· rfl); (· exact info_range)) | (refine wpList_store_row rfl 36 _ _ rfl W6.heap.size _ rfl rfl 36 _ (heap_new rfl) (info_rgA r (.slice ta r.t.length tc)) rfl (by simp [Rg.arr, Value.oneCell']) ?_))
    rename_i K9 hK9
    have HB6 : Hid (W2.heap.size ≤ W6.heap.size) := Lib.hid (HE3.out.trans HE6.out).size
    refine wp_forget (fun w' => ∃ gL, Hid (gL = W6.heap.size) ∧ Hid (RgAt w' gL r (.slice ta r.t.length tc)) ∧ Hid (Ext W6 w') ∧ Hid (gT < W6.heap.size)) ⟨W6.heap.size, Lib.hid rfl, Lib.hid (setRow_heap _ _ _ _ _ _ (heap_new rfl)), Lib.hid (((Ext.refl _).alloc _).setRow (Nat.le_refl _) _), Lib.hid (Nat.lt_of_lt_of_le (Array.getElem?_eq_some_iff.1 HR2.out).1 HB6.out)⟩ ?_
    rintro W7 ⟨gL, hgL, HL7, HE7, HTL⟩
    rw [← hgL.out]
    have HGL : Hid (W6.heap.size ≤ gL ∧ gT < gL) := Lib.hid (by have h1 := hgL.out; have h2 := HTL.out; omega)
    clear hgL HTL HB6 qc0 qc3 qc4 qc5 qc6 qc7 lc6 i1 i2 HC6
    have HRT7 := Lib.hid (HR2.out.ext ((HE3.out.trans HE6.out).trans HE7.out))
    have hrt7 := HRT7.out
    have hl7 := HL7.out
    unfold RgAt Rg.arr at hrt7 hl7
    have qT1 : W7.cell? ⟨gT, 1, none⟩ = some (.bool r.b) := cell_of_row W7 gT 1 _ _ _ hrt7
    have lT : gT < W7.heap.size := (Array.getElem?_eq_some_iff.1 hrt7).1
    have qL1 : W7.cell? ⟨gL, 1, none⟩ = some (.bool r.b) := cell_of_row W7 gL 1 _ _ _ hl7
    have fL1 := frozen_of_row W7 gL 1 _ _ hl7
    have lL : gL < W7.heap.size := (Array.getElem?_eq_some_iff.1 hl7).1
    clear hrt7 hl7
    simp only [Act.put]
    go_cut [] from 66 (fun wc => wc = W7.setCell ⟨gL, 1, none⟩ (.bool (r.b && bad)))
    case first =>
      rcases hb : r.b
      case false =>
        rw [hb] at qT1
        go_wp2_with fail
        go_meet
        rw [hb]; rfl
      case true =>
        rw [hb] at qT1
        go_wp2_with fail
        go_meet
        rw [hb]; rfl
    case rest =>
    subst hcut
    refine hK9 _ _ ?_
    refine wp_forget (fun w' => Hid (w'.heap[gL]? = some (.cells #[.slice ta r.t.length tc, .bool (r.b && bad), .bool r.l, .int .i64 r.m] 36 (0, 0)) ∧ Ext W6 w')) (Lib.hid ⟨by have := heap_setCell_same _ _ 1 _ _ (Value.bool (r.b && bad)) HL7.out; exact this, HE7.out.setCell HGL.out.1 _⟩) ?_
    intro W8 HL8
    clear qT1 qL1 fL1 lT lL HL7 HRT7 HE7
    have HRT8 := Lib.hid (HR2.out.ext ((HE3.out.trans HE6.out).trans HL8.out.2))
    have hrt8 := HRT8.out
    have hl8 := HL8.out.1
    unfold RgAt Rg.arr at hrt8
    have qT2 : W8.cell? ⟨gT, 2, none⟩ = some (.bool r.l) := cell_of_row W8 gT 2 _ _ _ hrt8
    have lT : gT < W8.heap.size := (Array.getElem?_eq_some_iff.1 hrt8).1
    have qL2 : W8.cell? ⟨gL, 2, none⟩ = some (.bool r.l) := cell_of_row W8 gL 2 _ _ _ hl8
    have fL2 := frozen_of_row W8 gL 2 _ _ hl8
    have lL : gL < W8.heap.size := (Array.getElem?_eq_some_iff.1 hl8).1
    clear hrt8 hl8
    refine wp_seq_k ?_
    intro K10 hK10
    go_cut [] from 66 (fun wc => wc = W8.setCell ⟨gL, 2, none⟩ (.bool (r.l && lost)))
    case first =>
      rcases hb : r.l
      case false =>
        rw [hb] at qT2
        go_wp2_with fail
        go_meet
        rw [hb]; rfl
      case true =>
        rw [hb] at qT2
        go_wp2_with fail
        go_meet
        rw [hb]; rfl
    case rest =>
    subst hcut
    refine hK10 _ _ ?_
    refine wp_forget (fun w' => Hid (w'.heap[gL]? = some (.cells #[.slice ta r.t.length tc, .bool (r.b && bad), .bool (r.l && lost), .int .i64 r.m] 36 (0, 0)) ∧ Ext W6 w')) (Lib.hid ⟨by have := heap_setCell_same _ _ 2 _ _ (Value.bool (r.l && lost)) HL8.out.1; exact this, HL8.out.2.setCell HGL.out.1 _⟩) ?_
    intro W9 HL9
    clear qT2 qL2 fL2 lT lL HL8 HRT8
    have HRT9 := Lib.hid (HR2.out.ext ((HE3.out.trans HE6.out).trans HL9.out.2))
    have hrt9 := HRT9.out
    have hl9 := HL9.out.1
    unfold RgAt Rg.arr at hrt9
    have qT0 : W9.cell? ⟨gT, 0, none⟩ = some (.slice ta r.t.length tc) := cell_of_row W9 gT 0 _ _ _ hrt9
    have lT : gT < W9.heap.size := (Array.getElem?_eq_some_iff.1 hrt9).1
    have qL0 : W9.cell? ⟨gL, 0, none⟩ = some (.slice ta r.t.length tc) := cell_of_row W9 gL 0 _ _ _ hl9
    have fL0 := frozen_of_row W9 gL 0 _ _ hl9
    have lL : gL < W9.heap.size := (Array.getElem?_eq_some_iff.1 hl9).1
    clear hrt9 hl9
    refine wp_seq_k ?_
    intro K11 hK11
    go_cut [] from 66 (fun wc => ∃ tv', Hid (Row w 1 tv' r.t.dropLast.length (r.t.dropLast.map Value.string) ∧ wc.heap[gL]? = some (.cells #[tv', .bool (r.b && bad), .bool (r.l && lost), .int .i64 r.m] 36 (0, 0)) ∧ Ext W6 wc))
    case first =>
      by_cases hz : r.t.length = 0
      case pos =>
        have hz' : ¬ (0 : Int) < (r.t.length : Int) := by omega
        have HZ := Lib.hid (List.length_eq_zero_iff.1 hz)
        clear hz
        go_wp2_with fail
        go_meet
        exact ⟨_, Lib.hid ⟨by rw [HZ.out]; exact ⟨rfl, .inl ⟨rfl, _, _, rfl⟩⟩, HL9.out⟩⟩
      case neg =>
        have hz' : (0 : Int) < (r.t.length : Int) := by omega
        have hcap := HCAP.out
        obtain ⟨g, off, rfl, hgl, hcell⟩ := HVW.out (by omega)
        clear hgl hcell
        have HZ := Lib.hid hz
        clear hz
        go_wp2_with fail
        go_meet
        refine ⟨.slice (some ⟨g, off, none⟩) (r.t.length - 1) tc, Lib.hid ⟨?_, ?_, HL9.out.2.setCell HGL.out.1 _⟩⟩
        · rw [List.length_dropLast, List.map_dropLast]
          exact row_init HT.out
        · have := heap_setCell_same _ _ 0 _ _ (Value.slice (some ⟨g, off, none⟩) (r.t.length - 1) tc) HL9.out.1
          exact this
    case rest =>
    obtain ⟨tv', HL10⟩ := hcut
    refine hK11 _ _ ?_
    rename World => W10
    clear qT0 qL0 fL0 lT lL HL9 HRT9
    have HE10 : Hid (Ext W3 W10) := Lib.hid (HE6.out.trans HL10.out.2.2)
    have HEW10 : Hid (Ext w W10) := Lib.hid ((HEW2.out.trans HE3.out).trans HE10.out)
    have HA1 := Lib.hid (ex_all (newX c) (.slice none 0 0) 0 r (.slice ta r.t.length tc) W10 (World.ownsRow_nil _ _ _ _) (Nat.zero_le 100) (HT.out.ext HEW10.out) (by omega) (by omega) HX.out (HTAB.out.ext HEW10.out))
    go_upto_region 14 with (first | ((with_reducible refine wpList_load_rowG ?_ 33 (.tmp 7) ?_ gx ?_ 33 ((newX c).arr (.slice none 0 0)) (0, 0) _ ?_ Tryz.underlying33 ?_ ?_ ?_); (· rfl); (· rfl); (· rfl); (· exact (heap_ext HN3.out HE10.out)); (· rfl); (· exact info_ex)) | ((with_reducible refine wpList_load_rowG ?_ 36 (.tmp 4) ?_ gT ?_ 36 (r.arr (.slice ta r.t.length tc)) (0, 0) _ ?_ Tryz.underlying36 ?_ ?_ ?_); (· rfl); (· rfl); (· rfl); (· exact (HR2.out.ext (HE3.out.trans HE10.out))); (· rfl); (· exact info_range)) | (go_at_call 11; refine HA1.out.mono ?_; rintro e w11 ⟨L1, lv1, hL1, rfl, hr1, hok1, hx11⟩; rw [HALL.out] at hL1 ⊢; obtain ⟨a1, c1, rfl⟩ := own_sl hr1; have HL1 := Lib.hid hL1; have HR1 := Lib.hid hr1; have HOK1 := Lib.hid hok1; have HX11 := Lib.hid hx11; clear hL1 hr1 hok1 hx11))
    have HEW11 : Hid (Ext w w11) := Lib.hid (HEW10.out.trans HX11.out)
    have HA2 := Lib.hid (ex_all (newX c) (.slice none 0 0) 0 (lessR r bad lost) tv' w11 (World.ownsRow_nil _ _ _ _) (Nat.zero_le 100) (HL10.out.1.ext HEW11.out) (by simp only [lessR, List.length_dropLast]; omega) (by simp only [lessR]; omega) HX.out (HTAB.out.ext HEW11.out))
    go_upto_region 15 with (first | ((with_reducible refine wpList_load_rowG ?_ 33 (.tmp 7) ?_ gx ?_ 33 ((newX c).arr (.slice none 0 0)) (0, 0) _ ?_ Tryz.underlying33 ?_ ?_ ?_); (· rfl); (· rfl); (· rfl); (· exact (heap_ext HN3.out (HE10.out.trans HX11.out))); (· rfl); (· exact info_ex)) | ((with_reducible refine wpList_load_rowG ?_ 36 (.tmp 9) ?_ gL ?_ 36 ((lessR r bad lost).arr tv') (0, 0) _ ?_ Tryz.underlying36 ?_ ?_ ?_); (· rfl); (· rfl); (· rfl); (· exact (heap_ext HL10.out.2.1 HX11.out)); (· rfl); (· exact (info_rgA (lessR r bad lost) tv'))) | (go_at_call 11; refine HA2.out.mono ?_; rintro e w12 ⟨L2, lv2, hL2, rfl, hr2, hok2, hx12⟩; obtain ⟨a2, c2, rfl⟩ := own_sl hr2; have HL2 := Lib.hid hL2; have HR2' := Lib.hid hr2; have HOK2 := Lib.hid hok2; have HX12 := Lib.hid hx12; clear hL2 hr2 hok2 hx12))
    have HEW12 : Hid (Ext w w12) := Lib.hid (HEW11.out.trans HX12.out)
    have hl60 : L1.length ≤ 60 := by
      rw [← List.length_map (f := (·.1)), HL1.out]
      exact hlen
    have hl2 : L2.length ≤ 60 := by
      have h1 := all_le1 (mv := (movesR evsS · (lessR r bad lost))) (x := newX c) (show 1 ≤ mostR (lessR r bad lost) by unfold mostR; omega)
      rw [← HL2.out, List.length_map] at h1
      have h2 : mostR (lessR r bad lost) ≤ 60 := by unfold mostR lessR; simp only; omega
      omega
    rcases hd : A.2
    case false =>
      go_wp2_with fail
      refine (lw_live _ (HTAB.out.ext HEW12.out)).mono ?_
      rintro e w13 ⟨rfl, hx13⟩
      go_wp2_with fail
      go_ret
      exact ⟨rfl, HEW12.out.trans hx13⟩
    have HIN : Hid (∀ p ∈ L2, (L1.any fun z => sameD p.1 z.1) = true) := Lib.hid fun p hp => by
      have h1 : p.1 ∈ (allX (mostR (lessR r bad lost)) (movesR evsS · (lessR r bad lost)) (newX c)).1 := by
        rw [← HL2.out]
        exact List.mem_map_of_mem hp
      obtain ⟨z, hz, hs⟩ := less_in (by rw [HALL.out]; exact hd) p.1 h1
      rw [HALL.out, ← HL1.out] at hz
      obtain ⟨y, hy, rfl⟩ := List.mem_map.1 hz
      exact List.any_eq_true.2 ⟨y, hy, hs⟩
    have HR1'' := Lib.hid (HR1.out.ext HX12.out)
    have HOW1 : Hid (∀ p ∈ L1, ∃ B, Own w12 B p.1.h p.2) := Lib.hid fun p hp => (HOK1.out p hp).1.imp fun _ o => own_ext o HX12.out
    have HOW2 : Hid (∀ p ∈ L2, ∃ B, Own w12 B p.1.h p.2) := Lib.hid fun p hp => (HOK2.out p hp).1
    clear hd HOK1 HOK2 HR1 HX12 HX11 HL1 HL2 HEW11 HEW10 HE10 HA1 HA2
    go_wp2_with fail
    go_loopg [14] L2.length (fun g t14 wr => ∃ i : Nat, t14 = .int .i64 (i : Int) ∧ i + g = L2.length ∧ Hid (Ext w12 wr))
    case atStart => exact ⟨0, rfl, by omega, Lib.hid (Ext.refl _)⟩
    case round =>
      obtain ⟨i, rfl, hg, HER⟩ := hrel
      rename World => Wr
      by_cases hlt : i < L2.length
      case neg =>
        have i1 : ¬ (i : Int) < (L2.length : Int) := by omega
        go_wp2_with fail
        refine (lw_live _ (HTAB.out.ext (HEW12.out.trans HER.out))).mono ?_
        rintro e w13 ⟨rfl, hx13⟩
        go_wp2_with fail
        go_ret
        exact ⟨rfl, (HEW12.out.trans HER.out).trans hx13⟩
      have i1 : (i : Int) < (L2.length : Int) := by omega
      obtain ⟨p, hp⟩ : ∃ p, L2[i]? = some p := ⟨_, List.getElem?_eq_getElem hlt⟩
      obtain ⟨gp, cp, hv2, hgp, hmx2, hrg2⟩ := xrow_f HR2'.out hp
      cases hv2
      unfold maxLen at hmx2
      have HRG2 := Lib.hid hrg2
      have HPP := Lib.hid (List.mem_of_getElem? hp)
      clear hrg2 hp
      go_wp2_with fail
      go_loopg [15, 16] L1.length (fun g t15 t16 wr => ∃ k : Nat, t15 = .bool ((L1.take k).any fun z => sameD p.1 z.1) ∧ t16 = .int .i64 (k : Int) ∧ k + g = L1.length ∧ Hid (Ext w12 wr))
      case atStart => exact ⟨0, rfl, rfl, by omega, HER⟩
      case round =>
        clear HER
        obtain ⟨k, rfl, rfl, hg2, HER⟩ := hrel
        rename World => Wr
        by_cases hlk : k < L1.length
        case neg =>
          have i2 : ¬ (k : Int) < (L1.length : Int) := by omega
          have ha : ((L1.take k).any fun z => sameD p.1 z.1) = true := by
            rw [List.take_of_length_le (by omega)]
            exact HIN.out p HPP.out
          rw [ha]
          go_wp2_with fail
          go_roundg (L2.length - (i + 1))
          case rel => exact ⟨i + 1, by simp, by omega, HER⟩
          case measure => omega
        have i2 : (k : Int) < (L1.length : Int) := by omega
        obtain ⟨z, hz⟩ : ∃ z, L1[k]? = some z := ⟨_, List.getElem?_eq_getElem hlk⟩
        have hmore := any_more (fun z => sameD p.1 z.1) hz
        generalize hb : ((L1.take k).any fun z => sameD p.1 z.1) = b at hmore
        have HMORE := Lib.hid hmore
        clear hmore
        rcases b
        case true =>
          have HB := Lib.hid hb
          clear hb hz
          go_upto_region 24 with fail
          refine wp_region_ext (by kernel_rfl) (by kernel_rfl) ?_
          repeat (go_big_quiet_step (fail))
          refine wpQuiet_nil ?_
          rintro _ ⟨x24, rfl⟩
          go_wp2_with fail
          go_roundg (gk - 1)
          case rel => exact ⟨k + 1, by rw [HMORE.out]; rfl, by simp, by omega, Lib.hid (HER.out.val x24)⟩
          case measure => omega
        case false =>
          have HB := Lib.hid hb
          obtain ⟨gw, cw, hv1, hgw, hmx1, hrg1⟩ := xrow_f HR1''.out hz
          cases hv1
          unfold maxLen at hmx1
          have HRG1 := Lib.hid hrg1
          obtain ⟨Bp, hop⟩ := HOW2.out p HPP.out
          obtain ⟨Bz, hoz⟩ := HOW1.out z (List.mem_of_getElem? hz)
          have HS := Lib.hid (fun x : ExtOf Wr => doc_same p.1 z.1 p.2 z.2 x.val (Row.of_own (own_ext hop (HER.out.trans x.ext))) (Row.of_own (own_ext hoz (HER.out.trans x.ext))))
          clear hb hrg1 hop hoz hz
          go_upto_region 24 with fail
          refine wp_region_ext (by kernel_rfl) (by kernel_rfl) ?_
          go_big_quiet_step (fail)
          go_big_quiet_step (fail)
          go_big_quiet_step (fail)
          go_big_quiet_step (fail)
          go_big_quiet_step (fail)
          (go_big_quiet_want; refine quiet_load_midA 33 _ rfl gp (i * 26) rfl (p.1.arr p.2) (.struct _) (fun j v hj => cell_keep (HRG2.out j v hj) HER.out) Tryz.underlying33 rfl info_ex ?_; go_big_quiet_on; simp only [Act.put, List.setIfInBounds_toArray, List.set_cons_succ, List.set_cons_zero])
          go_big_quiet_step (fail)
          go_big_quiet_step (fail)
          go_big_quiet_step (fail)
          (go_big_quiet_want; refine quiet_load_midA 33 _ rfl gw (k * 26) rfl (z.1.arr z.2) (.struct _) (fun j v hj => cell_keep (HRG1.out j v hj) HER.out) Tryz.underlying33 rfl info_ex ?_; go_big_quiet_on; simp only [Act.put, List.setIfInBounds_toArray, List.set_cons_succ, List.set_cons_zero])
          repeat (go_big_quiet_step ((go_at_call 16; exact calls_ext (HS.out _))))
          refine wpQuiet_nil ?_
          rintro _ ⟨x24, rfl⟩
          go_wp2_with fail
          go_roundg (gk - 1)
          case rel => exact ⟨k + 1, by rw [HMORE.out]; rfl, by simp, by omega, Lib.hid (HER.out.val x24)⟩
          case measure => omega
end Go.Proofs.YtlnmhocehgmbbaaGreatDoor

/-
  The arguments opened: a range, a safe contract; the row's last step, for a call that only extends the world. No condition.
-/
namespace Go.Proofs.YtlnmhocehgmbbaaGreatDoor
open Go.ChangeShapes Go.WideShapes Go.ChangeAt Go.RowKit Go.Deep

theorem prog_own : ownKnob Tryz.prog.godebug = none := by kernel_rfl
theorem prog_laid : laidOutB Tryz.prog = true := by kernel_rfl

section
variable {H : Type} {enc : TypeId × Value → H} {P : Program}
/-- Behind a call that extends the world and hands back what the specification says, each argument reads as it did. -/
theorem post_ext {f : Func} {s : ChangeSpec} {apart fresh handsOn again : Bool} {W W' : World} {args : Array Value} {v : Value} {ds gs : List (DataW H)} {before pa pv : List MemPlace}
    (hW : DataW.Whole enc P f.params.toList s.vars apart W args.toList ds gs before)
    (hres : ∀ (b : Nat) (sp : Nat → Bool) (hd : Bool), DataW.TrodAll enc P W' b sp hd f.resultTypes.toList (v.resultList f.resultTypes.size) (s.fn H (ds ++ gs)).results [])
    (hargs : ∀ sp : Nat → Bool, (∀ p ∈ before, sp p.block = true) → DataW.TrodAll enc P W' 0 sp true f.params.toList args.toList (s.fn H (ds ++ gs)).args pa)
    (hvars : ∀ sp : Nat → Bool, (∀ p ∈ before, sp p.block = true) → DataW.TrodVars enc P W' sp s.vars (s.fn H (ds ++ gs)).vars pv)
    (hps : before = pa ++ pv) (hb : Ext W W')
    (hok : ∀ (j : Nat) (t : TypeId) (r : Value), f.resultTypes[j]? = some t → (v.resultList f.resultTypes.size)[j]? = some r → Value.okWide P W' .any 0 t r) :
    s.post enc P f apart fresh handsOn again W args v W' := by
  have hlt : ∀ p ∈ before, p.block < W.heap.size := fun p hp => hW.lt p hp
  have hold : ∀ p ∈ before, (fun b => decide (b < W.heap.size)) p.block = true := fun p hp => by simpa using hlt p hp
  refine ⟨ds, gs, before, [], pa, pv, hW, hres _ _ _, hargs _ hold, hvars _ hold, World.keptBut_mono (fun p hp => ⟨hp, ?_⟩) (Below.frame hb (· ∈ before)), fun _ => ?_⟩
  · rw [hps, List.mem_append] at hp
    exact Or.inr hp
  · obtain ⟨_, _, _, _, _, hz, hn⟩ := hW
    refine ⟨hok, _, _, ([] ++ pa) ++ pv, ⟨[] ++ pa, pv, trodAll_append (hargs _ (fun _ _ => rfl)) (hres _ _ _), hvars _ (fun _ _ => rfl), rfl, ?_, ?_⟩, ?_⟩
    · intro b off hp
      have hin : MemPlace.cell b off ∈ before := by rw [hps]; simpa using hp
      rw [Below.frozen hb (hlt _ hin)]
      exact hz b off hin
    · intro ha
      have := hn ha
      rw [hps] at this
      simpa using this
    · intro p hp _
      rw [hps]
      simpa using hp

theorem trod_ext {t : TypeId} (hl : laidOutB P = true) (hr : P.readableRec t = true) (hrow : t < P.types.size) {W W' : World} {sp : Nat → Bool} {v : Value} {d : DataW H} {ps : List MemPlace}
    (h : DataW.Trod enc P W 0 (fun _ => true) true t v d ps) (hb : Ext W W') (hlt : ∀ x ∈ ps, x.block < W.heap.size) (hs : ∀ p ∈ ps, sp p.block = true) : DataW.Trod enc P W' 0 sp true t v d ps :=
  WideElems.Trod_stays hl hr hrow h (fun x hx => Below.same hb (hlt x hx)) hs

end

theorem cells_int : Tryz.prog.cellsOf 3 = 1 := by kernel_rfl
theorem cells_u64 : Tryz.prog.cellsOf 22 = 1 := by kernel_rfl
theorem cells_str : Tryz.prog.cellsOf 9 = 1 := by kernel_rfl
theorem cells_bool : Tryz.prog.cellsOf 4 = 1 := by kernel_rfl
theorem cells_strs : Tryz.prog.cellsOf 34 = 1 := by kernel_rfl
theorem cells_range : Tryz.prog.cellsOf 36 = 4 := by kernel_rfl
theorem cells_safe : Tryz.prog.cellsOf 78 = 7 := by kernel_rfl

section
variable {H : Type} {enc : TypeId × Value → H} {w : World} {base : Nat} {spare : Nat → Bool} {held : Bool}

theorem map_at {T : List ByteArray} {j : Nat} {u : Value} (h : (T.map Value.string)[j]? = some u) : ∃ t, T[j]? = some t ∧ u = .string t := by
  rw [List.getElem?_map] at h
  cases ht : T[j]? with
  | none => rw [ht] at h; cases h
  | some t => rw [ht] at h; cases h; exact ⟨t, rfl, rfl⟩
theorem open_texts {fuel : Nat} {cs : List Value} {x : DataW H × List MemPlace} (h : DataW.trod enc Tryz.prog w base spare held fuel 34 cs = some x) :
    ∃ (v : Value) (T : List ByteArray), cs = [v] ∧ Row w 1 v T.length (T.map Value.string) ∧ ∀ a n cp, v = .slice a n cp → n ≤ cp := by
  rcases open_slice Tryz.underlying34 h with ⟨h1, h2⟩ | ⟨a, len, cap, m, n, D, Pl, h1, _, h3, h4, hm, h5, h6⟩
  · exact ⟨_, [], h1, ⟨rfl, .inl ⟨rfl, none, 0, rfl⟩⟩, fun a n cp e => by cases e; exact Nat.le_refl _⟩
  · have hlm : len ≤ m := by rw [hm]; split <;> omega
    have key : ∀ i, i < len → ∃ t : ByteArray, w.cell? ((a.add (i * 1)).add 0) = some (.string t) := fun i hi => by
      obtain ⟨cs', hc, ht⟩ := h6 i (by omega)
      rw [cells_str] at hc
      obtain ⟨t, e2, _, _⟩ := DataW.trod_string Tryz.underlying9 ht
      subst e2
      obtain ⟨_, hlen, hcell⟩ := World.cells?_some hc
      exact ⟨t, hcell 0 (by decide)⟩
    have hE : ∃ E : Nat → ByteArray, ∀ i, i < len → w.cell? ((a.add (i * 1)).add 0) = some (.string (E i)) :=
      ⟨fun i => if hi : i < len then (key i hi).choose else { data := #[] }, fun i hi => by simp only [hi, dif_pos]; exact (key i hi).choose_spec⟩
    obtain ⟨E, hE⟩ := hE
    refine ⟨_, (List.range len).map E, h1, ?_, fun a n cp e => by cases e; exact h3⟩
    have hln : ((List.range len).map E).length = len := by simp
    rw [hln]
    refine ⟨by rw [List.length_map, hln, Nat.mul_one], ?_⟩
    by_cases h0 : len = 0
    · exact .inl ⟨h0, _, _, by rw [h0]⟩
    · obtain ⟨b, off, spot⟩ := a
      have hs : spot = none := by
        have := hE 0 (by omega)
        simpa [Addr.add] using World.cell?_spot this
      subst hs
      refine .inr ⟨b, off, cap, rfl, by omega, fun j u hj => ?_⟩
      obtain ⟨t, he, rfl⟩ := map_at hj
      have hk : j < len := by have := (List.getElem?_eq_some_iff.1 he).1; simpa using this
      rw [List.getElem?_map, List.getElem?_range hk] at he
      simp only [Option.map_some, Option.some.injEq] at he
      subst he
      have := hE j hk
      rw [Go.WideShapes.add_plain, Go.WideShapes.add_plain, Nat.mul_one, Nat.add_zero] at this
      exact this

set_option maxRecDepth 100000 in
theorem open_range {fuel : Nat} {cs : List Value} {x : DataW H × List MemPlace} (h : DataW.trod enc Tryz.prog w base spare held fuel 36 cs = some x) :
    ∃ (r : Rg) (tv : Value), cs = [tv, .bool r.b, .bool r.l, .int .i64 r.m] ∧ Row w 1 tv r.t.length (r.t.map Value.string) ∧ ∀ a n cp, tv = .slice a n cp → n ≤ cp := by
  obtain ⟨xs, n, _, hx, hl, hlen, hf⟩ := DataW.trod_struct Tryz.underlying36 h
  have hl4 : cs.length = 4 := hl.trans cells_range
  match cs, hl4, xs, hlen with
  | [c0, c1, c2, c3], _, [y0, y1, y2, y3], _ =>
    have g0 := hf 0 _ rfl
    have g1 := hf 1 _ rfl
    have g2 := hf 2 _ rfl
    have g3 := hf 3 _ rfl
    simp [cells_int, cells_bool, cells_strs] at g0 g1 g2 g3
    obtain ⟨tv, T, e0, hR, hc⟩ := open_texts g0
    obtain ⟨b, e1, _⟩ := DataW.trod_bool Tryz.underlying4 g1
    obtain ⟨l, e2, _⟩ := DataW.trod_bool Tryz.underlying4 g2
    obtain ⟨m, e3, _, _⟩ := DataW.trod_int Tryz.underlying3 g3
    simp only [List.cons.injEq, and_true] at e0 e1 e2 e3
    subst e0 e1 e2 e3
    exact ⟨⟨T, b, l, m⟩, c0, rfl, hR, hc⟩

theorem u64_wf {n : Int} (h : (Lit.int .u64 n).wf = true) : U64 n := by
  simp [Lit.wf] at h
  have h1 : IntKind.u64.min = 0 := rfl
  have h2 : IntKind.u64.max = 18446744073709551615 := rfl
  rw [h1, h2] at h
  exact ⟨h.1, by omega⟩

set_option maxRecDepth 100000 in
theorem open_safe {fuel : Nat} {cs : List Value} {x : DataW H × List MemPlace} (h : DataW.trod enc Tryz.prog w base spare held fuel 78 cs = some x) :
    ∃ (c : Int) (r : Rg) (tv : Value) (bad lost : Bool), cs = [.int .u64 c, tv, .bool r.b, .bool r.l, .int .i64 r.m, .bool bad, .bool lost] ∧ U64 c ∧ Row w 1 tv r.t.length (r.t.map Value.string) ∧ ∀ a n cp, tv = .slice a n cp → n ≤ cp := by
  obtain ⟨xs, n, _, hx, hl, hlen, hf⟩ := DataW.trod_struct Tryz.underlying78 h
  have hl7 : cs.length = 7 := hl.trans cells_safe
  match cs, hl7, xs, hlen with
  | [c0, c1, c2, c3, c4, c5, c6], _, [y0, y1, y2, y3], _ =>
    have g0 := hf 0 _ rfl
    have g1 := hf 1 _ rfl
    have g2 := hf 2 _ rfl
    have g3 := hf 3 _ rfl
    simp [cells_u64, cells_bool, cells_range] at g0 g1 g2 g3
    obtain ⟨c, e0, _, hw⟩ := DataW.trod_int Tryz.underlying22 g0
    obtain ⟨r, tv, e1, hR, hc⟩ := open_range g1
    obtain ⟨b, e2, _⟩ := DataW.trod_bool Tryz.underlying4 g2
    obtain ⟨l, e3, _⟩ := DataW.trod_bool Tryz.underlying4 g3
    simp only [List.cons.injEq, and_true] at e0 e1 e2 e3
    obtain ⟨e4, e5, e6, e7⟩ := e1
    subst e0 e2 e3 e4 e5 e6 e7
    exact ⟨c, r, c1, b, l, rfl, u64_wf hw, hR, hc⟩
end
end Go.Proofs.YtlnmhocehgmbbaaGreatDoor
