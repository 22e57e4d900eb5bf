/-
  Walk: the law ModelSafe. No condition.
-/
import Derived.Test.YtodnfbfhdloogaaMS27
import Derived.Deep.CutRange
import Derived.ProofKit
import Derived.Deep.Slices
import Derived.Lib.SmallJoins
set_option linter.all false
namespace Go.Proofs.Ytodnfbfhdloogaa
open Go.RowKit
attribute [local go_sem ↓] eql_lEq eql_sEq eql_eEq eql_oEq neq_lEq neq_sEq neq_eEq neq_oEq eql_vEq neq_vEq eql_nil
attribute [local go_sem] ExtOf.cell ExtOf.frozen ExtOf.lt ExtOf.le
attribute [local go_sem high] ExtOf.cell2 ExtOf.frozen2 ExtOf.lt2 ExtOf.cell3 ExtOf.frozen3 ExtOf.lt3

theorem hearS_len (h : List Lt) (b : Bool) (l : Lt) : (hearS h b l).length ≤ h.length + 1 := by
  unfold hearS
  split
  · omega
  · simp
theorem hearsS_len {h : List Lt} {b : Bool} {ls : List Lt} (hl : ls.length ≤ 1) : (hearsS h b ls).length ≤ h.length + 1 := by
  rcases ls with _ | ⟨l, _ | ⟨l2, r⟩⟩
  · simp [hearsS]
  · exact hearS_len h b l
  · simp at hl
theorem step_len (x : Ex) (m : Mv) : (stepX x m).1.h.length ≤ x.h.length + 1 := by
  unfold stepX
  split
  · split
    · show (askX x m).h.length ≤ _
      unfold askX
      split
      · exact hearS_len _ _ _
      · omega
    · exact Nat.le_succ _
  · split
    · exact Nat.le_succ _
    · split
      · split
        · show (if m.who = 0 then { x with b0 := true } else { x with b1 := true }).h.length ≤ _
          split <;> exact Nat.le_succ _
        · split
          · split
            · exact Nat.le_succ _
            · show (partyX x m).h.length ≤ _
              unfold partyX
              split
              · refine hearsS_len ?_
                rw [List.length_map]
                have := edge_o x.s0 (evX x m)
                generalize stepS x.s0 (evX x m) = r at this ⊢
                cases this <;> simp
              · refine hearsS_len ?_
                rw [List.length_map]
                have := edge_a x.s1 (evX x m)
                generalize stepA x.s1 (evX x m) = r at this ⊢
                cases this <;> simp
          · exact Nat.le_succ _
      · exact Nat.le_succ _

/-- Is it a letter of this party's, that tells its text? -/
def mineB (who : Int) (l : Lt) : Bool := (l.k == 1 || (l.k == 2 || l.k == 4)) && l.f == who
theorem mineB_true {who : Int} {l : Lt} (h : mineB who l = true) : (l.k = 1 ∨ l.k = 2 ∨ l.k = 4) ∧ l.f = who := by
  simpa [mineB] using h

/-- A row of letters of the call's own, as it is read. -/
theorem own_rd {w : World} {B : Nat} {h : List Lt} {v : Value} (o : Own w B h v) : ∃ a cap, v = .slice a h.length cap ∧ h.length ≤ maxLen ∧ (0 < h.length → ∃ g, a = some ⟨g, 0, none⟩ ∧ g < w.heap.size ∧ ∀ j u, (h.flatMap Lt.cs)[j]? = some u → w.cell? ⟨g, 0 + j, none⟩ = some u) := by
  obtain ⟨a, cap, hv, hm, hvw⟩ := own_view o
  refine ⟨a, cap, hv, hm, fun h => ?_⟩
  obtain ⟨g, ha, _, hg, hc⟩ := hvw h
  exact ⟨g, ha, hg, fun j u hj => by rw [Nat.zero_add]; exact hc j u hj⟩

set_option maxRecDepth 100000 in
set_option maxHeartbeats 12800000 in
theorem safe_any (c : Int) (v : Value) (L : List Mv) (w : World) (hR : Row w 9 v L.length (L.flatMap Mv.cs)) : Calls Try.prog 3 #[.int .u64 c, v] w fun e w' => e = .returned (.bool true) ∧ Ext w w' := by
  obtain ⟨a, cap, rfl, hm, hvw⟩ := row_view hR
  have HV := Lib.hid hvw
  have HR := Lib.hid hR
  clear hvw hR
  unfold maxLen at hm
  go_enter Try.func3, Try.ntmps3
  go_wp2_with fail
  refine (mv_long _ L _ HR.out).mono ?_
  rintro e w1 ⟨b, rfl, hb, hx1⟩
  rcases b
  case true =>
    have HX1 := Lib.hid hx1
    clear hx1 hb
    go_wp2_with fail
    refine (live_any _).mono ?_
    rintro e w9 ⟨rfl, hx9⟩
    go_wp2_with fail
    go_ret
    exact ⟨rfl, HX1.out.trans hx9⟩
  have hL60 := hb rfl
  clear hb
  have HX1 := Lib.hid hx1
  clear hx1
  go_wp2_with fail
  refine (mo_new _ _).mono ?_
  rintro e w2 ⟨rfl, hx2⟩
  obtain ⟨y2, rfl⟩ := ext_of hx2
  clear hx2
  go_upto_region 4 with (refine wpList_store_row rfl 36 _ _ rfl _ _ rfl rfl 36 _ (heap_new rfl) info_ex rfl (arr_one (newX c) rfl) ?_)
  refine wp_forget (fun w' => ∃ gx, gx = y2.val.heap.size ∧ w.heap.size ≤ gx ∧ Hid (ExAt w' gx (newX c) (.slice none 0 0) ∧ gx < w'.heap.size ∧ Ext w w')) ⟨_, rfl, Nat.le_trans HX1.out.size y2.ext.size, Lib.hid ⟨setRow_heap _ _ _ _ _ _ (heap_new rfl), by simp, ((HX1.out.val y2).alloc _).setRow (Nat.le_trans HX1.out.size y2.ext.size) _⟩⟩ ?_
  rintro W1 ⟨gx, hgx, hgw, K1⟩
  rw [← hgx]
  clear hgx HX1
  go_wp2_with fail
  go_loopg [6] L.length (fun g t6 wr => ∃ (i : Nat) (x : Ex) (v : Value) (B : Nat), t6 = .int .i64 (i : Int) ∧ i + g = L.length ∧ gx < B ∧ gx < wr.heap.size ∧ Hid (ExAt wr gx x v ∧ Own wr B x.h v ∧ B ≤ wr.heap.size ∧ Ext w wr) ∧ Hid (Inv2 c x) ∧ x.h.length ≤ i)
  case atStart => exact ⟨0, newX c, .slice none 0 0, W1.heap.size, rfl, by omega, K1.out.2.1, K1.out.2.1, Lib.hid ⟨K1.out.1, World.ownsRow_nil _ _ _ _, Nat.le_refl _, K1.out.2.2⟩, Lib.hid (inv2_new c), Nat.zero_le _⟩
  case round =>
    obtain ⟨i, x, v, B, rfl, hg, hgB, hgr, HK, HI, hxl⟩ := hrel
    rename World => Wr
    by_cases hlt : i < L.length
    case neg =>
      have i1 : ¬ (i : Int) < (L.length : Int) := by omega
      go_wp2_with fail
      refine (live_any _).mono ?_
      rintro e w9 ⟨rfl, hx9⟩
      go_wp2_with fail
      go_ret
      exact ⟨rfl, HK.out.2.2.2.trans hx9⟩
    have i1 : (i : Int) < (L.length : Int) := by omega
    obtain ⟨m, hmv⟩ : ∃ m, L[i]? = some m := ⟨_, List.getElem?_eq_getElem hlt⟩
    obtain ⟨g, off, rfl, hgl, hcell⟩ := HV.out (by omega)
    have hgl := hgl (by omega)
    obtain ⟨q0, q1, q2, q3, q4, q5, q6, q7, q8⟩ := mv_cells (fun j u hj => cell_keep (hcell j u hj) HK.out.2.2.2) hmv
    have hgl1 : g < Wr.heap.size := Nat.lt_of_lt_of_le hgl HK.out.2.2.2.size
    clear hcell hgl hmv
    have hS := fun w' (hw : Ext Wr w') => mo_Step x v m w' B (HK.out.2.1.ext hw) (by omega)
    have hKe := step_kept HI.out m
    have hyl := step_len x m
    generalize stepX x m = T at hS hKe hyl
    obtain ⟨y, ok⟩ := T
    simp only at hKe hyl
    have HS := Lib.hid hS
    have HKe := Lib.hid hKe
    clear hS hKe
    unfold Mv.arr at HS
    go_wp2_with fail
    refine wp_region_mixF (af := ?af) #[.int .u64 0, .int .i64 0, .int .u64 0, .string { data := #[] }, .int .i64 0, .int .i64 0, .int .i64 0, .int .u64 0, .string { data := #[] }, .bool false, .int .i64 0, .int .u64 0, .string { data := #[] }, .int .i64 0, .int .i64 0, .int .i64 0, .int .u64 0, .string { data := #[] }, .bool false, .int .u64 0, .int .i64 0, .string { data := #[] }, .bool false, .bool false, .bool false, .slice none 0 0] 36 [true, true, true, true, true, false, false, false, false, false, false, false] [false, false, false, false, false, false, true, true, true, false, false, true] 148 4 (C := Ext Wr) (by kernel_rfl) rfl (by kernel_rfl) (fun _ _ h e => Ext.trans h e) (Ext.refl _).drew ?q ?r
    case q =>
      intro w' hw'
      obtain ⟨y1, rfl⟩ := ext_of hw'
      simp only [pickT, if_true, if_false, Bool.false_eq_true]
      (go_big_quiet_want; refine quiet_load_row 36 _ rfl _ rfl _ _ (0, 0) _ (HK.out.1.ext y1.ext) Try.underlying36 rfl info_ex ?_; go_big_quiet_on; simp only [Act.put, List.setIfInBounds_toArray, List.set_cons_succ, List.set_cons_zero])
      repeat (go_big_quiet_step (fail))
      exact rfl
    case r =>
      clear q0 q1 q2 q3 q4 q5 q6 q7 q8 hgl1
      simp only [restL, if_true, if_false, Bool.false_eq_true]
      refine ⟨fun a w => by simp [go_sem], ?_⟩
      intro x1
      go_wp2_with fail
      refine (HS.out _ ((Ext.refl Wr).drew.val x1)).mono ?_
      rintro e w4 ⟨v', rfl, hO', hx4⟩
      have hgy : Wr.heap.size ≤ x1.val.heap.size := ((Ext.refl Wr).drew.val x1).size
      go_wp2_with fail
      refine ⟨hx4, ?_⟩
      refine ⟨.tuple #[.agg (y.arr v'), .bool ok], .inl ⟨rfl, fun w _ => ⟨rfl, rfl⟩⟩, ?_⟩
      refine ⟨.agg (y.arr v'), .inl ⟨rfl, fun w _ => ⟨rfl, rfl⟩⟩, ?_⟩
      refine ⟨.bool ok, .inl ⟨rfl, fun w _ => ⟨rfl, rfl⟩⟩, ?_⟩
      intro x2 gT hgT hzT
      have e2 : Ext Wr x2.val := (((Ext.refl Wr).drew.val x1).trans hx4).val x2
      have hv'1 : v'.oneCell' = true := by obtain ⟨sa, sn, sc, hsv⟩ := own_slice hO'; rw [hsv]; rfl
      intro x3
      go_wp2_with (refine wpList_store_row rfl 36 _ _ rfl gT _ rfl rfl 36 _ (heap_ext hzT x3.ext) info_ex rfl (arr_one y hv'1) ?_)
      refine ⟨(e2.val x3).setRow hgT _, ?_⟩
      refine ⟨.bool ok, .inl ⟨rfl, fun w _ => ⟨rfl, rfl⟩⟩, ?_⟩
      intro x4
      have eT : ExAt x4.val gT y v' := heap_ext (setRow_heap _ _ _ _ _ _ (heap_ext hzT x3.ext)) x4.ext
      have eX : Ext Wr x4.val := ((e2.val x3).setRow hgT _).val x4
      have eO : Own x4.val x1.val.heap.size y.h v' := own_ext (own_setRow (own_ext hO' (x2.ext.trans x3.ext)) (heap_ext hzT x3.ext) (by decide) _) x4.ext
      have hBw : x1.val.heap.size ≤ x4.val.heap.size := by
        have h1 := hx4.size
        have h2 := x2.ext.size
        have h3 := x3.ext.size
        have h4 : x3.val.heap.size ≤ x4.val.heap.size := by simpa using x4.ext.size
        omega
      have hgB2 : gx < x1.val.heap.size := by omega
      have hgT2 : gx < gT := by omega
      generalize x1.val.heap.size = B2 at eO hBw hgB2
      have k9 : ExAt x4.val gx x v ∧ ExAt x4.val gT y v' ∧ Own x4.val B x.h v ∧ Own x4.val B2 y.h v' ∧ B2 ≤ x4.val.heap.size ∧ Ext w x4.val := ⟨HK.out.1.ext eX, eT, HK.out.2.1.ext eX, eO, hBw, HK.out.2.2.2.trans eX⟩
      clear eT eX eO hBw
      generalize x4.val = W9 at k9 ⊢
      clear x4 x3 x2 hzT hO' hx4 e2 x1 HS hgT hgy hgr HK hv'1
      have K9 := Lib.hid k9
      clear k9
      have hBr := fun w' (hw : Ext W9 w') => mo_broken y v' w' (Row.ext (K9.out.2.2.2.1.row) hw) (by omega)
      rw [inv_ok HKe.out.1.inv] at hBr
      have hCk := fun w' (hw : Ext W9 w') => mo_check y v' B2 w' (K9.out.2.2.2.1.ext hw)
      rw [inv_check HKe.out.1.inv] at hCk
      have HBr := Lib.hid hBr
      have HCk := Lib.hid hCk
      clear hBr hCk
      simp only [Act.put, List.setIfInBounds_toArray, List.set_cons_succ, List.set_cons_zero]
      go_upto_region 8 with fail
      go_cut [52] from 34 to 52 (fun s52 wc => s52 = .bool false ∧ Hid (Ext W9 wc))
      case first =>
        rcases ok
        · have hyx := HKe.out.2 rfl
          have hSa : ∀ w', Ext W9 w' → Calls Try.prog 10 #[.agg (x.arr v), .agg (y.arr v')] w' fun e w'' => e = .returned (.bool true) ∧ Ext w' w'' := fun w' hw => by
            have h1 := K9.out.2.2.2.1.row
            rw [hyx] at h1 ⊢
            exact rf_same x v v' w' (Row.ext K9.out.2.2.1.row hw) (Row.ext h1 hw)
          have K9y : Hid (ExAt W9 gT y v') := Lib.hid K9.out.2.1
          clear hyx
          have HSa := Lib.hid hSa
          clear hSa
          go_wp2_with (first | (go_at_call 8; refine (HBr.out _ (Ext.refl _)).mono ?_; rintro e w1 ⟨ba, bn, bc, rfl, hbn, hx⟩; obtain rfl : bn = 0 := eq_of_beq hbn; obtain ⟨y1, rfl⟩ := ext_of hx; clear hx hbn) | (go_at_call 9; refine (HCk.out _ y1.ext).mono ?_; rintro e w1 ⟨rfl, hx⟩; obtain ⟨y2, rfl⟩ := ext_of hx; clear hx) | (go_at_call 10; refine (HSa.out _ (y1.ext.val y2)).mono ?_; rintro e w1 ⟨rfl, hx⟩; obtain ⟨y3, rfl⟩ := ext_of hx; clear hx) | (refine wpList_load_row rfl 36 _ rfl _ rfl _ _ (0, 0) _ (K9y.out) Try.underlying36 rfl info_ex ?_) | (refine wpList_load_rowG rfl 36 _ rfl _ rfl _ _ (0, 0) _ (K9y.out.ext y1.ext) Try.underlying36 rfl info_ex ?_) | (refine wpList_load_rowG rfl 36 _ rfl _ rfl _ _ (0, 0) _ (K9.out.1.ext (y1.ext.val y2)) Try.underlying36 rfl info_ex ?_) | (refine wpList_load_rowG rfl 36 _ rfl _ rfl _ _ (0, 0) _ (K9y.out.ext (y1.ext.val y2)) Try.underlying36 rfl info_ex ?_))
          go_meet
          case rel => exact ⟨rfl, Lib.hid (((Ext.refl W9).val y1).val y2 |>.val y3)⟩
        · have K9y : Hid (ExAt W9 gT y v') := Lib.hid K9.out.2.1
          go_wp2_with (first | (go_at_call 8; refine (HBr.out _ (Ext.refl _)).mono ?_; rintro e w1 ⟨ba, bn, bc, rfl, hbn, hx⟩; obtain rfl : bn = 0 := eq_of_beq hbn; obtain ⟨y1, rfl⟩ := ext_of hx; clear hx hbn) | (go_at_call 9; refine (HCk.out _ y1.ext).mono ?_; rintro e w1 ⟨rfl, hx⟩; obtain ⟨y2, rfl⟩ := ext_of hx; clear hx) | (refine wpList_load_row rfl 36 _ rfl _ rfl _ _ (0, 0) _ (K9y.out) Try.underlying36 rfl info_ex ?_) | (refine wpList_load_rowG rfl 36 _ rfl _ rfl _ _ (0, 0) _ (K9y.out.ext y1.ext) Try.underlying36 rfl info_ex ?_) | (refine wpList_load_rowG rfl 36 _ rfl _ rfl _ _ (0, 0) _ (K9.out.1.ext (y1.ext.val y2)) Try.underlying36 rfl info_ex ?_) | (refine wpList_load_rowG rfl 36 _ rfl _ rfl _ _ (0, 0) _ (K9y.out.ext (y1.ext.val y2)) Try.underlying36 rfl info_ex ?_))
          go_meet
          case rel => exact ⟨rfl, Lib.hid (((Ext.refl W9).val y1).val y2)⟩
      case rest =>
        obtain ⟨rfl, Hc⟩ := hcut
        have k10 : ExAt wc gx x v ∧ ExAt wc gT y v' ∧ Own wc B x.h v ∧ Own wc B2 y.h v' ∧ B2 ≤ wc.heap.size ∧ Ext w wc := ⟨K9.out.1.ext Hc.out, K9.out.2.1.ext Hc.out, K9.out.2.2.1.ext Hc.out, K9.out.2.2.2.1.ext Hc.out, Nat.le_trans K9.out.2.2.2.2.1 Hc.out.size, K9.out.2.2.2.2.2.trans Hc.out⟩
        clear K9 HBr HCk Hc
        rename World => W10
        have K10 := Lib.hid k10
        obtain ⟨xa, xcap, rfl, hxm, hxv⟩ := own_rd k10.2.2.1
        obtain ⟨ya, ycap, rfl, hym, hyv⟩ := own_rd k10.2.2.2.1
        have HXV := Lib.hid hxv
        have HYV := Lib.hid hyv
        unfold maxLen at hxm hym
        have h1 := k10.1
        have h2 := k10.2.1
        unfold ExAt Ex.arr at h1 h2
        have c1 := fun j => cell_of_row W10 _ j _ _ _ h1
        have c2 := fun j => cell_of_row W10 _ j _ _ _ h2
        have l1 : gx < W10.heap.size := (Array.getElem?_eq_some_iff.1 h1).1
        have l2 : gT < W10.heap.size := (Array.getElem?_eq_some_iff.1 h2).1
        clear h1 h2 hxv hyv k10
        have hF := fun who w' (hw : who = 0 ∨ who = 1) => mo_final x (.slice xa x.h.length xcap) who w' hw
        have HF := Lib.hid hF
        have hH := fun l w' (hw : Ext W10 w') => rf_heard y (.slice ya y.h.length ycap) l w' (Row.ext K10.out.2.2.2.1.row hw)
        have HH := Lib.hid hH
        clear hF hH
        go_wp2_with fail
        go_loopg [9] 2 (fun g t9 wr => ∃ z : ExtOf W10, wr = z.val ∧ ((g = 2 ∧ t9 = .int .i64 0) ∨ (g = 1 ∧ t9 = .int .i64 1) ∨ (g = 0 ∧ t9 = .int .i64 2)))
        case atStart => exact ⟨⟨W10, Ext.refl _⟩, rfl, .inl ⟨rfl, rfl⟩⟩
        case round =>
          obtain ⟨z, rfl, ⟨rfl, rfl⟩ | ⟨rfl, rfl⟩ | ⟨rfl, rfl⟩⟩ := hrel
          · have F := fun w => HF.out 0 w (by decide)
            have HF0 := Lib.hid F
            clear F
            go_upto_region 13 with fail
            go_cut [70] from 57 to 70 (fun s70 wc => s70 = .bool false ∧ ∃ z2 : ExtOf W10, wc = z2.val)
            case first =>
              have ff := HKe.out.1.fin 0 (by decide)
              rcases hf : finX x 0
              all_goals
                rw [hf] at HF0
              case' true =>
                have hse : sEq y.s0.r y.s0.c y.s0.t y.s0.ph y.s0.p.k y.s0.p.f y.s0.p.c y.s0.p.t y.s0.p.b x.s0.r x.s0.c x.s0.t x.s0.ph x.s0.p.k x.s0.p.f x.s0.p.c x.s0.p.t x.s0.p.b = true := by
                  rw [show y.s0 = x.s0 from ff hf]
                  exact sEq_self _
              all_goals
                clear ff
                go_wp2_with fail
                refine wp_region_ext (by kernel_rfl) (by kernel_rfl) ?_
                (go_big_quiet_want; refine quiet_load_row 36 _ rfl _ rfl _ _ (0, 0) _ (K10.out.1.ext z.ext) Try.underlying36 rfl info_ex ?_; go_big_quiet_on; simp only [Act.put, List.setIfInBounds_toArray, List.set_cons_succ, List.set_cons_zero])
                repeat (go_big_quiet_step ((go_at_call 11; exact calls_ext (HF0.out _))))
                refine wpQuiet_nil ?_
                intro _ hx'
                obtain ⟨z1, rfl⟩ := hx'
                go_wp2_with fail
                go_meet
                case rel => exact ⟨rfl, ⟨_, z.ext.val z1⟩, rfl⟩
            case rest =>
              obtain ⟨rfl, z2, rfl⟩ := hcut
              clear HF0
              go_wp2_with fail
              go_loopg [10] y.h.length (fun g t10 wr => ∃ (n : Nat) (z3 : ExtOf W10), t10 = .int .i64 (n : Int) ∧ n + g = y.h.length ∧ wr = z3.val)
              case atStart => exact ⟨0, ⟨_, z2.ext⟩, rfl, by omega, rfl⟩
              case round =>
                obtain ⟨n, z3, rfl, hgn, rfl⟩ := hrel
                by_cases hlt2 : n < y.h.length
                case neg =>
                  have i2 : ¬ (n : Int) < (y.h.length : Int) := by omega
                  go_wp2_with fail
                  go_roundg 1
                  case rel => exact ⟨⟨_, z3.ext⟩, rfl, .inr (.inl ⟨rfl, rfl⟩)⟩
                  case measure => omega
                have i2 : (n : Int) < (y.h.length : Int) := by omega
                obtain ⟨l, hx⟩ : ∃ l, y.h[n]? = some l := ⟨_, List.getElem?_eq_getElem hlt2⟩
                have hmine := fun hk => inv_mine HKe.out.1.inv (mem_of_get hx) hk
                obtain ⟨ga, rfl, hga, hcell⟩ := HYV.out (by omega)
                obtain ⟨q0, q1, q2, q3, q4⟩ := lt_cellsO hcell hx
                simp only [Nat.zero_add] at q0 q1 q2 q3 q4
                clear hcell hx
                have HM := Lib.hid hmine
                clear hmine
                go_upto_region 19 with fail
                refine wp_forget (fun w' => LtAt w' z3.val.heap.size l ∧ ∃ z4 : ExtOf W10, w' = z4.val) ⟨heap_new rfl, ⟨_, z3.ext.alloc _⟩, rfl⟩ ?_
                rintro _ ⟨hl, z4, rfl⟩
                unfold LtAt at hl
                have cl := fun j => cell_of_row _ _ j _ _ _ hl
                have ll : z3.val.heap.size < z4.val.heap.size := (Array.getElem?_eq_some_iff.1 hl).1
                clear hl q0 q1 q2 q3 q4 hga
                go_cut [12] from 83 to 101 (fun s12 wc => s12 = .bool (mineB 0 l) ∧ wc = z4.val)
                case first =>
                  rcases k1 : (l.k == 1)
                  · rcases k2 : (l.k == 2)
                    · rcases k4 : (l.k == 4)
                      · go_wp2_with fail
                        go_meet
                        case rel => exact ⟨by simp [mineB, k1, k2, k4], rfl⟩
                      · rcases kf : (l.f == 0)
                        all_goals
                          go_wp2_with fail
                          go_meet
                          case rel => exact ⟨by simp [mineB, k1, k2, k4, kf], rfl⟩
                    · rcases kf : (l.f == 0)
                      all_goals
                        go_wp2_with fail
                        go_meet
                        case rel => exact ⟨by simp [mineB, k1, k2, kf], rfl⟩
                  · rcases kf : (l.f == 0)
                    all_goals
                      go_wp2_with fail
                      go_meet
                      case rel => exact ⟨by simp [mineB, k1, kf], rfl⟩
                case rest =>
                  obtain ⟨rfl, rfl⟩ := hcut
                  rcases hm : mineB 0 l
                  case' true =>
                    have ht : l.t = y.s0.t := by
                      obtain ⟨hk, hf⟩ := mineB_true hm
                      have := HM.out hk
                      rw [hf] at this
                      exact this
                    rcases hb : y.b0
                  all_goals
                    clear hm
                    go_wp2_with fail
                    refine wp_region_ext (by kernel_rfl) (by kernel_rfl) ?_
                    repeat (go_big_quiet_step (fail))
                    refine wpQuiet_nil ?_
                    intro _ hx'
                    obtain ⟨z5, rfl⟩ := hx'
                    go_wp2_with fail
                    go_roundg (gk - 1)
                    case rel => exact ⟨n + 1, ⟨_, z4.ext.val z5⟩, rfl, by omega, rfl⟩
                    case measure => omega
          · have F := fun w => HF.out 1 w (by decide)
            have HF1 := Lib.hid F
            clear F
            go_upto_region 13 with fail
            go_cut [70] from 57 to 70 (fun s70 wc => s70 = .bool false ∧ ∃ z2 : ExtOf W10, wc = z2.val)
            case first =>
              have ff := HKe.out.1.fin 1 (by decide)
              rcases hf : finX x 1
              all_goals
                rw [hf] at HF1
              case' true =>
                have hse : sEq y.s1.r y.s1.c y.s1.t y.s1.ph y.s1.p.k y.s1.p.f y.s1.p.c y.s1.p.t y.s1.p.b x.s1.r x.s1.c x.s1.t x.s1.ph x.s1.p.k x.s1.p.f x.s1.p.c x.s1.p.t x.s1.p.b = true := by
                  rw [show y.s1 = x.s1 from ff hf]
                  exact sEq_self _
              all_goals
                clear ff
                go_wp2_with fail
                refine wp_region_ext (by kernel_rfl) (by kernel_rfl) ?_
                (go_big_quiet_want; refine quiet_load_row 36 _ rfl _ rfl _ _ (0, 0) _ (K10.out.1.ext z.ext) Try.underlying36 rfl info_ex ?_; go_big_quiet_on; simp only [Act.put, List.setIfInBounds_toArray, List.set_cons_succ, List.set_cons_zero])
                repeat (go_big_quiet_step ((go_at_call 11; exact calls_ext (HF1.out _))))
                refine wpQuiet_nil ?_
                intro _ hx'
                obtain ⟨z1, rfl⟩ := hx'
                go_wp2_with fail
                go_meet
                case rel => exact ⟨rfl, ⟨_, z.ext.val z1⟩, rfl⟩
            case rest =>
              obtain ⟨rfl, z2, rfl⟩ := hcut
              clear HF1
              go_wp2_with fail
              go_loopg [10] y.h.length (fun g t10 wr => ∃ (n : Nat) (z3 : ExtOf W10), t10 = .int .i64 (n : Int) ∧ n + g = y.h.length ∧ wr = z3.val)
              case atStart => exact ⟨0, ⟨_, z2.ext⟩, rfl, by omega, rfl⟩
              case round =>
                obtain ⟨n, z3, rfl, hgn, rfl⟩ := hrel
                by_cases hlt2 : n < y.h.length
                case neg =>
                  have i2 : ¬ (n : Int) < (y.h.length : Int) := by omega
                  go_wp2_with fail
                  go_roundg 0
                  case rel => exact ⟨⟨_, z3.ext⟩, rfl, .inr (.inr ⟨rfl, rfl⟩)⟩
                  case measure => omega
                have i2 : (n : Int) < (y.h.length : Int) := by omega
                obtain ⟨l, hx⟩ : ∃ l, y.h[n]? = some l := ⟨_, List.getElem?_eq_getElem hlt2⟩
                have hmine := fun hk => inv_mine HKe.out.1.inv (mem_of_get hx) hk
                obtain ⟨ga, rfl, hga, hcell⟩ := HYV.out (by omega)
                obtain ⟨q0, q1, q2, q3, q4⟩ := lt_cellsO hcell hx
                simp only [Nat.zero_add] at q0 q1 q2 q3 q4
                clear hcell hx
                have HM := Lib.hid hmine
                clear hmine
                go_upto_region 19 with fail
                refine wp_forget (fun w' => LtAt w' z3.val.heap.size l ∧ ∃ z4 : ExtOf W10, w' = z4.val) ⟨heap_new rfl, ⟨_, z3.ext.alloc _⟩, rfl⟩ ?_
                rintro _ ⟨hl, z4, rfl⟩
                unfold LtAt at hl
                have cl := fun j => cell_of_row _ _ j _ _ _ hl
                have ll : z3.val.heap.size < z4.val.heap.size := (Array.getElem?_eq_some_iff.1 hl).1
                clear hl q0 q1 q2 q3 q4 hga
                go_cut [12] from 83 to 101 (fun s12 wc => s12 = .bool (mineB 1 l) ∧ wc = z4.val)
                case first =>
                  rcases k1 : (l.k == 1)
                  · rcases k2 : (l.k == 2)
                    · rcases k4 : (l.k == 4)
                      · go_wp2_with fail
                        go_meet
                        case rel => exact ⟨by simp [mineB, k1, k2, k4], rfl⟩
                      · rcases kf : (l.f == 1)
                        all_goals
                          go_wp2_with fail
                          go_meet
                          case rel => exact ⟨by simp [mineB, k1, k2, k4, kf], rfl⟩
                    · rcases kf : (l.f == 1)
                      all_goals
                        go_wp2_with fail
                        go_meet
                        case rel => exact ⟨by simp [mineB, k1, k2, kf], rfl⟩
                  · rcases kf : (l.f == 1)
                    all_goals
                      go_wp2_with fail
                      go_meet
                      case rel => exact ⟨by simp [mineB, k1, kf], rfl⟩
                case rest =>
                  obtain ⟨rfl, rfl⟩ := hcut
                  rcases hm : mineB 1 l
                  case' true =>
                    have ht : l.t = y.s1.t := by
                      obtain ⟨hk, hf⟩ := mineB_true hm
                      have := HM.out hk
                      rw [hf] at this
                      exact this
                    rcases hb : y.b1
                  all_goals
                    clear hm
                    go_wp2_with fail
                    refine wp_region_ext (by kernel_rfl) (by kernel_rfl) ?_
                    repeat (go_big_quiet_step (fail))
                    refine wpQuiet_nil ?_
                    intro _ hx'
                    obtain ⟨z5, rfl⟩ := hx'
                    go_wp2_with fail
                    go_roundg (gk - 1)
                    case rel => exact ⟨n + 1, ⟨_, z4.ext.val z5⟩, rfl, by omega, rfl⟩
                    case measure => omega
          · go_wp2_with fail
            go_loopg [13] x.h.length (fun g t13 wr => ∃ (n : Nat) (z3 : ExtOf W10), t13 = .int .i64 (n : Int) ∧ n + g = x.h.length ∧ wr = z3.val)
            case atStart => exact ⟨0, ⟨_, z.ext⟩, rfl, by omega, rfl⟩
            case round =>
              obtain ⟨n, z3, rfl, hgn, rfl⟩ := hrel
              by_cases hlt2 : n < x.h.length
              case pos =>
                have i2 : (n : Int) < (x.h.length : Int) := by omega
                obtain ⟨l, hx⟩ : ∃ l, x.h[n]? = some l := ⟨_, List.getElem?_eq_getElem hlt2⟩
                have hmem : l ∈ y.h := HKe.out.1.g.h l (mem_of_get hx)
                obtain ⟨ga, rfl, hga, hcell⟩ := HXV.out (by omega)
                obtain ⟨q0, q1, q2, q3, q4⟩ := lt_cellsO hcell hx
                simp only [Nat.zero_add] at q0 q1 q2 q3 q4
                have hHl := fun w' hw => HH.out l w' hw
                rw [decide_eq_true hmem] at hHl
                have HHl := Lib.hid hHl
                clear hcell hx hmem hHl
                go_wp2_with fail
                refine wp_region_ext (by kernel_rfl) (by kernel_rfl) ?_
                (go_big_quiet_want; refine quiet_load_row 36 _ rfl _ rfl _ _ (0, 0) _ (K10.out.2.1.ext z3.ext) Try.underlying36 rfl info_ex ?_; go_big_quiet_on; simp only [Act.put, List.setIfInBounds_toArray, List.set_cons_succ, List.set_cons_zero])
                repeat (go_big_quiet_step ((go_at_call 12; exact calls_ext (HHl.out _ (z3.ext.val _)))))
                refine wpQuiet_nil ?_
                intro _ hx'
                obtain ⟨z4, rfl⟩ := hx'
                go_wp2_with fail
                go_roundg (gk - 1)
                case rel => exact ⟨n + 1, ⟨_, z3.ext.val z4⟩, rfl, by omega, rfl⟩
                case measure => omega
              have i2 : ¬ (n : Int) < (x.h.length : Int) := by omega
              have hvv := HKe.out.1.v
              rcases Decidable.em (x.v.k = 0) with hk | hk
              case' inl =>
                have hk2 : (x.v.k != 0) = false := by simp [hk]
              case' inr =>
                have hk2 : (x.v.k != 0) = true := by simp [hk]
                have hve : vEq x.v.c x.v.k x.v.t y.v.c y.v.k y.v.t = true := by
                  rw [hvv hk]
                  exact vEq_self _
              all_goals
                clear hvv
                go_upto_region 29 with fail
                go_wp2_with (first | (refine wpList_load_row rfl 36 _ rfl _ rfl _ _ (0, 0) _ (K10.out.2.1.ext z3.ext) Try.underlying36 rfl info_ex ?_) | (refine wpList_store_row rfl 36 _ _ rfl gx _ rfl rfl 36 _ (K10.out.1.ext z3.ext) info_ex rfl (arr_one y rfl) ?_))
                go_roundg (L.length - (i + 1))
                case rel => exact ⟨i + 1, y, _, B2, rfl, by omega, by omega, by simp; have := z3.ext.size; omega, Lib.hid ⟨setRow_heap _ _ _ _ _ _ (K10.out.1.ext z3.ext), own_setRow (K10.out.2.2.2.1.ext z3.ext) (K10.out.1.ext z3.ext) (by decide) _, Nat.le_trans K10.out.2.2.2.2.1 (by simpa using z3.ext.size), (K10.out.2.2.2.2.2.trans z3.ext).setRow (by omega) _⟩, Lib.hid HKe.out.1.inv, by omega⟩
                case measure => omega
end Go.Proofs.Ytodnfbfhdloogaa

/-
  The arguments of the statement, opened: a letter, a move; a slice of moves. No condition.
-/
namespace Go.Proofs.Ytodnfbfhdloogaa
open Go.ChangeShapes Go.WideShapes Go.ChangeAt Go.RowKit Go.Deep

theorem cells_int : Try.prog.cellsOf 3 = 1 := by kernel_rfl
theorem cells_u64 : Try.prog.cellsOf 22 = 1 := by kernel_rfl
theorem cells_str : Try.prog.cellsOf 9 = 1 := by kernel_rfl
theorem cells_bool : Try.prog.cellsOf 4 = 1 := by kernel_rfl
theorem cells_letter : Try.prog.cellsOf 27 = 5 := by kernel_rfl
theorem cells_move : Try.prog.cellsOf 41 = 9 := by kernel_rfl

section
variable {H : Type} {enc : TypeId × Value → H} {w : World} {base : Nat} {spare : Nat → Bool} {held : Bool}

def Lt.data (l : Lt) : DataW H := .agg [.lit (.int .i64 l.k), .lit (.int .i64 l.f), .lit (.int .u64 l.c), .lit (.string l.t.data.toList), .lit (.bool l.b)]
def Mv.data (m : Mv) : DataW H := .agg [.lit (.int .i64 m.k), .lit (.int .i64 m.who), .lit (.string m.t.data.toList), m.l.data, .lit (.bool m.lost)]

set_option maxRecDepth 100000 in
theorem open_letter {fuel : Nat} {cs : List Value} {x : DataW H × List MemPlace} (h : DataW.trod enc Try.prog w base spare held fuel 27 cs = some x) : ∃ l : Lt, cs = l.cs ∧ x = (l.data, []) := by
  obtain ⟨xs, n, _, hx, hl, hlen, hf⟩ := DataW.trod_struct Try.underlying27 h
  have hl5 : cs.length = 5 := hl.trans cells_letter
  match cs, hl5, xs, hlen with
  | [c0, c1, c2, c3, c4], _, [y0, y1, y2, y3, y4], _ =>
    have g0 := hf 0 _ rfl
    have g1 := hf 1 _ rfl
    have g2 := hf 2 _ rfl
    have g3 := hf 3 _ rfl
    have g4 := hf 4 _ rfl
    simp [cells_int, cells_u64, cells_str, cells_bool] at g0 g1 g2 g3 g4
    obtain ⟨k, e0, rfl, _⟩ := DataW.trod_int Try.underlying3 g0
    obtain ⟨f, e1, rfl, _⟩ := DataW.trod_int Try.underlying3 g1
    obtain ⟨c, e2, rfl, _⟩ := DataW.trod_int Try.underlying22 g2
    obtain ⟨t, e3, rfl, _⟩ := DataW.trod_string Try.underlying9 g3
    obtain ⟨b, e4, rfl⟩ := DataW.trod_bool Try.underlying4 g4
    simp only [List.cons.injEq, and_true] at e0 e1 e2 e3 e4
    subst e0 e1 e2 e3 e4
    exact ⟨⟨k, f, c, t, b⟩, rfl, by rw [hx]; rfl⟩

set_option maxRecDepth 100000 in
theorem open_move {fuel : Nat} {cs : List Value} {x : DataW H × List MemPlace} (h : DataW.trod enc Try.prog w base spare held fuel 41 cs = some x) : ∃ s : Mv, cs = s.cs ∧ x = (s.data, []) := by
  obtain ⟨xs, n, _, hx, hl, hlen, hf⟩ := DataW.trod_struct Try.underlying41 h
  have hl9 : cs.length = 9 := hl.trans cells_move
  match cs, hl9, xs, hlen with
  | [c0, c1, c2, c3, c4, c5, c6, c7, c8], _, [y0, y1, y2, y3, y4], _ =>
    have g0 := hf 0 _ rfl
    have g1 := hf 1 _ rfl
    have g2 := hf 2 _ rfl
    have g3 := hf 3 _ rfl
    have g4 := hf 4 _ rfl
    simp [cells_int, cells_str, cells_bool, cells_letter] at g0 g1 g2 g3 g4
    obtain ⟨k, e0, rfl, _⟩ := DataW.trod_int Try.underlying3 g0
    obtain ⟨who, e1, rfl, _⟩ := DataW.trod_int Try.underlying3 g1
    obtain ⟨t, e2, rfl, _⟩ := DataW.trod_string Try.underlying9 g2
    obtain ⟨l, e4, rfl⟩ := open_letter g3
    obtain ⟨b, e3, rfl⟩ := DataW.trod_bool Try.underlying4 g4
    simp only [List.cons.injEq, and_true, Lt.cs] at e0 e1 e2 e3 e4
    obtain ⟨e5, e6, e7, e8, e9⟩ := e4
    subst e0 e1 e2 e3 e5 e6 e7 e8 e9
    exact ⟨⟨k, who, t, l, b⟩, rfl, by rw [hx]; rfl⟩

/-- What a slice of moves reads as. -/
def mvsData (L : List Mv) (sp : List (DataW H)) : Bool → DataW H
  | true => .nil
  | false => .slice (L.map Mv.data) sp

theorem Mv.cs_len (e : Mv) : e.cs.length = 9 := rfl

theorem flat_len : ∀ L : List Mv, (L.flatMap Mv.cs).length = L.length * 9
  | [] => rfl
  | y :: L => by rw [List.flatMap_cons, List.length_append, flat_len L, Mv.cs_len, List.length_cons]; omega

theorem flat_at {L : List Mv} {j : Nat} {u : Value} (h : (L.flatMap Mv.cs)[j]? = some u) : ∃ x, L[j / 9]? = some x ∧ x.cs[j % 9]? = some u := by
  have hlen := flat_len L
  have hj : j < L.length * 9 := by rw [← hlen]; exact (List.getElem?_eq_some_iff.1 h).1
  have hk : j / 9 < L.length := by omega
  refine ⟨_, List.getElem?_eq_getElem hk, ?_⟩
  have := flat_get Mv.cs 9 (fun _ => rfl) L (j / 9) _ (List.getElem?_eq_getElem hk) (j % 9) (by omega)
  rw [show j / 9 * 9 + j % 9 = j by omega, h] at this
  exact this.symm

theorem open_moves {fuel : Nat} {cs : List Value} {x : DataW H × List MemPlace} (h : DataW.trod enc Try.prog w base spare held fuel 23 cs = some x) :
    ∃ (v : Value) (L : List Mv) (sp : List (DataW H)) (b : Bool), cs = [v] ∧ x.1 = mvsData L sp b ∧ (b = true → L = []) ∧ Row w 9 v L.length (L.flatMap Mv.cs) := by
  rcases open_slice Try.underlying23 h with ⟨h1, h2⟩ | ⟨a, len, cap, m, n, D, Pl, h1, _, h3, h4, hm, h5, h6⟩
  · exact ⟨_, [], [], true, h1, by rw [h2]; rfl, fun _ => rfl, rfl, .inl ⟨rfl, none, 0, rfl⟩⟩
  · have hlm : len ≤ m := by rw [hm]; split <;> omega
    have key : ∀ i, i < len → ∃ e : Mv, D i = e.data ∧ ∀ j u, e.cs[j]? = some u → w.cell? ((a.add (i * 9)).add j) = some u := fun i hi => by
      obtain ⟨cs', hc, ht⟩ := h6 i (by omega)
      rw [cells_move] at hc
      obtain ⟨e, rfl, he⟩ := open_move ht
      obtain ⟨_, hlen, hcell⟩ := World.cells?_some hc
      simp only [Prod.mk.injEq] at he
      refine ⟨e, he.1, fun j u hj => ?_⟩
      have : j < 9 := by have := (List.getElem?_eq_some_iff.1 hj).1; simpa [Mv.cs] using this
      rw [hcell j this]; exact hj
    have hE : ∃ E : Nat → Mv, ∀ i, i < len → D i = (E i).data ∧ ∀ j u, (E i).cs[j]? = some u → w.cell? ((a.add (i * 9)).add j) = some u :=
      ⟨fun i => if hi : i < len then (key i hi).choose else ⟨0, 0, { data := #[] }, l0, false⟩, fun i hi => by simp only [hi, dif_pos]; exact (key i hi).choose_spec⟩
    obtain ⟨E, hE⟩ := hE
    refine ⟨_, (List.range len).map E, (List.range (m - len)).map fun j => D (len + j), false, h1, ?_, by simp, ?_⟩
    · rw [h5]
      simp only [mvsData, List.map_map]
      congr 1
      exact List.map_congr_left fun i hi => (hE i (by simpa using hi)).1
    · have hln : ((List.range len).map E).length = len := by simp
      rw [hln]
      refine ⟨by rw [flat_len, hln], ?_⟩
      by_cases h0 : len = 0
      · exact .inl ⟨h0, _, _, by rw [h0]⟩
      · obtain ⟨b, off, spot⟩ := a
        have hs : spot = none := by
          have := (hE 0 (by omega)).2 0 _ rfl
          simpa [Addr.add] using World.cell?_spot this
        subst hs
        refine .inr ⟨b, off, cap, rfl, by omega, fun j u hj => ?_⟩
        obtain ⟨e, he, hu⟩ := flat_at hj
        have hk : j / 9 < len := by have := (List.getElem?_eq_some_iff.1 he).1; simpa using this
        rw [List.getElem?_map, List.getElem?_range hk] at he
        simp only [Option.map_some, Option.some.injEq] at he
        subst he
        have := (hE (j / 9) hk).2 _ u hu
        rw [Go.WideShapes.add_plain, Go.WideShapes.add_plain, Nat.add_assoc, show j / 9 * 9 + j % 9 = j by omega] at this
        exact this
end
end Go.Proofs.Ytodnfbfhdloogaa
