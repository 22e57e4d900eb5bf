/-
  Walk: the law's act: Tick, Turn. No condition.
-/
import Derived.Test.YtibdplfdmncgiaaMP18
set_option linter.all false
namespace Go.Proofs.Ytibdplfdmncgiaa
open Go.RowKit
attribute [local go_sem] ExtOf.cell ExtOf.frozen ExtOf.lt ExtOf.le
attribute [local go_sem high] ExtOf.cell2 ExtOf.frozen2 ExtOf.lt2 ExtOf.cell3 ExtOf.frozen3 ExtOf.lt3

theorem own_kept {w w' : World} {B n q : Nat} {e : TypeId} {v : Value} {xs : List Value} {X : List Nat} (h : w.ownsRow B e q v n xs) (hk : Keeps X w w') (hx : ∀ g ∈ X, g < B) : w'.ownsRow B e q v n xs :=
  own_rowB h fun k hm => by
    have := h.lt k (by unfold rowB at hm; split at hm <;> simp_all)
    exact hk.block k this.2 fun hm => by have := hx k hm; omega

set_option maxRecDepth 100000 in
set_option maxHeartbeats 8000000 in
theorem act_tick (p : At) (v : Value) (W : Wh) (b B : Nat) (u : Value) (R : Rw) (x : Ac) (hk : x.k = 5) (n : Nat) (hn : n ≤ 1000) (w : World) (h : Both p v W b B u R w) (ha : Agree W R) (hs : Small W n) (ho : OrdOk W) (hc : p.cv = .slice none 0 0) :
    Calls Try.prog 26 #[.pointer (some ⟨p.bW, 0, none⟩), .pointer (some ⟨b, 0, none⟩), x.val] w (Acted p v b B u n w) := by
  obtain ⟨k, at_, id, s⟩ := x
  simp only at hk
  subst hk
  unfold Ac.val
  simp only
  have H := Lib.hid h
  have HA := Lib.hid ha
  have HS := Lib.hid hs
  have HO := Lib.hid ho
  have HC := Lib.hid hc
  clear h ha hs ho hc
  unfold Acted
  by_cases hend : W.now = 9223372036854775807
  · have HE := Lib.hid hend
    have hRn : R.now = 9223372036854775807 := by rw [HA.out.now, hend]
    clear hend
    go_enter Try.func26, Try.ntmps26
    go_wp2_with fail
    have eA : Ext w (w.alloc (.cells #[.int .i64 5, .int .i64 at_, .int .i64 id, .string s] 59)) := (Ext.refl w).alloc _
    have HB1 := Lib.hid (H.out.ext eA)
    have EA := Lib.hid eA
    generalize w.alloc _ = w1 at eA HB1 EA ⊢
    clear eA
    refine (tick_end_string p v W w1 HB1.out.wh HE.out).mono ?_
    rintro e w2 ⟨rfl, rfl⟩
    have hb := HB1.out.rf.1
    have lb : b < w2.heap.size := (Array.getElem?_eq_some_iff.1 hb).1
    have hcb := fun j => cell_of_row w2 _ j _ _ _ hb
    rw [hRn] at hcb
    clear hb
    go_wp2_with fail
    go_ret
    exact ⟨rfl, v, W, u, R, HB1.out, HA.out, HS.out.mono (Nat.le_succ n), HO.out, (Keeps.refl _ _).ext EA.out, fun _ hg => .inl hg, fun _ hg => .inl hg⟩
  · have hlt : W.now < 9223372036854775807 := by have := HS.out.now.2; omega
    have hRn : ¬ R.now = 9223372036854775807 := by rw [HA.out.now]; exact hend
    have HLT := Lib.hid hlt
    have hr0 : 0 ≤ R.now := by rw [HA.out.now]; exact HS.out.now.1
    have hr1 : R.now < 9223372036854775807 := by rw [HA.out.now]; exact hlt
    clear hend hlt
    go_enter Try.func26, Try.ntmps26
    go_wp2_with fail
    have eA : Ext w (w.alloc (.cells #[.int .i64 5, .int .i64 at_, .int .i64 id, .string s] 59)) := (Ext.refl w).alloc _
    have HB1 := Lib.hid (H.out.ext eA)
    have EA := Lib.hid eA
    generalize w.alloc _ = w1 at eA HB1 EA ⊢
    clear eA
    refine (tick_go_string p v W w1 HB1.out.wh HC.out HB1.out.pB (by have := HS.out.L; omega) (by have := HS.out.S; omega) HS.out.now.1 HLT.out).mono ?_
    rintro e w2 ⟨vl, v2, rfl, hO2, hW2, hK2, hR2⟩
    have HB2 := Lib.hid (HB1.out.wheel hW2 hK2 (fun g hg => .inl (by rw [← hR2]; exact hg)))
    have HO2 := Lib.hid hO2
    have HK2 := Lib.hid hK2
    have hK2s := hK2.size
    have HR2 := Lib.hid hR2
    clear hO2 hW2 hK2 hR2
    have hb := HB2.out.rf.1
    have lb : b < w2.heap.size := (Array.getElem?_eq_some_iff.1 hb).1
    have hcb := fun j => cell_of_row w2 _ j _ _ _ hb
    have HBB := Lib.hid hb
    clear hb
    go_wp2_with fail
    clear hcb lb
    refine (ref_fires b B u R (R.now + 1) w2 HB2.out.rf (HB2.out.rf.lt_all b (.head _)) HB2.out.bB HB2.out.rB (by have := HA.out.len; have := HS.out.S; omega)).mono ?_
    rintro e w3 ⟨vl3, u3, rfl, hF3, hO3, hK3, hR3⟩
    have hag := until_agree HA.out (R.now + 1)
    have HB3 := Lib.hid (HB2.out.ref hF3 hK3 hR3)
    have HK3 := Lib.hid (keeps_two HK2.out hK3)
    have HR3 := Lib.hid (rowsle hR3 hK2s)
    have HO2' : Hid (w3.ownsRow w1.heap.size 9 1 vl ((dueR R.L (R.now + 1)).map (·.v)).length (txtCs ((dueR R.L (R.now + 1)).map (·.v)))) := Lib.hid (by
      have := own_kept HO2.out hK3 (fun g hg => HB1.out.rf.lt_all g hg)
      rw [← hag.1, HA.out.now]
      exact this)
    have HO3 := Lib.hid hO3
    have hsz : (dueR R.L (R.now + 1)).length ≤ 100000 := by
      have h1 : (dueR R.L (R.now + 1)).length ≤ R.L.length := (List.takeWhile_sublist _).length_le
      have := HA.out.len
      have := HS.out.S
      omega
    clear hF3 hO3 hK3 hR3
    go_wp2_with fail
    refine (ref_values _ vl3 (dueR R.L (R.now + 1)) w3 HO3.out hsz).mono ?_
    rintro e w4 ⟨vl4, rfl, hO4, hX4⟩
    have HO4 := Lib.hid hO4
    have HX4 := Lib.hid hX4
    clear hO4 hX4
    go_wp2_with fail
    refine (ref_texts vl vl4 _ _ w4 _ _ (own_ext HO2'.out HX4.out) (by have := HO4.out; rw [List.length_map]; exact this)).mono ?_
    rintro e w5 ⟨rfl, hX5⟩
    have HX5 := Lib.hid (HX4.out.trans hX5)
    clear hX5
    rw [decide_eq_true rfl]
    go_wp2_with fail
    go_ret
    refine ⟨rfl, v2, _, u3, _, HB3.out.ext HX5.out, ?_, ?_, ?_, (((Keeps.refl _ _).ext EA.out).trans HK3.out).ext HX5.out, fun g hg => .inl (by rw [← HR2.out]; exact hg), rowsle HR3.out EA.out.size⟩
    · have := hag.2
      rw [HA.out.now] at this ⊢
      exact this
    · exact (small_until HA.out.inv HS.out HO.out (by have := HS.out.now; have := HLT.out; omega)).1.mono (Nat.le_succ n)
    · exact (small_until HA.out.inv HS.out HO.out (by have := HS.out.now; have := HLT.out; omega)).2

theorem turn_bad_string (p : At) (v : Value) (W : Wh) (n : Int) (w : World) (hW : WheelW 101 47 p v W w) (h0 : 0 ≤ W.now) (h9 : W.now ≤ 9223372036854775807) (hn : n < 0 ∨ 9223372036854775807 - W.now < n) :
    Calls Try.prog 33 #[.pointer (some ⟨p.bW, 0, none⟩), .int .i64 n] w fun e w' => e = .returned (.tuple #[.slice none 0 0, .int .i64 2]) ∧ w' = w := by
  have lb : p.bW < w.heap.size := (Array.getElem?_eq_some_iff.1 hW.1).1
  have hcb := fun j => cell_of_row w _ j _ _ _ hW.1
  clear hW
  by_cases h1 : n < 0
  · go_enter Try.func33, Try.ntmps33
    go_wp2_with fail
    go_ret2
    exact ⟨rfl, rfl⟩
  · have h2 : 9223372036854775807 - W.now < n := by omega
    go_enter Try.func33, Try.ntmps33
    go_wp2_with fail
    go_ret2
    exact ⟨rfl, rfl⟩

theorem num_ext (x : Int) (w : World) : Calls Try.prog 11 #[.int .i64 x] w fun e w' => e = .returned (.int .i64 x) ∧ Ext w w' := (num_w x w).mono fun _ _ ⟨h1, h2⟩ => ⟨h1, by rw [h2]; exact Ext.refl _⟩

set_option maxRecDepth 100000 in
set_option maxHeartbeats 8000000 in
theorem act_turn (p : At) (v : Value) (W : Wh) (b B : Nat) (u : Value) (R : Rw) (x : Ac) (hk : x.k = 6) (n : Nat) (hn : n ≤ 1000) (w : World) (h : Both p v W b B u R w) (ha : Agree W R) (hs : Small W n) (ho : OrdOk W) (hc : p.cv = .slice none 0 0) :
    Calls Try.prog 26 #[.pointer (some ⟨p.bW, 0, none⟩), .pointer (some ⟨b, 0, none⟩), x.val] w (Acted p v b B u n w) := by
  obtain ⟨k, at_, id, s⟩ := x
  simp only at hk
  subst hk
  unfold Ac.val
  simp only
  have H := Lib.hid h
  have HA := Lib.hid ha
  have HS := Lib.hid hs
  have HO := Lib.hid ho
  have HC := Lib.hid hc
  have hr0 : 0 ≤ R.now := by rw [ha.now]; exact hs.now.1
  have hr1 : R.now ≤ 9223372036854775807 := by rw [ha.now]; exact hs.now.2
  have hrw := ha.now
  clear h ha hs ho hc
  unfold Acted
  by_cases hbad : at_ < 0 ∨ 9223372036854775807 - W.now < at_
  · have HBad := Lib.hid hbad
    have hb1 : at_ < 0 ∨ ¬ at_ < 0 ∧ 9223372036854775807 - R.now < at_ := by omega
    have HRW := Lib.hid hrw
    clear hbad hrw
    rcases hb1 with hb1 | ⟨hb0, hb1⟩
    all_goals
      go_enter Try.func26, Try.ntmps26
      go_wp2_with fail
      have hA : (w.alloc (.cells #[.int .i64 6, .int .i64 at_, .int .i64 id, .string s] 59)).heap[w.heap.size]? = some (.cells #[.int .i64 6, .int .i64 at_, .int .i64 id, .string s] 59 (0, 0)) := heap_new rfl
      have eA : Ext w (w.alloc (.cells #[.int .i64 6, .int .i64 at_, .int .i64 id, .string s] 59)) := (Ext.refl w).alloc _
      have HB1 := Lib.hid (H.out.ext eA)
      have EA := Lib.hid eA
      generalize w.alloc _ = w1 at hA eA HB1 EA ⊢
      clear eA
      refine (turn_bad_string p v W at_ w1 HB1.out.wh HS.out.now.1 HS.out.now.2 HBad.out).mono ?_
      rintro e w2 ⟨rfl, rfl⟩
      have lA2 : w.heap.size < w2.heap.size := (Array.getElem?_eq_some_iff.1 hA).1
      have hcA2 := fun j => cell_of_row w2 _ j _ _ _ hA
      have hb := HB1.out.rf.1
      have lb : b < w2.heap.size := (Array.getElem?_eq_some_iff.1 hb).1
      have hcb := fun j => cell_of_row w2 _ j _ _ _ hb
      clear hA hb
      go_wp2_with fail
      try have hd0 : ¬ at_ < 0 := by omega
      refine wp_region_ext (by kernel_rfl) (by kernel_rfl) ?_
      repeat (go_big_quiet_step (fail))
      refine wpQuiet_nil ?_
      intro _ hx'
      obtain ⟨z4, rfl⟩ := hx'
      clear lA2 hcA2 hcb lb
      go_wp2_with fail
      refine (num_w _ _).mono ?_
      rintro e w3 ⟨rfl, rfl⟩
      go_wp2_with fail
      go_ret
      exact ⟨rfl, v, W, u, R, HB1.out.ext z4.ext, HA.out, HS.out.mono (Nat.le_succ n), HO.out, (Keeps.refl _ _).ext (EA.out.trans z4.ext), fun _ hg => .inl hg, fun _ hg => .inl hg⟩
  · have hg0 : 0 ≤ at_ := by omega
    have hg1 : at_ ≤ 9223372036854775807 - R.now := by omega
    have HG1 : Hid (at_ ≤ 9223372036854775807 - W.now) := Lib.hid (by omega)
    have HRW := Lib.hid hrw
    clear hbad hrw
    go_enter Try.func26, Try.ntmps26
    go_wp2_with fail
    have hA : (w.alloc (.cells #[.int .i64 6, .int .i64 at_, .int .i64 id, .string s] 59)).heap[w.heap.size]? = some (.cells #[.int .i64 6, .int .i64 at_, .int .i64 id, .string s] 59 (0, 0)) := heap_new rfl
    have eA : Ext w (w.alloc (.cells #[.int .i64 6, .int .i64 at_, .int .i64 id, .string s] 59)) := (Ext.refl w).alloc _
    have HB1 := Lib.hid (H.out.ext eA)
    have EA := Lib.hid eA
    generalize w.alloc _ = w1 at hA eA HB1 EA ⊢
    have HAA := Lib.hid hA
    clear eA hA
    refine (turn_string p v W at_ w1 HB1.out.wh HC.out HB1.out.pB (by have := HS.out.L; omega) (by have := HS.out.S; omega) HS.out.now.1 hg0 HG1.out).mono ?_
    rintro e w2 ⟨vl, v2, rfl, hO2, hW2, hK2, hR2⟩
    have HB2 := Lib.hid (HB1.out.wheel hW2 hK2 (fun g hg => .inl (by rw [← hR2]; exact hg)))
    have HO2 := Lib.hid hO2
    have HK2 := Lib.hid hK2
    have hK2s := hK2.size
    have HR2 := Lib.hid hR2
    have hA2 := row_kept HAA.out hK2 (H.out.not_p (Nat.le_refl _))
    have lA2 : w.heap.size < w2.heap.size := (Array.getElem?_eq_some_iff.1 hA2).1
    have hcA2 := fun j => cell_of_row w2 _ j _ _ _ hA2
    have hb := HB2.out.rf.1
    have lb : b < w2.heap.size := (Array.getElem?_eq_some_iff.1 hb).1
    have hcb := fun j => cell_of_row w2 _ j _ _ _ hb
    clear hO2 hW2 hK2 hR2 hA2 hb
    go_wp2_with fail
    have hd0 : ¬ at_ < 0 := by omega
    have hd1 : ¬ 9223372036854775807 - R.now < at_ := by omega
    refine wp_region_ext (by kernel_rfl) (by kernel_rfl) ?_
    repeat (go_big_quiet_step (fail))
    refine wpQuiet_nil ?_
    intro _ hx'
    obtain ⟨z4, rfl⟩ := hx'
    have HB2z := Lib.hid (HB2.out.ext z4.ext)
    have HO2z := Lib.hid (own_ext HO2.out z4.ext)
    have HK2z := Lib.hid (HK2.out.ext z4.ext)
    have hK2z := Nat.le_trans hK2s z4.ext.size
    have HA2z := Lib.hid ((row_kept HAA.out HK2.out (H.out.not_p (Nat.le_refl _))))
    have HA2y := Lib.hid (heap_ext HA2z.out z4.ext)
    clear lA2 hcA2 hcb lb HK2 HO2 HB2 HA2z hK2s
    have hA2 := HA2y.out
    have lA2 : w.heap.size < z4.val.heap.size := (Array.getElem?_eq_some_iff.1 hA2).1
    have hcA2 := fun j => cell_of_row z4.val _ j _ _ _ hA2
    have hb := HB2z.out.rf.1
    have lb : b < z4.val.heap.size := (Array.getElem?_eq_some_iff.1 hb).1
    have hcb := fun j => cell_of_row z4.val _ j _ _ _ hb
    have hbx := HB2z.out.bB
    clear hA2 hb
    go_wp2_with fail
    clear lA2 hcA2 lb hcb
    refine wp_region_mix (af := ?af) [true, true, true, true, true, true, true, true, true, false, true, true, false, false, false, false, false, false] 191 (Keeps (b :: rowB u) z4.val) (by kernel_rfl) rfl (by kernel_rfl) (fun _ _ h e => h.ext e) ((Keeps.refl _ z4.val).ext (Ext.refl _).drew) ?q ?r
    case q =>
      intro w' hw'
      have hA' := row_kept HA2y.out hw' (fun hm => H.out.not_b (Nat.le_refl _) hm)
      have lA' := (Array.getElem?_eq_some_iff.1 hA').1
      have hcA' := fun j => cell_of_row _ _ j _ _ _ hA'
      clear hA'
      simp only [pickT, if_true, if_false, Bool.false_eq_true]
      repeat (go_big_quiet_step ((go_at_call 11; exact calls_ext (num_ext _ _))))
      exact rfl
    case r =>
      simp only [pickF, if_true, if_false, Bool.false_eq_true]
      intro x1
      have k1 : Keeps (b :: rowB u) z4.val x1.val := ((Keeps.refl _ z4.val).ext (Ext.refl _).drew).ext x1.ext
      have HE1 := Lib.hid ((Ext.refl z4.val).drew.val x1)
      have hb := (HB2z.out.ext HE1.out).rf.1
      have lb : b < x1.val.heap.size := (Array.getElem?_eq_some_iff.1 hb).1
      have hcb := fun j => cell_of_row x1.val _ j _ _ _ hb
      clear hb
      go_wp2_with fail
      refine ⟨k1, ?_⟩
      intro x2
      have k2 := k1.ext x2.ext
      have HE2 := Lib.hid (HE1.out.val x2)
      clear lb hcb k1 HE1
      go_wp2_with fail
      refine ⟨k2, ?_⟩
      intro x3
      have HE3 := Lib.hid (HE2.out.val x3)
      clear k2 HE2
      go_wp2_with fail
      have HB3 := Lib.hid (HB2z.out.ext HE3.out)
      refine (ref_fires b B u R (R.now + at_) x3.val HB3.out.rf (HB3.out.rf.lt_all b (.head _)) HB3.out.bB HB3.out.rB (by have := HA.out.len; have := HS.out.S; omega)).mono ?_
      rintro e w4 ⟨vl4, u4, rfl, hF4, hO4, hK4, hR4⟩
      have hag := until_agree HA.out (R.now + at_)
      have HB4 := Lib.hid (HB3.out.ref hF4 hK4 hR4)
      have k4 : Keeps (b :: rowB u) z4.val w4 := ((Keeps.refl _ _).ext HE3.out).trans hK4
      have HR4 := Lib.hid (rowsle hR4 HE3.out.size)
      have HO2' : Hid (w4.ownsRow w1.heap.size 9 1 vl ((dueR R.L (R.now + at_)).map (·.v)).length (txtCs ((dueR R.L (R.now + at_)).map (·.v)))) := Lib.hid (by
        have := own_kept HO2z.out k4 (fun g hg => HB1.out.rf.lt_all g hg)
        rw [← hag.1, HRW.out]
        exact this)
      have HO4 := Lib.hid hO4
      have hsz : (dueR R.L (R.now + at_)).length ≤ 100000 := by
        have h1 : (dueR R.L (R.now + at_)).length ≤ R.L.length := (List.takeWhile_sublist _).length_le
        have := HA.out.len
        have := HS.out.S
        omega
      clear hF4 hO4 hK4 hR4
      go_wp2_with fail
      refine ⟨k4, ?_⟩
      intro x5
      have k5 := k4.ext x5.ext
      have HB5 := Lib.hid (HB4.out.ext x5.ext)
      have HO5 := Lib.hid (own_ext HO2'.out x5.ext)
      have HO4x := Lib.hid (own_ext HO4.out x5.ext)
      clear k4 HB4 HO2' HO4
      go_wp2_with fail
      refine (ref_values _ vl4 (dueR R.L (R.now + at_)) x5.val HO4x.out hsz).mono ?_
      rintro e w6 ⟨vl6, rfl, hO6, hX6⟩
      have HO6 := Lib.hid hO6
      have k6 := k5.ext hX6
      have HX6 := Lib.hid hX6
      clear hO6 hX6 k5
      go_wp2_with fail
      refine ⟨k6, ?_⟩
      intro x7
      have k7 := k6.ext x7.ext
      have HX7 := Lib.hid (HX6.out.trans x7.ext)
      have HO7 := Lib.hid (own_ext HO6.out x7.ext)
      clear k6
      go_wp2_with fail
      refine (ref_texts vl vl6 _ _ x7.val _ _ (own_ext HO5.out HX7.out) (by have := HO7.out; rw [List.length_map]; exact this)).mono ?_
      rintro e w8 ⟨rfl, hX8⟩
      have k8 := k7.ext hX8
      have HX8 := Lib.hid (HX7.out.trans hX8)
      clear hX8 k7
      rw [decide_eq_true rfl]
      go_wp2_with fail
      refine ⟨k8, ?_⟩
      intro x9
      have k9 := k8.ext x9.ext
      have HX9 := Lib.hid (HX8.out.trans x9.ext)
      clear k8
      go_wp2_with fail
      refine ⟨k9, ?_⟩
      intro xa
      have ka := k9.ext xa.ext
      have HXa := Lib.hid (HX9.out.trans xa.ext)
      clear k9
      go_wp2_with fail
      refine ⟨ka, ?_⟩
      intro xb
      have HKb := Lib.hid (ka.ext xb.ext)
      have HXb := Lib.hid (HXa.out.trans xb.ext)
      clear ka
      go_wp2_with fail
      go_ret
      refine ⟨rfl, v2, _, u4, _, HB5.out.ext HXb.out, ?_, ?_, ?_, ((Keeps.refl _ _).ext EA.out).trans (keeps_two HK2z.out HKb.out), fun g hg => .inl (by rw [← HR2.out]; exact hg), rowsle HR4.out (Nat.le_trans EA.out.size hK2z)⟩
      · have := hag.2
        rw [HRW.out] at this ⊢
        exact this
      · exact (small_until HA.out.inv HS.out HO.out (by have := HS.out.now; have := HG1.out; omega)).1.mono (Nat.le_succ n)
      · exact (small_until HA.out.inv HS.out HO.out (by have := HS.out.now; have := HG1.out; omega)).2
end Go.Proofs.Ytibdplfdmncgiaa

/-
  Walk: what the law asks of both wheels behind each act. No condition.
-/
namespace Go.Proofs.Ytibdplfdmncgiaa
open Go.RowKit
attribute [local go_sem] ExtOf.cell ExtOf.frozen ExtOf.lt ExtOf.le
attribute [local go_sem high] ExtOf.cell2 ExtOf.frozen2 ExtOf.lt2 ExtOf.cell3 ExtOf.frozen3 ExtOf.lt3

theorem now_ext (p : At) (v : Value) (W : Wh) (w : World) (hW : WheelW 101 47 p v W w) : Calls Try.prog 30 #[.pointer (some ⟨p.bW, 0, none⟩)] w fun e w' => e = .returned (.int .i64 W.now) ∧ Ext w w' :=
  (now_string p v W w hW).mono fun _ _ ⟨h1, h2⟩ => ⟨h1, by rw [h2]; exact Ext.refl _⟩
theorem len_ext (p : At) (v : Value) (W : Wh) (w : World) (hW : WheelW 101 47 p v W w) : Calls Try.prog 38 #[.pointer (some ⟨p.bW, 0, none⟩)] w fun e w' => e = .returned (.int .i64 W.S.length) ∧ Ext w w' :=
  (len_string p v W w hW).mono fun _ _ ⟨h1, h2⟩ => ⟨h1, by rw [h2]; exact Ext.refl _⟩

theorem own_cell {w : World} {B : Nat} {e : TypeId} {g n cap : Nat} {xs : List Value} (h : w.ownsRow B e 1 (.slice (some ⟨g, 0, none⟩) n cap) n xs) (i : Nat) (x : Value) : ∃ ys, (w.setCell ⟨g, i, none⟩ x).ownsRow B e 1 (.slice (some ⟨g, 0, none⟩) n cap) n ys := by
  obtain ⟨hl, h⟩ := h
  rcases h with ⟨hv, _⟩ | ⟨g', cap', cur, hv, hb, hg, hn, hm, hs, hx⟩
  · cases hv
  · cases hv
    exact ⟨((cur.setIfInBounds i x).toList.take (n * 1)), by simp [hs]; omega, .inr ⟨g, cap, _, rfl, hb, setCell_row hg x, hn, hm, by simp [hs], rfl⟩⟩

/-- What is behind tells. -/
def Told (p : At) (v : Value) (W : Wh) (b B : Nat) (u : Value) (R : Rw) (w : World) : Ending → World → Prop := fun e w' =>
  e = .returned (.bool true) ∧ ∃ v', Both p v' { W with L := firstL W.S W.L.length W.L } b B u R w' ∧ Keeps (p.all v) w w' ∧ rowB v' = rowB v

/-- What is known ahead of the law's tells. -/
structure TellIn (p : At) (v : Value) (W : Wh) (b B : Nat) (u : Value) (R : Rw) (k : Int) (w : World) : Prop where
  H : Both p v W b B u R w
  HA : Agree W R
  HDU : Calls Try.prog 55 #[.pointer (some ⟨p.bW, 0, none⟩), .int .i64 k] w fun e w' => e = .returned (dueV W.S k) ∧ Ext w w'
  HFI : ∀ w', Ext w w' → Calls Try.prog 56 #[.pointer (some ⟨b, 0, none⟩), .int .i64 k] w' fun e w'' => e = .returned (.int .i64 (findI R.L k)) ∧ w'' = w'
  HNX : ∀ w', Ext w w' → Calls Try.prog 36 #[.pointer (some ⟨p.bW, 0, none⟩)] w' fun e w'' => e = .returned (nextV W.S (firstL W.S W.L.length W.L)) ∧ ∃ v', Both p v' { W with L := firstL W.S W.L.length W.L } b B u R w'' ∧ Keeps (p.all v) w w'' ∧ rowB v' = rowB v
  HLi : ∀ v1 w', WheelW 101 47 p v1 { W with L := firstL W.S W.L.length W.L } w' → Calls Try.prog 57 #[.pointer (some ⟨p.bW, 0, none⟩)] w' fun e w'' => ∃ vl, e = .returned vl ∧ w''.ownsRow w'.heap.size 9 1 vl (R.L.map (·.v)).length (txtCs (R.L.map (·.v))) ∧ Ext w' w''
  hL9 : R.L.length ≤ 1000

set_option maxRecDepth 100000 in
set_option maxHeartbeats 8000000 in
theorem tells_00 (p : At) (v : Value) (W : Wh) (b B : Nat) (u : Value) (R : Rw) (k : Int) (w : World) (I : TellIn p v W b B u R k w) (hg : getT W.S k = none) (hfl : firstL W.S W.L.length W.L = []) (hRL : R.L = []) : Calls Try.prog 27 #[.pointer (some ⟨p.bW, 0, none⟩), .pointer (some ⟨b, 0, none⟩), .int .i64 k] w (Told p v W b B u R w) := by
  have H := Lib.hid I.H
  have HA := Lib.hid I.HA
  have HDU := Lib.hid I.HDU
  have HFI := Lib.hid I.HFI
  have HNX := Lib.hid I.HNX
  have HLi := Lib.hid I.HLi
  have hL9 := I.hL9
  have ha := I.HA
  clear I
  unfold Told
  have hdv : dueV W.S k = .tuple #[.int .i64 0, .bool false] := by unfold dueV; rw [hg]
  have hfi : findI R.L k = -1 := by unfold findI; rw [ha.none hg]
  rw [hdv] at HDU
  rw [hfi] at HFI
  clear hdv hfi hg
  have hnx : nextV W.S (firstL W.S W.L.length W.L) = .tuple #[.int .i64 0, .bool false] := by rw [hfl]; rfl
  have l0 : ¬ (0 : Int) < (R.L.length : Int) := by rw [hRL]; simp
  rw [hnx] at HNX
  clear hnx
  have HRL := Lib.hid hRL
  have HFL := Lib.hid hfl
  clear hRL hfl
  go_enter Try.func27, Try.ntmps27
  go_wp2_with fail
  refine HDU.out.mono ?_
  rintro e w1 ⟨rfl, hx1⟩
  obtain ⟨x1, rfl⟩ := ext_of hx1
  clear hx1
  go_wp2_with fail
  refine (HFI.out x1.val x1.ext).mono ?_
  rintro e w2 ⟨rfl, rfl⟩
  go_wp2_with fail
  refine (HNX.out x1.val x1.ext).mono ?_
  rintro e w3 ⟨rfl, v', hB3, hk3, hr3⟩
  have HR3 := Lib.hid hr3
  clear hr3
  have HB3 := Lib.hid hB3
  have HK3 := Lib.hid hk3
  clear hB3 hk3
  have hRb := HB3.out.rf.1
  have lb3 : b < w3.heap.size := (Array.getElem?_eq_some_iff.1 hRb).1
  have hcb3 := fun j => cell_of_row w3 _ j _ _ _ hRb
  obtain ⟨a, cap, rfl, hm, hvw⟩ := own_view HB3.out.rf.2
  have HV := Lib.hid hvw
  have HNow : Hid (∀ w', Ext w3 w' → Calls Try.prog 30 #[.pointer (some ⟨p.bW, 0, none⟩)] w' fun e w'' => e = .returned (.int .i64 R.now) ∧ Ext w' w'') := Lib.hid fun w' e => by rw [HA.out.now]; exact now_ext p v' { W with L := firstL W.S W.L.length W.L } w' (HB3.out.wh.ext e)
  have HLen : Hid (∀ w', Ext w3 w' → Calls Try.prog 38 #[.pointer (some ⟨p.bW, 0, none⟩)] w' fun e w'' => e = .returned (.int .i64 R.L.length) ∧ Ext w' w'') := Lib.hid fun w' e => by rw [HA.out.len]; exact len_ext p v' { W with L := firstL W.S W.L.length W.L } w' (HB3.out.wh.ext e)
  clear hRb hvw hm
  go_wp2_with fail
  refine wp_region_ext (by kernel_rfl) (by kernel_rfl) ?_
  repeat (go_big_quiet_step ((first | (go_at_call 30; exact calls_ext (HNow.out _ (ExtOf.ext _))) | (go_at_call 38; exact calls_ext (HLen.out _ (ExtOf.ext _))))))
  refine wpQuiet_nil ?_
  intro _ hx'
  obtain ⟨z4, rfl⟩ := hx'
  clear HNow HLen
  have HB4 := Lib.hid (HB3.out.ext z4.ext)
  have HK4 := Lib.hid (HK3.out.ext z4.ext)
  go_wp2_with fail
  clear hcb3 lb3
  refine (HLi.out _ _ HB4.out.wh).mono ?_
  rintro e w5 ⟨vl, rfl, ho5, hx5⟩
  have HB5 := Lib.hid (HB4.out.ext hx5)
  have HO5 := Lib.hid ho5
  have HX5 := Lib.hid hx5
  have hb5 := HB5.out.rf.1
  have lb5 : b < w5.heap.size := (Array.getElem?_eq_some_iff.1 hb5).1
  have hcb5 := fun j => cell_of_row w5 _ j _ _ _ hb5
  clear ho5 hx5 hb5
  go_wp2_with fail
  refine (ref_values B _ R.L w5 HB5.out.rf.2 (by omega)).mono ?_
  rintro e w6 ⟨vl2, rfl, ho6, hx6⟩
  have HO6 := Lib.hid (show w6.ownsRow w5.heap.size 9 1 vl2 (R.L.map (·.v)).length (txtCs (R.L.map (·.v))) by rw [List.length_map]; exact ho6)
  have HX6 := Lib.hid hx6
  clear ho6 hx6 hcb5 lb5
  go_wp2_with fail
  refine (ref_texts vl vl2 (R.L.map (·.v)) (R.L.map (·.v)) w6 _ _ (own_ext HO5.out HX6.out) HO6.out).mono ?_
  rintro e w7 ⟨rfl, hx7⟩
  have HX7 := Lib.hid hx7
  clear hx7
  rw [decide_eq_true rfl]
  go_wp2_with fail
  have HY7 := Lib.hid (HX5.out.trans (HX6.out.trans HX7.out))
  have HO7 : Hid (∃ xs, w7.ownsRow z4.val.heap.size 9 1 vl R.L.length xs) := Lib.hid ⟨_, by have := own_ext HO5.out (HX6.out.trans HX7.out); rw [List.length_map] at this; exact this⟩
  have hz4 : b < z4.val.heap.size := by have := HB4.out.rf.lt_all b (.head _); exact this
  obtain ⟨va, vcap, rfl⟩ : ∃ va vcap, vl = .slice va R.L.length vcap := by
    obtain ⟨xs, h⟩ := HO7.out
    obtain ⟨va, vcap, hv, _⟩ := own_view h
    exact ⟨va, vcap, hv⟩
  clear HO5 HO6 HX5 HX6 HX7
  go_loopg [13] R.L.length (fun g i wr => ∃ n : Nat, i = .int .i64 (n : Int) ∧ n + g = R.L.length ∧ Hid (Ext z4.val wr) ∧ Hid (∃ xs, wr.ownsRow z4.val.heap.size 9 1 (.slice va R.L.length vcap) R.L.length xs))
  case atStart => exact ⟨0, rfl, by omega, HY7, HO7⟩
  case round =>
    obtain ⟨n, rfl, hg0, HE, HO⟩ := hrel
    rename World => wr
    by_cases hlt : n < R.L.length
    · exfalso; omega
    · have hlt' : ¬ (n : Int) < (R.L.length : Int) := by omega
      go_wp2_with fail
      have HBr := Lib.hid (HB4.out.ext HE.out)
      have HKr := Lib.hid (HK4.out.ext HE.out)
      have hbr := HBr.out.rf.1
      have lbr : b < wr.heap.size := (Array.getElem?_eq_some_iff.1 hbr).1
      have hcbr := fun j => cell_of_row wr _ j _ _ _ hbr
      clear hbr
      refine wp_region_mixE (af := ?af1) [true, false, true, true, true, true, false, false, false] 131 (by kernel_rfl) rfl (by kernel_rfl) ?q ?r
      case q =>
        intro y
        simp only [pickT, if_true, if_false, Bool.false_eq_true]
        repeat (go_big_quiet_step (fail))
        exact rfl
      case r =>
        simp only [pickF, if_true, if_false, Bool.false_eq_true]
        intro x1
        have e1 : Ext wr x1.val := (Ext.refl _).drew.val x1
        go_wp2_with fail
        refine (HLi.out _ _ (HBr.out.ext e1).wh).mono ?_
        rintro e w8 ⟨vl3, rfl, ho8, hx8⟩
        have e8 : Ext wr w8 := e1.trans hx8
        go_wp2_with fail
        refine ⟨e8, ?_⟩
        intro x2
        have e9 := e8.val x2
        go_wp2_with fail
        refine (ref_values B _ R.L x2.val (HBr.out.ext e9).rf.2 (by omega)).mono ?_
        rintro e w10 ⟨vl4, rfl, ho10, hx10⟩
        have e10 : Ext wr w10 := e9.trans hx10
        go_wp2_with fail
        refine ⟨e10, ?_⟩
        intro x3
        have e11 := e10.val x3
        go_wp2_with fail
        refine (ref_texts vl3 vl4 (R.L.map (·.v)) (R.L.map (·.v)) x3.val _ _ (own_ext ho8 ((x2.ext.trans hx10).trans x3.ext)) (by have := own_ext ho10 x3.ext; rw [List.length_map]; exact this)).mono ?_
        rintro e w12 ⟨rfl, hx12⟩
        have e12 := e11.trans hx12
        rw [decide_eq_true rfl]
        go_wp2_with fail
        refine ⟨e12, ?_⟩
        intro x4
        go_wp2_with fail
        refine ⟨e12.val x4, ?_⟩
        intro x5
        have HF := Lib.hid (HBr.out.ext ((e12.val x4).val x5))
        have HK := Lib.hid (HKr.out.ext ((e12.val x4).val x5))
        clear e12 e11 e10 e9 e8 e1
        go_wp2_with fail
        go_ret
        exact ⟨rfl, _, HF.out, HK.out, HR3.out⟩

set_option maxRecDepth 100000 in
set_option maxHeartbeats 8000000 in
theorem tells_01 (p : At) (v : Value) (W : Wh) (b B : Nat) (u : Value) (R : Rw) (k : Int) (w : World) (I : TellIn p v W b B u R k w) (hg : getT W.S k = none) (y0 : Hd) (L' : List Hd) (t0 : Tr) (L2 : List Tr) (hfl : firstL W.S W.L.length W.L = y0 :: L') (hRL : R.L = t0 :: L2) (hta : (tmAt W.S y0.i).a = t0.a) : Calls Try.prog 27 #[.pointer (some ⟨p.bW, 0, none⟩), .pointer (some ⟨b, 0, none⟩), .int .i64 k] w (Told p v W b B u R w) := by
  have H := Lib.hid I.H
  have HA := Lib.hid I.HA
  have HDU := Lib.hid I.HDU
  have HFI := Lib.hid I.HFI
  have HNX := Lib.hid I.HNX
  have HLi := Lib.hid I.HLi
  have hL9 := I.hL9
  have ha := I.HA
  clear I
  unfold Told
  have hdv : dueV W.S k = .tuple #[.int .i64 0, .bool false] := by unfold dueV; rw [hg]
  have hfi : findI R.L k = -1 := by unfold findI; rw [ha.none hg]
  rw [hdv] at HDU
  rw [hfi] at HFI
  clear hdv hfi hg
  have hnx : nextV W.S (firstL W.S W.L.length W.L) = .tuple #[.int .i64 t0.a, .bool true] := by rw [hfl]; simp only [nextV, hta]
  have l0 : (0 : Int) < (R.L.length : Int) := by rw [hRL]; simp
  have l1 : 0 < R.L.length := by omega
  have l2 : ¬ R.L = [] := by rw [hRL]; simp
  rw [hnx] at HNX
  clear hnx
  have HRL := Lib.hid hRL
  have HFL := Lib.hid hfl
  clear hRL hfl
  go_enter Try.func27, Try.ntmps27
  go_wp2_with fail
  refine HDU.out.mono ?_
  rintro e w1 ⟨rfl, hx1⟩
  obtain ⟨x1, rfl⟩ := ext_of hx1
  clear hx1
  go_wp2_with fail
  refine (HFI.out x1.val x1.ext).mono ?_
  rintro e w2 ⟨rfl, rfl⟩
  go_wp2_with fail
  refine (HNX.out x1.val x1.ext).mono ?_
  rintro e w3 ⟨rfl, v', hB3, hk3, hr3⟩
  have HR3 := Lib.hid hr3
  clear hr3
  have HB3 := Lib.hid hB3
  have HK3 := Lib.hid hk3
  clear hB3 hk3
  have hRb := HB3.out.rf.1
  have lb3 : b < w3.heap.size := (Array.getElem?_eq_some_iff.1 hRb).1
  have hcb3 := fun j => cell_of_row w3 _ j _ _ _ hRb
  obtain ⟨a, cap, rfl, hm, hvw⟩ := own_view HB3.out.rf.2
  have HV := Lib.hid hvw
  have HNow : Hid (∀ w', Ext w3 w' → Calls Try.prog 30 #[.pointer (some ⟨p.bW, 0, none⟩)] w' fun e w'' => e = .returned (.int .i64 R.now) ∧ Ext w' w'') := Lib.hid fun w' e => by rw [HA.out.now]; exact now_ext p v' { W with L := firstL W.S W.L.length W.L } w' (HB3.out.wh.ext e)
  have HLen : Hid (∀ w', Ext w3 w' → Calls Try.prog 38 #[.pointer (some ⟨p.bW, 0, none⟩)] w' fun e w'' => e = .returned (.int .i64 R.L.length) ∧ Ext w' w'') := Lib.hid fun w' e => by rw [HA.out.len]; exact len_ext p v' { W with L := firstL W.S W.L.length W.L } w' (HB3.out.wh.ext e)
  clear hRb hvw hm
  go_wp2_with fail
  refine wp_region_ext (by kernel_rfl) (by kernel_rfl) ?_
  repeat (go_big_quiet_step ((first | (go_at_call 30; exact calls_ext (HNow.out _ (ExtOf.ext _))) | (go_at_call 38; exact calls_ext (HLen.out _ (ExtOf.ext _))))))
  refine wpQuiet_nil ?_
  intro _ hx'
  obtain ⟨z4, rfl⟩ := hx'
  obtain ⟨g, rfl, _, hgl, hcell⟩ := HV.out (by omega)
  obtain ⟨r0, r1, r2⟩ := tr_cells hcell (show R.L[0]? = some t0 by rw [HRL.out]; rfl)
  simp only [Nat.zero_mul, Nat.zero_add] at r0 r1 r2
  clear HNow HLen
  have HB4 := Lib.hid (HB3.out.ext z4.ext)
  have HK4 := Lib.hid (HK3.out.ext z4.ext)
  go_wp2_with fail
  clear hcb3 lb3
  refine (HLi.out _ _ HB4.out.wh).mono ?_
  rintro e w5 ⟨vl, rfl, ho5, hx5⟩
  have HB5 := Lib.hid (HB4.out.ext hx5)
  have HO5 := Lib.hid ho5
  have HX5 := Lib.hid hx5
  have hb5 := HB5.out.rf.1
  have lb5 : b < w5.heap.size := (Array.getElem?_eq_some_iff.1 hb5).1
  have hcb5 := fun j => cell_of_row w5 _ j _ _ _ hb5
  clear ho5 hx5 hb5
  go_wp2_with fail
  refine (ref_values B _ R.L w5 HB5.out.rf.2 (by omega)).mono ?_
  rintro e w6 ⟨vl2, rfl, ho6, hx6⟩
  have HO6 := Lib.hid (show w6.ownsRow w5.heap.size 9 1 vl2 (R.L.map (·.v)).length (txtCs (R.L.map (·.v))) by rw [List.length_map]; exact ho6)
  have HX6 := Lib.hid hx6
  clear ho6 hx6 hcb5 lb5
  go_wp2_with fail
  refine (ref_texts vl vl2 (R.L.map (·.v)) (R.L.map (·.v)) w6 _ _ (own_ext HO5.out HX6.out) HO6.out).mono ?_
  rintro e w7 ⟨rfl, hx7⟩
  have HX7 := Lib.hid hx7
  clear hx7
  rw [decide_eq_true rfl]
  go_wp2_with fail
  have HY7 := Lib.hid (HX5.out.trans (HX6.out.trans HX7.out))
  have HO7 : Hid (∃ xs, w7.ownsRow z4.val.heap.size 9 1 vl R.L.length xs) := Lib.hid ⟨_, by have := own_ext HO5.out (HX6.out.trans HX7.out); rw [List.length_map] at this; exact this⟩
  have hz4 : b < z4.val.heap.size := by have := HB4.out.rf.lt_all b (.head _); exact this
  obtain ⟨va, vcap, rfl⟩ : ∃ va vcap, vl = .slice va R.L.length vcap := by
    obtain ⟨xs, h⟩ := HO7.out
    obtain ⟨va, vcap, hv, _⟩ := own_view h
    exact ⟨va, vcap, hv⟩
  clear HO5 HO6 HX5 HX6 HX7
  go_loopg [13] R.L.length (fun g i wr => ∃ n : Nat, i = .int .i64 (n : Int) ∧ n + g = R.L.length ∧ Hid (Ext z4.val wr) ∧ Hid (∃ xs, wr.ownsRow z4.val.heap.size 9 1 (.slice va R.L.length vcap) R.L.length xs))
  case atStart => exact ⟨0, rfl, by omega, HY7, HO7⟩
  case round =>
    obtain ⟨n, rfl, hg0, HE, HO⟩ := hrel
    rename World => wr
    by_cases hlt : n < R.L.length
    · have hlt' : (n : Int) < (R.L.length : Int) := by omega
      obtain ⟨xs, hown⟩ := HO.out
      obtain ⟨g2, cap2, cur, hv2, hb2, hg2, hn2, hm2, hs2, hx2⟩ : ∃ g cap cur, Value.slice va R.L.length vcap = .slice (some ⟨g, 0, none⟩) R.L.length cap ∧ z4.val.heap.size ≤ g ∧ wr.heap[g]? = some (.cells cur 9 (0, 0)) ∧ R.L.length ≤ cap ∧ cap ≤ maxLen ∧ cur.size = cap * 1 ∧ cur.toList.take (R.L.length * 1) = xs := by
        rcases hown.2 with ⟨_, h0⟩ | h
        · omega
        · exact h
      cases hv2
      have lg2 : g2 < wr.heap.size := (Array.getElem?_eq_some_iff.1 hg2).1
      have hcell2 : wr.cell? ⟨g2, n, none⟩ = some cur[n]! := by
        rw [cell_of_row wr g2 n cur _ _ hg2, getElem!_pos cur n (by omega), Array.getElem?_eq_getElem]
      have hfr2 := frozen_of_row wr g2 n cur _ hg2
      obtain ⟨ys, hys⟩ := own_cell hown n (.string { data := #[63] })
      have HYS := Lib.hid hys
      have HEX := Lib.hid (HE.out.setCell (p := ⟨g2, n, none⟩) hb2 (.string { data := #[63] }))
      clear hown hg2 hx2 hys
      go_wp2_with fail
      go_roundg (gk - 1)
      case rel => exact ⟨n + 1, rfl, by omega, HEX, Lib.hid ⟨ys, HYS.out⟩⟩
      case measure => omega
    · have hlt' : ¬ (n : Int) < (R.L.length : Int) := by omega
      go_wp2_with fail
      have HBr := Lib.hid (HB4.out.ext HE.out)
      have HKr := Lib.hid (HK4.out.ext HE.out)
      have hbr := HBr.out.rf.1
      have lbr : b < wr.heap.size := (Array.getElem?_eq_some_iff.1 hbr).1
      have hcbr := fun j => cell_of_row wr _ j _ _ _ hbr
      clear hbr
      refine wp_region_mixE (af := ?af1) [true, false, true, true, true, true, false, false, false] 131 (by kernel_rfl) rfl (by kernel_rfl) ?q ?r
      case q =>
        intro y
        simp only [pickT, if_true, if_false, Bool.false_eq_true]
        repeat (go_big_quiet_step (fail))
        exact rfl
      case r =>
        simp only [pickF, if_true, if_false, Bool.false_eq_true]
        intro x1
        have e1 : Ext wr x1.val := (Ext.refl _).drew.val x1
        go_wp2_with fail
        refine (HLi.out _ _ (HBr.out.ext e1).wh).mono ?_
        rintro e w8 ⟨vl3, rfl, ho8, hx8⟩
        have e8 : Ext wr w8 := e1.trans hx8
        go_wp2_with fail
        refine ⟨e8, ?_⟩
        intro x2
        have e9 := e8.val x2
        go_wp2_with fail
        refine (ref_values B _ R.L x2.val (HBr.out.ext e9).rf.2 (by omega)).mono ?_
        rintro e w10 ⟨vl4, rfl, ho10, hx10⟩
        have e10 : Ext wr w10 := e9.trans hx10
        go_wp2_with fail
        refine ⟨e10, ?_⟩
        intro x3
        have e11 := e10.val x3
        go_wp2_with fail
        refine (ref_texts vl3 vl4 (R.L.map (·.v)) (R.L.map (·.v)) x3.val _ _ (own_ext ho8 ((x2.ext.trans hx10).trans x3.ext)) (by have := own_ext ho10 x3.ext; rw [List.length_map]; exact this)).mono ?_
        rintro e w12 ⟨rfl, hx12⟩
        have e12 := e11.trans hx12
        rw [decide_eq_true rfl]
        go_wp2_with fail
        refine ⟨e12, ?_⟩
        intro x4
        go_wp2_with fail
        refine ⟨e12.val x4, ?_⟩
        intro x5
        have HF := Lib.hid (HBr.out.ext ((e12.val x4).val x5))
        have HK := Lib.hid (HKr.out.ext ((e12.val x4).val x5))
        clear e12 e11 e10 e9 e8 e1
        go_wp2_with fail
        go_ret
        exact ⟨rfl, _, HF.out, HK.out, HR3.out⟩

set_option maxRecDepth 100000 in
set_option maxHeartbeats 8000000 in
theorem tells_10 (p : At) (v : Value) (W : Wh) (b B : Nat) (u : Value) (R : Rw) (k : Int) (w : World) (I : TellIn p v W b B u R k w) (t : Tm) (hg : getT W.S k = some t) (hfl : firstL W.S W.L.length W.L = []) (hRL : R.L = []) : Calls Try.prog 27 #[.pointer (some ⟨p.bW, 0, none⟩), .pointer (some ⟨b, 0, none⟩), .int .i64 k] w (Told p v W b B u R w) := by
  have H := Lib.hid I.H
  have HA := Lib.hid I.HA
  have HDU := Lib.hid I.HDU
  have HFI := Lib.hid I.HFI
  have HNX := Lib.hid I.HNX
  have HLi := Lib.hid I.HLi
  have hL9 := I.hL9
  have ha := I.HA
  clear I
  unfold Told
  exfalso
  obtain ⟨i, hf, hi, _⟩ := ha.some hg
  rw [hRL] at hi
  simp at hi

set_option maxRecDepth 100000 in
set_option maxHeartbeats 8000000 in
theorem tells_11 (p : At) (v : Value) (W : Wh) (b B : Nat) (u : Value) (R : Rw) (k : Int) (w : World) (I : TellIn p v W b B u R k w) (t : Tm) (hg : getT W.S k = some t) (y0 : Hd) (L' : List Hd) (t0 : Tr) (L2 : List Tr) (hfl : firstL W.S W.L.length W.L = y0 :: L') (hRL : R.L = t0 :: L2) (hta : (tmAt W.S y0.i).a = t0.a) : Calls Try.prog 27 #[.pointer (some ⟨p.bW, 0, none⟩), .pointer (some ⟨b, 0, none⟩), .int .i64 k] w (Told p v W b B u R w) := by
  have H := Lib.hid I.H
  have HA := Lib.hid I.HA
  have HDU := Lib.hid I.HDU
  have HFI := Lib.hid I.HFI
  have HNX := Lib.hid I.HNX
  have HLi := Lib.hid I.HLi
  have hL9 := I.hL9
  have ha := I.HA
  clear I
  unfold Told
  have hdv : dueV W.S k = .tuple #[.int .i64 t.a, .bool true] := by unfold dueV; rw [hg]
  obtain ⟨i, hf, hi, _⟩ := ha.some hg
  have hfi : findI R.L k = i := by unfold findI; rw [hf]
  have i0 : (0 : Int) ≤ (i : Int) := by omega
  have i1 : i < R.L.length := (List.getElem?_eq_some_iff.1 hi).1
  have HI := Lib.hid hi
  clear hf hi
  rw [hdv] at HDU
  rw [hfi] at HFI
  clear hdv hfi hg
  have hnx : nextV W.S (firstL W.S W.L.length W.L) = .tuple #[.int .i64 t0.a, .bool true] := by rw [hfl]; simp only [nextV, hta]
  have l0 : (0 : Int) < (R.L.length : Int) := by rw [hRL]; simp
  have l1 : 0 < R.L.length := by omega
  have l2 : ¬ R.L = [] := by rw [hRL]; simp
  rw [hnx] at HNX
  clear hnx
  have HRL := Lib.hid hRL
  have HFL := Lib.hid hfl
  clear hRL hfl
  go_enter Try.func27, Try.ntmps27
  go_wp2_with fail
  refine HDU.out.mono ?_
  rintro e w1 ⟨rfl, hx1⟩
  obtain ⟨x1, rfl⟩ := ext_of hx1
  clear hx1
  go_wp2_with fail
  refine (HFI.out x1.val x1.ext).mono ?_
  rintro e w2 ⟨rfl, rfl⟩
  go_wp2_with fail
  refine (HNX.out x1.val x1.ext).mono ?_
  rintro e w3 ⟨rfl, v', hB3, hk3, hr3⟩
  have HR3 := Lib.hid hr3
  clear hr3
  have HB3 := Lib.hid hB3
  have HK3 := Lib.hid hk3
  clear hB3 hk3
  have hRb := HB3.out.rf.1
  have lb3 : b < w3.heap.size := (Array.getElem?_eq_some_iff.1 hRb).1
  have hcb3 := fun j => cell_of_row w3 _ j _ _ _ hRb
  obtain ⟨a, cap, rfl, hm, hvw⟩ := own_view HB3.out.rf.2
  have HV := Lib.hid hvw
  have HNow : Hid (∀ w', Ext w3 w' → Calls Try.prog 30 #[.pointer (some ⟨p.bW, 0, none⟩)] w' fun e w'' => e = .returned (.int .i64 R.now) ∧ Ext w' w'') := Lib.hid fun w' e => by rw [HA.out.now]; exact now_ext p v' { W with L := firstL W.S W.L.length W.L } w' (HB3.out.wh.ext e)
  have HLen : Hid (∀ w', Ext w3 w' → Calls Try.prog 38 #[.pointer (some ⟨p.bW, 0, none⟩)] w' fun e w'' => e = .returned (.int .i64 R.L.length) ∧ Ext w' w'') := Lib.hid fun w' e => by rw [HA.out.len]; exact len_ext p v' { W with L := firstL W.S W.L.length W.L } w' (HB3.out.wh.ext e)
  clear hRb hvw hm
  go_wp2_with fail
  refine wp_region_ext (by kernel_rfl) (by kernel_rfl) ?_
  repeat (go_big_quiet_step ((first | (go_at_call 30; exact calls_ext (HNow.out _ (ExtOf.ext _))) | (go_at_call 38; exact calls_ext (HLen.out _ (ExtOf.ext _))))))
  refine wpQuiet_nil ?_
  intro _ hx'
  obtain ⟨z4, rfl⟩ := hx'
  obtain ⟨g, rfl, _, hgl, hcell⟩ := HV.out (by omega)
  obtain ⟨q0, q1, q2⟩ := tr_cells hcell HI.out
  have hil : (i : Int) < (R.L.length : Int) := by omega
  have hta1 : t.tr.a = t.a := rfl
  rw [hta1] at q1
  clear hta1
  obtain ⟨r0, r1, r2⟩ := tr_cells hcell (show R.L[0]? = some t0 by rw [HRL.out]; rfl)
  simp only [Nat.zero_mul, Nat.zero_add] at r0 r1 r2
  clear HNow HLen
  have HB4 := Lib.hid (HB3.out.ext z4.ext)
  have HK4 := Lib.hid (HK3.out.ext z4.ext)
  go_wp2_with fail
  clear hcb3 lb3
  refine (HLi.out _ _ HB4.out.wh).mono ?_
  rintro e w5 ⟨vl, rfl, ho5, hx5⟩
  have HB5 := Lib.hid (HB4.out.ext hx5)
  have HO5 := Lib.hid ho5
  have HX5 := Lib.hid hx5
  have hb5 := HB5.out.rf.1
  have lb5 : b < w5.heap.size := (Array.getElem?_eq_some_iff.1 hb5).1
  have hcb5 := fun j => cell_of_row w5 _ j _ _ _ hb5
  clear ho5 hx5 hb5
  go_wp2_with fail
  refine (ref_values B _ R.L w5 HB5.out.rf.2 (by omega)).mono ?_
  rintro e w6 ⟨vl2, rfl, ho6, hx6⟩
  have HO6 := Lib.hid (show w6.ownsRow w5.heap.size 9 1 vl2 (R.L.map (·.v)).length (txtCs (R.L.map (·.v))) by rw [List.length_map]; exact ho6)
  have HX6 := Lib.hid hx6
  clear ho6 hx6 hcb5 lb5
  go_wp2_with fail
  refine (ref_texts vl vl2 (R.L.map (·.v)) (R.L.map (·.v)) w6 _ _ (own_ext HO5.out HX6.out) HO6.out).mono ?_
  rintro e w7 ⟨rfl, hx7⟩
  have HX7 := Lib.hid hx7
  clear hx7
  rw [decide_eq_true rfl]
  go_wp2_with fail
  have HY7 := Lib.hid (HX5.out.trans (HX6.out.trans HX7.out))
  have HO7 : Hid (∃ xs, w7.ownsRow z4.val.heap.size 9 1 vl R.L.length xs) := Lib.hid ⟨_, by have := own_ext HO5.out (HX6.out.trans HX7.out); rw [List.length_map] at this; exact this⟩
  have hz4 : b < z4.val.heap.size := by have := HB4.out.rf.lt_all b (.head _); exact this
  obtain ⟨va, vcap, rfl⟩ : ∃ va vcap, vl = .slice va R.L.length vcap := by
    obtain ⟨xs, h⟩ := HO7.out
    obtain ⟨va, vcap, hv, _⟩ := own_view h
    exact ⟨va, vcap, hv⟩
  clear HO5 HO6 HX5 HX6 HX7
  go_loopg [13] R.L.length (fun g i wr => ∃ n : Nat, i = .int .i64 (n : Int) ∧ n + g = R.L.length ∧ Hid (Ext z4.val wr) ∧ Hid (∃ xs, wr.ownsRow z4.val.heap.size 9 1 (.slice va R.L.length vcap) R.L.length xs))
  case atStart => exact ⟨0, rfl, by omega, HY7, HO7⟩
  case round =>
    obtain ⟨n, rfl, hg0, HE, HO⟩ := hrel
    rename World => wr
    by_cases hlt : n < R.L.length
    · have hlt' : (n : Int) < (R.L.length : Int) := by omega
      obtain ⟨xs, hown⟩ := HO.out
      obtain ⟨g2, cap2, cur, hv2, hb2, hg2, hn2, hm2, hs2, hx2⟩ : ∃ g cap cur, Value.slice va R.L.length vcap = .slice (some ⟨g, 0, none⟩) R.L.length cap ∧ z4.val.heap.size ≤ g ∧ wr.heap[g]? = some (.cells cur 9 (0, 0)) ∧ R.L.length ≤ cap ∧ cap ≤ maxLen ∧ cur.size = cap * 1 ∧ cur.toList.take (R.L.length * 1) = xs := by
        rcases hown.2 with ⟨_, h0⟩ | h
        · omega
        · exact h
      cases hv2
      have lg2 : g2 < wr.heap.size := (Array.getElem?_eq_some_iff.1 hg2).1
      have hcell2 : wr.cell? ⟨g2, n, none⟩ = some cur[n]! := by
        rw [cell_of_row wr g2 n cur _ _ hg2, getElem!_pos cur n (by omega), Array.getElem?_eq_getElem]
      have hfr2 := frozen_of_row wr g2 n cur _ hg2
      obtain ⟨ys, hys⟩ := own_cell hown n (.string { data := #[63] })
      have HYS := Lib.hid hys
      have HEX := Lib.hid (HE.out.setCell (p := ⟨g2, n, none⟩) hb2 (.string { data := #[63] }))
      clear hown hg2 hx2 hys
      go_wp2_with fail
      go_roundg (gk - 1)
      case rel => exact ⟨n + 1, rfl, by omega, HEX, Lib.hid ⟨ys, HYS.out⟩⟩
      case measure => omega
    · have hlt' : ¬ (n : Int) < (R.L.length : Int) := by omega
      go_wp2_with fail
      have HBr := Lib.hid (HB4.out.ext HE.out)
      have HKr := Lib.hid (HK4.out.ext HE.out)
      have hbr := HBr.out.rf.1
      have lbr : b < wr.heap.size := (Array.getElem?_eq_some_iff.1 hbr).1
      have hcbr := fun j => cell_of_row wr _ j _ _ _ hbr
      clear hbr
      refine wp_region_mixE (af := ?af1) [true, false, true, true, true, true, false, false, false] 131 (by kernel_rfl) rfl (by kernel_rfl) ?q ?r
      case q =>
        intro y
        simp only [pickT, if_true, if_false, Bool.false_eq_true]
        repeat (go_big_quiet_step (fail))
        exact rfl
      case r =>
        simp only [pickF, if_true, if_false, Bool.false_eq_true]
        intro x1
        have e1 : Ext wr x1.val := (Ext.refl _).drew.val x1
        go_wp2_with fail
        refine (HLi.out _ _ (HBr.out.ext e1).wh).mono ?_
        rintro e w8 ⟨vl3, rfl, ho8, hx8⟩
        have e8 : Ext wr w8 := e1.trans hx8
        go_wp2_with fail
        refine ⟨e8, ?_⟩
        intro x2
        have e9 := e8.val x2
        go_wp2_with fail
        refine (ref_values B _ R.L x2.val (HBr.out.ext e9).rf.2 (by omega)).mono ?_
        rintro e w10 ⟨vl4, rfl, ho10, hx10⟩
        have e10 : Ext wr w10 := e9.trans hx10
        go_wp2_with fail
        refine ⟨e10, ?_⟩
        intro x3
        have e11 := e10.val x3
        go_wp2_with fail
        refine (ref_texts vl3 vl4 (R.L.map (·.v)) (R.L.map (·.v)) x3.val _ _ (own_ext ho8 ((x2.ext.trans hx10).trans x3.ext)) (by have := own_ext ho10 x3.ext; rw [List.length_map]; exact this)).mono ?_
        rintro e w12 ⟨rfl, hx12⟩
        have e12 := e11.trans hx12
        rw [decide_eq_true rfl]
        go_wp2_with fail
        refine ⟨e12, ?_⟩
        intro x4
        go_wp2_with fail
        refine ⟨e12.val x4, ?_⟩
        intro x5
        have HF := Lib.hid (HBr.out.ext ((e12.val x4).val x5))
        have HK := Lib.hid (HKr.out.ext ((e12.val x4).val x5))
        clear e12 e11 e10 e9 e8 e1
        go_wp2_with fail
        go_ret
        exact ⟨rfl, _, HF.out, HK.out, HR3.out⟩

theorem tells_any (p : At) (v : Value) (W : Wh) (b B : Nat) (u : Value) (R : Rw) (k : Int) (w : World) (h : Both p v W b B u R w) (ha : Agree W R) (hs : Small W 1000) (ho : OrdOk W) :
    Calls Try.prog 27 #[.pointer (some ⟨p.bW, 0, none⟩), .pointer (some ⟨b, 0, none⟩), .int .i64 k] w (Told p v W b B u R w) := by
  have H := Lib.hid h
  have HFI : Hid (∀ w', Ext w w' → Calls Try.prog 56 #[.pointer (some ⟨b, 0, none⟩), .int .i64 k] w' fun e w'' => e = .returned (.int .i64 (findI R.L k)) ∧ w'' = w') := Lib.hid fun w' e => ref_find b B u R k w' (H.out.rf.ext e)
  have HNX : Hid (∀ w', Ext w w' → Calls Try.prog 36 #[.pointer (some ⟨p.bW, 0, none⟩)] w' fun e w'' => e = .returned (nextV W.S (firstL W.S W.L.length W.L)) ∧ ∃ v', Both p v' { W with L := firstL W.S W.L.length W.L } b B u R w'' ∧ Keeps (p.all v) w w'' ∧ rowB v' = rowB v) := Lib.hid fun w' e => by
    have hb := H.out.ext e
    refine (next_string p v W w' hb.wh hb.pB (by have := hs.L; omega)).mono ?_
    rintro e2 w2 ⟨h1, v', h2, h3, h4⟩
    have h5 : Keeps (p.all v) w' w2 := h3.mono fun k hk => by
      simp only [At.all, List.mem_cons] at hk ⊢
      rcases hk with h | h <;> simp [h]
    exact ⟨h1, v', hb.wheel h2 h5 (fun g hg => .inl (by rw [← h4]; exact hg)), ((Keeps.refl _ w).ext e).trans h5, h4⟩
  have HLi : Hid (∀ v1 w', WheelW 101 47 p v1 { W with L := firstL W.S W.L.length W.L } w' → Calls Try.prog 57 #[.pointer (some ⟨p.bW, 0, none⟩)] w' fun e w'' => ∃ vl, e = .returned vl ∧ w''.ownsRow w'.heap.size 9 1 vl (R.L.map (·.v)).length (txtCs (R.L.map (·.v))) ∧ Ext w' w'') := Lib.hid fun v1 w' hw => by
    obtain ⟨D, d1, d2, d3⟩ := ha.ex
    have := list_string p v1 { W with L := firstL W.S W.L.length W.L } D w' hw (by have := hs.S; simp only; omega) (fun k => ord_tmZ ha.inv ho hs (by omega) k) ha.inv.nodup d1 d2
    rw [d3]
    simp only [List.map_map, List.length_map, Function.comp_def]
    exact this
  have hL9 : R.L.length ≤ 1000 := by rw [ha.len]; exact hs.S
  obtain ⟨_, hnx0⟩ := next_agree ha
  have I : TellIn p v W b B u R k w := ⟨h, ha, due_string p v W k w h.wh, HFI.out, HNX.out, HLi.out, hL9⟩
  rcases hg : getT W.S k with _ | t <;> rcases hnx0 with ⟨hfl, hRL⟩ | ⟨y0, L', t0, L2, hfl, hRL, hta⟩
  · exact tells_00 p v W b B u R k w I hg hfl hRL
  · exact tells_01 p v W b B u R k w I hg y0 L' t0 L2 hfl hRL hta
  · exact tells_10 p v W b B u R k w I t hg hfl hRL
  · exact tells_11 p v W b B u R k w I t hg y0 L' t0 L2 hfl hRL hta
end Go.Proofs.Ytibdplfdmncgiaa

/-
  live() runs to true; num hands back what it gets. No condition.
-/
namespace Go.Proofs.Ytibdplfdmncgiaa
open Go.RowKit

set_option maxRecDepth 1000000 in
theorem live_run : E.isTrue (E.callN Try.prog E.X0 E.FT 100 100 8 [] ⟨0, []⟩) = true := by kernel_rfl

theorem live_any (w : World) : Calls Try.prog 8 #[] w fun e w' => e = .returned (.bool true) ∧ Ext w w' := E.calls_true live_run w

theorem num_any (x : Int) (w : World) : Calls Try.prog 11 #[.int .i64 x] w fun e w' => e = .returned (.int .i64 x) ∧ w' = w := by
  go_enter Try.func11, Try.ntmps11
  go_wp2_with fail
  go_ret
  exact ⟨rfl, rfl⟩

/-- All blocks of a wheel are new. -/
theorem all_new {T : TypeId} {f : FuncId} {p : At} {v : Value} {W : Wh} {w : World} (h : WheelW T f p v W w) {n : Nat} (hn : n ≤ p.bM) : ∀ k ∈ p.all v, n ≤ k := fun k hk => by
  have hM := p.hM
  have hH := p.hH
  have hB := p.hW
  have hg := rowB_ge h.2.2
  simp only [At.all, List.mem_cons] at hk
  rcases hk with rfl | rfl | rfl | hk
  · omega
  · omega
  · omega
  · have := hg k hk; omega

theorem keeps_ext2 {X : List Nat} {w a b : World} (h : Ext w a) (hx : ∀ k ∈ X, w.heap.size ≤ k) (hk : Keeps X a b) : Ext w b :=
  ⟨hk.os.trans h.os, hk.tape.trans h.tape, hk.output.trans h.output, Nat.le_trans h.size hk.size, fun k hk2 => (hk.block k (Nat.lt_of_lt_of_le hk2 h.size) (fun hm => by have := hx k hm; omega)).trans (h.block k hk2)⟩

/-- A row of numbers that a turn hands back: nil, or one that lies somewhere. -/
theorem own_txts {w : World} {B n : Nat} {e : TypeId} {v : Value} {l : List ByteArray} (h : w.ownsRow B e 1 v n (txtCs l)) : (v = .slice none 0 0 ∧ l = [] ∧ n = 0) ∨
    ∃ g cap, v = .slice (some ⟨g, 0, none⟩) n cap ∧ B ≤ g ∧ n = l.length ∧ ∀ (j : Nat) (x : ByteArray), l[j]? = some x → w.cell? ⟨g, j, none⟩ = some (.string x) := by
  have hl : l.length = n := by have := h.1; simpa [txtCs] using this
  rcases h.2 with ⟨hv, hn⟩ | ⟨g, cap, cur, hv, hb, hg, hc, hcm, hs, ht⟩
  · exact .inl ⟨hv, by cases l with | nil => rfl | cons => simp [hn] at hl, hn⟩
  · refine .inr ⟨g, cap, hv, hb, hl.symm, fun j x hj => ?_⟩
    have hlt : j < l.length := (List.getElem?_eq_some_iff.1 hj).1
    have hcur : cur[j]? = some (.string x) := by
      have h1 : (txtCs l)[j]? = some (.string x) := by simp [txtCs, hj]
      rw [← ht, List.getElem?_take_of_lt (by omega)] at h1
      simpa using h1
    have := cell_of_row w g j _ _ _ hg
    rw [this]
    simpa using hcur
end Go.Proofs.Ytibdplfdmncgiaa

/-
  Walk: the law's act, any; 'long'. No condition.
-/
namespace Go.Proofs.Ytibdplfdmncgiaa
open Go.RowKit
attribute [local go_sem] ExtOf.cell ExtOf.frozen ExtOf.lt ExtOf.le
attribute [local go_sem high] ExtOf.cell2 ExtOf.frozen2 ExtOf.lt2 ExtOf.cell3 ExtOf.frozen3 ExtOf.lt3

set_option maxRecDepth 100000 in
set_option maxHeartbeats 8000000 in
theorem act_other (p : At) (v : Value) (W : Wh) (b B : Nat) (u : Value) (R : Rw) (x : Ac) (h1 : ¬ x.k = 1) (h2 : ¬ x.k = 2) (h3 : ¬ x.k = 3) (h4 : ¬ x.k = 4) (h5 : ¬ x.k = 5) (h6 : ¬ x.k = 6) (n : Nat) (w : World) (h : Both p v W b B u R w) (ha : Agree W R) (hs : Small W n) (ho : OrdOk W) :
    Calls Try.prog 26 #[.pointer (some ⟨p.bW, 0, none⟩), .pointer (some ⟨b, 0, none⟩), x.val] w (Acted p v b B u n w) := by
  obtain ⟨k, at_, id, s⟩ := x
  simp only at h1 h2 h3 h4 h5 h6
  unfold Ac.val
  simp only
  have H := Lib.hid h
  have HA := Lib.hid ha
  have HS := Lib.hid hs
  have HO := Lib.hid ho
  clear h ha hs ho
  unfold Acted
  go_enter Try.func26, Try.ntmps26
  go_wp2_with fail
  go_ret
  exact ⟨rfl, v, W, u, R, H.out.ext ((Ext.refl w).alloc _), HA.out, HS.out.mono (Nat.le_succ n), HO.out, (Keeps.refl _ _).ext ((Ext.refl w).alloc _), fun _ hg => .inl hg, fun _ hg => .inl hg⟩

theorem act_still (p : At) (v : Value) (W : Wh) (b B : Nat) (u : Value) (R : Rw) (x : Ac) (n : Nat) (hn : n ≤ 1000) (w : World) (h : Both p v W b B u R w) (ha : Agree W R) (hs : Small W n) (ho : OrdOk W) (h5 : ¬ x.k = 5) (h6 : ¬ x.k = 6) :
    Calls Try.prog 26 #[.pointer (some ⟨p.bW, 0, none⟩), .pointer (some ⟨b, 0, none⟩), x.val] w (Acted p v b B u n w) := by
  by_cases h1 : x.k = 1
  · exact act_set p v W b B u R x h1 n hn w h ha hs ho
  by_cases h2 : x.k = 2
  · exact act_after p v W b B u R x h2 n hn w h ha hs ho
  by_cases h3 : x.k = 3
  · exact act_cancel p v W b B u R x h3 n hn w h ha hs ho
  by_cases h4 : x.k = 4
  · exact act_move p v W b B u R x h4 n hn w h ha hs ho
  exact act_other p v W b B u R x h1 h2 h3 h4 h5 h6 n w h ha hs ho
theorem act_any (p : At) (v : Value) (W : Wh) (b B : Nat) (u : Value) (R : Rw) (x : Ac) (n : Nat) (hn : n ≤ 1000) (w : World) (h : Both p v W b B u R w) (ha : Agree W R) (hs : Small W n) (ho : OrdOk W) (hc : p.cv = .slice none 0 0) :
    Calls Try.prog 26 #[.pointer (some ⟨p.bW, 0, none⟩), .pointer (some ⟨b, 0, none⟩), x.val] w (Acted p v b B u n w) := by
  by_cases h5 : x.k = 5
  · exact act_tick p v W b B u R x h5 n hn w h ha hs ho hc
  by_cases h6 : x.k = 6
  · exact act_turn p v W b B u R x h6 n hn w h ha hs ho hc
  exact act_still p v W b B u R x n hn w h ha hs ho h5 h6

theorem row_view {w : World} {size : Nat} {v : Value} {n : Nat} {xs : List Value} (h : Row w size v n xs) :
    ∃ a cap, v = .slice a n cap ∧ n ≤ maxLen ∧ (0 < n → ∃ g off, a = some ⟨g, off, none⟩ ∧ (0 < size → g < w.heap.size) ∧ ∀ j u, xs[j]? = some u → w.cell? ⟨g, off + j, none⟩ = some u) := by
  obtain ⟨hl, h0⟩ := h
  rcases h0 with ⟨hn, a, c, hv⟩ | ⟨g, off, cap, hv, hm, hc⟩
  · exact ⟨a, c, by rw [hv, hn], by omega, fun h => by omega⟩
  · refine ⟨_, cap, hv, hm, fun hn => ⟨g, off, rfl, fun hs => ?_, hc⟩⟩
    have h0 : 0 < xs.length := by rw [hl]; exact Nat.mul_pos hn hs
    have := hc 0 _ (List.getElem?_eq_getElem h0)
    exact World.block_lt_of_cell? w _ this

def Ac.cs (x : Ac) : List Value := [.int .i64 x.k, .int .i64 x.a, .int .i64 x.id, .string x.v]
theorem ac_cells {w : World} {g off : Nat} {L : List Ac} {k : Nat} {x : Ac} (h : ∀ j u, (L.flatMap Ac.cs)[j]? = some u → w.cell? ⟨g, off + j, none⟩ = some u) (hx : L[k]? = some x) :
    w.cell? ⟨g, off + k * 4, none⟩ = some (.int .i64 x.k) ∧ w.cell? ⟨g, off + k * 4 + 1, none⟩ = some (.int .i64 x.a) ∧ w.cell? ⟨g, off + k * 4 + 2, none⟩ = some (.int .i64 x.id) ∧ w.cell? ⟨g, off + k * 4 + 3, none⟩ = some (.string x.v) := by
  have key := fun j hj => flat_get Ac.cs 4 (fun _ => rfl) L k x hx j hj
  refine ⟨h _ _ (key 0 (by omega)), ?_, ?_, ?_⟩
  · rw [Nat.add_assoc]; exact h _ _ (key 1 (by omega))
  · rw [Nat.add_assoc]; exact h _ _ (key 2 (by omega))
  · rw [Nat.add_assoc]; exact h _ _ (key 3 (by omega))

/-- What long says: never 'no' of more than eighty. -/
def Longs (w : World) (n : Nat) (e : Ending) (w' : World) : Prop := ∃ b : Bool, e = .returned (.bool b) ∧ (b = false → n ≤ 80) ∧ Ext w w'

set_option maxRecDepth 100000 in
set_option maxHeartbeats 1600000 in
theorem ac_long (v : Value) (L : List Ac) (w : World) (hR : Row w 4 v L.length (L.flatMap Ac.cs)) :
    Calls Try.prog 24 #[v] w (Longs w L.length) := by
  obtain ⟨a, cap, rfl, hm, hvw⟩ := row_view hR
  have HV := Lib.hid hvw
  clear hvw hR
  unfold maxLen at hm
  go_enter Try.func24, Try.ntmps24
  go_wp2_with fail
  go_loopg [3, 4] L.length (fun g s i wr => ∃ (k : Nat) (N : Int) (y : ExtOf w), k + g = L.length ∧ k ≤ 81 ∧ i = .int .i64 (k : Int) ∧ s = .int .i64 N ∧ wr = y.val)
  case atStart => exact ⟨0, 0, ⟨w, Ext.refl _⟩, by omega, by omega, rfl, rfl, rfl⟩
  case round =>
    obtain ⟨k, N, y, hk, hk61, rfl, rfl, rfl⟩ := hrel
    by_cases h1 : k < L.length
    · by_cases h2 : k ≤ 80
      · obtain ⟨g, off, rfl, hg, hcell⟩ := HV.out (by omega)
        have hg' := hg (by omega)
        obtain ⟨x, hx⟩ : ∃ x, L[k]? = some x := ⟨_, List.getElem?_eq_getElem h1⟩
        obtain ⟨-, -, -, q3⟩ := ac_cells hcell hx
        clear hx hcell hg
        have i1 : (k : Int) < (L.length : Int) := by omega
        have i2 : (k : Int) ≤ 80 := by omega
        go_wp2_with fail
        go_roundg (gk - 1)
        case rel => exact ⟨k + 1, _, y, by omega, by omega, rfl, rfl, rfl⟩
        case measure => omega
      · have i1 : (k : Int) < (L.length : Int) := by omega
        have i2 : ¬ (k : Int) ≤ 80 := by omega
        have i3 : (80 : Int) < (L.length : Int) := by omega
        go_wp2_with fail
        go_ret
        exact ⟨true, rfl, fun h => absurd h (by simp), y.ext⟩
    · have i1 : ¬ (k : Int) < (L.length : Int) := by omega
      by_cases i3 : (80 : Int) < (L.length : Int)
      · go_wp2_with fail
        go_ret
        exact ⟨true, rfl, fun h => absurd h (by simp), y.ext⟩
      · go_wp2_with fail
        go_ret
        exact ⟨_, rfl, fun _ => by omega, y.ext⟩
end Go.Proofs.Ytibdplfdmncgiaa
