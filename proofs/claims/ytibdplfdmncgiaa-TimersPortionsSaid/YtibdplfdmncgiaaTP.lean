/-
  Walk: the law TimersPortions. No condition.
-/
import Derived.Test.YtibdplfdmncgiaaTO
import Derived.Test.YtibdplfdmncgiaaTN
import Derived.Test.YtibdplfdmncgiaaTQ
set_option linter.all false
namespace Go.Proofs.Ytibdplfdmncgiaa
open Go.RowKit
attribute [local go_sem] ExtOf.cell ExtOf.frozen ExtOf.lt ExtOf.le
attribute [local go_sem high] ExtOf.cell2 ExtOf.frozen2 ExtOf.lt2 ExtOf.cell3 ExtOf.frozen3 ExtOf.lt3 ExtOf.cellX ExtOf.frozenX ExtOf.cellX' ExtOf.frozenX'

/-- What a row of numbers that is read looks like. -/
theorem row_view {w : World} {v : Value} {L : List Int} (hR : Row w 1 v L.length (intCs L)) : ∃ a cap, v = .slice a L.length cap ∧ (0 < L.length → ∃ g off, a = some ⟨g, off, none⟩ ∧ ∀ j x, L[j]? = some x → w.cell? ⟨g, off + j, none⟩ = some (.int .i64 x)) := by
  rcases hR.2 with ⟨hn, a, c, hv⟩ | ⟨g, off, cap, hv, hm, hc⟩
  · exact ⟨a, c, by rw [hv, hn], fun h => by omega⟩
  · exact ⟨_, cap, hv, fun _ => ⟨g, off, rfl, fun j x hj => hc j _ (by simp [intCs, hj])⟩⟩

theorem num_ext (x : Int) (w : World) : Calls Try.prog 11 #[.int .i64 x] w fun e w' => e = .returned (.int .i64 x) ∧ Ext w w' := (num_any x w).mono fun _ _ ⟨he, hw⟩ => ⟨he, by rw [hw]; exact Ext.refl _⟩

theorem apart_all {p : At} {X : List Nat} {v v' : Value} {n : Nat} (hd : ∀ g ∈ X, g ∉ p.all v) (hlt : ∀ g ∈ X, g < n) (hr : ∀ g ∈ rowB v', g ∈ rowB v ∨ n ≤ g) : ∀ g ∈ X, g ∉ p.all v' := fun g hg hm => by
  have h1 := hd g hg
  simp only [At.all, List.mem_cons, not_or] at h1 hm
  rcases hm with h | h | h | h
  · exact h1.1 h
  · exact h1.2.1 h
  · exact h1.2.2.1 h
  · rcases hr g h with h | h
    · exact h1.2.2.2 h
    · have := hlt g hg; omega

theorem all_congr {p : At} {v v' : Value} (h : rowB v' = rowB v) : p.all v' = p.all v := by unfold At.all; rw [h]

theorem intCs_app (a b : List Int) : intCs (a ++ b) = intCs a ++ intCs b := by simp [intCs]
theorem intCs_one (l : List Int) : ∀ u ∈ intCs l, u.oneCell' = true := fun u hu => by
  obtain ⟨x, _, rfl⟩ := List.mem_map.1 hu
  simp [Value.oneCell']
theorem own_nil_or {w : World} {B n : Nat} {e : TypeId} {size : Nat} {v : Value} {xs : List Value} (h : w.ownsRow B e size v n xs) : v = .slice none 0 0 ∨ ∃ a n c, v = .slice (some a) n c := by
  rcases h.2 with ⟨hv, _⟩ | ⟨g, cap, cur, hv, _⟩
  · exact .inl hv
  · exact .inr ⟨_, _, _, hv⟩

theorem apart_sym {X Y : List Nat} (h : ∀ g ∈ X, g ∉ Y) : ∀ g ∈ Y, g ∉ X := fun g hg hm => h g hm hg

theorem wheel_keeps {T : TypeId} {f : FuncId} {p : At} {v : Value} {W : Wh} {w w' : World} {X : List Nat} (h : WheelW T f p v W w) (hB : p.B ≤ w.heap.size) (hk : Keeps X w w') (hd : ∀ g ∈ p.all v, g ∉ X) : WheelW T f p v W w' :=
  wheel_blocks h fun k hm => hk.block k (all_lt2 h hB k hm) (hd k hm)

set_option maxRecDepth 100000 in
set_option maxHeartbeats 1600000 in
theorem port_loop (tv pv : Value) (L P : List Int) (w : World) (hR : Row w 1 tv L.length (intCs L)) (hP : Row w 1 pv P.length (intCs P)) (h80 : L.length ≤ 80) (p80 : P.length ≤ 80) (hwf : ∀ z ∈ P, (Lit.int .i64 z).wf = true) :
    Calls Try.prog 3 #[tv, pv] w fun e w' => e = .returned (.bool true) ∧ Ext w w' := by
  obtain ⟨ti0, hi, hz0, hz1, hz2⟩ := info_parts info_v_int64
  have HPR := Lib.hid hP
  have HWF := Lib.hid hwf
  obtain ⟨ta, tcap, rfl, hcells⟩ := row_view hR
  obtain ⟨pa, pcap, rfl, pcells⟩ := row_view hP
  have HC := Lib.hid hcells
  have HPC := Lib.hid pcells
  clear hR hP hcells pcells hwf
  go_enter Try.func3, Try.ntmps3
  go_wp2_with fail
  refine (new_int64 _).mono ?_
  rintro e w1 ⟨p, rfl, hW1, hx1, hM1, hB1⟩
  have HW1 := Lib.hid hW1
  have HX1 := Lib.hid hx1
  have HM := Lib.hid hM1
  clear hW1 hx1 hM1
  go_wp2_with fail
  refine (new_int64 _).mono ?_
  rintro e w2 ⟨q, rfl, hW2, hx2, hM2, hB2⟩
  have HA2 := Lib.hid (HW1.out.ext hx2)
  have HB2 := Lib.hid hW2
  have HX2 := Lib.hid (HX1.out.trans hx2)
  have hpB : p.B ≤ w2.heap.size := Nat.le_trans hB1 hx2.size
  have HQ := Lib.hid hM2
  have HD := Lib.hid (show ∀ g ∈ q.all (.slice none 0 0), g ∉ p.all (.slice none 0 0) from fun g hg hm => by
    have h1 := all_new hW2 hM2 g hg
    have h2 := all_lt2 HW1.out hB1 g hm
    omega)
  have HPL := Lib.hid (And.intro hB1 hM2)
  clear hW2 hx2 hM2 HW1 HX1
  go_wp2_with fail
  go_loopg [7, 8] L.length (fun g si ti wr => ∃ (k j : Nat) (Wc : Wh) (va vb : Value), si = .int .i64 (j : Int) ∧ ti = .int .i64 (k : Int) ∧ k + g = L.length ∧ j ≤ k ∧ Hid (PortAt L k j Wc) ∧ Hid (WheelW 85 39 p va Wc wr) ∧ Hid (WheelW 85 39 q vb Wc wr) ∧ Hid (Ext w wr) ∧ p.B ≤ wr.heap.size ∧ q.B ≤ wr.heap.size ∧ Hid (∀ g ∈ q.all vb, g ∉ p.all va))
  case atStart => exact ⟨0, 0, wh00, _, _, rfl, rfl, by omega, Nat.le_refl _, Lib.hid (port0 L), HA2, HB2, HX2, hpB, hB2, HD⟩
  case round =>
    obtain ⟨k, j, Wc, va, vb, rfl, rfl, hg, hjk, HN, HA, HB, HX, hB, hBq, HDD⟩ := hrel
    clear HA2 HB2 HX2 HD
    have hqM : w.heap.size ≤ q.bM := Nat.le_trans (HM.out) (by have := HPL.out; have h1 := p.hM; have h2 := p.hH; have h3 := p.hW; omega)
    have hsa : ∀ g ∈ p.all va, w.heap.size ≤ g := all_new HA.out HM.out
    have hsb : ∀ g ∈ q.all vb, w.heap.size ≤ g := all_new HB.out hqM
    by_cases hlt : k < L.length
    · obtain ⟨ga, off, rfl, hcell⟩ := HC.out (by omega)
      obtain ⟨x, hxL⟩ : ∃ x, L[k]? = some x := ⟨L[k], List.getElem?_eq_getElem hlt⟩
      have hck0 := hcell k x hxL
      have hck := cell_keep hck0 HX.out
      clear hcell
      have hlt' : (k : Int) < (L.length : Int) := by omega
      have hN := HN.out
      go_upto_region 10 with fail
      obtain ⟨ri, re, j', hst1, hst2, hst3, hst4⟩ := port_step hN hxL (by omega)
      clear hxL
      have hl0 : ga < w.heap.size := World.block_lt_of_cell? w _ hck0
      refine wp_region_mixQ (C := Ext w) (af := ?af1) [true, true, true, true, true, true, true, true, true, false, false, false, false, false, false] [false, false, false, false, false, false, false, false, false, false, true, true, true, false, false] 245 (by kernel_rfl) rfl (by kernel_rfl) (fun _ _ h e => h.trans e) HX.out.drew ?q1 ?r1
      case q1 =>
        intro w' hw'
        obtain ⟨x0, rfl⟩ := ext_of hw'
        simp only [pickT, if_true, if_false, Bool.false_eq_true]
        repeat (go_big_quiet_step (fail))
        exact rfl
      case r1 =>
      simp only [restL, if_true, if_false, Bool.false_eq_true]
      intro x1
      have e1 : Ext wr x1.val := (Ext.refl _).drew.val x1
      generalize x1.val = w3 at e1 ⊢
      clear x1
      have hB3 := Nat.le_trans hB e1.size
      have hBq3 := Nat.le_trans hBq e1.size
      have HA3 := Lib.hid (HA.out.ext e1)
      have HB3 := Lib.hid (HB.out.ext e1)
      have HX3 := Lib.hid (HX.out.trans e1)
      clear e1 hck HA HB HX hB hBq
      go_wp2_with fail
      refine (set_int64 p va Wc x x w3 HA3.out hB3 (by rw [hN.Ln]; omega) (by rw [hN.m]; omega) (by rw [hN.ord]; omega) (by rw [hN.ids]; omega)).mono ?_
      rintro e w4 ⟨rfl, va4, hA4, hk4, hr4⟩
      have HA4 := Lib.hid hA4
      have HB4 := Lib.hid (wheel_keeps HB3.out hBq3 hk4 HDD.out)
      have HD4 := Lib.hid (apart_all HDD.out (all_lt2 HB3.out hBq3) hr4)
      have HX4 := Lib.hid (keeps_ext2 HX3.out hsa hk4)
      have hB4 := Nat.le_trans hB3 hk4.size
      have hBq4 := Nat.le_trans hBq3 hk4.size
      rw [hst1]
      clear hA4 hk4 hr4 HA3 HB3 HX3 hB3 hBq3 HDD hsa
      unfold numV
      go_wp2_with fail
      refine ⟨HX4.out, ?_⟩
      refine post_quiet (af := ?af2) 3 245 rfl rfl (by kernel_rfl) ⟨_, HX4.out⟩ ?q2 ?r2
      case q2 =>
        intro w' hw'
        simp only [List.take_succ_cons, List.take_zero, List.map_cons, List.map_nil]
        repeat (go_big_quiet_step (fail))
        exact rfl
      case r2 =>
      simp only [List.drop_succ_cons, List.drop_zero]
      intro x4
      have eX4 := x4.ext
      generalize x4.val = w4b at eX4 ⊢
      clear x4
      go_wp2_with fail
      refine ⟨HX4.out.trans eX4, ?_⟩
      intro x5
      have eX5 := eX4.trans x5.ext
      generalize x5.val = w4c at eX5 ⊢
      clear x5
      go_wp2_with fail
      refine ⟨HX4.out.trans eX5, ?_⟩
      intro x6
      have eX6 := eX5.trans x6.ext
      generalize x6.val = w4d at eX6 ⊢
      clear x6 eX4 eX5
      have HA4d := Lib.hid (HA4.out.ext eX6)
      have HB4d := Lib.hid (HB4.out.ext eX6)
      have HX4d := Lib.hid (HX4.out.trans eX6)
      have hB4d := Nat.le_trans hB4 eX6.size
      have hBq4d := Nat.le_trans hBq4 eX6.size
      clear eX6 HA4 HB4 HX4 hB4 hBq4
      go_upto_region 11 with fail
      refine wp_region_mixQ (C := Ext w) (af := ?af3) [true, true, true, true, true, true, true, true, true, false, false, false, false, false, false] [false, false, false, false, false, false, false, false, false, false, true, true, true, false, false] 245 (by kernel_rfl) rfl (by kernel_rfl) (fun _ _ h e => h.trans e) HX4d.out.drew ?q3 ?r3
      case q3 =>
        intro w' hw'
        obtain ⟨x0, rfl⟩ := ext_of hw'
        simp only [pickT, if_true, if_false, Bool.false_eq_true]
        repeat (go_big_quiet_step (fail))
        exact rfl
      case r3 =>
      simp only [restL, if_true, if_false, Bool.false_eq_true]
      intro x1
      have e1 : Ext w4d x1.val := (Ext.refl _).drew.val x1
      generalize x1.val = w5 at e1 ⊢
      clear x1
      have hB5 := Nat.le_trans hB4d e1.size
      have hBq5 := Nat.le_trans hBq4d e1.size
      have HA5 := Lib.hid (HA4d.out.ext e1)
      have HB5 := Lib.hid (HB4d.out.ext e1)
      have HX5 := Lib.hid (HX4d.out.trans e1)
      clear e1 HA4d HB4d HX4d hB4d hBq4d
      go_wp2_with fail
      refine (set_int64 q vb Wc x x w5 HB5.out hBq5 (by rw [hN.Ln]; omega) (by rw [hN.m]; omega) (by rw [hN.ord]; omega) (by rw [hN.ids]; omega)).mono ?_
      rintro e w6 ⟨rfl, vb6, hB6, hk6, hr6⟩
      have HB6 := Lib.hid hB6
      have HA6 := Lib.hid (wheel_keeps HA5.out hB5 hk6 (apart_sym HD4.out))
      have HD6 := Lib.hid (apart_sym (apart_all (apart_sym HD4.out) (all_lt2 HA5.out hB5) hr6))
      have HX6 := Lib.hid (keeps_ext2 HX5.out hsb hk6)
      have hB6 := Nat.le_trans hB5 hk6.size
      have hBq6 := Nat.le_trans hBq5 hk6.size
      rw [hst1]
      have HN6 := Lib.hid hst2
      generalize (setW Wc x x).2 = W6 at HA6 HB6 HN6
      clear hk6 hr6 HA5 HB5 HX5 hB5 hBq5 HD4 hsb hst1 hst2 hN HN
      unfold numV
      go_wp2_with fail
      refine ⟨HX6.out, ?_⟩
      refine post_quiet (af := ?af4) 3 245 rfl rfl (by kernel_rfl) ⟨_, HX6.out⟩ ?q4 ?r4
      case q4 =>
        intro w' hw'
        simp only [List.take_succ_cons, List.take_zero, List.map_cons, List.map_nil]
        repeat (go_big_quiet_step (fail))
        exact rfl
      case r4 =>
      simp only [List.drop_succ_cons, List.drop_zero]
      intro x4
      have eX4 := x4.ext
      generalize x4.val = w6b at eX4 ⊢
      clear x4
      go_wp2_with fail
      refine ⟨HX6.out.trans eX4, ?_⟩
      intro x5
      have eX5 := eX4.trans x5.ext
      generalize x5.val = w6c at eX5 ⊢
      clear x5
      go_wp2_with fail
      refine ⟨HX6.out.trans eX5, ?_⟩
      intro x6
      have eX6 := eX5.trans x6.ext
      generalize x6.val = w6d at eX6 ⊢
      clear x6 eX4 eX5
      have HA6 := Lib.hid (HA6.out.ext eX6)
      have HB6 := Lib.hid (HB6.out.ext eX6)
      have HX6 := Lib.hid (HX6.out.trans eX6)
      have hB6 := Nat.le_trans hB6 eX6.size
      have hBq6 := Nat.le_trans hBq6 eX6.size
      clear eX6
      go_upto_region 12 with fail
      have hck6 := cell_keep hck0 HX6.out
      have hlb : ga < w6d.heap.size := World.block_lt_of_cell? w6d _ hck6
      clear HPL hck0
      rcases hst4 with ⟨hx0, rfl, rfl⟩ | ⟨hx0, rfl, rfl⟩
      · refine wp_region_ext (by kernel_rfl) (by kernel_rfl) ?_
        repeat (go_big_quiet_step ((first | (go_at_call 11; exact calls_ext (num_ext _ _)))))
        rintro w7 ⟨x7, rfl⟩
        have HA7 := Lib.hid (HA6.out.ext x7.ext)
        have HB7 := Lib.hid (HB6.out.ext x7.ext)
        have HX7 := Lib.hid (HX6.out.trans x7.ext)
        have hB7 := Nat.le_trans hB6 x7.ext.size
        have hBq7 := Nat.le_trans hBq6 x7.ext.size
        generalize x7.val = w7 at HA7 HB7 HX7 hB7 hBq7 ⊢
        clear x7 HA6 HB6 HX6 hB6 hBq6 hck6 hlb
        go_wp2_with fail
        refine (num_any _ _).mono ?_
        rintro e w8 ⟨rfl, rfl⟩
        go_wp2_with fail
        go_roundg (gk - 1)
        case rel => exact ⟨k + 1, _, W6, va4, vb6, rfl, rfl, by omega, by omega, HN6, HA7, HB7, HX7, hB7, hBq7, HD6⟩
        case measure => omega
      · refine wp_region_ext (by kernel_rfl) (by kernel_rfl) ?_
        repeat (go_big_quiet_step ((first | (go_at_call 11; exact calls_ext (num_ext _ _)))))
        rintro w7 ⟨x7, rfl⟩
        have HA7 := Lib.hid (HA6.out.ext x7.ext)
        have HB7 := Lib.hid (HB6.out.ext x7.ext)
        have HX7 := Lib.hid (HX6.out.trans x7.ext)
        have hB7 := Nat.le_trans hB6 x7.ext.size
        have hBq7 := Nat.le_trans hBq6 x7.ext.size
        generalize x7.val = w7 at HA7 HB7 HX7 hB7 hBq7 ⊢
        clear x7 HA6 HB6 HX6 hB6 hBq6 hck6 hlb
        go_wp2_with fail
        refine (num_any _ _).mono ?_
        rintro e w8 ⟨rfl, rfl⟩
        go_wp2_with fail
        go_roundg (gk - 1)
        case rel => exact ⟨k + 1, _, W6, va4, vb6, rfl, rfl, by omega, by omega, HN6, HA7, HB7, HX7, hB7, hBq7, HD6⟩
        case measure => omega
    · have hge : (L.length : Int) ≤ (k : Int) := by omega
      go_wp2_with fail
      have hLk : L.length ≤ k := by omega
      have hpl := all_lt2 HA.out hB
      have hql := all_lt2 HB.out hBq
      have HN0 := Lib.hid (HN.out)
      have HA0 := HA
      have HB0 := Lib.hid HB.out
      have HX0 := Lib.hid HX.out
      have hvv := HN.out.v
      have hjl := HN.out.len
      have HPL2 := Lib.hid hpl
      have HQL2 := Lib.hid hql
      have HSA := Lib.hid hsa
      have HSB := Lib.hid hsb
      have HVV := Lib.hid hvv
      have hj80 : j ≤ 80 := by omega
      have HTU := Lib.hid (HN.out.turning)
      generalize hws : wr = wS at *
      clear hvv hpl hql hsa hsb HN HA HB HX
      go_loopg [13, 14, 15] P.length (fun g ti oi ii wq => ∃ (r : Nat) (T : Int) (acc : List Int) (Wt : Wh) (vt : Value), ti = .int .i64 T ∧ ii = .int .i64 (r : Int) ∧ r + g = P.length ∧ 0 ≤ T ∧ T ≤ 9223372036854775807 ∧ acc.length ≤ 80 ∧ Wt.S.length ≤ 80 ∧ Hid (Turning Wc.S j T acc Wt) ∧ Hid (WheelW 85 39 p vt Wt wq) ∧ Hid (rowB vt = rowB va) ∧ Hid (wq.ownsRow wS.heap.size 2 1 oi acc.length (intCs acc)) ∧ Hid (Keeps (p.all va) wS wq))
      case atStart => exact ⟨0, 0, [], Wc, va, rfl, rfl, by omega, by omega, by omega, by simp, by omega, HTU, HA0, Lib.hid rfl, Lib.hid (World.ownsRow_nil _ _ _ _), Lib.hid (Keeps.refl _ _)⟩
      case round =>
        obtain ⟨r, T, acc, Wt, vt, rfl, rfl, hrg, hT0, hT1, hal, hSl, HT, HWt, HRt, HO, HK⟩ := hrel
        clear HTU HA0
        by_cases hrl : r < P.length
        · obtain ⟨gp, poff, rfl, pcell⟩ := HPC.out (by omega)
          obtain ⟨y, hyP⟩ : ∃ y, P[r]? = some y := ⟨P[r], List.getElem?_eq_getElem hrl⟩
          have hyw := HWF.out y (List.mem_of_getElem? hyP)
          have hp0 := pcell r y hyP
          have hp := cell_keep hp0 (keeps_ext2 HX0.out HSA.out HK.out)
          clear pcell hyP hp0
          have hrl' : (r : Int) < (P.length : Int) := by omega
          by_cases hy0 : y < 0
          · go_wp2_with fail
            go_roundg (gk - 1)
            case rel => exact ⟨r + 1, T, acc, Wt, vt, rfl, rfl, by omega, hT0, hT1, hal, hSl, HT, HWt, HRt, HO, HK⟩
            case measure => omega
          · by_cases hy1 : 9223372036854775807 - T < y
            · go_wp2_with fail
              go_roundg (gk - 1)
              case rel => exact ⟨r + 1, T, acc, Wt, vt, rfl, rfl, by omega, hT0, hT1, hal, hSl, HT, HWt, HRt, HO, HK⟩
              case measure => omega
            · have hy0' : 0 ≤ y := by omega
              have hy1' : y ≤ 9223372036854775807 - T := by omega
              go_wp2_with fail
              have hTT := HT.out
              have hn := hTT.now
              have hLt := hTT.L
              have hBr : p.B ≤ wr.heap.size := Nat.le_trans hB HK.out.size
              have hpa : p.all vt = p.all va := all_congr HRt.out
              have hst := hTT.step HVV.out hy0' hy1' _ rfl
              refine (turn_int64 p vt Wt y wr HWt.out hBr (by omega) (by omega) (by omega) hy0' (by omega)).mono ?_
              rintro e w6 ⟨vl, v6, rfl, ho, hW6, hk6, hr6⟩
              generalize untilW (Wt.now + y) (Wt.S.length + 1) Wt [] = R at hst ho hW6
              obtain ⟨l, W6⟩ := R
              simp only at hst ho hW6
              have hcnt := hst.count
              rw [List.length_append] at hcnt
              rw [hpa] at hk6
              have HO6 := Lib.hid (own_keep HO.out hk6 (fun g hg hm => by
                have h1 := HPL2.out g hm
                have h2 := (rowB_own_lt HO.out g hg).1
                omega))
              have HK6 := Lib.hid (HK.out.trans hk6)
              have HR6 := Lib.hid (hr6.trans HRt.out)
              have HW6 := Lib.hid hW6
              have HL6 := Lib.hid ho
              have HT6 := Lib.hid hst
              clear hTT hn hLt hpa hst ho hW6 hk6 hr6 HO HK HRt HWt HT hp hyw
              go_wp2_with fail
              refine (num_any _ _).mono ?_
              rintro e w7 ⟨rfl, rfl⟩
              go_wp2_with (first | (at_builtin; refine unHd ?_))
              unfold Hd2
              refine wpList_app4 wS.heap.size 22 2 ti0 _ 1 8 Try.underlying22 hi hz0 hz1 hz2 rfl (by decide) rfl _ _ rfl _ acc.length _ rfl HO6.out HK6.out.size _ l.length (intCs l) rfl (Row.of_own HL6.out) (own_nil_or HL6.out) (intCs_one l) (by unfold maxLen; omega) (by omega) ?_
              intro v8 w8 hown8 hb8 _
              have hpa : p.all v6 = p.all va := all_congr HR6.out
              have HW8 := Lib.hid (wheel_blocks HW6.out (w' := w8) (fun g hg => hb8.block g (HPL2.out g (by rw [← hpa]; exact hg))))
              have HK8 := Lib.hid (HK6.out.below hb8)
              have HO8 : Hid (w8.ownsRow wS.heap.size 2 1 v8 (acc ++ l).length (intCs (acc ++ l))) := Lib.hid (by rw [intCs_app, List.length_append]; exact hown8)
              clear hown8 hb8 hpa HW6 HK6 HO6 HL6
              go_wp2_with fail
              go_roundg (gk - 1)
              case rel => exact ⟨r + 1, T + y, acc ++ l, W6, v6, rfl, rfl, by omega, by omega, by omega, by rw [List.length_append]; omega, by omega, HT6, HW8, HR6, HO8, HK8⟩
              case measure => omega
        · have hrl' : (P.length : Int) ≤ (r : Int) := by omega
          go_wp2_with fail
          have hTT := HT.out
          have hn0 := HN0.out.now
          have hst := HN0.out.turning.step HVV.out hT0 (by omega) _ rfl
          have hLj := HN0.out.Ln
          have hBr : p.B ≤ wr.heap.size := Nat.le_trans hB HK.out.size
          have hBqr : q.B ≤ wr.heap.size := Nat.le_trans hBq HK.out.size
          have hpa : p.all vt = p.all va := all_congr HRt.out
          have hWb := wheel_keeps HB0.out hBq HK.out HDD.out
          refine (turn_int64 q vb Wc T wr hWb hBqr (by omega) (by omega) (by omega) hT0 (by omega)).mono ?_
          rintro e w6 ⟨vl, v6, rfl, ho, hW6, hk6, hr6⟩
          generalize untilW (Wc.now + T) (Wc.S.length + 1) Wc [] = R at hst ho hW6
          obtain ⟨l, W6⟩ := R
          simp only at hst ho hW6
          rw [Int.zero_add, List.nil_append] at hst
          obtain ⟨hsame, hSS⟩ := hTT.same hst
          subst hsame
          have hcnt := hTT.count
          have hcf := cnt_final HN0.out hLk hTT
          have hle := hTT.le
          have hsort := hTT.sort
          have hna := hTT.now
          have hnb := hst.now
          have HO6 := own_keep HO.out hk6 (fun g hg hm => by
            have h1 := HQL2.out g hm
            have h2 := (rowB_own_lt HO.out g hg).1
            omega)
          have HA6 := Lib.hid (wheel_keeps HWt.out hBr hk6 (fun g hg hm => HDD.out g hm (by rw [← hpa]; exact hg)))
          have HB6 := Lib.hid hW6
          have HX6 := Lib.hid (keeps_ext2 (keeps_ext2 HX0.out HSA.out HK.out) HSB.out hk6)
          obtain ⟨oa, ocap, hoi, hom, hov⟩ := own_view HO6
          obtain ⟨la, lcap, hli, hlm, hlv⟩ := own_view ho
          subst hoi
          subst hli
          have HOV := Lib.hid hov
          have HLV := Lib.hid hlv
          have HLE := Lib.hid hle
          have HSO := Lib.hid hsort
          have HCF := Lib.hid hcf
          have HNA := Lib.hid hna
          have HNB := Lib.hid hnb
          have HSS := Lib.hid hSS
          have hlen1 : (Wt.S.length : Int) = (j : Int) - (acc.length : Int) := by omega
          clear hTT hn0 hst hLj hpa hWb ho hW6 hk6 hr6 hcf hle hsort hna hnb hSS hov hlv HO6 HO HK HRt HWt HT hLk
          go_wp2_with fail
          refine (num_any _ _).mono ?_
          rintro e w7 ⟨rfl, rfl⟩
          go_wp2_with fail
          refine (len_int64 p vt Wt w7 HA6.out).mono ?_
          rintro e w8 ⟨rfl, rfl⟩
          go_wp2_with fail
          refine (len_int64 q v6 W6 w8 HB6.out).mono ?_
          rintro e w9 ⟨rfl, rfl⟩
          rw [← HSS.out]
          go_wp2_with fail
          refine (len_int64 p vt Wt w9 HA6.out).mono ?_
          rintro e w10 ⟨rfl, rfl⟩
          go_wp2_with fail
          refine (now_int64 p vt Wt w10 HA6.out).mono ?_
          rintro e w11 ⟨rfl, rfl⟩
          rw [HNA.out]
          go_wp2_with fail
          refine (now_int64 q v6 W6 w11 HB6.out).mono ?_
          rintro e w12 ⟨rfl, rfl⟩
          rw [HNB.out]
          go_wp2_with fail
          clear HA6 HB6 HNA HNB HSS
          go_loopg [20, 21] L.length (fun g ci ii wq => ∃ (r : Nat), ii = .int .i64 (r : Int) ∧ ci = .int .i64 ((cntT (L.take r) T).length : Int) ∧ r + g = L.length ∧ wq = w12)
          case atStart => exact ⟨0, rfl, rfl, by omega, rfl⟩
          case round =>
            obtain ⟨r2, rfl, rfl, hg2, rfl⟩ := hrel
            by_cases hr2 : r2 < L.length
            · obtain ⟨ga, off, rfl, hcell⟩ := HC.out (by omega)
              obtain ⟨x, hxL⟩ : ∃ x, L[r2]? = some x := ⟨L[r2], List.getElem?_eq_getElem hr2⟩
              have hck := cell_keep (hcell r2 x hxL) HX6.out
              have hcn := cntT_add hxL T
              clear hcell hxL
              have hr2' : (r2 : Int) < (L.length : Int) := by omega
              have hcb : ((cntT (L.take r2) T).length : Int) ≤ 80 := by
                have := List.length_filter_le (fun x => decide (0 < x) && decide (x ≤ T)) (L.take r2)
                rw [List.length_take] at this
                unfold cntT
                omega
              by_cases hx0 : 0 < x
              · by_cases hx1 : x ≤ T
                · rw [if_pos ⟨hx0, hx1⟩] at hcn
                  have HCN := Lib.hid hcn
                  clear hcn
                  go_wp2_with fail
                  go_roundg (gk - 1)
                  case rel => exact ⟨r2 + 1, rfl, by rw [HCN.out]; rfl, by omega, rfl⟩
                  case measure => omega
                · rw [if_neg (fun h => hx1 h.2)] at hcn
                  have HCN := Lib.hid hcn
                  clear hcn
                  go_wp2_with fail
                  go_roundg (gk - 1)
                  case rel => exact ⟨r2 + 1, rfl, by rw [HCN.out]; rfl, by omega, rfl⟩
                  case measure => omega
              · rw [if_neg (fun h => hx0 h.1)] at hcn
                have HCN := Lib.hid hcn
                clear hcn
                go_wp2_with fail
                go_roundg (gk - 1)
                case rel => exact ⟨r2 + 1, rfl, by rw [HCN.out]; rfl, by omega, rfl⟩
                case measure => omega
            · have hr2' : (L.length : Int) ≤ (r2 : Int) := by omega
              have hcf : ((cntT (L.take r2) T).length : Int) = (acc.length : Int) := by
                rw [List.take_of_length_le (by omega), HCF.out]
              rw [hcf]
              clear hcf
              go_wp2_with fail
              go_loopg [22] acc.length (fun g ii wq => ∃ (r : Nat), ii = .int .i64 (r : Int) ∧ r + g = acc.length ∧ Hid (Ext wr wq))
              case atStart => exact ⟨0, rfl, by omega, Lib.hid (Ext.refl _)⟩
              case round =>
                obtain ⟨r3, rfl, hg3, HE3⟩ := hrel
                by_cases hr3 : r3 < acc.length
                · obtain ⟨go, rfl, _, hgo, hco⟩ := HOV.out (by omega)
                  obtain ⟨gl, rfl, _, hgl, hcl⟩ := HLV.out (by omega)
                  obtain ⟨y, hyL⟩ : ∃ y, acc[r3]? = some y := ⟨acc[r3], List.getElem?_eq_getElem hr3⟩
                  have hyT : ¬ (T < y) := Int.not_lt.2 (HLE.out y (List.mem_of_getElem? hyL))
                  have hc1 : wr.cell? ⟨go, r3, none⟩ = some (.int .i64 y) := cell_keep (hco r3 _ (by simp [intCs, hyL])) HE3.out
                  have hc2 : wr.cell? ⟨gl, r3, none⟩ = some (.int .i64 y) := cell_keep (hcl r3 _ (by simp [intCs, hyL])) HE3.out
                  have hr3' : (r3 : Int) < (acc.length : Int) := by omega
                  rcases Nat.eq_zero_or_pos r3 with h0 | h0
                  · subst h0
                    have hl1 : go < wr.heap.size := World.block_lt_of_cell? wr _ hc1
                    have hl2 : gl < wr.heap.size := World.block_lt_of_cell? wr _ hc2
                    clear hco hcl hyL
                    go_upto_region 39 with fail
                    refine wp_region_ext (by kernel_rfl) (by kernel_rfl) ?_
                    repeat (go_big_quiet_step (fail))
                    rintro w7 ⟨x7, rfl⟩
                    have HE7 := Lib.hid (HE3.out.trans x7.ext)
                    generalize x7.val = w7 at HE7 ⊢
                    clear x7 HE3 hc1 hc2 hl1 hl2
                    go_wp2_with fail
                    go_roundg (gk - 1)
                    case rel => exact ⟨0 + 1, rfl, by omega, HE7⟩
                    case measure => omega
                  · obtain ⟨r, rfl⟩ : ∃ r, r3 = r + 1 := ⟨r3 - 1, by omega⟩
                    obtain ⟨z, hzL⟩ : ∃ z, acc[r]? = some z := ⟨acc[r], List.getElem?_eq_getElem (by omega)⟩
                    have hc3 : wr.cell? ⟨go, r, none⟩ = some (.int .i64 z) := cell_keep (hco r _ (by simp [intCs, hzL])) HE3.out
                    have hzy : ¬ (y < z) := Int.not_lt.2 (by
                      have hp := List.pairwise_iff_getElem.1 HSO.out r (r + 1) (by omega) hr3 (by omega)
                      rw [List.getElem?_eq_getElem hr3, Option.some.injEq] at hyL
                      rw [List.getElem?_eq_getElem (by omega), Option.some.injEq] at hzL
                      rw [hyL, hzL] at hp
                      exact hp)
                    have hpos : (0 : Int) < (r : Int) + 1 := by omega
                    have hpos2 : (0 : Int) < ((r + 1 : Nat) : Int) := by omega
                    have hl1 : go < wr.heap.size := World.block_lt_of_cell? wr _ hc1
                    have hl2 : gl < wr.heap.size := World.block_lt_of_cell? wr _ hc2
                    clear hco hcl hyL hzL
                    go_upto_region 39 with fail
                    refine wp_region_ext (by kernel_rfl) (by kernel_rfl) ?_
                    repeat (go_big_quiet_step (fail))
                    rintro w7 ⟨x7, rfl⟩
                    have HE7 := Lib.hid (HE3.out.trans x7.ext)
                    generalize x7.val = w7 at HE7 ⊢
                    clear x7 HE3 hc1 hc2 hc3 hl1 hl2
                    go_wp2_with fail
                    go_roundg (gk - 1)
                    case rel => exact ⟨r + 1 + 1, rfl, by omega, HE7⟩
                    case measure => omega
                · have hr3' : (acc.length : Int) ≤ (r3 : Int) := by omega
                  go_wp2_with fail
                  refine (live_any _).mono ?_
                  rintro e w8 ⟨rfl, hx8⟩
                  go_wp2_with fail
                  go_ret
                  exact ⟨rfl, (HX6.out.trans HE3.out).trans hx8⟩

theorem row_lives {w : World} {v : Value} {L : List Int} (hR : Row w 1 v L.length (intCs L)) : ∃ a cap, v = .slice a L.length cap := by
  obtain ⟨a, cap, hv, _⟩ := row_view hR
  exact ⟨a, cap, hv⟩

set_option maxRecDepth 100000 in
theorem port_any (tv pv : Value) (L P : List Int) (w : World) (hR : Row w 1 tv L.length (intCs L)) (hP : Row w 1 pv P.length (intCs P)) (hwf : ∀ z ∈ P, (Lit.int .i64 z).wf = true) :
    Calls Try.prog 3 #[tv, pv] w fun e w' => e = .returned (.bool true) ∧ Ext w w' := by
  by_cases h : L.length ≤ 80
  · by_cases h2 : P.length ≤ 80
    · exact port_loop tv pv L P w hR hP h h2 hwf
    · have hgt : (80 : Int) < (P.length : Int) := by omega
      have hle : (L.length : Int) ≤ 80 := by omega
      obtain ⟨a, cap, rfl⟩ := row_lives hR
      obtain ⟨b, cap', rfl⟩ := row_lives hP
      clear hR hP hwf
      go_enter Try.func3, Try.ntmps3
      go_wp2_with fail
      refine (live_any _).mono ?_
      rintro e w1 ⟨rfl, hx⟩
      go_wp2_with fail
      go_ret
      exact ⟨rfl, hx⟩
  · have hgt : (80 : Int) < (L.length : Int) := by omega
    obtain ⟨a, cap, rfl⟩ := row_lives hR
    obtain ⟨b, cap', rfl⟩ := row_lives hP
    clear hR hP hwf
    go_enter Try.func3, Try.ntmps3
    go_wp2_with fail
    refine (live_any _).mono ?_
    rintro e w1 ⟨rfl, hx⟩
    go_wp2_with fail
    go_ret
    exact ⟨rfl, hx⟩
end Go.Proofs.Ytibdplfdmncgiaa
