/-
  Walk: the law TimersFull. No condition.
-/
import Derived.Test.YtibdplfdmncgiaaTJ
import Derived.Test.YtibdplfdmncgiaaTL
set_option linter.all false
namespace Go.Proofs.Ytibdplfdmncgiaa
open Go.RowKit
attribute [local go_sem] ExtOf.cell ExtOf.frozen ExtOf.lt ExtOf.le
attribute [local go_sem high] ExtOf.cell2 ExtOf.frozen2 ExtOf.lt2 ExtOf.cell3 ExtOf.frozen3 ExtOf.lt3 ExtOf.cellX ExtOf.frozenX ExtOf.cellX' ExtOf.frozenX'

theorem all_lt {T : TypeId} {f : FuncId} {p : At} {v : Value} {W : Wh} {w : World} (h : WheelW T f p v W w) (hB : p.B ≤ w.heap.size) : ∀ k ∈ p.all v, k < w.heap.size := fun k hk => by
  have hM := p.hM
  have hH := p.hH
  have hW := p.hW
  have hg := rowB_lt h.2.2
  simp only [At.all, List.mem_cons] at hk
  rcases hk with rfl | rfl | rfl | hk
  · omega
  · omega
  · omega
  · exact hg k hk

set_option maxRecDepth 100000 in
set_option maxHeartbeats 8000000 in
theorem full_loop (more : Int) (w : World) (h0 : 0 ≤ more) (h3 : more ≤ 3) :
    Calls Try.prog 4 #[.int .i64 more] w fun e w' => e = .returned (.bool true) ∧ Ext w w' := by
  go_enter Try.func4, Try.ntmps4
  go_wp2_with fail
  refine (new_int _).mono ?_
  rintro e w1 ⟨p, rfl, hW1, hx1, hM1, hB1⟩
  have HW1 := Lib.hid hW1
  have HX1 := Lib.hid hx1
  have HM := Lib.hid hM1
  clear hW1 hx1 hM1
  go_wp2_with fail
  go_loopg [4] (4100 : Nat) (fun g ti wr => ∃ (k : Nat) (Wc : Wh) (vc : Value), ti = .int .i64 (k : Int) ∧ k + g = 4100 ∧ (k : Int) ≤ 4096 + more ∧ Hid (FullAt k Wc) ∧ Hid (WheelW 91 43 p vc Wc wr) ∧ Hid (Ext w wr) ∧ p.B ≤ wr.heap.size)
  case atStart => exact ⟨0, wh00, _, rfl, rfl, by omega, Lib.hid full0, HW1, HX1, hB1⟩
  case round =>
    obtain ⟨k, Wc, vc, rfl, hg, hk, HF, HWc, HX, hB⟩ := hrel
    clear HW1 HX1
    have hsh : ∀ g ∈ p.all vc, w.heap.size ≤ g := all_new HWc.out HM.out
    by_cases hlt : (k : Int) < 4096 + more
    · have hF := HF.out
      obtain ⟨hs1, hs2⟩ := full_step hF (by omega)
      go_wp2_with fail
      refine (set_int p vc Wc (9223372036854775807 - (k : Int)) (k : Int) wr HWc.out hB (by rw [hF.L]; omega) (by rw [hF.m]; omega) (by rw [hF.ord]; omega) (by rw [hF.ids]; omega)).mono ?_
      rintro e w2 ⟨rfl, v2, hW2, hk2, hr2⟩
      have HF2 := Lib.hid hs2
      have HW2 := Lib.hid hW2
      have HX2 := Lib.hid (keeps_ext2 HX.out hsh hk2)
      have hB2 := Nat.le_trans hB hk2.size
      rw [hs1]
      clear hs2 hW2 hk2 hr2 HF HWc HX hsh hF hs1
      by_cases h4 : k < 4096
      · rw [if_pos h4]
        unfold numV
        have h4' : ((k : Int) < 4096) := by omega
        go_wp2_with fail
        refine (num_any _ _).mono ?_
        rintro e w3 ⟨rfl, rfl⟩
        go_wp2_with fail
        go_roundg (gk - 1)
        case rel => exact ⟨k + 1, _, v2, rfl, by omega, by omega, HF2, HW2, HX2, hB2⟩
        case measure => omega
      · have h4' : (4096 ≤ (k : Int)) := by omega
        rw [if_neg h4]
        unfold numV
        go_wp2_with fail
        refine (num_any _ _).mono ?_
        rintro e w3 ⟨rfl, rfl⟩
        go_wp2_with fail
        refine (num_any _ _).mono ?_
        rintro e w4 ⟨rfl, rfl⟩
        go_wp2_with fail
        go_roundg (gk - 1)
        case rel => exact ⟨k + 1, _, v2, rfl, by omega, by omega, HF2, HW2, HX2, hB2⟩
        case measure => omega
    · have hge : 4096 + more ≤ (k : Int) := by omega
      have hF := HF.out
      go_wp2_with fail
      obtain ⟨g1, g2, g3, g4, g5, g6⟩ := full_turn hF (by omega) _ rfl
      have hS := hF.S
      have hn := hF.now
      have hLl := hF.L
      have hSl : Wc.S.length ≤ 100000 := by rw [hS]; simp; omega
      refine (turn_int p vc Wc 9223372036854775805 wr HWc.out hB (by rw [hLl]; omega) hSl (by rw [hn]; omega) (by omega) (by rw [hn]; omega)).mono ?_
      rintro e w2 ⟨vl, v2, rfl, ho, hW2, hk2, hr2⟩
      generalize untilW (Wc.now + 9223372036854775805) (Wc.S.length + 1) Wc [] = R at g1 g2 g3 g4 g5 g6 ho hW2
      obtain ⟨acc, W2⟩ := R
      simp only at g1 g2 g3 g4 g5 g6 ho hW2
      have hB2 := Nat.le_trans hB hk2.size
      have hX2 := keeps_ext2 HX.out hsh hk2
      have hs2 : ∀ g ∈ p.all v2, w.heap.size ≤ g := all_new hW2 HM.out
      obtain ⟨a2, cap2, rfl, hm2, hv2⟩ := own_view ho
      obtain ⟨ga, rfl, hga, hlt2, hc2⟩ := hv2 (by omega)
      have hc0 := hc2 0 (.int .i64 4095) (by simp [intCs, g2])
      rw [g1] at hm2 ⊢
      have HW2 := Lib.hid hW2
      have HX2 := Lib.hid hX2
      have HS2 := Lib.hid hs2
      have HN2 := Lib.hid g3
      have HT2 := Lib.hid g4
      have HI2 := Lib.hid g5
      have HL2 := Lib.hid g6
      clear ho hW2 hk2 hr2 hX2 hs2 hc2 hv2 g3 g4 g5 g6 hS hn hLl hSl HF HWc HX hsh hF hB
      go_wp2_with fail
      refine (num_any _ _).mono ?_
      rintro e w3 ⟨rfl, rfl⟩
      go_wp2_with fail
      refine (tick_go_int p v2 W2 w3 HW2.out hB2 (by have := HL2.out; omega) (by rw [HT2.out]; simp) (by rw [HN2.out]; omega) (by rw [HN2.out]; omega)).mono ?_
      rintro e w4 ⟨vl4, v4, rfl, ho, hW2, hk2, hr2⟩
      obtain ⟨g1, g3, g4, g5, g6⟩ := full_tick 1 0 HI2.out (HN2.out.trans (by omega)) (HT2.out.trans rfl) _ rfl
      generalize untilW (W2.now + 1) (W2.S.length + 1) W2 [] = R4 at g1 g3 g4 g5 g6 ho hW2
      obtain ⟨acc4, W4⟩ := R4
      simp only at g1 g3 g4 g5 g6 ho hW2
      subst g1
      have hB4 := Nat.le_trans hB2 hk2.size
      have hX2 := keeps_ext2 HX2.out HS2.out hk2
      have hs2 : ∀ g ∈ p.all v4, w.heap.size ≤ g := all_new hW2 HM.out
      obtain ⟨a4, cap4, rfl, hm4, hv2⟩ := own_view ho
      obtain ⟨ga4, rfl, hga4, hlt4, hc2⟩ := hv2 (by simp)
      have hc2 := hc2 0 (.int .i64 1) (by simp [intCs])
      have HC4 := Lib.hid hc2
      have HG4 := Lib.hid (And.intro hga4 hlt4)
      have HW4 := Lib.hid hW2
      have HX4 := Lib.hid hX2
      have HS4 := Lib.hid hs2
      have HN4 := Lib.hid g3
      have HT4 := Lib.hid g4
      have HI4 := Lib.hid g5
      have HL4 := Lib.hid (Nat.le_trans g6 HL2.out)
      have HA4 := Lib.hid (show ga4 ∉ p.all v4 from fun hm => by
        have h1 := all_lt HW2.out hB2 ga4 (by simpa [At.all, hr2] using hm)
        omega)
      clear hk2 hr2 hc2 hX2 hs2 hv2 g3 g4 g5 g6 ho hW2 hga4 hlt4
      go_wp2_with fail
      refine (tick_go_int p v4 W4 w4 HW4.out hB4 (by have := HL4.out; omega) (by rw [HT4.out]; simp) (by rw [HN4.out]; omega) (by rw [HN4.out]; omega)).mono ?_
      rintro e w5 ⟨vl5, v5, rfl, ho, hW2, hk2, hr2⟩
      obtain ⟨g1, g3, g4, g5, g6⟩ := full_tick 0 0 HI4.out (HN4.out.trans (by omega)) (HT4.out.trans rfl) _ rfl
      generalize untilW (W4.now + 1) (W4.S.length + 1) W4 [] = R5 at g1 g3 g4 g5 g6 ho hW2
      obtain ⟨acc5, W5⟩ := R5
      simp only at g1 g3 g4 g5 g6 ho hW2
      subst g1
      have hB5 := Nat.le_trans hB4 hk2.size
      have hX2 := keeps_ext2 HX4.out HS4.out hk2
      have hs2 : ∀ g ∈ p.all v5, w.heap.size ≤ g := all_new hW2 HM.out
      obtain ⟨a5, cap5, rfl, hm5, hv2⟩ := own_view ho
      obtain ⟨ga5, rfl, hga5, hlt5, hc2⟩ := hv2 (by simp)
      have hc2 := hc2 0 (.int .i64 0) (by simp [intCs])
      have HC5 := Lib.hid hc2
      have HG5 := Lib.hid (And.intro hga5 hlt5)
      have HW5 := Lib.hid hW2
      have HX5 := Lib.hid hX2
      have HS5 := Lib.hid hs2
      have HN5 := Lib.hid g3
      have HT5 := Lib.hid g4
      have HI5 := Lib.hid g5
      have HL5 := Lib.hid (Nat.le_trans g6 HL4.out)
      have hc4 := hk2.cell HA4.out HC4.out
      have hc5 := HC5.out
      clear hk2 hr2 hc2 hX2 hs2 hv2 g3 g4 g5 g6 ho hW2 hga5 hlt5
      go_wp2_with fail
      refine (tick_end_int p v5 W5 w5 HW5.out (HN5.out.trans (by omega))).mono ?_
      rintro e w6 ⟨rfl, rfl⟩
      go_wp2_with fail
      refine (now_int p v5 W5 w6 HW5.out).mono ?_
      rintro e w7 ⟨rfl, rfl⟩
      rw [HN5.out]
      go_wp2_with fail
      refine (live_any _).mono ?_
      rintro e w8 ⟨rfl, hx8⟩
      go_wp2_with fail
      go_ret
      exact ⟨rfl, HX5.out.trans hx8⟩

theorem full_any (more : Int) (w : World) : Calls Try.prog 4 #[.int .i64 more] w fun e w' => e = .returned (.bool true) ∧ Ext w w' := by
  by_cases h : 0 ≤ more ∧ more ≤ 3
  · exact full_loop more w h.1 h.2
  · rcases (show more < 0 ∨ (0 ≤ more ∧ 3 < more) by omega) with h1 | ⟨h1, h2⟩
    · go_enter Try.func4, Try.ntmps4
      go_wp2_with fail
      refine (live_any _).mono ?_
      rintro e w1 ⟨rfl, hx⟩
      go_wp2_with fail
      go_ret
      exact ⟨rfl, hx⟩
    · go_enter Try.func4, Try.ntmps4
      go_wp2_with fail
      refine (live_any _).mono ?_
      rintro e w1 ⟨rfl, hx⟩
      go_wp2_with fail
      go_ret
      exact ⟨rfl, hx⟩
end Go.Proofs.Ytibdplfdmncgiaa
