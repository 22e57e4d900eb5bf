/-
  Walk: the law TimersCalls. No condition.
-/
import Derived.Test.YtibdplfdmncgiaaMC23
import Derived.Deep.CutBlock
set_option linter.all false
namespace Go.Proofs.Ytibdplfdmncgiaa
open Go.RowKit
attribute [local go_sem] ExtOf.cell ExtOf.frozen ExtOf.lt ExtOf.le
attribute [local go_sem high] ExtOf.cell2 ExtOf.frozen2 ExtOf.lt2 ExtOf.cell3 ExtOf.frozen3 ExtOf.lt3

/-- What is known ahead of the law's loop: all that was made, apart. -/
theorem call_start {p : At} {w w1 w2 w3 w4 : World} {again most : Int} (hc : p.cv = .slice none 0 0) (hW2 : WheelW 101 47 p (.slice none 0 0) wh00 w2) (hx1 : Ext (w.alloc (.cells #[.int .i64 again] 2)) w1) (hx2 : Ext w1 w2) (hM2 : w1.heap.size ≤ p.bM) (hB2 : p.B ≤ w2.heap.size)
    (h3 : w3 = (((w2.alloc (.cells #[.pointer (some ⟨p.bW, 0, none⟩)] 51)).alloc (.cells #[.int .i64 0, .int .i64 0, .slice none 0 0] 56)).alloc (.cells #[.slice none 0 0] 61)).alloc (.cells #[.int .i64 most] 3)) {gc cap : Nat} {cur : Array Value}
    (hW4 : WheelW 101 47 (p.with (.slice (some ⟨gc, 0, none⟩) 1 cap)) (.slice none 0 0) wh00 w4) (hg4 : w4.heap[gc]? = some (.cells cur 66 (0, 0)))
    (hcur : cur[0]? = some (.func (.func 29) #[] #[.pointer (some ⟨w2.heap.size + 1 + 1, 0, none⟩), .pointer (some ⟨w2.heap.size, 0, none⟩), .pointer (some ⟨w2.heap.size + 1 + 1 + 1, 0, none⟩), .pointer (some ⟨w.heap.size, 0, none⟩)])) (hgs : w3.heap.size ≤ gc) (hk4 : Keeps [p.bW] w3 w4) :
    ∃ q : Cb, q.ba = w.heap.size ∧ q.bw = w2.heap.size ∧ q.bg = w2.heap.size + 1 + 1 ∧ q.bl = w2.heap.size + 1 + 1 + 1 ∧ ∃ B, CallAt (p.with (.slice (some ⟨gc, 0, none⟩) 1 cap)) q (w2.heap.size + 1) B w4.heap.size again (.slice none 0 0) wh00 (.slice none 0 0) rw0 (.slice none 0 0) [] most (.slice none 0 0) [] w w4 := by
  have pM := p.hM
  have pH := p.hH
  have pW := p.hW
  have s1 := hx1.size
  have s2 := hx2.size
  have s4 := hk4.size
  have s3 : w3.heap.size = w2.heap.size + 4 := by rw [h3]; simp
  simp at s1
  have e3 : Ext w2 w3 := by rw [h3]; exact ((((Ext.refl _).alloc _).alloc _).alloc _).alloc _
  have lgc := (Array.getElem?_eq_some_iff.1 hg4).1
  have hlt := hW2.lt_all
  have hnew := all_new hW2 hM2
  have b0 : w3.heap[w2.heap.size]? = some (.cells #[.pointer (some ⟨p.bW, 0, none⟩)] 51 (0, 0)) := by
    rw [h3]; exact heap_ext (heap_new rfl) ((((Ext.refl _).alloc _).alloc _).alloc _)
  have b1 : w3.heap[w2.heap.size + 1]? = some (.cells #[.int .i64 0, .int .i64 0, .slice none 0 0] 56 (0, 0)) := by
    rw [h3]; exact heap_ext (heap_new (by simp)) (((Ext.refl _).alloc _).alloc _)
  have b2 : w3.heap[w2.heap.size + 1 + 1]? = some (.cells #[.slice none 0 0] 61 (0, 0)) := by
    rw [h3]; exact heap_ext (heap_new (by simp)) ((Ext.refl _).alloc _)
  have b3 : w3.heap[w2.heap.size + 1 + 1 + 1]? = some (.cells #[.int .i64 most] 3 (0, 0)) := by
    rw [h3]; exact heap_new (by simp)
  have ba : w3.heap[w.heap.size]? = some (.cells #[.int .i64 again] 2 (0, 0)) := heap_ext (heap_new rfl) (hx1.trans (hx2.trans e3))
  have keep : ∀ k, k < w3.heap.size → k ≠ p.bW → w4.heap[k]? = w3.heap[k]? := fun k h1 h2 => hk4.block k h1 (by simpa using h2)
  have hba : w.heap.size < p.bM := by omega
  have hpw : p.bW < w2.heap.size := hlt p.bW (by simp [At.all])
  have f0 := (keep w2.heap.size (by omega) (by omega)).trans b0
  have f1 := (keep (w2.heap.size + 1) (by omega) (by omega)).trans b1
  have f2 := (keep (w2.heap.size + 1 + 1) (by omega) (by omega)).trans b2
  have f3 := (keep (w2.heap.size + 1 + 1 + 1) (by omega) (by omega)).trans b3
  have fa := (keep w.heap.size (by omega) (by omega)).trans ba
  have hpl : ∀ k ∈ (p.with (.slice (some ⟨gc, 0, none⟩) 1 cap)).all (.slice none 0 0), w1.heap.size ≤ k ∧ k < w2.heap.size := fun k hk => by
    have hk : k ∈ p.all (.slice none 0 0) := hk
    exact ⟨hnew k hk, hlt k hk⟩
  refine ⟨⟨gc, cap, w2.heap.size + 1 + 1, w2.heap.size, w2.heap.size + 1 + 1 + 1, w.heap.size, w2.heap.size + 4, by omega, by omega, by omega⟩, rfl, rfl, rfl, rfl, w2.heap.size + 4, ?_⟩
  have hcw : CW (p.with (.slice (some ⟨gc, 0, none⟩) 1 cap)) (.slice none 0 0) wh00 ⟨gc, cap, w2.heap.size + 1 + 1, w2.heap.size, w2.heap.size + 1 + 1 + 1, w.heap.size, w2.heap.size + 4, by omega, by omega, by omega⟩ (.slice none 0 0) [] most again w4 := by
    refine ⟨hW4, World.ownsRow_nil _ _ _ _, f2, f0, f3, fa, by show p.B ≤ _; omega, by show w2.heap.size + 4 ≤ _; omega, ?_, ?_, ?_⟩
    · intro k hk
      simp only [Cb.still, List.mem_cons, List.not_mem_nil, or_false] at hk
      rcases hk with rfl | rfl | rfl <;> omega
    · intro k hk hm
      have := (hpl k hm).2
      simp only [Cb.all, rowB, Value.ownBlock, List.mem_cons, List.not_mem_nil, or_false] at hk
      omega
    · intro k hk
      simp only [Cb.still, List.mem_cons, List.not_mem_nil, or_false] at hk
      refine ⟨fun hm => ?_, fun hm => ?_⟩
      · have := hpl k hm
        omega
      · simp only [Cb.all, rowB, Value.ownBlock, List.mem_cons, List.not_mem_nil, or_false] at hm
        omega
  refine ⟨⟨hcw, rfl, cur, hg4, hcur⟩, ⟨f1, OwnL.nil _ _⟩, World.ownsRow_nil _ _ _ _, by omega, by omega, Nat.le_refl _, ?_, ?_, ?_, ?_⟩
  · intro k hk
    simp only [rowB, Value.ownBlock, List.mem_cons, List.not_mem_nil, or_false] at hk
    refine ⟨fun hm => ?_, fun hm => ?_, fun hm => ?_⟩
    · have := hpl k hm; omega
    · simp only [Cb.all, rowB, Value.ownBlock, List.mem_cons, List.not_mem_nil, or_false] at hm; omega
    · simp only [Cb.still, List.mem_cons, List.not_mem_nil, or_false] at hm; omega
  · intro k hk
    simp [rowB, Value.ownBlock] at hk
  · intro k hk
    simp only [List.mem_append] at hk
    rcases hk with ((e | e) | e) | e
    · have := hpl k e; omega
    · simp only [Cb.all, rowB, Value.ownBlock, List.mem_cons, List.not_mem_nil, or_false] at e; omega
    · simp only [rowB, Value.ownBlock, List.mem_cons, List.not_mem_nil, or_false] at e; omega
    · simp [rowB, Value.ownBlock] at e
  · exact keeps_ext2 (((Ext.refl w).alloc _).trans (hx1.trans (hx2.trans e3))) (fun k hk => by have e := List.mem_singleton.1 hk; omega) hk4

theorem fd_cells {w : World} {g : Nat} {L : List Fd} {k : Nat} {x : Fd} (h : ∀ j u, (L.flatMap Fd.cs)[j]? = some u → w.cell? ⟨g, j, none⟩ = some u) (hx : L[k]? = some x) :
    w.cell? ⟨g, k * 3, none⟩ = some (.int .i64 x.id) ∧ w.cell? ⟨g, k * 3 + 1, none⟩ = some (.string x.v) ∧ w.cell? ⟨g, k * 3 + 2, none⟩ = some (.int .i64 x.now) := by
  have f := fun j hj => flat_get Fd.cs 3 (fun _ => rfl) L k x hx j hj
  have F : ∀ j u, (Fd.cs x)[j]? = some u → j < 3 → w.cell? ⟨g, k * 3 + j, none⟩ = some u := fun j u hu hj => h _ _ ((f j hj).trans hu)
  exact ⟨F 0 _ rfl (by omega), F 1 _ rfl (by omega), F 2 _ rfl (by omega)⟩
theorem neq_fd (a b : Int) (s : ByteArray) (w : World) : (binOp .neq 64 (.agg #[.int .i64 a, .string s, .int .i64 b]) (.agg #[.int .i64 a, .string s, .int .i64 b])).run Try.prog w = .ok (.bool false) w := by
  simp [go_sem, toList_beq]
attribute [local go_sem ↓] neq_fd

set_option maxRecDepth 100000 in
set_option maxHeartbeats 16000000 in
theorem calls_any (v : Value) (L : List Ac) (again most : Int) (w : World) (hR : Row w 4 v L.length (L.flatMap Ac.cs)) : Calls Try.prog 7 #[v, .int .i64 again, .int .i64 most] w fun e w' => e = .returned (.bool true) ∧ Ext w w' := by
  obtain ⟨a, cap, rfl, hm, hvw⟩ := row_view hR
  have HV := Lib.hid hvw
  have HR := Lib.hid hR
  clear hvw hR
  unfold maxLen at hm
  go_enter Try.func7, Try.ntmps7
  go_wp2_with fail
  refine (ac_long _ L _ (HR.out.ext ((Ext.refl w).alloc _))).mono ?_
  rintro e w1 ⟨lb, rfl, hb, hx1⟩
  have HX1 := Lib.hid hx1
  clear hx1
  by_cases hm0 : most < 0
  · rcases lb
    all_goals
      go_wp2_with fail
      refine (live_any _).mono ?_
      rintro e w9 ⟨rfl, hx9⟩
      go_wp2_with fail
      go_ret
      exact ⟨rfl, ((Ext.refl w).alloc _).trans (HX1.out.trans hx9)⟩
  by_cases hm1 : 40 < most
  · rcases lb
    all_goals
      have hm0 : ¬ most < 0 := by omega
      go_wp2_with fail
      refine (live_any _).mono ?_
      rintro e w9 ⟨rfl, hx9⟩
      go_wp2_with fail
      go_ret
      exact ⟨rfl, ((Ext.refl w).alloc _).trans (HX1.out.trans hx9)⟩
  rcases lb
  case true =>
    go_wp2_with fail
    refine (live_any _).mono ?_
    rintro e w9 ⟨rfl, hx9⟩
    go_wp2_with fail
    go_ret
    exact ⟨rfl, ((Ext.refl w).alloc _).trans (HX1.out.trans hx9)⟩
  have hL80 := hb rfl
  clear hb
  have hx1n : ∀ n, n = w1.heap.size → w.heap.size < n := fun n h => by have := HX1.out.size; simp at this; omega
  have hm0' : ¬ most < 0 := hm0
  have hm1' : ¬ 40 < most := hm1
  go_wp2_with fail
  refine (new_string _).mono ?_
  rintro e w2 ⟨p, hc, rfl, hW2, hx2, hM2, hB2⟩
  have HW2 := Lib.hid hW2
  have HX2 := Lib.hid hx2
  have HM2 := Lib.hid hM2
  have hs2 : w.heap.size < w2.heap.size := by have := hx1n _ rfl; have := hx2.size; omega
  have HC := Lib.hid hc
  clear hW2 hx2 hM2 hc hx1n
  go_wp2_with fail
  generalize h3 : (((w2.alloc (.cells #[.pointer (some ⟨p.bW, 0, none⟩)] 51)).alloc (.cells #[.int .i64 0, .int .i64 0, .slice none 0 0] 56)).alloc (.cells #[.slice none 0 0] 61)).alloc (.cells #[.int .i64 most] 3) = w3
  have e3 : Ext w2 w3 := by rw [← h3]; exact ((((Ext.refl _).alloc _).alloc _).alloc _).alloc _
  refine (on_string p _ _ _ w3 (HW2.out.ext e3) HC.out).mono ?_
  rintro e w4 ⟨rfl, gc, cap4, cur, hW4, hg4, hcur, hgs, hk4⟩
  obtain ⟨q, hqa, hqw, hqg, hql, B, hAt⟩ := call_start HC.out HW2.out HX1.out HX2.out HM2.out hB2 h3.symm hW4 hg4 hcur hgs hk4
  have hpW : p.bW = (p.with (.slice (some ⟨gc, 0, none⟩) 1 cap4)).bW := rfl
  rw [← hql, ← hqg, hpW]
  generalize hbb : w2.heap.size + 1 = b at hAt ⊢
  rw [← hqw]
  generalize p.with _ = p' at hAt ⊢
  have HAt := Lib.hid hAt
  have HQA := Lib.hid hqa
  clear hW4 hg4 hcur hgs hk4 hAt hqa hqw hqg hql hbb hpW e3 h3 hB2 HW2 HX1 HX2 HM2 HC hs2
  go_wp2_with fail
  have hmn : 0 ≤ most := by omega
  have hmx : most ≤ 40 := by omega
  generalize hBw : w4.heap.size = Bw at HAt
  clear hBw
  go_loopg [10, 12, 13] L.length (fun g vw mo i wr => ∃ (k : Nat) (v : Value) (W : Wh) (u : Value) (R : Rw) (vg : Value) (G : List Fd) (left : Int), i = .int .i64 (k : Int) ∧ k + g = L.length ∧ mo = .int .i64 left ∧ 0 ≤ left ∧ left ≤ 40 ∧ Hid (CallAt p' q b B Bw again v W u R vg G left vw G w wr) ∧ Hid (Agree W R) ∧
      Hid (∃ j, Small W (k + j) ∧ j + left.toNat = most.toNat ∧ G.length + W.S.length + left.toNat ≤ k + most.toNat) ∧ Hid (OrdOk W ∧ Later W))
  case atStart => exact ⟨0, _, wh00, _, rw0, _, [], most, rfl, by omega, rfl, hmn, hmx, HAt, Lib.hid agree0, Lib.hid ⟨0, small0.1, by omega, Nat.le_refl _⟩, Lib.hid ⟨small0.2, fun t ht => by simp [wh00] at ht⟩⟩
  case round =>
    obtain ⟨k, v, W, u, R, vg, G, left, rfl, hg, rfl, hl0, hl1, HAC, HA, HS, HO⟩ := hrel
    rename World => wr
    clear HAt
    by_cases hlt : k < L.length
    case neg =>
      as_aux_lemma =>
        have hlt' : ¬ (k : Int) < (L.length : Int) := by omega
        have hbg := HAC.out.cx.cw.bg
        obtain ⟨ag, capg, rfl, hmg, hvg⟩ := own_view HAC.out.cx.cw.own
        obtain ⟨aw, capw, rfl, hmw, hvw⟩ := own_view HAC.out.ow
        have lg : q.bg < wr.heap.size := (Array.getElem?_eq_some_iff.1 hbg).1
        have hcg := fun j => cell_of_row wr _ j _ _ _ hbg
        have HVG := Lib.hid hvg
        have HVW := Lib.hid hvw
        clear hbg hvg hvw
        unfold maxLen at hmg hmw
        have hge : (G.length != G.length) = false := by simp
        go_wp2_with fail
        go_loopg [16] G.length (fun g i wf => ∃ (n : Nat) (y : ExtOf wr), i = .int .i64 (n : Int) ∧ n + g = G.length ∧ wf = y.val)
        case atStart => exact ⟨0, ⟨wr, Ext.refl _⟩, rfl, by omega, rfl⟩
        case round =>
          obtain ⟨n, y, rfl, hgn, rfl⟩ := hrel
          by_cases hn : n < G.length
          · obtain ⟨f, hf⟩ : ∃ f, G[n]? = some f := ⟨_, List.getElem?_eq_getElem hn⟩
            obtain ⟨g1, rfl, _, l1, hc1⟩ := HVG.out (by omega)
            obtain ⟨g2, rfl, _, l2, hc2⟩ := HVW.out (by omega)
            obtain ⟨r0, r1, r2⟩ := fd_cells hc1 hf
            obtain ⟨s0, s1, s2⟩ := fd_cells hc2 hf
            have hn' : (n : Int) < (G.length : Int) := by omega
            clear hc1 hc2 hf
            go_wp2_with fail
            refine wp_region_ext (by kernel_rfl) (by kernel_rfl) ?_
            repeat (go_big_quiet_step (fail))
            refine wpQuiet_nil ?_
            intro _ hx'
            obtain ⟨z, rfl⟩ := hx'
            go_wp2_with fail
            go_roundg (gk - 1)
            case rel => exact ⟨n + 1, ⟨z.val, y.ext.val z⟩, rfl, by omega, rfl⟩
            case measure => omega
          · have hn' : ¬ (n : Int) < (G.length : Int) := by omega
            go_wp2_with fail
            refine (live_any _).mono ?_
            rintro e w9 ⟨rfl, hx9⟩
            go_wp2_with fail
            go_ret
            exact ⟨rfl, HAC.out.ext.trans (y.ext.trans hx9)⟩
    have hlt' : (k : Int) < (L.length : Int) := by omega
    obtain ⟨x, hx⟩ : ∃ x, L[k]? = some x := ⟨_, List.getElem?_eq_getElem hlt⟩
    obtain ⟨g, off, rfl, hgl, hcell⟩ := HV.out (by omega)
    have hgl := hgl (by omega)
    obtain ⟨q0, q1, q2, q3⟩ := ac_cells (fun j u hj => cell_keep (hcell j u hj) HAC.out.ext) hx
    have hglr : g < wr.heap.size := Nat.lt_of_lt_of_le hgl HAC.out.ext.size
    have HCL := Lib.hid hcell
    have HXX := Lib.hid hx
    clear hcell hgl hx
    have hb := HAC.out.rf.1
    have lb : b < wr.heap.size := (Array.getElem?_eq_some_iff.1 hb).1
    have hcb := fun j => cell_of_row wr _ j _ _ _ hb
    clear hb
    go_upto_block 2 with fail
    have hbw := HAC.out.cx.cw.bw
    have lw : q.bw < wr.heap.size := (Array.getElem?_eq_some_iff.1 hbw).1
    have hcw := fun j => cell_of_row wr _ j _ _ _ hbw
    clear hbw
    obtain ⟨jj, hsm, hjj, hlen⟩ := HS.out
    have hr0 : 0 ≤ R.now := by rw [HA.out.now]; exact hsm.now.1
    have hr1 : R.now ≤ 9223372036854775807 := by rw [HA.out.now]; exact hsm.now.2
    have HSM := Lib.hid hsm
    have HRW := Lib.hid HA.out.now
    clear hsm
    go_cut [14] (fun tz wx => ∃ (z : Int) (v' : Value) (W' : Wh) (vg' : Value) (G' : List Fd) (left' : Int), tz = .int .i64 z ∧ Hid (CallAt p' q b B Bw again v' W' u R vg' G' left' u10 G w wx) ∧ Hid ((W', left', G') = untilC z again (W.S.length + left.toNat + 1) W left G) ∧ Hid (W.now ≤ z ∧ z ≤ 9223372036854775807))
    case first =>
      by_cases h5 : x.k = 5
      · by_cases hnl : R.now < 9223372036854775807
        ·
          as_aux_lemma =>
            have HNL := Lib.hid hnl
            rw [h5] at q0
            go_wp2_with fail
            refine (tick_cb p' v W q vg G left again (k + jj) wr HAC.out.cx HSM.out (by omega) (by omega) ⟨hl0, hl1⟩ HA.out.inv HO.out.2.fut (by rw [← HRW.out]; exact HNL.out)).mono ?_
            rintro e w5 ⟨vl, v5, vg5, rfl, hC5, hk5, hr5, hrg5⟩
            have HC5 := Lib.hid (HAC.out.wheel hC5 hk5 hr5 hrg5)
            clear hC5 hk5 hr5 hrg5
            go_wp2_with fail
            go_meet
            exact ⟨R.now + 1, v5, _, vg5, _, _, rfl, HC5, Lib.hid (by rw [HRW.out]), Lib.hid (by have := HRW.out; have := HNL.out; omega)⟩
        ·
          as_aux_lemma =>
            have hw0 : R.now = 9223372036854775807 := by omega
            rw [h5] at q0
            by_cases ha : x.a = 0
            · rw [ha] at q1
              go_wp2_with fail
              refine wp_region_ext (by kernel_rfl) (by kernel_rfl) ?_
              repeat (go_big_quiet_step (fail))
              refine wpQuiet_nil ?_
              intro _ hx'
              obtain ⟨z, rfl⟩ := hx'
              have HACz := Lib.hid (HAC.out.on z.ext)
              go_wp2_with fail
              go_still_tail 6, (by kernel_rfl)
              change wpList _ _ _ _ _ z.val.drew
              generalize hw1 : z.val.drew = w6
              have e6 : Ext z.val w6 := by rw [← hw1]; exact (Ext.refl _).drew
              clear hw1
              obtain ⟨y6, rfl⟩ := ext_of e6
              clear e6
              have HACy := Lib.hid (HACz.out.on y6.ext)
              go_wp2_with fail
              refine (turn_cb p' v W q vg G left again 0 (k + jj) y6.val HACy.out.cx HSM.out (by omega) (by omega) ⟨hl0, hl1⟩ HA.out.inv HO.out.2.fut (Int.le_refl _) (by rw [← HRW.out]; omega)).mono ?_
              rintro e w5 ⟨vl, v5, vg5, rfl, hC5, hk5, hr5, hrg5⟩
              rw [Int.add_zero, until_now HA.out.inv HO.out.2 again left G _] at hC5
              have HC5 := Lib.hid (HACy.out.wheel hC5 hk5 hr5 hrg5)
              clear hC5 hk5 hr5 hrg5
              go_wp2_with fail
              go_roundg (gk - 1)
              case rel => exact ⟨k + 1, v5, _, u, R, vg5, G, left, rfl, by omega, rfl, hl0, hl1, HC5, Lib.hid (next_agree HA.out).1, Lib.hid ⟨jj, (small_first (HSM.out.mono (by omega)) HO.out.1).1, hjj, by simp only; omega⟩, Lib.hid ⟨(small_first HSM.out HO.out.1).2, HO.out.2⟩⟩
              case measure => omega
            · go_wp2_with fail
              refine wp_region_ext (by kernel_rfl) (by kernel_rfl) ?_
              repeat (go_big_quiet_step (fail))
              refine wpQuiet_nil ?_
              intro _ hx'
              obtain ⟨z, rfl⟩ := hx'
              have HACz := Lib.hid (HAC.out.on z.ext)
              go_wp2_with fail
              go_still_tail 6, (by kernel_rfl)
              change wpList _ _ _ _ _ z.val.drew
              generalize hw1 : z.val.drew = w6
              have e6 : Ext z.val w6 := by rw [← hw1]; exact (Ext.refl _).drew
              clear hw1
              obtain ⟨y6, rfl⟩ := ext_of e6
              clear e6
              have HACy := Lib.hid (HACz.out.on y6.ext)
              go_wp2_with fail
              refine (turn_bad_string p' v W x.a y6.val HACy.out.cx.cw.wh HSM.out.now.1 HSM.out.now.2 (by rw [← HRW.out]; omega)).mono ?_
              rintro e w5 ⟨rfl, rfl⟩
              go_wp2_with fail
              go_roundg (gk - 1)
              case rel => exact ⟨k + 1, v, W, u, R, vg, G, left, rfl, by omega, rfl, hl0, hl1, HACy, HA, Lib.hid ⟨jj, HSM.out.mono (by omega), hjj, by omega⟩, HO⟩
              case measure => omega
      · by_cases h6 : x.k = 6
        · by_cases hok : 0 ≤ x.a ∧ x.a ≤ 9223372036854775807 - R.now
          ·
            as_aux_lemma =>
              obtain ⟨hok0, hok1⟩ := hok
              have HOK := Lib.hid hok1
              rw [h6] at q0
              have hok0' : ¬ x.a < 0 := by omega
              go_wp2_with fail
              refine wp_region_ext (by kernel_rfl) (by kernel_rfl) ?_
              repeat (go_big_quiet_step (fail))
              refine wpQuiet_nil ?_
              intro _ hx'
              obtain ⟨z, rfl⟩ := hx'
              have HACz := Lib.hid (HAC.out.on z.ext)
              go_wp2_with fail
              refine wp_region_ext (by kernel_rfl) (by kernel_rfl) ?_
              repeat (go_big_quiet_step (fail))
              refine wpQuiet_nil ?_
              intro _ hx'
              obtain ⟨z1, rfl⟩ := hx'
              have HACz := Lib.hid (HACz.out.on z1.ext)
              go_wp2_with fail
              go_still_tail 6, (by kernel_rfl)
              change wpList _ _ _ _ _ z1.val.drew
              generalize hw1 : z1.val.drew = w6
              have e6 : Ext z1.val w6 := by rw [← hw1]; exact (Ext.refl _).drew
              clear hw1
              obtain ⟨y6, rfl⟩ := ext_of e6
              clear e6
              have HACy := Lib.hid (HACz.out.on y6.ext)
              go_wp2_with fail
              refine (turn_cb p' v W q vg G left again x.a (k + jj) y6.val HACy.out.cx HSM.out (by omega) (by omega) ⟨hl0, hl1⟩ HA.out.inv HO.out.2.fut hok0 (by rw [← HRW.out]; exact HOK.out)).mono ?_
              rintro e w5 ⟨vl, v5, vg5, rfl, hC5, hk5, hr5, hrg5⟩
              have HC5 := Lib.hid (HACy.out.wheel hC5 hk5 hr5 hrg5)
              clear hC5 hk5 hr5 hrg5
              go_wp2_with fail
              go_meet
              exact ⟨R.now + x.a, v5, _, vg5, _, _, rfl, HC5, Lib.hid (by rw [HRW.out]), Lib.hid (by have := HRW.out; have := HOK.out; omega)⟩
          ·
            as_aux_lemma =>
              rw [h6] at q0
              by_cases hb0 : 0 ≤ x.a
              · have hb1 : ¬ x.a ≤ 9223372036854775807 - R.now := by omega
                go_wp2_with fail
                have hb1' : ¬ x.a ≤ 9223372036854775807 - R.now := by omega
                refine wp_region_ext (by kernel_rfl) (by kernel_rfl) ?_
                repeat (go_big_quiet_step (fail))
                refine wpQuiet_nil ?_
                intro _ hx'
                obtain ⟨z, rfl⟩ := hx'
                have HACz := Lib.hid (HAC.out.on z.ext)
                go_wp2_with fail
                go_still_tail 6, (by kernel_rfl)
                change wpList _ _ _ _ _ z.val.drew
                generalize hw1 : z.val.drew = w6
                have e6 : Ext z.val w6 := by rw [← hw1]; exact (Ext.refl _).drew
                clear hw1
                obtain ⟨y6, rfl⟩ := ext_of e6
                clear e6
                have HACy := Lib.hid (HACz.out.on y6.ext)
                go_wp2_with fail
                refine (turn_bad_string p' v W x.a y6.val HACy.out.cx.cw.wh HSM.out.now.1 HSM.out.now.2 (by rw [← HRW.out]; omega)).mono ?_
                rintro e w5 ⟨rfl, rfl⟩
                go_wp2_with fail
                go_roundg (gk - 1)
                case rel => exact ⟨k + 1, v, W, u, R, vg, G, left, rfl, by omega, rfl, hl0, hl1, HACy, HA, Lib.hid ⟨jj, HSM.out.mono (by omega), hjj, by omega⟩, HO⟩
                case measure => omega
              · go_wp2_with fail
                have hb0' : ¬ 0 ≤ x.a := by omega
                refine wp_region_ext (by kernel_rfl) (by kernel_rfl) ?_
                repeat (go_big_quiet_step (fail))
                refine wpQuiet_nil ?_
                intro _ hx'
                obtain ⟨z, rfl⟩ := hx'
                have HACz := Lib.hid (HAC.out.on z.ext)
                go_wp2_with fail
                go_still_tail 6, (by kernel_rfl)
                change wpList _ _ _ _ _ z.val.drew
                generalize hw1 : z.val.drew = w6
                have e6 : Ext z.val w6 := by rw [← hw1]; exact (Ext.refl _).drew
                clear hw1
                obtain ⟨y6, rfl⟩ := ext_of e6
                clear e6
                have HACy := Lib.hid (HACz.out.on y6.ext)
                go_wp2_with fail
                refine (turn_bad_string p' v W x.a y6.val HACy.out.cx.cw.wh HSM.out.now.1 HSM.out.now.2 (by rw [← HRW.out]; omega)).mono ?_
                rintro e w5 ⟨rfl, rfl⟩
                go_wp2_with fail
                go_roundg (gk - 1)
                case rel => exact ⟨k + 1, v, W, u, R, vg, G, left, rfl, by omega, rfl, hl0, hl1, HACy, HA, Lib.hid ⟨jj, HSM.out.mono (by omega), hjj, by omega⟩, HO⟩
                case measure => omega
        ·
          as_aux_lemma =>
            have h5' : (x.k == 5) = false := by simpa using h5
            have h6' : (x.k == 6) = false := by simpa using h6
            go_wp2_with fail
            refine wp_region_ext (by kernel_rfl) (by kernel_rfl) ?_
            repeat (go_big_quiet_step (fail))
            refine wpQuiet_nil ?_
            intro _ hx'
            obtain ⟨z, rfl⟩ := hx'
            have HACz := Lib.hid (HAC.out.on z.ext)
            go_wp2_with fail
            go_still_tail 6, (by kernel_rfl)
            change wpList _ _ _ _ _ z.val.drew
            generalize hw1 : z.val.drew = w6
            have e6 : Ext z.val w6 := by rw [← hw1]; exact (Ext.refl _).drew
            clear hw1
            obtain ⟨y6, rfl⟩ := ext_of e6
            clear e6
            have HACy := Lib.hid (HACz.out.on y6.ext)
            go_wp2_with fail
            refine (act_still p' v W b B u R x (k + jj) (by omega) y6.val HACy.out.both HA.out HSM.out HO.out.1 h5 h6).mono ?_
            rintro e w5 ⟨rfl, v5, W5, u5, R5, hB5, hA5, hS5, hO5, hLt5, hlen5, hK5, hr5, hs5⟩
            have HC5 := Lib.hid (HACy.out.act hB5 hK5 hr5 hs5)
            have HA5 := Lib.hid hA5
            have HS5 : Hid (∃ j, Small W5 (k + 1 + j) ∧ j + left.toNat = most.toNat ∧ G.length + W5.S.length + left.toNat ≤ k + 1 + most.toNat) := Lib.hid ⟨jj, hS5.mono (by omega), hjj, by omega⟩
            have HO5 := Lib.hid (And.intro hO5 (hLt5 HO.out.2))
            clear hB5 hA5 hS5 hO5 hLt5 hlen5 hK5 hr5 hs5
            go_wp2_with fail
            go_roundg (gk - 1)
            case rel => exact ⟨k + 1, v5, W5, u5, R5, vg, G, left, rfl, by omega, rfl, hl0, hl1, HC5, HA5, HS5, HO5⟩
            case measure => omega
    case rest =>
      as_aux_lemma =>
        obtain ⟨z, v1, W1, vg1, G1, left1, rfl, HC1, HU1, HZ⟩ := hcut
        clear q0 q1 q2 q3 hglr lb hcb lw hcw hr0 hr1
        have HM : Hid (Met z (k + jj) left.toNat (k + most.toNat) (W1, left1, G1) (docC z again (W.S.length + left.toNat + 1) R left G)) := Lib.hid (by
          rw [HU1.out]
          exact until_doc z again (k + jj) left.toNat (k + most.toNat) HZ.out.2 _ W left G R 0 (by omega) HA.out HSM.out (Nat.zero_add _) HO.out.1 HO.out.2.fut HZ.out.1 hl0 hlen)
        have HG0 : Hid (Agree W R ∧ Small W (k + jj + 0) ∧ 0 + left.toNat = left.toNat ∧ OrdOk W ∧ Fut W ∧ W.now ≤ z ∧ G.length + W.S.length + left.toNat ≤ k + most.toNat) := Lib.hid ⟨HA.out, HSM.out, Nat.zero_add _, HO.out.1, HO.out.2.fut, HZ.out.1, hlen⟩
        have hRL : R.L.length = W.S.length := HA.out.len
        generalize hD : docC z again (W.S.length + left.toNat + 1) R left G = D at HM
        have HD0 := Lib.hid hD
        clear hD
        go_upto_block 3 with fail
        go_cut [10, 12] (fun vw mo w5 => ∃ (Rc : Rw) (m : Int) (Hc : List Fd) (uc : Value), mo = .int .i64 m ∧ Hid ((Rc, m, Hc) = D) ∧ Hid (CallAt p' q b B Bw again v1 W1 uc Rc vg1 G1 left1 vw Hc w w5))
        case first =>
          go_wp2_with fail
          go_loopg [10, 12] (R.L.length + left.toNat) (fun g vw mo w2 => ∃ (f : Nat) (Rc : Rw) (m : Int) (Hc : List Fd) (uc : Value) (Wc : Wh) (kk : Nat), mo = .int .i64 m ∧ 0 ≤ m ∧ m ≤ 40 ∧ Rc.L.length + m.toNat ≤ g ∧ Rc.L.length + m.toNat < f ∧ Hid (docC z again f Rc m Hc = D) ∧ Hid (CallAt p' q b B Bw again v1 W1 uc Rc vg1 G1 left1 vw Hc w w2) ∧
            Hid (Agree Wc Rc ∧ Small Wc (k + jj + kk) ∧ kk + m.toNat = left.toNat ∧ OrdOk Wc ∧ Fut Wc ∧ Wc.now ≤ z ∧ Hc.length + Wc.S.length + m.toNat ≤ k + most.toNat))
          case atStart => exact ⟨_, R, left, G, u, W, 0, rfl, hl0, hl1, Nat.le_refl _, by omega, HD0, HC1, HG0⟩
          case round =>
            obtain ⟨f, Rc, m, Hc, uc, Wc, kk, rfl, hm0c, hm1c, hgc, hfc, HDC, HCC, HGC⟩ := hrel
            rename World => w2
            clear HC1 HG0 HD0
            have hb := HCC.out.rf.1
            have lb : b < w2.heap.size := (Array.getElem?_eq_some_iff.1 hb).1
            obtain ⟨a2, cap2, rfl, hm2, hvw2⟩ := row_view HCC.out.rf.2.row
            have hcb := fun j => cell_of_row w2 _ j _ _ _ hb
            have HV2 := Lib.hid hvw2
            have HHB := Lib.hid hb
            clear hb hvw2
            unfold maxLen at hm2
            rcases hRc : Rc.L with _ | ⟨t, L2⟩
            · have hl0 : ¬ (0 : Int) < (Rc.L.length : Int) := by rw [hRc]; simp
              have HRc := Lib.hid hRc
              clear hRc
              go_wp2_with fail
              go_meet
              refine ⟨Rc, m, Hc, _, rfl, Lib.hid ?_, HCC⟩
              rw [← HDC.out]
              obtain ⟨f', rfl⟩ : ∃ f', f = f' + 1 := ⟨f - 1, by omega⟩
              unfold docC
              rw [HRc.out]
            · have HRc := Lib.hid hRc
              have hlc : Rc.L.length = L2.length + 1 := by rw [hRc]; rfl
              obtain ⟨g2, off2, rfl, hg2, hcell2⟩ := HV2.out (by omega)
              have hg2 := hg2 (by decide)
              obtain ⟨s0, s1, s2⟩ := tr_cells hcell2 (show Rc.L[0]? = some t by rw [hRc]; rfl)
              simp only [Nat.zero_mul, Nat.add_zero] at s0 s1 s2
              have l0 : (0 : Int) < (Rc.L.length : Int) := by omega
              clear hcell2 hRc
              by_cases hdue : t.a ≤ z
              · have hO2 := HCC.out.rf.2
                rw [HRc.out] at hO2
                obtain ⟨hcap, hT, hT1⟩ := hO2.tail
                have HT := Lib.hid (And.intro hT hT1)
                clear hT hT1 hO2
                have HDU := Lib.hid hdue
                go_upto_region 27 with fail
                have eT : Ext w2 (w2.alloc (.cells #[.int .i64 t.id, .int .i64 t.a, .string t.v] 72)) := (Ext.refl _).alloc _
                have hT3 : (w2.alloc (.cells #[.int .i64 t.id, .int .i64 t.a, .string t.v] 72)).heap[w2.heap.size]? = some (.cells #[.int .i64 t.id, .int .i64 t.a, .string t.v] 72 (0, 0)) := heap_new rfl
                have HC3 := Lib.hid (HCC.out.on eT)
                generalize hw3 : w2.alloc _ = w3 at eT hT3 HC3 ⊢
                have hb3 := heap_ext HHB.out eT
                have HB3 := Lib.hid hb3
                have HT3 := Lib.hid hT3
                have HTT := Lib.hid (And.intro (HT.out.1.ext eT) (fun h => (HT.out.2 h).ext eT))
                have lb3 : b < w3.heap.size := (Array.getElem?_eq_some_iff.1 hb3).1
                have hcb3 := fun j => cell_of_row w3 _ j _ _ _ hb3
                have hfb3 := fun j => frozen_of_row w3 _ j _ _ hb3
                have hbB := HCC.out.bB
                have l3t : w2.heap.size ≠ b := by omega
                clear hb3 hT3 eT hw3 hcb lb s0 s1 s2 hg2
                go_cut [] (fun wx => ∃ uv, Hid (wx.heap[b]? = some (.cells #[.int .i64 Rc.now, .int .i64 Rc.next, uv] 56 (0, 0))) ∧ Hid (OwnL wx B uv L2) ∧ Hid (rowB uv = [g2]) ∧ Hid (Keeps [b] w3 wx))
                case first =>
                  have e1 : (1 : Int) ≤ (Rc.L.length : Int) := by omega
                  have e2 : (Rc.L.length : Int) ≤ (cap2 : Int) := by omega
                  have e3 : (1 : Int) ≤ (cap2 : Int) := by omega
                  by_cases hce : cap2 = 1
                  · subst hce
                    go_wp2_with fail
                    go_meet
                    have hl20 : L2.length = 0 := by omega
                    have hO := HTT.out.2 (by trivial)
                    rw [hl20] at hO
                    exact ⟨.slice (some ⟨g2, off2, none⟩) 0 0, Lib.hid (by simpa using setCell_row (o := 2) HB3.out (.slice (some ⟨g2, off2, none⟩) 0 0)), Lib.hid (hO.same fun k hk _ => cell_other (by show k ≠ b; omega)), Lib.hid rfl, Lib.hid ((Keeps.refl _ w3).setCell (.inl (.head _)) 2 _)⟩
                  · go_wp2_with fail
                    go_meet
                    exact ⟨.slice (some ⟨g2, off2 + 3, none⟩) L2.length (cap2 - 1), Lib.hid (by simpa using setCell_row (o := 2) HB3.out (.slice (some ⟨g2, off2 + 3, none⟩) L2.length (cap2 - 1))), Lib.hid (HTT.out.1.same fun k hk _ => cell_other (by show k ≠ b; omega)), Lib.hid rfl, Lib.hid ((Keeps.refl _ w3).setCell (.inl (.head _)) 2 _)⟩
                case rest =>
                 as_aux_lemma =>
                    obtain ⟨uv, HBx, HOx, HRx, HKx⟩ := hcut
                    have hCx := HC3.out.ref (R' := ⟨Rc.now, Rc.next, L2⟩) ⟨HBx.out, HOx.out⟩ (HKx.out.mono fun k hk => by rw [List.mem_singleton.1 hk]; exact .head _) (fun g hg => .inl (by rw [HRx.out] at hg; exact hg))
                    have hTx := row_kept HT3.out HKx.out (by simpa using l3t)
                    have HCx := Lib.hid hCx
                    have HTx := Lib.hid hTx
                    have lbx : b < wc.heap.size := (Array.getElem?_eq_some_iff.1 HBx.out).1
                    have hcbx := fun j => cell_of_row wc _ j _ _ _ HBx.out
                    have hfbx := fun j => frozen_of_row wc _ j _ _ HBx.out
                    have ltx : w2.heap.size < wc.heap.size := (Array.getElem?_eq_some_iff.1 hTx).1
                    have hctx := fun j => cell_of_row wc _ j _ _ _ hTx
                    clear hCx hTx hcb3 hfb3 lb3 HB3 HT3 HTT
                    obtain ⟨Wd, hdA, hdS, kd, hd1, hd2, hd3, hd4, hd5, hd6, hd7, hd8⟩ := doc_step (again := again) HGC.out.1 HGC.out.2.1 HGC.out.2.2.1 HGC.out.2.2.2.1 HDU.out HGC.out.2.2.2.2.1 hm0c HZ.out.2 HGC.out.2.2.2.2.2.2 HRc.out
                    have HDA := Lib.hid (And.intro hdA hdS)
                    have HQN : Hid (L2.length ≤ 100000 ∧ (0 ≤ Rc.next ∧ Rc.next ≤ 100000) ∧ 0 ≤ t.a ∧ t.a ≤ 9223372036854775807) := Lib.hid (by
                      have p1 : L2.length = Wd.S.length := hdA.len
                      have p2 : Rc.next = Wd.ids := hdA.next
                      have p3 : t.a = Wd.now := hdA.now
                      have p4 := HGC.out.2.2.1
                      obtain ⟨_, t2, _, _, t5, t6⟩ := hdS
                      exact ⟨by omega, by omega, by omega, by omega⟩)
                    have HDN := Lib.hid (And.intro hd1 (And.intro hd2 (And.intro hd3 (And.intro hd4 (And.intro hd5 (And.intro hd6 hd7))))))
                    have HDL := Lib.hid hd8
                    have HDD : Hid (docC z again (f - 1) (cbR ⟨t.a, Rc.next, L2⟩ m again) (cbL m) (Hc ++ [⟨t.id, t.v, t.a⟩]) = D) := Lib.hid (by
                      rw [← HDC.out]
                      obtain ⟨f', rfl⟩ : ∃ f', f = f' + 1 := ⟨f - 1, by omega⟩
                      conv => rhs; unfold docC
                      rw [HRc.out]
                      simp only
                      rw [if_pos HDU.out]
                      rfl)
                    clear hdA hdS hd1 hd2 hd3 hd4 hd5 hd6 hd7 hd8
                    go_upto_region 29 with fail
                    have hk4 : Keeps [b] wc (wc.setCell ⟨b, 0, none⟩ (.int .i64 t.a)) := (Keeps.refl _ wc).setCell (.inl (.head _)) 0 _
                    have hb4 : (wc.setCell ⟨b, 0, none⟩ (.int .i64 t.a)).heap[b]? = some (.cells #[.int .i64 t.a, .int .i64 Rc.next, uv] 56 (0, 0)) := by simpa using setCell_row (o := 0) HBx.out (.int .i64 t.a)
                    have hC4 := HCx.out.ref (R' := ⟨t.a, Rc.next, L2⟩) (u' := uv) ⟨hb4, HOx.out.same fun k hk _ => cell_other (by show k ≠ b; omega)⟩ (hk4.mono fun k hk => by rw [List.mem_singleton.1 hk]; exact .head _) (fun g hg => .inl hg)
                    have hT4 := row_kept HTx.out hk4 (by simpa using l3t)
                    generalize wc.setCell _ _ = w4x at hC4 hT4 ⊢
                    have HC4 := Lib.hid hC4
                    have lt4 : w2.heap.size < w4x.heap.size := (Array.getElem?_eq_some_iff.1 hT4).1
                    have hct4 := fun j => cell_of_row w4x _ j _ _ _ hT4
                    clear hk4 hb4 hC4 hT4 hcbx hfbx lbx ltx hctx HBx HOx HRx HKx HCx HTx
                    obtain ⟨tif, htif, hzf0, hzf1, hzf2⟩ := info_parts info_fd
                    go_wp2_with (at_builtin; refine unHd ?_)
                    unfold Hd2
                    have eA : Ext w4x (w4x.alloc (.cells #[.int .i64 t.id, .string t.v, .int .i64 t.a] 64)) := (Ext.refl _).alloc _
                    refine wpList_app5 Bw 61 64 tif _ 3 32 Try.underlying61 htif hzf0 hzf1 hzf2 rfl (by decide) rfl _ _ rfl _ Hc.length _ rfl (own_ext HC4.out.ow eA) (Nat.le_trans HC4.out.oB eA.size) w4x.heap.size 1 1 #[.int .i64 t.id, .string t.v, .int .i64 t.a] (by decide) rfl (heap_new rfl) rfl (by simp [Value.oneCell']) (by unfold maxLen; have := HGC.out.2.2.2.2.2.2; omega) (by have := HGC.out.2.2.2.2.2.2; omega) ?_
                    intro vw5 w5x hown5 hgr5 hro5
                    have hk5 : Keeps (rowB u10) w4x w5x := keeps_grown ((Keeps.refl _ w4x).ext eA) hgr5 (fun _ h => h)
                    have HC5 := Lib.hid (HC4.out.want (H' := Hc ++ [⟨t.id, t.v, t.a⟩]) (by simpa [Fd.cs] using hown5) hk5 (rowsle hro5 eA.size))
                    clear hown5 hgr5 hro5 hk5 eA lt4 hct4
                    by_cases hmp : 0 < m
                    · have HMP := Lib.hid hmp
                      have wm : IntKind.i64.wrap (m - 1) = m - 1 := IntWalk.i64_in _ (by omega)
                      have hba := HC5.out.cx.cw.ba
                      rw [HQA.out] at hba
                      have la5 : w.heap.size < w5x.heap.size := (Array.getElem?_eq_some_iff.1 hba).1
                      have hca5 := fun j => cell_of_row w5x _ j _ _ _ hba
                      clear hba
                      go_wp2_with fail
                      refine (ref_after b B uv ⟨t.a, Rc.next, L2⟩ again again_ w5x HC5.out.rf HC5.out.bB HC5.out.rB HQN.out.1 HDA.out.1.sorted HQN.out.2.1 HQN.out.2.2.1 HQN.out.2.2.2).mono ?_
                      rintro e w6x ⟨rfl, uv6, hRf6, hk6, hr6⟩
                      have HC6 := Lib.hid (HC5.out.ref hRf6 hk6 hr6)
                      have HDN6 := HDN.out
                      have HDD6 := HDD.out
                      have HDL6 := HDL.out
                      have e1 : cbR ⟨t.a, Rc.next, L2⟩ m again = (afterR ⟨t.a, Rc.next, L2⟩ again again_).2 := if_pos HMP.out
                      have e2 : cbL m = m - 1 := if_pos HMP.out
                      rw [e1] at HDN6 HDD6 HDL6
                      rw [e2] at HDN6 HDD6 HDL6
                      have HDN7 := Lib.hid HDN6
                      have HDD7 := Lib.hid HDD6
                      have HDL7 := Lib.hid HDL6
                      clear hRf6 hk6 hr6 HDN6 HDD6 HDL6 e1 e2 la5 hca5
                      go_wp2_with fail
                      go_roundg (gk - 1)
                      case rel =>
                        have := HDL7.out
                        exact ⟨f - 1, _, m - 1, Hc ++ [⟨t.id, t.v, t.a⟩], uv6, _, kd, rfl, by omega, by omega, by omega, by omega, HDD7, HC6, Lib.hid ⟨HDN7.out.1, HDN7.out.2.1, HDN7.out.2.2.1, HDN7.out.2.2.2.1, HDN7.out.2.2.2.2.1, HDN7.out.2.2.2.2.2.1, by have := HDN7.out.2.2.2.2.2.2; simp only [List.length_append, List.length_singleton]; omega⟩⟩
                      case measure => omega
                    · have HMP := Lib.hid hmp
                      have HDN6 := HDN.out
                      have HDD6 := HDD.out
                      have HDL6 := HDL.out
                      have e1 : cbR ⟨t.a, Rc.next, L2⟩ m again = ⟨t.a, Rc.next, L2⟩ := if_neg hmp
                      have e2 : cbL m = m := if_neg hmp
                      rw [e1] at HDN6 HDD6 HDL6
                      rw [e2] at HDN6 HDD6 HDL6
                      have HDN7 := Lib.hid HDN6
                      have HDD7 := Lib.hid HDD6
                      have HDL7 := Lib.hid HDL6
                      clear HDN6 HDD6 HDL6 e1 e2
                      go_wp2_with fail
                      go_roundg (gk - 1)
                      case rel =>
                        have := HDL7.out
                        try simp only at this
                        exact ⟨f - 1, ⟨t.a, Rc.next, L2⟩, m, Hc ++ [⟨t.id, t.v, t.a⟩], uv, _, kd, rfl, by omega, by omega, by simp only; omega, by simp only; omega, HDD7, HC5, Lib.hid ⟨HDN7.out.1, HDN7.out.2.1, HDN7.out.2.2.1, HDN7.out.2.2.2.1, HDN7.out.2.2.2.2.1, HDN7.out.2.2.2.2.2.1, by have := HDN7.out.2.2.2.2.2.2; simp only [List.length_append, List.length_singleton]; omega⟩⟩
                      case measure => omega
              · go_wp2_with fail
                go_meet
                refine ⟨Rc, m, Hc, _, rfl, Lib.hid ?_, HCC⟩
                rw [← HDC.out]
                obtain ⟨f', rfl⟩ : ∃ f', f = f' + 1 := ⟨f - 1, by omega⟩
                unfold docC
                rw [HRc.out]
                simp only
                rw [if_neg (show ¬ t.a ≤ z by omega)]
        case rest =>
         as_aux_lemma =>
            obtain ⟨Rc, m, Hc, uc, rfl, HD, HCC⟩ := hcut
            clear HC1 HG0 HD0
            rw [← HD.out] at HM
            have hsame := HM.out.same
            simp only [Prod.mk.injEq] at hsame
            obtain ⟨rfl, rfl⟩ := hsame
            have HMM := HM
            have HAz : Hid (Agree W1 { Rc with now := z }) := Lib.hid HMM.out.agree
            have hb := HCC.out.rf.1
            have HBz := Lib.hid hb
            have lb : b < wc.heap.size := (Array.getElem?_eq_some_iff.1 hb).1
            have hcb := fun j => cell_of_row wc _ j _ _ _ hb
            have hfb := fun j => frozen_of_row wc _ j _ _ hb
            have hbB := HCC.out.bB
            clear hb
            go_upto_region 34 with fail
            have hk4 : Keeps [b] wc (wc.setCell ⟨b, 0, none⟩ (.int .i64 z)) := (Keeps.refl _ wc).setCell (.inl (.head _)) 0 _
            have hb4 : (wc.setCell ⟨b, 0, none⟩ (.int .i64 z)).heap[b]? = some (.cells #[.int .i64 z, .int .i64 Rc.next, uc] 56 (0, 0)) := by simpa using setCell_row (o := 0) HBz.out (.int .i64 z)
            have hC4 := HCC.out.ref (R' := { Rc with now := z }) (u' := uc) ⟨hb4, HCC.out.rf.2.same fun k hk _ => cell_other (by show k ≠ b; omega)⟩ (hk4.mono fun k hk => by rw [List.mem_singleton.1 hk]; exact .head _) (fun g hg => .inl hg)
            generalize wc.setCell _ _ = w6 at hC4 ⊢
            have HC4 := Lib.hid hC4
            clear hk4 hb4 hC4 hcb hfb lb HBz
            obtain ⟨q0, q1, q2, q3⟩ := ac_cells (fun j u hj => cell_keep (HCL.out j u hj) HC4.out.ext) HXX.out
            have hgl6 : g < w6.heap.size := World.block_lt_of_cell? w6 _ q0
            have hbw6 := HC4.out.cx.cw.bw
            have lw6 : q.bw < w6.heap.size := (Array.getElem?_eq_some_iff.1 hbw6).1
            have hcw6 := fun j => cell_of_row w6 _ j _ _ _ hbw6
            clear hbw6
            go_still_tail 7, (by kernel_rfl)
            change wpList _ _ _ _ _ w6.drew
            generalize hw7 : w6.drew = w7
            have e7 : Ext w6 w7 := by rw [← hw7]; exact (Ext.refl _).drew
            clear hw7
            obtain ⟨y7, rfl⟩ := ext_of e7
            clear e7
            have HC7 := Lib.hid (HC4.out.on y7.ext)
            go_wp2_with fail
            obtain ⟨kk, hkk1, hkk2⟩ := HM.out.small
            have HKK := Lib.hid hkk1
            have hpos := HM.out.pos
            have hlen1 := HM.out.len
            simp only at hpos hlen1 hkk2
            refine (tells_any p' v1 W1 b B uc { Rc with now := z } x.id y7.val HC7.out.both HAz.out (HKK.out.mono (by omega)) HM.out.ord).mono ?_
            rintro e w8 ⟨rfl, v8, hB8, hK8, hr8⟩
            have HC8 := Lib.hid (HC7.out.wheel (HC7.out.cx.wheel hB8.wh hK8 (rows_eq hr8)) (hK8.mono fun _ h => List.mem_append_left _ h) (rows_eq hr8) (fun _ h => .inl h))
            clear hB8 hK8 hr8 hkk1 q0 q1 q2 q3 hgl6 lw6 hcw6
            go_wp2_with fail
            go_roundg (gk - 1)
            case rel => exact ⟨k + 1, v8, _, uc, _, vg1, G1, left1, rfl, by omega, rfl, hpos, by omega, HC8, Lib.hid (next_agree HAz.out).1, Lib.hid ⟨jj + kk, (small_first (HKK.out.mono (by omega)) HM.out.ord).1, by omega, by simp only; omega⟩, Lib.hid ⟨(small_first HKK.out HM.out.ord).2, fun t ht => by have h1 := HM.out.later t ht; have h2 := HM.out.now; simp only at h1 h2 ⊢; omega⟩⟩
            case measure => omega
end Go.Proofs.Ytibdplfdmncgiaa
