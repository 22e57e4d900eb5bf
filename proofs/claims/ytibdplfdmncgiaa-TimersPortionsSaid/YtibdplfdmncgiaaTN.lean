/-
  Walk: the law TimersNext. No condition.
-/
import Derived.Test.YtibdplfdmncgiaaTK
import Derived.Test.YtibdplfdmncgiaaTL
set_option linter.all false
namespace Go.Proofs.Ytibdplfdmncgiaa
open Go.RowKit
attribute [local go_sem] ExtOf.cell ExtOf.frozen ExtOf.lt ExtOf.le
attribute [local go_sem high] ExtOf.cell2 ExtOf.frozen2 ExtOf.lt2 ExtOf.cell3 ExtOf.frozen3 ExtOf.lt3 ExtOf.cellX ExtOf.frozenX ExtOf.cellX' ExtOf.frozenX'

theorem own_keep {w w' : World} {base : Nat} {e : TypeId} {size : Nat} {v : Value} {n : Nat} {xs : List Value} {X : List Nat} (h : w.ownsRow base e size v n xs) (hk : Keeps X w w') (hd : ∀ g ∈ rowB v, g ∉ X) : w'.ownsRow base e size v n xs := by
  refine ⟨h.1, h.2.imp id ?_⟩
  rintro ⟨g, cap, cur, hv, hb, hg, r⟩
  refine ⟨g, cap, cur, hv, hb, (hk.block g (Array.getElem?_eq_some_iff.1 hg).1 (hd g ?_)).trans hg, r⟩
  rw [hv]; simp [rowB, Value.ownBlock]

theorem rowB_own_lt {w : World} {base : Nat} {e : TypeId} {size : Nat} {v : Value} {n : Nat} {xs : List Value} (h : w.ownsRow base e size v n xs) : ∀ g ∈ rowB v, base ≤ g ∧ g < w.heap.size := fun g hg => by
  rcases h.2 with ⟨hv, _⟩ | ⟨g', cap, cur, hv, hb, hh, _⟩
  · subst hv; simp [rowB, Value.ownBlock] at hg
  · subst hv
    simp only [rowB, Value.ownBlock, List.mem_singleton] at hg
    subst hg
    exact ⟨hb, (Array.getElem?_eq_some_iff.1 hh).1⟩

theorem wheel_blocks {T : TypeId} {f : FuncId} {p : At} {v : Value} {W : Wh} {w w' : World} (h : WheelW T f p v W w) (hk : ∀ k ∈ p.all v, w'.heap[k]? = w.heap[k]?) : WheelW T f p v W w' :=
  ⟨(hk _ (by simp [At.all])).trans h.1, h.2.1.same (hk _ (by simp [At.all])), h.2.2.same2 (hk _ (by simp [At.all])) (fun k hm => hk k (by simp [At.all, hm]))⟩

theorem all_lt2 {T : TypeId} {f : FuncId} {p : At} {v : Value} {W : Wh} {w : World} (h : WheelW T f p v W w) (hB : p.B ≤ w.heap.size) : ∀ k ∈ p.all v, k < w.heap.size := fun k hk => by
  have hM := p.hM
  have hH := p.hH
  have hW := p.hW
  have hg := rowB_lt h.2.2
  simp only [At.all, List.mem_cons] at hk
  rcases hk with rfl | rfl | rfl | hk
  · omega
  · omega
  · omega
  · exact hg k hk

theorem wheel_grown {T : TypeId} {f : FuncId} {p : At} {v u : Value} {W : Wh} {w w' : World} (h : WheelW T f p v W w) (hB : p.B ≤ w.heap.size) (hg : w.grownBy w' u.ownBlock) (hd : ∀ g ∈ rowB u, g ∉ p.all v) : WheelW T f p v W w' :=
  wheel_blocks h fun k hk => hg.block k (all_lt2 h hB k hk) fun e => hd k (by unfold rowB; rw [← e]; simp) hk

theorem ext_grown2 {w a b : World} (h : Ext w a) {v : Value} (k : a.grownBy b v.ownBlock) (hv : ∀ g ∈ rowB v, w.heap.size ≤ g) : Ext w b :=
  ⟨k.os.trans h.os, k.tape.trans h.tape, k.output.trans h.output, Nat.le_trans h.size k.size, fun i hi => (k.block i (Nat.lt_of_lt_of_le hi h.size) (fun he => by have := hv i (by unfold rowB; rw [← he]; simp); omega)).trans (h.block i hi)⟩

theorem apart_step {p : At} {u v v' : Value} {n : Nat} (hd : ∀ g ∈ rowB u, g ∉ p.all v) (hlt : ∀ g ∈ rowB u, g < n) (hr : ∀ g ∈ rowB v', g ∈ rowB v ∨ n ≤ g) : ∀ g ∈ rowB u, g ∉ p.all v' := fun g hg hm => by
  have h1 := hd g hg
  simp only [At.all, List.mem_cons, not_or] at h1 hm
  rcases hm with h | h | h | h
  · exact h1.1 h
  · exact h1.2.1 h
  · exact h1.2.2.1 h
  · rcases hr g h with h | h
    · exact h1.2.2.2 h
    · have := hlt g hg; omega

theorem int_one {x : Int} : ∀ u ∈ (#[Value.int .i64 x] : Array Value).toList, u.oneCell' = true := by simp [Value.oneCell']
theorem intCs_add (l : List Int) (x : Int) : intCs (l ++ [x]) = intCs l ++ #[Value.int .i64 x].toList := by simp [intCs]

theorem cancelV_eq (S : List Tm) (k : Int) : ∃ x, cancelV S k = .tuple #[.int .i64 x, .bool (getT S k).isSome] := by
  unfold cancelV
  split
  · rename_i t ht; exact ⟨t.v, by rw [ht]; rfl⟩
  · rename_i ht; exact ⟨0, by rw [ht]; rfl⟩

set_option maxRecDepth 100000 in
set_option maxHeartbeats 8000000 in
theorem next_loop (tv : Value) (L : List Int) (drop : Int) (w : World) (hR : Row w 1 tv L.length (intCs L)) (h80 : L.length ≤ 80) :
    Calls Try.prog 5 #[tv, .int .i64 drop] w fun e w' => e = .returned (.bool true) ∧ Ext w w' := by
  obtain ⟨ti0, hi, hz0, hz1, hz2⟩ := info_parts info_v_int
  have HR := Lib.hid hR
  have hvw : ∃ a cap, tv = .slice a L.length cap ∧ (0 < L.length → ∃ g off, a = some ⟨g, off, none⟩ ∧ ∀ j x, L[j]? = some x → w.cell? ⟨g, off + j, none⟩ = some (.int .i64 x)) := by
    rcases hR.2 with ⟨hn, a, c, hv⟩ | ⟨g, off, cap, hv, hm, hc⟩
    · exact ⟨a, c, by rw [hv, hn], fun h => by omega⟩
    · exact ⟨_, cap, hv, fun _ => ⟨g, off, rfl, fun j x hj => hc j _ (by simp [intCs, hj])⟩⟩
  obtain ⟨ta, tcap, rfl, hcells⟩ := hvw
  have HC := Lib.hid hcells
  clear hR hcells
  go_enter Try.func5, Try.ntmps5
  go_wp2_with fail
  refine (new_int _).mono ?_
  rintro e w1 ⟨p, rfl, hW1, hx1, hM1, hB1⟩
  have HW1 := Lib.hid hW1
  have HX1 := Lib.hid hx1
  have HM := Lib.hid hM1
  clear hW1 hx1 hM1
  go_wp2_with fail
  go_loopg [6, 7] L.length (fun g vi ti wr => ∃ (k j : Nat) (Wc : Wh) (vc : Value), ti = .int .i64 (k : Int) ∧ k + g = L.length ∧ j ≤ k ∧ Hid (NextAt k j Wc) ∧ Hid (WheelW 91 43 p vc Wc wr) ∧ Hid (Ext w wr) ∧ p.B ≤ wr.heap.size ∧ Hid (wr.ownsRow w.heap.size 3 1 vi j (intCs (idsV j))) ∧ Hid (∀ g ∈ rowB vi, g ∉ p.all vc))
  case atStart => exact ⟨0, 0, wh00, _, rfl, by omega, Nat.le_refl _, Lib.hid next0, HW1, HX1, hB1, Lib.hid (World.ownsRow_nil _ _ _ _), Lib.hid (fun g hg => by simp [rowB, Value.ownBlock] at hg)⟩
  case round =>
    obtain ⟨k, j, Wc, vc, rfl, hg, hjk, HN, HWc, HX, hB, HO, HD⟩ := hrel
    clear HW1 HX1
    have hsh : ∀ g ∈ p.all vc, w.heap.size ≤ g := all_new HWc.out HM.out
    by_cases hlt : k < L.length
    · obtain ⟨ga, off, rfl, hcell⟩ := HC.out (by omega)
      obtain ⟨x, hxL⟩ : ∃ x, L[k]? = some x := ⟨L[k], List.getElem?_eq_getElem hlt⟩
      have hck := hcell k x hxL
      have hck := cell_keep hck HX.out
      have hlt' : (k : Int) < (L.length : Int) := by omega
      have hN := HN.out
      go_wp2_with fail
      refine (set_int p vc Wc x (k : Int) wr HWc.out hB (by rw [hN.Ln]; omega) (by rw [hN.m]; omega) (by rw [hN.ord]; omega) (by rw [hN.ids]; omega)).mono ?_
      rintro e w2 ⟨rfl, v2, hW2, hk2, hr2⟩
      have HO2 := Lib.hid (own_keep HO.out hk2 HD.out)
      have HD2 := Lib.hid (apart_step HD.out (fun g hg => (rowB_own_lt HO.out g hg).2) hr2)
      have HX2 := Lib.hid (keeps_ext2 HX.out hsh hk2)
      have hB2 := Nat.le_trans hB hk2.size
      by_cases hx : x ≤ 0
      · have e1 := hN.past (x := x) (k : Int) hx
        rw [e1] at hW2 ⊢
        have HW2 := Lib.hid hW2
        have HN2 := Lib.hid hN.skip
        clear e1 hW2 hk2 hr2 hN HN HWc HX hsh HO HD hB hck hcell hxL
        unfold numV
        go_wp2_with fail
        refine (num_any _ _).mono ?_
        rintro e w3 ⟨rfl, rfl⟩
        go_wp2_with fail
        go_roundg (gk - 1)
        case rel => exact ⟨k + 1, j, Wc, v2, rfl, by omega, by omega, HN2, HW2, HX2, hB2, HO2, HD2⟩
        case measure => omega
      · obtain ⟨e1, hN2, _⟩ := hN.laid (x := x) (k : Int) (by omega) (by omega)
        rw [e1]
        have HW2 := Lib.hid hW2
        have HN2 := Lib.hid hN2
        generalize (setW Wc x k).2 = W2 at HW2 HN2
        clear e1 hW2 hN2 hk2 hr2 hN HN HWc HX hsh HO HD hB hck hcell hxL
        unfold numV
        go_wp2_with fail
        refine (num_any _ _).mono ?_
        rintro e w3 ⟨rfl, rfl⟩
        go_wp2_with (first | (at_builtin; refine unHd ?_))
        unfold Hd2
        refine wpList_app5 w.heap.size 38 3 ti0 _ 1 8 Try.underlying38 hi hz0 hz1 hz2 rfl (by decide) rfl _ _ rfl _ j _ rfl (own_ext HO2.out ((Ext.refl w3).alloc _)) (by have := HX2.out.size; simp; omega) w3.heap.size 1 1 #[.int .i64 (j : Int)] (by decide) rfl (heap_new rfl) rfl int_one (by unfold maxLen; omega) (by omega) ?_
        intro v5 w5 hown5 hg5 hr5
        have eA : Ext w3 (w3.alloc (.cells #[.int .i64 (j : Int)] 3)) := (Ext.refl w3).alloc _
        have hsA : (w3.alloc (.cells #[.int .i64 (j : Int)] 3)).heap.size = w3.heap.size + 1 := by simp
        rw [hsA] at hr5
        have hl5 := fun g hg => (rowB_own_lt HO2.out g hg)
        have HW5 := Lib.hid (wheel_grown (HW2.out.ext eA) (by rw [hsA]; omega) hg5 HD2.out)
        have HX5 := Lib.hid (ext_grown2 (HX2.out.trans eA) hg5 (fun g hg => (hl5 g hg).1))
        have hB5 : p.B ≤ w5.heap.size := by have := hg5.size; omega
        have HD5 : Hid (∀ g ∈ rowB v5, g ∉ p.all v2) := Lib.hid fun g hg hm => by
          rcases hr5 g hg with h | h
          · exact HD2.out g h hm
          · have := all_lt2 HW2.out hB2 g hm; omega
        have HO5 : Hid (w5.ownsRow w.heap.size 3 1 v5 (j + 1) (intCs (idsV (j + 1)))) := Lib.hid (by rw [idsV_succ, intCs_add]; exact hown5)
        clear hown5 hg5 hr5 eA hsA hl5 HW2 HX2 HD2 HO2 hB2
        go_wp2_with fail
        go_roundg (gk - 1)
        case rel => exact ⟨k + 1, j + 1, W2, v2, rfl, by omega, by omega, HN2, HW5, HX5, hB5, HO5, HD5⟩
        case measure => omega
    · have hge : L.length ≤ k := by omega
      have hge' : (L.length : Int) ≤ (k : Int) := by omega
      go_wp2_with fail
      have hN := HN.out
      have hnd := hN.inv.nodup
      have hwi := drop_inv hN.inv (k := drop) Wc.now
      have hgone := ids_gone hN.S drop
      have htw := get_drop hnd drop
      obtain ⟨x1, hc1⟩ := cancelV_eq Wc.S drop
      obtain ⟨x2, hc2⟩ := cancelV_eq (dropT Wc.S drop) drop
      rw [hgone] at hc1
      rw [htw] at hc2
      refine (cancel_int p vc Wc drop wr HWc.out hB).mono ?_
      rintro e w2 ⟨rfl, hW2, hk2⟩
      have HW2 := Lib.hid hW2
      have HX2 := Lib.hid (keeps_ext2 HX.out hsh hk2)
      have HO2 := Lib.hid (own_keep HO.out hk2 HD.out)
      have hB2 := Nat.le_trans hB hk2.size
      rw [hc1]
      have HC2 := Lib.hid hc2
      have HND := Lib.hid hnd
      have HWI := Lib.hid hwi
      have HNN := Lib.hid hN
      clear hW2 hk2 hc1 hc2 htw hgone hnd hwi hN HN HWc HX HO hB
      go_wp2_with fail
      refine (cancel_int p vc _ drop w2 HW2.out hB2).mono ?_
      rintro e w3 ⟨rfl, hW3, hk3⟩
      simp only at hW3 ⊢
      rw [drop_drop HND.out] at hW3
      have HW3 := Lib.hid hW3
      have HX3 := Lib.hid (keeps_ext2 HX2.out hsh hk3)
      have HO3 := Lib.hid (own_keep HO2.out hk3 HD.out)
      have hB3 := Nat.le_trans hB2 hk3.size
      rw [HC2.out]
      clear hW3 hk3 HC2 HW2 HX2 HO2 hB2
      go_wp2_with fail
      have hLl := HNN.out.Ln
      refine (next_int p vc _ w3 HW3.out hB3 (by simp only; rw [hLl]; omega)).mono ?_
      rintro e w4 ⟨rfl, v4, hW4, hk4, hr4⟩
      rw [next_scan HWI.out]
      have hsub : ∀ g ∈ p.bH :: rowB vc, g ∈ p.all vc := fun g hg => by
        simp only [At.all, List.mem_cons] at hg ⊢
        rcases hg with h | h <;> simp [h]
      have HW4 := Lib.hid hW4
      have HX4 := Lib.hid (keeps_ext2 HX3.out (fun g hg => hsh g (hsub g hg)) hk4)
      have HO4 := Lib.hid (own_keep HO3.out hk4 (fun g hg hm => HD.out g hg (hsub g hm)))
      have hB4 := Nat.le_trans hB3 hk4.size
      clear hW4 hk4 hr4 hsub hLl HW3 HX3 HO3 hB3 hsh HD
      go_wp2_with fail
      obtain ⟨ia, icap, hvi, him, hiv⟩ := own_view HO4.out
      subst hvi
      have HIV := Lib.hid hiv
      clear hiv HO4
      go_loopg [16, 17, 18] j (fun g li ni ki wq => ∃ (q : Nat), ki = .int .i64 (q : Int) ∧ q + g = j ∧ li = .int .i64 (scanT ((Wc.S.take q).filter fun t => t.id != drop)).2 ∧ ni = .int .i64 (scanT ((Wc.S.take q).filter fun t => t.id != drop)).1 ∧ Hid (Ext w4 wq))
      case atStart => exact ⟨0, rfl, by omega, rfl, rfl, Lib.hid (Ext.refl _)⟩
      case round =>
        obtain ⟨q, rfl, hq, rfl, rfl, HE⟩ := hrel
        by_cases hqj : q < j
        · obtain ⟨gi, rfl, _, _, hci⟩ := HIV.out (by omega)
          have hcq := cell_keep (hci q (.int .i64 (q : Int)) (by simp [intCs, idsV_get hqj])) HE.out
          have hqj' : (q : Int) < (j : Int) := by omega
          obtain ⟨s1, _, _⟩ := scan_spec ((Wc.S.take q).filter fun t => t.id != drop)
          have s2 : ((Wc.S.take q).filter fun t => t.id != drop).length ≤ q := Nat.le_trans (List.length_filter_le _ _) (by rw [List.length_take]; omega)
          have hst := scan_step HNN.out.S HND.out drop hqj
          generalize scanT ((Wc.S.take q).filter fun t => t.id != drop) = sc at s1 hst ⊢
          obtain ⟨n, l⟩ := sc
          simp only at s1 ⊢
          have n0 : 0 ≤ n := by omega
          have n1 : n ≤ 100 := by omega
          clear s1 s2 hci
          go_wp2_with fail
          refine (due_int p v4 _ (q : Int) wr (HW4.out.ext HE.out)).mono ?_
          rintro e w5 ⟨rfl, hx5⟩
          have HE5 := Lib.hid (HE.out.trans hx5)
          clear hx5 hcq HE
          rcases hst with ⟨hg1, hg2⟩ | ⟨t, hg1, hg2⟩
          · have hd : dueV (dropT Wc.S drop) (q : Int) = .tuple #[.int .i64 0, .bool false] := by unfold dueV; rw [hg1]
            simp only [hd]
            have HG2 := Lib.hid hg2
            clear hd hg1 hg2
            go_wp2_with fail
            go_roundg (gk - 1)
            case rel => exact ⟨q + 1, rfl, by omega, by rw [HG2.out], by rw [HG2.out], HE5⟩
            case measure => omega
          · have hd : dueV (dropT Wc.S drop) (q : Int) = .tuple #[.int .i64 t.a, .bool true] := by unfold dueV; rw [hg1]
            simp only [hd]
            have HG2 := Lib.hid hg2
            clear hd hg1 hg2
            by_cases hn0 : n = 0
            · subst hn0
              go_wp2_with fail
              go_roundg (gk - 1)
              case rel => exact ⟨q + 1, rfl, by omega, by rw [HG2.out]; simp [scanS], by rw [HG2.out]; simp [scanS], HE5⟩
              case measure => omega
            · have hn0' : (n == 0) = false := by simp [hn0]
              by_cases hta : t.a < l
              · go_wp2_with fail
                go_roundg (gk - 1)
                case rel => exact ⟨q + 1, rfl, by omega, by rw [HG2.out]; simp [scanS, hta], by rw [HG2.out]; simp [scanS], HE5⟩
                case measure => omega
              · have hta' : l ≤ t.a := by omega
                go_wp2_with fail
                go_roundg (gk - 1)
                case rel => exact ⟨q + 1, rfl, by omega, by rw [HG2.out]; simp only [scanS]; rw [if_neg (by omega)], by rw [HG2.out]; simp [scanS], HE5⟩
                case measure => omega
        · have hqj' : (j : Int) ≤ (q : Int) := by omega
          obtain rfl : q = j := by omega
          have hfin : ((Wc.S.take q).filter fun t => t.id != drop) = dropT Wc.S drop := by
            rw [drop_filter HND.out, List.take_of_length_le (by rw [HNN.out.len]; exact Nat.le_refl _)]
          rw [hfin]
          have hlen := (scan_spec (dropT Wc.S drop)).1
          generalize hsc : scanT (dropT Wc.S drop) = sc at hlen ⊢
          obtain ⟨n, l⟩ := sc
          simp only at hlen
          subst hlen
          have HF := Lib.hid hfin
          have HS := Lib.hid hsc
          clear hfin hsc
          rcases (show drop < 0 ∨ (0 ≤ drop ∧ drop < q) ∨ (0 ≤ drop ∧ (q : Int) ≤ drop) by omega) with hd | ⟨hd, hd2⟩ | ⟨hd, hd2⟩
          · go_wp2_with fail
            refine (len_int p v4 _ wr (HW4.out.ext HE.out)).mono ?_
            rintro e w6 ⟨rfl, rfl⟩
            simp only
            go_wp2_with fail
            refine (live_any _).mono ?_
            rintro e w7 ⟨rfl, hx7⟩
            go_wp2_with fail
            go_ret
            exact ⟨rfl, (HX4.out.trans HE.out).trans hx7⟩
          · go_wp2_with fail
            refine (len_int p v4 _ wr (HW4.out.ext HE.out)).mono ?_
            rintro e w6 ⟨rfl, rfl⟩
            simp only
            go_wp2_with fail
            refine (live_any _).mono ?_
            rintro e w7 ⟨rfl, hx7⟩
            go_wp2_with fail
            go_ret
            exact ⟨rfl, (HX4.out.trans HE.out).trans hx7⟩
          · go_wp2_with fail
            refine (len_int p v4 _ wr (HW4.out.ext HE.out)).mono ?_
            rintro e w6 ⟨rfl, rfl⟩
            simp only
            go_wp2_with fail
            refine (live_any _).mono ?_
            rintro e w7 ⟨rfl, hx7⟩
            go_wp2_with fail
            go_ret
            exact ⟨rfl, (HX4.out.trans HE.out).trans hx7⟩

theorem next_any (tv : Value) (L : List Int) (drop : Int) (w : World) (hR : Row w 1 tv L.length (intCs L)) :
    Calls Try.prog 5 #[tv, .int .i64 drop] w fun e w' => e = .returned (.bool true) ∧ Ext w w' := by
  by_cases h : L.length ≤ 80
  · exact next_loop tv L drop w hR h
  · have hgt : (80 : Int) < (L.length : Int) := by omega
    obtain ⟨g, off, cap, rfl, hm, hc⟩ : ∃ g off cap, tv = .slice (some ⟨g, off, none⟩) L.length cap ∧ L.length ≤ maxLen ∧ ∀ j u, (intCs L)[j]? = some u → w.cell? ⟨g, off + j, none⟩ = some u := by
      rcases hR.2 with ⟨hn, _⟩ | h
      · omega
      · exact h
    clear hR hc
    go_enter Try.func5, Try.ntmps5
    go_wp2_with fail
    refine (live_any _).mono ?_
    rintro e w1 ⟨rfl, hx⟩
    go_wp2_with fail
    go_ret
    exact ⟨rfl, hx⟩
end Go.Proofs.Ytibdplfdmncgiaa
