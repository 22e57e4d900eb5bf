/-
  Walk: what the law asks of both wheels behind each act. No condition.
-/
import Derived.Test.YtibdplfdmncgiaaMC19
set_option linter.all false
namespace Go.Proofs.Ytibdplfdmncgiaa
open Go.RowKit
attribute [local go_sem] ExtOf.cell ExtOf.frozen ExtOf.lt ExtOf.le
attribute [local go_sem high] ExtOf.cell2 ExtOf.frozen2 ExtOf.lt2 ExtOf.cell3 ExtOf.frozen3 ExtOf.lt3

theorem now_ext (p : At) (v : Value) (W : Wh) (w : World) (hW : WheelW 101 47 p v W w) : Calls Try.prog 30 #[.pointer (some ⟨p.bW, 0, none⟩)] w fun e w' => e = .returned (.int .i64 W.now) ∧ Ext w w' :=
  (now_string p v W w hW).mono fun _ _ ⟨h1, h2⟩ => ⟨h1, by rw [h2]; exact Ext.refl _⟩
theorem len_ext (p : At) (v : Value) (W : Wh) (w : World) (hW : WheelW 101 47 p v W w) : Calls Try.prog 38 #[.pointer (some ⟨p.bW, 0, none⟩)] w fun e w' => e = .returned (.int .i64 W.S.length) ∧ Ext w w' :=
  (len_string p v W w hW).mono fun _ _ ⟨h1, h2⟩ => ⟨h1, by rw [h2]; exact Ext.refl _⟩

theorem own_cell {w : World} {B : Nat} {e : TypeId} {g n cap : Nat} {xs : List Value} (h : w.ownsRow B e 1 (.slice (some ⟨g, 0, none⟩) n cap) n xs) (i : Nat) (x : Value) : ∃ ys, (w.setCell ⟨g, i, none⟩ x).ownsRow B e 1 (.slice (some ⟨g, 0, none⟩) n cap) n ys := by
  obtain ⟨hl, h⟩ := h
  rcases h with ⟨hv, _⟩ | ⟨g', cap', cur, hv, hb, hg, hn, hm, hs, hx⟩
  · cases hv
  · cases hv
    exact ⟨((cur.setIfInBounds i x).toList.take (n * 1)), by simp [hs]; omega, .inr ⟨g, cap, _, rfl, hb, setCell_row hg x, hn, hm, by simp [hs], rfl⟩⟩

/-- What is behind tells. -/
def Told (p : At) (v : Value) (W : Wh) (b B : Nat) (u : Value) (R : Rw) (w : World) : Ending → World → Prop := fun e w' =>
  e = .returned (.bool true) ∧ ∃ v', Both p v' { W with L := firstL W.S W.L.length W.L } b B u R w' ∧ Keeps (p.all v) w w' ∧ rowB v' = rowB v

/-- What is known ahead of the law's tells. -/
structure TellIn (p : At) (v : Value) (W : Wh) (b B : Nat) (u : Value) (R : Rw) (k : Int) (w : World) : Prop where
  H : Both p v W b B u R w
  HA : Agree W R
  HDU : Calls Try.prog 55 #[.pointer (some ⟨p.bW, 0, none⟩), .int .i64 k] w fun e w' => e = .returned (dueV W.S k) ∧ Ext w w'
  HFI : ∀ w', Ext w w' → Calls Try.prog 56 #[.pointer (some ⟨b, 0, none⟩), .int .i64 k] w' fun e w'' => e = .returned (.int .i64 (findI R.L k)) ∧ w'' = w'
  HNX : ∀ w', Ext w w' → Calls Try.prog 36 #[.pointer (some ⟨p.bW, 0, none⟩)] w' fun e w'' => e = .returned (nextV W.S (firstL W.S W.L.length W.L)) ∧ ∃ v', Both p v' { W with L := firstL W.S W.L.length W.L } b B u R w'' ∧ Keeps (p.all v) w w'' ∧ rowB v' = rowB v
  HLi : ∀ v1 w', WheelW 101 47 p v1 { W with L := firstL W.S W.L.length W.L } w' → Calls Try.prog 57 #[.pointer (some ⟨p.bW, 0, none⟩)] w' fun e w'' => ∃ vl, e = .returned vl ∧ w''.ownsRow w'.heap.size 9 1 vl (R.L.map (·.v)).length (txtCs (R.L.map (·.v))) ∧ Ext w' w''
  hL9 : R.L.length ≤ 1000

set_option maxRecDepth 100000 in
set_option maxHeartbeats 8000000 in
theorem tells_00 (p : At) (v : Value) (W : Wh) (b B : Nat) (u : Value) (R : Rw) (k : Int) (w : World) (I : TellIn p v W b B u R k w) (hg : getT W.S k = none) (hfl : firstL W.S W.L.length W.L = []) (hRL : R.L = []) : Calls Try.prog 27 #[.pointer (some ⟨p.bW, 0, none⟩), .pointer (some ⟨b, 0, none⟩), .int .i64 k] w (Told p v W b B u R w) := by
  have H := Lib.hid I.H
  have HA := Lib.hid I.HA
  have HDU := Lib.hid I.HDU
  have HFI := Lib.hid I.HFI
  have HNX := Lib.hid I.HNX
  have HLi := Lib.hid I.HLi
  have hL9 := I.hL9
  have ha := I.HA
  clear I
  unfold Told
  have hdv : dueV W.S k = .tuple #[.int .i64 0, .bool false] := by unfold dueV; rw [hg]
  have hfi : findI R.L k = -1 := by unfold findI; rw [ha.none hg]
  rw [hdv] at HDU
  rw [hfi] at HFI
  clear hdv hfi hg
  have hnx : nextV W.S (firstL W.S W.L.length W.L) = .tuple #[.int .i64 0, .bool false] := by rw [hfl]; rfl
  have l0 : ¬ (0 : Int) < (R.L.length : Int) := by rw [hRL]; simp
  rw [hnx] at HNX
  clear hnx
  have HRL := Lib.hid hRL
  have HFL := Lib.hid hfl
  clear hRL hfl
  go_enter Try.func27, Try.ntmps27
  go_wp2_with fail
  refine HDU.out.mono ?_
  rintro e w1 ⟨rfl, hx1⟩
  obtain ⟨x1, rfl⟩ := ext_of hx1
  clear hx1
  go_wp2_with fail
  refine (HFI.out x1.val x1.ext).mono ?_
  rintro e w2 ⟨rfl, rfl⟩
  go_wp2_with fail
  refine (HNX.out x1.val x1.ext).mono ?_
  rintro e w3 ⟨rfl, v', hB3, hk3, hr3⟩
  have HR3 := Lib.hid hr3
  clear hr3
  have HB3 := Lib.hid hB3
  have HK3 := Lib.hid hk3
  clear hB3 hk3
  have hRb := HB3.out.rf.1
  have lb3 : b < w3.heap.size := (Array.getElem?_eq_some_iff.1 hRb).1
  have hcb3 := fun j => cell_of_row w3 _ j _ _ _ hRb
  obtain ⟨a, cap, rfl, hm, hvw⟩ := row_view HB3.out.rf.2.row
  have HV := Lib.hid hvw
  have HNow : Hid (∀ w', Ext w3 w' → Calls Try.prog 30 #[.pointer (some ⟨p.bW, 0, none⟩)] w' fun e w'' => e = .returned (.int .i64 R.now) ∧ Ext w' w'') := Lib.hid fun w' e => by rw [HA.out.now]; exact now_ext p v' { W with L := firstL W.S W.L.length W.L } w' (HB3.out.wh.ext e)
  have HLen : Hid (∀ w', Ext w3 w' → Calls Try.prog 38 #[.pointer (some ⟨p.bW, 0, none⟩)] w' fun e w'' => e = .returned (.int .i64 R.L.length) ∧ Ext w' w'') := Lib.hid fun w' e => by rw [HA.out.len]; exact len_ext p v' { W with L := firstL W.S W.L.length W.L } w' (HB3.out.wh.ext e)
  clear hRb hvw hm
  go_wp2_with fail
  refine wp_region_ext (by kernel_rfl) (by kernel_rfl) ?_
  repeat (go_big_quiet_step ((first | (go_at_call 30; exact calls_ext (HNow.out _ (ExtOf.ext _))) | (go_at_call 38; exact calls_ext (HLen.out _ (ExtOf.ext _))))))
  refine wpQuiet_nil ?_
  intro _ hx'
  obtain ⟨z4, rfl⟩ := hx'
  clear HNow HLen
  have HB4 := Lib.hid (HB3.out.ext z4.ext)
  have HK4 := Lib.hid (HK3.out.ext z4.ext)
  go_wp2_with fail
  clear hcb3 lb3
  refine (HLi.out _ _ HB4.out.wh).mono ?_
  rintro e w5 ⟨vl, rfl, ho5, hx5⟩
  have HB5 := Lib.hid (HB4.out.ext hx5)
  have HO5 := Lib.hid ho5
  have HX5 := Lib.hid hx5
  have hb5 := HB5.out.rf.1
  have lb5 : b < w5.heap.size := (Array.getElem?_eq_some_iff.1 hb5).1
  have hcb5 := fun j => cell_of_row w5 _ j _ _ _ hb5
  clear ho5 hx5 hb5
  go_wp2_with fail
  refine (ref_values _ R.L w5 HB5.out.rf.2.row (by omega)).mono ?_
  rintro e w6 ⟨vl2, rfl, ho6, hx6⟩
  have HO6 := Lib.hid (show w6.ownsRow w5.heap.size 9 1 vl2 (R.L.map (·.v)).length (txtCs (R.L.map (·.v))) by rw [List.length_map]; exact ho6)
  have HX6 := Lib.hid hx6
  clear ho6 hx6 hcb5 lb5
  go_wp2_with fail
  refine (ref_texts vl vl2 (R.L.map (·.v)) (R.L.map (·.v)) w6 _ _ (own_ext HO5.out HX6.out) HO6.out).mono ?_
  rintro e w7 ⟨rfl, hx7⟩
  have HX7 := Lib.hid hx7
  clear hx7
  rw [decide_eq_true rfl]
  go_wp2_with fail
  have HY7 := Lib.hid (HX5.out.trans (HX6.out.trans HX7.out))
  have HO7 : Hid (∃ xs, w7.ownsRow z4.val.heap.size 9 1 vl R.L.length xs) := Lib.hid ⟨_, by have := own_ext HO5.out (HX6.out.trans HX7.out); rw [List.length_map] at this; exact this⟩
  have hz4 : b < z4.val.heap.size := by have := HB4.out.rf.lt_all b (.head _); exact this
  obtain ⟨va, vcap, rfl⟩ : ∃ va vcap, vl = .slice va R.L.length vcap := by
    obtain ⟨xs, h⟩ := HO7.out
    obtain ⟨va, vcap, hv, _⟩ := own_view h
    exact ⟨va, vcap, hv⟩
  clear HO5 HO6 HX5 HX6 HX7
  go_loopg [13] R.L.length (fun g i wr => ∃ n : Nat, i = .int .i64 (n : Int) ∧ n + g = R.L.length ∧ Hid (Ext z4.val wr) ∧ Hid (∃ xs, wr.ownsRow z4.val.heap.size 9 1 (.slice va R.L.length vcap) R.L.length xs))
  case atStart => exact ⟨0, rfl, by omega, HY7, HO7⟩
  case round =>
    obtain ⟨n, rfl, hg0, HE, HO⟩ := hrel
    rename World => wr
    by_cases hlt : n < R.L.length
    · exfalso; omega
    · have hlt' : ¬ (n : Int) < (R.L.length : Int) := by omega
      go_wp2_with fail
      have HBr := Lib.hid (HB4.out.ext HE.out)
      have HKr := Lib.hid (HK4.out.ext HE.out)
      have hbr := HBr.out.rf.1
      have lbr : b < wr.heap.size := (Array.getElem?_eq_some_iff.1 hbr).1
      have hcbr := fun j => cell_of_row wr _ j _ _ _ hbr
      clear hbr
      refine wp_region_mixE (af := ?af1) [true, false, true, true, true, true, false, false, false] 131 (by kernel_rfl) rfl (by kernel_rfl) ?q ?r
      case q =>
        intro y
        simp only [pickT, if_true, if_false, Bool.false_eq_true]
        repeat (go_big_quiet_step (fail))
        exact rfl
      case r =>
        simp only [pickF, if_true, if_false, Bool.false_eq_true]
        intro x1
        have e1 : Ext wr x1.val := (Ext.refl _).drew.val x1
        go_wp2_with fail
        refine (HLi.out _ _ (HBr.out.ext e1).wh).mono ?_
        rintro e w8 ⟨vl3, rfl, ho8, hx8⟩
        have e8 : Ext wr w8 := e1.trans hx8
        go_wp2_with fail
        refine ⟨e8, ?_⟩
        intro x2
        have e9 := e8.val x2
        go_wp2_with fail
        refine (ref_values _ R.L x2.val (HBr.out.ext e9).rf.2.row (by omega)).mono ?_
        rintro e w10 ⟨vl4, rfl, ho10, hx10⟩
        have e10 : Ext wr w10 := e9.trans hx10
        go_wp2_with fail
        refine ⟨e10, ?_⟩
        intro x3
        have e11 := e10.val x3
        go_wp2_with fail
        refine (ref_texts vl3 vl4 (R.L.map (·.v)) (R.L.map (·.v)) x3.val _ _ (own_ext ho8 ((x2.ext.trans hx10).trans x3.ext)) (by have := own_ext ho10 x3.ext; rw [List.length_map]; exact this)).mono ?_
        rintro e w12 ⟨rfl, hx12⟩
        have e12 := e11.trans hx12
        rw [decide_eq_true rfl]
        go_wp2_with fail
        refine ⟨e12, ?_⟩
        intro x4
        go_wp2_with fail
        refine ⟨e12.val x4, ?_⟩
        intro x5
        have HF := Lib.hid (HBr.out.ext ((e12.val x4).val x5))
        have HK := Lib.hid (HKr.out.ext ((e12.val x4).val x5))
        clear e12 e11 e10 e9 e8 e1
        go_wp2_with fail
        go_ret
        exact ⟨rfl, _, HF.out, HK.out, HR3.out⟩

set_option maxRecDepth 100000 in
set_option maxHeartbeats 8000000 in
theorem tells_01 (p : At) (v : Value) (W : Wh) (b B : Nat) (u : Value) (R : Rw) (k : Int) (w : World) (I : TellIn p v W b B u R k w) (hg : getT W.S k = none) (y0 : Hd) (L' : List Hd) (t0 : Tr) (L2 : List Tr) (hfl : firstL W.S W.L.length W.L = y0 :: L') (hRL : R.L = t0 :: L2) (hta : (tmAt W.S y0.i).a = t0.a) : Calls Try.prog 27 #[.pointer (some ⟨p.bW, 0, none⟩), .pointer (some ⟨b, 0, none⟩), .int .i64 k] w (Told p v W b B u R w) := by
  have H := Lib.hid I.H
  have HA := Lib.hid I.HA
  have HDU := Lib.hid I.HDU
  have HFI := Lib.hid I.HFI
  have HNX := Lib.hid I.HNX
  have HLi := Lib.hid I.HLi
  have hL9 := I.hL9
  have ha := I.HA
  clear I
  unfold Told
  have hdv : dueV W.S k = .tuple #[.int .i64 0, .bool false] := by unfold dueV; rw [hg]
  have hfi : findI R.L k = -1 := by unfold findI; rw [ha.none hg]
  rw [hdv] at HDU
  rw [hfi] at HFI
  clear hdv hfi hg
  have hnx : nextV W.S (firstL W.S W.L.length W.L) = .tuple #[.int .i64 t0.a, .bool true] := by rw [hfl]; simp only [nextV, hta]
  have l0 : (0 : Int) < (R.L.length : Int) := by rw [hRL]; simp
  have l1 : 0 < R.L.length := by omega
  have l2 : ¬ R.L = [] := by rw [hRL]; simp
  rw [hnx] at HNX
  clear hnx
  have HRL := Lib.hid hRL
  have HFL := Lib.hid hfl
  clear hRL hfl
  go_enter Try.func27, Try.ntmps27
  go_wp2_with fail
  refine HDU.out.mono ?_
  rintro e w1 ⟨rfl, hx1⟩
  obtain ⟨x1, rfl⟩ := ext_of hx1
  clear hx1
  go_wp2_with fail
  refine (HFI.out x1.val x1.ext).mono ?_
  rintro e w2 ⟨rfl, rfl⟩
  go_wp2_with fail
  refine (HNX.out x1.val x1.ext).mono ?_
  rintro e w3 ⟨rfl, v', hB3, hk3, hr3⟩
  have HR3 := Lib.hid hr3
  clear hr3
  have HB3 := Lib.hid hB3
  have HK3 := Lib.hid hk3
  clear hB3 hk3
  have hRb := HB3.out.rf.1
  have lb3 : b < w3.heap.size := (Array.getElem?_eq_some_iff.1 hRb).1
  have hcb3 := fun j => cell_of_row w3 _ j _ _ _ hRb
  obtain ⟨a, cap, rfl, hm, hvw⟩ := row_view HB3.out.rf.2.row
  have HV := Lib.hid hvw
  have HNow : Hid (∀ w', Ext w3 w' → Calls Try.prog 30 #[.pointer (some ⟨p.bW, 0, none⟩)] w' fun e w'' => e = .returned (.int .i64 R.now) ∧ Ext w' w'') := Lib.hid fun w' e => by rw [HA.out.now]; exact now_ext p v' { W with L := firstL W.S W.L.length W.L } w' (HB3.out.wh.ext e)
  have HLen : Hid (∀ w', Ext w3 w' → Calls Try.prog 38 #[.pointer (some ⟨p.bW, 0, none⟩)] w' fun e w'' => e = .returned (.int .i64 R.L.length) ∧ Ext w' w'') := Lib.hid fun w' e => by rw [HA.out.len]; exact len_ext p v' { W with L := firstL W.S W.L.length W.L } w' (HB3.out.wh.ext e)
  clear hRb hvw hm
  go_wp2_with fail
  refine wp_region_ext (by kernel_rfl) (by kernel_rfl) ?_
  repeat (go_big_quiet_step ((first | (go_at_call 30; exact calls_ext (HNow.out _ (ExtOf.ext _))) | (go_at_call 38; exact calls_ext (HLen.out _ (ExtOf.ext _))))))
  refine wpQuiet_nil ?_
  intro _ hx'
  obtain ⟨z4, rfl⟩ := hx'
  obtain ⟨g, off, rfl, hgl, hcell⟩ := HV.out (by omega)
  have hgl := hgl (by decide)
  obtain ⟨r0, r1, r2⟩ := tr_cells hcell (show R.L[0]? = some t0 by rw [HRL.out]; rfl)
  simp only [Nat.zero_mul, Nat.add_zero] at r0 r1 r2
  clear HNow HLen
  have HB4 := Lib.hid (HB3.out.ext z4.ext)
  have HK4 := Lib.hid (HK3.out.ext z4.ext)
  go_wp2_with fail
  clear hcb3 lb3
  refine (HLi.out _ _ HB4.out.wh).mono ?_
  rintro e w5 ⟨vl, rfl, ho5, hx5⟩
  have HB5 := Lib.hid (HB4.out.ext hx5)
  have HO5 := Lib.hid ho5
  have HX5 := Lib.hid hx5
  have hb5 := HB5.out.rf.1
  have lb5 : b < w5.heap.size := (Array.getElem?_eq_some_iff.1 hb5).1
  have hcb5 := fun j => cell_of_row w5 _ j _ _ _ hb5
  clear ho5 hx5 hb5
  go_wp2_with fail
  refine (ref_values _ R.L w5 HB5.out.rf.2.row (by omega)).mono ?_
  rintro e w6 ⟨vl2, rfl, ho6, hx6⟩
  have HO6 := Lib.hid (show w6.ownsRow w5.heap.size 9 1 vl2 (R.L.map (·.v)).length (txtCs (R.L.map (·.v))) by rw [List.length_map]; exact ho6)
  have HX6 := Lib.hid hx6
  clear ho6 hx6 hcb5 lb5
  go_wp2_with fail
  refine (ref_texts vl vl2 (R.L.map (·.v)) (R.L.map (·.v)) w6 _ _ (own_ext HO5.out HX6.out) HO6.out).mono ?_
  rintro e w7 ⟨rfl, hx7⟩
  have HX7 := Lib.hid hx7
  clear hx7
  rw [decide_eq_true rfl]
  go_wp2_with fail
  have HY7 := Lib.hid (HX5.out.trans (HX6.out.trans HX7.out))
  have HO7 : Hid (∃ xs, w7.ownsRow z4.val.heap.size 9 1 vl R.L.length xs) := Lib.hid ⟨_, by have := own_ext HO5.out (HX6.out.trans HX7.out); rw [List.length_map] at this; exact this⟩
  have hz4 : b < z4.val.heap.size := by have := HB4.out.rf.lt_all b (.head _); exact this
  obtain ⟨va, vcap, rfl⟩ : ∃ va vcap, vl = .slice va R.L.length vcap := by
    obtain ⟨xs, h⟩ := HO7.out
    obtain ⟨va, vcap, hv, _⟩ := own_view h
    exact ⟨va, vcap, hv⟩
  clear HO5 HO6 HX5 HX6 HX7
  go_loopg [13] R.L.length (fun g i wr => ∃ n : Nat, i = .int .i64 (n : Int) ∧ n + g = R.L.length ∧ Hid (Ext z4.val wr) ∧ Hid (∃ xs, wr.ownsRow z4.val.heap.size 9 1 (.slice va R.L.length vcap) R.L.length xs))
  case atStart => exact ⟨0, rfl, by omega, HY7, HO7⟩
  case round =>
    obtain ⟨n, rfl, hg0, HE, HO⟩ := hrel
    rename World => wr
    by_cases hlt : n < R.L.length
    · have hlt' : (n : Int) < (R.L.length : Int) := by omega
      obtain ⟨xs, hown⟩ := HO.out
      obtain ⟨g2, cap2, cur, hv2, hb2, hg2, hn2, hm2, hs2, hx2⟩ : ∃ g cap cur, Value.slice va R.L.length vcap = .slice (some ⟨g, 0, none⟩) R.L.length cap ∧ z4.val.heap.size ≤ g ∧ wr.heap[g]? = some (.cells cur 9 (0, 0)) ∧ R.L.length ≤ cap ∧ cap ≤ maxLen ∧ cur.size = cap * 1 ∧ cur.toList.take (R.L.length * 1) = xs := by
        rcases hown.2 with ⟨_, h0⟩ | h
        · omega
        · exact h
      cases hv2
      have lg2 : g2 < wr.heap.size := (Array.getElem?_eq_some_iff.1 hg2).1
      have hcell2 : wr.cell? ⟨g2, n, none⟩ = some cur[n]! := by
        rw [cell_of_row wr g2 n cur _ _ hg2, getElem!_pos cur n (by omega), Array.getElem?_eq_getElem]
      have hfr2 := frozen_of_row wr g2 n cur _ hg2
      obtain ⟨ys, hys⟩ := own_cell hown n (.string { data := #[63] })
      have HYS := Lib.hid hys
      have HEX := Lib.hid (HE.out.setCell (p := ⟨g2, n, none⟩) hb2 (.string { data := #[63] }))
      clear hown hg2 hx2 hys
      go_wp2_with fail
      go_roundg (gk - 1)
      case rel => exact ⟨n + 1, rfl, by omega, HEX, Lib.hid ⟨ys, HYS.out⟩⟩
      case measure => omega
    · have hlt' : ¬ (n : Int) < (R.L.length : Int) := by omega
      go_wp2_with fail
      have HBr := Lib.hid (HB4.out.ext HE.out)
      have HKr := Lib.hid (HK4.out.ext HE.out)
      have hbr := HBr.out.rf.1
      have lbr : b < wr.heap.size := (Array.getElem?_eq_some_iff.1 hbr).1
      have hcbr := fun j => cell_of_row wr _ j _ _ _ hbr
      clear hbr
      refine wp_region_mixE (af := ?af1) [true, false, true, true, true, true, false, false, false] 131 (by kernel_rfl) rfl (by kernel_rfl) ?q ?r
      case q =>
        intro y
        simp only [pickT, if_true, if_false, Bool.false_eq_true]
        repeat (go_big_quiet_step (fail))
        exact rfl
      case r =>
        simp only [pickF, if_true, if_false, Bool.false_eq_true]
        intro x1
        have e1 : Ext wr x1.val := (Ext.refl _).drew.val x1
        go_wp2_with fail
        refine (HLi.out _ _ (HBr.out.ext e1).wh).mono ?_
        rintro e w8 ⟨vl3, rfl, ho8, hx8⟩
        have e8 : Ext wr w8 := e1.trans hx8
        go_wp2_with fail
        refine ⟨e8, ?_⟩
        intro x2
        have e9 := e8.val x2
        go_wp2_with fail
        refine (ref_values _ R.L x2.val (HBr.out.ext e9).rf.2.row (by omega)).mono ?_
        rintro e w10 ⟨vl4, rfl, ho10, hx10⟩
        have e10 : Ext wr w10 := e9.trans hx10
        go_wp2_with fail
        refine ⟨e10, ?_⟩
        intro x3
        have e11 := e10.val x3
        go_wp2_with fail
        refine (ref_texts vl3 vl4 (R.L.map (·.v)) (R.L.map (·.v)) x3.val _ _ (own_ext ho8 ((x2.ext.trans hx10).trans x3.ext)) (by have := own_ext ho10 x3.ext; rw [List.length_map]; exact this)).mono ?_
        rintro e w12 ⟨rfl, hx12⟩
        have e12 := e11.trans hx12
        rw [decide_eq_true rfl]
        go_wp2_with fail
        refine ⟨e12, ?_⟩
        intro x4
        go_wp2_with fail
        refine ⟨e12.val x4, ?_⟩
        intro x5
        have HF := Lib.hid (HBr.out.ext ((e12.val x4).val x5))
        have HK := Lib.hid (HKr.out.ext ((e12.val x4).val x5))
        clear e12 e11 e10 e9 e8 e1
        go_wp2_with fail
        go_ret
        exact ⟨rfl, _, HF.out, HK.out, HR3.out⟩

set_option maxRecDepth 100000 in
set_option maxHeartbeats 8000000 in
theorem tells_10 (p : At) (v : Value) (W : Wh) (b B : Nat) (u : Value) (R : Rw) (k : Int) (w : World) (I : TellIn p v W b B u R k w) (t : Tm) (hg : getT W.S k = some t) (hfl : firstL W.S W.L.length W.L = []) (hRL : R.L = []) : Calls Try.prog 27 #[.pointer (some ⟨p.bW, 0, none⟩), .pointer (some ⟨b, 0, none⟩), .int .i64 k] w (Told p v W b B u R w) := by
  have H := Lib.hid I.H
  have HA := Lib.hid I.HA
  have HDU := Lib.hid I.HDU
  have HFI := Lib.hid I.HFI
  have HNX := Lib.hid I.HNX
  have HLi := Lib.hid I.HLi
  have hL9 := I.hL9
  have ha := I.HA
  clear I
  unfold Told
  exfalso
  obtain ⟨i, hf, hi, _⟩ := ha.some hg
  rw [hRL] at hi
  simp at hi

set_option maxRecDepth 100000 in
set_option maxHeartbeats 8000000 in
theorem tells_11 (p : At) (v : Value) (W : Wh) (b B : Nat) (u : Value) (R : Rw) (k : Int) (w : World) (I : TellIn p v W b B u R k w) (t : Tm) (hg : getT W.S k = some t) (y0 : Hd) (L' : List Hd) (t0 : Tr) (L2 : List Tr) (hfl : firstL W.S W.L.length W.L = y0 :: L') (hRL : R.L = t0 :: L2) (hta : (tmAt W.S y0.i).a = t0.a) : Calls Try.prog 27 #[.pointer (some ⟨p.bW, 0, none⟩), .pointer (some ⟨b, 0, none⟩), .int .i64 k] w (Told p v W b B u R w) := by
  have H := Lib.hid I.H
  have HA := Lib.hid I.HA
  have HDU := Lib.hid I.HDU
  have HFI := Lib.hid I.HFI
  have HNX := Lib.hid I.HNX
  have HLi := Lib.hid I.HLi
  have hL9 := I.hL9
  have ha := I.HA
  clear I
  unfold Told
  have hdv : dueV W.S k = .tuple #[.int .i64 t.a, .bool true] := by unfold dueV; rw [hg]
  obtain ⟨i, hf, hi, _⟩ := ha.some hg
  have hfi : findI R.L k = i := by unfold findI; rw [hf]
  have i0 : (0 : Int) ≤ (i : Int) := by omega
  have i1 : i < R.L.length := (List.getElem?_eq_some_iff.1 hi).1
  have HI := Lib.hid hi
  clear hf hi
  rw [hdv] at HDU
  rw [hfi] at HFI
  clear hdv hfi hg
  have hnx : nextV W.S (firstL W.S W.L.length W.L) = .tuple #[.int .i64 t0.a, .bool true] := by rw [hfl]; simp only [nextV, hta]
  have l0 : (0 : Int) < (R.L.length : Int) := by rw [hRL]; simp
  have l1 : 0 < R.L.length := by omega
  have l2 : ¬ R.L = [] := by rw [hRL]; simp
  rw [hnx] at HNX
  clear hnx
  have HRL := Lib.hid hRL
  have HFL := Lib.hid hfl
  clear hRL hfl
  go_enter Try.func27, Try.ntmps27
  go_wp2_with fail
  refine HDU.out.mono ?_
  rintro e w1 ⟨rfl, hx1⟩
  obtain ⟨x1, rfl⟩ := ext_of hx1
  clear hx1
  go_wp2_with fail
  refine (HFI.out x1.val x1.ext).mono ?_
  rintro e w2 ⟨rfl, rfl⟩
  go_wp2_with fail
  refine (HNX.out x1.val x1.ext).mono ?_
  rintro e w3 ⟨rfl, v', hB3, hk3, hr3⟩
  have HR3 := Lib.hid hr3
  clear hr3
  have HB3 := Lib.hid hB3
  have HK3 := Lib.hid hk3
  clear hB3 hk3
  have hRb := HB3.out.rf.1
  have lb3 : b < w3.heap.size := (Array.getElem?_eq_some_iff.1 hRb).1
  have hcb3 := fun j => cell_of_row w3 _ j _ _ _ hRb
  obtain ⟨a, cap, rfl, hm, hvw⟩ := row_view HB3.out.rf.2.row
  have HV := Lib.hid hvw
  have HNow : Hid (∀ w', Ext w3 w' → Calls Try.prog 30 #[.pointer (some ⟨p.bW, 0, none⟩)] w' fun e w'' => e = .returned (.int .i64 R.now) ∧ Ext w' w'') := Lib.hid fun w' e => by rw [HA.out.now]; exact now_ext p v' { W with L := firstL W.S W.L.length W.L } w' (HB3.out.wh.ext e)
  have HLen : Hid (∀ w', Ext w3 w' → Calls Try.prog 38 #[.pointer (some ⟨p.bW, 0, none⟩)] w' fun e w'' => e = .returned (.int .i64 R.L.length) ∧ Ext w' w'') := Lib.hid fun w' e => by rw [HA.out.len]; exact len_ext p v' { W with L := firstL W.S W.L.length W.L } w' (HB3.out.wh.ext e)
  clear hRb hvw hm
  go_wp2_with fail
  refine wp_region_ext (by kernel_rfl) (by kernel_rfl) ?_
  repeat (go_big_quiet_step ((first | (go_at_call 30; exact calls_ext (HNow.out _ (ExtOf.ext _))) | (go_at_call 38; exact calls_ext (HLen.out _ (ExtOf.ext _))))))
  refine wpQuiet_nil ?_
  intro _ hx'
  obtain ⟨z4, rfl⟩ := hx'
  obtain ⟨g, off, rfl, hgl, hcell⟩ := HV.out (by omega)
  have hgl := hgl (by decide)
  obtain ⟨q0, q1, q2⟩ := tr_cells hcell HI.out
  have hil : (i : Int) < (R.L.length : Int) := by omega
  have hta1 : t.tr.a = t.a := rfl
  rw [hta1] at q1
  clear hta1
  obtain ⟨r0, r1, r2⟩ := tr_cells hcell (show R.L[0]? = some t0 by rw [HRL.out]; rfl)
  simp only [Nat.zero_mul, Nat.add_zero] at r0 r1 r2
  clear HNow HLen
  have HB4 := Lib.hid (HB3.out.ext z4.ext)
  have HK4 := Lib.hid (HK3.out.ext z4.ext)
  go_wp2_with fail
  clear hcb3 lb3
  refine (HLi.out _ _ HB4.out.wh).mono ?_
  rintro e w5 ⟨vl, rfl, ho5, hx5⟩
  have HB5 := Lib.hid (HB4.out.ext hx5)
  have HO5 := Lib.hid ho5
  have HX5 := Lib.hid hx5
  have hb5 := HB5.out.rf.1
  have lb5 : b < w5.heap.size := (Array.getElem?_eq_some_iff.1 hb5).1
  have hcb5 := fun j => cell_of_row w5 _ j _ _ _ hb5
  clear ho5 hx5 hb5
  go_wp2_with fail
  refine (ref_values _ R.L w5 HB5.out.rf.2.row (by omega)).mono ?_
  rintro e w6 ⟨vl2, rfl, ho6, hx6⟩
  have HO6 := Lib.hid (show w6.ownsRow w5.heap.size 9 1 vl2 (R.L.map (·.v)).length (txtCs (R.L.map (·.v))) by rw [List.length_map]; exact ho6)
  have HX6 := Lib.hid hx6
  clear ho6 hx6 hcb5 lb5
  go_wp2_with fail
  refine (ref_texts vl vl2 (R.L.map (·.v)) (R.L.map (·.v)) w6 _ _ (own_ext HO5.out HX6.out) HO6.out).mono ?_
  rintro e w7 ⟨rfl, hx7⟩
  have HX7 := Lib.hid hx7
  clear hx7
  rw [decide_eq_true rfl]
  go_wp2_with fail
  have HY7 := Lib.hid (HX5.out.trans (HX6.out.trans HX7.out))
  have HO7 : Hid (∃ xs, w7.ownsRow z4.val.heap.size 9 1 vl R.L.length xs) := Lib.hid ⟨_, by have := own_ext HO5.out (HX6.out.trans HX7.out); rw [List.length_map] at this; exact this⟩
  have hz4 : b < z4.val.heap.size := by have := HB4.out.rf.lt_all b (.head _); exact this
  obtain ⟨va, vcap, rfl⟩ : ∃ va vcap, vl = .slice va R.L.length vcap := by
    obtain ⟨xs, h⟩ := HO7.out
    obtain ⟨va, vcap, hv, _⟩ := own_view h
    exact ⟨va, vcap, hv⟩
  clear HO5 HO6 HX5 HX6 HX7
  go_loopg [13] R.L.length (fun g i wr => ∃ n : Nat, i = .int .i64 (n : Int) ∧ n + g = R.L.length ∧ Hid (Ext z4.val wr) ∧ Hid (∃ xs, wr.ownsRow z4.val.heap.size 9 1 (.slice va R.L.length vcap) R.L.length xs))
  case atStart => exact ⟨0, rfl, by omega, HY7, HO7⟩
  case round =>
    obtain ⟨n, rfl, hg0, HE, HO⟩ := hrel
    rename World => wr
    by_cases hlt : n < R.L.length
    · have hlt' : (n : Int) < (R.L.length : Int) := by omega
      obtain ⟨xs, hown⟩ := HO.out
      obtain ⟨g2, cap2, cur, hv2, hb2, hg2, hn2, hm2, hs2, hx2⟩ : ∃ g cap cur, Value.slice va R.L.length vcap = .slice (some ⟨g, 0, none⟩) R.L.length cap ∧ z4.val.heap.size ≤ g ∧ wr.heap[g]? = some (.cells cur 9 (0, 0)) ∧ R.L.length ≤ cap ∧ cap ≤ maxLen ∧ cur.size = cap * 1 ∧ cur.toList.take (R.L.length * 1) = xs := by
        rcases hown.2 with ⟨_, h0⟩ | h
        · omega
        · exact h
      cases hv2
      have lg2 : g2 < wr.heap.size := (Array.getElem?_eq_some_iff.1 hg2).1
      have hcell2 : wr.cell? ⟨g2, n, none⟩ = some cur[n]! := by
        rw [cell_of_row wr g2 n cur _ _ hg2, getElem!_pos cur n (by omega), Array.getElem?_eq_getElem]
      have hfr2 := frozen_of_row wr g2 n cur _ hg2
      obtain ⟨ys, hys⟩ := own_cell hown n (.string { data := #[63] })
      have HYS := Lib.hid hys
      have HEX := Lib.hid (HE.out.setCell (p := ⟨g2, n, none⟩) hb2 (.string { data := #[63] }))
      clear hown hg2 hx2 hys
      go_wp2_with fail
      go_roundg (gk - 1)
      case rel => exact ⟨n + 1, rfl, by omega, HEX, Lib.hid ⟨ys, HYS.out⟩⟩
      case measure => omega
    · have hlt' : ¬ (n : Int) < (R.L.length : Int) := by omega
      go_wp2_with fail
      have HBr := Lib.hid (HB4.out.ext HE.out)
      have HKr := Lib.hid (HK4.out.ext HE.out)
      have hbr := HBr.out.rf.1
      have lbr : b < wr.heap.size := (Array.getElem?_eq_some_iff.1 hbr).1
      have hcbr := fun j => cell_of_row wr _ j _ _ _ hbr
      clear hbr
      refine wp_region_mixE (af := ?af1) [true, false, true, true, true, true, false, false, false] 131 (by kernel_rfl) rfl (by kernel_rfl) ?q ?r
      case q =>
        intro y
        simp only [pickT, if_true, if_false, Bool.false_eq_true]
        repeat (go_big_quiet_step (fail))
        exact rfl
      case r =>
        simp only [pickF, if_true, if_false, Bool.false_eq_true]
        intro x1
        have e1 : Ext wr x1.val := (Ext.refl _).drew.val x1
        go_wp2_with fail
        refine (HLi.out _ _ (HBr.out.ext e1).wh).mono ?_
        rintro e w8 ⟨vl3, rfl, ho8, hx8⟩
        have e8 : Ext wr w8 := e1.trans hx8
        go_wp2_with fail
        refine ⟨e8, ?_⟩
        intro x2
        have e9 := e8.val x2
        go_wp2_with fail
        refine (ref_values _ R.L x2.val (HBr.out.ext e9).rf.2.row (by omega)).mono ?_
        rintro e w10 ⟨vl4, rfl, ho10, hx10⟩
        have e10 : Ext wr w10 := e9.trans hx10
        go_wp2_with fail
        refine ⟨e10, ?_⟩
        intro x3
        have e11 := e10.val x3
        go_wp2_with fail
        refine (ref_texts vl3 vl4 (R.L.map (·.v)) (R.L.map (·.v)) x3.val _ _ (own_ext ho8 ((x2.ext.trans hx10).trans x3.ext)) (by have := own_ext ho10 x3.ext; rw [List.length_map]; exact this)).mono ?_
        rintro e w12 ⟨rfl, hx12⟩
        have e12 := e11.trans hx12
        rw [decide_eq_true rfl]
        go_wp2_with fail
        refine ⟨e12, ?_⟩
        intro x4
        go_wp2_with fail
        refine ⟨e12.val x4, ?_⟩
        intro x5
        have HF := Lib.hid (HBr.out.ext ((e12.val x4).val x5))
        have HK := Lib.hid (HKr.out.ext ((e12.val x4).val x5))
        clear e12 e11 e10 e9 e8 e1
        go_wp2_with fail
        go_ret
        exact ⟨rfl, _, HF.out, HK.out, HR3.out⟩

theorem tells_any (p : At) (v : Value) (W : Wh) (b B : Nat) (u : Value) (R : Rw) (k : Int) (w : World) (h : Both p v W b B u R w) (ha : Agree W R) (hs : Small W 1000) (ho : OrdOk W) :
    Calls Try.prog 27 #[.pointer (some ⟨p.bW, 0, none⟩), .pointer (some ⟨b, 0, none⟩), .int .i64 k] w (Told p v W b B u R w) := by
  have H := Lib.hid h
  have HFI : Hid (∀ w', Ext w w' → Calls Try.prog 56 #[.pointer (some ⟨b, 0, none⟩), .int .i64 k] w' fun e w'' => e = .returned (.int .i64 (findI R.L k)) ∧ w'' = w') := Lib.hid fun w' e => ref_find b B u R k w' (H.out.rf.ext e)
  have HNX : Hid (∀ w', Ext w w' → Calls Try.prog 36 #[.pointer (some ⟨p.bW, 0, none⟩)] w' fun e w'' => e = .returned (nextV W.S (firstL W.S W.L.length W.L)) ∧ ∃ v', Both p v' { W with L := firstL W.S W.L.length W.L } b B u R w'' ∧ Keeps (p.all v) w w'' ∧ rowB v' = rowB v) := Lib.hid fun w' e => by
    have hb := H.out.ext e
    refine (next_string p v W w' hb.wh hb.pB (by have := hs.L; omega)).mono ?_
    rintro e2 w2 ⟨h1, v', h2, h3, h4⟩
    have h5 : Keeps (p.all v) w' w2 := h3.mono fun k hk => by
      simp only [At.all, List.mem_cons] at hk ⊢
      rcases hk with h | h <;> simp [h]
    exact ⟨h1, v', hb.wheel h2 h5 (fun g hg => .inl (by rw [← h4]; exact hg)), ((Keeps.refl _ w).ext e).trans h5, h4⟩
  have HLi : Hid (∀ v1 w', WheelW 101 47 p v1 { W with L := firstL W.S W.L.length W.L } w' → Calls Try.prog 57 #[.pointer (some ⟨p.bW, 0, none⟩)] w' fun e w'' => ∃ vl, e = .returned vl ∧ w''.ownsRow w'.heap.size 9 1 vl (R.L.map (·.v)).length (txtCs (R.L.map (·.v))) ∧ Ext w' w'') := Lib.hid fun v1 w' hw => by
    obtain ⟨D, d1, d2, d3⟩ := ha.ex
    have := list_string p v1 { W with L := firstL W.S W.L.length W.L } D w' hw (by have := hs.S; simp only; omega) (fun k => ord_tmZ ha.inv ho hs (by omega) k) ha.inv.nodup d1 d2
    rw [d3]
    simp only [List.map_map, List.length_map, Function.comp_def]
    exact this
  have hL9 : R.L.length ≤ 1000 := by rw [ha.len]; exact hs.S
  obtain ⟨_, hnx0⟩ := next_agree ha
  have I : TellIn p v W b B u R k w := ⟨h, ha, due_string p v W k w h.wh, HFI.out, HNX.out, HLi.out, hL9⟩
  rcases hg : getT W.S k with _ | t <;> rcases hnx0 with ⟨hfl, hRL⟩ | ⟨y0, L', t0, L2, hfl, hRL, hta⟩
  · exact tells_00 p v W b B u R k w I hg hfl hRL
  · exact tells_01 p v W b B u R k w I hg y0 L' t0 L2 hfl hRL hta
  · exact tells_10 p v W b B u R k w I t hg hfl hRL
  · exact tells_11 p v W b B u R k w I t hg y0 L' t0 L2 hfl hRL hta
end Go.Proofs.Ytibdplfdmncgiaa

/-
  live() runs to true; num hands back what it gets. No condition.
-/
namespace Go.Proofs.Ytibdplfdmncgiaa
open Go.RowKit

set_option maxRecDepth 1000000 in
theorem live_run : E.isTrue (E.callN Try.prog E.X0 E.FT 100 100 8 [] ⟨0, []⟩) = true := by kernel_rfl

theorem live_any (w : World) : Calls Try.prog 8 #[] w fun e w' => e = .returned (.bool true) ∧ Ext w w' := E.calls_true live_run w

theorem num_any (x : Int) (w : World) : Calls Try.prog 11 #[.int .i64 x] w fun e w' => e = .returned (.int .i64 x) ∧ w' = w := by
  go_enter Try.func11, Try.ntmps11
  go_wp2_with fail
  go_ret
  exact ⟨rfl, rfl⟩

/-- All blocks of a wheel are new. -/
theorem all_new {T : TypeId} {f : FuncId} {p : At} {v : Value} {W : Wh} {w : World} (h : WheelW T f p v W w) {n : Nat} (hn : n ≤ p.bM) : ∀ k ∈ p.all v, n ≤ k := fun k hk => by
  have hM := p.hM
  have hH := p.hH
  have hB := p.hW
  have hg := rowB_ge h.2.2
  simp only [At.all, List.mem_cons] at hk
  rcases hk with rfl | rfl | rfl | hk
  · omega
  · omega
  · omega
  · have := hg k hk; omega

theorem keeps_ext2 {X : List Nat} {w a b : World} (h : Ext w a) (hx : ∀ k ∈ X, w.heap.size ≤ k) (hk : Keeps X a b) : Ext w b :=
  ⟨hk.os.trans h.os, hk.tape.trans h.tape, hk.output.trans h.output, Nat.le_trans h.size hk.size, fun k hk2 => (hk.block k (Nat.lt_of_lt_of_le hk2 h.size) (fun hm => by have := hx k hm; omega)).trans (h.block k hk2)⟩

/-- A row of numbers that a turn hands back: nil, or one that lies somewhere. -/
theorem own_txts {w : World} {B n : Nat} {e : TypeId} {v : Value} {l : List ByteArray} (h : w.ownsRow B e 1 v n (txtCs l)) : (v = .slice none 0 0 ∧ l = [] ∧ n = 0) ∨
    ∃ g cap, v = .slice (some ⟨g, 0, none⟩) n cap ∧ B ≤ g ∧ n = l.length ∧ ∀ (j : Nat) (x : ByteArray), l[j]? = some x → w.cell? ⟨g, j, none⟩ = some (.string x) := by
  have hl : l.length = n := by have := h.1; simpa [txtCs] using this
  rcases h.2 with ⟨hv, hn⟩ | ⟨g, cap, cur, hv, hb, hg, hc, hcm, hs, ht⟩
  · exact .inl ⟨hv, by cases l with | nil => rfl | cons => simp [hn] at hl, hn⟩
  · refine .inr ⟨g, cap, hv, hb, hl.symm, fun j x hj => ?_⟩
    have hlt : j < l.length := (List.getElem?_eq_some_iff.1 hj).1
    have hcur : cur[j]? = some (.string x) := by
      have h1 : (txtCs l)[j]? = some (.string x) := by simp [txtCs, hj]
      rw [← ht, List.getElem?_take_of_lt (by omega)] at h1
      simpa using h1
    have := cell_of_row w g j _ _ _ hg
    rw [this]
    simpa using hcur
end Go.Proofs.Ytibdplfdmncgiaa

/-
  Walk: the law's act, any; 'long'. No condition.
-/
namespace Go.Proofs.Ytibdplfdmncgiaa
open Go.RowKit
attribute [local go_sem] ExtOf.cell ExtOf.frozen ExtOf.lt ExtOf.le
attribute [local go_sem high] ExtOf.cell2 ExtOf.frozen2 ExtOf.lt2 ExtOf.cell3 ExtOf.frozen3 ExtOf.lt3

set_option maxRecDepth 100000 in
set_option maxHeartbeats 8000000 in
theorem act_other (p : At) (v : Value) (W : Wh) (b B : Nat) (u : Value) (R : Rw) (x : Ac) (h1 : ¬ x.k = 1) (h2 : ¬ x.k = 2) (h3 : ¬ x.k = 3) (h4 : ¬ x.k = 4) (h5 : ¬ x.k = 5) (h6 : ¬ x.k = 6) (n : Nat) (w : World) (h : Both p v W b B u R w) (ha : Agree W R) (hs : Small W n) (ho : OrdOk W) :
    Calls Try.prog 26 #[.pointer (some ⟨p.bW, 0, none⟩), .pointer (some ⟨b, 0, none⟩), x.val] w (Acted p v W b B u n w) := by
  obtain ⟨k, at_, id, s⟩ := x
  simp only at h1 h2 h3 h4 h5 h6
  unfold Ac.val
  simp only
  have H := Lib.hid h
  have HA := Lib.hid ha
  have HS := Lib.hid hs
  have HO := Lib.hid ho
  clear h ha hs ho
  unfold Acted
  go_enter Try.func26, Try.ntmps26
  go_wp2_with fail
  go_ret
  exact ⟨rfl, v, W, u, R, H.out.ext ((Ext.refl w).alloc _), HA.out, HS.out.mono (Nat.le_succ n), HO.out, fun h => h, Nat.le_succ _, (Keeps.refl _ _).ext ((Ext.refl w).alloc _), fun _ hg => .inl hg, fun _ hg => .inl hg⟩

theorem act_still (p : At) (v : Value) (W : Wh) (b B : Nat) (u : Value) (R : Rw) (x : Ac) (n : Nat) (hn : n ≤ 1000) (w : World) (h : Both p v W b B u R w) (ha : Agree W R) (hs : Small W n) (ho : OrdOk W) (h5 : ¬ x.k = 5) (h6 : ¬ x.k = 6) :
    Calls Try.prog 26 #[.pointer (some ⟨p.bW, 0, none⟩), .pointer (some ⟨b, 0, none⟩), x.val] w (Acted p v W b B u n w) := by
  by_cases h1 : x.k = 1
  · exact act_set p v W b B u R x h1 n hn w h ha hs ho
  by_cases h2 : x.k = 2
  · exact act_after p v W b B u R x h2 n hn w h ha hs ho
  by_cases h3 : x.k = 3
  · exact act_cancel p v W b B u R x h3 n hn w h ha hs ho
  by_cases h4 : x.k = 4
  · exact act_move p v W b B u R x h4 n hn w h ha hs ho
  exact act_other p v W b B u R x h1 h2 h3 h4 h5 h6 n w h ha hs ho
def Ac.cs (x : Ac) : List Value := [.int .i64 x.k, .int .i64 x.a, .int .i64 x.id, .string x.v]
theorem ac_cells {w : World} {g off : Nat} {L : List Ac} {k : Nat} {x : Ac} (h : ∀ j u, (L.flatMap Ac.cs)[j]? = some u → w.cell? ⟨g, off + j, none⟩ = some u) (hx : L[k]? = some x) :
    w.cell? ⟨g, off + k * 4, none⟩ = some (.int .i64 x.k) ∧ w.cell? ⟨g, off + k * 4 + 1, none⟩ = some (.int .i64 x.a) ∧ w.cell? ⟨g, off + k * 4 + 2, none⟩ = some (.int .i64 x.id) ∧ w.cell? ⟨g, off + k * 4 + 3, none⟩ = some (.string x.v) := by
  have key := fun j hj => flat_get Ac.cs 4 (fun _ => rfl) L k x hx j hj
  refine ⟨h _ _ (key 0 (by omega)), ?_, ?_, ?_⟩
  · rw [Nat.add_assoc]; exact h _ _ (key 1 (by omega))
  · rw [Nat.add_assoc]; exact h _ _ (key 2 (by omega))
  · rw [Nat.add_assoc]; exact h _ _ (key 3 (by omega))

/-- What long says: never 'no' of more than eighty. -/
def Longs (w : World) (n : Nat) (e : Ending) (w' : World) : Prop := ∃ b : Bool, e = .returned (.bool b) ∧ (b = false → n ≤ 80) ∧ Ext w w'

set_option maxRecDepth 100000 in
set_option maxHeartbeats 1600000 in
theorem ac_long (v : Value) (L : List Ac) (w : World) (hR : Row w 4 v L.length (L.flatMap Ac.cs)) :
    Calls Try.prog 24 #[v] w (Longs w L.length) := by
  obtain ⟨a, cap, rfl, hm, hvw⟩ := row_view hR
  have HV := Lib.hid hvw
  clear hvw hR
  unfold maxLen at hm
  go_enter Try.func24, Try.ntmps24
  go_wp2_with fail
  go_loopg [3, 4] L.length (fun g s i wr => ∃ (k : Nat) (N : Int) (y : ExtOf w), k + g = L.length ∧ k ≤ 81 ∧ i = .int .i64 (k : Int) ∧ s = .int .i64 N ∧ wr = y.val)
  case atStart => exact ⟨0, 0, ⟨w, Ext.refl _⟩, by omega, by omega, rfl, rfl, rfl⟩
  case round =>
    obtain ⟨k, N, y, hk, hk61, rfl, rfl, rfl⟩ := hrel
    by_cases h1 : k < L.length
    · by_cases h2 : k ≤ 80
      · obtain ⟨g, off, rfl, hg, hcell⟩ := HV.out (by omega)
        have hg' := hg (by omega)
        obtain ⟨x, hx⟩ : ∃ x, L[k]? = some x := ⟨_, List.getElem?_eq_getElem h1⟩
        obtain ⟨-, -, -, q3⟩ := ac_cells hcell hx
        clear hx hcell hg
        have i1 : (k : Int) < (L.length : Int) := by omega
        have i2 : (k : Int) ≤ 80 := by omega
        go_wp2_with fail
        go_roundg (gk - 1)
        case rel => exact ⟨k + 1, _, y, by omega, by omega, rfl, rfl, rfl⟩
        case measure => omega
      · have i1 : (k : Int) < (L.length : Int) := by omega
        have i2 : ¬ (k : Int) ≤ 80 := by omega
        have i3 : (80 : Int) < (L.length : Int) := by omega
        go_wp2_with fail
        go_ret
        exact ⟨true, rfl, fun h => absurd h (by simp), y.ext⟩
    · have i1 : ¬ (k : Int) < (L.length : Int) := by omega
      by_cases i3 : (80 : Int) < (L.length : Int)
      · go_wp2_with fail
        go_ret
        exact ⟨true, rfl, fun h => absurd h (by simp), y.ext⟩
      · go_wp2_with fail
        go_ret
        exact ⟨_, rfl, fun _ => by omega, y.ext⟩
end Go.Proofs.Ytibdplfdmncgiaa

/-
  Walk: the law's callback. No condition.
-/
namespace Go.Proofs.Ytibdplfdmncgiaa
open Go.RowKit
attribute [local go_sem] ExtOf.cell ExtOf.frozen ExtOf.lt ExtOf.le
attribute [local go_sem high] ExtOf.cell2 ExtOf.frozen2 ExtOf.lt2 ExtOf.cell3 ExtOf.frozen3 ExtOf.lt3

/-- What a callback was told, and when. -/
structure Fd where
  id : Int
  v : ByteArray
  now : Int
  deriving DecidableEq
def Fd.cs (t : Fd) : List Value := [.int .i64 t.id, .string t.v, .int .i64 t.now]

/-- Where the callback's variables lie. -/
structure Cb where
  gc : Nat
  cap : Nat
  bg : Nat
  bw : Nat
  bl : Nat
  ba : Nat
  B : Nat
  hg : bg < B
  hl : bl < B
  hgl : bg ≠ bl

def Cb.all (q : Cb) (vg : Value) : List Nat := q.bg :: q.bl :: rowB vg
def Cb.still (q : Cb) : List Nat := [q.gc, q.bw, q.ba]

theorem info_fd : (Try.prog.info? 64).map (fun i => (i.zero, i.size, i.bytes)) = some (some (.agg #[.int .i64 0, .string { data := #[] }, .int .i64 0]), 3, 32) := by kernel_rfl

def again_ : ByteArray := { data := #[97, 103, 97, 105, 110] }

/-- A wheel with the law's callback. -/
structure CW (p : At) (v : Value) (W : Wh) (q : Cb) (vg : Value) (G : List Fd) (left again : Int) (w : World) : Prop where
  wh : WheelW 101 47 p v W w
  own : w.ownsRow q.B 64 3 vg G.length (G.flatMap Fd.cs)
  bg : w.heap[q.bg]? = some (.cells #[vg] 61 (0, 0))
  bw : w.heap[q.bw]? = some (.cells #[.pointer (some ⟨p.bW, 0, none⟩)] 51 (0, 0))
  bl : w.heap[q.bl]? = some (.cells #[.int .i64 left] 3 (0, 0))
  ba : w.heap[q.ba]? = some (.cells #[.int .i64 again] 2 (0, 0))
  pB : p.B ≤ w.heap.size
  qB : q.B ≤ w.heap.size
  stl : ∀ k ∈ q.still, k < w.heap.size
  apart : ∀ k ∈ q.all vg, k ∉ p.all v
  still : ∀ k ∈ q.still, k ∉ p.all v ∧ k ∉ q.all vg

def cbW (W : Wh) (left again : Int) : Wh := if 0 < left then (afterW W again again_).2 else W
def cbL (left : Int) : Int := if 0 < left then left - 1 else left
/-- What is behind the callback. -/
def Called (p : At) (v : Value) (W : Wh) (q : Cb) (vg : Value) (G : List Fd) (left again id : Int) (s : ByteArray) (w : World) : Ending → World → Prop := fun e w' =>
  e = .returned (.tuple #[]) ∧ ∃ v' vg', CW p v' (cbW W left again) q vg' (G ++ [⟨id, s, W.now⟩]) (cbL left) again w' ∧ Keeps (p.all v ++ q.all vg) w w' ∧ (∀ g ∈ rowB v', g ∈ rowB v ∨ w.heap.size ≤ g) ∧ (∀ g ∈ rowB vg', g ∈ rowB vg ∨ w.heap.size ≤ g)

theorem CW.ltq {p : At} {v : Value} {W : Wh} {q : Cb} {vg : Value} {G : List Fd} {left again : Int} {w : World} (h : CW p v W q vg G left again w) : ∀ k ∈ q.all vg, k < w.heap.size := fun k hk => by
  simp only [Cb.all, List.mem_cons] at hk
  rcases hk with rfl | rfl | hk
  · exact (Array.getElem?_eq_some_iff.1 h.bg).1
  · exact (Array.getElem?_eq_some_iff.1 h.bl).1
  · exact (h.own.lt k (by unfold rowB at hk; split at hk <;> simp_all)).2
theorem CW.rowge {p : At} {v : Value} {W : Wh} {q : Cb} {vg : Value} {G : List Fd} {left again : Int} {w : World} (h : CW p v W q vg G left again w) : ∀ k ∈ rowB vg, q.B ≤ k := fun k hk => (h.own.lt k (by unfold rowB at hk; split at hk <;> simp_all)).1
/-- The wheel goes on. -/
theorem CW.wheel {p : At} {v v' : Value} {W W' : Wh} {q : Cb} {vg : Value} {G : List Fd} {left again : Int} {w w' : World} (h : CW p v W q vg G left again w) (hW : WheelW 101 47 p v' W' w') (hk : Keeps (p.all v) w w') (hr : ∀ g ∈ rowB v', g ∈ rowB v ∨ w.heap.size ≤ g) : CW p v' W' q vg G left again w' := by
  have st := fun k (hk : k ∈ q.still) => (h.still k hk).1
  have hall : ∀ g ∈ p.all v', g ∈ p.all v ∨ w.heap.size ≤ g := fun g hg => by
    simp only [At.all, List.mem_cons] at hg ⊢
    rcases hg with e | e | e | e
    · exact .inl (.inl e)
    · exact .inl (.inr (.inl e))
    · exact .inl (.inr (.inr (.inl e)))
    · exact (hr g e).imp (fun e => .inr (.inr (.inr e))) id
  refine ⟨hW, own_rowB h.own fun k hm => hk.block k (h.ltq k (by simp [Cb.all, hm])) (h.apart k (by simp [Cb.all, hm])), ?_, ?_, ?_, ?_, Nat.le_trans h.pB hk.size, Nat.le_trans h.qB hk.size, fun k hm => Nat.lt_of_lt_of_le (h.stl k hm) hk.size, ?_, ?_⟩
  · exact (hk.block _ (h.ltq _ (by simp [Cb.all])) (h.apart _ (by simp [Cb.all]))).trans h.bg
  · exact (hk.block _ (Array.getElem?_eq_some_iff.1 h.bw).1 (st _ (by simp [Cb.still]))).trans h.bw
  · exact (hk.block _ (h.ltq _ (by simp [Cb.all])) (h.apart _ (by simp [Cb.all]))).trans h.bl
  · exact (hk.block _ (Array.getElem?_eq_some_iff.1 h.ba).1 (st _ (by simp [Cb.still]))).trans h.ba
  · intro k hm hp
    rcases hall k hp with e | e
    · exact h.apart k hm e
    · have := h.ltq k hm; omega
  · intro k hm
    refine ⟨fun hp => ?_, (h.still k hm).2⟩
    rcases hall k hp with e | e
    · exact st k hm e
    · have hlt : k < w.heap.size := h.stl k hm
      omega

/-- What was told goes on. -/
theorem CW.got {p : At} {v : Value} {W : Wh} {q : Cb} {vg vg' : Value} {G G' : List Fd} {left again : Int} {w w' : World} (h : CW p v W q vg G left again w) (hk : Keeps (q.bg :: rowB vg) w w') (ho : w'.ownsRow q.B 64 3 vg' G'.length (G'.flatMap Fd.cs))
    (hb : w'.heap[q.bg]? = some (.cells #[vg'] 61 (0, 0))) (hr : ∀ g ∈ rowB vg', g ∈ rowB vg ∨ w.heap.size ≤ g) : CW p v W q vg' G' left again w' := by
  have sub : ∀ k ∈ q.bg :: rowB vg, k ∈ q.all vg := fun k hk => by
    rcases List.mem_cons.1 hk with e | e
    · rw [e]; exact .head _
    · exact List.mem_cons_of_mem _ (List.mem_cons_of_mem _ e)
  have gB := h.rowge
  have hq := q.hg
  have hq2 := q.hl
  have hq3 := q.hgl
  have st := fun k (hk : k ∈ q.still) => h.still k hk
  have nl : q.bl ∉ q.bg :: rowB vg := fun hm => by
    rcases List.mem_cons.1 hm with e | e
    · exact hq3 e.symm
    · have := gB _ e; omega
  refine ⟨h.wh.kept fun k hm => hk.block k (h.wh.lt_all k hm) (fun e => h.apart k (sub k e) hm), ho, hb, ?_, ?_, ?_, Nat.le_trans h.pB hk.size, Nat.le_trans h.qB hk.size, fun k hm => Nat.lt_of_lt_of_le (h.stl k hm) hk.size, ?_, ?_⟩
  · exact (hk.block _ (h.stl _ (by simp [Cb.still])) (fun e => (st q.bw (by simp [Cb.still])).2 (sub _ e))).trans h.bw
  · exact (hk.block _ (h.ltq _ (by simp [Cb.all])) nl).trans h.bl
  · exact (hk.block _ (h.stl _ (by simp [Cb.still])) (fun e => (st q.ba (by simp [Cb.still])).2 (sub _ e))).trans h.ba
  · intro k hm hp
    simp only [Cb.all, List.mem_cons] at hm
    rcases hm with e | e | e
    · exact h.apart k (by rw [e]; simp [Cb.all]) hp
    · exact h.apart k (by rw [e]; simp [Cb.all]) hp
    · rcases hr k e with e | e
      · exact h.apart k (by simp [Cb.all, e]) hp
      · have := h.wh.lt_all k hp; omega
  · intro k hm
    refine ⟨(st k hm).1, fun e => ?_⟩
    have h2 := (st k hm).2
    simp only [Cb.all, List.mem_cons, not_or] at e h2
    rcases e with e | e | e
    · exact h2.1 e
    · exact h2.2.1 e
    · rcases hr k e with e | e
      · exact h2.2.2 e
      · have := h.stl k hm; omega

theorem CW.left_ {p : At} {v : Value} {W : Wh} {q : Cb} {vg : Value} {G : List Fd} {left left' again : Int} {w w' : World} (h : CW p v W q vg G left again w) (hk : Keeps [q.bl] w w') (hb : w'.heap[q.bl]? = some (.cells #[.int .i64 left'] 3 (0, 0))) : CW p v W q vg G left' again w' := by
  have gB := h.rowge
  have hq := q.hg
  have hq2 := q.hl
  have hq3 := q.hgl
  have ne : ∀ k, k ≠ q.bl → k < w.heap.size → w'.heap[k]? = w.heap[k]? := fun k h1 h2 => hk.block k h2 (by simpa using h1)
  refine ⟨h.wh.kept fun k hm => ne k (fun e => h.apart k (by rw [e]; simp [Cb.all]) hm) (h.wh.lt_all k hm), own_rowB h.own fun k hm => ne k (by have := gB k hm; omega) (h.ltq k (by simp [Cb.all, hm])), ?_, ?_, hb, ?_, Nat.le_trans h.pB hk.size, Nat.le_trans h.qB hk.size, fun k hm => Nat.lt_of_lt_of_le (h.stl k hm) hk.size, h.apart, h.still⟩
  · exact (ne _ hq3 (h.ltq _ (by simp [Cb.all]))).trans h.bg
  · exact (ne _ (fun e => (h.still q.bw (by simp [Cb.still])).2 (by rw [e]; simp [Cb.all])) (h.stl _ (by simp [Cb.still]))).trans h.bw
  · exact (ne _ (fun e => (h.still q.ba (by simp [Cb.still])).2 (by rw [e]; simp [Cb.all])) (h.stl _ (by simp [Cb.still]))).trans h.ba

set_option maxRecDepth 100000 in
set_option maxHeartbeats 8000000 in
theorem cb_any (p : At) (v : Value) (W : Wh) (q : Cb) (vg : Value) (G : List Fd) (left again : Int) (id : Int) (s : ByteArray) (w : World) (h : CW p v W q vg G left again w) (hG : G.length ≤ 1000) (hS : Small W 1000) (hl : 0 ≤ left ∧ left ≤ 1000) :
    Calls Try.prog 29 #[.int .i64 id, .string s, .pointer (some ⟨q.bg, 0, none⟩), .pointer (some ⟨q.bw, 0, none⟩), .pointer (some ⟨q.bl, 0, none⟩), .pointer (some ⟨q.ba, 0, none⟩)] w (Called p v W q vg G left again id s w) := by
  obtain ⟨ti0, hti, hz0, hz1, hz2⟩ := info_parts info_fd
  have H := Lib.hid h
  have HS := Lib.hid hS
  obtain ⟨hl0, hl1⟩ := hl
  clear h hS
  unfold Called
  go_enter Try.func29, Try.ntmps29
  go_wp2_with fail
  go_cut [] (fun wx => Hid (∃ vg', CW p v W q vg' (G ++ [⟨id, s, W.now⟩]) left again wx ∧ Keeps (q.all vg) w wx ∧ ∀ g ∈ rowB vg', g ∈ rowB vg ∨ w.heap.size ≤ g))
  case first =>
    have HNW : Hid (∀ w', Keeps (rowB vg) w w' → Calls Try.prog 30 #[.pointer (some ⟨p.bW, 0, none⟩)] w' fun e w'' => e = .returned (.int .i64 W.now) ∧ Ext w' w'') := Lib.hid fun w' k => now_ext p v W w' (H.out.wh.kept fun g hg => k.block g (H.out.wh.lt_all g hg) (fun hm => H.out.apart g (List.mem_cons_of_mem _ (List.mem_cons_of_mem _ hm)) hg))
    refine wp_region_late (af := ?af1) [true, true, true, true, true, true, false, false, false] [false, false, false, false, false, false, false, false, true] 23 (Keeps (rowB vg) w) (by kernel_rfl) rfl (by kernel_rfl) (fun _ _ h e => h.ext e) ((Keeps.refl _ w).ext (Ext.refl w).drew) ?q ?r
    case q =>
      intro w' hw'
      have gB := H.out.rowge
      have hg' := row_kept H.out.bg hw' (fun hm => by have := gB _ hm; have := q.hg; omega)
      have hw2 := row_kept H.out.bw hw' (fun hm => (H.out.still q.bw (by simp [Cb.still])).2 (List.mem_cons_of_mem _ (List.mem_cons_of_mem _ hm)))
      have lg := (Array.getElem?_eq_some_iff.1 hg').1
      have lw := (Array.getElem?_eq_some_iff.1 hw2).1
      have hcg := fun j => cell_of_row w' _ j _ _ _ hg'
      have hcw := fun j => cell_of_row w' _ j _ _ _ hw2
      have HN := HNW.out w' hw'
      clear hg' hw2 gB
      simp only [pickT, if_true, if_false, Bool.false_eq_true]
      repeat (go_big_quiet_step ((go_at_call 30; exact calls_ext (HNW.out _ (hw'.ext (ExtOf.ext _))))))
      exact rfl
    case r =>
      simp only [pickN, if_true, if_false, Bool.false_eq_true]
      intro x1
      have e1 : Ext w x1.val := (Ext.refl _).drew.val x1
      go_wp2_with fail
      refine ⟨fun _ => (Keeps.refl _ w).ext (e1.alloc _), ?_⟩
      intro x2
      have e2 : Ext w x2.val := (e1.alloc _).val x2
      go_wp2_with (at_builtin; refine unHd ?_)
      unfold Hd2
      refine wpList_app5 q.B 61 64 ti0 _ 3 32 Try.underlying61 hti hz0 hz1 hz2 rfl (by decide) rfl _ _ rfl vg G.length _ rfl (own_ext H.out.own e2) (Nat.le_trans H.out.qB e2.size) x1.val.heap.size 1 1 #[.int .i64 id, .string s, .int .i64 W.now] (by decide) rfl (heap_ext (heap_new rfl) x2.ext) rfl (by simp [Value.oneCell']) (by unfold maxLen; omega) (by omega) ?_
      intro v2 w2 hown2 hg2 hr2
      obtain ⟨g2, cap2, rfl⟩ : ∃ g2 cap2, v2 = .slice (some ⟨g2, 0, none⟩) (G.length + 1) cap2 := by
        rcases hown2.2 with ⟨_, h0⟩ | ⟨g2, cap2, _, h0, _⟩
        · omega
        · exact ⟨g2, cap2, h0⟩
      have c2 : Keeps (rowB vg) w w2 := keeps_grown ((Keeps.refl _ w).ext e2) hg2 (fun _ h => h)
      have HR2 := Lib.hid (rowsle hr2 e2.size)
      clear hr2 hg2
      refine ⟨c2, ?_⟩
      intro x3
      have c3 := c2.ext x3.ext
      have o3 := own_ext hown2 x3.ext
      have gB := H.out.rowge
      have hb3 := row_kept H.out.bg c3 (fun hm => by have := gB _ hm; have := q.hg; omega)
      have lb3 := (Array.getElem?_eq_some_iff.1 hb3).1
      have hcb3 := fun j => cell_of_row x3.val _ j _ _ _ hb3
      have hfb3 := fun j => frozen_of_row x3.val _ j _ _ hb3
      generalize x3.val = w3 at c3 o3 hb3 lb3 hcb3 hfb3 ⊢
      have HB3 := Lib.hid hb3
      have HO3 := Lib.hid o3
      have HC3 := Lib.hid c3
      clear hb3 o3 c3 c2 hown2 gB
      go_wp2_with fail
      try refine ⟨fun h => absurd h (by decide), ?_⟩
      intro x4
      go_wp2_with fail
      go_meet
      have hk5 : Keeps (q.bg :: rowB vg) w x4.val := ((HC3.out.mono fun _ h => List.mem_cons_of_mem _ h).setCell (.inl (.head _)) 0 _).ext x4.ext
      refine Lib.hid ⟨.slice (some ⟨g2, 0, none⟩) (G.length + 1) cap2, H.out.got hk5 ?_ (by simpa using heap_ext (setCell_row HB3.out _) x4.ext) HR2.out, hk5.mono fun k hk => ?_, HR2.out⟩
      · have hq := q.hg
        have hne : ∀ k, q.B ≤ k → k ≠ q.bg := fun k hk => by omega
        have := own_ext (own_same HO3.out (fun k hk _ => cell_other (o := 0) (v := .slice (some ⟨g2, 0, none⟩) (G.length + 1) cap2) (hne k hk))) x4.ext
        simpa [Fd.cs] using this
      · rcases List.mem_cons.1 hk with h | h
        · rw [h]; exact .head _
        · exact List.mem_cons_of_mem _ (List.mem_cons_of_mem _ h)
  case rest =>
    obtain ⟨vg2, hC2, hk2, hr2⟩ := hcut.out
    have HC2 := Lib.hid hC2
    have HK2 := Lib.hid hk2
    have HR2 := Lib.hid hr2
    clear hcut hC2 hk2 hr2
    have hbl := HC2.out.bl
    have hbw := HC2.out.bw
    have hba := HC2.out.ba
    have ll := (Array.getElem?_eq_some_iff.1 hbl).1
    have hcl := fun j => cell_of_row wc _ j _ _ _ hbl
    have hfl := fun j => frozen_of_row wc _ j _ _ hbl
    by_cases h0 : 0 < left
    · have HCW := Lib.hid (show cbW W left again = (afterW W again again_).2 from if_pos h0)
      have HCL := Lib.hid (show cbL left = left - 1 from if_pos h0)
      have w1 : IntKind.i64.wrap (left - 1) = left - 1 := IntWalk.i64_in _ (by omega)
      go_upto_region 3 with fail
      have hk3 : Keeps [q.bl] wc (wc.setCell ⟨q.bl, 0, none⟩ (.int .i64 (left - 1))) := (Keeps.refl _ wc).setCell (.inl (.head _)) 0 _
      have hb3 : (wc.setCell ⟨q.bl, 0, none⟩ (.int .i64 (left - 1))).heap[q.bl]? = some (.cells #[.int .i64 (left - 1)] 3 (0, 0)) := by simpa using setCell_row (o := 0) hbl (.int .i64 (left - 1))
      have hC3 := HC2.out.left_ hk3 hb3
      have hk3' : Keeps (q.all vg) w (wc.setCell ⟨q.bl, 0, none⟩ (.int .i64 (left - 1))) := HK2.out.trans (hk3.mono fun k hk => by rw [List.mem_singleton.1 hk]; simp [Cb.all])
      generalize wc.setCell _ _ = w3 at hC3 hk3' ⊢
      have HC3 := Lib.hid hC3
      have HK3 := Lib.hid hk3'
      clear hbl hbw hba ll hcl hfl hk3 hb3 hC3 hk3'
      have hbw := HC3.out.bw
      have hba := HC3.out.ba
      have lw := (Array.getElem?_eq_some_iff.1 hbw).1
      have la := (Array.getElem?_eq_some_iff.1 hba).1
      have hcw := fun j => cell_of_row w3 _ j _ _ _ hbw
      have hca := fun j => cell_of_row w3 _ j _ _ _ hba
      go_wp2_with fail
      refine (after_string p v W again again_ w3 HC3.out.wh HC3.out.pB (by have := HS.out.L; omega) (by have := HS.out.m; omega) (by have := HS.out.ord; omega) (by have := HS.out.ids; omega) HS.out.now.1 HS.out.now.2).mono ?_
      rintro e w4 ⟨rfl, v4, hW4, hk4, hr4⟩
      have HC4 := Lib.hid (HC3.out.wheel hW4 hk4 hr4)
      have HR4 := Lib.hid (rowsle hr4 HK3.out.size)
      have HK4 := Lib.hid ((HK3.out.mono fun _ h => List.mem_append_right _ h).trans (hk4.mono fun _ h => List.mem_append_left (q.all vg) h))
      clear hW4 hk4 hr4 hbw hba lw la hcw hca
      go_wp2_with fail
      refine ⟨rfl, .tuple #[], by simp [results, go_sem], rfl, v4, vg2, by rw [HCW.out, HCL.out]; exact HC4.out, HK4.out, HR4.out, HR2.out⟩
    · have HCW := Lib.hid (show cbW W left again = W from if_neg h0)
      have HCL := Lib.hid (show cbL left = left from if_neg h0)
      go_wp2_with fail
      refine ⟨rfl, .tuple #[], by simp [results, go_sem], rfl, v, vg2, by rw [HCW.out, HCL.out]; exact HC2.out, HK2.out.mono fun _ hk => List.mem_append_right _ hk, fun _ hg => .inl hg, HR2.out⟩
end Go.Proofs.Ytibdplfdmncgiaa

/-
  Walk: a callback is registered (On). No condition.
-/
namespace Go.Proofs.Ytibdplfdmncgiaa
open Go.RowKit
attribute [local go_sem] ExtOf.cell ExtOf.frozen ExtOf.lt ExtOf.le
attribute [local go_sem high] ExtOf.cell2 ExtOf.frozen2 ExtOf.lt2 ExtOf.cell3 ExtOf.frozen3 ExtOf.lt3

def At.with (p : At) (cv : Value) : At := ⟨p.bM, p.bH, p.bW, p.B, cv, p.hM, p.hH, p.hW⟩
theorem info_func : (Try.prog.info? 66).map (fun i => (i.zero, i.size, i.bytes)) = some (some .nilFunc, 1, 8) := by kernel_rfl

theorem neq_func (f : Fn) (ts cs : Array Value) (w : World) : (binOp .neq 66 (.func f ts cs) .nilFunc).run Try.prog w = .ok (.bool true) w := by kernel_rfl
attribute [local go_sem] neq_func

set_option maxRecDepth 100000 in
set_option maxHeartbeats 8000000 in
theorem on_string (p : At) (v : Value) (W : Wh) (cs : Array Value) (w : World) (hW : WheelW 101 47 p v W w) (hc : p.cv = .slice none 0 0) :
    Calls Try.prog 28 #[.pointer (some ⟨p.bW, 0, none⟩), .func (.func 29) #[] cs] w fun e w' => e = .returned (.tuple #[]) ∧ ∃ gc cap cur, WheelW 101 47 (p.with (.slice (some ⟨gc, 0, none⟩) 1 cap)) v W w' ∧
      w'.heap[gc]? = some (.cells cur 66 (0, 0)) ∧ cur[0]? = some (.func (.func 29) #[] cs) ∧ w.heap.size ≤ gc ∧ Keeps [p.bW] w w' := by
  obtain ⟨ti0, hti, hz0, hz1, hz2⟩ := info_parts info_func
  obtain ⟨bM, bH, bW, B, cv, pM, pH, pW⟩ := p
  simp only at hc
  subst hc
  have HW := Lib.hid hW
  have lb := (Array.getElem?_eq_some_iff.1 hW.1).1
  have hcb := fun j => cell_of_row w _ j _ _ _ hW.1
  have hfb := fun j => frozen_of_row w _ j _ _ hW.1
  clear hW
  simp only at lb hcb hfb ⊢
  go_enter Try.func28, Try.ntmps28
  go_wp2_with fail
  generalize (Question.appendCap 1 0 66).cut (w.tape w.drawn (Question.appendCap 1 0 66)) = cap
  have HB := HW.out.1
  have HM := HW.out.2.1
  have HH := HW.out.2.2
  simp only at HB HM HH
  have e : Ext (w.setCell ⟨bW, 5, none⟩ (.slice (some ⟨w.heap.size + 1, 0, none⟩) 1 cap)) (((w.setCell ⟨bW, 5, none⟩ (.slice (some ⟨w.heap.size + 1, 0, none⟩) 1 cap)).alloc (.cells #[.func (.func 29) #[] cs] 66)).alloc (.cells (#[.func (.func 29) #[] cs] ++ Builtin.zeroCells #[.nilFunc] (cap - 1)) 66)).drew := (((Ext.refl _).alloc _).alloc _).drew
  have hs : (w.setCell ⟨bW, 5, none⟩ (.slice (some ⟨w.heap.size + 1, 0, none⟩) 1 cap)).heap.size = w.heap.size := by simp [World.setCell]
  have hz : (#[.func (.func 29) #[] cs] ++ Builtin.zeroCells #[.nilFunc] (cap - 1))[0]? = some (.func (.func 29) #[] cs) := by
    rw [Array.getElem?_append_left Nat.zero_lt_one]; rfl
  have hn : ((w.setCell ⟨bW, 5, none⟩ (.slice (some ⟨w.heap.size + 1, 0, none⟩) 1 cap)).alloc (.cells #[.func (.func 29) #[] cs] 66)).heap.size = w.heap.size + 1 := by
    rw [← hs]; simp
  refine ⟨rfl, .tuple #[], by simp [results, go_sem], rfl, w.heap.size + 1, cap, #[.func (.func 29) #[] cs] ++ Builtin.zeroCells #[.nilFunc] (cap - 1), ⟨by simpa [At.with] using heap_ext (setCell_row (o := 5) HB _) e, (HM.same (cell_other (by show bM ≠ bW; omega))).ext e, (HH.same (cell_other (by show bH ≠ bW; omega)) (fun k hk _ => cell_other (by show k ≠ bW; have : B ≤ k := hk; omega))).ext e⟩, heap_ext (heap_new hn) (Ext.refl _).drew, hz, by omega, ((Keeps.refl _ w).setCell (.inl (.head _)) 5 _).ext e⟩
end Go.Proofs.Ytibdplfdmncgiaa
