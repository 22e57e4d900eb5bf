/-
  Walk: a wheel with the law's callback turned to a tick (until). No condition.
-/
import Derived.Test.YtibdplfdmncgiaaMC21
set_option linter.all false
namespace Go.Proofs.Ytibdplfdmncgiaa
open Go.RowKit
attribute [local go_sem] ExtOf.cell ExtOf.frozen ExtOf.lt ExtOf.le
attribute [local go_sem high] ExtOf.cell2 ExtOf.frozen2 ExtOf.lt2 ExtOf.cell3 ExtOf.frozen3 ExtOf.lt3
attribute [local go_sem] field0_string

theorem all_sub {p : At} {v vc : Value} {X : List Nat} {n : Nat} (hX : ∀ k ∈ p.all v, k ∈ X) (hr : ∀ g ∈ rowB vc, g ∈ rowB v ∨ n ≤ g) : ∀ k ∈ p.all vc, k ∈ X ∨ n ≤ k := fun k hk => by
  simp only [At.all, List.mem_cons] at hk hX
  rcases hk with e | e | e | e
  · exact .inl (hX k (.inl e))
  · exact .inl (hX k (.inr (.inl e)))
  · exact .inl (hX k (.inr (.inr (.inl e))))
  · exact (hr k e).imp (fun e => hX k (.inr (.inr (.inr e)))) id
theorem q_sub {q : Cb} {v vc : Value} {X : List Nat} {n : Nat} (hX : ∀ k ∈ q.all v, k ∈ X) (hr : ∀ g ∈ rowB vc, g ∈ rowB v ∨ n ≤ g) : ∀ k ∈ q.all vc, k ∈ X ∨ n ≤ k := fun k hk => by
  simp only [Cb.all, List.mem_cons] at hk hX
  rcases hk with e | e | e
  · exact .inl (hX k (.inl e))
  · exact .inl (hX k (.inr (.inl e)))
  · exact (hr k e).imp (fun e => hX k (.inr (.inr e))) id
theorem rows_trans {v vc vd : Value} {n m : Nat} (h : ∀ g ∈ rowB vc, g ∈ rowB v ∨ n ≤ g) (k : ∀ g ∈ rowB vd, g ∈ rowB vc ∨ m ≤ g) (hm : n ≤ m) : ∀ g ∈ rowB vd, g ∈ rowB v ∨ n ≤ g := fun g hg => by
  rcases k g hg with e | e
  · exact h g e
  · exact .inr (Nat.le_trans hm e)
theorem rows_eq {v vc : Value} {n : Nat} (h : rowB vc = rowB v) : ∀ g ∈ rowB vc, g ∈ rowB v ∨ n ≤ g := fun g hg => .inl (by rw [← h]; exact hg)
theorem own_ltB {w : World} {B n q : Nat} {e : TypeId} {v : Value} {xs : List Value} (h : w.ownsRow B e q v n xs) : ∀ k ∈ rowB v, B ≤ k ∧ k < w.heap.size := fun k hk => h.lt k (by unfold rowB at hk; split at hk <;> simp_all)
theorem all_eq {p : At} {v vc : Value} (h : rowB vc = rowB v) : p.all vc = p.all v := by unfold At.all; rw [h]

set_option maxRecDepth 100000 in
set_option maxHeartbeats 16000000 in
theorem until_cb (p : At) (v : Value) (W : Wh) (q : Cb) (vg : Value) (G : List Fd) (left again zt : Int) (n : Nat) (w : World) (h : CX p v W q vg G left again w) (hS : Small W n) (hn : n + left.toNat ≤ 1000) (hN : G.length + W.S.length + left.toNat ≤ 1000) (hl : 0 ≤ left ∧ left ≤ 40) (hi : WInv W) (hfu : Fut W) (hz : zt ≤ 9223372036854775807) :
    Calls Try.prog 58 #[.pointer (some ⟨p.bW, 0, none⟩), .int .i64 zt] w (TurnedC p v q vg again (untilC zt again (W.S.length + left.toNat + 1) W left G) (fun x => x) w) := by
  obtain ⟨ti0, hti, hz0, hz1, hz2⟩ := info_parts info_v_string
  have pM := p.hM
  have pH := p.hH
  have pW := p.hW
  have HCV := Lib.hid h.cv
  have H := Lib.hid h
  have HI := Lib.hid (And.intro hi hfu)
  have HSm := Lib.hid hS
  have HZ := Lib.hid hz
  have hN2 : 0 + W.S.length + left.toNat ≤ 1000 := by omega
  clear h hi hfu hS hz
  go_enter Try.func58, Try.ntmps58
  go_wp2_with fail
  go_loopg [5] (W.S.length + left.toNat) (fun g vl wr => ∃ (f : Nat) (Wc : Wh) (l : Int) (Gc : List Fd) (vc vgc : Value) (acc : List ByteArray) (k : Nat), Wc.S.length + l.toNat ≤ g ∧ Wc.S.length + l.toNat + 1 ≤ f ∧ Gc.length + Wc.S.length + l.toNat ≤ 1000 ∧ acc.length + Wc.S.length + l.toNat ≤ 1000 ∧ 0 ≤ l ∧ l ≤ 40 ∧
      Hid (untilC zt again f Wc l Gc = untilC zt again (W.S.length + left.toNat + 1) W left G) ∧ Hid (CX p vc Wc q vgc Gc l again wr) ∧ Hid (wr.ownsRow w.heap.size 9 1 vl acc.length (txtCs acc)) ∧ Hid (∀ k ∈ rowB vl, k ∉ p.all vc ∧ k ∉ q.all vgc ∧ k ∉ q.still) ∧
      Hid (Keeps (p.all v ++ q.all vg) w wr) ∧ Hid ((∀ g ∈ rowB vc, g ∈ rowB v ∨ w.heap.size ≤ g) ∧ (∀ g ∈ rowB vgc, g ∈ rowB vg ∨ w.heap.size ≤ g)) ∧ Hid (WInv Wc ∧ Fut Wc) ∧ Hid (Small Wc (n + k) ∧ k + l.toNat = left.toNat))
  case atStart => exact ⟨_, W, left, G, v, vg, [], 0, Nat.le_refl _, Nat.le_refl _, hN, hN2, hl.1, hl.2, Lib.hid rfl, H, Lib.hid (World.ownsRow_nil _ _ _ _), Lib.hid (fun k hk => by simp [rowB, Value.ownBlock] at hk), Lib.hid (Keeps.refl _ _), Lib.hid ⟨fun _ h => .inl h, fun _ h => .inl h⟩, HI, Lib.hid ⟨HSm.out, Nat.zero_add _⟩⟩
  case round =>
    obtain ⟨f, Wc, l, Gc, vc, vgc, acc, k, hg, hf, hGl, hal, hl0, hl1, HU, HC, HO, HD, HK, HR, HI, HSm⟩ := hrel
    have hsz : w.heap.size ≤ wr.heap.size := HK.out.size
    go_wp2_with fail
    refine (first_string p vc Wc wr HC.out.cw.wh HC.out.cw.pB (by have := HSm.out.1.L; have := HSm.out.2; omega)).mono ?_
    rintro e w1 ⟨rfl, v1, hW1, hk1, hr1⟩
    have hk1' : Keeps (p.all vc) wr w1 := hk1.mono fun k hk => by
      simp only [At.all, List.mem_cons] at hk ⊢
      rcases hk with h | h <;> simp [h]
    have HO1 := Lib.hid (own_rowB HO.out (w' := w1) fun k hk => hk1'.block k (own_ltB HO.out k hk).2 (HD.out k hk).1)
    have HK1 := Lib.hid hk1'
    have HR1 := Lib.hid hr1
    have hsz1 : w.heap.size ≤ w1.heap.size := Nat.le_trans hsz hk1.size
    have hPB : p.B ≤ w1.heap.size := Nat.le_trans HC.out.cw.pB hk1.size
    have hsr : wr.heap.size ≤ w1.heap.size := hk1.size
    have hHB := rowB_ge HC.out.cw.wh.2.2
    have HHB := Lib.hid hHB
    obtain ⟨hb1, hM1, hH1⟩ := hW1
    simp only at hb1 hM1 hH1
    rw [HCV.out] at hb1
    have lb1 : p.bW < w1.heap.size := (Array.getElem?_eq_some_iff.1 hb1).1
    have hcb1 := fun j => cell_of_row w1 _ j _ _ _ hb1
    have hfb1 := fun j => frozen_of_row w1 _ j _ _ hb1
    have HB1 := Lib.hid hb1
    have HM1 := Lib.hid hM1
    clear hb1 hM1 hk1 hk1' hr1 hHB
    rcases hfl : firstL Wc.S Wc.L.length Wc.L with _ | ⟨x, L2⟩
    · rw [hfl] at hH1
      have HFL := Lib.hid hfl
      have HH1 := Lib.hid hH1
      clear hfl hH1
      simp only [firstV]
      go_wp2_with fail
      refine bodyPost_ret (results_tmp (t := 4) rfl _ _ _) ?_ ?_
      · rfl
      have hU : untilC zt again (W.S.length + left.toNat + 1) W left G = ({ Wc with L := [], now := zt }, l, Gc) := by
        rw [← HU.out]
        obtain ⟨f', rfl⟩ : ∃ f', f = f' + 1 := ⟨f - 1, by omega⟩
        conv => lhs; unfold untilC
        simp only [HFL.out]
      rw [hU]
      have gB := HHB.out
      have hk2 : Keeps (p.all vc) wr (w1.setCell ⟨p.bW, 0, none⟩ (.int .i64 zt)) := HK1.out.setCell (.inl (by simp [At.all])) _ _
      have hW2 : WheelW 101 47 p v1 { Wc with L := [], now := zt } (w1.setCell ⟨p.bW, 0, none⟩ (.int .i64 zt)) := ⟨by simpa [HCV.out] using setCell_row (o := 0) HB1.out (.int .i64 zt), HM1.out.same (cell_other (by show p.bM ≠ p.bW; omega)), HH1.out.same (cell_other (by show p.bH ≠ p.bW; omega)) (fun k hk _ => cell_other (by show k ≠ p.bW; omega))⟩
      exact ⟨_, v1, vgc, rfl, HC.out.wheel hW2 hk2 (rows_eq HR1.out), HK.out.trans2 hk2 (all_sub (fun _ h => List.mem_append_left _ h) HR.out.1), fun g hg => HR.out.1 g (by rw [← HR1.out]; exact hg), HR.out.2⟩
    · rw [hfl] at hH1
      have HFL := Lib.hid hfl
      have HH1 := Lib.hid hH1
      have hll2 : (x :: L2).length ≤ Wc.L.length := by rw [← hfl]; exact firstL_le _ _
      obtain ⟨t, hgt, hto⟩ := firstL_head (Nat.le_refl _) hfl
      have htm : tmAt Wc.S x.i = t := by unfold tmAt; rw [hgt]; rfl
      have hlk : (Instr.lookup 98 (.map (some p.bM)) (.int .i64 x.i) false).run Try.prog w1 = .ok (.agg #[.int .i64 t.a, .int .i64 t.o, .string t.v]) w1 := by
        rw [run_lookup Try.underlying98 Try.underlying3 zero_string HM1.out x.i false]
        simp only [lookV, hgt]
        rfl
      have HGT := Lib.hid hgt
      have HTM := Lib.hid htm
      have HFD := Lib.hid (fut_drop HI.out.1 hfl)
      have HFA := Lib.hid (show Wc.now ≤ t.a from HI.out.2 t (get_mem hgt).1)
      have HLL := Lib.hid hll2
      clear hfl hH1 hgt hto htm hll2
      simp only [firstV]
      by_cases hlt : zt < t.a
      · have HLT := Lib.hid hlt
        go_wp2_with fail
        refine bodyPost_ret (results_tmp (t := 4) rfl _ _ _) ?_ ?_
        · rfl
        have hU : untilC zt again (W.S.length + left.toNat + 1) W left G = ({ Wc with L := x :: L2, now := zt }, l, Gc) := by
          rw [← HU.out]
          obtain ⟨f', rfl⟩ : ∃ f', f = f' + 1 := ⟨f - 1, by omega⟩
          conv => lhs; unfold untilC
          simp only [HFL.out]
          rw [HTM.out, if_pos HLT.out]
        rw [hU]
        have gB := HHB.out
        have hk2 : Keeps (p.all vc) wr (w1.setCell ⟨p.bW, 0, none⟩ (.int .i64 zt)) := HK1.out.setCell (.inl (by simp [At.all])) _ _
        have hW2 : WheelW 101 47 p v1 { Wc with L := x :: L2, now := zt } (w1.setCell ⟨p.bW, 0, none⟩ (.int .i64 zt)) := ⟨by simpa [HCV.out] using setCell_row (o := 0) HB1.out (.int .i64 zt), HM1.out.same (cell_other (by show p.bM ≠ p.bW; omega)), HH1.out.same (cell_other (by show p.bH ≠ p.bW; omega)) (fun k hk _ => cell_other (by show k ≠ p.bW; omega))⟩
        exact ⟨_, v1, vgc, rfl, HC.out.wheel hW2 hk2 (rows_eq HR1.out), HK.out.trans2 hk2 (all_sub (fun _ h => List.mem_append_left _ h) HR.out.1), fun g hg => HR.out.1 g (by rw [← HR1.out]; exact hg), HR.out.2⟩
      · have HLT := Lib.hid hlt
        have hle : t.a ≤ zt := by omega
        clear hlt
        go_wp2_with (refine wpList_store_row rfl 112 _ _ rfl w1.heap.size _ rfl rfl 112 _ (heap_new rfl) (info_tm_string _ _ _) rfl (by simp [Value.oneCell']) (unHd ?_))
        have eX : Ext w1 ((w1.alloc (.cells #[.int .i64 0, .int .i64 0, .string { data := #[] }] 112)).setRow w1.heap.size #[.int .i64 t.a, .int .i64 t.o, .string t.v]) := ((Ext.refl w1).alloc _).setRow (Nat.le_refl _) _
        have eT := setRow_heap _ _ _ #[.int .i64 t.a, .int .i64 t.o, .string t.v] _ _ (heap_new (w := w1) (o := .cells #[.int .i64 0, .int .i64 0, .string { data := #[] }] 112) rfl)
        generalize World.setRow _ _ _ = w2 at eX eT ⊢
        have hb2 := heap_ext HB1.out eX
        have lb2 : p.bW < w2.heap.size := (Array.getElem?_eq_some_iff.1 hb2).1
        have hcb2 := fun j => cell_of_row w2 _ j _ _ _ hb2
        have hfb2 := fun j => frozen_of_row w2 _ j _ _ hb2
        have hct2 := fun j => cell_of_row w2 _ j _ _ _ eT
        have lt2 : w1.heap.size < w2.heap.size := (Array.getElem?_eq_some_iff.1 eT).1
        have HT2 := Lib.hid eT
        have HB2 := Lib.hid hb2
        have HM2 := Lib.hid (HM1.out.ext eX)
        have HH2 := Lib.hid (HH1.out.ext eX)
        have HO2 := Lib.hid (own_ext HO1.out eX)
        have HK2 := Lib.hid (HK1.out.ext eX)
        have hne : p.bW ≠ w1.heap.size := by omega
        clear eX eT hb2 hlk hcb1 hfb1 lb1 HB1 HM1 HH1 HO1 HK1
        unfold Hd2
        go_upto_region 8 with fail
        have gB := HHB.out
        have b3 : (w2.setCell ⟨p.bW, 0, none⟩ (.int .i64 t.a)).heap[p.bW]? = some (.cells #[.int .i64 t.a, .int .i64 Wc.ids, .int .i64 Wc.ord, .map (some p.bM), .pointer (some ⟨p.bH, 0, none⟩), .slice (some ⟨q.gc, 0, none⟩) 1 q.cap] 101 (0, 0)) := by simpa using setCell_row (o := 0) HB2.out (.int .i64 t.a)
        have t3 : (w2.setCell ⟨p.bW, 0, none⟩ (.int .i64 t.a)).heap[w1.heap.size]? = _ := (cell_other (Ne.symm hne)).trans HT2.out
        have m3 : MapW p.bM Wc.S (w2.setCell ⟨p.bW, 0, none⟩ (.int .i64 t.a)) := HM2.out.same (cell_other (by show p.bM ≠ p.bW; omega))
        have h3 : HeapW p.B p.bH 47 v1 (x :: L2) Wc.m (w2.setCell ⟨p.bW, 0, none⟩ (.int .i64 t.a)) := HH2.out.same (cell_other (by show p.bH ≠ p.bW; omega)) (fun k hk _ => cell_other (by show k ≠ p.bW; omega))
        have hdW : ∀ k ∈ rowB u5, k ≠ p.bW ∧ k ≠ p.bM := fun k hk => by
          have := (HD.out k hk).1
          simp only [At.all, List.mem_cons, not_or] at this
          exact ⟨this.1, this.2.1⟩
        have o3 := own_rowB HO2.out (w' := w2.setCell ⟨p.bW, 0, none⟩ (.int .i64 t.a)) (fun k hk => cell_other (hdW k hk).1)
        have k3 := HK2.out.setCell (g := p.bW) (.inl (by simp [At.all])) 0 (.int .i64 t.a)
        generalize w2.setCell ⟨p.bW, 0, none⟩ (.int .i64 t.a) = w3 at b3 t3 m3 h3 o3 k3 ⊢
        have lb3 : p.bW < w3.heap.size := (Array.getElem?_eq_some_iff.1 b3).1
        have hcb3 := fun j => cell_of_row w3 _ j _ _ _ b3
        have HT3 := Lib.hid t3
        have HB3 := Lib.hid b3
        have HM3 := Lib.hid m3
        have HH3 := Lib.hid h3
        have HO3 := Lib.hid o3
        have HK3 := Lib.hid k3
        clear b3 t3 m3 h3 o3 k3 hcb2 hfb2 hct2 lb2 lt2 HT2 HB2 HM2 HH2 HO2 HK2
        go_wp2_with (refine wpList_delete rfl 98 3 112 3 .i64 _ _ rfl Try.underlying98 Try.underlying3 p.bM Wc.S x.i rfl rfl HM3.out (fun ob hM4 => unHd ?_))
        have b4 : (setB w3 p.bM ob).heap[p.bW]? = _ := (setB_other (show p.bW ≠ p.bM by omega)).trans HB3.out
        have hbt : p.bM ≠ w1.heap.size := by omega
        have t4 : (setB w3 p.bM ob).heap[w1.heap.size]? = _ := (setB_other (Ne.symm hbt)).trans HT3.out
        have h4 : HeapW p.B p.bH 47 v1 (x :: L2) Wc.m (setB w3 p.bM ob) := HH3.out.same (setB_other (by omega)) (fun k hk _ => setB_other (by omega))
        have o4 := own_rowB HO3.out (w' := setB w3 p.bM ob) (fun k hk => setB_other (hdW k hk).2)
        have k4 := HK3.out.setB (g := p.bM) (.inl (by simp [At.all])) ob
        generalize setB w3 p.bM ob = w4 at b4 t4 h4 o4 k4 hM4 ⊢
        have lb4 : p.bW < w4.heap.size := (Array.getElem?_eq_some_iff.1 b4).1
        have hcb4 := fun j => cell_of_row w4 _ j _ _ _ b4
        have hct4 := fun j => cell_of_row w4 _ j _ _ _ t4
        have lt4 : w1.heap.size < w4.heap.size := (Array.getElem?_eq_some_iff.1 t4).1
        have HT4 := Lib.hid t4
        have HB4 := Lib.hid b4
        have HM4 := Lib.hid hM4
        have HH4 := Lib.hid h4
        have HO4 := Lib.hid o4
        have HK4 := Lib.hid k4
        clear b4 t4 h4 o4 k4 hM4 hcb3 lb3 HT3 HB3 HM3 HH3 HO3 HK3
        unfold Hd2
        go_wp2_with (at_builtin; refine unHd ?_)
        unfold Hd2
        have hs4 : w.heap.size ≤ w4.heap.size := Nat.le_trans hsz HK4.out.size
        refine wpList_app5 w.heap.size 67 9 ti0 _ 1 16 Try.underlying67 hti hz0 hz1 hz2 rfl (by decide) rfl _ _ rfl _ acc.length _ rfl (own_ext HO4.out ((Ext.refl w4).alloc _)) (by simp; omega) w4.heap.size 1 1 #[.string t.v] (by decide) rfl (heap_new rfl) rfl (by simp [Value.oneCell']) (by unfold maxLen; omega) (by omega) ?_
        intro v5 w5 hown5 hg5 hr5
        have eA : Ext w4 (w4.alloc (.cells #[.string t.v] 9)) := (Ext.refl w4).alloc _
        have k5 : Keeps (rowB u5) w4 w5 := keeps_grown ((Keeps.refl _ w4).ext eA) hg5 (fun _ h => h)
        have hDr := fun k hk => (HD.out k hk).1
        have hrb : ∀ k ∈ rowB v1, k ∉ rowB u5 := fun k hk hm => hDr k hm (by rw [← all_eq HR1.out]; simp [At.all, hk])
        have b5 : w5.heap[p.bW]? = _ := (k5.block p.bW lb4 (fun hm => (hdW _ hm).1 rfl)).trans HB4.out
        have hul := fun k hk => (own_ltB HO.out k hk).2
        have t5 : w5.heap[w1.heap.size]? = _ := (k5.block w1.heap.size lt4 (fun hm => by have := hul _ hm; omega)).trans HT4.out
        have m5 : MapW p.bM (dropT Wc.S x.i) w5 := HM4.out.same (k5.block p.bM HM4.out.lt (fun hm => (hdW _ hm).2 rfl))
        have h5 : HeapW p.B p.bH 47 v1 (x :: L2) Wc.m w5 := HH4.out.kept (k5.block p.bH (Array.getElem?_eq_some_iff.1 HH4.out.1).1 (fun hm => hDr _ hm (by simp [At.all]))) (fun k hk => k5.block k (own_ltB HH4.out.2 k hk).2 (hrb k hk))
        have k5' : Keeps (p.all vc ++ rowB u5) wr w5 := (HK4.out.mono fun _ h => List.mem_append_left _ h).trans (k5.mono fun _ h => List.mem_append_right _ h)
        have HC5 := Lib.hid (HC.out.wheelX (W' := { Wc with now := t.a, S := dropT Wc.S x.i, L := x :: L2 }) ⟨by rw [HCV.out]; exact b5, m5, h5⟩ k5' (fun k hk => (HD.out k hk).2) (rows_eq HR1.out))
        have hs5 : w4.heap.size ≤ w5.heap.size := k5.size
        have HD5 : Hid (∀ k ∈ rowB v5, k ∉ p.all v1 ∧ k ∉ q.all vgc ∧ k ∉ q.still) := Lib.hid fun k hk => by
          rcases hr5 k hk with e | e
          · have := HD.out k e
            rw [all_eq HR1.out]
            exact this
          · have e : w4.heap.size < k := by simp at e; omega
            have hk4 := HK4.out.size
            refine ⟨fun hm => ?_, fun hm => ?_, fun hm => ?_⟩
            · rw [all_eq HR1.out] at hm
              have := HC.out.cw.wh.lt_all k hm; omega
            · have := HC.out.cw.ltq k hm; omega
            · have := HC.out.cw.stl k hm; omega
        have HO5 := Lib.hid (show w5.ownsRow w.heap.size 9 1 v5 (acc ++ [t.v]).length (txtCs (acc ++ [t.v])) by simpa [txtCs] using hown5)
        have HK5 := Lib.hid k5'
        have lb5 : p.bW < w5.heap.size := (Array.getElem?_eq_some_iff.1 b5).1
        have hcb5 := fun j => cell_of_row w5 _ j _ _ _ b5
        have hct5 := fun j => cell_of_row w5 _ j _ _ _ t5
        have lt5 : w1.heap.size < w5.heap.size := (Array.getElem?_eq_some_iff.1 t5).1
        obtain ⟨cur, hg1, hg2⟩ := HC5.out.gc
        have hgc : w5.cell? ⟨q.gc, 0, none⟩ = some (cbV q) := by rw [cell_of_row w5 _ 0 _ _ _ hg1]; exact hg2
        have lgc : q.gc < w5.heap.size := (Array.getElem?_eq_some_iff.1 hg1).1
        unfold cbV at hgc
        have HHS := Lib.hid (And.intro hs4 (And.intro hs5 hul))
        clear hown5 hg5 hr5 k5 hDr hrb b5 t5 m5 h5 k5' hul hg1 hg2 hdW hcb4 hct4 lb4 lt4 HT4 HB4 HM4 HH4 HO4 HK4 gB hs4 hs5
        go_wp2_with fail
        refine wp_loop_rounds 2 ?_
        rw [rounds_succ]
        go_wp2_with fail
        have hsm5 : Small { Wc with now := t.a, S := dropT Wc.S x.i, L := x :: L2 } (n + k) := drop_small HSm.out.1 HLL.out ⟨by have := HFA.out; have := HSm.out.1.now.1; omega, by have := HLT.out; have := HZ.out; omega⟩
        have HS5 := Lib.hid hsm5
        have HFD5 := HFD.out
        rw [HTM.out] at HFD5
        have HFD6 := Lib.hid HFD5
        clear hsm5 HFD5
        refine (cb_any p v1 { Wc with now := t.a, S := dropT Wc.S x.i, L := x :: L2 } q vgc Gc l again x.i t.v w5 HC5.out.cw (by omega) (HS5.out.mono (by have := HSm.out.2; omega)) ⟨hl0, by omega⟩).mono ?_
        rintro e w6 ⟨rfl, v6, vg6, hC6, hk6, hr6, hrg6⟩
        simp only at hC6
        have HC6 := Lib.hid (HC5.out.keeps hC6 hk6 (fun k hk => (List.mem_append.1 hk).imp id .inl))
        have HO6 := Lib.hid (own_rowB HO5.out (w' := w6) fun k hk => hk6.block k (own_ltB HO5.out k hk).2 (fun hm => (List.mem_append.1 hm).elim (HD5.out k hk).1 (HD5.out k hk).2.1))
        have HD6 : Hid (∀ k ∈ rowB v5, k ∉ p.all v6 ∧ k ∉ q.all vg6 ∧ k ∉ q.still) := Lib.hid fun k hk => by
          have hlt := (own_ltB HO5.out k hk).2
          refine ⟨fun hm => ?_, fun hm => ?_, (HD5.out k hk).2.2⟩
          · rcases all_sub (fun _ h => h) hr6 k hm with e | e
            · exact (HD5.out k hk).1 e
            · omega
          · rcases q_sub (fun _ h => h) hrg6 k hm with e | e
            · exact (HD5.out k hk).2.1 e
            · omega
        have hw5 : w.heap.size ≤ w5.heap.size := Nat.le_trans HHS.out.1 HHS.out.2.1
        have hkA : Keeps (p.all v ++ q.all vg) w w5 := HK.out.trans2 HK5.out fun g hg => by
          rcases List.mem_append.1 hg with e | e
          · exact all_sub (fun _ h => List.mem_append_left _ h) HR.out.1 g e
          · exact .inr (own_ltB HO.out g e).1
        have HK6 := Lib.hid (hkA.trans2 hk6 fun g hg => by
          rcases List.mem_append.1 hg with e | e
          · rw [all_eq HR1.out] at e
            exact all_sub (fun _ h => List.mem_append_left _ h) HR.out.1 g e
          · exact q_sub (fun _ h => List.mem_append_right _ h) HR.out.2 g e)
        have HR6 : Hid ((∀ g ∈ rowB v6, g ∈ rowB v ∨ w.heap.size ≤ g) ∧ (∀ g ∈ rowB vg6, g ∈ rowB vg ∨ w.heap.size ≤ g)) := Lib.hid ⟨rows_trans HR.out.1 (fun g hg => by have := hr6 g hg; rw [HR1.out] at this; exact this) hw5, rows_trans HR.out.2 hrg6 hw5⟩
        obtain ⟨k', hk'1, hk'2⟩ := cb_small (again := again) HS5.out hl0 HSm.out.2
        have HS6 := Lib.hid (And.intro hk'1 hk'2)
        have HI6 := Lib.hid (And.intro (inv_cb HFD6.out.1 l again) (fut_cb HFD6.out.2 l again))
        obtain ⟨c1, c2, c3⟩ := cb_len { Wc with now := t.a, S := dropT Wc.S x.i, L := x :: L2 } l again hl0
        have hd := dropT_length HGT.out
        simp only at c1
        have hU : untilC zt again f Wc l Gc = untilC zt again (f - 1) (cbW { Wc with now := t.a, S := dropT Wc.S x.i, L := x :: L2 } l again) (cbL l) (Gc ++ [⟨x.i, t.v, t.a⟩]) := by
          obtain ⟨f', rfl⟩ : ∃ f', f = f' + 1 := ⟨f - 1, by omega⟩
          conv => lhs; unfold untilC
          simp only [HFL.out]
          rw [HTM.out, if_neg (show ¬ zt < t.a by have := HLT.out; omega)]
          rfl
        have HUU := Lib.hid (hU.symm.trans HU.out)
        clear hC6 hk6 hr6 hrg6 hkA hk'1 hk'2 hU lb5 hcb5 hct5 lt5 hgc lgc
        go_wp2_with fail
        rw [rounds_succ]
        go_wp2_with fail
        go_roundg (gk - 1)
        case rel => exact ⟨f - 1, _, cbL l, Gc ++ [⟨x.i, t.v, t.a⟩], v6, vg6, acc ++ [t.v], k', by omega, by omega, by simp only [List.length_append, List.length_singleton]; omega, by simp only [List.length_append, List.length_singleton]; omega, c2, by omega, HUU, HC6, HO6, HD6, HK6, HR6, HI6, HS6⟩
        case measure => omega
end Go.Proofs.Ytibdplfdmncgiaa
