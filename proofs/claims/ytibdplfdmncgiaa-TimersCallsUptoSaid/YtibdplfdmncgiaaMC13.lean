/-
  Walk: a thing is pushed into the heap of slots. No condition.
-/
import Derived.Test.YtibdplfdmncgiaaMC12
import Derived.IntWalk
set_option linter.all false
namespace Go.Proofs.Ytibdplfdmncgiaa
open Go.RowKit
attribute [local go_sem] ExtOf.cell ExtOf.frozen ExtOf.lt ExtOf.le
attribute [local go_sem high] ExtOf.cell2 ExtOf.frozen2 ExtOf.lt2 ExtOf.cell3 ExtOf.frozen3 ExtOf.lt3 ExtOf.cellX ExtOf.frozenX ExtOf.cellX' ExtOf.frozenX'

theorem non_of {a b : World} (e : Ext a b) : a.grownBy b none := ⟨e.os, e.tape, e.output, e.size, fun k hk _ => e.block k hk⟩
theorem non_ext {a b c : World} (h : a.grownBy b none) (e : Ext b c) : a.grownBy c none := but_trans h (non_of e)

/-- A goal that the walk leaves. -/
def Hd2 (p : Prop) : Prop := p
theorem unHd {p : Prop} (h : Hd2 p) : p := h

/-- The heap at block bH, whose row is the slice v; rows lie in blocks from B on. -/
def HeapW (B bH : Nat) (f : FuncId) (v : Value) (L : List Hd) (m : Int) (w : World) : Prop :=
  w.heap[bH]? = some (.cells #[.func (.func f) #[] #[], v, .int .i64 m] 115 (0, 0)) ∧ w.ownsRow B 127 4 v L.length (L.flatMap Hd.cs)

theorem info_hd : (Try.prog.info? 127).map (fun i => (i.zero, i.size, i.bytes)) = some (some (.agg #[.int .i64 0, .int .i64 0, .int .i64 0, .int .i64 0]), 4, 32) := by kernel_rfl

theorem hd_one (O : List Hd) : ∀ u ∈ O.flatMap Hd.cs, u.oneCell' = true := fun u hu => by
  obtain ⟨o, _, ho⟩ := List.mem_flatMap.1 hu
  simp only [Hd.cs, List.mem_cons, List.not_mem_nil, or_false] at ho
  rcases ho with rfl | rfl | rfl | rfl <;> simp [Value.oneCell']

/-- What is behind a push. -/
def Pushed (B bH : Nat) (f : FuncId) (v : Value) (L : List Hd) (x : Hd) (w : World) : Ending → World → Prop := fun e w' =>
  e = .returned (.tuple #[]) ∧ ∃ v', HeapW B bH f v' (upH L.length (L ++ [x]) L.length) (x.n + 1) w' ∧ Keeps (bH :: rowB v) w w' ∧ ∀ g ∈ rowB v', g ∈ rowB v ∨ w.heap.size ≤ g

/-- What is behind the append in Push. -/
def Laid (B bH : Nat) (f : FuncId) (v : Value) (L : List Hd) (x : Hd) (w wx : World) : Prop :=
  ∃ v', HeapW B bH f v' (L ++ [x]) x.n wx ∧ Keeps (bH :: rowB v) w wx ∧ ∀ g ∈ rowB v', g ∈ rowB v ∨ w.heap.size ≤ g

set_option maxRecDepth 100000 in
set_option maxHeartbeats 8000000 in
theorem push_string (B bH : Nat) (v : Value) (L : List Hd) (x : Hd) (w : World) (hH : HeapW B bH 47 v L x.n w) (hB : bH < B) (hBw : B ≤ w.heap.size) (hL : L.length ≤ 100000) (hm : 0 ≤ x.n ∧ x.n ≤ 100000) :
    Calls Try.prog 61 #[.pointer (some ⟨bH, 0, none⟩), .agg #[.int .i64 x.a, .int .i64 x.o, .int .i64 x.i]] w (Pushed B bH 47 v L x w) := by
  obtain ⟨ti0, hi, hz0, hz1, hz2⟩ := info_parts info_hd
  obtain ⟨hb, hown⟩ := hH
  obtain ⟨hm0, hm1⟩ := hm
  have lb : bH < w.heap.size := (Array.getElem?_eq_some_iff.1 hb).1
  have hcb := fun j => cell_of_row w _ j _ _ _ hb
  have HHB := Lib.hid hb
  have HO := Lib.hid hown
  clear hb hown
  go_enter Try.func61, Try.ntmps61
  go_upto_region 2 with fail
  go_cut [] (fun wx => Hid (Laid B bH 47 v L x w wx))
  case first =>
    obtain ⟨w1, hw1⟩ : ∃ w1, w1 = w.alloc (.cells #[.int .i64 x.a, .int .i64 x.o, .int .i64 x.i] 78) := ⟨_, rfl⟩
    have hx1 : Ext w w1 := by rw [hw1]; exact (Ext.refl _).alloc _
    have hbox : w1.heap[w.heap.size]? = some (.cells #[.int .i64 x.a, .int .i64 x.o, .int .i64 x.i] 78 (0, 0)) := by rw [hw1]; exact heap_new rfl
    have hb1 := heap_ext HHB.out hx1
    rw [← hw1]
    clear hw1 hcb
    have hcb := fun j => cell_of_row w1 _ j _ _ _ hb1
    have hcx := fun j => cell_of_row w1 _ j _ _ _ hbox
    have lb1 : bH < w1.heap.size := (Array.getElem?_eq_some_iff.1 hb1).1
    have lx1 : w.heap.size < w1.heap.size := (Array.getElem?_eq_some_iff.1 hbox).1
    have HB1 := Lib.hid hb1
    have HX1 := Lib.hid hx1
    clear hbox hb1 hx1
    rcases HO.out.2 with ⟨hv, hn⟩ | ⟨g, cap, cur, hv, hbg, hg, hnc, hcm, hcs, htk⟩
    · subst hv
      obtain rfl : L = [] := List.length_eq_zero_iff.1 hn
      refine wp_region_late (af := ?af1) [true, true, true, true, true, true, true, true, true, true, true, false, false, false, false, false] [false, false, false, false, false, false, false, false, false, false, false, false, false, true, true, true] 78 (fun w' => w1.grownBy w' none) (by kernel_rfl) rfl (by kernel_rfl) (fun _ _ h e => non_ext h e) (non_of (Ext.refl w1).drew) ?q ?r
      case q =>
        intro w' hw'
        obtain ⟨y, rfl⟩ : ∃ y : ExtOf w1, w' = y.val := ⟨⟨w', ext_grown hw'⟩, rfl⟩
        simp only [pickT, if_true, if_false, Bool.false_eq_true]
        repeat (go_big_quiet_step (fail))
        exact rfl
      case r =>
        simp only [pickN, if_true, if_false, Bool.false_eq_true]
        intro x1
        have e1 : Ext w1 x1.val := (Ext.refl _).drew.val x1
        go_wp2_with fail
        refine ⟨fun _ => non_of (e1.alloc _), ?_⟩
        intro x2
        have e2 : Ext w1 x2.val := (e1.alloc _).val x2
        go_wp2_with (at_builtin; refine unHd ?_)
        unfold Hd2
        have hbx2 : B ≤ x2.val.heap.size := by have := HX1.out.size; have := e2.size; omega
        refine wpList_app5 B 113 127 ti0 _ 4 32 Try.underlying113 hi hz0 hz1 hz2 rfl (by decide) rfl _ _ rfl _ 0 _ rfl (own_ext HO.out (HX1.out.trans e2)) hbx2 x1.val.heap.size 1 1 #[.int .i64 x.a, .int .i64 x.o, .int .i64 x.i, .int .i64 x.n] (by decide) rfl (heap_ext (heap_new rfl) x2.ext) rfl (by simp [Value.oneCell']) (by unfold maxLen; omega) (by omega) ?_
        intro v2 w2 hown2 hg2 hr2
        obtain ⟨g2, cap2, rfl⟩ : ∃ g2 cap2, v2 = .slice (some ⟨g2, 0, none⟩) (0 + 1) cap2 := by
          rcases hown2.2 with ⟨_, h0⟩ | ⟨g2, cap2, _, h0, _⟩
          · omega
          · exact ⟨g2, cap2, h0⟩
        have c2 : w1.grownBy w2 none := but_trans (non_of e2) hg2
        refine ⟨c2, ?_⟩
        intro x3
        go_wp2_with fail
        try refine ⟨fun h => absurd h (by decide), ?_⟩
        intro x4
        go_wp2_with fail
        try refine ⟨fun h => absurd h (by decide), ?_⟩
        intro x5
        have c5 : w1.grownBy x5.val none := non_ext c2 ((x3.ext.trans x4.ext).trans x5.ext)
        have hb5 : x5.val.heap[bH]? = some (.cells #[.func (.func 47) #[] #[], .slice none 0 0, .int .i64 x.n] 115 (0, 0)) := (c5.block bH lb1 (by simp)).trans HB1.out
        have o5 := own_ext hown2 ((x3.ext.trans x4.ext).trans x5.ext)
        have hcb5 := fun j => cell_of_row x5.val _ j _ _ _ hb5
        have hfb5 := fun j => frozen_of_row x5.val _ j _ _ hb5
        generalize x5.val = w5 at c5 hb5 o5 hcb5 hfb5 ⊢
        have HB5 := Lib.hid hb5
        clear hb5
        go_wp2_with fail
        try refine ⟨fun h => absurd h (by decide), ?_⟩
        intro x6
        go_wp2_with fail
        go_meet
        refine Lib.hid ⟨.slice (some ⟨g2, 0, none⟩) (0 + 1) cap2, ⟨by simpa using heap_ext (setCell_row HB5.out _) x6.ext, ?_⟩, ?_, fun k hk => (hr2 k hk).imp id (fun h => by have := HX1.out.size; have := e2.size; omega)⟩
        · have := own_ext (own_same o5 (fun k hk _ => cell_other (o := 1) (v := .slice (some ⟨g2, 0, none⟩) (0 + 1) cap2) (show k ≠ bH by omega))) x6.ext
          simpa [Hd.cs] using this
        · exact ((keeps_grown ((Keeps.refl _ w).ext HX1.out) (v := .slice none 0 0) c5 (fun _ h => List.mem_cons_of_mem _ h)).setCell (.inl (.head _)) 1 _).ext x6.ext
    · subst hv
      have lg : g < w.heap.size := (Array.getElem?_eq_some_iff.1 hg).1
      have lbg : bH < g := by omega
      clear hg hnc hcm hcs htk
      refine wp_region_late (af := ?af2) [true, true, true, true, true, true, true, true, true, true, true, false, false, false, false, false] [false, false, false, false, false, false, false, false, false, false, false, false, false, true, true, true] 78 (fun w' => w1.grownBy w' (some g)) (by kernel_rfl) rfl (by kernel_rfl) (fun _ _ h e => but_ext h e) (but_ext (but_refl g w1) (Ext.refl w1).drew) ?q ?r
      case q =>
        intro w' hw'
        obtain ⟨y, rfl⟩ : ∃ y : ButOf g w1, w' = y.val := ⟨⟨w', hw'⟩, rfl⟩
        simp only [pickT, if_true, if_false, Bool.false_eq_true]
        repeat (go_big_quiet_step (fail))
        exact rfl
      case r =>
        simp only [pickN, if_true, if_false, Bool.false_eq_true]
        intro x1
        have e1 : Ext w1 x1.val := (Ext.refl _).drew.val x1
        go_wp2_with fail
        refine ⟨fun _ => but_ext (but_refl g w1) (e1.alloc _), ?_⟩
        intro x2
        have e2 : Ext w1 x2.val := (e1.alloc _).val x2
        go_wp2_with (at_builtin; refine unHd ?_)
        unfold Hd2
        have hbx2 : B ≤ x2.val.heap.size := by have := HX1.out.size; have := e2.size; omega
        refine wpList_app5 B 113 127 ti0 _ 4 32 Try.underlying113 hi hz0 hz1 hz2 rfl (by decide) rfl _ _ rfl _ L.length _ rfl (own_ext HO.out (HX1.out.trans e2)) hbx2 x1.val.heap.size 1 1 #[.int .i64 x.a, .int .i64 x.o, .int .i64 x.i, .int .i64 x.n] (by decide) rfl (heap_ext (heap_new rfl) x2.ext) rfl (by simp [Value.oneCell']) (by unfold maxLen; omega) (by omega) ?_
        intro v2 w2 hown2 hg2 hr2
        obtain ⟨g2, cap2, rfl⟩ : ∃ g2 cap2, v2 = .slice (some ⟨g2, 0, none⟩) (L.length + 1) cap2 := by
          rcases hown2.2 with ⟨_, h0⟩ | ⟨g2, cap2, _, h0, _⟩
          · omega
          · exact ⟨g2, cap2, h0⟩
        have c2 : w1.grownBy w2 (some g) := but_trans (but_ext (but_refl g w1) e2) hg2
        refine ⟨c2, ?_⟩
        intro x3
        go_wp2_with fail
        try refine ⟨fun h => absurd h (by decide), ?_⟩
        intro x4
        go_wp2_with fail
        try refine ⟨fun h => absurd h (by decide), ?_⟩
        intro x5
        have c5 : w1.grownBy x5.val (some g) := but_ext c2 ((x3.ext.trans x4.ext).trans x5.ext)
        have hb5 : x5.val.heap[bH]? = some (.cells #[.func (.func 47) #[] #[], .slice (some ⟨g, 0, none⟩) L.length cap, .int .i64 x.n] 115 (0, 0)) := (c5.block bH lb1 (by simp; omega)).trans HB1.out
        have o5 := own_ext hown2 ((x3.ext.trans x4.ext).trans x5.ext)
        have hcb5 := fun j => cell_of_row x5.val _ j _ _ _ hb5
        have hfb5 := fun j => frozen_of_row x5.val _ j _ _ hb5
        generalize x5.val = w5 at c5 hb5 o5 hcb5 hfb5 ⊢
        have HB5 := Lib.hid hb5
        clear hb5
        go_wp2_with fail
        try refine ⟨fun h => absurd h (by decide), ?_⟩
        intro x6
        go_wp2_with fail
        go_meet
        refine Lib.hid ⟨.slice (some ⟨g2, 0, none⟩) (L.length + 1) cap2, ⟨by simpa using heap_ext (setCell_row HB5.out _) x6.ext, ?_⟩, ?_, fun k hk => (hr2 k hk).imp id (fun h => by have := HX1.out.size; have := e2.size; omega)⟩
        · have := own_ext (own_same o5 (fun k hk _ => cell_other (o := 1) (v := .slice (some ⟨g2, 0, none⟩) (L.length + 1) cap2) (show k ≠ bH by omega))) x6.ext
          simpa [Hd.cs] using this
        · exact ((keeps_grown ((Keeps.refl _ w).ext HX1.out) (v := .slice (some ⟨g, 0, none⟩) L.length cap) c5 (fun _ h => List.mem_cons_of_mem _ h)).setCell (.inl (.head _)) 1 _).ext x6.ext
  case rest =>
    obtain ⟨v', ⟨hb1, hown1⟩, hk1, hr1⟩ := hcut.out
    obtain ⟨g, cap, rfl⟩ : ∃ g cap, v' = .slice (some ⟨g, 0, none⟩) (L.length + 1) cap := by
      rcases hown1.2 with ⟨_, h0⟩ | ⟨g2, cap2, _, h0, _⟩
      · simp at h0
      · rw [List.length_append] at h0
        exact ⟨g2, cap2, h0⟩
    have hgB : B ≤ g := by
      rcases hown1.2 with ⟨h0, _⟩ | ⟨g2, cap2, _, h0, hb, _⟩
      · cases h0
      · simp only [Value.slice.injEq, Option.some.injEq, Addr.mk.injEq] at h0
        rw [h0.1.1]; exact hb
    clear hcut hcb
    have lb1 : bH < wc.heap.size := (Array.getElem?_eq_some_iff.1 hb1).1
    have hcb1 := fun j => cell_of_row wc _ j _ _ _ hb1
    have hfb1 := fun j => frozen_of_row wc _ j _ _ hb1
    have hne : bH ≠ g := by omega
    have lbg : bH < g := by omega
    have hm2 : 0 ≤ x.n + 1 := by omega
    -- behind the count
    have hb2 : (wc.setCell ⟨bH, 2, none⟩ (.int .i64 (x.n + 1))).heap[bH]? = some (.cells #[.func (.func 47) #[] #[], .slice (some ⟨g, 0, none⟩) (L.length + 1) cap, .int .i64 (x.n + 1)] 115 (0, 0)) := by simpa using setCell_row (o := 2) hb1 (.int .i64 (x.n + 1))
    have o2 := own_same hown1 (w' := wc.setCell ⟨bH, 2, none⟩ (.int .i64 (x.n + 1))) (fun k hk _ => cell_other (show k ≠ bH by omega))
    have k2 := hk1.setCell (g := bH) (.inl (.head _)) 2 (.int .i64 (x.n + 1))
    have HB2 := Lib.hid hb2
    have HO2 := Lib.hid o2
    have HK2 := Lib.hid k2
    clear hb1 hown1 hk1 hb2 o2 k2
    rw [show (L ++ [x]).length = L.length + 1 by simp] at HO2
    go_upto_region 4 with fail
    generalize hW : wc.setCell ⟨bH, 2, none⟩ (.int .i64 (x.n + 1)) = w2 at HB2 HO2 HK2 ⊢
    have hcb2 := fun j => cell_of_row w2 _ j _ _ _ HB2.out
    have lb2 : bH < w2.heap.size := (Array.getElem?_eq_some_iff.1 HB2.out).1
    clear hW hcb1 hfb1 lb1
    go_wp2_with fail
    go_loopw [4] (fun si wr => ∃ (k f : Nat) (Lc : List Hd), si = .int .i64 k ∧ k ≤ L.length ∧ k ≤ f ∧ Lc.length = L.length + 1 ∧ Hid (upH f Lc k = upH L.length (L ++ [x]) L.length) ∧
        Hid (wr.heap[bH]? = some (.cells #[.func (.func 47) #[] #[], .slice (some ⟨g, 0, none⟩) (L.length + 1) cap, .int .i64 (x.n + 1)] 115 (0, 0))) ∧
        Hid (wr.ownsRow B 127 4 (.slice (some ⟨g, 0, none⟩) (L.length + 1) cap) (L.length + 1) (Lc.flatMap Hd.cs)) ∧ Hid (Keeps (bH :: rowB v) w wr)) (fun si _ => (intOf si).toNat)
    case atStart => exact ⟨L.length, L.length, L ++ [x], rfl, Nat.le_refl _, Nat.le_refl _, by simp, rfl, HB2, HO2, HK2⟩
    case round =>
      obtain ⟨k, f, Lc, rfl, hkL, hkf, hLc, HUP, HB3, HO3, HK3⟩ := hrel
      rename_i wr
      clear HB2 HO2 HK2 hcb2 lb2
      have lb3 : bH < wr.heap.size := (Array.getElem?_eq_some_iff.1 HB3.out).1
      have hcb3 := fun j => cell_of_row wr _ j _ _ _ HB3.out
      by_cases h0 : 0 < k
      · obtain ⟨p, hp⟩ : ∃ p, p = (k - 1) / 2 := ⟨_, rfl⟩
        have HP := Lib.hid hp
        obtain ⟨y, hy⟩ : ∃ y, Lc[k]? = some y := ⟨_, List.getElem?_eq_getElem (by omega)⟩
        obtain ⟨z, hz⟩ : ∃ z, Lc[p]? = some z := ⟨_, List.getElem?_eq_getElem (by omega)⟩
        have HY := Lib.hid hy
        have HZ := Lib.hid hz
        have hcell : ∀ j u, (Lc.flatMap Hd.cs)[j]? = some u → wr.cell? ⟨g, j, none⟩ = some u := fun j u hj => by
          have := HO3.out.cells (g := g) rfl j u hj
          rwa [show (⟨g, 0, none⟩ : Addr).add j = ⟨g, j, none⟩ by unfold Addr.add; split <;> simp_all] at this
        have HYC := Lib.hid (hd_cells hcell hy)
        have HZC := Lib.hid (hd_cells hcell hz)
        have lg3 : g < wr.heap.size := by
          have := (hd_cells hcell hy).1
          exact World.block_lt_of_cell? wr _ this
        clear hy hz hcell
        have e0 : (0 : Int) < (k : Int) := by omega
        have e1 : ((k - 1 : Nat) : Int) / 2 = (p : Int) := by omega
        have e4 : ((k : Int) - 1) / 2 = (p : Int) := by omega
        have p0 : (0 : Int) ≤ (p : Int) := by omega
        have p1 : (p : Int) < (L.length : Int) + 1 := by omega
        have k0 : (0 : Int) ≤ (k : Int) := by omega
        have k1 : (k : Int) < (L.length : Int) + 1 := by omega
        have hpk : p < k := by omega
        clear hp
        have e2 : (0 : Int) ≤ (k : Int) - 1 := by omega
        have e3 : (k : Int) ≤ 100000 := by omega
        go_wp2_with fail
        refine (ahead_string bH g (L.length + 1) (x.n + 1) cap k p y z wr HB3.out HYC.out HZC.out (by omega) (by omega) lg3 (by omega)).mono ?_
        rintro e w4 ⟨rfl, hx4⟩
        have HB4 := Lib.hid (heap_ext HB3.out hx4)
        have HO4 := Lib.hid (own_ext HO3.out hx4)
        have HK4 := Lib.hid (HK3.out.ext hx4)
        have HYC4 := Lib.hid (show w4.cell? ⟨g, k * 4, none⟩ = some (.int .i64 y.a) ∧ w4.cell? ⟨g, k * 4 + 1, none⟩ = some (.int .i64 y.o) ∧ w4.cell? ⟨g, k * 4 + 2, none⟩ = some (.int .i64 y.i) ∧ w4.cell? ⟨g, k * 4 + 3, none⟩ = some (.int .i64 y.n) from
          ⟨cell_keep HYC.out.1 hx4, cell_keep HYC.out.2.1 hx4, cell_keep HYC.out.2.2.1 hx4, cell_keep HYC.out.2.2.2 hx4⟩)
        have HZC4 := Lib.hid (show w4.cell? ⟨g, p * 4, none⟩ = some (.int .i64 z.a) ∧ w4.cell? ⟨g, p * 4 + 1, none⟩ = some (.int .i64 z.o) ∧ w4.cell? ⟨g, p * 4 + 2, none⟩ = some (.int .i64 z.i) ∧ w4.cell? ⟨g, p * 4 + 3, none⟩ = some (.int .i64 z.n) from
          ⟨cell_keep HZC.out.1 hx4, cell_keep HZC.out.2.1 hx4, cell_keep HZC.out.2.2.1 hx4, cell_keep HZC.out.2.2.2 hx4⟩)
        have lg4 : g < w4.heap.size := Nat.lt_of_lt_of_le lg3 hx4.size
        clear hx4 HB3 HO3 HK3 HYC HZC lb3 hcb3 lg3
        have lb4 : bH < w4.heap.size := (Array.getElem?_eq_some_iff.1 HB4.out).1
        have hcb4 := fun j => cell_of_row w4 _ j _ _ _ HB4.out
        rcases hab : aheadH y z
        · go_wp2_with fail
          have hR : upH L.length (L ++ [x]) L.length = Lc := by
            rw [← HUP.out]
            exact upH_stop (fun a b ha hb _ => by rw [HY.out] at ha; rw [← HP.out, HZ.out] at hb; cases ha; cases hb; exact hab)
          refine ⟨rfl, .tuple #[], by simp [results, go_sem], rfl, .slice (some ⟨g, 0, none⟩) (L.length + 1) cap, ⟨HB4.out, ?_⟩, HK4.out, fun q hq => hr1 q hq⟩
          rw [hR, hLc]
          exact HO4.out
        · go_wp2_with fail
          have w1 : IntKind.i64.wrap ((k : Int) - 1) = (k : Int) - 1 := IntWalk.i64_in _ (by omega)
          refine wp_region_pair (af := ?af3) [true, true, true, true, true, true, true, true, true, true, true, true, true, true, true, true, true, true, true, true, false, true, true, true, true, true, true, false, false, false, false, false] [true, true, true, true, true, true, true, true, true, true, true, true, true, true, true, true, true, true, true, true, true, true, true, true, true, true, true, true, false, false, false, false] 78 20 27 (fun w' => w4.grownBy w' (some g)) (by kernel_rfl) rfl (by kernel_rfl) (fun _ _ h e => but_ext h e) (but_ext (but_refl g w4) (Ext.refl w4).drew) ?q (.agg #[.int .i64 z.a, .int .i64 z.o, .int .i64 z.i, .int .i64 z.n]) (.agg #[.int .i64 y.a, .int .i64 y.o, .int .i64 y.i, .int .i64 y.n]) _ _ rfl rfl ?y1 ?y2 ?r
          case q =>
            intro w' hw'
            obtain ⟨s, rfl⟩ : ∃ s : ButOf g w4, w' = s.val := ⟨⟨w', hw'⟩, rfl⟩
            simp only [pickT, if_true, if_false, Bool.false_eq_true]
            repeat (go_big_quiet_step (fail))
            exact rfl
          case y1 => exact yieldsE_load rfl 127 _ rfl g (p * 4) rfl z.cs _ (fun w' e => range_four HZC4.out ((Ext.refl w4).drew.trans e)) Try.underlying127 rfl (info_four z)
          case y2 => exact yieldsE_load rfl 127 _ rfl g (k * 4) rfl y.cs _ (fun w' e => range_four HYC4.out ((Ext.refl w4).drew.trans e)) Try.underlying127 rfl (info_four y)
          case r =>
            simp only [pickF, if_true, if_false, Bool.false_eq_true]
            intro x1
            have e1 : Ext w4 x1.val := (Ext.refl _).drew.val x1
            go_wp2_with fail
            refine ⟨but_ext (but_refl g w4) e1, ?_⟩
            intro x2
            have e2 : Ext w4 x2.val := e1.val x2
            go_wp2_with (refine wpList_store_mid rfl 127 _ _ rfl g (k * 4) #[.int .i64 z.a, .int .i64 z.o, .int .i64 z.i, .int .i64 z.n] rfl rfl (own_there (own_ext HO4.out e2) (by omega)) (info_four z) (by simp [Value.oneCell']) (unHd ?_))
            have c2 : w4.grownBy (x2.val.setCells g (k * 4) z.cs) (some g) := but_puts (but_ext (but_refl g w4) e2) _ _
            have o2 := own_put (own_ext HO4.out e2) (show k < L.length + 1 by omega) z
            have b2 : (x2.val.setCells g (k * 4) z.cs).heap[bH]? = some (.cells #[.func (.func 47) #[] #[], .slice (some ⟨g, 0, none⟩) (L.length + 1) cap, .int .i64 (x.n + 1)] 115 (0, 0)) := (puts_other hne).trans (heap_ext HB4.out e2)
            have kk2 : Keeps (bH :: rowB v) w (x2.val.setCells g (k * 4) z.cs) := (HK4.out.ext e2).put ((hr1 g (.head _)).imp (List.mem_cons_of_mem _) id) _ _
            change Hd2 (wpList _ _ _ _ _ (x2.val.setCells g (k * 4) z.cs))
            generalize x2.val.setCells g (k * 4) z.cs = w5 at c2 o2 b2 kk2 ⊢
            unfold Hd2
            go_wp2_with fail
            try refine ⟨c2, ?_⟩
            intro x3
            go_wp2_with fail
            try refine ⟨but_ext c2 x3.ext, ?_⟩
            intro x4
            have e4 : Ext w5 x4.val := x3.ext.trans x4.ext
            go_wp2_with (refine wpList_store_mid rfl 127 _ _ rfl g (p * 4) #[.int .i64 y.a, .int .i64 y.o, .int .i64 y.i, .int .i64 y.n] rfl rfl (own_there (own_ext o2 e4) (by omega)) (info_four y) (by simp [Value.oneCell']) (unHd ?_))
            have c4 : w4.grownBy (x4.val.setCells g (p * 4) y.cs) (some g) := but_puts (but_ext c2 e4) _ _
            have o4 := own_put (own_ext o2 e4) (show p < L.length + 1 by omega) y
            have b4 : (x4.val.setCells g (p * 4) y.cs).heap[bH]? = some (.cells #[.func (.func 47) #[] #[], .slice (some ⟨g, 0, none⟩) (L.length + 1) cap, .int .i64 (x.n + 1)] 115 (0, 0)) := (puts_other hne).trans (heap_ext b2 e4)
            have kk4 : Keeps (bH :: rowB v) w (x4.val.setCells g (p * 4) y.cs) := (kk2.ext e4).put ((hr1 g (.head _)).imp (List.mem_cons_of_mem _) id) _ _
            change Hd2 (wpList _ _ _ _ _ (x4.val.setCells g (p * 4) y.cs))
            generalize x4.val.setCells g (p * 4) y.cs = w6 at c4 o4 b4 kk4 ⊢
            unfold Hd2
            go_wp2_with fail
            try refine ⟨c4, ?_⟩
            intro x5
            rw [← swapH_eq HY.out HZ.out] at o4
            have HB6 := Lib.hid (heap_ext b4 x5.ext)
            have HO6 := Lib.hid (own_ext o4 x5.ext)
            have HK6 := Lib.hid (kk4.ext x5.ext)
            clear c2 o2 b2 kk2 c4 o4 b4 kk4 hcb4
            go_wp2_with fail
            have hgo := upH_go HY.out (show Lc[(k - 1) / 2]? = some z by rw [← HP.out]; exact HZ.out) h0 hab hkf
            rw [← HP.out] at hgo
            have e5 : ((k : Int) - 1) / 2 = (p : Int) := by have := HP.out; omega
            rw [e5]
            exact ⟨⟨p, f - 1, swapH Lc k p, rfl, by omega, by omega, by rw [swapH_length]; exact hLc, Lib.hid (hgo.symm.trans HUP.out), HB6, HO6, HK6⟩, by simp [intOf]; omega⟩
      · go_wp2_with fail
        have hR : upH L.length (L ++ [x]) L.length = Lc := by
          rw [← HUP.out]
          exact upH_stop (fun a b ha hb hc => absurd hc h0)
        refine ⟨rfl, .tuple #[], by simp [results, go_sem], rfl, .slice (some ⟨g, 0, none⟩) (L.length + 1) cap, ⟨HB3.out, ?_⟩, HK3.out, fun q hq => hr1 q hq⟩
        rw [hR, hLc]
        exact HO3.out
end Go.Proofs.Ytibdplfdmncgiaa

/-
  Walk: the first thing of the heap of slots is looked at, is taken out. No condition.
-/
namespace Go.Proofs.Ytibdplfdmncgiaa
open Go.RowKit
attribute [local go_sem] ExtOf.cell ExtOf.frozen ExtOf.lt ExtOf.le
attribute [local go_sem high] ExtOf.cell2 ExtOf.frozen2 ExtOf.lt2 ExtOf.cell3 ExtOf.frozen3 ExtOf.lt3 ExtOf.cellX ExtOf.frozenX ExtOf.cellX' ExtOf.frozenX'

theorem info_slot (a b c : Value) : (Try.prog.info? 78).map (·.size) = some (#[a, b, c] : Array Value).size := by
  rw [show (#[a, b, c] : Array Value).size = 3 from rfl]
  kernel_rfl

/-- What a look at the first thing answers. -/
def peekV (L : List Hd) : Value := match L with
  | [] => .tuple #[.agg #[.int .i64 0, .int .i64 0, .int .i64 0], .bool false]
  | x :: _ => .tuple #[.agg #[.int .i64 x.a, .int .i64 x.o, .int .i64 x.i], .bool true]

/-- The thing at i goes down, as far as one below it comes ahead of it. -/
def downH : Nat → List Hd → Nat → List Hd
  | 0, L, _ => L
  | f + 1, L, i => if 2 * i + 1 < L.length then
      match L[i]?, L[2 * i + 1]? with
      | some x, some y =>
        match (if 2 * i + 2 < L.length then L[2 * i + 2]? else none) with
        | some z => if aheadH z y = true then (if aheadH z x = true then downH f (swapH L i (2 * i + 2)) (2 * i + 2) else L) else (if aheadH y x = true then downH f (swapH L i (2 * i + 1)) (2 * i + 1) else L)
        | none => if aheadH y x = true then downH f (swapH L i (2 * i + 1)) (2 * i + 1) else L
      | _, _ => L
    else L

theorem downH_out {f i : Nat} {L : List Hd} (h : ¬ 2 * i + 1 < L.length) : downH f L i = L := by
  cases f with
  | zero => rfl
  | succ f => unfold downH; rw [if_neg h]
/-- The one below i that comes first. -/
def Below2 (L : List Hd) (i k : Nat) (y : Hd) : Prop := 2 * i + 1 < L.length ∧ L[k]? = some y ∧
  ((k = 2 * i + 1 ∧ ∀ z, 2 * i + 2 < L.length → L[2 * i + 2]? = some z → aheadH z y = false) ∨ (k = 2 * i + 2 ∧ 2 * i + 2 < L.length ∧ ∃ u, L[2 * i + 1]? = some u ∧ aheadH y u = true))

theorem downH_step {f i k : Nat} {L : List Hd} {x y : Hd} (hx : L[i]? = some x) (hb : Below2 L i k y) : downH (f + 1) L i = if aheadH y x = true then downH f (swapH L i k) k else L := by
  obtain ⟨h1, hk, hc⟩ := hb
  conv => lhs; unfold downH
  rw [if_pos h1, hx]
  rcases hc with ⟨rfl, hz⟩ | ⟨rfl, h2, u, hu, hyu⟩
  · rw [hk]
    simp only
    by_cases h2 : 2 * i + 2 < L.length
    · obtain ⟨z, hz2⟩ : ∃ z, L[2 * i + 2]? = some z := ⟨_, List.getElem?_eq_getElem h2⟩
      rw [if_pos h2, hz2]
      simp only [hz z h2 hz2, Bool.false_eq_true, if_false]
    · rw [if_neg h2]
  · rw [hu, if_pos h2, hk]
    simp only [hyu, if_true]

theorem own_take {w : World} {B : Nat} {e : TypeId} {g n cap : Nat} {L : List Hd} (h : w.ownsRow B e 4 (.slice (some ⟨g, 0, none⟩) (n + 1) cap) (n + 1) (L.flatMap Hd.cs)) :
    w.ownsRow B e 4 (.slice (some ⟨g, 0, none⟩) n cap) n ((L.take n).flatMap Hd.cs) := by
  obtain ⟨hl, h⟩ := h
  rw [hd_flat] at hl
  refine ⟨by rw [hd_flat, List.length_take]; omega, ?_⟩
  rcases h with ⟨hv, _⟩ | ⟨g', cap', cur, hv, hb, hg, hn, hm, hs, hx⟩
  · cases hv
  · cases hv
    refine .inr ⟨g, cap, cur, rfl, hb, hg, by omega, hm, hs, ?_⟩
    refine List.ext_getElem? fun j => ?_
    by_cases hj : j < n * 4
    · rw [List.getElem?_take_of_lt hj, hd_at, List.getElem?_take_of_lt (by omega), ← hd_at, ← hx, List.getElem?_take_of_lt (by omega)]
    · rw [List.getElem?_eq_none (by simp; omega), List.getElem?_eq_none (by rw [hd_flat, List.length_take]; omega)]

set_option maxRecDepth 100000 in
set_option maxHeartbeats 4000000 in
theorem peek_any (B bH : Nat) (f : FuncId) (v : Value) (L : List Hd) (m : Int) (w : World) (hH : HeapW B bH f v L m w) (hL : L.length ≤ 100000) :
    Calls Try.prog 63 #[.pointer (some ⟨bH, 0, none⟩)] w fun e w' => e = .returned (peekV L) ∧ Ext w w' := by
  obtain ⟨hb, hown⟩ := hH
  have lb : bH < w.heap.size := (Array.getElem?_eq_some_iff.1 hb).1
  obtain ⟨a, cap, rfl, hm, hvw⟩ := own_view hown
  have hcb := fun j => cell_of_row w _ j _ _ _ hb
  have HV := Lib.hid hvw
  clear hvw hown hb
  cases L with
  | nil =>
    go_enter Try.func63, Try.ntmps63
    go_wp2_with (refine wpList_store_row rfl 78 _ _ rfl w.heap.size _ rfl rfl 78 _ (heap_new rfl) (info_slot _ _ _) rfl (by simp [Value.oneCell']) ?_)
    refine bodyPost_ret (results_row_tmp rfl _ _ _ 78 _ (0, 0) _ rfl (setRow_heap _ _ _ _ _ _ (heap_new rfl)) Try.underlying78 rfl (info_slot _ _ _)) rfl ?_
    exact ⟨rfl, ((Ext.refl _).alloc _).setRow (Nat.le_refl _) _⟩
  | cons x L =>
    obtain ⟨g, rfl, hgB, hg, hcell⟩ := HV.out (by simp)
    obtain ⟨x0, x1, x2, x3⟩ := hd_cells hcell (k := 0) (x := x) rfl
    have l0 : (0 : Int) < (L.length : Int) + 1 := by omega
    simp only [Nat.zero_mul] at x0 x1 x2 x3
    clear hcell HV
    go_enter Try.func63, Try.ntmps63
    go_wp2_with (refine wpList_store_row rfl 78 _ _ rfl w.heap.size _ rfl rfl 78 _ (heap_new rfl) (info_slot _ _ _) rfl (by simp [Value.oneCell']) ?_)
    refine bodyPost_ret (results_row_tmp rfl _ _ _ 78 _ (0, 0) _ rfl (setRow_heap _ _ _ _ _ _ (heap_new rfl)) Try.underlying78 rfl (info_slot _ _ _)) rfl ?_
    exact ⟨rfl, ((Ext.refl _).alloc _).setRow (Nat.le_refl _) _⟩

/-- What is behind taking out the first thing. -/
def Popped (B bH : Nat) (f : FuncId) (v : Value) (x : Hd) (R : List Hd) (m : Int) (w : World) : Ending → World → Prop := fun e w' =>
  e = .returned (.tuple #[.agg #[.int .i64 x.a, .int .i64 x.o, .int .i64 x.i], .bool true]) ∧ ∃ v', HeapW B bH f v' R m w' ∧ Keeps (bH :: rowB v) w w' ∧ rowB v' = rowB v

set_option maxRecDepth 100000 in
set_option maxHeartbeats 8000000 in
theorem pop_string (B bH : Nat) (v : Value) (L : List Hd) (n : Nat) (x l : Hd) (m : Int) (w : World) (hH : HeapW B bH 47 v L m w) (hB : bH < B) (hBw : B ≤ w.heap.size) (hn : L.length = n + 1) (hL : n ≤ 100000) (hx : L[0]? = some x) (hl : L[n]? = some l) :
    Calls Try.prog 64 #[.pointer (some ⟨bH, 0, none⟩)] w (Popped B bH 47 v x (downH n ((L.set 0 l).take n) 0) m w) := by
  obtain ⟨hb, hown⟩ := hH
  rw [hn] at hown
  obtain ⟨g, cap, rfl⟩ : ∃ g cap, v = .slice (some ⟨g, 0, none⟩) (n + 1) cap := by
    rcases hown.2 with ⟨_, h0⟩ | ⟨g2, cap2, _, h0, _⟩
    · omega
    · exact ⟨g2, cap2, h0⟩
  have hgB : B ≤ g := by
    rcases hown.2 with ⟨h0, _⟩ | ⟨g2, cap2, _, h0, hb, _⟩
    · cases h0
    · simp only [Value.slice.injEq, Option.some.injEq, Addr.mk.injEq] at h0
      rw [h0.1.1]; exact hb
  have hcell : ∀ j u, (L.flatMap Hd.cs)[j]? = some u → w.cell? ⟨g, j, none⟩ = some u := fun j u hj => by
    have := hown.cells (g := g) rfl j u hj
    rwa [show (⟨g, 0, none⟩ : Addr).add j = ⟨g, j, none⟩ by unfold Addr.add; split <;> simp_all] at this
  have hXC := hd_cells hcell hx
  have hLC := hd_cells hcell hl
  have lg : g < w.heap.size := World.block_lt_of_cell? w _ hXC.1
  have lb : bH < w.heap.size := (Array.getElem?_eq_some_iff.1 hb).1
  have hcb := fun j => cell_of_row w _ j _ _ _ hb
  have HHB := Lib.hid hb
  have HO := Lib.hid hown
  have HLX := Lib.hid hx
  have HLL := Lib.hid hl
  have HN := Lib.hid hn
  have HLC := Lib.hid hLC
  simp only [Nat.zero_mul] at hXC
  obtain ⟨x0, x1, x2, x3⟩ := hXC
  have n0 : (0 : Int) < (n : Int) + 1 := by omega
  have lbg : bH < g := by omega
  clear hb hown hcell hx hl hn hLC
  go_enter Try.func64, Try.ntmps64
  go_wp2_with (refine wpList_store_row rfl 78 _ _ rfl w.heap.size _ rfl rfl 78 _ (heap_new rfl) (info_slot _ _ _) rfl (by simp [Value.oneCell']) (unHd ?_))
  have eX : Ext w ((w.alloc (.cells #[.int .i64 0, .int .i64 0, .int .i64 0] 78)).setRow w.heap.size #[.int .i64 x.a, .int .i64 x.o, .int .i64 x.i]) := ((Ext.refl w).alloc _).setRow (Nat.le_refl _) _
  have eT := setRow_heap _ _ _ #[.int .i64 x.a, .int .i64 x.o, .int .i64 x.i] _ _ (heap_new (w := w) (o := .cells #[.int .i64 0, .int .i64 0, .int .i64 0] 78) rfl)
  generalize World.setRow _ _ _ = w1 at eX eT ⊢
  have HX1 := Lib.hid eX
  have HT1 := Lib.hid eT
  have HB1 := Lib.hid (heap_ext HHB.out eX)
  have HO1 := Lib.hid (own_ext HO.out eX)
  obtain ⟨l0, l1, l2, l3⟩ : w1.cell? ⟨g, n * 4, none⟩ = some (.int .i64 l.a) ∧ w1.cell? ⟨g, n * 4 + 1, none⟩ = some (.int .i64 l.o) ∧ w1.cell? ⟨g, n * 4 + 2, none⟩ = some (.int .i64 l.i) ∧ w1.cell? ⟨g, n * 4 + 3, none⟩ = some (.int .i64 l.n) :=
    ⟨cell_keep HLC.out.1 eX, cell_keep HLC.out.2.1 eX, cell_keep HLC.out.2.2.1 eX, cell_keep HLC.out.2.2.2 eX⟩
  have lg1 : g < w1.heap.size := Nat.lt_of_lt_of_le lg eX.size
  clear eX eT x0 x1 x2 x3 hcb HLC HHB HO
  have lb1 : bH < w1.heap.size := (Array.getElem?_eq_some_iff.1 HB1.out).1
  have hcb1 := fun j => cell_of_row w1 _ j _ _ _ HB1.out
  have n1 : (0 : Int) ≤ (n : Int) := by omega
  have n2 : (n : Int) < (n : Int) + 1 := by omega
  unfold Hd2
  go_upto_region 5 with fail
  go_cut [] (fun wx => Hid (wx.heap[bH]? = some (.cells #[.func (.func 47) #[] #[], .slice (some ⟨g, 0, none⟩) (n + 1) cap, .int .i64 m] 115 (0, 0)) ∧ wx.ownsRow B 127 4 (.slice (some ⟨g, 0, none⟩) (n + 1) cap) (n + 1) ((L.set 0 l).flatMap Hd.cs) ∧ Keeps [bH, g] w wx ∧ wx.heap[w.heap.size]? = some (.cells #[.int .i64 x.a, .int .i64 x.o, .int .i64 x.i] 78 (0, 0))))
  case first =>
    refine wp_region_late (af := ?af1) [true, true, true, true, true, true, true, true, true, true, true, false, false] [false, false, false, false, false, false, false, false, false, false, false, true, true] 111 (Ext w1) (by kernel_rfl) rfl (by kernel_rfl) (fun _ _ h e => Ext.trans h e) (Ext.refl w1).drew ?q ?r
    case q =>
      intro w' hw'
      obtain ⟨y, rfl⟩ := ext_of hw'
      simp only [pickT, if_true, if_false, Bool.false_eq_true]
      repeat (go_big_quiet_step (fail))
      exact rfl
    case r =>
      simp only [pickN, if_true, if_false, Bool.false_eq_true]
      intro y1
      go_wp2_with fail
      try refine ⟨fun h => absurd h (by decide), ?_⟩
      intro y2
      have e2 : Ext w1 y2.val := ((Ext.refl _).drew.val y1).val y2
      go_wp2_with (refine wpList_store_mid rfl 127 _ _ rfl g 0 #[.int .i64 l.a, .int .i64 l.o, .int .i64 l.i, .int .i64 l.n] rfl rfl (by have := own_there (own_ext HO1.out e2) (show 0 < n + 1 by omega); simpa using this) (info_four l) (by simp [Value.oneCell']) (unHd ?_))
      change Hd2 (wpList _ _ _ _ _ (y2.val.setCells g 0 l.cs))
      have o2 := own_put (own_ext HO1.out e2) (show 0 < n + 1 by omega) l
      have b2 : (y2.val.setCells g (0 * 4) l.cs).heap[bH]? = _ := (puts_other (show bH ≠ g by omega)).trans (heap_ext HB1.out e2)
      have t2 : (y2.val.setCells g (0 * 4) l.cs).heap[w.heap.size]? = _ := (puts_other (show w.heap.size ≠ g by omega)).trans (heap_ext HT1.out e2)
      have k2 : Keeps [bH, g] w (y2.val.setCells g (0 * 4) l.cs) := ((Keeps.refl _ w).ext (HX1.out.trans e2)).put (.inl (by simp)) _ _
      rw [Nat.zero_mul] at o2 b2 t2 k2
      generalize y2.val.setCells g 0 l.cs = w2 at o2 b2 t2 k2 ⊢
      unfold Hd2
      go_wp2_with fail
      try refine ⟨fun h => absurd h (by decide), ?_⟩
      intro y3
      go_wp2_with fail
      go_meet
      exact Lib.hid ⟨heap_ext b2 y3.ext, own_ext o2 y3.ext, k2.ext y3.ext, heap_ext t2 y3.ext⟩
  case rest =>
    obtain ⟨hb2, ho2, hk2, ht2⟩ := hcut.out
    clear hcut hcb1 lb1 l0 l1 l2 l3 lg1 HB1 HO1 HT1 HX1
    have hcap : n + 1 ≤ cap := by
      rcases ho2.2 with ⟨h0, _⟩ | ⟨g2, cap2, cur, h0, hb, _, hc, _⟩
      · cases h0
      · simp only [Value.slice.injEq] at h0
        rw [h0.2.2]; exact hc
    have hcap' : (n : Int) ≤ (cap : Int) := by omega
    have lb2 : bH < wc.heap.size := (Array.getElem?_eq_some_iff.1 hb2).1
    have hcb2 := fun j => cell_of_row wc _ j _ _ _ hb2
    have HB2 := Lib.hid hb2
    have HO2 := Lib.hid ho2
    have HK2 := Lib.hid hk2
    have HT2 := Lib.hid ht2
    clear hb2 ho2 hk2 ht2
    go_wp2_with (refine wpList_store_mid rfl 127 _ _ rfl g (n * 4) #[.int .i64 0, .int .i64 0, .int .i64 0, .int .i64 0] rfl rfl (own_there HO2.out (by omega)) (info_four ⟨0, 0, 0, 0⟩) (by simp [Value.oneCell']) (unHd ?_))
    change Hd2 (wpList _ _ _ _ _ (wc.setCells g (n * 4) (Hd.cs ⟨0, 0, 0, 0⟩)))
    have o3 := own_take (own_put HO2.out (show n < n + 1 by omega) ⟨0, 0, 0, 0⟩)
    rw [List.take_set_of_le (Nat.le_refl _)] at o3
    have b3 : (wc.setCells g (n * 4) (Hd.cs ⟨0, 0, 0, 0⟩)).heap[bH]? = _ := (puts_other (show bH ≠ g by omega)).trans HB2.out
    have t3 : (wc.setCells g (n * 4) (Hd.cs ⟨0, 0, 0, 0⟩)).heap[w.heap.size]? = _ := (puts_other (show w.heap.size ≠ g by omega)).trans HT2.out
    have k3 : Keeps [bH, g] w (wc.setCells g (n * 4) (Hd.cs ⟨0, 0, 0, 0⟩)) := HK2.out.put (.inl (by simp)) _ _
    generalize wc.setCells g (n * 4) (Hd.cs ⟨0, 0, 0, 0⟩) = w3 at o3 b3 t3 k3 ⊢
    have lb3 : bH < w3.heap.size := (Array.getElem?_eq_some_iff.1 b3).1
    have hcb3 := fun j => cell_of_row w3 _ j _ _ _ b3
    have hfb3 := fun j => frozen_of_row w3 _ j _ _ b3
    have HB3 := Lib.hid b3
    have HO3 := Lib.hid o3
    have HK3 := Lib.hid k3
    have HT3 := Lib.hid t3
    clear o3 b3 t3 k3 hcb2 lb2 HB2 HO2 HK2 HT2
    unfold Hd2
    go_upto_region 8 with fail
    have b4 : (w3.setCell ⟨bH, 1, none⟩ (.slice (some ⟨g, 0, none⟩) n cap)).heap[bH]? = some (.cells #[.func (.func 47) #[] #[], .slice (some ⟨g, 0, none⟩) n cap, .int .i64 m] 115 (0, 0)) := by simpa using setCell_row (o := 1) HB3.out (.slice (some ⟨g, 0, none⟩) n cap)
    have o4 := own_same HO3.out (w' := w3.setCell ⟨bH, 1, none⟩ (.slice (some ⟨g, 0, none⟩) n cap)) (fun k hk _ => cell_other (show k ≠ bH by omega))
    have k4 := HK3.out.setCell (g := bH) (.inl (by simp)) 1 (.slice (some ⟨g, 0, none⟩) n cap)
    have t4 : (w3.setCell ⟨bH, 1, none⟩ (.slice (some ⟨g, 0, none⟩) n cap)).heap[w.heap.size]? = _ := (cell_other (show w.heap.size ≠ bH by omega)).trans HT3.out
    generalize w3.setCell ⟨bH, 1, none⟩ (.slice (some ⟨g, 0, none⟩) n cap) = w4 at b4 o4 k4 t4 ⊢
    have HB4 := Lib.hid b4
    have HO4 := Lib.hid o4
    have HK4 := Lib.hid k4
    have HT4 := Lib.hid t4
    clear b4 o4 k4 t4 hcb3 hfb3 lb3 HB3 HO3 HK3 HT3
    have HLn : ((L.set 0 l).take n).length = n := by have := HN.out; simp; omega
    have HLN := Lib.hid HLn
    clear HLn
    go_wp2_with fail
    go_loopw [5, 6] (fun si _ wr => ∃ (i f : Nat) (Lc : List Hd), si = .int .i64 i ∧ i ≤ n ∧ n ≤ i + f ∧ Hid (Lc.length = n) ∧ Hid (downH f Lc i = downH n ((L.set 0 l).take n) 0) ∧
        Hid (wr.heap[bH]? = some (.cells #[.func (.func 47) #[] #[], .slice (some ⟨g, 0, none⟩) n cap, .int .i64 m] 115 (0, 0))) ∧ Hid (wr.ownsRow B 127 4 (.slice (some ⟨g, 0, none⟩) n cap) n (Lc.flatMap Hd.cs)) ∧ Hid (Keeps [bH, g] w wr) ∧ Hid (wr.heap[w.heap.size]? = some (.cells #[.int .i64 x.a, .int .i64 x.o, .int .i64 x.i] 78 (0, 0)))) (fun si _ _ => n - (intOf si).toNat)
    case atStart => exact ⟨0, n, _, rfl, Nat.zero_le _, by omega, HLN, Lib.hid rfl, HB4, HO4, HK4, HT4⟩
    case round =>
      obtain ⟨i, f, Lc, rfl, hin, hnf, HLc, HD, HB5, HO5, HK5, HT5⟩ := hrel
      rename_i wr
      clear HB4 HO4 HK4 HT4
      have lb5 : bH < wr.heap.size := (Array.getElem?_eq_some_iff.1 HB5.out).1
      have hcb5 := fun j => cell_of_row wr _ j _ _ _ HB5.out
      by_cases hlt : 2 * i + 1 < n
      · obtain ⟨k1, hk1⟩ : ∃ k1, k1 = 2 * i + 1 := ⟨_, rfl⟩
        obtain ⟨k2, hk2⟩ : ∃ k2, k2 = 2 * i + 2 := ⟨_, rfl⟩
        obtain ⟨xx, hxx⟩ : ∃ y, Lc[i]? = some y := ⟨_, List.getElem?_eq_getElem (by have := HLc.out; omega)⟩
        obtain ⟨y, hy⟩ : ∃ y, Lc[k1]? = some y := ⟨_, List.getElem?_eq_getElem (by have := HLc.out; omega)⟩
        have hcell : ∀ j u, (Lc.flatMap Hd.cs)[j]? = some u → wr.cell? ⟨g, j, none⟩ = some u := fun j u hj => by
          have := HO5.out.cells (g := g) rfl j u hj
          rwa [show (⟨g, 0, none⟩ : Addr).add j = ⟨g, j, none⟩ by unfold Addr.add; split <;> simp_all] at this
        have HCell := Lib.hid hcell
        have HY := Lib.hid hy
        have HXX := Lib.hid hxx
        have HYC := Lib.hid (hd_cells hcell hy)
        have lg5 : g < wr.heap.size := World.block_lt_of_cell? wr _ (hd_cells hcell hy).1
        have e1 : 2 * (i : Int) + 1 = (k1 : Int) := by omega
        have e2 : (k1 : Int) + 1 = (k2 : Int) := by omega
        have HK1 := Lib.hid hk1
        have HK2 := Lib.hid hk2
        have a0 : (0 : Int) ≤ (i : Int) := by omega
        have a1 : (i : Int) ≤ 100000 := by omega
        have a2 : (k1 : Int) < (n : Int) := by omega
        have a3 : (0 : Int) ≤ (k1 : Int) := by omega
        have a4 : (k1 : Int) ≤ 100000 := by omega
        have a5 : (n : Int) ≤ 100000 := by omega
        clear hcell hy hxx hk1 hk2
        go_upto_region 11 with fail
        go_cut [75] (fun s wx => ∃ b : Bool, s = .bool b ∧ Hid (Ext wr wx) ∧ Hid ((b = true → ∃ z, Below2 Lc i k2 z) ∧ (b = false → Below2 Lc i k1 y)))
        case first =>
          by_cases h2 : 2 * i + 2 < n
          · obtain ⟨z, hz⟩ : ∃ z, Lc[k2]? = some z := ⟨_, List.getElem?_eq_getElem (by have := HLc.out; have := HK2.out; omega)⟩
            have HZ := Lib.hid hz
            have HZC := Lib.hid (hd_cells HCell.out hz)
            have a6 : (k2 : Int) < (n : Int) := by have := HK2.out; omega
            clear hz
            go_wp2_with fail
            refine (ahead_string bH g n m cap k2 k1 z y wr HB5.out HZC.out HYC.out (by omega) (by omega) lg5 (by omega)).mono ?_
            rintro e wx ⟨rfl, hx⟩
            go_wp2_with fail
            go_meet
            refine ⟨aheadH z y, rfl, Lib.hid hx, Lib.hid ⟨fun hb => ⟨z, by have := HLc.out; omega, HZ.out, .inr ⟨HK2.out, by have := HLc.out; omega, y, by rw [← HK1.out]; exact HY.out, hb⟩⟩, fun hb => ⟨by have := HLc.out; omega, HY.out, .inl ⟨HK1.out, fun z' _ hz' => ?_⟩⟩⟩⟩
            rw [← HK2.out, HZ.out] at hz'
            cases hz'
            exact hb
          · have a6 : (n : Int) ≤ (k2 : Int) := by have := HK2.out; omega
            have a7 : decide ((k2 : Int) < (n : Int)) = false := decide_eq_false (by omega)
            go_wp2_with fail
            go_meet
            exact ⟨false, rfl, Lib.hid (Ext.refl _), Lib.hid ⟨fun hb => (by cases hb), fun _ => ⟨by have := HLc.out; omega, HY.out, .inl ⟨HK1.out, fun z' h' _ => absurd h' (by have := HLc.out; omega)⟩⟩⟩⟩
        case rest =>
          obtain ⟨b, rfl, HX5, HBB⟩ := hcut
          go_upto_if 75 with fail
          go_cut [6] (fun s wx => ∃ (kk : Nat) (yy : Hd), s = .int .i64 kk ∧ Hid (Ext wr wx) ∧ Hid (Below2 Lc i kk yy))
          case first =>
            cases b
            · have HF := Lib.hid (HBB.out.2 rfl)
              clear HBB
              go_wp2_with fail
              go_meet
              exact ⟨k1, y, rfl, HX5, HF⟩
            · obtain ⟨z, hz⟩ := HBB.out.1 rfl
              have HZ := Lib.hid hz
              clear hz
              go_wp2_with fail
              go_meet
              exact ⟨k2, z, rfl, HX5, HZ⟩
          case rest =>
            clear HX5 HBB
            obtain ⟨kk, yy, rfl, HX6, HBE⟩ := hcut
            have hkk : i < kk ∧ kk < n ∧ Lc[kk]? = some yy := by
              obtain ⟨h1, h2, h3⟩ := HBE.out
              have h4 := (List.getElem?_eq_some_iff.1 h2).1
              rw [HLc.out] at h4
              refine ⟨?_, h4, h2⟩
              rcases h3 with ⟨h3, _⟩ | ⟨h3, _⟩ <;> omega
            obtain ⟨hik, hkn, hyy⟩ := hkk
            have HYY := Lib.hid hyy
            have HYC6 := Lib.hid (show wc.cell? ⟨g, kk * 4, none⟩ = some (.int .i64 yy.a) ∧ wc.cell? ⟨g, kk * 4 + 1, none⟩ = some (.int .i64 yy.o) ∧ wc.cell? ⟨g, kk * 4 + 2, none⟩ = some (.int .i64 yy.i) ∧ wc.cell? ⟨g, kk * 4 + 3, none⟩ = some (.int .i64 yy.n) from
              ⟨cell_keep (hd_cells HCell.out hyy).1 HX6.out, cell_keep (hd_cells HCell.out hyy).2.1 HX6.out, cell_keep (hd_cells HCell.out hyy).2.2.1 HX6.out, cell_keep (hd_cells HCell.out hyy).2.2.2 HX6.out⟩)
            have HXC6 := Lib.hid (show wc.cell? ⟨g, i * 4, none⟩ = some (.int .i64 xx.a) ∧ wc.cell? ⟨g, i * 4 + 1, none⟩ = some (.int .i64 xx.o) ∧ wc.cell? ⟨g, i * 4 + 2, none⟩ = some (.int .i64 xx.i) ∧ wc.cell? ⟨g, i * 4 + 3, none⟩ = some (.int .i64 xx.n) from
              ⟨cell_keep (hd_cells HCell.out HXX.out).1 HX6.out, cell_keep (hd_cells HCell.out HXX.out).2.1 HX6.out, cell_keep (hd_cells HCell.out HXX.out).2.2.1 HX6.out, cell_keep (hd_cells HCell.out HXX.out).2.2.2 HX6.out⟩)
            have lg6 : g < wc.heap.size := Nat.lt_of_lt_of_le lg5 HX6.out.size
            have HB6 := Lib.hid (heap_ext HB5.out HX6.out)
            have HO6 := Lib.hid (own_ext HO5.out HX6.out)
            have HK6 := Lib.hid (HK5.out.ext HX6.out)
            have HT6 := Lib.hid (heap_ext HT5.out HX6.out)
            clear hyy HX6 HB5 HO5 HK5 HT5 HCell HYC lg5 lb5 hcb5 e1 e2 a2 a3 a4
            have lb6 : bH < wc.heap.size := (Array.getElem?_eq_some_iff.1 HB6.out).1
            have hcb6 := fun j => cell_of_row wc _ j _ _ _ HB6.out
            go_wp2_with fail
            refine (ahead_string bH g n m cap kk i yy xx wc HB6.out HYC6.out HXC6.out (by omega) (by omega) lg6 (by omega)).mono ?_
            rintro e w8 ⟨rfl, hx8⟩
            have HYC8 := Lib.hid (show w8.cell? ⟨g, kk * 4, none⟩ = some (.int .i64 yy.a) ∧ w8.cell? ⟨g, kk * 4 + 1, none⟩ = some (.int .i64 yy.o) ∧ w8.cell? ⟨g, kk * 4 + 2, none⟩ = some (.int .i64 yy.i) ∧ w8.cell? ⟨g, kk * 4 + 3, none⟩ = some (.int .i64 yy.n) from ⟨cell_keep HYC6.out.1 hx8, cell_keep HYC6.out.2.1 hx8, cell_keep HYC6.out.2.2.1 hx8, cell_keep HYC6.out.2.2.2 hx8⟩)
            have HXC8 := Lib.hid (show w8.cell? ⟨g, i * 4, none⟩ = some (.int .i64 xx.a) ∧ w8.cell? ⟨g, i * 4 + 1, none⟩ = some (.int .i64 xx.o) ∧ w8.cell? ⟨g, i * 4 + 2, none⟩ = some (.int .i64 xx.i) ∧ w8.cell? ⟨g, i * 4 + 3, none⟩ = some (.int .i64 xx.n) from ⟨cell_keep HXC6.out.1 hx8, cell_keep HXC6.out.2.1 hx8, cell_keep HXC6.out.2.2.1 hx8, cell_keep HXC6.out.2.2.2 hx8⟩)
            have HB8 := Lib.hid (heap_ext HB6.out hx8)
            have HO8 := Lib.hid (own_ext HO6.out hx8)
            have HK8 := Lib.hid (HK6.out.ext hx8)
            have HT8 := Lib.hid (heap_ext HT6.out hx8)
            have lg8 : g < w8.heap.size := Nat.lt_of_lt_of_le lg6 hx8.size
            clear hx8 HB6 HO6 HK6 HT6 HYC6 HXC6 lg6 lb6 hcb6
            have lb8 : bH < w8.heap.size := (Array.getElem?_eq_some_iff.1 HB8.out).1
            have hcb8 := fun j => cell_of_row w8 _ j _ _ _ HB8.out
            obtain ⟨f', rfl⟩ : ∃ f', f = f' + 1 := ⟨f - 1, by omega⟩
            have hstep := downH_step (f := f') HXX.out HBE.out
            have HST := Lib.hid hstep
            clear hstep
            rcases hab : aheadH yy xx
            · have hT8 := HT8.out
              have hct8 := fun j => cell_of_row w8 _ j _ _ _ hT8
              have lt8 : w.heap.size < w8.heap.size := (Array.getElem?_eq_some_iff.1 hT8).1
              clear hT8
              go_wp2_with (refine wpList_store_row rfl 78 _ _ rfl w.heap.size _ rfl rfl 78 _ HT8.out (info_slot _ _ _) rfl (by simp [Value.oneCell']) (unHd ?_))
              have hR : downH n ((L.set 0 l).take n) 0 = Lc := by rw [← HD.out]; exact (by rw [HST.out, hab]; rfl)
              have t6 := setRow_heap _ _ _ #[.int .i64 x.a, .int .i64 x.o, .int .i64 x.i] _ _ HT8.out
              have b6 : (w8.setRow w.heap.size #[.int .i64 x.a, .int .i64 x.o, .int .i64 x.i]).heap[bH]? = _ := (setRow_other w8 w.heap.size bH _ (by omega)).trans HB8.out
              have o6 := own_setRow HO8.out HT8.out (by decide) #[.int .i64 x.a, .int .i64 x.o, .int .i64 x.i]
              have k6 : Keeps [bH, g] w (w8.setRow w.heap.size #[.int .i64 x.a, .int .i64 x.o, .int .i64 x.i]) := HK8.out.setRow (.inr (Nat.le_refl _)) _
              generalize w8.setRow w.heap.size #[.int .i64 x.a, .int .i64 x.o, .int .i64 x.i] = w7 at t6 b6 o6 k6 ⊢
              unfold Hd2
              go_wp2_with fail
              refine bodyPost_ret (results_row_tmp rfl _ _ _ 78 _ (0, 0) _ rfl t6 Try.underlying78 rfl (info_slot _ _ _)) rfl ?_
              refine ⟨rfl, .slice (some ⟨g, 0, none⟩) n cap, ⟨b6, ?_⟩, k6, rfl⟩
              rw [hR, HLc.out]
              exact o6
            · have b0 : (kk : Int) < (n : Int) := by omega
              have b1 : (0 : Int) ≤ (kk : Int) := by omega
              have b2 : (i : Int) < (n : Int) := by omega
              go_wp2_with fail
              refine wp_region_pair (af := ?af3) [true, true, true, true, true, true, true, true, true, true, true, true, true, true, true, true, false, true, true, true, true, true, true, false, false, false, false, false] [true, true, true, true, true, true, true, true, true, true, true, true, true, true, true, true, true, true, true, true, true, true, true, true, false, false, false, false] 111 16 23 (fun w' => w8.grownBy w' (some g)) (by kernel_rfl) rfl (by kernel_rfl) (fun _ _ h e => but_ext h e) (but_ext (but_refl g w8) (Ext.refl w8).drew) ?q (.agg #[.int .i64 yy.a, .int .i64 yy.o, .int .i64 yy.i, .int .i64 yy.n]) (.agg #[.int .i64 xx.a, .int .i64 xx.o, .int .i64 xx.i, .int .i64 xx.n]) _ _ rfl rfl ?y1 ?y2 ?r
              case q =>
                intro w' hw'
                obtain ⟨s, rfl⟩ : ∃ s : ButOf g w8, w' = s.val := ⟨⟨w', hw'⟩, rfl⟩
                simp only [pickT, if_true, if_false, Bool.false_eq_true]
                repeat (go_big_quiet_step (fail))
                exact rfl
              case y1 => exact yieldsE_load rfl 127 _ rfl g (kk * 4) rfl yy.cs _ (fun w' e => range_four HYC8.out ((Ext.refl w8).drew.trans e)) Try.underlying127 rfl (info_four yy)
              case y2 => exact yieldsE_load rfl 127 _ rfl g (i * 4) rfl xx.cs _ (fun w' e => range_four HXC8.out ((Ext.refl w8).drew.trans e)) Try.underlying127 rfl (info_four xx)
              case r =>
                simp only [pickF, if_true, if_false, Bool.false_eq_true]
                intro x1
                have e1 : Ext w8 x1.val := (Ext.refl _).drew.val x1
                go_wp2_with fail
                refine ⟨but_ext (but_refl g w8) e1, ?_⟩
                intro x2
                have e2 : Ext w8 x2.val := e1.val x2
                go_wp2_with (refine wpList_store_mid rfl 127 _ _ rfl g (i * 4) #[.int .i64 yy.a, .int .i64 yy.o, .int .i64 yy.i, .int .i64 yy.n] rfl rfl (own_there (own_ext HO8.out e2) (by omega)) (info_four yy) (by simp [Value.oneCell']) (unHd ?_))
                have c2 : w8.grownBy (x2.val.setCells g (i * 4) yy.cs) (some g) := but_puts (but_ext (but_refl g w8) e2) _ _
                have o2 := own_put (own_ext HO8.out e2) (show i < n by omega) yy
                have b2 : (x2.val.setCells g (i * 4) yy.cs).heap[bH]? = _ := (puts_other (show bH ≠ g by omega)).trans (heap_ext HB8.out e2)
                have t2 : (x2.val.setCells g (i * 4) yy.cs).heap[w.heap.size]? = _ := (puts_other (show w.heap.size ≠ g by omega)).trans (heap_ext HT8.out e2)
                have kk2 : Keeps [bH, g] w (x2.val.setCells g (i * 4) yy.cs) := (HK8.out.ext e2).put (.inl (by simp)) _ _
                change Hd2 (wpList _ _ _ _ _ (x2.val.setCells g (i * 4) yy.cs))
                generalize x2.val.setCells g (i * 4) yy.cs = w5 at c2 o2 b2 t2 kk2 ⊢
                unfold Hd2
                go_wp2_with fail
                try refine ⟨c2, ?_⟩
                intro x3
                go_wp2_with fail
                try refine ⟨but_ext c2 x3.ext, ?_⟩
                intro x4
                have e4 : Ext w5 x4.val := x3.ext.trans x4.ext
                go_wp2_with (refine wpList_store_mid rfl 127 _ _ rfl g (kk * 4) #[.int .i64 xx.a, .int .i64 xx.o, .int .i64 xx.i, .int .i64 xx.n] rfl rfl (own_there (own_ext o2 e4) (by omega)) (info_four xx) (by simp [Value.oneCell']) (unHd ?_))
                have c4 : w8.grownBy (x4.val.setCells g (kk * 4) xx.cs) (some g) := but_puts (but_ext c2 e4) _ _
                have o4 := own_put (own_ext o2 e4) (show kk < n by omega) xx
                have b4 : (x4.val.setCells g (kk * 4) xx.cs).heap[bH]? = _ := (puts_other (show bH ≠ g by omega)).trans (heap_ext b2 e4)
                have t4 : (x4.val.setCells g (kk * 4) xx.cs).heap[w.heap.size]? = _ := (puts_other (show w.heap.size ≠ g by omega)).trans (heap_ext t2 e4)
                have kk4 : Keeps [bH, g] w (x4.val.setCells g (kk * 4) xx.cs) := (kk2.ext e4).put (.inl (by simp)) _ _
                change Hd2 (wpList _ _ _ _ _ (x4.val.setCells g (kk * 4) xx.cs))
                generalize x4.val.setCells g (kk * 4) xx.cs = w6 at c4 o4 b4 t4 kk4 ⊢
                unfold Hd2
                go_wp2_with fail
                try refine ⟨c4, ?_⟩
                intro x5
                rw [← swapH_eq HXX.out HYY.out] at o4
                have HB9 := Lib.hid (heap_ext b4 x5.ext)
                have HO9 := Lib.hid (own_ext o4 x5.ext)
                have HK9 := Lib.hid (kk4.ext x5.ext)
                have HT9 := Lib.hid (heap_ext t4 x5.ext)
                clear c2 o2 b2 t2 kk2 c4 o4 b4 t4 kk4 hcb8
                go_wp2_with fail
                exact ⟨⟨kk, f', swapH Lc i kk, rfl, by omega, by omega, Lib.hid (by rw [swapH_length]; exact HLc.out), Lib.hid (by rw [← HD.out, HST.out, hab]; rfl), HB9, HO9, HK9, HT9⟩, by simp [intOf]; omega⟩
      · have hge : (n : Int) ≤ 2 * (i : Int) + 1 := by omega
        have hT5 := HT5.out
        have hct5 := fun j => cell_of_row wr _ j _ _ _ hT5
        have lt5 : w.heap.size < wr.heap.size := (Array.getElem?_eq_some_iff.1 hT5).1
        have ii : (i : Int) ≤ 100000 := by omega
        have i0 : (0 : Int) ≤ (i : Int) := by omega
        clear hlt hT5
        go_wp2_with (refine wpList_store_row rfl 78 _ _ rfl w.heap.size _ rfl rfl 78 _ HT5.out (info_slot _ _ _) rfl (by simp [Value.oneCell']) (unHd ?_))
        have hR : downH n ((L.set 0 l).take n) 0 = Lc := by rw [← HD.out]; exact downH_out (by rw [HLc.out]; omega)
        have t6 := setRow_heap _ _ _ #[.int .i64 x.a, .int .i64 x.o, .int .i64 x.i] _ _ HT5.out
        have b6 : (wr.setRow w.heap.size #[.int .i64 x.a, .int .i64 x.o, .int .i64 x.i]).heap[bH]? = _ := (setRow_other wr w.heap.size bH _ (by omega)).trans HB5.out
        have o6 := own_setRow HO5.out HT5.out (by decide) #[.int .i64 x.a, .int .i64 x.o, .int .i64 x.i]
        have k6 : Keeps [bH, g] w (wr.setRow w.heap.size #[.int .i64 x.a, .int .i64 x.o, .int .i64 x.i]) := HK5.out.setRow (.inr (Nat.le_refl _)) _
        generalize wr.setRow w.heap.size #[.int .i64 x.a, .int .i64 x.o, .int .i64 x.i] = w7 at t6 b6 o6 k6 ⊢
        unfold Hd2
        go_wp2_with fail
        refine bodyPost_ret (results_row_tmp rfl _ _ _ 78 _ (0, 0) _ rfl t6 Try.underlying78 rfl (info_slot _ _ _)) rfl ?_
        refine ⟨rfl, .slice (some ⟨g, 0, none⟩) n cap, ⟨b6, ?_⟩, k6, rfl⟩
        rw [hR, HLc.out]
        exact o6
end Go.Proofs.Ytibdplfdmncgiaa
