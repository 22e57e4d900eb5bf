/-
  Walk: a thing is pushed into the heap of slots. No condition.
-/
import Derived.Test.YtibdplfdmncgiaaT0
import Derived.Test.YtibdplfdmncgiaaT2
import Derived.IntWalk
set_option linter.all false
namespace Go.Proofs.Ytibdplfdmncgiaa
open Go.RowKit
attribute [local go_sem] ExtOf.cell ExtOf.frozen ExtOf.lt ExtOf.le
attribute [local go_sem high] ExtOf.cell2 ExtOf.frozen2 ExtOf.lt2 ExtOf.cell3 ExtOf.frozen3 ExtOf.lt3 ExtOf.cellX ExtOf.frozenX ExtOf.cellX' ExtOf.frozenX'

theorem non_of {a b : World} (e : Ext a b) : a.grownBy b none := ⟨e.os, e.tape, e.output, e.size, fun k hk _ => e.block k hk⟩
theorem non_ext {a b c : World} (h : a.grownBy b none) (e : Ext b c) : a.grownBy c none := but_trans h (non_of e)

/-- A goal that the walk leaves. -/
def Hd2 (p : Prop) : Prop := p
theorem unHd {p : Prop} (h : Hd2 p) : p := h

/-- The heap at block bH, whose row is the slice v; rows lie in blocks from B on. -/
def HeapW (B bH : Nat) (f : FuncId) (v : Value) (L : List Hd) (m : Int) (w : World) : Prop :=
  w.heap[bH]? = some (.cells #[.func (.func f) #[] #[], v, .int .i64 m] 115 (0, 0)) ∧ w.ownsRow B 127 4 v L.length (L.flatMap Hd.cs)

theorem info_hd : (Try.prog.info? 127).map (fun i => (i.zero, i.size, i.bytes)) = some (some (.agg #[.int .i64 0, .int .i64 0, .int .i64 0, .int .i64 0]), 4, 32) := by kernel_rfl

theorem hd_one (O : List Hd) : ∀ u ∈ O.flatMap Hd.cs, u.oneCell' = true := fun u hu => by
  obtain ⟨o, _, ho⟩ := List.mem_flatMap.1 hu
  simp only [Hd.cs, List.mem_cons, List.not_mem_nil, or_false] at ho
  rcases ho with rfl | rfl | rfl | rfl <;> simp [Value.oneCell']

/-- What is behind a push. -/
def Pushed (B bH : Nat) (f : FuncId) (v : Value) (L : List Hd) (x : Hd) (w : World) : Ending → World → Prop := fun e w' =>
  e = .returned (.tuple #[]) ∧ ∃ v', HeapW B bH f v' (upH L.length (L ++ [x]) L.length) (x.n + 1) w' ∧ Keeps (bH :: rowB v) w w' ∧ ∀ g ∈ rowB v', g ∈ rowB v ∨ w.heap.size ≤ g

/-- What is behind the append in Push. -/
def Laid (B bH : Nat) (f : FuncId) (v : Value) (L : List Hd) (x : Hd) (w wx : World) : Prop :=
  ∃ v', HeapW B bH f v' (L ++ [x]) x.n wx ∧ Keeps (bH :: rowB v) w wx ∧ ∀ g ∈ rowB v', g ∈ rowB v ∨ w.heap.size ≤ g

set_option maxRecDepth 100000 in
set_option maxHeartbeats 8000000 in
theorem push_int (B bH : Nat) (v : Value) (L : List Hd) (x : Hd) (w : World) (hH : HeapW B bH 43 v L x.n w) (hB : bH < B) (hBw : B ≤ w.heap.size) (hL : L.length ≤ 100000) (hm : 0 ≤ x.n ∧ x.n ≤ 100000) :
    Calls Try.prog 61 #[.pointer (some ⟨bH, 0, none⟩), .agg #[.int .i64 x.a, .int .i64 x.o, .int .i64 x.i]] w (Pushed B bH 43 v L x w) := by
  obtain ⟨ti0, hi, hz0, hz1, hz2⟩ := info_parts info_hd
  obtain ⟨hb, hown⟩ := hH
  obtain ⟨hm0, hm1⟩ := hm
  have lb : bH < w.heap.size := (Array.getElem?_eq_some_iff.1 hb).1
  have hcb := fun j => cell_of_row w _ j _ _ _ hb
  have HHB := Lib.hid hb
  have HO := Lib.hid hown
  clear hb hown
  go_enter Try.func61, Try.ntmps61
  go_upto_region 2 with fail
  go_cut [] (fun wx => Hid (Laid B bH 43 v L x w wx))
  case first =>
    obtain ⟨w1, hw1⟩ : ∃ w1, w1 = w.alloc (.cells #[.int .i64 x.a, .int .i64 x.o, .int .i64 x.i] 78) := ⟨_, rfl⟩
    have hx1 : Ext w w1 := by rw [hw1]; exact (Ext.refl _).alloc _
    have hbox : w1.heap[w.heap.size]? = some (.cells #[.int .i64 x.a, .int .i64 x.o, .int .i64 x.i] 78 (0, 0)) := by rw [hw1]; exact heap_new rfl
    have hb1 := heap_ext HHB.out hx1
    rw [← hw1]
    clear hw1 hcb
    have hcb := fun j => cell_of_row w1 _ j _ _ _ hb1
    have hcx := fun j => cell_of_row w1 _ j _ _ _ hbox
    have lb1 : bH < w1.heap.size := (Array.getElem?_eq_some_iff.1 hb1).1
    have lx1 : w.heap.size < w1.heap.size := (Array.getElem?_eq_some_iff.1 hbox).1
    have HB1 := Lib.hid hb1
    have HX1 := Lib.hid hx1
    clear hbox hb1 hx1
    rcases HO.out.2 with ⟨hv, hn⟩ | ⟨g, cap, cur, hv, hbg, hg, hnc, hcm, hcs, htk⟩
    · subst hv
      obtain rfl : L = [] := List.length_eq_zero_iff.1 hn
      refine wp_region_late (af := ?af1) [true, true, true, true, true, true, true, true, true, true, true, false, false, false, false, false] [false, false, false, false, false, false, false, false, false, false, false, false, false, true, true, true] 78 (fun w' => w1.grownBy w' none) (by kernel_rfl) rfl (by kernel_rfl) (fun _ _ h e => non_ext h e) (non_of (Ext.refl w1).drew) ?q ?r
      case q =>
        intro w' hw'
        obtain ⟨y, rfl⟩ : ∃ y : ExtOf w1, w' = y.val := ⟨⟨w', ext_grown hw'⟩, rfl⟩
        simp only [pickT, if_true, if_false, Bool.false_eq_true]
        repeat (go_big_quiet_step (fail))
        exact rfl
      case r =>
        simp only [pickN, if_true, if_false, Bool.false_eq_true]
        intro x1
        have e1 : Ext w1 x1.val := (Ext.refl _).drew.val x1
        go_wp2_with fail
        refine ⟨fun _ => non_of (e1.alloc _), ?_⟩
        intro x2
        have e2 : Ext w1 x2.val := (e1.alloc _).val x2
        go_wp2_with (at_builtin; refine unHd ?_)
        unfold Hd2
        have hbx2 : B ≤ x2.val.heap.size := by have := HX1.out.size; have := e2.size; omega
        refine wpList_app5 B 113 127 ti0 _ 4 32 Try.underlying113 hi hz0 hz1 hz2 rfl (by decide) rfl _ _ rfl _ 0 _ rfl (own_ext HO.out (HX1.out.trans e2)) hbx2 x1.val.heap.size 1 1 #[.int .i64 x.a, .int .i64 x.o, .int .i64 x.i, .int .i64 x.n] (by decide) rfl (heap_ext (heap_new rfl) x2.ext) rfl (by simp [Value.oneCell']) (by unfold maxLen; omega) (by omega) ?_
        intro v2 w2 hown2 hg2 hr2
        obtain ⟨g2, cap2, rfl⟩ : ∃ g2 cap2, v2 = .slice (some ⟨g2, 0, none⟩) (0 + 1) cap2 := by
          rcases hown2.2 with ⟨_, h0⟩ | ⟨g2, cap2, _, h0, _⟩
          · omega
          · exact ⟨g2, cap2, h0⟩
        have c2 : w1.grownBy w2 none := but_trans (non_of e2) hg2
        refine ⟨c2, ?_⟩
        intro x3
        go_wp2_with fail
        try refine ⟨fun h => absurd h (by decide), ?_⟩
        intro x4
        go_wp2_with fail
        try refine ⟨fun h => absurd h (by decide), ?_⟩
        intro x5
        have c5 : w1.grownBy x5.val none := non_ext c2 ((x3.ext.trans x4.ext).trans x5.ext)
        have hb5 : x5.val.heap[bH]? = some (.cells #[.func (.func 43) #[] #[], .slice none 0 0, .int .i64 x.n] 115 (0, 0)) := (c5.block bH lb1 (by simp)).trans HB1.out
        have o5 := own_ext hown2 ((x3.ext.trans x4.ext).trans x5.ext)
        have hcb5 := fun j => cell_of_row x5.val _ j _ _ _ hb5
        have hfb5 := fun j => frozen_of_row x5.val _ j _ _ hb5
        generalize x5.val = w5 at c5 hb5 o5 hcb5 hfb5 ⊢
        have HB5 := Lib.hid hb5
        clear hb5
        go_wp2_with fail
        try refine ⟨fun h => absurd h (by decide), ?_⟩
        intro x6
        go_wp2_with fail
        go_meet
        refine Lib.hid ⟨.slice (some ⟨g2, 0, none⟩) (0 + 1) cap2, ⟨by simpa using heap_ext (setCell_row HB5.out _) x6.ext, ?_⟩, ?_, fun k hk => (hr2 k hk).imp id (fun h => by have := HX1.out.size; have := e2.size; omega)⟩
        · have := own_ext (own_same o5 (fun k hk _ => cell_other (o := 1) (v := .slice (some ⟨g2, 0, none⟩) (0 + 1) cap2) (show k ≠ bH by omega))) x6.ext
          simpa [Hd.cs] using this
        · exact ((keeps_grown ((Keeps.refl _ w).ext HX1.out) (v := .slice none 0 0) c5 (fun _ h => List.mem_cons_of_mem _ h)).setCell (.inl (.head _)) 1 _).ext x6.ext
    · subst hv
      have lg : g < w.heap.size := (Array.getElem?_eq_some_iff.1 hg).1
      have lbg : bH < g := by omega
      clear hg hnc hcm hcs htk
      refine wp_region_late (af := ?af2) [true, true, true, true, true, true, true, true, true, true, true, false, false, false, false, false] [false, false, false, false, false, false, false, false, false, false, false, false, false, true, true, true] 78 (fun w' => w1.grownBy w' (some g)) (by kernel_rfl) rfl (by kernel_rfl) (fun _ _ h e => but_ext h e) (but_ext (but_refl g w1) (Ext.refl w1).drew) ?q ?r
      case q =>
        intro w' hw'
        obtain ⟨y, rfl⟩ : ∃ y : ButOf g w1, w' = y.val := ⟨⟨w', hw'⟩, rfl⟩
        simp only [pickT, if_true, if_false, Bool.false_eq_true]
        repeat (go_big_quiet_step (fail))
        exact rfl
      case r =>
        simp only [pickN, if_true, if_false, Bool.false_eq_true]
        intro x1
        have e1 : Ext w1 x1.val := (Ext.refl _).drew.val x1
        go_wp2_with fail
        refine ⟨fun _ => but_ext (but_refl g w1) (e1.alloc _), ?_⟩
        intro x2
        have e2 : Ext w1 x2.val := (e1.alloc _).val x2
        go_wp2_with (at_builtin; refine unHd ?_)
        unfold Hd2
        have hbx2 : B ≤ x2.val.heap.size := by have := HX1.out.size; have := e2.size; omega
        refine wpList_app5 B 113 127 ti0 _ 4 32 Try.underlying113 hi hz0 hz1 hz2 rfl (by decide) rfl _ _ rfl _ L.length _ rfl (own_ext HO.out (HX1.out.trans e2)) hbx2 x1.val.heap.size 1 1 #[.int .i64 x.a, .int .i64 x.o, .int .i64 x.i, .int .i64 x.n] (by decide) rfl (heap_ext (heap_new rfl) x2.ext) rfl (by simp [Value.oneCell']) (by unfold maxLen; omega) (by omega) ?_
        intro v2 w2 hown2 hg2 hr2
        obtain ⟨g2, cap2, rfl⟩ : ∃ g2 cap2, v2 = .slice (some ⟨g2, 0, none⟩) (L.length + 1) cap2 := by
          rcases hown2.2 with ⟨_, h0⟩ | ⟨g2, cap2, _, h0, _⟩
          · omega
          · exact ⟨g2, cap2, h0⟩
        have c2 : w1.grownBy w2 (some g) := but_trans (but_ext (but_refl g w1) e2) hg2
        refine ⟨c2, ?_⟩
        intro x3
        go_wp2_with fail
        try refine ⟨fun h => absurd h (by decide), ?_⟩
        intro x4
        go_wp2_with fail
        try refine ⟨fun h => absurd h (by decide), ?_⟩
        intro x5
        have c5 : w1.grownBy x5.val (some g) := but_ext c2 ((x3.ext.trans x4.ext).trans x5.ext)
        have hb5 : x5.val.heap[bH]? = some (.cells #[.func (.func 43) #[] #[], .slice (some ⟨g, 0, none⟩) L.length cap, .int .i64 x.n] 115 (0, 0)) := (c5.block bH lb1 (by simp; omega)).trans HB1.out
        have o5 := own_ext hown2 ((x3.ext.trans x4.ext).trans x5.ext)
        have hcb5 := fun j => cell_of_row x5.val _ j _ _ _ hb5
        have hfb5 := fun j => frozen_of_row x5.val _ j _ _ hb5
        generalize x5.val = w5 at c5 hb5 o5 hcb5 hfb5 ⊢
        have HB5 := Lib.hid hb5
        clear hb5
        go_wp2_with fail
        try refine ⟨fun h => absurd h (by decide), ?_⟩
        intro x6
        go_wp2_with fail
        go_meet
        refine Lib.hid ⟨.slice (some ⟨g2, 0, none⟩) (L.length + 1) cap2, ⟨by simpa using heap_ext (setCell_row HB5.out _) x6.ext, ?_⟩, ?_, fun k hk => (hr2 k hk).imp id (fun h => by have := HX1.out.size; have := e2.size; omega)⟩
        · have := own_ext (own_same o5 (fun k hk _ => cell_other (o := 1) (v := .slice (some ⟨g2, 0, none⟩) (L.length + 1) cap2) (show k ≠ bH by omega))) x6.ext
          simpa [Hd.cs] using this
        · exact ((keeps_grown ((Keeps.refl _ w).ext HX1.out) (v := .slice (some ⟨g, 0, none⟩) L.length cap) c5 (fun _ h => List.mem_cons_of_mem _ h)).setCell (.inl (.head _)) 1 _).ext x6.ext
  case rest =>
    obtain ⟨v', ⟨hb1, hown1⟩, hk1, hr1⟩ := hcut.out
    obtain ⟨g, cap, rfl⟩ : ∃ g cap, v' = .slice (some ⟨g, 0, none⟩) (L.length + 1) cap := by
      rcases hown1.2 with ⟨_, h0⟩ | ⟨g2, cap2, _, h0, _⟩
      · simp at h0
      · rw [List.length_append] at h0
        exact ⟨g2, cap2, h0⟩
    have hgB : B ≤ g := by
      rcases hown1.2 with ⟨h0, _⟩ | ⟨g2, cap2, _, h0, hb, _⟩
      · cases h0
      · simp only [Value.slice.injEq, Option.some.injEq, Addr.mk.injEq] at h0
        rw [h0.1.1]; exact hb
    clear hcut hcb
    have lb1 : bH < wc.heap.size := (Array.getElem?_eq_some_iff.1 hb1).1
    have hcb1 := fun j => cell_of_row wc _ j _ _ _ hb1
    have hfb1 := fun j => frozen_of_row wc _ j _ _ hb1
    have hne : bH ≠ g := by omega
    have lbg : bH < g := by omega
    have hm2 : 0 ≤ x.n + 1 := by omega
    -- behind the count
    have hb2 : (wc.setCell ⟨bH, 2, none⟩ (.int .i64 (x.n + 1))).heap[bH]? = some (.cells #[.func (.func 43) #[] #[], .slice (some ⟨g, 0, none⟩) (L.length + 1) cap, .int .i64 (x.n + 1)] 115 (0, 0)) := by simpa using setCell_row (o := 2) hb1 (.int .i64 (x.n + 1))
    have o2 := own_same hown1 (w' := wc.setCell ⟨bH, 2, none⟩ (.int .i64 (x.n + 1))) (fun k hk _ => cell_other (show k ≠ bH by omega))
    have k2 := hk1.setCell (g := bH) (.inl (.head _)) 2 (.int .i64 (x.n + 1))
    have HB2 := Lib.hid hb2
    have HO2 := Lib.hid o2
    have HK2 := Lib.hid k2
    clear hb1 hown1 hk1 hb2 o2 k2
    rw [show (L ++ [x]).length = L.length + 1 by simp] at HO2
    go_upto_region 4 with fail
    generalize hW : wc.setCell ⟨bH, 2, none⟩ (.int .i64 (x.n + 1)) = w2 at HB2 HO2 HK2 ⊢
    have hcb2 := fun j => cell_of_row w2 _ j _ _ _ HB2.out
    have lb2 : bH < w2.heap.size := (Array.getElem?_eq_some_iff.1 HB2.out).1
    clear hW hcb1 hfb1 lb1
    go_wp2_with fail
    go_loopw [4] (fun si wr => ∃ (k f : Nat) (Lc : List Hd), si = .int .i64 k ∧ k ≤ L.length ∧ k ≤ f ∧ Lc.length = L.length + 1 ∧ Hid (upH f Lc k = upH L.length (L ++ [x]) L.length) ∧
        Hid (wr.heap[bH]? = some (.cells #[.func (.func 43) #[] #[], .slice (some ⟨g, 0, none⟩) (L.length + 1) cap, .int .i64 (x.n + 1)] 115 (0, 0))) ∧
        Hid (wr.ownsRow B 127 4 (.slice (some ⟨g, 0, none⟩) (L.length + 1) cap) (L.length + 1) (Lc.flatMap Hd.cs)) ∧ Hid (Keeps (bH :: rowB v) w wr)) (fun si _ => (intOf si).toNat)
    case atStart => exact ⟨L.length, L.length, L ++ [x], rfl, Nat.le_refl _, Nat.le_refl _, by simp, rfl, HB2, HO2, HK2⟩
    case round =>
      obtain ⟨k, f, Lc, rfl, hkL, hkf, hLc, HUP, HB3, HO3, HK3⟩ := hrel
      rename_i wr
      clear HB2 HO2 HK2 hcb2 lb2
      have lb3 : bH < wr.heap.size := (Array.getElem?_eq_some_iff.1 HB3.out).1
      have hcb3 := fun j => cell_of_row wr _ j _ _ _ HB3.out
      by_cases h0 : 0 < k
      · obtain ⟨p, hp⟩ : ∃ p, p = (k - 1) / 2 := ⟨_, rfl⟩
        have HP := Lib.hid hp
        obtain ⟨y, hy⟩ : ∃ y, Lc[k]? = some y := ⟨_, List.getElem?_eq_getElem (by omega)⟩
        obtain ⟨z, hz⟩ : ∃ z, Lc[p]? = some z := ⟨_, List.getElem?_eq_getElem (by omega)⟩
        have HY := Lib.hid hy
        have HZ := Lib.hid hz
        have hcell : ∀ j u, (Lc.flatMap Hd.cs)[j]? = some u → wr.cell? ⟨g, j, none⟩ = some u := fun j u hj => by
          have := HO3.out.cells (g := g) rfl j u hj
          rwa [show (⟨g, 0, none⟩ : Addr).add j = ⟨g, j, none⟩ by unfold Addr.add; split <;> simp_all] at this
        have HYC := Lib.hid (hd_cells hcell hy)
        have HZC := Lib.hid (hd_cells hcell hz)
        have lg3 : g < wr.heap.size := by
          have := (hd_cells hcell hy).1
          exact World.block_lt_of_cell? wr _ this
        clear hy hz hcell
        have e0 : (0 : Int) < (k : Int) := by omega
        have e1 : ((k - 1 : Nat) : Int) / 2 = (p : Int) := by omega
        have e4 : ((k : Int) - 1) / 2 = (p : Int) := by omega
        have p0 : (0 : Int) ≤ (p : Int) := by omega
        have p1 : (p : Int) < (L.length : Int) + 1 := by omega
        have k0 : (0 : Int) ≤ (k : Int) := by omega
        have k1 : (k : Int) < (L.length : Int) + 1 := by omega
        have hpk : p < k := by omega
        clear hp
        have e2 : (0 : Int) ≤ (k : Int) - 1 := by omega
        have e3 : (k : Int) ≤ 100000 := by omega
        go_wp2_with fail
        refine (ahead_int bH g (L.length + 1) (x.n + 1) cap k p y z wr HB3.out HYC.out HZC.out (by omega) (by omega) lg3 (by omega)).mono ?_
        rintro e w4 ⟨rfl, hx4⟩
        have HB4 := Lib.hid (heap_ext HB3.out hx4)
        have HO4 := Lib.hid (own_ext HO3.out hx4)
        have HK4 := Lib.hid (HK3.out.ext hx4)
        have HYC4 := Lib.hid (show w4.cell? ⟨g, k * 4, none⟩ = some (.int .i64 y.a) ∧ w4.cell? ⟨g, k * 4 + 1, none⟩ = some (.int .i64 y.o) ∧ w4.cell? ⟨g, k * 4 + 2, none⟩ = some (.int .i64 y.i) ∧ w4.cell? ⟨g, k * 4 + 3, none⟩ = some (.int .i64 y.n) from
          ⟨cell_keep HYC.out.1 hx4, cell_keep HYC.out.2.1 hx4, cell_keep HYC.out.2.2.1 hx4, cell_keep HYC.out.2.2.2 hx4⟩)
        have HZC4 := Lib.hid (show w4.cell? ⟨g, p * 4, none⟩ = some (.int .i64 z.a) ∧ w4.cell? ⟨g, p * 4 + 1, none⟩ = some (.int .i64 z.o) ∧ w4.cell? ⟨g, p * 4 + 2, none⟩ = some (.int .i64 z.i) ∧ w4.cell? ⟨g, p * 4 + 3, none⟩ = some (.int .i64 z.n) from
          ⟨cell_keep HZC.out.1 hx4, cell_keep HZC.out.2.1 hx4, cell_keep HZC.out.2.2.1 hx4, cell_keep HZC.out.2.2.2 hx4⟩)
        have lg4 : g < w4.heap.size := Nat.lt_of_lt_of_le lg3 hx4.size
        clear hx4 HB3 HO3 HK3 HYC HZC lb3 hcb3 lg3
        have lb4 : bH < w4.heap.size := (Array.getElem?_eq_some_iff.1 HB4.out).1
        have hcb4 := fun j => cell_of_row w4 _ j _ _ _ HB4.out
        rcases hab : aheadH y z
        · go_wp2_with fail
          have hR : upH L.length (L ++ [x]) L.length = Lc := by
            rw [← HUP.out]
            exact upH_stop (fun a b ha hb _ => by rw [HY.out] at ha; rw [← HP.out, HZ.out] at hb; cases ha; cases hb; exact hab)
          refine ⟨rfl, .tuple #[], by simp [results, go_sem], rfl, .slice (some ⟨g, 0, none⟩) (L.length + 1) cap, ⟨HB4.out, ?_⟩, HK4.out, fun q hq => hr1 q hq⟩
          rw [hR, hLc]
          exact HO4.out
        · go_wp2_with fail
          have w1 : IntKind.i64.wrap ((k : Int) - 1) = (k : Int) - 1 := IntWalk.i64_in _ (by omega)
          refine wp_region_pair (af := ?af3) [true, true, true, true, true, true, true, true, true, true, true, true, true, true, true, true, true, true, true, true, false, true, true, true, true, true, true, false, false, false, false, false] [true, true, true, true, true, true, true, true, true, true, true, true, true, true, true, true, true, true, true, true, true, true, true, true, true, true, true, true, false, false, false, false] 78 20 27 (fun w' => w4.grownBy w' (some g)) (by kernel_rfl) rfl (by kernel_rfl) (fun _ _ h e => but_ext h e) (but_ext (but_refl g w4) (Ext.refl w4).drew) ?q (.agg #[.int .i64 z.a, .int .i64 z.o, .int .i64 z.i, .int .i64 z.n]) (.agg #[.int .i64 y.a, .int .i64 y.o, .int .i64 y.i, .int .i64 y.n]) _ _ rfl rfl ?y1 ?y2 ?r
          case q =>
            intro w' hw'
            obtain ⟨s, rfl⟩ : ∃ s : ButOf g w4, w' = s.val := ⟨⟨w', hw'⟩, rfl⟩
            simp only [pickT, if_true, if_false, Bool.false_eq_true]
            repeat (go_big_quiet_step (fail))
            exact rfl
          case y1 => exact yieldsE_load rfl 127 _ rfl g (p * 4) rfl z.cs _ (fun w' e => range_four HZC4.out ((Ext.refl w4).drew.trans e)) Try.underlying127 rfl (info_four z)
          case y2 => exact yieldsE_load rfl 127 _ rfl g (k * 4) rfl y.cs _ (fun w' e => range_four HYC4.out ((Ext.refl w4).drew.trans e)) Try.underlying127 rfl (info_four y)
          case r =>
            simp only [pickF, if_true, if_false, Bool.false_eq_true]
            intro x1
            have e1 : Ext w4 x1.val := (Ext.refl _).drew.val x1
            go_wp2_with fail
            refine ⟨but_ext (but_refl g w4) e1, ?_⟩
            intro x2
            have e2 : Ext w4 x2.val := e1.val x2
            go_wp2_with (refine wpList_store_mid rfl 127 _ _ rfl g (k * 4) #[.int .i64 z.a, .int .i64 z.o, .int .i64 z.i, .int .i64 z.n] rfl rfl (own_there (own_ext HO4.out e2) (by omega)) (info_four z) (by simp [Value.oneCell']) (unHd ?_))
            have c2 : w4.grownBy (x2.val.setCells g (k * 4) z.cs) (some g) := but_puts (but_ext (but_refl g w4) e2) _ _
            have o2 := own_put (own_ext HO4.out e2) (show k < L.length + 1 by omega) z
            have b2 : (x2.val.setCells g (k * 4) z.cs).heap[bH]? = some (.cells #[.func (.func 43) #[] #[], .slice (some ⟨g, 0, none⟩) (L.length + 1) cap, .int .i64 (x.n + 1)] 115 (0, 0)) := (puts_other hne).trans (heap_ext HB4.out e2)
            have kk2 : Keeps (bH :: rowB v) w (x2.val.setCells g (k * 4) z.cs) := (HK4.out.ext e2).put ((hr1 g (.head _)).imp (List.mem_cons_of_mem _) id) _ _
            change Hd2 (wpList _ _ _ _ _ (x2.val.setCells g (k * 4) z.cs))
            generalize x2.val.setCells g (k * 4) z.cs = w5 at c2 o2 b2 kk2 ⊢
            unfold Hd2
            go_wp2_with fail
            try refine ⟨c2, ?_⟩
            intro x3
            go_wp2_with fail
            try refine ⟨but_ext c2 x3.ext, ?_⟩
            intro x4
            have e4 : Ext w5 x4.val := x3.ext.trans x4.ext
            go_wp2_with (refine wpList_store_mid rfl 127 _ _ rfl g (p * 4) #[.int .i64 y.a, .int .i64 y.o, .int .i64 y.i, .int .i64 y.n] rfl rfl (own_there (own_ext o2 e4) (by omega)) (info_four y) (by simp [Value.oneCell']) (unHd ?_))
            have c4 : w4.grownBy (x4.val.setCells g (p * 4) y.cs) (some g) := but_puts (but_ext c2 e4) _ _
            have o4 := own_put (own_ext o2 e4) (show p < L.length + 1 by omega) y
            have b4 : (x4.val.setCells g (p * 4) y.cs).heap[bH]? = some (.cells #[.func (.func 43) #[] #[], .slice (some ⟨g, 0, none⟩) (L.length + 1) cap, .int .i64 (x.n + 1)] 115 (0, 0)) := (puts_other hne).trans (heap_ext b2 e4)
            have kk4 : Keeps (bH :: rowB v) w (x4.val.setCells g (p * 4) y.cs) := (kk2.ext e4).put ((hr1 g (.head _)).imp (List.mem_cons_of_mem _) id) _ _
            change Hd2 (wpList _ _ _ _ _ (x4.val.setCells g (p * 4) y.cs))
            generalize x4.val.setCells g (p * 4) y.cs = w6 at c4 o4 b4 kk4 ⊢
            unfold Hd2
            go_wp2_with fail
            try refine ⟨c4, ?_⟩
            intro x5
            rw [← swapH_eq HY.out HZ.out] at o4
            have HB6 := Lib.hid (heap_ext b4 x5.ext)
            have HO6 := Lib.hid (own_ext o4 x5.ext)
            have HK6 := Lib.hid (kk4.ext x5.ext)
            clear c2 o2 b2 kk2 c4 o4 b4 kk4 hcb4
            go_wp2_with fail
            have hgo := upH_go HY.out (show Lc[(k - 1) / 2]? = some z by rw [← HP.out]; exact HZ.out) h0 hab hkf
            rw [← HP.out] at hgo
            have e5 : ((k : Int) - 1) / 2 = (p : Int) := by have := HP.out; omega
            rw [e5]
            exact ⟨⟨p, f - 1, swapH Lc k p, rfl, by omega, by omega, by rw [swapH_length]; exact hLc, Lib.hid (hgo.symm.trans HUP.out), HB6, HO6, HK6⟩, by simp [intOf]; omega⟩
      · go_wp2_with fail
        have hR : upH L.length (L ++ [x]) L.length = Lc := by
          rw [← HUP.out]
          exact upH_stop (fun a b ha hb hc => absurd hc h0)
        refine ⟨rfl, .tuple #[], by simp [results, go_sem], rfl, .slice (some ⟨g, 0, none⟩) (L.length + 1) cap, ⟨HB3.out, ?_⟩, HK3.out, fun q hq => hr1 q hq⟩
        rw [hR, hLc]
        exact HO3.out

set_option maxRecDepth 100000 in
set_option maxHeartbeats 8000000 in
theorem push_int64 (B bH : Nat) (v : Value) (L : List Hd) (x : Hd) (w : World) (hH : HeapW B bH 39 v L x.n w) (hB : bH < B) (hBw : B ≤ w.heap.size) (hL : L.length ≤ 100000) (hm : 0 ≤ x.n ∧ x.n ≤ 100000) :
    Calls Try.prog 61 #[.pointer (some ⟨bH, 0, none⟩), .agg #[.int .i64 x.a, .int .i64 x.o, .int .i64 x.i]] w (Pushed B bH 39 v L x w) := by
  obtain ⟨ti0, hi, hz0, hz1, hz2⟩ := info_parts info_hd
  obtain ⟨hb, hown⟩ := hH
  obtain ⟨hm0, hm1⟩ := hm
  have lb : bH < w.heap.size := (Array.getElem?_eq_some_iff.1 hb).1
  have hcb := fun j => cell_of_row w _ j _ _ _ hb
  have HHB := Lib.hid hb
  have HO := Lib.hid hown
  clear hb hown
  go_enter Try.func61, Try.ntmps61
  go_upto_region 2 with fail
  go_cut [] (fun wx => Hid (Laid B bH 39 v L x w wx))
  case first =>
    obtain ⟨w1, hw1⟩ : ∃ w1, w1 = w.alloc (.cells #[.int .i64 x.a, .int .i64 x.o, .int .i64 x.i] 78) := ⟨_, rfl⟩
    have hx1 : Ext w w1 := by rw [hw1]; exact (Ext.refl _).alloc _
    have hbox : w1.heap[w.heap.size]? = some (.cells #[.int .i64 x.a, .int .i64 x.o, .int .i64 x.i] 78 (0, 0)) := by rw [hw1]; exact heap_new rfl
    have hb1 := heap_ext HHB.out hx1
    rw [← hw1]
    clear hw1 hcb
    have hcb := fun j => cell_of_row w1 _ j _ _ _ hb1
    have hcx := fun j => cell_of_row w1 _ j _ _ _ hbox
    have lb1 : bH < w1.heap.size := (Array.getElem?_eq_some_iff.1 hb1).1
    have lx1 : w.heap.size < w1.heap.size := (Array.getElem?_eq_some_iff.1 hbox).1
    have HB1 := Lib.hid hb1
    have HX1 := Lib.hid hx1
    clear hbox hb1 hx1
    rcases HO.out.2 with ⟨hv, hn⟩ | ⟨g, cap, cur, hv, hbg, hg, hnc, hcm, hcs, htk⟩
    · subst hv
      obtain rfl : L = [] := List.length_eq_zero_iff.1 hn
      refine wp_region_late (af := ?af1) [true, true, true, true, true, true, true, true, true, true, true, false, false, false, false, false] [false, false, false, false, false, false, false, false, false, false, false, false, false, true, true, true] 78 (fun w' => w1.grownBy w' none) (by kernel_rfl) rfl (by kernel_rfl) (fun _ _ h e => non_ext h e) (non_of (Ext.refl w1).drew) ?q ?r
      case q =>
        intro w' hw'
        obtain ⟨y, rfl⟩ : ∃ y : ExtOf w1, w' = y.val := ⟨⟨w', ext_grown hw'⟩, rfl⟩
        simp only [pickT, if_true, if_false, Bool.false_eq_true]
        repeat (go_big_quiet_step (fail))
        exact rfl
      case r =>
        simp only [pickN, if_true, if_false, Bool.false_eq_true]
        intro x1
        have e1 : Ext w1 x1.val := (Ext.refl _).drew.val x1
        go_wp2_with fail
        refine ⟨fun _ => non_of (e1.alloc _), ?_⟩
        intro x2
        have e2 : Ext w1 x2.val := (e1.alloc _).val x2
        go_wp2_with (at_builtin; refine unHd ?_)
        unfold Hd2
        have hbx2 : B ≤ x2.val.heap.size := by have := HX1.out.size; have := e2.size; omega
        refine wpList_app5 B 113 127 ti0 _ 4 32 Try.underlying113 hi hz0 hz1 hz2 rfl (by decide) rfl _ _ rfl _ 0 _ rfl (own_ext HO.out (HX1.out.trans e2)) hbx2 x1.val.heap.size 1 1 #[.int .i64 x.a, .int .i64 x.o, .int .i64 x.i, .int .i64 x.n] (by decide) rfl (heap_ext (heap_new rfl) x2.ext) rfl (by simp [Value.oneCell']) (by unfold maxLen; omega) (by omega) ?_
        intro v2 w2 hown2 hg2 hr2
        obtain ⟨g2, cap2, rfl⟩ : ∃ g2 cap2, v2 = .slice (some ⟨g2, 0, none⟩) (0 + 1) cap2 := by
          rcases hown2.2 with ⟨_, h0⟩ | ⟨g2, cap2, _, h0, _⟩
          · omega
          · exact ⟨g2, cap2, h0⟩
        have c2 : w1.grownBy w2 none := but_trans (non_of e2) hg2
        refine ⟨c2, ?_⟩
        intro x3
        go_wp2_with fail
        try refine ⟨fun h => absurd h (by decide), ?_⟩
        intro x4
        go_wp2_with fail
        try refine ⟨fun h => absurd h (by decide), ?_⟩
        intro x5
        have c5 : w1.grownBy x5.val none := non_ext c2 ((x3.ext.trans x4.ext).trans x5.ext)
        have hb5 : x5.val.heap[bH]? = some (.cells #[.func (.func 39) #[] #[], .slice none 0 0, .int .i64 x.n] 115 (0, 0)) := (c5.block bH lb1 (by simp)).trans HB1.out
        have o5 := own_ext hown2 ((x3.ext.trans x4.ext).trans x5.ext)
        have hcb5 := fun j => cell_of_row x5.val _ j _ _ _ hb5
        have hfb5 := fun j => frozen_of_row x5.val _ j _ _ hb5
        generalize x5.val = w5 at c5 hb5 o5 hcb5 hfb5 ⊢
        have HB5 := Lib.hid hb5
        clear hb5
        go_wp2_with fail
        try refine ⟨fun h => absurd h (by decide), ?_⟩
        intro x6
        go_wp2_with fail
        go_meet
        refine Lib.hid ⟨.slice (some ⟨g2, 0, none⟩) (0 + 1) cap2, ⟨by simpa using heap_ext (setCell_row HB5.out _) x6.ext, ?_⟩, ?_, fun k hk => (hr2 k hk).imp id (fun h => by have := HX1.out.size; have := e2.size; omega)⟩
        · have := own_ext (own_same o5 (fun k hk _ => cell_other (o := 1) (v := .slice (some ⟨g2, 0, none⟩) (0 + 1) cap2) (show k ≠ bH by omega))) x6.ext
          simpa [Hd.cs] using this
        · exact ((keeps_grown ((Keeps.refl _ w).ext HX1.out) (v := .slice none 0 0) c5 (fun _ h => List.mem_cons_of_mem _ h)).setCell (.inl (.head _)) 1 _).ext x6.ext
    · subst hv
      have lg : g < w.heap.size := (Array.getElem?_eq_some_iff.1 hg).1
      have lbg : bH < g := by omega
      clear hg hnc hcm hcs htk
      refine wp_region_late (af := ?af2) [true, true, true, true, true, true, true, true, true, true, true, false, false, false, false, false] [false, false, false, false, false, false, false, false, false, false, false, false, false, true, true, true] 78 (fun w' => w1.grownBy w' (some g)) (by kernel_rfl) rfl (by kernel_rfl) (fun _ _ h e => but_ext h e) (but_ext (but_refl g w1) (Ext.refl w1).drew) ?q ?r
      case q =>
        intro w' hw'
        obtain ⟨y, rfl⟩ : ∃ y : ButOf g w1, w' = y.val := ⟨⟨w', hw'⟩, rfl⟩
        simp only [pickT, if_true, if_false, Bool.false_eq_true]
        repeat (go_big_quiet_step (fail))
        exact rfl
      case r =>
        simp only [pickN, if_true, if_false, Bool.false_eq_true]
        intro x1
        have e1 : Ext w1 x1.val := (Ext.refl _).drew.val x1
        go_wp2_with fail
        refine ⟨fun _ => but_ext (but_refl g w1) (e1.alloc _), ?_⟩
        intro x2
        have e2 : Ext w1 x2.val := (e1.alloc _).val x2
        go_wp2_with (at_builtin; refine unHd ?_)
        unfold Hd2
        have hbx2 : B ≤ x2.val.heap.size := by have := HX1.out.size; have := e2.size; omega
        refine wpList_app5 B 113 127 ti0 _ 4 32 Try.underlying113 hi hz0 hz1 hz2 rfl (by decide) rfl _ _ rfl _ L.length _ rfl (own_ext HO.out (HX1.out.trans e2)) hbx2 x1.val.heap.size 1 1 #[.int .i64 x.a, .int .i64 x.o, .int .i64 x.i, .int .i64 x.n] (by decide) rfl (heap_ext (heap_new rfl) x2.ext) rfl (by simp [Value.oneCell']) (by unfold maxLen; omega) (by omega) ?_
        intro v2 w2 hown2 hg2 hr2
        obtain ⟨g2, cap2, rfl⟩ : ∃ g2 cap2, v2 = .slice (some ⟨g2, 0, none⟩) (L.length + 1) cap2 := by
          rcases hown2.2 with ⟨_, h0⟩ | ⟨g2, cap2, _, h0, _⟩
          · omega
          · exact ⟨g2, cap2, h0⟩
        have c2 : w1.grownBy w2 (some g) := but_trans (but_ext (but_refl g w1) e2) hg2
        refine ⟨c2, ?_⟩
        intro x3
        go_wp2_with fail
        try refine ⟨fun h => absurd h (by decide), ?_⟩
        intro x4
        go_wp2_with fail
        try refine ⟨fun h => absurd h (by decide), ?_⟩
        intro x5
        have c5 : w1.grownBy x5.val (some g) := but_ext c2 ((x3.ext.trans x4.ext).trans x5.ext)
        have hb5 : x5.val.heap[bH]? = some (.cells #[.func (.func 39) #[] #[], .slice (some ⟨g, 0, none⟩) L.length cap, .int .i64 x.n] 115 (0, 0)) := (c5.block bH lb1 (by simp; omega)).trans HB1.out
        have o5 := own_ext hown2 ((x3.ext.trans x4.ext).trans x5.ext)
        have hcb5 := fun j => cell_of_row x5.val _ j _ _ _ hb5
        have hfb5 := fun j => frozen_of_row x5.val _ j _ _ hb5
        generalize x5.val = w5 at c5 hb5 o5 hcb5 hfb5 ⊢
        have HB5 := Lib.hid hb5
        clear hb5
        go_wp2_with fail
        try refine ⟨fun h => absurd h (by decide), ?_⟩
        intro x6
        go_wp2_with fail
        go_meet
        refine Lib.hid ⟨.slice (some ⟨g2, 0, none⟩) (L.length + 1) cap2, ⟨by simpa using heap_ext (setCell_row HB5.out _) x6.ext, ?_⟩, ?_, fun k hk => (hr2 k hk).imp id (fun h => by have := HX1.out.size; have := e2.size; omega)⟩
        · have := own_ext (own_same o5 (fun k hk _ => cell_other (o := 1) (v := .slice (some ⟨g2, 0, none⟩) (L.length + 1) cap2) (show k ≠ bH by omega))) x6.ext
          simpa [Hd.cs] using this
        · exact ((keeps_grown ((Keeps.refl _ w).ext HX1.out) (v := .slice (some ⟨g, 0, none⟩) L.length cap) c5 (fun _ h => List.mem_cons_of_mem _ h)).setCell (.inl (.head _)) 1 _).ext x6.ext
  case rest =>
    obtain ⟨v', ⟨hb1, hown1⟩, hk1, hr1⟩ := hcut.out
    obtain ⟨g, cap, rfl⟩ : ∃ g cap, v' = .slice (some ⟨g, 0, none⟩) (L.length + 1) cap := by
      rcases hown1.2 with ⟨_, h0⟩ | ⟨g2, cap2, _, h0, _⟩
      · simp at h0
      · rw [List.length_append] at h0
        exact ⟨g2, cap2, h0⟩
    have hgB : B ≤ g := by
      rcases hown1.2 with ⟨h0, _⟩ | ⟨g2, cap2, _, h0, hb, _⟩
      · cases h0
      · simp only [Value.slice.injEq, Option.some.injEq, Addr.mk.injEq] at h0
        rw [h0.1.1]; exact hb
    clear hcut hcb
    have lb1 : bH < wc.heap.size := (Array.getElem?_eq_some_iff.1 hb1).1
    have hcb1 := fun j => cell_of_row wc _ j _ _ _ hb1
    have hfb1 := fun j => frozen_of_row wc _ j _ _ hb1
    have hne : bH ≠ g := by omega
    have lbg : bH < g := by omega
    have hm2 : 0 ≤ x.n + 1 := by omega
    -- behind the count
    have hb2 : (wc.setCell ⟨bH, 2, none⟩ (.int .i64 (x.n + 1))).heap[bH]? = some (.cells #[.func (.func 39) #[] #[], .slice (some ⟨g, 0, none⟩) (L.length + 1) cap, .int .i64 (x.n + 1)] 115 (0, 0)) := by simpa using setCell_row (o := 2) hb1 (.int .i64 (x.n + 1))
    have o2 := own_same hown1 (w' := wc.setCell ⟨bH, 2, none⟩ (.int .i64 (x.n + 1))) (fun k hk _ => cell_other (show k ≠ bH by omega))
    have k2 := hk1.setCell (g := bH) (.inl (.head _)) 2 (.int .i64 (x.n + 1))
    have HB2 := Lib.hid hb2
    have HO2 := Lib.hid o2
    have HK2 := Lib.hid k2
    clear hb1 hown1 hk1 hb2 o2 k2
    rw [show (L ++ [x]).length = L.length + 1 by simp] at HO2
    go_upto_region 4 with fail
    generalize hW : wc.setCell ⟨bH, 2, none⟩ (.int .i64 (x.n + 1)) = w2 at HB2 HO2 HK2 ⊢
    have hcb2 := fun j => cell_of_row w2 _ j _ _ _ HB2.out
    have lb2 : bH < w2.heap.size := (Array.getElem?_eq_some_iff.1 HB2.out).1
    clear hW hcb1 hfb1 lb1
    go_wp2_with fail
    go_loopw [4] (fun si wr => ∃ (k f : Nat) (Lc : List Hd), si = .int .i64 k ∧ k ≤ L.length ∧ k ≤ f ∧ Lc.length = L.length + 1 ∧ Hid (upH f Lc k = upH L.length (L ++ [x]) L.length) ∧
        Hid (wr.heap[bH]? = some (.cells #[.func (.func 39) #[] #[], .slice (some ⟨g, 0, none⟩) (L.length + 1) cap, .int .i64 (x.n + 1)] 115 (0, 0))) ∧
        Hid (wr.ownsRow B 127 4 (.slice (some ⟨g, 0, none⟩) (L.length + 1) cap) (L.length + 1) (Lc.flatMap Hd.cs)) ∧ Hid (Keeps (bH :: rowB v) w wr)) (fun si _ => (intOf si).toNat)
    case atStart => exact ⟨L.length, L.length, L ++ [x], rfl, Nat.le_refl _, Nat.le_refl _, by simp, rfl, HB2, HO2, HK2⟩
    case round =>
      obtain ⟨k, f, Lc, rfl, hkL, hkf, hLc, HUP, HB3, HO3, HK3⟩ := hrel
      rename_i wr
      clear HB2 HO2 HK2 hcb2 lb2
      have lb3 : bH < wr.heap.size := (Array.getElem?_eq_some_iff.1 HB3.out).1
      have hcb3 := fun j => cell_of_row wr _ j _ _ _ HB3.out
      by_cases h0 : 0 < k
      · obtain ⟨p, hp⟩ : ∃ p, p = (k - 1) / 2 := ⟨_, rfl⟩
        have HP := Lib.hid hp
        obtain ⟨y, hy⟩ : ∃ y, Lc[k]? = some y := ⟨_, List.getElem?_eq_getElem (by omega)⟩
        obtain ⟨z, hz⟩ : ∃ z, Lc[p]? = some z := ⟨_, List.getElem?_eq_getElem (by omega)⟩
        have HY := Lib.hid hy
        have HZ := Lib.hid hz
        have hcell : ∀ j u, (Lc.flatMap Hd.cs)[j]? = some u → wr.cell? ⟨g, j, none⟩ = some u := fun j u hj => by
          have := HO3.out.cells (g := g) rfl j u hj
          rwa [show (⟨g, 0, none⟩ : Addr).add j = ⟨g, j, none⟩ by unfold Addr.add; split <;> simp_all] at this
        have HYC := Lib.hid (hd_cells hcell hy)
        have HZC := Lib.hid (hd_cells hcell hz)
        have lg3 : g < wr.heap.size := by
          have := (hd_cells hcell hy).1
          exact World.block_lt_of_cell? wr _ this
        clear hy hz hcell
        have e0 : (0 : Int) < (k : Int) := by omega
        have e1 : ((k - 1 : Nat) : Int) / 2 = (p : Int) := by omega
        have e4 : ((k : Int) - 1) / 2 = (p : Int) := by omega
        have p0 : (0 : Int) ≤ (p : Int) := by omega
        have p1 : (p : Int) < (L.length : Int) + 1 := by omega
        have k0 : (0 : Int) ≤ (k : Int) := by omega
        have k1 : (k : Int) < (L.length : Int) + 1 := by omega
        have hpk : p < k := by omega
        clear hp
        have e2 : (0 : Int) ≤ (k : Int) - 1 := by omega
        have e3 : (k : Int) ≤ 100000 := by omega
        go_wp2_with fail
        refine (ahead_int64 bH g (L.length + 1) (x.n + 1) cap k p y z wr HB3.out HYC.out HZC.out (by omega) (by omega) lg3 (by omega)).mono ?_
        rintro e w4 ⟨rfl, hx4⟩
        have HB4 := Lib.hid (heap_ext HB3.out hx4)
        have HO4 := Lib.hid (own_ext HO3.out hx4)
        have HK4 := Lib.hid (HK3.out.ext hx4)
        have HYC4 := Lib.hid (show w4.cell? ⟨g, k * 4, none⟩ = some (.int .i64 y.a) ∧ w4.cell? ⟨g, k * 4 + 1, none⟩ = some (.int .i64 y.o) ∧ w4.cell? ⟨g, k * 4 + 2, none⟩ = some (.int .i64 y.i) ∧ w4.cell? ⟨g, k * 4 + 3, none⟩ = some (.int .i64 y.n) from
          ⟨cell_keep HYC.out.1 hx4, cell_keep HYC.out.2.1 hx4, cell_keep HYC.out.2.2.1 hx4, cell_keep HYC.out.2.2.2 hx4⟩)
        have HZC4 := Lib.hid (show w4.cell? ⟨g, p * 4, none⟩ = some (.int .i64 z.a) ∧ w4.cell? ⟨g, p * 4 + 1, none⟩ = some (.int .i64 z.o) ∧ w4.cell? ⟨g, p * 4 + 2, none⟩ = some (.int .i64 z.i) ∧ w4.cell? ⟨g, p * 4 + 3, none⟩ = some (.int .i64 z.n) from
          ⟨cell_keep HZC.out.1 hx4, cell_keep HZC.out.2.1 hx4, cell_keep HZC.out.2.2.1 hx4, cell_keep HZC.out.2.2.2 hx4⟩)
        have lg4 : g < w4.heap.size := Nat.lt_of_lt_of_le lg3 hx4.size
        clear hx4 HB3 HO3 HK3 HYC HZC lb3 hcb3 lg3
        have lb4 : bH < w4.heap.size := (Array.getElem?_eq_some_iff.1 HB4.out).1
        have hcb4 := fun j => cell_of_row w4 _ j _ _ _ HB4.out
        rcases hab : aheadH y z
        · go_wp2_with fail
          have hR : upH L.length (L ++ [x]) L.length = Lc := by
            rw [← HUP.out]
            exact upH_stop (fun a b ha hb _ => by rw [HY.out] at ha; rw [← HP.out, HZ.out] at hb; cases ha; cases hb; exact hab)
          refine ⟨rfl, .tuple #[], by simp [results, go_sem], rfl, .slice (some ⟨g, 0, none⟩) (L.length + 1) cap, ⟨HB4.out, ?_⟩, HK4.out, fun q hq => hr1 q hq⟩
          rw [hR, hLc]
          exact HO4.out
        · go_wp2_with fail
          have w1 : IntKind.i64.wrap ((k : Int) - 1) = (k : Int) - 1 := IntWalk.i64_in _ (by omega)
          refine wp_region_pair (af := ?af3) [true, true, true, true, true, true, true, true, true, true, true, true, true, true, true, true, true, true, true, true, false, true, true, true, true, true, true, false, false, false, false, false] [true, true, true, true, true, true, true, true, true, true, true, true, true, true, true, true, true, true, true, true, true, true, true, true, true, true, true, true, false, false, false, false] 78 20 27 (fun w' => w4.grownBy w' (some g)) (by kernel_rfl) rfl (by kernel_rfl) (fun _ _ h e => but_ext h e) (but_ext (but_refl g w4) (Ext.refl w4).drew) ?q (.agg #[.int .i64 z.a, .int .i64 z.o, .int .i64 z.i, .int .i64 z.n]) (.agg #[.int .i64 y.a, .int .i64 y.o, .int .i64 y.i, .int .i64 y.n]) _ _ rfl rfl ?y1 ?y2 ?r
          case q =>
            intro w' hw'
            obtain ⟨s, rfl⟩ : ∃ s : ButOf g w4, w' = s.val := ⟨⟨w', hw'⟩, rfl⟩
            simp only [pickT, if_true, if_false, Bool.false_eq_true]
            repeat (go_big_quiet_step (fail))
            exact rfl
          case y1 => exact yieldsE_load rfl 127 _ rfl g (p * 4) rfl z.cs _ (fun w' e => range_four HZC4.out ((Ext.refl w4).drew.trans e)) Try.underlying127 rfl (info_four z)
          case y2 => exact yieldsE_load rfl 127 _ rfl g (k * 4) rfl y.cs _ (fun w' e => range_four HYC4.out ((Ext.refl w4).drew.trans e)) Try.underlying127 rfl (info_four y)
          case r =>
            simp only [pickF, if_true, if_false, Bool.false_eq_true]
            intro x1
            have e1 : Ext w4 x1.val := (Ext.refl _).drew.val x1
            go_wp2_with fail
            refine ⟨but_ext (but_refl g w4) e1, ?_⟩
            intro x2
            have e2 : Ext w4 x2.val := e1.val x2
            go_wp2_with (refine wpList_store_mid rfl 127 _ _ rfl g (k * 4) #[.int .i64 z.a, .int .i64 z.o, .int .i64 z.i, .int .i64 z.n] rfl rfl (own_there (own_ext HO4.out e2) (by omega)) (info_four z) (by simp [Value.oneCell']) (unHd ?_))
            have c2 : w4.grownBy (x2.val.setCells g (k * 4) z.cs) (some g) := but_puts (but_ext (but_refl g w4) e2) _ _
            have o2 := own_put (own_ext HO4.out e2) (show k < L.length + 1 by omega) z
            have b2 : (x2.val.setCells g (k * 4) z.cs).heap[bH]? = some (.cells #[.func (.func 39) #[] #[], .slice (some ⟨g, 0, none⟩) (L.length + 1) cap, .int .i64 (x.n + 1)] 115 (0, 0)) := (puts_other hne).trans (heap_ext HB4.out e2)
            have kk2 : Keeps (bH :: rowB v) w (x2.val.setCells g (k * 4) z.cs) := (HK4.out.ext e2).put ((hr1 g (.head _)).imp (List.mem_cons_of_mem _) id) _ _
            change Hd2 (wpList _ _ _ _ _ (x2.val.setCells g (k * 4) z.cs))
            generalize x2.val.setCells g (k * 4) z.cs = w5 at c2 o2 b2 kk2 ⊢
            unfold Hd2
            go_wp2_with fail
            try refine ⟨c2, ?_⟩
            intro x3
            go_wp2_with fail
            try refine ⟨but_ext c2 x3.ext, ?_⟩
            intro x4
            have e4 : Ext w5 x4.val := x3.ext.trans x4.ext
            go_wp2_with (refine wpList_store_mid rfl 127 _ _ rfl g (p * 4) #[.int .i64 y.a, .int .i64 y.o, .int .i64 y.i, .int .i64 y.n] rfl rfl (own_there (own_ext o2 e4) (by omega)) (info_four y) (by simp [Value.oneCell']) (unHd ?_))
            have c4 : w4.grownBy (x4.val.setCells g (p * 4) y.cs) (some g) := but_puts (but_ext c2 e4) _ _
            have o4 := own_put (own_ext o2 e4) (show p < L.length + 1 by omega) y
            have b4 : (x4.val.setCells g (p * 4) y.cs).heap[bH]? = some (.cells #[.func (.func 39) #[] #[], .slice (some ⟨g, 0, none⟩) (L.length + 1) cap, .int .i64 (x.n + 1)] 115 (0, 0)) := (puts_other hne).trans (heap_ext b2 e4)
            have kk4 : Keeps (bH :: rowB v) w (x4.val.setCells g (p * 4) y.cs) := (kk2.ext e4).put ((hr1 g (.head _)).imp (List.mem_cons_of_mem _) id) _ _
            change Hd2 (wpList _ _ _ _ _ (x4.val.setCells g (p * 4) y.cs))
            generalize x4.val.setCells g (p * 4) y.cs = w6 at c4 o4 b4 kk4 ⊢
            unfold Hd2
            go_wp2_with fail
            try refine ⟨c4, ?_⟩
            intro x5
            rw [← swapH_eq HY.out HZ.out] at o4
            have HB6 := Lib.hid (heap_ext b4 x5.ext)
            have HO6 := Lib.hid (own_ext o4 x5.ext)
            have HK6 := Lib.hid (kk4.ext x5.ext)
            clear c2 o2 b2 kk2 c4 o4 b4 kk4 hcb4
            go_wp2_with fail
            have hgo := upH_go HY.out (show Lc[(k - 1) / 2]? = some z by rw [← HP.out]; exact HZ.out) h0 hab hkf
            rw [← HP.out] at hgo
            have e5 : ((k : Int) - 1) / 2 = (p : Int) := by have := HP.out; omega
            rw [e5]
            exact ⟨⟨p, f - 1, swapH Lc k p, rfl, by omega, by omega, by rw [swapH_length]; exact hLc, Lib.hid (hgo.symm.trans HUP.out), HB6, HO6, HK6⟩, by simp [intOf]; omega⟩
      · go_wp2_with fail
        have hR : upH L.length (L ++ [x]) L.length = Lc := by
          rw [← HUP.out]
          exact upH_stop (fun a b ha hb hc => absurd hc h0)
        refine ⟨rfl, .tuple #[], by simp [results, go_sem], rfl, .slice (some ⟨g, 0, none⟩) (L.length + 1) cap, ⟨HB3.out, ?_⟩, HK3.out, fun q hq => hr1 q hq⟩
        rw [hR, hLc]
        exact HO3.out
end Go.Proofs.Ytibdplfdmncgiaa
