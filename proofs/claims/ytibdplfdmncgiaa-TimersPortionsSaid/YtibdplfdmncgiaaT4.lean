/-
  Walk: the first thing of the heap of slots is looked at, is taken out. No condition.
-/
import Derived.Test.YtibdplfdmncgiaaT3
set_option linter.all false
namespace Go.Proofs.Ytibdplfdmncgiaa
open Go.RowKit
attribute [local go_sem] ExtOf.cell ExtOf.frozen ExtOf.lt ExtOf.le
attribute [local go_sem high] ExtOf.cell2 ExtOf.frozen2 ExtOf.lt2 ExtOf.cell3 ExtOf.frozen3 ExtOf.lt3 ExtOf.cellX ExtOf.frozenX ExtOf.cellX' ExtOf.frozenX'

theorem info_slot (a b c : Value) : (Try.prog.info? 78).map (·.size) = some (#[a, b, c] : Array Value).size := by
  rw [show (#[a, b, c] : Array Value).size = 3 from rfl]
  kernel_rfl

/-- What a look at the first thing answers. -/
def peekV (L : List Hd) : Value := match L with
  | [] => .tuple #[.agg #[.int .i64 0, .int .i64 0, .int .i64 0], .bool false]
  | x :: _ => .tuple #[.agg #[.int .i64 x.a, .int .i64 x.o, .int .i64 x.i], .bool true]

/-- The thing at i goes down, as far as one below it comes ahead of it. -/
def downH : Nat → List Hd → Nat → List Hd
  | 0, L, _ => L
  | f + 1, L, i => if 2 * i + 1 < L.length then
      match L[i]?, L[2 * i + 1]? with
      | some x, some y =>
        match (if 2 * i + 2 < L.length then L[2 * i + 2]? else none) with
        | some z => if aheadH z y = true then (if aheadH z x = true then downH f (swapH L i (2 * i + 2)) (2 * i + 2) else L) else (if aheadH y x = true then downH f (swapH L i (2 * i + 1)) (2 * i + 1) else L)
        | none => if aheadH y x = true then downH f (swapH L i (2 * i + 1)) (2 * i + 1) else L
      | _, _ => L
    else L

theorem downH_out {f i : Nat} {L : List Hd} (h : ¬ 2 * i + 1 < L.length) : downH f L i = L := by
  cases f with
  | zero => rfl
  | succ f => unfold downH; rw [if_neg h]
/-- The one below i that comes first. -/
def Below2 (L : List Hd) (i k : Nat) (y : Hd) : Prop := 2 * i + 1 < L.length ∧ L[k]? = some y ∧
  ((k = 2 * i + 1 ∧ ∀ z, 2 * i + 2 < L.length → L[2 * i + 2]? = some z → aheadH z y = false) ∨ (k = 2 * i + 2 ∧ 2 * i + 2 < L.length ∧ ∃ u, L[2 * i + 1]? = some u ∧ aheadH y u = true))

theorem downH_step {f i k : Nat} {L : List Hd} {x y : Hd} (hx : L[i]? = some x) (hb : Below2 L i k y) : downH (f + 1) L i = if aheadH y x = true then downH f (swapH L i k) k else L := by
  obtain ⟨h1, hk, hc⟩ := hb
  conv => lhs; unfold downH
  rw [if_pos h1, hx]
  rcases hc with ⟨rfl, hz⟩ | ⟨rfl, h2, u, hu, hyu⟩
  · rw [hk]
    simp only
    by_cases h2 : 2 * i + 2 < L.length
    · obtain ⟨z, hz2⟩ : ∃ z, L[2 * i + 2]? = some z := ⟨_, List.getElem?_eq_getElem h2⟩
      rw [if_pos h2, hz2]
      simp only [hz z h2 hz2, Bool.false_eq_true, if_false]
    · rw [if_neg h2]
  · rw [hu, if_pos h2, hk]
    simp only [hyu, if_true]

theorem own_take {w : World} {B : Nat} {e : TypeId} {g n cap : Nat} {L : List Hd} (h : w.ownsRow B e 4 (.slice (some ⟨g, 0, none⟩) (n + 1) cap) (n + 1) (L.flatMap Hd.cs)) :
    w.ownsRow B e 4 (.slice (some ⟨g, 0, none⟩) n cap) n ((L.take n).flatMap Hd.cs) := by
  obtain ⟨hl, h⟩ := h
  rw [hd_flat] at hl
  refine ⟨by rw [hd_flat, List.length_take]; omega, ?_⟩
  rcases h with ⟨hv, _⟩ | ⟨g', cap', cur, hv, hb, hg, hn, hm, hs, hx⟩
  · cases hv
  · cases hv
    refine .inr ⟨g, cap, cur, rfl, hb, hg, by omega, hm, hs, ?_⟩
    refine List.ext_getElem? fun j => ?_
    by_cases hj : j < n * 4
    · rw [List.getElem?_take_of_lt hj, hd_at, List.getElem?_take_of_lt (by omega), ← hd_at, ← hx, List.getElem?_take_of_lt (by omega)]
    · rw [List.getElem?_eq_none (by simp; omega), List.getElem?_eq_none (by rw [hd_flat, List.length_take]; omega)]

set_option maxRecDepth 100000 in
set_option maxHeartbeats 4000000 in
theorem peek_any (B bH : Nat) (f : FuncId) (v : Value) (L : List Hd) (m : Int) (w : World) (hH : HeapW B bH f v L m w) (hL : L.length ≤ 100000) :
    Calls Try.prog 63 #[.pointer (some ⟨bH, 0, none⟩)] w fun e w' => e = .returned (peekV L) ∧ Ext w w' := by
  obtain ⟨hb, hown⟩ := hH
  have lb : bH < w.heap.size := (Array.getElem?_eq_some_iff.1 hb).1
  obtain ⟨a, cap, rfl, hm, hvw⟩ := own_view hown
  have hcb := fun j => cell_of_row w _ j _ _ _ hb
  have HV := Lib.hid hvw
  clear hvw hown hb
  cases L with
  | nil =>
    go_enter Try.func63, Try.ntmps63
    go_wp2_with (refine wpList_store_row rfl 78 _ _ rfl w.heap.size _ rfl rfl 78 _ (heap_new rfl) (info_slot _ _ _) rfl (by simp [Value.oneCell']) ?_)
    refine bodyPost_ret (results_row_tmp rfl _ _ _ 78 _ (0, 0) _ rfl (setRow_heap _ _ _ _ _ _ (heap_new rfl)) Try.underlying78 rfl (info_slot _ _ _)) rfl ?_
    exact ⟨rfl, ((Ext.refl _).alloc _).setRow (Nat.le_refl _) _⟩
  | cons x L =>
    obtain ⟨g, rfl, hgB, hg, hcell⟩ := HV.out (by simp)
    obtain ⟨x0, x1, x2, x3⟩ := hd_cells hcell (k := 0) (x := x) rfl
    have l0 : (0 : Int) < (L.length : Int) + 1 := by omega
    simp only [Nat.zero_mul] at x0 x1 x2 x3
    clear hcell HV
    go_enter Try.func63, Try.ntmps63
    go_wp2_with (refine wpList_store_row rfl 78 _ _ rfl w.heap.size _ rfl rfl 78 _ (heap_new rfl) (info_slot _ _ _) rfl (by simp [Value.oneCell']) ?_)
    refine bodyPost_ret (results_row_tmp rfl _ _ _ 78 _ (0, 0) _ rfl (setRow_heap _ _ _ _ _ _ (heap_new rfl)) Try.underlying78 rfl (info_slot _ _ _)) rfl ?_
    exact ⟨rfl, ((Ext.refl _).alloc _).setRow (Nat.le_refl _) _⟩

/-- What is behind taking out the first thing. -/
def Popped (B bH : Nat) (f : FuncId) (v : Value) (x : Hd) (R : List Hd) (m : Int) (w : World) : Ending → World → Prop := fun e w' =>
  e = .returned (.tuple #[.agg #[.int .i64 x.a, .int .i64 x.o, .int .i64 x.i], .bool true]) ∧ ∃ v', HeapW B bH f v' R m w' ∧ Keeps (bH :: rowB v) w w' ∧ rowB v' = rowB v

set_option maxRecDepth 100000 in
set_option maxHeartbeats 8000000 in
theorem pop_int (B bH : Nat) (v : Value) (L : List Hd) (n : Nat) (x l : Hd) (m : Int) (w : World) (hH : HeapW B bH 43 v L m w) (hB : bH < B) (hBw : B ≤ w.heap.size) (hn : L.length = n + 1) (hL : n ≤ 100000) (hx : L[0]? = some x) (hl : L[n]? = some l) :
    Calls Try.prog 64 #[.pointer (some ⟨bH, 0, none⟩)] w (Popped B bH 43 v x (downH n ((L.set 0 l).take n) 0) m w) := by
  obtain ⟨hb, hown⟩ := hH
  rw [hn] at hown
  obtain ⟨g, cap, rfl⟩ : ∃ g cap, v = .slice (some ⟨g, 0, none⟩) (n + 1) cap := by
    rcases hown.2 with ⟨_, h0⟩ | ⟨g2, cap2, _, h0, _⟩
    · omega
    · exact ⟨g2, cap2, h0⟩
  have hgB : B ≤ g := by
    rcases hown.2 with ⟨h0, _⟩ | ⟨g2, cap2, _, h0, hb, _⟩
    · cases h0
    · simp only [Value.slice.injEq, Option.some.injEq, Addr.mk.injEq] at h0
      rw [h0.1.1]; exact hb
  have hcell : ∀ j u, (L.flatMap Hd.cs)[j]? = some u → w.cell? ⟨g, j, none⟩ = some u := fun j u hj => by
    have := hown.cells (g := g) rfl j u hj
    rwa [show (⟨g, 0, none⟩ : Addr).add j = ⟨g, j, none⟩ by unfold Addr.add; split <;> simp_all] at this
  have hXC := hd_cells hcell hx
  have hLC := hd_cells hcell hl
  have lg : g < w.heap.size := World.block_lt_of_cell? w _ hXC.1
  have lb : bH < w.heap.size := (Array.getElem?_eq_some_iff.1 hb).1
  have hcb := fun j => cell_of_row w _ j _ _ _ hb
  have HHB := Lib.hid hb
  have HO := Lib.hid hown
  have HLX := Lib.hid hx
  have HLL := Lib.hid hl
  have HN := Lib.hid hn
  have HLC := Lib.hid hLC
  simp only [Nat.zero_mul] at hXC
  obtain ⟨x0, x1, x2, x3⟩ := hXC
  have n0 : (0 : Int) < (n : Int) + 1 := by omega
  have lbg : bH < g := by omega
  clear hb hown hcell hx hl hn hLC
  go_enter Try.func64, Try.ntmps64
  go_wp2_with (refine wpList_store_row rfl 78 _ _ rfl w.heap.size _ rfl rfl 78 _ (heap_new rfl) (info_slot _ _ _) rfl (by simp [Value.oneCell']) (unHd ?_))
  have eX : Ext w ((w.alloc (.cells #[.int .i64 0, .int .i64 0, .int .i64 0] 78)).setRow w.heap.size #[.int .i64 x.a, .int .i64 x.o, .int .i64 x.i]) := ((Ext.refl w).alloc _).setRow (Nat.le_refl _) _
  have eT := setRow_heap _ _ _ #[.int .i64 x.a, .int .i64 x.o, .int .i64 x.i] _ _ (heap_new (w := w) (o := .cells #[.int .i64 0, .int .i64 0, .int .i64 0] 78) rfl)
  generalize World.setRow _ _ _ = w1 at eX eT ⊢
  have HX1 := Lib.hid eX
  have HT1 := Lib.hid eT
  have HB1 := Lib.hid (heap_ext HHB.out eX)
  have HO1 := Lib.hid (own_ext HO.out eX)
  obtain ⟨l0, l1, l2, l3⟩ : w1.cell? ⟨g, n * 4, none⟩ = some (.int .i64 l.a) ∧ w1.cell? ⟨g, n * 4 + 1, none⟩ = some (.int .i64 l.o) ∧ w1.cell? ⟨g, n * 4 + 2, none⟩ = some (.int .i64 l.i) ∧ w1.cell? ⟨g, n * 4 + 3, none⟩ = some (.int .i64 l.n) :=
    ⟨cell_keep HLC.out.1 eX, cell_keep HLC.out.2.1 eX, cell_keep HLC.out.2.2.1 eX, cell_keep HLC.out.2.2.2 eX⟩
  have lg1 : g < w1.heap.size := Nat.lt_of_lt_of_le lg eX.size
  clear eX eT x0 x1 x2 x3 hcb HLC HHB HO
  have lb1 : bH < w1.heap.size := (Array.getElem?_eq_some_iff.1 HB1.out).1
  have hcb1 := fun j => cell_of_row w1 _ j _ _ _ HB1.out
  have n1 : (0 : Int) ≤ (n : Int) := by omega
  have n2 : (n : Int) < (n : Int) + 1 := by omega
  unfold Hd2
  go_upto_region 5 with fail
  go_cut [] (fun wx => Hid (wx.heap[bH]? = some (.cells #[.func (.func 43) #[] #[], .slice (some ⟨g, 0, none⟩) (n + 1) cap, .int .i64 m] 115 (0, 0)) ∧ wx.ownsRow B 127 4 (.slice (some ⟨g, 0, none⟩) (n + 1) cap) (n + 1) ((L.set 0 l).flatMap Hd.cs) ∧ Keeps [bH, g] w wx ∧ wx.heap[w.heap.size]? = some (.cells #[.int .i64 x.a, .int .i64 x.o, .int .i64 x.i] 78 (0, 0))))
  case first =>
    refine wp_region_late (af := ?af1) [true, true, true, true, true, true, true, true, true, true, true, false, false] [false, false, false, false, false, false, false, false, false, false, false, true, true] 111 (Ext w1) (by kernel_rfl) rfl (by kernel_rfl) (fun _ _ h e => Ext.trans h e) (Ext.refl w1).drew ?q ?r
    case q =>
      intro w' hw'
      obtain ⟨y, rfl⟩ := ext_of hw'
      simp only [pickT, if_true, if_false, Bool.false_eq_true]
      repeat (go_big_quiet_step (fail))
      exact rfl
    case r =>
      simp only [pickN, if_true, if_false, Bool.false_eq_true]
      intro y1
      go_wp2_with fail
      try refine ⟨fun h => absurd h (by decide), ?_⟩
      intro y2
      have e2 : Ext w1 y2.val := ((Ext.refl _).drew.val y1).val y2
      go_wp2_with (refine wpList_store_mid rfl 127 _ _ rfl g 0 #[.int .i64 l.a, .int .i64 l.o, .int .i64 l.i, .int .i64 l.n] rfl rfl (by have := own_there (own_ext HO1.out e2) (show 0 < n + 1 by omega); simpa using this) (info_four l) (by simp [Value.oneCell']) (unHd ?_))
      change Hd2 (wpList _ _ _ _ _ (y2.val.setCells g 0 l.cs))
      have o2 := own_put (own_ext HO1.out e2) (show 0 < n + 1 by omega) l
      have b2 : (y2.val.setCells g (0 * 4) l.cs).heap[bH]? = _ := (puts_other (show bH ≠ g by omega)).trans (heap_ext HB1.out e2)
      have t2 : (y2.val.setCells g (0 * 4) l.cs).heap[w.heap.size]? = _ := (puts_other (show w.heap.size ≠ g by omega)).trans (heap_ext HT1.out e2)
      have k2 : Keeps [bH, g] w (y2.val.setCells g (0 * 4) l.cs) := ((Keeps.refl _ w).ext (HX1.out.trans e2)).put (.inl (by simp)) _ _
      rw [Nat.zero_mul] at o2 b2 t2 k2
      generalize y2.val.setCells g 0 l.cs = w2 at o2 b2 t2 k2 ⊢
      unfold Hd2
      go_wp2_with fail
      try refine ⟨fun h => absurd h (by decide), ?_⟩
      intro y3
      go_wp2_with fail
      go_meet
      exact Lib.hid ⟨heap_ext b2 y3.ext, own_ext o2 y3.ext, k2.ext y3.ext, heap_ext t2 y3.ext⟩
  case rest =>
    obtain ⟨hb2, ho2, hk2, ht2⟩ := hcut.out
    clear hcut hcb1 lb1 l0 l1 l2 l3 lg1 HB1 HO1 HT1 HX1
    have hcap : n + 1 ≤ cap := by
      rcases ho2.2 with ⟨h0, _⟩ | ⟨g2, cap2, cur, h0, hb, _, hc, _⟩
      · cases h0
      · simp only [Value.slice.injEq] at h0
        rw [h0.2.2]; exact hc
    have hcap' : (n : Int) ≤ (cap : Int) := by omega
    have lb2 : bH < wc.heap.size := (Array.getElem?_eq_some_iff.1 hb2).1
    have hcb2 := fun j => cell_of_row wc _ j _ _ _ hb2
    have HB2 := Lib.hid hb2
    have HO2 := Lib.hid ho2
    have HK2 := Lib.hid hk2
    have HT2 := Lib.hid ht2
    clear hb2 ho2 hk2 ht2
    go_wp2_with (refine wpList_store_mid rfl 127 _ _ rfl g (n * 4) #[.int .i64 0, .int .i64 0, .int .i64 0, .int .i64 0] rfl rfl (own_there HO2.out (by omega)) (info_four ⟨0, 0, 0, 0⟩) (by simp [Value.oneCell']) (unHd ?_))
    change Hd2 (wpList _ _ _ _ _ (wc.setCells g (n * 4) (Hd.cs ⟨0, 0, 0, 0⟩)))
    have o3 := own_take (own_put HO2.out (show n < n + 1 by omega) ⟨0, 0, 0, 0⟩)
    rw [List.take_set_of_le (Nat.le_refl _)] at o3
    have b3 : (wc.setCells g (n * 4) (Hd.cs ⟨0, 0, 0, 0⟩)).heap[bH]? = _ := (puts_other (show bH ≠ g by omega)).trans HB2.out
    have t3 : (wc.setCells g (n * 4) (Hd.cs ⟨0, 0, 0, 0⟩)).heap[w.heap.size]? = _ := (puts_other (show w.heap.size ≠ g by omega)).trans HT2.out
    have k3 : Keeps [bH, g] w (wc.setCells g (n * 4) (Hd.cs ⟨0, 0, 0, 0⟩)) := HK2.out.put (.inl (by simp)) _ _
    generalize wc.setCells g (n * 4) (Hd.cs ⟨0, 0, 0, 0⟩) = w3 at o3 b3 t3 k3 ⊢
    have lb3 : bH < w3.heap.size := (Array.getElem?_eq_some_iff.1 b3).1
    have hcb3 := fun j => cell_of_row w3 _ j _ _ _ b3
    have hfb3 := fun j => frozen_of_row w3 _ j _ _ b3
    have HB3 := Lib.hid b3
    have HO3 := Lib.hid o3
    have HK3 := Lib.hid k3
    have HT3 := Lib.hid t3
    clear o3 b3 t3 k3 hcb2 lb2 HB2 HO2 HK2 HT2
    unfold Hd2
    go_upto_region 8 with fail
    have b4 : (w3.setCell ⟨bH, 1, none⟩ (.slice (some ⟨g, 0, none⟩) n cap)).heap[bH]? = some (.cells #[.func (.func 43) #[] #[], .slice (some ⟨g, 0, none⟩) n cap, .int .i64 m] 115 (0, 0)) := by simpa using setCell_row (o := 1) HB3.out (.slice (some ⟨g, 0, none⟩) n cap)
    have o4 := own_same HO3.out (w' := w3.setCell ⟨bH, 1, none⟩ (.slice (some ⟨g, 0, none⟩) n cap)) (fun k hk _ => cell_other (show k ≠ bH by omega))
    have k4 := HK3.out.setCell (g := bH) (.inl (by simp)) 1 (.slice (some ⟨g, 0, none⟩) n cap)
    have t4 : (w3.setCell ⟨bH, 1, none⟩ (.slice (some ⟨g, 0, none⟩) n cap)).heap[w.heap.size]? = _ := (cell_other (show w.heap.size ≠ bH by omega)).trans HT3.out
    generalize w3.setCell ⟨bH, 1, none⟩ (.slice (some ⟨g, 0, none⟩) n cap) = w4 at b4 o4 k4 t4 ⊢
    have HB4 := Lib.hid b4
    have HO4 := Lib.hid o4
    have HK4 := Lib.hid k4
    have HT4 := Lib.hid t4
    clear b4 o4 k4 t4 hcb3 hfb3 lb3 HB3 HO3 HK3 HT3
    have HLn : ((L.set 0 l).take n).length = n := by have := HN.out; simp; omega
    have HLN := Lib.hid HLn
    clear HLn
    go_wp2_with fail
    go_loopw [5, 6] (fun si _ wr => ∃ (i f : Nat) (Lc : List Hd), si = .int .i64 i ∧ i ≤ n ∧ n ≤ i + f ∧ Hid (Lc.length = n) ∧ Hid (downH f Lc i = downH n ((L.set 0 l).take n) 0) ∧
        Hid (wr.heap[bH]? = some (.cells #[.func (.func 43) #[] #[], .slice (some ⟨g, 0, none⟩) n cap, .int .i64 m] 115 (0, 0))) ∧ Hid (wr.ownsRow B 127 4 (.slice (some ⟨g, 0, none⟩) n cap) n (Lc.flatMap Hd.cs)) ∧ Hid (Keeps [bH, g] w wr) ∧ Hid (wr.heap[w.heap.size]? = some (.cells #[.int .i64 x.a, .int .i64 x.o, .int .i64 x.i] 78 (0, 0)))) (fun si _ _ => n - (intOf si).toNat)
    case atStart => exact ⟨0, n, _, rfl, Nat.zero_le _, by omega, HLN, Lib.hid rfl, HB4, HO4, HK4, HT4⟩
    case round =>
      obtain ⟨i, f, Lc, rfl, hin, hnf, HLc, HD, HB5, HO5, HK5, HT5⟩ := hrel
      rename_i wr
      clear HB4 HO4 HK4 HT4
      have lb5 : bH < wr.heap.size := (Array.getElem?_eq_some_iff.1 HB5.out).1
      have hcb5 := fun j => cell_of_row wr _ j _ _ _ HB5.out
      by_cases hlt : 2 * i + 1 < n
      · obtain ⟨k1, hk1⟩ : ∃ k1, k1 = 2 * i + 1 := ⟨_, rfl⟩
        obtain ⟨k2, hk2⟩ : ∃ k2, k2 = 2 * i + 2 := ⟨_, rfl⟩
        obtain ⟨xx, hxx⟩ : ∃ y, Lc[i]? = some y := ⟨_, List.getElem?_eq_getElem (by have := HLc.out; omega)⟩
        obtain ⟨y, hy⟩ : ∃ y, Lc[k1]? = some y := ⟨_, List.getElem?_eq_getElem (by have := HLc.out; omega)⟩
        have hcell : ∀ j u, (Lc.flatMap Hd.cs)[j]? = some u → wr.cell? ⟨g, j, none⟩ = some u := fun j u hj => by
          have := HO5.out.cells (g := g) rfl j u hj
          rwa [show (⟨g, 0, none⟩ : Addr).add j = ⟨g, j, none⟩ by unfold Addr.add; split <;> simp_all] at this
        have HCell := Lib.hid hcell
        have HY := Lib.hid hy
        have HXX := Lib.hid hxx
        have HYC := Lib.hid (hd_cells hcell hy)
        have lg5 : g < wr.heap.size := World.block_lt_of_cell? wr _ (hd_cells hcell hy).1
        have e1 : 2 * (i : Int) + 1 = (k1 : Int) := by omega
        have e2 : (k1 : Int) + 1 = (k2 : Int) := by omega
        have HK1 := Lib.hid hk1
        have HK2 := Lib.hid hk2
        have a0 : (0 : Int) ≤ (i : Int) := by omega
        have a1 : (i : Int) ≤ 100000 := by omega
        have a2 : (k1 : Int) < (n : Int) := by omega
        have a3 : (0 : Int) ≤ (k1 : Int) := by omega
        have a4 : (k1 : Int) ≤ 100000 := by omega
        have a5 : (n : Int) ≤ 100000 := by omega
        clear hcell hy hxx hk1 hk2
        go_upto_region 11 with fail
        go_cut [75] (fun s wx => ∃ b : Bool, s = .bool b ∧ Hid (Ext wr wx) ∧ Hid ((b = true → ∃ z, Below2 Lc i k2 z) ∧ (b = false → Below2 Lc i k1 y)))
        case first =>
          by_cases h2 : 2 * i + 2 < n
          · obtain ⟨z, hz⟩ : ∃ z, Lc[k2]? = some z := ⟨_, List.getElem?_eq_getElem (by have := HLc.out; have := HK2.out; omega)⟩
            have HZ := Lib.hid hz
            have HZC := Lib.hid (hd_cells HCell.out hz)
            have a6 : (k2 : Int) < (n : Int) := by have := HK2.out; omega
            clear hz
            go_wp2_with fail
            refine (ahead_int bH g n m cap k2 k1 z y wr HB5.out HZC.out HYC.out (by omega) (by omega) lg5 (by omega)).mono ?_
            rintro e wx ⟨rfl, hx⟩
            go_wp2_with fail
            go_meet
            refine ⟨aheadH z y, rfl, Lib.hid hx, Lib.hid ⟨fun hb => ⟨z, by have := HLc.out; omega, HZ.out, .inr ⟨HK2.out, by have := HLc.out; omega, y, by rw [← HK1.out]; exact HY.out, hb⟩⟩, fun hb => ⟨by have := HLc.out; omega, HY.out, .inl ⟨HK1.out, fun z' _ hz' => ?_⟩⟩⟩⟩
            rw [← HK2.out, HZ.out] at hz'
            cases hz'
            exact hb
          · have a6 : (n : Int) ≤ (k2 : Int) := by have := HK2.out; omega
            have a7 : decide ((k2 : Int) < (n : Int)) = false := decide_eq_false (by omega)
            go_wp2_with fail
            go_meet
            exact ⟨false, rfl, Lib.hid (Ext.refl _), Lib.hid ⟨fun hb => (by cases hb), fun _ => ⟨by have := HLc.out; omega, HY.out, .inl ⟨HK1.out, fun z' h' _ => absurd h' (by have := HLc.out; omega)⟩⟩⟩⟩
        case rest =>
          obtain ⟨b, rfl, HX5, HBB⟩ := hcut
          go_upto_if 75 with fail
          go_cut [6] (fun s wx => ∃ (kk : Nat) (yy : Hd), s = .int .i64 kk ∧ Hid (Ext wr wx) ∧ Hid (Below2 Lc i kk yy))
          case first =>
            cases b
            · have HF := Lib.hid (HBB.out.2 rfl)
              clear HBB
              go_wp2_with fail
              go_meet
              exact ⟨k1, y, rfl, HX5, HF⟩
            · obtain ⟨z, hz⟩ := HBB.out.1 rfl
              have HZ := Lib.hid hz
              clear hz
              go_wp2_with fail
              go_meet
              exact ⟨k2, z, rfl, HX5, HZ⟩
          case rest =>
            clear HX5 HBB
            obtain ⟨kk, yy, rfl, HX6, HBE⟩ := hcut
            have hkk : i < kk ∧ kk < n ∧ Lc[kk]? = some yy := by
              obtain ⟨h1, h2, h3⟩ := HBE.out
              have h4 := (List.getElem?_eq_some_iff.1 h2).1
              rw [HLc.out] at h4
              refine ⟨?_, h4, h2⟩
              rcases h3 with ⟨h3, _⟩ | ⟨h3, _⟩ <;> omega
            obtain ⟨hik, hkn, hyy⟩ := hkk
            have HYY := Lib.hid hyy
            have HYC6 := Lib.hid (show wc.cell? ⟨g, kk * 4, none⟩ = some (.int .i64 yy.a) ∧ wc.cell? ⟨g, kk * 4 + 1, none⟩ = some (.int .i64 yy.o) ∧ wc.cell? ⟨g, kk * 4 + 2, none⟩ = some (.int .i64 yy.i) ∧ wc.cell? ⟨g, kk * 4 + 3, none⟩ = some (.int .i64 yy.n) from
              ⟨cell_keep (hd_cells HCell.out hyy).1 HX6.out, cell_keep (hd_cells HCell.out hyy).2.1 HX6.out, cell_keep (hd_cells HCell.out hyy).2.2.1 HX6.out, cell_keep (hd_cells HCell.out hyy).2.2.2 HX6.out⟩)
            have HXC6 := Lib.hid (show wc.cell? ⟨g, i * 4, none⟩ = some (.int .i64 xx.a) ∧ wc.cell? ⟨g, i * 4 + 1, none⟩ = some (.int .i64 xx.o) ∧ wc.cell? ⟨g, i * 4 + 2, none⟩ = some (.int .i64 xx.i) ∧ wc.cell? ⟨g, i * 4 + 3, none⟩ = some (.int .i64 xx.n) from
              ⟨cell_keep (hd_cells HCell.out HXX.out).1 HX6.out, cell_keep (hd_cells HCell.out HXX.out).2.1 HX6.out, cell_keep (hd_cells HCell.out HXX.out).2.2.1 HX6.out, cell_keep (hd_cells HCell.out HXX.out).2.2.2 HX6.out⟩)
            have lg6 : g < wc.heap.size := Nat.lt_of_lt_of_le lg5 HX6.out.size
            have HB6 := Lib.hid (heap_ext HB5.out HX6.out)
            have HO6 := Lib.hid (own_ext HO5.out HX6.out)
            have HK6 := Lib.hid (HK5.out.ext HX6.out)
            have HT6 := Lib.hid (heap_ext HT5.out HX6.out)
            clear hyy HX6 HB5 HO5 HK5 HT5 HCell HYC lg5 lb5 hcb5 e1 e2 a2 a3 a4
            have lb6 : bH < wc.heap.size := (Array.getElem?_eq_some_iff.1 HB6.out).1
            have hcb6 := fun j => cell_of_row wc _ j _ _ _ HB6.out
            go_wp2_with fail
            refine (ahead_int bH g n m cap kk i yy xx wc HB6.out HYC6.out HXC6.out (by omega) (by omega) lg6 (by omega)).mono ?_
            rintro e w8 ⟨rfl, hx8⟩
            have HYC8 := Lib.hid (show w8.cell? ⟨g, kk * 4, none⟩ = some (.int .i64 yy.a) ∧ w8.cell? ⟨g, kk * 4 + 1, none⟩ = some (.int .i64 yy.o) ∧ w8.cell? ⟨g, kk * 4 + 2, none⟩ = some (.int .i64 yy.i) ∧ w8.cell? ⟨g, kk * 4 + 3, none⟩ = some (.int .i64 yy.n) from ⟨cell_keep HYC6.out.1 hx8, cell_keep HYC6.out.2.1 hx8, cell_keep HYC6.out.2.2.1 hx8, cell_keep HYC6.out.2.2.2 hx8⟩)
            have HXC8 := Lib.hid (show w8.cell? ⟨g, i * 4, none⟩ = some (.int .i64 xx.a) ∧ w8.cell? ⟨g, i * 4 + 1, none⟩ = some (.int .i64 xx.o) ∧ w8.cell? ⟨g, i * 4 + 2, none⟩ = some (.int .i64 xx.i) ∧ w8.cell? ⟨g, i * 4 + 3, none⟩ = some (.int .i64 xx.n) from ⟨cell_keep HXC6.out.1 hx8, cell_keep HXC6.out.2.1 hx8, cell_keep HXC6.out.2.2.1 hx8, cell_keep HXC6.out.2.2.2 hx8⟩)
            have HB8 := Lib.hid (heap_ext HB6.out hx8)
            have HO8 := Lib.hid (own_ext HO6.out hx8)
            have HK8 := Lib.hid (HK6.out.ext hx8)
            have HT8 := Lib.hid (heap_ext HT6.out hx8)
            have lg8 : g < w8.heap.size := Nat.lt_of_lt_of_le lg6 hx8.size
            clear hx8 HB6 HO6 HK6 HT6 HYC6 HXC6 lg6 lb6 hcb6
            have lb8 : bH < w8.heap.size := (Array.getElem?_eq_some_iff.1 HB8.out).1
            have hcb8 := fun j => cell_of_row w8 _ j _ _ _ HB8.out
            obtain ⟨f', rfl⟩ : ∃ f', f = f' + 1 := ⟨f - 1, by omega⟩
            have hstep := downH_step (f := f') HXX.out HBE.out
            have HST := Lib.hid hstep
            clear hstep
            rcases hab : aheadH yy xx
            · have hT8 := HT8.out
              have hct8 := fun j => cell_of_row w8 _ j _ _ _ hT8
              have lt8 : w.heap.size < w8.heap.size := (Array.getElem?_eq_some_iff.1 hT8).1
              clear hT8
              go_wp2_with (refine wpList_store_row rfl 78 _ _ rfl w.heap.size _ rfl rfl 78 _ HT8.out (info_slot _ _ _) rfl (by simp [Value.oneCell']) (unHd ?_))
              have hR : downH n ((L.set 0 l).take n) 0 = Lc := by rw [← HD.out]; exact (by rw [HST.out, hab]; rfl)
              have t6 := setRow_heap _ _ _ #[.int .i64 x.a, .int .i64 x.o, .int .i64 x.i] _ _ HT8.out
              have b6 : (w8.setRow w.heap.size #[.int .i64 x.a, .int .i64 x.o, .int .i64 x.i]).heap[bH]? = _ := (setRow_other w8 w.heap.size bH _ (by omega)).trans HB8.out
              have o6 := own_setRow HO8.out HT8.out (by decide) #[.int .i64 x.a, .int .i64 x.o, .int .i64 x.i]
              have k6 : Keeps [bH, g] w (w8.setRow w.heap.size #[.int .i64 x.a, .int .i64 x.o, .int .i64 x.i]) := HK8.out.setRow (.inr (Nat.le_refl _)) _
              generalize w8.setRow w.heap.size #[.int .i64 x.a, .int .i64 x.o, .int .i64 x.i] = w7 at t6 b6 o6 k6 ⊢
              unfold Hd2
              go_wp2_with fail
              refine bodyPost_ret (results_row_tmp rfl _ _ _ 78 _ (0, 0) _ rfl t6 Try.underlying78 rfl (info_slot _ _ _)) rfl ?_
              refine ⟨rfl, .slice (some ⟨g, 0, none⟩) n cap, ⟨b6, ?_⟩, k6, rfl⟩
              rw [hR, HLc.out]
              exact o6
            · have b0 : (kk : Int) < (n : Int) := by omega
              have b1 : (0 : Int) ≤ (kk : Int) := by omega
              have b2 : (i : Int) < (n : Int) := by omega
              go_wp2_with fail
              refine wp_region_pair (af := ?af3) [true, true, true, true, true, true, true, true, true, true, true, true, true, true, true, true, false, true, true, true, true, true, true, false, false, false, false, false] [true, true, true, true, true, true, true, true, true, true, true, true, true, true, true, true, true, true, true, true, true, true, true, true, false, false, false, false] 111 16 23 (fun w' => w8.grownBy w' (some g)) (by kernel_rfl) rfl (by kernel_rfl) (fun _ _ h e => but_ext h e) (but_ext (but_refl g w8) (Ext.refl w8).drew) ?q (.agg #[.int .i64 yy.a, .int .i64 yy.o, .int .i64 yy.i, .int .i64 yy.n]) (.agg #[.int .i64 xx.a, .int .i64 xx.o, .int .i64 xx.i, .int .i64 xx.n]) _ _ rfl rfl ?y1 ?y2 ?r
              case q =>
                intro w' hw'
                obtain ⟨s, rfl⟩ : ∃ s : ButOf g w8, w' = s.val := ⟨⟨w', hw'⟩, rfl⟩
                simp only [pickT, if_true, if_false, Bool.false_eq_true]
                repeat (go_big_quiet_step (fail))
                exact rfl
              case y1 => exact yieldsE_load rfl 127 _ rfl g (kk * 4) rfl yy.cs _ (fun w' e => range_four HYC8.out ((Ext.refl w8).drew.trans e)) Try.underlying127 rfl (info_four yy)
              case y2 => exact yieldsE_load rfl 127 _ rfl g (i * 4) rfl xx.cs _ (fun w' e => range_four HXC8.out ((Ext.refl w8).drew.trans e)) Try.underlying127 rfl (info_four xx)
              case r =>
                simp only [pickF, if_true, if_false, Bool.false_eq_true]
                intro x1
                have e1 : Ext w8 x1.val := (Ext.refl _).drew.val x1
                go_wp2_with fail
                refine ⟨but_ext (but_refl g w8) e1, ?_⟩
                intro x2
                have e2 : Ext w8 x2.val := e1.val x2
                go_wp2_with (refine wpList_store_mid rfl 127 _ _ rfl g (i * 4) #[.int .i64 yy.a, .int .i64 yy.o, .int .i64 yy.i, .int .i64 yy.n] rfl rfl (own_there (own_ext HO8.out e2) (by omega)) (info_four yy) (by simp [Value.oneCell']) (unHd ?_))
                have c2 : w8.grownBy (x2.val.setCells g (i * 4) yy.cs) (some g) := but_puts (but_ext (but_refl g w8) e2) _ _
                have o2 := own_put (own_ext HO8.out e2) (show i < n by omega) yy
                have b2 : (x2.val.setCells g (i * 4) yy.cs).heap[bH]? = _ := (puts_other (show bH ≠ g by omega)).trans (heap_ext HB8.out e2)
                have t2 : (x2.val.setCells g (i * 4) yy.cs).heap[w.heap.size]? = _ := (puts_other (show w.heap.size ≠ g by omega)).trans (heap_ext HT8.out e2)
                have kk2 : Keeps [bH, g] w (x2.val.setCells g (i * 4) yy.cs) := (HK8.out.ext e2).put (.inl (by simp)) _ _
                change Hd2 (wpList _ _ _ _ _ (x2.val.setCells g (i * 4) yy.cs))
                generalize x2.val.setCells g (i * 4) yy.cs = w5 at c2 o2 b2 t2 kk2 ⊢
                unfold Hd2
                go_wp2_with fail
                try refine ⟨c2, ?_⟩
                intro x3
                go_wp2_with fail
                try refine ⟨but_ext c2 x3.ext, ?_⟩
                intro x4
                have e4 : Ext w5 x4.val := x3.ext.trans x4.ext
                go_wp2_with (refine wpList_store_mid rfl 127 _ _ rfl g (kk * 4) #[.int .i64 xx.a, .int .i64 xx.o, .int .i64 xx.i, .int .i64 xx.n] rfl rfl (own_there (own_ext o2 e4) (by omega)) (info_four xx) (by simp [Value.oneCell']) (unHd ?_))
                have c4 : w8.grownBy (x4.val.setCells g (kk * 4) xx.cs) (some g) := but_puts (but_ext c2 e4) _ _
                have o4 := own_put (own_ext o2 e4) (show kk < n by omega) xx
                have b4 : (x4.val.setCells g (kk * 4) xx.cs).heap[bH]? = _ := (puts_other (show bH ≠ g by omega)).trans (heap_ext b2 e4)
                have t4 : (x4.val.setCells g (kk * 4) xx.cs).heap[w.heap.size]? = _ := (puts_other (show w.heap.size ≠ g by omega)).trans (heap_ext t2 e4)
                have kk4 : Keeps [bH, g] w (x4.val.setCells g (kk * 4) xx.cs) := (kk2.ext e4).put (.inl (by simp)) _ _
                change Hd2 (wpList _ _ _ _ _ (x4.val.setCells g (kk * 4) xx.cs))
                generalize x4.val.setCells g (kk * 4) xx.cs = w6 at c4 o4 b4 t4 kk4 ⊢
                unfold Hd2
                go_wp2_with fail
                try refine ⟨c4, ?_⟩
                intro x5
                rw [← swapH_eq HXX.out HYY.out] at o4
                have HB9 := Lib.hid (heap_ext b4 x5.ext)
                have HO9 := Lib.hid (own_ext o4 x5.ext)
                have HK9 := Lib.hid (kk4.ext x5.ext)
                have HT9 := Lib.hid (heap_ext t4 x5.ext)
                clear c2 o2 b2 t2 kk2 c4 o4 b4 t4 kk4 hcb8
                go_wp2_with fail
                exact ⟨⟨kk, f', swapH Lc i kk, rfl, by omega, by omega, Lib.hid (by rw [swapH_length]; exact HLc.out), Lib.hid (by rw [← HD.out, HST.out, hab]; rfl), HB9, HO9, HK9, HT9⟩, by simp [intOf]; omega⟩
      · have hge : (n : Int) ≤ 2 * (i : Int) + 1 := by omega
        have hT5 := HT5.out
        have hct5 := fun j => cell_of_row wr _ j _ _ _ hT5
        have lt5 : w.heap.size < wr.heap.size := (Array.getElem?_eq_some_iff.1 hT5).1
        have ii : (i : Int) ≤ 100000 := by omega
        have i0 : (0 : Int) ≤ (i : Int) := by omega
        clear hlt hT5
        go_wp2_with (refine wpList_store_row rfl 78 _ _ rfl w.heap.size _ rfl rfl 78 _ HT5.out (info_slot _ _ _) rfl (by simp [Value.oneCell']) (unHd ?_))
        have hR : downH n ((L.set 0 l).take n) 0 = Lc := by rw [← HD.out]; exact downH_out (by rw [HLc.out]; omega)
        have t6 := setRow_heap _ _ _ #[.int .i64 x.a, .int .i64 x.o, .int .i64 x.i] _ _ HT5.out
        have b6 : (wr.setRow w.heap.size #[.int .i64 x.a, .int .i64 x.o, .int .i64 x.i]).heap[bH]? = _ := (setRow_other wr w.heap.size bH _ (by omega)).trans HB5.out
        have o6 := own_setRow HO5.out HT5.out (by decide) #[.int .i64 x.a, .int .i64 x.o, .int .i64 x.i]
        have k6 : Keeps [bH, g] w (wr.setRow w.heap.size #[.int .i64 x.a, .int .i64 x.o, .int .i64 x.i]) := HK5.out.setRow (.inr (Nat.le_refl _)) _
        generalize wr.setRow w.heap.size #[.int .i64 x.a, .int .i64 x.o, .int .i64 x.i] = w7 at t6 b6 o6 k6 ⊢
        unfold Hd2
        go_wp2_with fail
        refine bodyPost_ret (results_row_tmp rfl _ _ _ 78 _ (0, 0) _ rfl t6 Try.underlying78 rfl (info_slot _ _ _)) rfl ?_
        refine ⟨rfl, .slice (some ⟨g, 0, none⟩) n cap, ⟨b6, ?_⟩, k6, rfl⟩
        rw [hR, HLc.out]
        exact o6

set_option maxRecDepth 100000 in
set_option maxHeartbeats 8000000 in
theorem pop_int64 (B bH : Nat) (v : Value) (L : List Hd) (n : Nat) (x l : Hd) (m : Int) (w : World) (hH : HeapW B bH 39 v L m w) (hB : bH < B) (hBw : B ≤ w.heap.size) (hn : L.length = n + 1) (hL : n ≤ 100000) (hx : L[0]? = some x) (hl : L[n]? = some l) :
    Calls Try.prog 64 #[.pointer (some ⟨bH, 0, none⟩)] w (Popped B bH 39 v x (downH n ((L.set 0 l).take n) 0) m w) := by
  obtain ⟨hb, hown⟩ := hH
  rw [hn] at hown
  obtain ⟨g, cap, rfl⟩ : ∃ g cap, v = .slice (some ⟨g, 0, none⟩) (n + 1) cap := by
    rcases hown.2 with ⟨_, h0⟩ | ⟨g2, cap2, _, h0, _⟩
    · omega
    · exact ⟨g2, cap2, h0⟩
  have hgB : B ≤ g := by
    rcases hown.2 with ⟨h0, _⟩ | ⟨g2, cap2, _, h0, hb, _⟩
    · cases h0
    · simp only [Value.slice.injEq, Option.some.injEq, Addr.mk.injEq] at h0
      rw [h0.1.1]; exact hb
  have hcell : ∀ j u, (L.flatMap Hd.cs)[j]? = some u → w.cell? ⟨g, j, none⟩ = some u := fun j u hj => by
    have := hown.cells (g := g) rfl j u hj
    rwa [show (⟨g, 0, none⟩ : Addr).add j = ⟨g, j, none⟩ by unfold Addr.add; split <;> simp_all] at this
  have hXC := hd_cells hcell hx
  have hLC := hd_cells hcell hl
  have lg : g < w.heap.size := World.block_lt_of_cell? w _ hXC.1
  have lb : bH < w.heap.size := (Array.getElem?_eq_some_iff.1 hb).1
  have hcb := fun j => cell_of_row w _ j _ _ _ hb
  have HHB := Lib.hid hb
  have HO := Lib.hid hown
  have HLX := Lib.hid hx
  have HLL := Lib.hid hl
  have HN := Lib.hid hn
  have HLC := Lib.hid hLC
  simp only [Nat.zero_mul] at hXC
  obtain ⟨x0, x1, x2, x3⟩ := hXC
  have n0 : (0 : Int) < (n : Int) + 1 := by omega
  have lbg : bH < g := by omega
  clear hb hown hcell hx hl hn hLC
  go_enter Try.func64, Try.ntmps64
  go_wp2_with (refine wpList_store_row rfl 78 _ _ rfl w.heap.size _ rfl rfl 78 _ (heap_new rfl) (info_slot _ _ _) rfl (by simp [Value.oneCell']) (unHd ?_))
  have eX : Ext w ((w.alloc (.cells #[.int .i64 0, .int .i64 0, .int .i64 0] 78)).setRow w.heap.size #[.int .i64 x.a, .int .i64 x.o, .int .i64 x.i]) := ((Ext.refl w).alloc _).setRow (Nat.le_refl _) _
  have eT := setRow_heap _ _ _ #[.int .i64 x.a, .int .i64 x.o, .int .i64 x.i] _ _ (heap_new (w := w) (o := .cells #[.int .i64 0, .int .i64 0, .int .i64 0] 78) rfl)
  generalize World.setRow _ _ _ = w1 at eX eT ⊢
  have HX1 := Lib.hid eX
  have HT1 := Lib.hid eT
  have HB1 := Lib.hid (heap_ext HHB.out eX)
  have HO1 := Lib.hid (own_ext HO.out eX)
  obtain ⟨l0, l1, l2, l3⟩ : w1.cell? ⟨g, n * 4, none⟩ = some (.int .i64 l.a) ∧ w1.cell? ⟨g, n * 4 + 1, none⟩ = some (.int .i64 l.o) ∧ w1.cell? ⟨g, n * 4 + 2, none⟩ = some (.int .i64 l.i) ∧ w1.cell? ⟨g, n * 4 + 3, none⟩ = some (.int .i64 l.n) :=
    ⟨cell_keep HLC.out.1 eX, cell_keep HLC.out.2.1 eX, cell_keep HLC.out.2.2.1 eX, cell_keep HLC.out.2.2.2 eX⟩
  have lg1 : g < w1.heap.size := Nat.lt_of_lt_of_le lg eX.size
  clear eX eT x0 x1 x2 x3 hcb HLC HHB HO
  have lb1 : bH < w1.heap.size := (Array.getElem?_eq_some_iff.1 HB1.out).1
  have hcb1 := fun j => cell_of_row w1 _ j _ _ _ HB1.out
  have n1 : (0 : Int) ≤ (n : Int) := by omega
  have n2 : (n : Int) < (n : Int) + 1 := by omega
  unfold Hd2
  go_upto_region 5 with fail
  go_cut [] (fun wx => Hid (wx.heap[bH]? = some (.cells #[.func (.func 39) #[] #[], .slice (some ⟨g, 0, none⟩) (n + 1) cap, .int .i64 m] 115 (0, 0)) ∧ wx.ownsRow B 127 4 (.slice (some ⟨g, 0, none⟩) (n + 1) cap) (n + 1) ((L.set 0 l).flatMap Hd.cs) ∧ Keeps [bH, g] w wx ∧ wx.heap[w.heap.size]? = some (.cells #[.int .i64 x.a, .int .i64 x.o, .int .i64 x.i] 78 (0, 0))))
  case first =>
    refine wp_region_late (af := ?af1) [true, true, true, true, true, true, true, true, true, true, true, false, false] [false, false, false, false, false, false, false, false, false, false, false, true, true] 111 (Ext w1) (by kernel_rfl) rfl (by kernel_rfl) (fun _ _ h e => Ext.trans h e) (Ext.refl w1).drew ?q ?r
    case q =>
      intro w' hw'
      obtain ⟨y, rfl⟩ := ext_of hw'
      simp only [pickT, if_true, if_false, Bool.false_eq_true]
      repeat (go_big_quiet_step (fail))
      exact rfl
    case r =>
      simp only [pickN, if_true, if_false, Bool.false_eq_true]
      intro y1
      go_wp2_with fail
      try refine ⟨fun h => absurd h (by decide), ?_⟩
      intro y2
      have e2 : Ext w1 y2.val := ((Ext.refl _).drew.val y1).val y2
      go_wp2_with (refine wpList_store_mid rfl 127 _ _ rfl g 0 #[.int .i64 l.a, .int .i64 l.o, .int .i64 l.i, .int .i64 l.n] rfl rfl (by have := own_there (own_ext HO1.out e2) (show 0 < n + 1 by omega); simpa using this) (info_four l) (by simp [Value.oneCell']) (unHd ?_))
      change Hd2 (wpList _ _ _ _ _ (y2.val.setCells g 0 l.cs))
      have o2 := own_put (own_ext HO1.out e2) (show 0 < n + 1 by omega) l
      have b2 : (y2.val.setCells g (0 * 4) l.cs).heap[bH]? = _ := (puts_other (show bH ≠ g by omega)).trans (heap_ext HB1.out e2)
      have t2 : (y2.val.setCells g (0 * 4) l.cs).heap[w.heap.size]? = _ := (puts_other (show w.heap.size ≠ g by omega)).trans (heap_ext HT1.out e2)
      have k2 : Keeps [bH, g] w (y2.val.setCells g (0 * 4) l.cs) := ((Keeps.refl _ w).ext (HX1.out.trans e2)).put (.inl (by simp)) _ _
      rw [Nat.zero_mul] at o2 b2 t2 k2
      generalize y2.val.setCells g 0 l.cs = w2 at o2 b2 t2 k2 ⊢
      unfold Hd2
      go_wp2_with fail
      try refine ⟨fun h => absurd h (by decide), ?_⟩
      intro y3
      go_wp2_with fail
      go_meet
      exact Lib.hid ⟨heap_ext b2 y3.ext, own_ext o2 y3.ext, k2.ext y3.ext, heap_ext t2 y3.ext⟩
  case rest =>
    obtain ⟨hb2, ho2, hk2, ht2⟩ := hcut.out
    clear hcut hcb1 lb1 l0 l1 l2 l3 lg1 HB1 HO1 HT1 HX1
    have hcap : n + 1 ≤ cap := by
      rcases ho2.2 with ⟨h0, _⟩ | ⟨g2, cap2, cur, h0, hb, _, hc, _⟩
      · cases h0
      · simp only [Value.slice.injEq] at h0
        rw [h0.2.2]; exact hc
    have hcap' : (n : Int) ≤ (cap : Int) := by omega
    have lb2 : bH < wc.heap.size := (Array.getElem?_eq_some_iff.1 hb2).1
    have hcb2 := fun j => cell_of_row wc _ j _ _ _ hb2
    have HB2 := Lib.hid hb2
    have HO2 := Lib.hid ho2
    have HK2 := Lib.hid hk2
    have HT2 := Lib.hid ht2
    clear hb2 ho2 hk2 ht2
    go_wp2_with (refine wpList_store_mid rfl 127 _ _ rfl g (n * 4) #[.int .i64 0, .int .i64 0, .int .i64 0, .int .i64 0] rfl rfl (own_there HO2.out (by omega)) (info_four ⟨0, 0, 0, 0⟩) (by simp [Value.oneCell']) (unHd ?_))
    change Hd2 (wpList _ _ _ _ _ (wc.setCells g (n * 4) (Hd.cs ⟨0, 0, 0, 0⟩)))
    have o3 := own_take (own_put HO2.out (show n < n + 1 by omega) ⟨0, 0, 0, 0⟩)
    rw [List.take_set_of_le (Nat.le_refl _)] at o3
    have b3 : (wc.setCells g (n * 4) (Hd.cs ⟨0, 0, 0, 0⟩)).heap[bH]? = _ := (puts_other (show bH ≠ g by omega)).trans HB2.out
    have t3 : (wc.setCells g (n * 4) (Hd.cs ⟨0, 0, 0, 0⟩)).heap[w.heap.size]? = _ := (puts_other (show w.heap.size ≠ g by omega)).trans HT2.out
    have k3 : Keeps [bH, g] w (wc.setCells g (n * 4) (Hd.cs ⟨0, 0, 0, 0⟩)) := HK2.out.put (.inl (by simp)) _ _
    generalize wc.setCells g (n * 4) (Hd.cs ⟨0, 0, 0, 0⟩) = w3 at o3 b3 t3 k3 ⊢
    have lb3 : bH < w3.heap.size := (Array.getElem?_eq_some_iff.1 b3).1
    have hcb3 := fun j => cell_of_row w3 _ j _ _ _ b3
    have hfb3 := fun j => frozen_of_row w3 _ j _ _ b3
    have HB3 := Lib.hid b3
    have HO3 := Lib.hid o3
    have HK3 := Lib.hid k3
    have HT3 := Lib.hid t3
    clear o3 b3 t3 k3 hcb2 lb2 HB2 HO2 HK2 HT2
    unfold Hd2
    go_upto_region 8 with fail
    have b4 : (w3.setCell ⟨bH, 1, none⟩ (.slice (some ⟨g, 0, none⟩) n cap)).heap[bH]? = some (.cells #[.func (.func 39) #[] #[], .slice (some ⟨g, 0, none⟩) n cap, .int .i64 m] 115 (0, 0)) := by simpa using setCell_row (o := 1) HB3.out (.slice (some ⟨g, 0, none⟩) n cap)
    have o4 := own_same HO3.out (w' := w3.setCell ⟨bH, 1, none⟩ (.slice (some ⟨g, 0, none⟩) n cap)) (fun k hk _ => cell_other (show k ≠ bH by omega))
    have k4 := HK3.out.setCell (g := bH) (.inl (by simp)) 1 (.slice (some ⟨g, 0, none⟩) n cap)
    have t4 : (w3.setCell ⟨bH, 1, none⟩ (.slice (some ⟨g, 0, none⟩) n cap)).heap[w.heap.size]? = _ := (cell_other (show w.heap.size ≠ bH by omega)).trans HT3.out
    generalize w3.setCell ⟨bH, 1, none⟩ (.slice (some ⟨g, 0, none⟩) n cap) = w4 at b4 o4 k4 t4 ⊢
    have HB4 := Lib.hid b4
    have HO4 := Lib.hid o4
    have HK4 := Lib.hid k4
    have HT4 := Lib.hid t4
    clear b4 o4 k4 t4 hcb3 hfb3 lb3 HB3 HO3 HK3 HT3
    have HLn : ((L.set 0 l).take n).length = n := by have := HN.out; simp; omega
    have HLN := Lib.hid HLn
    clear HLn
    go_wp2_with fail
    go_loopw [5, 6] (fun si _ wr => ∃ (i f : Nat) (Lc : List Hd), si = .int .i64 i ∧ i ≤ n ∧ n ≤ i + f ∧ Hid (Lc.length = n) ∧ Hid (downH f Lc i = downH n ((L.set 0 l).take n) 0) ∧
        Hid (wr.heap[bH]? = some (.cells #[.func (.func 39) #[] #[], .slice (some ⟨g, 0, none⟩) n cap, .int .i64 m] 115 (0, 0))) ∧ Hid (wr.ownsRow B 127 4 (.slice (some ⟨g, 0, none⟩) n cap) n (Lc.flatMap Hd.cs)) ∧ Hid (Keeps [bH, g] w wr) ∧ Hid (wr.heap[w.heap.size]? = some (.cells #[.int .i64 x.a, .int .i64 x.o, .int .i64 x.i] 78 (0, 0)))) (fun si _ _ => n - (intOf si).toNat)
    case atStart => exact ⟨0, n, _, rfl, Nat.zero_le _, by omega, HLN, Lib.hid rfl, HB4, HO4, HK4, HT4⟩
    case round =>
      obtain ⟨i, f, Lc, rfl, hin, hnf, HLc, HD, HB5, HO5, HK5, HT5⟩ := hrel
      rename_i wr
      clear HB4 HO4 HK4 HT4
      have lb5 : bH < wr.heap.size := (Array.getElem?_eq_some_iff.1 HB5.out).1
      have hcb5 := fun j => cell_of_row wr _ j _ _ _ HB5.out
      by_cases hlt : 2 * i + 1 < n
      · obtain ⟨k1, hk1⟩ : ∃ k1, k1 = 2 * i + 1 := ⟨_, rfl⟩
        obtain ⟨k2, hk2⟩ : ∃ k2, k2 = 2 * i + 2 := ⟨_, rfl⟩
        obtain ⟨xx, hxx⟩ : ∃ y, Lc[i]? = some y := ⟨_, List.getElem?_eq_getElem (by have := HLc.out; omega)⟩
        obtain ⟨y, hy⟩ : ∃ y, Lc[k1]? = some y := ⟨_, List.getElem?_eq_getElem (by have := HLc.out; omega)⟩
        have hcell : ∀ j u, (Lc.flatMap Hd.cs)[j]? = some u → wr.cell? ⟨g, j, none⟩ = some u := fun j u hj => by
          have := HO5.out.cells (g := g) rfl j u hj
          rwa [show (⟨g, 0, none⟩ : Addr).add j = ⟨g, j, none⟩ by unfold Addr.add; split <;> simp_all] at this
        have HCell := Lib.hid hcell
        have HY := Lib.hid hy
        have HXX := Lib.hid hxx
        have HYC := Lib.hid (hd_cells hcell hy)
        have lg5 : g < wr.heap.size := World.block_lt_of_cell? wr _ (hd_cells hcell hy).1
        have e1 : 2 * (i : Int) + 1 = (k1 : Int) := by omega
        have e2 : (k1 : Int) + 1 = (k2 : Int) := by omega
        have HK1 := Lib.hid hk1
        have HK2 := Lib.hid hk2
        have a0 : (0 : Int) ≤ (i : Int) := by omega
        have a1 : (i : Int) ≤ 100000 := by omega
        have a2 : (k1 : Int) < (n : Int) := by omega
        have a3 : (0 : Int) ≤ (k1 : Int) := by omega
        have a4 : (k1 : Int) ≤ 100000 := by omega
        have a5 : (n : Int) ≤ 100000 := by omega
        clear hcell hy hxx hk1 hk2
        go_upto_region 11 with fail
        go_cut [75] (fun s wx => ∃ b : Bool, s = .bool b ∧ Hid (Ext wr wx) ∧ Hid ((b = true → ∃ z, Below2 Lc i k2 z) ∧ (b = false → Below2 Lc i k1 y)))
        case first =>
          by_cases h2 : 2 * i + 2 < n
          · obtain ⟨z, hz⟩ : ∃ z, Lc[k2]? = some z := ⟨_, List.getElem?_eq_getElem (by have := HLc.out; have := HK2.out; omega)⟩
            have HZ := Lib.hid hz
            have HZC := Lib.hid (hd_cells HCell.out hz)
            have a6 : (k2 : Int) < (n : Int) := by have := HK2.out; omega
            clear hz
            go_wp2_with fail
            refine (ahead_int64 bH g n m cap k2 k1 z y wr HB5.out HZC.out HYC.out (by omega) (by omega) lg5 (by omega)).mono ?_
            rintro e wx ⟨rfl, hx⟩
            go_wp2_with fail
            go_meet
            refine ⟨aheadH z y, rfl, Lib.hid hx, Lib.hid ⟨fun hb => ⟨z, by have := HLc.out; omega, HZ.out, .inr ⟨HK2.out, by have := HLc.out; omega, y, by rw [← HK1.out]; exact HY.out, hb⟩⟩, fun hb => ⟨by have := HLc.out; omega, HY.out, .inl ⟨HK1.out, fun z' _ hz' => ?_⟩⟩⟩⟩
            rw [← HK2.out, HZ.out] at hz'
            cases hz'
            exact hb
          · have a6 : (n : Int) ≤ (k2 : Int) := by have := HK2.out; omega
            have a7 : decide ((k2 : Int) < (n : Int)) = false := decide_eq_false (by omega)
            go_wp2_with fail
            go_meet
            exact ⟨false, rfl, Lib.hid (Ext.refl _), Lib.hid ⟨fun hb => (by cases hb), fun _ => ⟨by have := HLc.out; omega, HY.out, .inl ⟨HK1.out, fun z' h' _ => absurd h' (by have := HLc.out; omega)⟩⟩⟩⟩
        case rest =>
          obtain ⟨b, rfl, HX5, HBB⟩ := hcut
          go_upto_if 75 with fail
          go_cut [6] (fun s wx => ∃ (kk : Nat) (yy : Hd), s = .int .i64 kk ∧ Hid (Ext wr wx) ∧ Hid (Below2 Lc i kk yy))
          case first =>
            cases b
            · have HF := Lib.hid (HBB.out.2 rfl)
              clear HBB
              go_wp2_with fail
              go_meet
              exact ⟨k1, y, rfl, HX5, HF⟩
            · obtain ⟨z, hz⟩ := HBB.out.1 rfl
              have HZ := Lib.hid hz
              clear hz
              go_wp2_with fail
              go_meet
              exact ⟨k2, z, rfl, HX5, HZ⟩
          case rest =>
            clear HX5 HBB
            obtain ⟨kk, yy, rfl, HX6, HBE⟩ := hcut
            have hkk : i < kk ∧ kk < n ∧ Lc[kk]? = some yy := by
              obtain ⟨h1, h2, h3⟩ := HBE.out
              have h4 := (List.getElem?_eq_some_iff.1 h2).1
              rw [HLc.out] at h4
              refine ⟨?_, h4, h2⟩
              rcases h3 with ⟨h3, _⟩ | ⟨h3, _⟩ <;> omega
            obtain ⟨hik, hkn, hyy⟩ := hkk
            have HYY := Lib.hid hyy
            have HYC6 := Lib.hid (show wc.cell? ⟨g, kk * 4, none⟩ = some (.int .i64 yy.a) ∧ wc.cell? ⟨g, kk * 4 + 1, none⟩ = some (.int .i64 yy.o) ∧ wc.cell? ⟨g, kk * 4 + 2, none⟩ = some (.int .i64 yy.i) ∧ wc.cell? ⟨g, kk * 4 + 3, none⟩ = some (.int .i64 yy.n) from
              ⟨cell_keep (hd_cells HCell.out hyy).1 HX6.out, cell_keep (hd_cells HCell.out hyy).2.1 HX6.out, cell_keep (hd_cells HCell.out hyy).2.2.1 HX6.out, cell_keep (hd_cells HCell.out hyy).2.2.2 HX6.out⟩)
            have HXC6 := Lib.hid (show wc.cell? ⟨g, i * 4, none⟩ = some (.int .i64 xx.a) ∧ wc.cell? ⟨g, i * 4 + 1, none⟩ = some (.int .i64 xx.o) ∧ wc.cell? ⟨g, i * 4 + 2, none⟩ = some (.int .i64 xx.i) ∧ wc.cell? ⟨g, i * 4 + 3, none⟩ = some (.int .i64 xx.n) from
              ⟨cell_keep (hd_cells HCell.out HXX.out).1 HX6.out, cell_keep (hd_cells HCell.out HXX.out).2.1 HX6.out, cell_keep (hd_cells HCell.out HXX.out).2.2.1 HX6.out, cell_keep (hd_cells HCell.out HXX.out).2.2.2 HX6.out⟩)
            have lg6 : g < wc.heap.size := Nat.lt_of_lt_of_le lg5 HX6.out.size
            have HB6 := Lib.hid (heap_ext HB5.out HX6.out)
            have HO6 := Lib.hid (own_ext HO5.out HX6.out)
            have HK6 := Lib.hid (HK5.out.ext HX6.out)
            have HT6 := Lib.hid (heap_ext HT5.out HX6.out)
            clear hyy HX6 HB5 HO5 HK5 HT5 HCell HYC lg5 lb5 hcb5 e1 e2 a2 a3 a4
            have lb6 : bH < wc.heap.size := (Array.getElem?_eq_some_iff.1 HB6.out).1
            have hcb6 := fun j => cell_of_row wc _ j _ _ _ HB6.out
            go_wp2_with fail
            refine (ahead_int64 bH g n m cap kk i yy xx wc HB6.out HYC6.out HXC6.out (by omega) (by omega) lg6 (by omega)).mono ?_
            rintro e w8 ⟨rfl, hx8⟩
            have HYC8 := Lib.hid (show w8.cell? ⟨g, kk * 4, none⟩ = some (.int .i64 yy.a) ∧ w8.cell? ⟨g, kk * 4 + 1, none⟩ = some (.int .i64 yy.o) ∧ w8.cell? ⟨g, kk * 4 + 2, none⟩ = some (.int .i64 yy.i) ∧ w8.cell? ⟨g, kk * 4 + 3, none⟩ = some (.int .i64 yy.n) from ⟨cell_keep HYC6.out.1 hx8, cell_keep HYC6.out.2.1 hx8, cell_keep HYC6.out.2.2.1 hx8, cell_keep HYC6.out.2.2.2 hx8⟩)
            have HXC8 := Lib.hid (show w8.cell? ⟨g, i * 4, none⟩ = some (.int .i64 xx.a) ∧ w8.cell? ⟨g, i * 4 + 1, none⟩ = some (.int .i64 xx.o) ∧ w8.cell? ⟨g, i * 4 + 2, none⟩ = some (.int .i64 xx.i) ∧ w8.cell? ⟨g, i * 4 + 3, none⟩ = some (.int .i64 xx.n) from ⟨cell_keep HXC6.out.1 hx8, cell_keep HXC6.out.2.1 hx8, cell_keep HXC6.out.2.2.1 hx8, cell_keep HXC6.out.2.2.2 hx8⟩)
            have HB8 := Lib.hid (heap_ext HB6.out hx8)
            have HO8 := Lib.hid (own_ext HO6.out hx8)
            have HK8 := Lib.hid (HK6.out.ext hx8)
            have HT8 := Lib.hid (heap_ext HT6.out hx8)
            have lg8 : g < w8.heap.size := Nat.lt_of_lt_of_le lg6 hx8.size
            clear hx8 HB6 HO6 HK6 HT6 HYC6 HXC6 lg6 lb6 hcb6
            have lb8 : bH < w8.heap.size := (Array.getElem?_eq_some_iff.1 HB8.out).1
            have hcb8 := fun j => cell_of_row w8 _ j _ _ _ HB8.out
            obtain ⟨f', rfl⟩ : ∃ f', f = f' + 1 := ⟨f - 1, by omega⟩
            have hstep := downH_step (f := f') HXX.out HBE.out
            have HST := Lib.hid hstep
            clear hstep
            rcases hab : aheadH yy xx
            · have hT8 := HT8.out
              have hct8 := fun j => cell_of_row w8 _ j _ _ _ hT8
              have lt8 : w.heap.size < w8.heap.size := (Array.getElem?_eq_some_iff.1 hT8).1
              clear hT8
              go_wp2_with (refine wpList_store_row rfl 78 _ _ rfl w.heap.size _ rfl rfl 78 _ HT8.out (info_slot _ _ _) rfl (by simp [Value.oneCell']) (unHd ?_))
              have hR : downH n ((L.set 0 l).take n) 0 = Lc := by rw [← HD.out]; exact (by rw [HST.out, hab]; rfl)
              have t6 := setRow_heap _ _ _ #[.int .i64 x.a, .int .i64 x.o, .int .i64 x.i] _ _ HT8.out
              have b6 : (w8.setRow w.heap.size #[.int .i64 x.a, .int .i64 x.o, .int .i64 x.i]).heap[bH]? = _ := (setRow_other w8 w.heap.size bH _ (by omega)).trans HB8.out
              have o6 := own_setRow HO8.out HT8.out (by decide) #[.int .i64 x.a, .int .i64 x.o, .int .i64 x.i]
              have k6 : Keeps [bH, g] w (w8.setRow w.heap.size #[.int .i64 x.a, .int .i64 x.o, .int .i64 x.i]) := HK8.out.setRow (.inr (Nat.le_refl _)) _
              generalize w8.setRow w.heap.size #[.int .i64 x.a, .int .i64 x.o, .int .i64 x.i] = w7 at t6 b6 o6 k6 ⊢
              unfold Hd2
              go_wp2_with fail
              refine bodyPost_ret (results_row_tmp rfl _ _ _ 78 _ (0, 0) _ rfl t6 Try.underlying78 rfl (info_slot _ _ _)) rfl ?_
              refine ⟨rfl, .slice (some ⟨g, 0, none⟩) n cap, ⟨b6, ?_⟩, k6, rfl⟩
              rw [hR, HLc.out]
              exact o6
            · have b0 : (kk : Int) < (n : Int) := by omega
              have b1 : (0 : Int) ≤ (kk : Int) := by omega
              have b2 : (i : Int) < (n : Int) := by omega
              go_wp2_with fail
              refine wp_region_pair (af := ?af3) [true, true, true, true, true, true, true, true, true, true, true, true, true, true, true, true, false, true, true, true, true, true, true, false, false, false, false, false] [true, true, true, true, true, true, true, true, true, true, true, true, true, true, true, true, true, true, true, true, true, true, true, true, false, false, false, false] 111 16 23 (fun w' => w8.grownBy w' (some g)) (by kernel_rfl) rfl (by kernel_rfl) (fun _ _ h e => but_ext h e) (but_ext (but_refl g w8) (Ext.refl w8).drew) ?q (.agg #[.int .i64 yy.a, .int .i64 yy.o, .int .i64 yy.i, .int .i64 yy.n]) (.agg #[.int .i64 xx.a, .int .i64 xx.o, .int .i64 xx.i, .int .i64 xx.n]) _ _ rfl rfl ?y1 ?y2 ?r
              case q =>
                intro w' hw'
                obtain ⟨s, rfl⟩ : ∃ s : ButOf g w8, w' = s.val := ⟨⟨w', hw'⟩, rfl⟩
                simp only [pickT, if_true, if_false, Bool.false_eq_true]
                repeat (go_big_quiet_step (fail))
                exact rfl
              case y1 => exact yieldsE_load rfl 127 _ rfl g (kk * 4) rfl yy.cs _ (fun w' e => range_four HYC8.out ((Ext.refl w8).drew.trans e)) Try.underlying127 rfl (info_four yy)
              case y2 => exact yieldsE_load rfl 127 _ rfl g (i * 4) rfl xx.cs _ (fun w' e => range_four HXC8.out ((Ext.refl w8).drew.trans e)) Try.underlying127 rfl (info_four xx)
              case r =>
                simp only [pickF, if_true, if_false, Bool.false_eq_true]
                intro x1
                have e1 : Ext w8 x1.val := (Ext.refl _).drew.val x1
                go_wp2_with fail
                refine ⟨but_ext (but_refl g w8) e1, ?_⟩
                intro x2
                have e2 : Ext w8 x2.val := e1.val x2
                go_wp2_with (refine wpList_store_mid rfl 127 _ _ rfl g (i * 4) #[.int .i64 yy.a, .int .i64 yy.o, .int .i64 yy.i, .int .i64 yy.n] rfl rfl (own_there (own_ext HO8.out e2) (by omega)) (info_four yy) (by simp [Value.oneCell']) (unHd ?_))
                have c2 : w8.grownBy (x2.val.setCells g (i * 4) yy.cs) (some g) := but_puts (but_ext (but_refl g w8) e2) _ _
                have o2 := own_put (own_ext HO8.out e2) (show i < n by omega) yy
                have b2 : (x2.val.setCells g (i * 4) yy.cs).heap[bH]? = _ := (puts_other (show bH ≠ g by omega)).trans (heap_ext HB8.out e2)
                have t2 : (x2.val.setCells g (i * 4) yy.cs).heap[w.heap.size]? = _ := (puts_other (show w.heap.size ≠ g by omega)).trans (heap_ext HT8.out e2)
                have kk2 : Keeps [bH, g] w (x2.val.setCells g (i * 4) yy.cs) := (HK8.out.ext e2).put (.inl (by simp)) _ _
                change Hd2 (wpList _ _ _ _ _ (x2.val.setCells g (i * 4) yy.cs))
                generalize x2.val.setCells g (i * 4) yy.cs = w5 at c2 o2 b2 t2 kk2 ⊢
                unfold Hd2
                go_wp2_with fail
                try refine ⟨c2, ?_⟩
                intro x3
                go_wp2_with fail
                try refine ⟨but_ext c2 x3.ext, ?_⟩
                intro x4
                have e4 : Ext w5 x4.val := x3.ext.trans x4.ext
                go_wp2_with (refine wpList_store_mid rfl 127 _ _ rfl g (kk * 4) #[.int .i64 xx.a, .int .i64 xx.o, .int .i64 xx.i, .int .i64 xx.n] rfl rfl (own_there (own_ext o2 e4) (by omega)) (info_four xx) (by simp [Value.oneCell']) (unHd ?_))
                have c4 : w8.grownBy (x4.val.setCells g (kk * 4) xx.cs) (some g) := but_puts (but_ext c2 e4) _ _
                have o4 := own_put (own_ext o2 e4) (show kk < n by omega) xx
                have b4 : (x4.val.setCells g (kk * 4) xx.cs).heap[bH]? = _ := (puts_other (show bH ≠ g by omega)).trans (heap_ext b2 e4)
                have t4 : (x4.val.setCells g (kk * 4) xx.cs).heap[w.heap.size]? = _ := (puts_other (show w.heap.size ≠ g by omega)).trans (heap_ext t2 e4)
                have kk4 : Keeps [bH, g] w (x4.val.setCells g (kk * 4) xx.cs) := (kk2.ext e4).put (.inl (by simp)) _ _
                change Hd2 (wpList _ _ _ _ _ (x4.val.setCells g (kk * 4) xx.cs))
                generalize x4.val.setCells g (kk * 4) xx.cs = w6 at c4 o4 b4 t4 kk4 ⊢
                unfold Hd2
                go_wp2_with fail
                try refine ⟨c4, ?_⟩
                intro x5
                rw [← swapH_eq HXX.out HYY.out] at o4
                have HB9 := Lib.hid (heap_ext b4 x5.ext)
                have HO9 := Lib.hid (own_ext o4 x5.ext)
                have HK9 := Lib.hid (kk4.ext x5.ext)
                have HT9 := Lib.hid (heap_ext t4 x5.ext)
                clear c2 o2 b2 t2 kk2 c4 o4 b4 t4 kk4 hcb8
                go_wp2_with fail
                exact ⟨⟨kk, f', swapH Lc i kk, rfl, by omega, by omega, Lib.hid (by rw [swapH_length]; exact HLc.out), Lib.hid (by rw [← HD.out, HST.out, hab]; rfl), HB9, HO9, HK9, HT9⟩, by simp [intOf]; omega⟩
      · have hge : (n : Int) ≤ 2 * (i : Int) + 1 := by omega
        have hT5 := HT5.out
        have hct5 := fun j => cell_of_row wr _ j _ _ _ hT5
        have lt5 : w.heap.size < wr.heap.size := (Array.getElem?_eq_some_iff.1 hT5).1
        have ii : (i : Int) ≤ 100000 := by omega
        have i0 : (0 : Int) ≤ (i : Int) := by omega
        clear hlt hT5
        go_wp2_with (refine wpList_store_row rfl 78 _ _ rfl w.heap.size _ rfl rfl 78 _ HT5.out (info_slot _ _ _) rfl (by simp [Value.oneCell']) (unHd ?_))
        have hR : downH n ((L.set 0 l).take n) 0 = Lc := by rw [← HD.out]; exact downH_out (by rw [HLc.out]; omega)
        have t6 := setRow_heap _ _ _ #[.int .i64 x.a, .int .i64 x.o, .int .i64 x.i] _ _ HT5.out
        have b6 : (wr.setRow w.heap.size #[.int .i64 x.a, .int .i64 x.o, .int .i64 x.i]).heap[bH]? = _ := (setRow_other wr w.heap.size bH _ (by omega)).trans HB5.out
        have o6 := own_setRow HO5.out HT5.out (by decide) #[.int .i64 x.a, .int .i64 x.o, .int .i64 x.i]
        have k6 : Keeps [bH, g] w (wr.setRow w.heap.size #[.int .i64 x.a, .int .i64 x.o, .int .i64 x.i]) := HK5.out.setRow (.inr (Nat.le_refl _)) _
        generalize wr.setRow w.heap.size #[.int .i64 x.a, .int .i64 x.o, .int .i64 x.i] = w7 at t6 b6 o6 k6 ⊢
        unfold Hd2
        go_wp2_with fail
        refine bodyPost_ret (results_row_tmp rfl _ _ _ 78 _ (0, 0) _ rfl t6 Try.underlying78 rfl (info_slot _ _ _)) rfl ?_
        refine ⟨rfl, .slice (some ⟨g, 0, none⟩) n cap, ⟨b6, ?_⟩, k6, rfl⟩
        rw [hR, HLc.out]
        exact o6
end Go.Proofs.Ytibdplfdmncgiaa
