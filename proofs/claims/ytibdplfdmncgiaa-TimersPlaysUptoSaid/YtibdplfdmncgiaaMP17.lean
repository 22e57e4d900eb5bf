/-
  Walk: the document's wheel: a timer is taken out. No condition.
-/
import Derived.Test.YtibdplfdmncgiaaMP16
import Derived.IntWalk
import Derived.Sort.Grow
import Derived.Lib.QuietBelow
set_option linter.all false
namespace Go.Proofs.Ytibdplfdmncgiaa
open Go.RowKit
attribute [local go_sem] ExtOf.cell ExtOf.frozen ExtOf.lt ExtOf.le
attribute [local go_sem high] ExtOf.cell2 ExtOf.frozen2 ExtOf.lt2 ExtOf.cell3 ExtOf.frozen3 ExtOf.lt3 ExtOf.cellX ExtOf.frozenX ExtOf.cellX' ExtOf.frozenX'

theorem info_tr3 (a b : Int) (s : ByteArray) : (Try.prog.info? 72).map (·.size) = some (#[.int .i64 a, .int .i64 b, .string s] : Array Value).size := by kernel_rfl
theorem tr_one (O : List Tr) : ∀ u ∈ O.flatMap Tr.cs, u.oneCell' = true := fun u hu => by
  obtain ⟨x, _, hx⟩ := List.mem_flatMap.1 hu
  simp [Tr.cs] at hx
  rcases hx with rfl | rfl | rfl <;> rfl

theorem own_rowB {w w' : World} {base : Nat} {e : TypeId} {size : Nat} {v : Value} {n : Nat} {xs : List Value} (h : w.ownsRow base e size v n xs) (hk : ∀ k ∈ rowB v, w'.heap[k]? = w.heap[k]?) : w'.ownsRow base e size v n xs := by
  refine ⟨h.1, h.2.imp id ?_⟩
  rintro ⟨g, cap, cur, rfl, hb, hg, r⟩
  exact ⟨g, cap, cur, rfl, hb, (hk g (by simp [rowB, Value.ownBlock])).trans hg, r⟩

/-- A part of a row of timers, as it is read. -/
theorem row_part {w : World} {g : Nat} {L : List Tr} (h : ∀ j u, (L.flatMap Tr.cs)[j]? = some u → w.cell? ⟨g, j, none⟩ = some u) (lo hi cap : Nat) (hlo : lo ≤ hi) (hhi : hi ≤ L.length) (hm : L.length ≤ maxLen) :
    Row w 3 (.slice (some ⟨g, lo * 3, none⟩) (hi - lo) cap) (hi - lo) (((L.take hi).drop lo).flatMap Tr.cs) := by
  have hl : ((L.take hi).drop lo).length = hi - lo := by simp; omega
  refine ⟨by rw [tr_flat, hl], .inr ⟨g, lo * 3, cap, rfl, by omega, fun j u hj => ?_⟩⟩
  refine h _ _ ?_
  rw [tr_at] at hj ⊢
  rw [show (lo * 3 + j) / 3 = lo + j / 3 by omega, show (lo * 3 + j) % 3 = j % 3 by omega]
  have hlt : j / 3 < hi - lo := by
    rcases hx : ((L.take hi).drop lo)[j / 3]? with _ | x
    · rw [hx] at hj; cases hj
    · have := (List.getElem?_eq_some_iff.1 hx).1
      omega
  rw [List.getElem?_drop, List.getElem?_take_of_lt (by omega)] at hj
  exact hj

set_option maxRecDepth 100000 in
set_option maxHeartbeats 8000000 in
theorem ref_take (b B : Nat) (v : Value) (R : Rw) (i : Nat) (t : Tr) (w : World) (hW : RefW b B v R w) (hBw : B ≤ w.heap.size) (hL : R.L.length ≤ 100000) (ht : R.L[i]? = some t) :
    Calls Try.prog 66 #[.pointer (some ⟨b, 0, none⟩), .int .i64 i] w (fun e w' => e = .returned (.agg #[.int .i64 t.id, .int .i64 t.a, .string t.v]) ∧ ∃ v', RefW b B v' ⟨R.now, R.next, R.L.eraseIdx i⟩ w' ∧ Keeps (b :: rowB v) w w' ∧ ∀ g ∈ rowB v', w.heap.size ≤ g) := by
  obtain ⟨ti0, hti, hz0, hz1, hz2⟩ := info_parts info_tr
  obtain ⟨now, next, L⟩ := R
  obtain ⟨hb, hown⟩ := hW
  simp only at hb hown hL ht ⊢
  have lb : b < w.heap.size := (Array.getElem?_eq_some_iff.1 hb).1
  have hcb := fun j => cell_of_row w _ j _ _ _ hb
  have hi : i < L.length := (List.getElem?_eq_some_iff.1 ht).1
  obtain ⟨g, cap, rfl, hcap, hgB⟩ : ∃ g cap, v = .slice (some ⟨g, 0, none⟩) L.length cap ∧ L.length ≤ cap ∧ B ≤ g := by
    rcases hown.2 with ⟨_, h0⟩ | ⟨g, cap, cur, hv, hbg, _, hnc, _⟩
    · omega
    · exact ⟨g, cap, hv, hnc, hbg⟩
  have hcell : ∀ j u, (L.flatMap Tr.cs)[j]? = some u → w.cell? ⟨g, j, none⟩ = some u := fun j u hj => by
    have := hown.cells (g := g) rfl j u hj
    rwa [show (⟨g, 0, none⟩ : Addr).add j = ⟨g, j, none⟩ by unfold Addr.add; split <;> simp_all] at this
  obtain ⟨x0, x1, x2⟩ := tr_cells hcell ht
  have lg : g < w.heap.size := World.block_lt_of_cell? w _ x0
  have i0 : (0 : Int) ≤ (i : Int) := by omega
  have i1 : (i : Int) < (L.length : Int) := by omega
  have HHB := Lib.hid hb
  have HO := Lib.hid hown
  have HC := Lib.hid hcell
  clear hb hown hcell ht
  go_enter Try.func66, Try.ntmps66
  go_upto_region 1 with fail
  go_wp2_with (refine wpList_store_row rfl 72 _ _ rfl (w.heap.size + 1) _ rfl rfl 72 _ (heap_new (by simp)) (info_tr3 _ _ _) rfl (by simp [Value.oneCell']) (unHd ?_))
  have eX : Ext w (((w.alloc (.cells #[.int .i64 0, .int .i64 0, .string { data := #[] }] 72)).alloc (.cells #[.int .i64 0, .int .i64 0, .string { data := #[] }] 72)).setRow (w.heap.size + 1) #[.int .i64 t.id, .int .i64 t.a, .string t.v]) := (((Ext.refl w).alloc _).alloc _).setRow (Nat.le_succ _) _
  have eT := setRow_heap _ _ _ #[.int .i64 t.id, .int .i64 t.a, .string t.v] _ _ (heap_new (w := w.alloc (.cells #[.int .i64 0, .int .i64 0, .string { data := #[] }] 72)) (o := .cells #[.int .i64 0, .int .i64 0, .string { data := #[] }] 72) (G := w.heap.size + 1) (by simp))
  have eZ : (((w.alloc (.cells #[.int .i64 0, .int .i64 0, .string { data := #[] }] 72)).alloc (.cells #[.int .i64 0, .int .i64 0, .string { data := #[] }] 72)).setRow (w.heap.size + 1) #[.int .i64 t.id, .int .i64 t.a, .string t.v]).heap[w.heap.size]? = some (.cells #[.int .i64 0, .int .i64 0, .string { data := #[] }] 72 (0, 0)) := (setRow_other _ _ _ _ (by omega)).trans (heap_ext (heap_new rfl) ((Ext.refl _).alloc _))
  generalize World.setRow _ _ _ = w1 at eX eT eZ ⊢
  have HX1 := Lib.hid eX
  have HT1 := Lib.hid eT
  have HZ1 := Lib.hid eZ
  have HB1 := Lib.hid (heap_ext HHB.out eX)
  have HO1 := Lib.hid (own_ext HO.out eX)
  have HC1 : Hid (∀ j u, (L.flatMap Tr.cs)[j]? = some u → w1.cell? ⟨g, j, none⟩ = some u) := Lib.hid fun j u hj => cell_keep (HC.out j u hj) eX
  have lg1 : g < w1.heap.size := Nat.lt_of_lt_of_le lg eX.size
  clear eX eT eZ x0 x1 x2 hcb HHB HC
  have lb1 : b < w1.heap.size := (Array.getElem?_eq_some_iff.1 HB1.out).1
  have hcb1 := fun j => cell_of_row w1 _ j _ _ _ HB1.out
  have c0 : (0 : Int) ≤ (cap : Int) := by omega
  have c1 : (i : Int) ≤ (cap : Int) := by omega
  have c2 : (i : Int) + 1 ≤ (cap : Int) := by omega
  have c3 : (i : Int) + 1 ≤ (L.length : Int) := by omega
  have c4 : (L.length : Int) ≤ (cap : Int) := by omega
  have c5 : (0 : Int) ≤ (i : Int) + 1 := by omega
  unfold Hd2
  go_upto_region 2 with fail
  go_cut [] (fun wx => Hid ((∃ v', RefW b B v' ⟨now, next, L.eraseIdx i⟩ wx ∧ Keeps (b :: rowB (.slice (some ⟨g, 0, none⟩) L.length cap)) w wx ∧ ∀ k ∈ rowB v', w.heap.size + 1 < k) ∧ wx.heap[w.heap.size]? = some (.cells #[.int .i64 0, .int .i64 0, .string { data := #[] }] 72 (0, 0)) ∧ wx.heap[w.heap.size + 1]? = some (.cells #[.int .i64 t.id, .int .i64 t.a, .string t.v] 72 (0, 0))))
  case first =>
    by_cases hce : cap = i + 1
    · subst hce
      refine wp_region_late (af := ?af1) [true, false, true, true, true, true, true, true, false, true, true, true, true, true, true, true, false, false, false, false] [false, false, false, false, false, false, false, false, false, false, false, false, false, false, false, false, false, true, true, true] 33 (Ext w1) (by kernel_rfl) rfl (by kernel_rfl) (fun _ _ h e => Ext.trans h e) (Ext.refl _).drew ?q ?r
      case q =>
        intro w' hw'
        obtain ⟨y, rfl⟩ := ext_of hw'
        simp only [pickT, if_true, if_false, Bool.false_eq_true]
        repeat (go_big_quiet_step (fail))
        exact rfl
      case r =>
        simp only [pickN, if_true, if_false, Bool.false_eq_true]
        intro y1
        have e1 : Ext w1 y1.val := (Ext.refl _).drew.val y1
        go_wp2_with fail
        refine ⟨by intros; exact e1.alloc _, ?_⟩
        intro y2
        have e2 : Ext w1 y2.val := (e1.alloc _).val y2
        go_wp2_with (at_builtin; refine unHd ?_)
        unfold Hd2
        refine wpList_app4 w1.heap.size 54 72 ti0 _ 3 32 Try.underlying54 hti hz0 hz1 hz2 rfl (by decide) rfl _ _ rfl (.slice (some ⟨y1.val.heap.size, 0, none⟩) 0 0) 0 [] rfl (own_ext (World.ownsRow_made y1.val #[] 0 e1.size (by unfold maxLen; omega) rfl) y2.ext) e2.size _ i ((L.take i).flatMap Tr.cs) rfl (by have := row_part (fun j u hj => cell_keep (HC1.out j u hj) e2) 0 i (i + 1) (by omega) (by omega) (by unfold maxLen; omega); simp only [Nat.zero_mul, Nat.sub_zero, List.drop_zero] at this; exact this) (.inr ⟨_, _, _, rfl⟩) (tr_one _) (by unfold maxLen; omega) (by omega) ?_
        intro v3 w3 own3 b3 g3
        have e3 : Ext w1 w3 := Ext.trans' e2 b3
        refine ⟨by intros; exact e3, ?_⟩
        intro y3
        have e3' : Ext w1 y3.val := e3.val y3
        go_wp2_with (at_builtin; refine unHd ?_)
        unfold Hd2
        refine wpList_app4 w1.heap.size 54 72 ti0 _ 3 32 Try.underlying54 hti hz0 hz1 hz2 rfl (by decide) rfl _ _ rfl v3 (0 + i) _ rfl (own_ext own3 y3.ext) e3'.size _ (L.length - (i + 1)) ((L.drop (i + 1)).flatMap Tr.cs) rfl ⟨by rw [tr_flat, List.length_drop], .inl ⟨by omega, some ⟨g, 0, none⟩, 0, rfl⟩⟩ (.inr ⟨_, _, _, rfl⟩) (tr_one _) (by unfold maxLen; omega) (by omega) ?_
        intro v4 w4 own4 b4 g4
        have e4 : Ext w1 w4 := Ext.trans' e3' b4
        refine ⟨by intros; exact e4, ?_⟩
        intro y4
        go_wp2_with fail
        try refine ⟨fun h => absurd h (by decide), ?_⟩
        intro y5
        go_wp2_with fail
        try refine ⟨fun h => absurd h (by decide), ?_⟩
        intro y6
        have e6 : Ext w1 y6.val := ((e4.val y4).val y5).val y6
        have hb6 := heap_ext HB1.out e6
        have o6 := own_ext own4 ((y4.ext.trans y5.ext).trans y6.ext)
        have HT6 := Lib.hid (heap_ext HT1.out e6)
        have HZ6 := Lib.hid (heap_ext HZ1.out e6)
        have hcb6 := fun j => cell_of_row y6.val _ j _ _ _ hb6
        have hfb6 := fun j => frozen_of_row y6.val _ j _ _ hb6
        obtain ⟨a4, n4, k4, rfl⟩ : ∃ a n c, v4 = .slice a n c := by
          rcases own4.2 with ⟨h, _⟩ | ⟨_, _, _, h, _⟩ <;> exact ⟨_, _, _, h⟩
        generalize y6.val = w6 at e6 hb6 o6 HT6 HZ6 hcb6 hfb6 ⊢
        have HB6 := Lib.hid hb6
        clear hb6
        go_wp2_with fail
        try refine ⟨fun h => absurd h (by decide), ?_⟩
        intro y7
        go_wp2_with fail
        go_meet
        have hsz : w1.heap.size ≤ w6.heap.size := e6.size
        have hw1 : w.heap.size + 1 < w1.heap.size := (Array.getElem?_eq_some_iff.1 HT1.out).1
        refine Lib.hid ⟨⟨.slice a4 n4 k4, ⟨by simpa using heap_ext (setCell_row HB6.out _) y7.ext, ?_⟩, ?_, fun k hk => ?_⟩, ?_, ?_⟩
        · have := own_ext (own_same o6 (fun k hk _ => cell_other (o := 2) (v := .slice a4 n4 k4) (show k ≠ b by omega))) y7.ext
          have e : (L.eraseIdx i).flatMap Tr.cs = [] ++ (L.take i).flatMap Tr.cs ++ (L.drop (i + 1)).flatMap Tr.cs := by rw [List.eraseIdx_eq_take_drop_succ, List.flatMap_append]; rfl
          have el : (L.eraseIdx i).length = 0 + i + (L.length - (i + 1)) := by rw [List.length_eraseIdx, if_pos hi]; omega
          simp only
          rw [e, el]
          exact own_base this (by omega)
        · exact ((((Keeps.refl _ w).ext HX1.out).ext e6).setCell (.inl (.head _)) 2 _).ext y7.ext
        · have := (o6.lt k (by unfold rowB at hk; split at hk <;> simp_all)).1
          omega
        · exact heap_ext ((cell_other (by show w.heap.size ≠ b; omega)).trans HZ6.out) y7.ext
        · exact heap_ext ((cell_other (by show w.heap.size + 1 ≠ b; omega)).trans HT6.out) y7.ext
    · have hce2 : ¬ cap = i + 1 := hce
      refine wp_region_late (af := ?af2) [true, false, true, true, true, true, true, true, false, true, true, true, true, true, true, true, false, false, false, false] [false, false, false, false, false, false, false, false, false, false, false, false, false, false, false, false, false, true, true, true] 33 (Ext w1) (by kernel_rfl) rfl (by kernel_rfl) (fun _ _ h e => Ext.trans h e) (Ext.refl _).drew ?q ?r
      case q =>
        intro w' hw'
        obtain ⟨y, rfl⟩ := ext_of hw'
        simp only [pickT, if_true, if_false, Bool.false_eq_true]
        repeat (go_big_quiet_step (fail))
        exact rfl
      case r =>
        simp only [pickN, if_true, if_false, Bool.false_eq_true]
        intro y1
        have e1 : Ext w1 y1.val := (Ext.refl _).drew.val y1
        go_wp2_with fail
        refine ⟨by intros; exact e1.alloc _, ?_⟩
        intro y2
        have e2 : Ext w1 y2.val := (e1.alloc _).val y2
        go_wp2_with (at_builtin; refine unHd ?_)
        unfold Hd2
        refine wpList_app4 w1.heap.size 54 72 ti0 _ 3 32 Try.underlying54 hti hz0 hz1 hz2 rfl (by decide) rfl _ _ rfl (.slice (some ⟨y1.val.heap.size, 0, none⟩) 0 0) 0 [] rfl (own_ext (World.ownsRow_made y1.val #[] 0 e1.size (by unfold maxLen; omega) rfl) y2.ext) e2.size _ i ((L.take i).flatMap Tr.cs) rfl (by have := row_part (fun j u hj => cell_keep (HC1.out j u hj) e2) 0 i cap (by omega) (by omega) (by unfold maxLen; omega); simp only [Nat.zero_mul, Nat.sub_zero, List.drop_zero] at this; exact this) (.inr ⟨_, _, _, rfl⟩) (tr_one _) (by unfold maxLen; omega) (by omega) ?_
        intro v3 w3 own3 b3 g3
        have e3 : Ext w1 w3 := Ext.trans' e2 b3
        refine ⟨by intros; exact e3, ?_⟩
        intro y3
        have e3' : Ext w1 y3.val := e3.val y3
        go_wp2_with (at_builtin; refine unHd ?_)
        unfold Hd2
        refine wpList_app4 w1.heap.size 54 72 ti0 _ 3 32 Try.underlying54 hti hz0 hz1 hz2 rfl (by decide) rfl _ _ rfl v3 (0 + i) _ rfl (own_ext own3 y3.ext) e3'.size _ (L.length - (i + 1)) ((L.drop (i + 1)).flatMap Tr.cs) rfl (by have := row_part (fun j u hj => cell_keep (HC1.out j u hj) e3') (i + 1) L.length (cap - (i + 1)) (by omega) (by omega) (by unfold maxLen; omega); rw [List.take_length] at this; exact this) (.inr ⟨_, _, _, rfl⟩) (tr_one _) (by unfold maxLen; omega) (by omega) ?_
        intro v4 w4 own4 b4 g4
        have e4 : Ext w1 w4 := Ext.trans' e3' b4
        refine ⟨by intros; exact e4, ?_⟩
        intro y4
        go_wp2_with fail
        try refine ⟨fun h => absurd h (by decide), ?_⟩
        intro y5
        go_wp2_with fail
        try refine ⟨fun h => absurd h (by decide), ?_⟩
        intro y6
        have e6 : Ext w1 y6.val := ((e4.val y4).val y5).val y6
        have hb6 := heap_ext HB1.out e6
        have o6 := own_ext own4 ((y4.ext.trans y5.ext).trans y6.ext)
        have HT6 := Lib.hid (heap_ext HT1.out e6)
        have HZ6 := Lib.hid (heap_ext HZ1.out e6)
        have hcb6 := fun j => cell_of_row y6.val _ j _ _ _ hb6
        have hfb6 := fun j => frozen_of_row y6.val _ j _ _ hb6
        obtain ⟨a4, n4, k4, rfl⟩ : ∃ a n c, v4 = .slice a n c := by
          rcases own4.2 with ⟨h, _⟩ | ⟨_, _, _, h, _⟩ <;> exact ⟨_, _, _, h⟩
        generalize y6.val = w6 at e6 hb6 o6 HT6 HZ6 hcb6 hfb6 ⊢
        have HB6 := Lib.hid hb6
        clear hb6
        go_wp2_with fail
        try refine ⟨fun h => absurd h (by decide), ?_⟩
        intro y7
        go_wp2_with fail
        go_meet
        have hsz : w1.heap.size ≤ w6.heap.size := e6.size
        have hw1 : w.heap.size + 1 < w1.heap.size := (Array.getElem?_eq_some_iff.1 HT1.out).1
        refine Lib.hid ⟨⟨.slice a4 n4 k4, ⟨by simpa using heap_ext (setCell_row HB6.out _) y7.ext, ?_⟩, ?_, fun k hk => ?_⟩, ?_, ?_⟩
        · have := own_ext (own_same o6 (fun k hk _ => cell_other (o := 2) (v := .slice a4 n4 k4) (show k ≠ b by omega))) y7.ext
          have e : (L.eraseIdx i).flatMap Tr.cs = [] ++ (L.take i).flatMap Tr.cs ++ (L.drop (i + 1)).flatMap Tr.cs := by rw [List.eraseIdx_eq_take_drop_succ, List.flatMap_append]; rfl
          have el : (L.eraseIdx i).length = 0 + i + (L.length - (i + 1)) := by rw [List.length_eraseIdx, if_pos hi]; omega
          simp only
          rw [e, el]
          exact own_base this (by omega)
        · exact ((((Keeps.refl _ w).ext HX1.out).ext e6).setCell (.inl (.head _)) 2 _).ext y7.ext
        · have := (o6.lt k (by unfold rowB at hk; split at hk <;> simp_all)).1
          omega
        · exact heap_ext ((cell_other (by show w.heap.size ≠ b; omega)).trans HZ6.out) y7.ext
        · exact heap_ext ((cell_other (by show w.heap.size + 1 ≠ b; omega)).trans HT6.out) y7.ext
  case rest =>
    obtain ⟨⟨v', hW2, hk2, hr2⟩, hz2, ht2⟩ := hcut.out
    have HW2 := Lib.hid hW2
    have HK2 := Lib.hid hk2
    have HR2 := Lib.hid hr2
    have HZ2 := Lib.hid hz2
    clear hcut hcb1 lb1 hW2 hk2 hr2 hz2 HX1 HT1 HZ1 HB1 HO1 HC1 lg1
    go_wp2_with (first | (refine wpList_load_row rfl 72 _ rfl _ rfl _ _ (0, 0) _ ht2 Try.underlying72 rfl (info_tr3 _ _ _) ?_) | (refine wpList_store_row rfl 72 _ _ rfl w.heap.size _ rfl rfl 72 _ HZ2.out (info_tr3 _ _ _) rfl (by simp [Value.oneCell']) (unHd ?_)))
    have eT := setRow_heap _ _ _ #[.int .i64 t.id, .int .i64 t.a, .string t.v] _ _ HZ2.out
    have hW3 : RefW b B v' ⟨now, next, L.eraseIdx i⟩ (wc.setRow w.heap.size #[.int .i64 t.id, .int .i64 t.a, .string t.v]) := ⟨(setRow_other _ _ _ _ (by omega)).trans HW2.out.1, own_rowB HW2.out.2 fun k hk => setRow_other _ _ _ _ (by have := HR2.out k hk; omega)⟩
    have k3 := HK2.out.setRow (g := w.heap.size) (.inr (Nat.le_refl _)) #[.int .i64 t.id, .int .i64 t.a, .string t.v]
    have HR3 : ∀ k ∈ rowB v', w.heap.size ≤ k := fun k hk => by have := HR2.out k hk; omega
    have HRR := Lib.hid HR3
    clear HR3
    generalize World.setRow _ _ _ = w3 at eT hW3 k3 ⊢
    have HW3 := Lib.hid hW3
    have HK3 := Lib.hid k3
    clear hW3 k3 ht2
    unfold Hd2
    go_wp2_with fail
    refine bodyPost_ret (results_cell_row rfl _ _ _ 72 _ (0, 0) _ rfl eT Try.underlying72 rfl (info_tr3 _ _ _)) rfl ?_
    exact ⟨rfl, v', HW3.out, HK3.out, HRR.out⟩
end Go.Proofs.Ytibdplfdmncgiaa

/-
  Walk: the document's wheel: Set, After, Cancel, Move. No condition.
-/
namespace Go.Proofs.Ytibdplfdmncgiaa
open Go.RowKit
attribute [local go_sem] ExtOf.cell ExtOf.frozen ExtOf.lt ExtOf.le
attribute [local go_sem high] ExtOf.cell2 ExtOf.frozen2 ExtOf.lt2 ExtOf.cell3 ExtOf.frozen3 ExtOf.lt3 ExtOf.cellX ExtOf.frozenX ExtOf.cellX' ExtOf.frozenX'

theorem Keeps.trans2 {X Y : List Nat} {a b c : World} (h : Keeps X a b) (k : Keeps Y b c) (hy : ∀ g ∈ Y, g ∈ X ∨ a.heap.size ≤ g) : Keeps X a c :=
  ⟨k.os.trans h.os, k.tape.trans h.tape, k.output.trans h.output, Nat.le_trans h.size k.size, fun i hi hx =>
    (k.block i (Nat.lt_of_lt_of_le hi h.size) fun e => by
      rcases hy i e with h1 | h1
      · exact hx h1
      · omega).trans (h.block i hi hx)⟩

theorem put_ins {R : Rw} (hs : R.L.Pairwise (fun x y => x.a ≤ y.a)) (t : Tr) : upR R.L.length (R.L ++ [t]) = insR t R.L := by
  rw [upR_ok R.L.length R.L t [] rfl hs, List.append_nil]

theorem insR_len (t : Tr) : ∀ L : List Tr, (insR t L).length = L.length + 1
  | [] => rfl
  | y :: L => by
    unfold insR
    split
    · rw [List.length_cons, insR_len t L]; rfl
    · rfl

set_option maxRecDepth 100000 in
set_option maxHeartbeats 8000000 in
theorem ref_set (b B : Nat) (v : Value) (R : Rw) (at_ : Int) (s : ByteArray) (w : World) (hW : RefW b B v R w) (hB : b < B) (hBw : B ≤ w.heap.size) (hL : R.L.length ≤ 100000) (hs : R.L.Pairwise (fun x y => x.a ≤ y.a)) (hn : 0 ≤ R.next ∧ R.next ≤ 100000) :
    Calls Try.prog 48 #[.pointer (some ⟨b, 0, none⟩), .int .i64 at_, .string s] w (RefTo b B v (setR R at_ s).2 (numV (setR R at_ s).1) w) := by
  obtain ⟨now, next, L⟩ := R
  have HW := Lib.hid hW
  obtain ⟨hb, hown⟩ := hW
  simp only at hb hown hL hs hn ⊢
  obtain ⟨a, cap, rfl, hm, _⟩ := own_view hown
  have lb : b < w.heap.size := (Array.getElem?_eq_some_iff.1 hb).1
  have hcb := fun j => cell_of_row w _ j _ _ _ hb
  obtain ⟨n0, n1⟩ := hn
  have HS := Lib.hid hs
  clear hb hown hm hs
  by_cases h1 : at_ ≤ now
  · have hr : setR ⟨now, next, L⟩ at_ s = ((0, 140), ⟨now, next, L⟩) := by unfold setR; rw [if_pos h1]
    rw [hr]
    go_enter Try.func48, Try.ntmps48
    go_wp2_with fail
    go_ret2
    exact ⟨rfl, _, HW.out, Keeps.refl _ _, fun q hq => .inl hq⟩
  · have h1' : now < at_ := by omega
    by_cases h2 : 4096 ≤ (L.length : Int)
    · have hr : setR ⟨now, next, L⟩ at_ s = ((0, 6), ⟨now, next, L⟩) := by unfold setR; rw [if_neg h1, if_pos h2]
      rw [hr]
      clear hr h1
      go_enter Try.func48, Try.ntmps48
      go_wp2_with fail
      go_ret2
      exact ⟨rfl, _, HW.out, Keeps.refl _ _, fun q hq => .inl hq⟩
    · have h2' : (L.length : Int) < 4096 := by omega
      have hr : setR ⟨now, next, L⟩ at_ s = ((next, 0), ⟨now, next + 1, insR ⟨next, at_, s⟩ L⟩) := by unfold setR; rw [if_neg h1, if_neg h2]
      rw [hr]
      clear hr h1 h2
      go_enter Try.func48, Try.ntmps48
      go_wp2_with fail
      refine (ref_put b B _ ⟨now, next, L⟩ ⟨next, at_, s⟩ w HW.out hB hBw hL).mono ?_
      rintro e w2 ⟨rfl, v', hW2, hk2, hr2⟩
      simp only at hW2
      rw [put_ins (R := ⟨now, next, L⟩) HS.out] at hW2
      obtain ⟨hb2, ho2⟩ := hW2
      have lb2 : b < w2.heap.size := (Array.getElem?_eq_some_iff.1 hb2).1
      have hcb2 := fun j => cell_of_row w2 _ j _ _ _ hb2
      have hfb2 := fun j => frozen_of_row w2 _ j _ _ hb2
      have HB2 := Lib.hid hb2
      have HO2 := Lib.hid ho2
      have HK2 := Lib.hid hk2
      have HR2 := Lib.hid hr2
      clear hcb lb hb2 ho2 hk2 hr2
      go_upto_region 7 with fail
      have hb3 := setCell_row (o := 1) HB2.out (.int .i64 (next + 1))
      have o3 := own_same HO2.out (w' := w2.setCell ⟨b, 1, none⟩ (.int .i64 (next + 1))) (fun k hk _ => cell_other (show k ≠ b by omega))
      have k3 := HK2.out.setCell (g := b) (.inl (.head _)) 1 (.int .i64 (next + 1))
      generalize w2.setCell ⟨b, 1, none⟩ (.int .i64 (next + 1)) = w3 at hb3 o3 k3 ⊢
      have hb3' : w3.heap[b]? = some (.cells #[.int .i64 now, .int .i64 (next + 1), v'] 56 (0, 0)) := by simpa using hb3
      have lb3 : b < w3.heap.size := (Array.getElem?_eq_some_iff.1 hb3').1
      have hcb3 := fun j => cell_of_row w3 _ j _ _ _ hb3'
      have HB3 := Lib.hid hb3'
      have HO3 := Lib.hid o3
      have HK3 := Lib.hid k3
      clear hcb2 hfb2 lb2 hb3 hb3' o3 k3
      have e1 : next + 1 - 1 = next := by omega
      go_wp2_with fail
      go_ret2
      exact ⟨by first | rfl | (rw [e1]; rfl), v', ⟨HB3.out, HO3.out⟩, HK3.out, HR2.out⟩

set_option maxRecDepth 100000 in
set_option maxHeartbeats 8000000 in
theorem ref_after (b B : Nat) (v : Value) (R : Rw) (n : Int) (s : ByteArray) (w : World) (hW : RefW b B v R w) (hB : b < B) (hBw : B ≤ w.heap.size) (hL : R.L.length ≤ 100000) (hs : R.L.Pairwise (fun x y => x.a ≤ y.a)) (hn : 0 ≤ R.next ∧ R.next ≤ 100000)
    (h0 : 0 ≤ R.now) (h9 : R.now ≤ 9223372036854775807) : Calls Try.prog 34 #[.pointer (some ⟨b, 0, none⟩), .int .i64 n, .string s] w (RefTo b B v (afterR R n s).2 (numV (afterR R n s).1) w) := by
  have HW := Lib.hid hW
  have lb : b < w.heap.size := (Array.getElem?_eq_some_iff.1 hW.1).1
  have hcb := fun j => cell_of_row w _ j _ _ _ hW.1
  have HS := Lib.hid hs
  have HN := Lib.hid hn
  clear hW hs hn
  have w1 : IntKind.i64.wrap (9223372036854775807 - R.now) = 9223372036854775807 - R.now := IntWalk.i64_in _ (by omega)
  by_cases h1 : n < 1
  · have hr : afterR R n s = ((0, 2), R) := by unfold afterR; rw [if_pos (.inl h1)]
    rw [hr]
    clear hr
    go_enter Try.func34, Try.ntmps34
    go_wp2_with fail
    go_ret2
    exact ⟨rfl, _, HW.out, Keeps.refl _ _, fun q hq => .inl hq⟩
  · have h1' : 1 ≤ n := by omega
    by_cases h2 : 9223372036854775807 - R.now < n
    · have hr : afterR R n s = ((0, 2), R) := by unfold afterR; rw [if_pos (.inr h2)]
      rw [hr]
      clear hr h1
      go_enter Try.func34, Try.ntmps34
      go_wp2_with fail
      go_ret2
      exact ⟨rfl, _, HW.out, Keeps.refl _ _, fun q hq => .inl hq⟩
    · have h2' : n ≤ 9223372036854775807 - R.now := by omega
      have hr : afterR R n s = setR R (R.now + n) s := by unfold afterR; rw [if_neg (by omega)]
      rw [hr]
      have w2 : IntKind.i64.wrap (R.now + n) = R.now + n := IntWalk.i64_in _ (by omega)
      have hS := ref_set b B v R (R.now + n) s w HW.out hB hBw hL HS.out HN.out
      generalize setR R (R.now + n) s = r at hS ⊢
      obtain ⟨⟨x, y⟩, R2⟩ := r
      simp only [numV] at hS ⊢
      clear hr h1 h2
      go_enter Try.func34, Try.ntmps34
      go_wp2_with fail
      refine hS.mono ?_
      rintro e w3 ⟨rfl, v', hW3, hk3, hr3⟩
      have HW3 := Lib.hid hW3
      have HK3 := Lib.hid hk3
      have HR3 := Lib.hid hr3
      clear hW3 hk3 hr3 hcb lb
      go_wp2_with fail
      go_ret2
      exact ⟨rfl, v', HW3.out, HK3.out, HR3.out⟩

theorem field2_tr (x y : Int) (z : ByteArray) (w : World) : (Instr.field 72 (.agg #[.int .i64 x, .int .i64 y, .string z]) 2).run Try.prog w = .ok (.string z) w := by kernel_rfl
attribute [local go_sem] field2_tr

/-- What the document's Cancel answers. -/
def cancelR (R : Rw) (k : Int) : Value × Rw := match findR R.L k with
  | none => (.tuple #[.string { data := #[] }, .bool false], R)
  | some i => match R.L[i]? with
    | none => (.tuple #[.string { data := #[] }, .bool false], R)
    | some t => (.tuple #[.string t.v, .bool true], { R with L := R.L.eraseIdx i })
theorem find_lt {L : List Tr} {k : Int} {i : Nat} (h : findR L k = some i) : i < L.length := by
  unfold findR at h
  exact (List.findIdx?_eq_some_iff_getElem.1 h).1

set_option maxRecDepth 100000 in
set_option maxHeartbeats 8000000 in
theorem ref_cancel (b B : Nat) (v : Value) (R : Rw) (k : Int) (w : World) (hW : RefW b B v R w) (hBw : B ≤ w.heap.size) (hL : R.L.length ≤ 100000) :
    Calls Try.prog 50 #[.pointer (some ⟨b, 0, none⟩), .int .i64 k] w (RefTo b B v (cancelR R k).2 (cancelR R k).1 w) := by
  have HW := Lib.hid hW
  have hF := ref_find b B v R k w hW
  clear hW
  cases hf : findR R.L k with
  | none =>
    have hr : cancelR R k = (.tuple #[.string { data := #[] }, .bool false], R) := by unfold cancelR; rw [hf]
    have hi : findI R.L k = -1 := by unfold findI; rw [hf]
    rw [hr]
    rw [hi] at hF
    clear hr hi hf
    go_enter Try.func50, Try.ntmps50
    go_wp2_with fail
    refine hF.mono ?_
    rintro e w1 ⟨rfl, rfl⟩
    go_wp2_with fail
    go_ret2
    exact ⟨rfl, _, HW.out, Keeps.refl _ _, fun q hq => .inl hq⟩
  | some i =>
    have hlt := find_lt hf
    obtain ⟨t, ht⟩ : ∃ t, R.L[i]? = some t := ⟨_, List.getElem?_eq_getElem hlt⟩
    have hr : cancelR R k = (.tuple #[.string t.v, .bool true], { R with L := R.L.eraseIdx i }) := by unfold cancelR; rw [hf]; simp only [ht]
    have hi : findI R.L k = i := by unfold findI; rw [hf]
    rw [hr]
    rw [hi] at hF
    have HT := Lib.hid ht
    clear hr hi hf hlt ht
    have i0 : (0 : Int) ≤ (i : Int) := by omega
    go_enter Try.func50, Try.ntmps50
    go_wp2_with fail
    refine hF.mono ?_
    rintro e w1 ⟨rfl, rfl⟩
    go_wp2_with fail
    refine (ref_take b B v R i t _ HW.out hBw hL HT.out).mono ?_
    rintro e w2 ⟨rfl, v', hW2, hk2, hr2⟩
    have HW2 := Lib.hid hW2
    have HK2 := Lib.hid hk2
    have HR2 := Lib.hid hr2
    clear hW2 hk2 hr2
    go_wp2_with fail
    go_ret2
    exact ⟨rfl, v', HW2.out, HK2.out, fun g hg => .inr (HR2.out g hg)⟩

set_option maxRecDepth 100000 in
set_option maxHeartbeats 8000000 in
theorem ref_move (b B : Nat) (v : Value) (R : Rw) (k at_ : Int) (w : World) (hW : RefW b B v R w) (hB : b < B) (hBw : B ≤ w.heap.size) (hL : R.L.length ≤ 100000) (hs : R.L.Pairwise (fun x y => x.a ≤ y.a)) :
    Calls Try.prog 52 #[.pointer (some ⟨b, 0, none⟩), .int .i64 k, .int .i64 at_] w (RefTo b B v (moveR R k at_).2 (.int .i64 (moveR R k at_).1) w) := by
  have HW := Lib.hid hW
  have lb : b < w.heap.size := (Array.getElem?_eq_some_iff.1 hW.1).1
  have hcb := fun j => cell_of_row w _ j _ _ _ hW.1
  have hF := ref_find b B v R k w hW
  have HS := Lib.hid hs
  clear hW hs
  cases hf : findR R.L k with
  | none =>
    have hr : moveR R k at_ = (7, R) := by unfold moveR; rw [hf]
    have hi : findI R.L k = -1 := by unfold findI; rw [hf]
    rw [hr]
    rw [hi] at hF
    clear hr hi hf
    go_enter Try.func52, Try.ntmps52
    go_wp2_with fail
    refine hF.mono ?_
    rintro e w1 ⟨rfl, rfl⟩
    go_wp2_with fail
    go_ret
    exact ⟨rfl, _, HW.out, Keeps.refl _ _, fun q hq => .inl hq⟩
  | some i =>
    have hlt := find_lt hf
    obtain ⟨t, ht⟩ : ∃ t, R.L[i]? = some t := ⟨_, List.getElem?_eq_getElem hlt⟩
    have hi : findI R.L k = i := by unfold findI; rw [hf]
    rw [hi] at hF
    have i0 : (0 : Int) ≤ (i : Int) := by omega
    by_cases h1 : at_ ≤ R.now
    · have hr : moveR R k at_ = (140, R) := by unfold moveR; rw [hf]; simp only [if_pos h1]
      rw [hr]
      clear hr hi hf hlt ht
      go_enter Try.func52, Try.ntmps52
      go_wp2_with fail
      refine hF.mono ?_
      rintro e w1 ⟨rfl, he⟩
      obtain rfl := he
      go_wp2_with fail
      go_ret
      exact ⟨rfl, _, HW.out, Keeps.refl _ _, fun q hq => .inl hq⟩
    · have h1' : R.now < at_ := by omega
      have hr : moveR R k at_ = (0, { R with L := insR ⟨t.id, at_, t.v⟩ (R.L.eraseIdx i) }) := by unfold moveR; rw [hf]; simp only [if_neg h1, ht]
      rw [hr]
      have HT := Lib.hid ht
      have hle : (R.L.eraseIdx i).length ≤ 100000 := Nat.le_trans (List.length_eraseIdx_le _ _) hL
      clear hr hi hf hlt ht h1
      go_enter Try.func52, Try.ntmps52
      go_wp2_with fail
      refine hF.mono ?_
      rintro e w1 ⟨rfl, he⟩
      obtain rfl := he
      go_wp2_with fail
      refine (ref_take b B v R i t _ HW.out hBw hL HT.out).mono ?_
      rintro e w2 ⟨rfl, v', hW2, hk2, hr2⟩
      have HW2 := Lib.hid hW2
      have HK2 := Lib.hid hk2
      have HR2 := Lib.hid hr2
      clear hW2 hk2 hr2 hcb lb
      go_wp2_with (refine wpList_store_row rfl 72 _ _ rfl w2.heap.size _ rfl rfl 72 _ (heap_new rfl) (info_tr3 _ _ _) rfl (by simp [Value.oneCell']) (unHd ?_))
      have eX : Ext w2 ((w2.alloc (.cells #[.int .i64 0, .int .i64 0, .string { data := #[] }] 72)).setRow w2.heap.size #[.int .i64 t.id, .int .i64 t.a, .string t.v]) := ((Ext.refl w2).alloc _).setRow (Nat.le_refl _) _
      have eT := setRow_heap _ _ _ #[.int .i64 t.id, .int .i64 t.a, .string t.v] _ _ (heap_new (w := w2) (o := .cells #[.int .i64 0, .int .i64 0, .string { data := #[] }] 72) rfl)
      generalize World.setRow _ _ _ = w3 at eX eT ⊢
      have lt3 : w2.heap.size < w3.heap.size := (Array.getElem?_eq_some_iff.1 eT).1
      have hct3 := fun j => cell_of_row w3 _ j _ _ _ eT
      have hft3 := fun j => frozen_of_row w3 _ j _ _ eT
      have HX3 := Lib.hid eX
      have HT3 := Lib.hid eT
      clear eX eT
      unfold Hd2
      go_upto_region 8 with fail
      have eT4 := setCell_row (o := 1) HT3.out (.int .i64 at_)
      have eX4 : Ext w2 (w3.setCell ⟨w2.heap.size, 1, none⟩ (.int .i64 at_)) := HX3.out.setCell (Nat.le_refl _) _
      generalize w3.setCell ⟨w2.heap.size, 1, none⟩ (.int .i64 at_) = w4 at eT4 eX4 ⊢
      have eT4' : w4.heap[w2.heap.size]? = some (.cells #[.int .i64 t.id, .int .i64 at_, .string t.v] 72 (0, 0)) := by simpa using eT4
      have HX4 := Lib.hid eX4
      clear hct3 hft3 lt3 eT4 eX4 HX3 HT3
      go_wp2_with (refine wpList_load_row rfl 72 _ rfl _ rfl _ _ (0, 0) _ eT4' Try.underlying72 rfl (info_tr3 _ _ _) (unHd ?_))
      unfold Hd2
      go_wp2_with fail
      refine (ref_put b B v' ⟨R.now, R.next, R.L.eraseIdx i⟩ ⟨t.id, at_, t.v⟩ w4 (HW2.out.ext HX4.out) hB (Nat.le_trans (Nat.le_trans hBw HK2.out.size) HX4.out.size) hle).mono ?_
      rintro e w5 ⟨rfl, v5, hW5, hk5, hr5⟩
      simp only at hW5
      rw [put_ins (R := ⟨R.now, R.next, R.L.eraseIdx i⟩) (List.Pairwise.sublist (List.eraseIdx_sublist _ _) HS.out)] at hW5
      have HW5 := Lib.hid hW5
      have HK5 := Lib.hid (((HK2.out.ext HX4.out).trans2 hk5 (fun g hg => by
        rcases List.mem_cons.1 hg with rfl | hg
        · exact .inl (.head _)
        · exact .inr (HR2.out g hg))))
      have HR5 : Hid (∀ g ∈ rowB v5, g ∈ rowB v ∨ _) := Lib.hid (fun g hg => .inr (by
        rcases hr5 g hg with h | h
        · exact HR2.out g h
        · exact Nat.le_trans (HK2.out.ext HX4.out).size h))
      clear hW5 hk5 hr5 eT4'
      go_wp2_with fail
      go_ret
      exact ⟨rfl, v5, HW5.out, HK5.out, HR5.out⟩
end Go.Proofs.Ytibdplfdmncgiaa

/-
  Walk: the document's wheel: Fires. No condition.
-/
namespace Go.Proofs.Ytibdplfdmncgiaa
open Go.RowKit
attribute [local go_sem] ExtOf.cell ExtOf.frozen ExtOf.lt ExtOf.le
attribute [local go_sem high] ExtOf.cell2 ExtOf.frozen2 ExtOf.lt2 ExtOf.cell3 ExtOf.frozen3 ExtOf.lt3 ExtOf.cellX ExtOf.frozenX ExtOf.cellX' ExtOf.frozenX'

theorem due_take {L : List Tr} {z : Int} : ∀ {n : Nat}, (∀ j u, j < n → L[j]? = some u → u.a ≤ z) → (∀ u, L[n]? = some u → ¬ u.a ≤ z) → dueR L z = L.take n ∧ restR L z = L.drop n := fun {n} h1 h2 => by
  induction L generalizing n with
  | nil => simp [dueR, restR]
  | cons x L ih =>
    cases n with
    | zero =>
      have := h2 x rfl
      unfold dueR restR
      rw [List.takeWhile_cons_of_neg (by simpa using this), List.dropWhile_cons_of_neg (by simpa using this)]
      exact ⟨rfl, rfl⟩
    | succ n =>
      have hx := h1 0 x (by omega) rfl
      obtain ⟨i1, i2⟩ := ih (n := n) (fun j u hj hu => h1 (j + 1) u (by omega) hu) (fun u hu => h2 u hu)
      unfold dueR restR at *
      rw [List.takeWhile_cons_of_pos (by simpa using hx), List.dropWhile_cons_of_pos (by simpa using hx), i1, i2]
      exact ⟨rfl, rfl⟩

/-- What is behind Fires. -/
def FiredW (b B : Nat) (v : Value) (R : Rw) (z : Int) (w : World) : Ending → World → Prop := fun e w' =>
  ∃ vl v', e = .returned vl ∧ RefW b B v' ⟨z, R.next, restR R.L z⟩ w' ∧ w'.ownsRow w.heap.size 72 3 vl (dueR R.L z).length ((dueR R.L z).flatMap Tr.cs) ∧ Keeps (b :: rowB v) w w' ∧ ∀ g ∈ rowB v', g ∈ rowB v ∨ w.heap.size ≤ g

set_option maxRecDepth 100000 in
set_option maxHeartbeats 8000000 in
theorem ref_fires (b B : Nat) (v : Value) (R : Rw) (z : Int) (w : World) (hW : RefW b B v R w) (hb0 : b < w.heap.size) (hB : b < B) (hBw : B ≤ w.heap.size) (hL : R.L.length ≤ 100000) :
    Calls Try.prog 54 #[.pointer (some ⟨b, 0, none⟩), .int .i64 z] w (FiredW b B v R z w) := by
  obtain ⟨ti0, hti, hz0, hz1, hz2⟩ := info_parts info_tr
  have HW := Lib.hid hW
  clear hW
  obtain ⟨now, next, L⟩ := R
  simp only at hL ⊢
  unfold FiredW
  simp only
  go_enter Try.func54, Try.ntmps54
  go_wp2_with fail
  go_loopg [5] L.length (fun g o wr => ∃ (n : Nat) (vc : Value), n + g = L.length ∧ Hid (RefW b B vc ⟨now, next, L.drop n⟩ wr) ∧ Hid (wr.ownsRow w.heap.size 72 3 o n ((L.take n).flatMap Tr.cs)) ∧ Hid (Keeps (b :: rowB v) w wr) ∧
      Hid ((∀ q ∈ rowB vc, q ∈ rowB v ∨ w.heap.size ≤ q) ∧ (∀ q ∈ rowB o, q ∉ rowB vc)) ∧ Hid (∀ j u, j < n → L[j]? = some u → u.a ≤ z))
  case atStart => exact ⟨0, v, by omega, HW, Lib.hid (World.ownsRow_nil _ _ _ _), Lib.hid (Keeps.refl _ _), Lib.hid ⟨fun q hq => .inl hq, fun q hq => by simp [rowB, Value.ownBlock] at hq⟩, Lib.hid fun j u hj => by omega⟩
  case round =>
    obtain ⟨n, vc, hg, HW1, HO1, HK1, HR1, HN⟩ := hrel
    rename World => wr
    have hb1 := HW1.out.1
    have lb1 : b < wr.heap.size := (Array.getElem?_eq_some_iff.1 hb1).1
    obtain ⟨a, cap, rfl, hm, hvw⟩ := own_view HW1.out.2
    have hld : (L.drop n).length = L.length - n := List.length_drop
    simp only [hld] at hm hvw hb1
    have HV := Lib.hid hvw
    unfold maxLen at hm
    have hws : w.heap.size ≤ wr.heap.size := HK1.out.size
    clear hvw HW
    by_cases hlt : n < L.length
    · obtain ⟨t, hx⟩ : ∃ t, L[n]? = some t := ⟨_, List.getElem?_eq_getElem hlt⟩
      obtain ⟨g0, rfl, _, hgl, hcell⟩ := HV.out (by omega)
      have hx0 : (L.drop n)[0]? = some t := by rw [List.getElem?_drop, Nat.add_zero]; exact hx
      obtain ⟨q0, q1, q2⟩ := tr_cells hcell hx0
      simp only [Nat.zero_mul, Nat.zero_add] at q0 q1 q2
      have hlen : (0 : Int) < ((L.length - n : Nat) : Int) := by omega
      have hcb1 := fun j => cell_of_row wr _ j _ _ _ hb1
      have HX := Lib.hid hx
      have HX0 := Lib.hid hx0
      clear hcell hx hx0 hb1 hld
      by_cases hz : t.a ≤ z
      · go_wp2_with fail
        refine (ref_take b B _ ⟨now, next, L.drop n⟩ 0 t wr (by simpa using HW1.out) (by omega) (by simp; omega) HX0.out).mono ?_
        rintro e w2 ⟨rfl, v2, hW2, hk2, hr2⟩
        have he : (L.drop n).eraseIdx 0 = L.drop (n + 1) := by rw [List.eraseIdx_zero, List.tail_drop]
        simp only [he] at hW2
        have hro : ∀ q ∈ rowB u5, q < wr.heap.size ∧ w.heap.size ≤ q := fun q hq => by
          have := HO1.out.lt q (by unfold rowB at hq; split at hq <;> simp_all)
          omega
        have o2 := own_rowB HO1.out (w' := w2) fun k hk => hk2.block k (hro k hk).1 fun h => by
          rcases List.mem_cons.1 h with h | h
          · have := (hro k hk).2
            omega
          · exact HR1.out.2 k hk (by simpa using h)
        have HW2 := Lib.hid hW2
        have HK2 := Lib.hid hk2
        have HR2 := Lib.hid hr2
        have HO2 := Lib.hid o2
        have HRO := Lib.hid hro
        have hs2 : wr.heap.size ≤ w2.heap.size := hk2.size
        clear hW2 hk2 hr2 o2 hro he hcb1 lb1 q0 q1 q2
        go_wp2_with (at_builtin; refine unHd ?_)
        unfold Hd2
        refine wpList_app5 w.heap.size 54 72 ti0 _ 3 32 Try.underlying54 hti hz0 hz1 hz2 rfl (by decide) rfl _ _ rfl _ n _ rfl (own_ext HO2.out ((Ext.refl w2).alloc _)) (by simp; omega) w2.heap.size 1 1 #[.int .i64 t.id, .int .i64 t.a, .string t.v] (by decide) rfl (heap_new rfl) rfl (by simp [Value.oneCell']) (by unfold maxLen; omega) (by omega) ?_
        intro v5 w5 hown5 hg5 hr5
        have eA : Ext w2 (w2.alloc (.cells #[.int .i64 t.id, .int .i64 t.a, .string t.v] 72)) := (Ext.refl w2).alloc _
        have hg5 : (w2.alloc (.cells #[.int .i64 t.id, .int .i64 t.a, .string t.v] 72)).grownBy w5 u5.ownBlock := hg5
        have hr5 : ∀ q ∈ rowB v5, q ∈ rowB u5 ∨ (w2.alloc (.cells #[.int .i64 t.id, .int .i64 t.a, .string t.v] 72)).heap.size ≤ q := hr5
        have hro2 : ∀ q ∈ rowB u5, q < wr.heap.size ∧ w.heap.size ≤ q := HRO.out
        have hnb : ∀ k, k < w2.heap.size → k ∉ rowB u5 → w5.heap[k]? = w2.heap[k]? := fun k hk hn => (hg5.block k (Nat.lt_of_lt_of_le hk eA.size) (fun h => hn (by unfold rowB; rw [← h]; exact .head _))).trans (eA.block k hk)
        have lb2 : b < w2.heap.size := by omega
        have W5 : Hid (RefW b B v2 ⟨now, next, L.drop (n + 1)⟩ w5) := Lib.hid ⟨(hnb b lb2 (fun h => by have := (hro2 b h).2; omega)).trans HW2.out.1, own_rowB HW2.out.2 fun k hk => hnb k (HW2.out.2.lt k (by unfold rowB at hk; split at hk <;> simp_all)).2 (fun h => by have := (hro2 k h).1; have := HR2.out k hk; omega)⟩
        have HO5 := Lib.hid (show w5.ownsRow w.heap.size 72 3 v5 (n + 1) ((L.take (n + 1)).flatMap Tr.cs) by
          have e : L.take (n + 1) = L.take n ++ [t] := by rw [List.take_add_one, HX.out]; rfl
          rw [e, List.flatMap_append]
          simpa [Tr.cs] using hown5)
        have HK5 : Hid (Keeps (b :: rowB v) w w5) := Lib.hid ⟨hg5.os.trans (eA.os.trans (HK2.out.os.trans HK1.out.os)), hg5.tape.trans (eA.tape.trans (HK2.out.tape.trans HK1.out.tape)), hg5.output.trans (eA.output.trans (HK2.out.output.trans HK1.out.output)), by have := hg5.size; have := eA.size; omega, fun k hk hx => (hnb k (by omega) (fun h => by have := (hro2 k h).2; omega)).trans ((HK2.out.block k (by omega) (fun h => by
          rcases List.mem_cons.1 h with h | h
          · exact hx (by rw [h]; exact .head _)
          · rcases HR1.out.1 k (by simpa using h) with h | h
            · exact hx (List.mem_cons_of_mem _ h)
            · omega)).trans (HK1.out.block k hk hx))⟩
        have HR5 : Hid ((∀ q ∈ rowB v2, q ∈ rowB v ∨ w.heap.size ≤ q) ∧ (∀ q ∈ rowB v5, q ∉ rowB v2)) := Lib.hid ⟨fun q hq => .inr (by have := HR2.out q hq; omega), fun q hq h => by
          have h2 := HR2.out q h
          rcases hr5 q hq with h3 | h3
          · have := (hro2 q h3).1; omega
          · have := (HW2.out.2.lt q (by unfold rowB at h; split at h <;> simp_all)).2
            have := eA.size
            omega⟩
        clear hown5 hg5 hr5 eA hro2 hnb HW2 HK2 HR2 HO2 HRO
        go_wp2_with fail
        go_roundg (gk - 1)
        case rel => exact ⟨n + 1, v2, by omega, W5, HO5, HK5, HR5, Lib.hid fun j u hj hu => by
          rcases Nat.lt_or_ge j n with h | h
          · exact HN.out j u h hu
          · obtain rfl : j = n := by omega
            rw [HX.out] at hu; cases hu; exact hz⟩
        case measure => omega
      · have hz' : z < t.a := by omega
        have hfb1 := fun j => frozen_of_row wr _ j _ _ HW1.out.1
        clear hz
        go_wp2_with fail
        have hfin : dueR L z = L.take n ∧ restR L z = L.drop n := due_take HN.out fun u hu => by have h := HX.out; rw [hu] at h; cases h; omega
        have b3 := setCell_row (o := 0) HW1.out.1 (.int .i64 z)
        have o3 := own_same HW1.out.2 (w' := wr.setCell ⟨b, 0, none⟩ (.int .i64 z)) (fun k hk _ => cell_other (show k ≠ b by omega))
        have r3 := own_same HO1.out (w' := wr.setCell ⟨b, 0, none⟩ (.int .i64 z)) (fun k hk _ => cell_other (show k ≠ b by omega))
        have k3 := HK1.out.setCell (g := b) (.inl (.head _)) 0 (.int .i64 z)
        go_ret
        rw [hfin.1, hfin.2]
        have hlt0 : (L.take n).length = n := by rw [List.length_take]; omega
        exact ⟨_, rfl, _, ⟨by simpa using b3, by simpa using o3⟩, by rw [hlt0]; exact r3, k3, HR1.out.1⟩
    · have hlen : ¬ (0 : Int) < ((L.length - n : Nat) : Int) := by omega
      have hcb1 := fun j => cell_of_row wr _ j _ _ _ hb1
      have hfb1 := fun j => frozen_of_row wr _ j _ _ HW1.out.1
      clear hb1 hld
      go_wp2_with fail
      have hfin : dueR L z = L.take n ∧ restR L z = L.drop n := due_take HN.out fun u hu => absurd (List.getElem?_eq_some_iff.1 hu).1 hlt
      have b3 := setCell_row (o := 0) HW1.out.1 (.int .i64 z)
      have o3 := own_same HW1.out.2 (w' := wr.setCell ⟨b, 0, none⟩ (.int .i64 z)) (fun k hk _ => cell_other (show k ≠ b by omega))
      have r3 := own_same HO1.out (w' := wr.setCell ⟨b, 0, none⟩ (.int .i64 z)) (fun k hk _ => cell_other (show k ≠ b by omega))
      have k3 := HK1.out.setCell (g := b) (.inl (.head _)) 0 (.int .i64 z)
      go_ret
      rw [hfin.1, hfin.2]
      have hlt0 : (L.take n).length = n := by rw [List.length_take]; omega
      exact ⟨_, rfl, _, ⟨by simpa using b3, by simpa using o3⟩, by rw [hlt0]; exact r3, k3, HR1.out.1⟩
end Go.Proofs.Ytibdplfdmncgiaa

/-
  Walk: the wheel's After and Move. No condition.
-/
namespace Go.Proofs.Ytibdplfdmncgiaa
open Go.RowKit
attribute [local go_sem] ExtOf.cell ExtOf.frozen ExtOf.lt ExtOf.le
attribute [local go_sem high] ExtOf.cell2 ExtOf.frozen2 ExtOf.lt2 ExtOf.cell3 ExtOf.frozen3 ExtOf.lt3 ExtOf.cellX ExtOf.frozenX ExtOf.cellX' ExtOf.frozenX'

set_option maxRecDepth 100000 in
set_option maxHeartbeats 8000000 in
theorem after_string (p : At) (v : Value) (W : Wh) (n : Int) (s : ByteArray) (w : World) (hW : WheelW 101 47 p v W w) (hB : p.B ≤ w.heap.size) (hL : W.L.length ≤ 100000) (hm : 0 ≤ W.m ∧ W.m ≤ 100000) (ho : 0 ≤ W.ord ∧ W.ord ≤ 100000) (hi : 0 ≤ W.ids ∧ W.ids ≤ 100000)
    (h0 : 0 ≤ W.now) (h9 : W.now ≤ 9223372036854775807) : Calls Try.prog 31 #[.pointer (some ⟨p.bW, 0, none⟩), .int .i64 n, .string s] w (LaidW 101 47 p v (afterW W n s).2 (numV (afterW W n s).1) w) := by
  have HW := Lib.hid hW
  have lb : p.bW < w.heap.size := (Array.getElem?_eq_some_iff.1 hW.1).1
  have hcb := fun j => cell_of_row w _ j _ _ _ hW.1
  have HM := Lib.hid hm
  have HO := Lib.hid ho
  have HI := Lib.hid hi
  clear hW hm ho hi
  have w1 : IntKind.i64.wrap (9223372036854775807 - W.now) = 9223372036854775807 - W.now := IntWalk.i64_in _ (by omega)
  by_cases h1 : n < 1
  · have hr : afterW W n s = ((0, 2), W) := by unfold afterW; rw [if_pos (.inl h1)]
    rw [hr]
    clear hr
    go_enter Try.func31, Try.ntmps31
    go_wp2_with fail
    go_ret2
    exact ⟨rfl, _, HW.out, Keeps.refl _ _, fun q hq => .inl hq⟩
  · have h1' : 1 ≤ n := by omega
    by_cases h2 : 9223372036854775807 - W.now < n
    · have hr : afterW W n s = ((0, 2), W) := by unfold afterW; rw [if_pos (.inr h2)]
      rw [hr]
      clear hr h1
      go_enter Try.func31, Try.ntmps31
      go_wp2_with fail
      go_ret2
      exact ⟨rfl, _, HW.out, Keeps.refl _ _, fun q hq => .inl hq⟩
    · have h2' : n ≤ 9223372036854775807 - W.now := by omega
      have hr : afterW W n s = setW W (W.now + n) s := by unfold afterW; rw [if_neg (by omega)]
      rw [hr]
      have w2 : IntKind.i64.wrap (W.now + n) = W.now + n := IntWalk.i64_in _ (by omega)
      have hS := set_string p v W (W.now + n) s w HW.out hB hL HM.out HO.out HI.out
      generalize setW W (W.now + n) s = r at hS ⊢
      obtain ⟨⟨x, y⟩, W2⟩ := r
      simp only [numV] at hS ⊢
      clear hr h1 h2
      go_enter Try.func31, Try.ntmps31
      go_wp2_with fail
      refine hS.mono ?_
      rintro e w3 ⟨rfl, v', hW3, hk3, hr3⟩
      have HW3 := Lib.hid hW3
      have HK3 := Lib.hid hk3
      have HR3 := Lib.hid hr3
      clear hW3 hk3 hr3 hcb lb
      go_wp2_with fail
      go_ret2
      exact ⟨rfl, v', HW3.out, HK3.out, HR3.out⟩

set_option maxRecDepth 100000 in
set_option maxHeartbeats 8000000 in
theorem move_string (p : At) (v : Value) (W : Wh) (k at_ : Int) (w : World) (hW : WheelW 101 47 p v W w) (hB : p.B ≤ w.heap.size) (hL : W.L.length ≤ 100000) (hm : 0 ≤ W.m ∧ W.m ≤ 100000) (ho : 0 ≤ W.ord ∧ W.ord ≤ 100000) :
    Calls Try.prog 51 #[.pointer (some ⟨p.bW, 0, none⟩), .int .i64 k, .int .i64 at_] w (LaidW 101 47 p v (moveW W k at_).2 (.int .i64 (moveW W k at_).1) w) := by
  have HW := Lib.hid hW
  have lb : p.bW < w.heap.size := (Array.getElem?_eq_some_iff.1 hW.1).1
  have hcb := fun j => cell_of_row w _ j _ _ _ hW.1
  have hlk : (Instr.lookup 98 (.map (some p.bM)) (.int .i64 k) true).run Try.prog w = .ok (lookV W.S k true) w := run_lookup Try.underlying98 Try.underlying3 zero_string hW.2.1 k true
  have HM := Lib.hid hm
  have HO := Lib.hid ho
  clear hW hm ho
  rcases hg : getT W.S k with _ | t
  · have hr : moveW W k at_ = (7, W) := by unfold moveW; rw [hg]
    rw [show lookV W.S k true = .tuple #[.agg #[.int .i64 0, .int .i64 0, .string { data := #[] }], .bool false] by simp only [lookV, hg]] at hlk
    rw [hr]
    clear hr hg
    go_enter Try.func51, Try.ntmps51
    go_wp2_with (refine wpList_store_row rfl 112 _ _ rfl w.heap.size _ rfl rfl 112 _ (heap_new rfl) (info_tm_string _ _ _) rfl (by simp [Value.oneCell']) (unHd ?_))
    have eX : Ext w ((w.alloc (.cells #[.int .i64 0, .int .i64 0, .string { data := #[] }] 112)).setRow w.heap.size #[.int .i64 0, .int .i64 0, .string { data := #[] }]) := ((Ext.refl w).alloc _).setRow (Nat.le_refl _) _
    generalize World.setRow _ _ _ = w2 at eX ⊢
    have HX2 := Lib.hid eX
    clear hlk hcb lb eX
    unfold Hd2
    go_wp2_with fail
    go_ret
    exact ⟨rfl, v, HW.out.ext HX2.out, (Keeps.refl _ _).ext HX2.out, fun q hq => .inl hq⟩
  · rw [show lookV W.S k true = .tuple #[.agg #[.int .i64 t.a, .int .i64 t.o, .string t.v], .bool true] by simp only [lookV, hg]; rfl] at hlk
    by_cases h1 : at_ ≤ W.now
    · have hr : moveW W k at_ = (140, W) := by unfold moveW; rw [hg]; simp only [if_pos h1]
      rw [hr]
      clear hr hg
      go_enter Try.func51, Try.ntmps51
      go_wp2_with (refine wpList_store_row rfl 112 _ _ rfl w.heap.size _ rfl rfl 112 _ (heap_new rfl) (info_tm_string _ _ _) rfl (by simp [Value.oneCell']) (unHd ?_))
      have eX : Ext w ((w.alloc (.cells #[.int .i64 0, .int .i64 0, .string { data := #[] }] 112)).setRow w.heap.size #[.int .i64 t.a, .int .i64 t.o, .string t.v]) := ((Ext.refl w).alloc _).setRow (Nat.le_refl _) _
      generalize World.setRow _ _ _ = w2 at eX ⊢
      have HX2 := Lib.hid eX
      have lb2 : p.bW < w2.heap.size := Nat.lt_of_lt_of_le lb eX.size
      have hcb2 := fun j => cell_of_row w2 _ j _ _ _ (heap_ext HW.out.1 eX)
      clear hlk hcb lb eX
      unfold Hd2
      go_wp2_with fail
      go_ret
      exact ⟨rfl, v, HW.out.ext HX2.out, (Keeps.refl _ _).ext HX2.out, fun q hq => .inl hq⟩
    · have h1' : W.now < at_ := by omega
      have hr : moveW W k at_ = (0, laidW W k at_ t.v) := by unfold moveW; rw [hg]; simp only [if_neg h1]
      rw [hr]
      clear hr hg h1
      go_enter Try.func51, Try.ntmps51
      go_wp2_with (refine wpList_store_row rfl 112 _ _ rfl w.heap.size _ rfl rfl 112 _ (heap_new rfl) (info_tm_string _ _ _) rfl (by simp [Value.oneCell']) (unHd ?_))
      have eX : Ext w ((w.alloc (.cells #[.int .i64 0, .int .i64 0, .string { data := #[] }] 112)).setRow w.heap.size #[.int .i64 t.a, .int .i64 t.o, .string t.v]) := ((Ext.refl w).alloc _).setRow (Nat.le_refl _) _
      have eT := setRow_heap _ _ _ #[.int .i64 t.a, .int .i64 t.o, .string t.v] _ _ (heap_new (w := w) (o := .cells #[.int .i64 0, .int .i64 0, .string { data := #[] }] 112) rfl)
      generalize World.setRow _ _ _ = w2 at eX eT ⊢
      have HX2 := Lib.hid eX
      have lb2 : p.bW < w2.heap.size := Nat.lt_of_lt_of_le lb eX.size
      have hcb2 := fun j => cell_of_row w2 _ j _ _ _ (heap_ext HW.out.1 eX)
      have hct := fun j => cell_of_row w2 _ j _ _ _ eT
      have lt2 : w.heap.size < w2.heap.size := (Array.getElem?_eq_some_iff.1 eT).1
      clear hlk hcb lb eX eT
      unfold Hd2
      go_wp2_with fail
      refine (lay_string p v W k at_ t.v w2 (HW.out.ext HX2.out) (Nat.le_trans hB HX2.out.size) hL HM.out HO.out).mono ?_
      rintro e w3 ⟨rfl, v', hW3, hk3, hr3⟩
      have HW3 := Lib.hid hW3
      have HK3 := Lib.hid (((Keeps.refl (p.all v) w).ext HX2.out).trans hk3)
      have HR3 : Hid (∀ q ∈ rowB v', q ∈ rowB v ∨ w.heap.size ≤ q) := Lib.hid fun q hq => (hr3 q hq).imp id (fun h => Nat.le_trans HX2.out.size h)
      clear hW3 hk3 hr3 hcb2 lb2 hct lt2
      go_wp2_with fail
      go_ret
      exact ⟨rfl, v', HW3.out, HK3.out, HR3.out⟩
end Go.Proofs.Ytibdplfdmncgiaa

/-
  Walk: the order in which the timers' numbers are sorted. No condition.
-/
namespace Go.Proofs.Ytibdplfdmncgiaa
open Go.RowKit
attribute [local go_sem] ExtOf.cell ExtOf.frozen ExtOf.lt ExtOf.le
attribute [local go_sem high] ExtOf.cell2 ExtOf.frozen2 ExtOf.lt2 ExtOf.cell3 ExtOf.frozen3 ExtOf.lt3 ExtOf.cellX ExtOf.frozenX ExtOf.cellX' ExtOf.frozenX'

/-- The timer of a number; nought if it is not set. -/
def tmZ (S : List Tm) (k : Int) : Tm := (getT S k).getD ⟨k, 0, 0, { data := #[] }⟩
theorem look_tmZ (S : List Tm) (k : Int) : lookV S k false = .agg #[.int .i64 (tmZ S k).a, .int .i64 (tmZ S k).o, .string (tmZ S k).v] := by
  unfold lookV tmZ
  cases getT S k <;> rfl

/-- How two numbers are compared. -/
def cmpT (S : List Tm) (a b : Int) : Int :=
  if (tmZ S a).a = (tmZ S b).a then (tmZ S a).o - (tmZ S b).o else if (tmZ S a).a < (tmZ S b).a then -1 else 1

/-- A world that is w after some draws, with blocks laid behind it. -/
def Grown (w w' : World) : Prop := ∃ (q : Nat) (os : Array Obj), w' = Sort.grow (w.drewN q) os
theorem grown_of {w w' : World} (h : Ext w w') (hd : w.drawn ≤ w'.drawn) : Grown w w' := by
  obtain ⟨p, hp⟩ := regrown_of_below h
  have e : w'.drawn = p.d := by rw [hp]; rfl
  refine ⟨w'.drawn - w.drawn, p.os, ?_⟩
  rw [hp]
  have e2 : w.drawn + (w'.drawn - w.drawn) = p.d := by omega
  rw [← hp]
  unfold World.drewN
  rw [e2]
  exact hp

set_option maxRecDepth 100000 in
set_option maxHeartbeats 8000000 in
theorem row_cmp (bB bW bM : Nat) (S : List Tm) (now ids ord : Int) (x3 x4 x5 : Value) (a b : Int) (w : World) (hbx : w.heap[bB]? = some (.cells #[.pointer (some ⟨bW, 0, none⟩)] 51 (0, 0)))
    (hb : w.heap[bW]? = some (.cells #[.int .i64 now, .int .i64 ids, .int .i64 ord, .map (some bM), x4, x5] 101 (0, 0))) (hM : MapW bM S w) (ho : ∀ k, 0 ≤ (tmZ S k).o ∧ (tmZ S k).o ≤ 100000) :
    Calls Try.prog 70 #[.int .i64 a, .int .i64 b, .pointer (some ⟨bB, 0, none⟩)] w fun e w' => e = .returned (.int .i64 (cmpT S a b)) ∧ Grown w w' := by
  have lb : bW < w.heap.size := (Array.getElem?_eq_some_iff.1 hb).1
  have lx : bB < w.heap.size := (Array.getElem?_eq_some_iff.1 hbx).1
  have hcb := fun j => cell_of_row w _ j _ _ _ hb
  have hcx := fun j => cell_of_row w _ j _ _ _ hbx
  have HM := Lib.hid hM
  obtain ⟨xa, hxa⟩ : ∃ x, x = tmZ S a := ⟨_, rfl⟩
  obtain ⟨xb, hxb⟩ : ∃ x, x = tmZ S b := ⟨_, rfl⟩
  have key : ∀ (k : Int) (W : World), Ext w W → (Instr.lookup 98 (.map (some bM)) (.int .i64 k) false).run Try.prog W = .ok (.agg #[.int .i64 (tmZ S k).a, .int .i64 (tmZ S k).o, .string (tmZ S k).v]) W := fun k W e => by
    rw [← look_tmZ]
    exact run_lookup Try.underlying98 Try.underlying3 zero_string (HM.out.ext e) k false
  have w1 : IntKind.i64.wrap (xa.o - xb.o) = xa.o - xb.o := by
    have a1 := ho a
    have b1 := ho b
    rw [← hxa] at a1
    rw [← hxb] at b1
    exact IntWalk.i64_in _ (by omega)
  have ha0 := key a _ (show Ext w (w.drew) from (Ext.refl w).drew)
  have hb0 := key b _ (show Ext w (w.drew) from (Ext.refl w).drew)
  have ha1 := key a _ (show Ext w ((w.alloc (.cells #[.int .i64 0, .int .i64 0, .string { data := #[] }] 112)).drew) from ((Ext.refl w).alloc _).drew)
  have hb1 := key b _ (show Ext w ((w.alloc (.cells #[.int .i64 0, .int .i64 0, .string { data := #[] }] 112)).drew) from ((Ext.refl w).alloc _).drew)
  have ha2 := key a _ (show Ext w (((w.alloc (.cells #[.int .i64 0, .int .i64 0, .string { data := #[] }] 112)).alloc (.cells #[.int .i64 0, .int .i64 0, .string { data := #[] }] 112)).drew) from (((Ext.refl w).alloc _).alloc _).drew)
  have hb2 := key b _ (show Ext w (((w.alloc (.cells #[.int .i64 0, .int .i64 0, .string { data := #[] }] 112)).alloc (.cells #[.int .i64 0, .int .i64 0, .string { data := #[] }] 112)).drew) from (((Ext.refl w).alloc _).alloc _).drew)
  have hb3 := key b _ (show Ext w (((w.alloc (.cells #[.int .i64 xa.a, .int .i64 xa.o, .string xa.v] 112)).alloc (.cells #[.int .i64 0, .int .i64 0, .string { data := #[] }] 112)).drew) from (((Ext.refl w).alloc _).alloc _).drew)
  have hb4 := key b _ (show Ext w (((w.alloc (.cells #[.int .i64 0, .int .i64 0, .string { data := #[] }] 112)).alloc (.cells #[.int .i64 xa.a, .int .i64 xa.o, .string xa.v] 112)).drew) from (((Ext.refl w).alloc _).alloc _).drew)
  have hb5 := key b _ (show Ext w ((w.alloc (.cells #[.int .i64 xa.a, .int .i64 xa.o, .string xa.v] 112)).drew) from ((Ext.refl w).alloc _).drew)
  rw [← hxa] at ha0 ha1 ha2
  rw [← hxb] at hb0 hb1 hb2 hb3 hb4 hb5
  clear key ho
  have HC : Hid (cmpT S a b = if xa.a = xb.a then xa.o - xb.o else if xa.a < xb.a then -1 else 1) := Lib.hid (by rw [hxa, hxb]; rfl)
  clear hb hbx hM hxa hxb
  go_enter Try.func70, Try.ntmps70
  go_upto_region 1 with fail
  go_cut [6, 7] (fun u v wx => ∃ p q : Nat, u = .pointer (some ⟨p, 0, none⟩) ∧ v = .pointer (some ⟨q, 0, none⟩) ∧ wx.heap[p]? = some (.cells #[.int .i64 xa.a, .int .i64 xa.o, .string xa.v] 112 (0, 0)) ∧ wx.heap[q]? = some (.cells #[.int .i64 xb.a, .int .i64 xb.o, .string xb.v] 112 (0, 0)) ∧ Hid (Ext w wx ∧ w.drawn ≤ wx.drawn))
  case first =>
    go_region
    all_goals go_wp2_with fail
    all_goals go_meet
    all_goals first
      | exact ⟨_, _, rfl, rfl, heap_ext (heap_new rfl) ((Ext.refl _).alloc _).drew, heap_ext (heap_new (by simp)) (Ext.refl _).drew, Lib.hid ⟨(((Ext.refl _).alloc _).alloc _).drew, by simp⟩⟩
      | exact ⟨_, _, rfl, rfl, heap_ext (heap_new (by simp)) (Ext.refl _).drew, heap_ext (heap_new rfl) ((Ext.refl _).alloc _).drew, Lib.hid ⟨(((Ext.refl _).alloc _).alloc _).drew, by simp⟩⟩
  case rest =>
    obtain ⟨p, q, rfl, rfl, hp, hq, HX⟩ := hcut
    have hcp := fun j => cell_of_row wc _ j _ _ _ hp
    have hcq := fun j => cell_of_row wc _ j _ _ _ hq
    have lp : p < wc.heap.size := (Array.getElem?_eq_some_iff.1 hp).1
    have lq : q < wc.heap.size := (Array.getElem?_eq_some_iff.1 hq).1
    clear hp hq hcb hcx lb lx ha0 ha1 ha2 hb0 hb1 hb2 hb3 hb4 hb5 HM
    by_cases e1 : xa.a = xb.a
    · have HC2 := Lib.hid (HC.out.trans (if_pos e1))
      have e1' : (xa.a == xb.a) = true := by simp [e1]
      have HE := Lib.hid e1
      clear HC e1
      go_wp2_with fail
      go_ret
      exact ⟨by rw [HC2.out]; rfl, grown_of HX.out.1 HX.out.2⟩
    · by_cases e2 : xa.a < xb.a
      · have HC2 := Lib.hid (HC.out.trans ((if_neg e1).trans (if_pos e2)))
        have e1' : (xa.a == xb.a) = false := by simp [e1]
        clear HC e1
        go_wp2_with fail
        go_ret
        exact ⟨by rw [HC2.out]; rfl, grown_of HX.out.1 HX.out.2⟩
      · have HC2 := Lib.hid (HC.out.trans ((if_neg e1).trans (if_neg e2)))
        have e1' : (xa.a == xb.a) = false := by simp [e1]
        clear HC e1
        go_wp2_with fail
        go_ret
        exact ⟨by rw [HC2.out]; rfl, grown_of HX.out.1 HX.out.2⟩
end Go.Proofs.Ytibdplfdmncgiaa
