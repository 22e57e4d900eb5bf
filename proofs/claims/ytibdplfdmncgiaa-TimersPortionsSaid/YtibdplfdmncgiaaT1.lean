/-
  Walk: the heap of slots: which of two comes first. No condition.
-/
import Derived.Test.YtibdplfdmncgiaaFloat
import Derived.Test.YtibdplfdmncgiaaData
import Derived.BigRegion
import Derived.Deep.DeepCutAuto
set_option linter.all false
namespace Go.Proofs.Ytibdplfdmncgiaa
open Go.RowKit
attribute [local go_sem] ExtOf.cell ExtOf.frozen ExtOf.lt ExtOf.le
attribute [local go_sem high] ExtOf.cell2 ExtOf.frozen2 ExtOf.lt2 ExtOf.cell3 ExtOf.frozen3 ExtOf.lt3

/-- A thing that the heap holds: its tick, its place among those of that tick, its timer, when it was pushed. -/
structure Hd where
  a : Int
  o : Int
  i : Int
  n : Int
  deriving DecidableEq
def Hd.cs (x : Hd) : List Value := [.int .i64 x.a, .int .i64 x.o, .int .i64 x.i, .int .i64 x.n]

/-- Does x fall due ahead of y? -/
def lessH (x y : Hd) : Bool := decide (x.a < y.a) || (decide (x.a = y.a) && decide (x.o < y.o))
/-- Does x come ahead of y in the heap? -/
def aheadH (x y : Hd) : Bool := lessH x y || (decide (x.n < y.n) && !lessH y x)

/-- What a heap's order does. -/
def Less (f : FuncId) : Prop := ∀ (x y : Hd) (w : World), Calls Try.prog f #[.agg #[.int .i64 x.a, .int .i64 x.o, .int .i64 x.i], .agg #[.int .i64 y.a, .int .i64 y.o, .int .i64 y.i]] w fun e w' => e = .returned (.bool (lessH x y)) ∧ Ext w w'

/-- The facts that are read of the element k of a row of things. -/
theorem hd_cells {w : World} {g : Nat} {L : List Hd} {k : Nat} {x : Hd} (h : ∀ j u, (L.flatMap Hd.cs)[j]? = some u → w.cell? ⟨g, j, none⟩ = some u) (hx : L[k]? = some x) :
    w.cell? ⟨g, k * 4, none⟩ = some (.int .i64 x.a) ∧ w.cell? ⟨g, k * 4 + 1, none⟩ = some (.int .i64 x.o) ∧ w.cell? ⟨g, k * 4 + 2, none⟩ = some (.int .i64 x.i) ∧ w.cell? ⟨g, k * 4 + 3, none⟩ = some (.int .i64 x.n) := by
  have f := fun j hj => flat_get Hd.cs 4 (fun _ => rfl) L k x hx j hj
  have F : ∀ j u, (Hd.cs x)[j]? = some u → j < 4 → w.cell? ⟨g, k * 4 + j, none⟩ = some u := fun j u hu hj => h _ _ ((f j hj).trans hu)
  exact ⟨F 0 _ rfl (by omega), F 1 _ rfl (by omega), F 2 _ rfl (by omega), F 3 _ rfl (by omega)⟩

set_option maxHeartbeats 800000 in
theorem less_int : Less 43 := fun x y w => by
  obtain ⟨xa, xo, xi, xn⟩ := x
  obtain ⟨ya, yo, yi, yn⟩ := y
  unfold lessH
  by_cases h1 : xa < ya
  · have e1 : (decide (xa < ya)) = true := by simp [h1]
    go_enter Try.func43, Try.ntmps43
    go_wp2_with fail
    go_ret
    exact ⟨by simp [h1], ((Ext.refl _).alloc _).alloc _⟩
  · have e1 : (decide (xa < ya)) = false := by simp [h1]
    by_cases h2 : xa = ya
    · subst h2
      go_enter Try.func43, Try.ntmps43
      go_wp2_with fail
      go_ret
      exact ⟨by simp, ((Ext.refl _).alloc _).alloc _⟩
    · have e2 : (xa == ya) = false := by simp [h2]
      go_enter Try.func43, Try.ntmps43
      go_wp2_with fail
      go_ret
      exact ⟨by simp [h2], ((Ext.refl _).alloc _).alloc _⟩

set_option maxRecDepth 100000 in
set_option maxHeartbeats 4000000 in
theorem ahead_int (bH g n : Nat) (m : Int) (cap i k : Nat) (x y : Hd) (w : World)
    (hb : w.heap[bH]? = some (.cells #[.func (.func 43) #[] #[], .slice (some ⟨g, 0, none⟩) n cap, .int .i64 m] 115 (0, 0)))
    (hx : w.cell? ⟨g, i * 4, none⟩ = some (.int .i64 x.a) ∧ w.cell? ⟨g, i * 4 + 1, none⟩ = some (.int .i64 x.o) ∧ w.cell? ⟨g, i * 4 + 2, none⟩ = some (.int .i64 x.i) ∧ w.cell? ⟨g, i * 4 + 3, none⟩ = some (.int .i64 x.n))
    (hy : w.cell? ⟨g, k * 4, none⟩ = some (.int .i64 y.a) ∧ w.cell? ⟨g, k * 4 + 1, none⟩ = some (.int .i64 y.o) ∧ w.cell? ⟨g, k * 4 + 2, none⟩ = some (.int .i64 y.i) ∧ w.cell? ⟨g, k * 4 + 3, none⟩ = some (.int .i64 y.n))
    (hi : i < n) (hk : k < n) (hg : g < w.heap.size) (hn : n ≤ 1048576) :
    Calls Try.prog 68 #[.pointer (some ⟨bH, 0, none⟩), .int .i64 i, .int .i64 k] w fun e w' => e = .returned (.bool (aheadH x y)) ∧ Ext w w' := by
  obtain ⟨x0, x1, x2, x3⟩ := hx
  obtain ⟨y0, y1, y2, y3⟩ := hy
  have hcb := fun j => cell_of_row w _ j _ _ _ hb
  have lb : bH < w.heap.size := (Array.getElem?_eq_some_iff.1 hb).1
  have i0 : (0 : Int) ≤ (i : Int) := by omega
  have i1 : (i : Int) < (n : Int) := by omega
  have k0 : (0 : Int) ≤ (k : Int) := by omega
  have k1 : (k : Int) < (n : Int) := by omega
  clear hi hk
  go_enter Try.func68, Try.ntmps68
  have HHB := Lib.hid hb
  clear hb
  go_upto_region 1 with fail
  go_cut [7, 8] (fun u v wx => ∃ p q : Nat, u = .pointer (some ⟨p, 0, none⟩) ∧ v = .pointer (some ⟨q, 0, none⟩) ∧ wx.heap[p]? = some (.cells #[.int .i64 x.a, .int .i64 x.o, .int .i64 x.i, .int .i64 x.n] 127 (0, 0)) ∧ wx.heap[q]? = some (.cells #[.int .i64 y.a, .int .i64 y.o, .int .i64 y.i, .int .i64 y.n] 127 (0, 0)) ∧ Hid (Ext w wx))
  case first =>
    go_region
    all_goals go_wp2_with fail
    · go_meet
      exact ⟨_, _, rfl, rfl, heap_ext (heap_new rfl) ((Ext.refl _).alloc _).drew, heap_ext (heap_new (by simp)) (Ext.refl _).drew, (((Ext.refl _).alloc _).alloc _).drew⟩
    · go_meet
      exact ⟨_, _, rfl, rfl, heap_ext (heap_new (by simp)) (Ext.refl _).drew, heap_ext (heap_new rfl) ((Ext.refl _).alloc _).drew, (((Ext.refl _).alloc _).alloc _).drew⟩
  case rest =>
    obtain ⟨p, q, rfl, rfl, hp, hq, HX⟩ := hcut
    have hb2 := heap_ext HHB.out HX.out
    have hcb2 := fun j => cell_of_row wc _ j _ _ _ hb2
    have hcp := fun j => cell_of_row wc _ j _ _ _ hp
    have hcq := fun j => cell_of_row wc _ j _ _ _ hq
    have lp : p < wc.heap.size := (Array.getElem?_eq_some_iff.1 hp).1
    have lq : q < wc.heap.size := (Array.getElem?_eq_some_iff.1 hq).1
    have lb2 : bH < wc.heap.size := (Array.getElem?_eq_some_iff.1 hb2).1
    have HHP := Lib.hid hp
    have HHQ := Lib.hid hq
    have HHB2 := Lib.hid hb2
    clear hp hq hb2 hcb lb x0 x1 x2 x3 y0 y1 y2 y3 hg
    go_wp2_with fail
    refine wp_region_ext (by kernel_rfl) (by kernel_rfl) ?_
    repeat (go_big_quiet_step ((go_at_call 43; exact calls_ext (less_int x y _))))
    refine wpQuiet_nil ?_
    intro _ hx'
    obtain ⟨z, rfl⟩ := hx'
    clear lb2
    have lb2 : bH < wc.heap.size := (Array.getElem?_eq_some_iff.1 HHB2.out).1
    rcases hl : lessH x y
    · by_cases hn2 : x.n < y.n
      · have HN := Lib.hid hn2
        go_wp2_with fail
        refine wp_region_ext (by kernel_rfl) (by kernel_rfl) ?_
        repeat (go_big_quiet_step ((go_at_call 43; exact calls_ext (less_int y x _))))
        refine wpQuiet_nil ?_
        intro _ hx'
        obtain ⟨z2, rfl⟩ := hx'
        go_wp2_with fail
        go_ret
        have h8 : aheadH x y = !lessH y x := by
          have := HN.out
          unfold aheadH
          rw [hl, decide_eq_true (by omega)]
          simp
        exact ⟨by simp [h8], (HX.out.val z).val z2⟩
      · have HN := Lib.hid hn2
        have hn3 : decide (x.n < y.n) = false := by simp [hn2]
        go_wp2_with fail
        refine wp_region_ext (by kernel_rfl) (by kernel_rfl) ?_
        repeat (go_big_quiet_step (fail))
        refine wpQuiet_nil ?_
        intro _ hx'
        obtain ⟨z2, rfl⟩ := hx'
        go_wp2_with fail
        go_ret
        have h8 : aheadH x y = false := by
          have := HN.out
          unfold aheadH
          rw [hl, decide_eq_false (by omega)]
          rfl
        exact ⟨by simp [h8], (HX.out.val z).val z2⟩
    · go_wp2_with fail
      go_ret
      exact ⟨by simp [aheadH, hl], HX.out.val z⟩
set_option maxHeartbeats 800000 in
theorem less_int64 : Less 39 := fun x y w => by
  obtain ⟨xa, xo, xi, xn⟩ := x
  obtain ⟨ya, yo, yi, yn⟩ := y
  unfold lessH
  by_cases h1 : xa < ya
  · have e1 : (decide (xa < ya)) = true := by simp [h1]
    go_enter Try.func39, Try.ntmps39
    go_wp2_with fail
    go_ret
    exact ⟨by simp [h1], ((Ext.refl _).alloc _).alloc _⟩
  · have e1 : (decide (xa < ya)) = false := by simp [h1]
    by_cases h2 : xa = ya
    · subst h2
      go_enter Try.func39, Try.ntmps39
      go_wp2_with fail
      go_ret
      exact ⟨by simp, ((Ext.refl _).alloc _).alloc _⟩
    · have e2 : (xa == ya) = false := by simp [h2]
      go_enter Try.func39, Try.ntmps39
      go_wp2_with fail
      go_ret
      exact ⟨by simp [h2], ((Ext.refl _).alloc _).alloc _⟩

set_option maxRecDepth 100000 in
set_option maxHeartbeats 4000000 in
theorem ahead_int64 (bH g n : Nat) (m : Int) (cap i k : Nat) (x y : Hd) (w : World)
    (hb : w.heap[bH]? = some (.cells #[.func (.func 39) #[] #[], .slice (some ⟨g, 0, none⟩) n cap, .int .i64 m] 115 (0, 0)))
    (hx : w.cell? ⟨g, i * 4, none⟩ = some (.int .i64 x.a) ∧ w.cell? ⟨g, i * 4 + 1, none⟩ = some (.int .i64 x.o) ∧ w.cell? ⟨g, i * 4 + 2, none⟩ = some (.int .i64 x.i) ∧ w.cell? ⟨g, i * 4 + 3, none⟩ = some (.int .i64 x.n))
    (hy : w.cell? ⟨g, k * 4, none⟩ = some (.int .i64 y.a) ∧ w.cell? ⟨g, k * 4 + 1, none⟩ = some (.int .i64 y.o) ∧ w.cell? ⟨g, k * 4 + 2, none⟩ = some (.int .i64 y.i) ∧ w.cell? ⟨g, k * 4 + 3, none⟩ = some (.int .i64 y.n))
    (hi : i < n) (hk : k < n) (hg : g < w.heap.size) (hn : n ≤ 1048576) :
    Calls Try.prog 68 #[.pointer (some ⟨bH, 0, none⟩), .int .i64 i, .int .i64 k] w fun e w' => e = .returned (.bool (aheadH x y)) ∧ Ext w w' := by
  obtain ⟨x0, x1, x2, x3⟩ := hx
  obtain ⟨y0, y1, y2, y3⟩ := hy
  have hcb := fun j => cell_of_row w _ j _ _ _ hb
  have lb : bH < w.heap.size := (Array.getElem?_eq_some_iff.1 hb).1
  have i0 : (0 : Int) ≤ (i : Int) := by omega
  have i1 : (i : Int) < (n : Int) := by omega
  have k0 : (0 : Int) ≤ (k : Int) := by omega
  have k1 : (k : Int) < (n : Int) := by omega
  clear hi hk
  go_enter Try.func68, Try.ntmps68
  have HHB := Lib.hid hb
  clear hb
  go_upto_region 1 with fail
  go_cut [7, 8] (fun u v wx => ∃ p q : Nat, u = .pointer (some ⟨p, 0, none⟩) ∧ v = .pointer (some ⟨q, 0, none⟩) ∧ wx.heap[p]? = some (.cells #[.int .i64 x.a, .int .i64 x.o, .int .i64 x.i, .int .i64 x.n] 127 (0, 0)) ∧ wx.heap[q]? = some (.cells #[.int .i64 y.a, .int .i64 y.o, .int .i64 y.i, .int .i64 y.n] 127 (0, 0)) ∧ Hid (Ext w wx))
  case first =>
    go_region
    all_goals go_wp2_with fail
    · go_meet
      exact ⟨_, _, rfl, rfl, heap_ext (heap_new rfl) ((Ext.refl _).alloc _).drew, heap_ext (heap_new (by simp)) (Ext.refl _).drew, (((Ext.refl _).alloc _).alloc _).drew⟩
    · go_meet
      exact ⟨_, _, rfl, rfl, heap_ext (heap_new (by simp)) (Ext.refl _).drew, heap_ext (heap_new rfl) ((Ext.refl _).alloc _).drew, (((Ext.refl _).alloc _).alloc _).drew⟩
  case rest =>
    obtain ⟨p, q, rfl, rfl, hp, hq, HX⟩ := hcut
    have hb2 := heap_ext HHB.out HX.out
    have hcb2 := fun j => cell_of_row wc _ j _ _ _ hb2
    have hcp := fun j => cell_of_row wc _ j _ _ _ hp
    have hcq := fun j => cell_of_row wc _ j _ _ _ hq
    have lp : p < wc.heap.size := (Array.getElem?_eq_some_iff.1 hp).1
    have lq : q < wc.heap.size := (Array.getElem?_eq_some_iff.1 hq).1
    have lb2 : bH < wc.heap.size := (Array.getElem?_eq_some_iff.1 hb2).1
    have HHP := Lib.hid hp
    have HHQ := Lib.hid hq
    have HHB2 := Lib.hid hb2
    clear hp hq hb2 hcb lb x0 x1 x2 x3 y0 y1 y2 y3 hg
    go_wp2_with fail
    refine wp_region_ext (by kernel_rfl) (by kernel_rfl) ?_
    repeat (go_big_quiet_step ((go_at_call 39; exact calls_ext (less_int64 x y _))))
    refine wpQuiet_nil ?_
    intro _ hx'
    obtain ⟨z, rfl⟩ := hx'
    clear lb2
    have lb2 : bH < wc.heap.size := (Array.getElem?_eq_some_iff.1 HHB2.out).1
    rcases hl : lessH x y
    · by_cases hn2 : x.n < y.n
      · have HN := Lib.hid hn2
        go_wp2_with fail
        refine wp_region_ext (by kernel_rfl) (by kernel_rfl) ?_
        repeat (go_big_quiet_step ((go_at_call 39; exact calls_ext (less_int64 y x _))))
        refine wpQuiet_nil ?_
        intro _ hx'
        obtain ⟨z2, rfl⟩ := hx'
        go_wp2_with fail
        go_ret
        have h8 : aheadH x y = !lessH y x := by
          have := HN.out
          unfold aheadH
          rw [hl, decide_eq_true (by omega)]
          simp
        exact ⟨by simp [h8], (HX.out.val z).val z2⟩
      · have HN := Lib.hid hn2
        have hn3 : decide (x.n < y.n) = false := by simp [hn2]
        go_wp2_with fail
        refine wp_region_ext (by kernel_rfl) (by kernel_rfl) ?_
        repeat (go_big_quiet_step (fail))
        refine wpQuiet_nil ?_
        intro _ hx'
        obtain ⟨z2, rfl⟩ := hx'
        go_wp2_with fail
        go_ret
        have h8 : aheadH x y = false := by
          have := HN.out
          unfold aheadH
          rw [hl, decide_eq_false (by omega)]
          rfl
        exact ⟨by simp [h8], (HX.out.val z).val z2⟩
    · go_wp2_with fail
      go_ret
      exact ⟨by simp [aheadH, hl], HX.out.val z⟩
end Go.Proofs.Ytibdplfdmncgiaa
