/-
  Walk: the wheel's other functions. No condition.
-/
import Derived.Test.YtibdplfdmncgiaaT8
import Derived.Carry
set_option linter.all false
namespace Go.Proofs.Ytibdplfdmncgiaa
open Go.RowKit
attribute [local go_sem] ExtOf.cell ExtOf.frozen ExtOf.lt ExtOf.le
attribute [local go_sem high] ExtOf.cell2 ExtOf.frozen2 ExtOf.lt2 ExtOf.cell3 ExtOf.frozen3 ExtOf.lt3 ExtOf.cellX ExtOf.frozenX ExtOf.cellX' ExtOf.frozenX'

def wh0 : Wh := ⟨0, 0, 0, [], [], 0⟩

/-- A new wheel. -/
def NewW (T : TypeId) (f : FuncId) (w : World) : Ending → World → Prop := fun e w' =>
  ∃ p : At, e = .returned (.pointer (some ⟨p.bW, 0, none⟩)) ∧ WheelW T f p (.slice none 0 0) wh0 w' ∧ Ext w w' ∧ w.heap.size ≤ p.bM ∧ p.B ≤ w'.heap.size

theorem heap_new_any (f : FuncId) (w : World) :
    Calls Try.prog 40 #[.func (.func f) #[] #[]] w fun e w' => e = .returned (.pointer (some ⟨w.heap.size, 0, none⟩)) ∧ w' = w.alloc (.cells #[.func (.func f) #[] #[], .slice none 0 0, .int .i64 0] 115) := by
  go_enter Try.func40, Try.ntmps40
  go_wp2_with fail
  go_ret
  exact ⟨rfl, rfl⟩

set_option maxHeartbeats 1600000 in
theorem new_int (w : World) : Calls Try.prog 15 #[] w (NewW 91 43 w) := by
  have hmm := @run_makeMap Try.prog
  go_enter Try.func15, Try.ntmps15
  go_wp2_with fail
  refine (heap_new_any 43 _).mono ?_
  rintro e w1 ⟨rfl, rfl⟩
  go_wp2_with fail
  go_ret
  exact ⟨⟨w.heap.size, w.heap.size + 1, w.heap.size + 1 + 1, w.heap.size + 3, by omega, by omega, by omega⟩, rfl, ⟨heap_new (by simp), ⟨#[], 0, heap_ext (heap_new rfl) (((Ext.refl _).alloc _).alloc _), rfl⟩, heap_ext (heap_new (by simp)) ((Ext.refl _).alloc _), World.ownsRow_nil _ _ _ _⟩, (((Ext.refl _).alloc _).alloc _).alloc _, Nat.le_refl _, by simp⟩

set_option maxRecDepth 100000 in
set_option maxHeartbeats 4000000 in
theorem turn_int (p : At) (v : Value) (W : Wh) (n : Int) (w : World) (hW : WheelW 91 43 p v W w) (hB : p.B ≤ w.heap.size) (hL : W.L.length ≤ 100000) (hS : W.S.length ≤ 100000) (h0 : 0 ≤ W.now) (hn : 0 ≤ n) (hn2 : n ≤ 9223372036854775807 - W.now) :
    Calls Try.prog 17 #[.pointer (some ⟨p.bW, 0, none⟩), .int .i64 n] w (TurnedW 91 3 43 p v (untilW (W.now + n) (W.S.length + 1) W []) (fun x => .tuple #[x, .int .i64 0]) w) := by
  have HW := Lib.hid hW
  have lb : p.bW < w.heap.size := (Array.getElem?_eq_some_iff.1 hW.1).1
  have hcb := fun j => cell_of_row w _ j _ _ _ hW.1
  clear hW
  go_enter Try.func17, Try.ntmps17
  go_wp2_with fail
  refine (until_int p v W (W.now + n) w HW.out hB hL hS).mono ?_
  rintro e w1 ⟨vl, v', rfl, ho, hW1, hk1, hr1⟩
  have HO := Lib.hid ho
  have HW1 := Lib.hid hW1
  have HK1 := Lib.hid hk1
  have HR1 := Lib.hid hr1
  clear ho hW1 hk1 hr1 hcb lb
  go_wp2_with fail
  refine bodyPost_ret (results_tmp2 (t := 4) (u := 5) rfl _ _ _) ?_ ?_
  · rfl
  exact ⟨vl, v', rfl, HO.out, HW1.out, HK1.out, HR1.out⟩

theorem len_int (p : At) (v : Value) (W : Wh) (w : World) (hW : WheelW 91 43 p v W w) :
    Calls Try.prog 23 #[.pointer (some ⟨p.bW, 0, none⟩)] w fun e w' => e = .returned (.int .i64 W.S.length) ∧ w' = w := by
  have hlen : ∀ ty, (Builtin.len_ #[88] ty #[.map (some p.bM)]).run Try.prog w = .ok (.int .i64 W.S.length) w := fun ty => run_lenMap (ts := #[88]) rfl Try.underlying88 hW.2.1
  have lb : p.bW < w.heap.size := (Array.getElem?_eq_some_iff.1 hW.1).1
  have hcb := fun j => cell_of_row w _ j _ _ _ hW.1
  clear hW
  go_enter Try.func23, Try.ntmps23
  go_wp2_with fail
  go_ret
  exact ⟨rfl, rfl⟩

theorem now_int (p : At) (v : Value) (W : Wh) (w : World) (hW : WheelW 91 43 p v W w) :
    Calls Try.prog 19 #[.pointer (some ⟨p.bW, 0, none⟩)] w fun e w' => e = .returned (.int .i64 W.now) ∧ w' = w := by
  have lb : p.bW < w.heap.size := (Array.getElem?_eq_some_iff.1 hW.1).1
  have hcb := fun j => cell_of_row w _ j _ _ _ hW.1
  clear hW
  go_enter Try.func19, Try.ntmps19
  go_wp2_with fail
  go_ret
  exact ⟨rfl, rfl⟩

set_option maxHeartbeats 1600000 in
theorem new_int64 (w : World) : Calls Try.prog 9 #[] w (NewW 85 39 w) := by
  have hmm := @run_makeMap Try.prog
  go_enter Try.func9, Try.ntmps9
  go_wp2_with fail
  refine (heap_new_any 39 _).mono ?_
  rintro e w1 ⟨rfl, rfl⟩
  go_wp2_with fail
  go_ret
  exact ⟨⟨w.heap.size, w.heap.size + 1, w.heap.size + 1 + 1, w.heap.size + 3, by omega, by omega, by omega⟩, rfl, ⟨heap_new (by simp), ⟨#[], 0, heap_ext (heap_new rfl) (((Ext.refl _).alloc _).alloc _), rfl⟩, heap_ext (heap_new (by simp)) ((Ext.refl _).alloc _), World.ownsRow_nil _ _ _ _⟩, (((Ext.refl _).alloc _).alloc _).alloc _, Nat.le_refl _, by simp⟩

set_option maxRecDepth 100000 in
set_option maxHeartbeats 4000000 in
theorem turn_int64 (p : At) (v : Value) (W : Wh) (n : Int) (w : World) (hW : WheelW 85 39 p v W w) (hB : p.B ≤ w.heap.size) (hL : W.L.length ≤ 100000) (hS : W.S.length ≤ 100000) (h0 : 0 ≤ W.now) (hn : 0 ≤ n) (hn2 : n ≤ 9223372036854775807 - W.now) :
    Calls Try.prog 12 #[.pointer (some ⟨p.bW, 0, none⟩), .int .i64 n] w (TurnedW 85 2 39 p v (untilW (W.now + n) (W.S.length + 1) W []) (fun x => .tuple #[x, .int .i64 0]) w) := by
  have HW := Lib.hid hW
  have lb : p.bW < w.heap.size := (Array.getElem?_eq_some_iff.1 hW.1).1
  have hcb := fun j => cell_of_row w _ j _ _ _ hW.1
  clear hW
  go_enter Try.func12, Try.ntmps12
  go_wp2_with fail
  refine (until_int64 p v W (W.now + n) w HW.out hB hL hS).mono ?_
  rintro e w1 ⟨vl, v', rfl, ho, hW1, hk1, hr1⟩
  have HO := Lib.hid ho
  have HW1 := Lib.hid hW1
  have HK1 := Lib.hid hk1
  have HR1 := Lib.hid hr1
  clear ho hW1 hk1 hr1 hcb lb
  go_wp2_with fail
  refine bodyPost_ret (results_tmp2 (t := 4) (u := 5) rfl _ _ _) ?_ ?_
  · rfl
  exact ⟨vl, v', rfl, HO.out, HW1.out, HK1.out, HR1.out⟩

theorem len_int64 (p : At) (v : Value) (W : Wh) (w : World) (hW : WheelW 85 39 p v W w) :
    Calls Try.prog 13 #[.pointer (some ⟨p.bW, 0, none⟩)] w fun e w' => e = .returned (.int .i64 W.S.length) ∧ w' = w := by
  have hlen : ∀ ty, (Builtin.len_ #[80] ty #[.map (some p.bM)]).run Try.prog w = .ok (.int .i64 W.S.length) w := fun ty => run_lenMap (ts := #[80]) rfl Try.underlying80 hW.2.1
  have lb : p.bW < w.heap.size := (Array.getElem?_eq_some_iff.1 hW.1).1
  have hcb := fun j => cell_of_row w _ j _ _ _ hW.1
  clear hW
  go_enter Try.func13, Try.ntmps13
  go_wp2_with fail
  go_ret
  exact ⟨rfl, rfl⟩

theorem now_int64 (p : At) (v : Value) (W : Wh) (w : World) (hW : WheelW 85 39 p v W w) :
    Calls Try.prog 14 #[.pointer (some ⟨p.bW, 0, none⟩)] w fun e w' => e = .returned (.int .i64 W.now) ∧ w' = w := by
  have lb : p.bW < w.heap.size := (Array.getElem?_eq_some_iff.1 hW.1).1
  have hcb := fun j => cell_of_row w _ j _ _ _ hW.1
  clear hW
  go_enter Try.func14, Try.ntmps14
  go_wp2_with fail
  go_ret
  exact ⟨rfl, rfl⟩

set_option maxRecDepth 100000 in
set_option maxHeartbeats 4000000 in
theorem tick_go_int (p : At) (v : Value) (W : Wh) (w : World) (hW : WheelW 91 43 p v W w) (hB : p.B ≤ w.heap.size) (hL : W.L.length ≤ 100000) (hS : W.S.length ≤ 100000) (h0 : 0 ≤ W.now) (hn2 : W.now < 9223372036854775807) :
    Calls Try.prog 18 #[.pointer (some ⟨p.bW, 0, none⟩)] w (TurnedW 91 3 43 p v (untilW (W.now + 1) (W.S.length + 1) W []) (fun x => x) w) := by
  have HW := Lib.hid hW
  have lb : p.bW < w.heap.size := (Array.getElem?_eq_some_iff.1 hW.1).1
  have hcb := fun j => cell_of_row w _ j _ _ _ hW.1
  have he : (W.now == 9223372036854775807) = false := by simp; omega
  clear hW
  go_enter Try.func18, Try.ntmps18
  go_wp2_with fail
  refine (until_int p v W (W.now + 1) w HW.out hB hL hS).mono ?_
  rintro e w1 ⟨vl, v', rfl, ho, hW1, hk1, hr1⟩
  have HO := Lib.hid ho
  have HW1 := Lib.hid hW1
  have HK1 := Lib.hid hk1
  have HR1 := Lib.hid hr1
  clear ho hW1 hk1 hr1 hcb lb
  go_wp2_with fail
  refine bodyPost_ret (results_tmp (t := 2) rfl _ _ _) ?_ ?_
  · rfl
  exact ⟨vl, v', rfl, HO.out, HW1.out, HK1.out, HR1.out⟩

theorem tick_end_int (p : At) (v : Value) (W : Wh) (w : World) (hW : WheelW 91 43 p v W w) (hn2 : W.now = 9223372036854775807) :
    Calls Try.prog 18 #[.pointer (some ⟨p.bW, 0, none⟩)] w fun e w' => e = .returned (.slice none 0 0) ∧ w' = w := by
  obtain ⟨now, ids, ord, S, L, m⟩ := W
  simp only at hn2
  subst hn2
  have lb : p.bW < w.heap.size := (Array.getElem?_eq_some_iff.1 hW.1).1
  have hcb := fun j => cell_of_row w _ j _ _ _ hW.1
  clear hW
  go_enter Try.func18, Try.ntmps18
  go_wp2_with fail
  go_ret
  exact ⟨rfl, rfl⟩

/-- What Due answers. -/
def dueV (S : List Tm) (k : Int) : Value := match getT S k with
  | some t => .tuple #[.int .i64 t.a, .bool true]
  | none => .tuple #[.int .i64 0, .bool false]

set_option maxRecDepth 100000 in
set_option maxHeartbeats 4000000 in
theorem due_int (p : At) (v : Value) (W : Wh) (k : Int) (w : World) (hW : WheelW 91 43 p v W w) :
    Calls Try.prog 22 #[.pointer (some ⟨p.bW, 0, none⟩), .int .i64 k] w fun e w' => e = .returned (dueV W.S k) ∧ Ext w w' := by
  have lb : p.bW < w.heap.size := (Array.getElem?_eq_some_iff.1 hW.1).1
  have hcb := fun j => cell_of_row w _ j _ _ _ hW.1
  have hlk : (Instr.lookup 88 (.map (some p.bM)) (.int .i64 k) true).run Try.prog w = .ok (lookV W.S k true) w := run_lookup Try.underlying88 Try.underlying3 zero_int hW.2.1 k true
  clear hW
  rcases hg : getT W.S k with _ | t
  · have hd : dueV W.S k = .tuple #[.int .i64 0, .bool false] := by unfold dueV; rw [hg]
    rw [show lookV W.S k true = .tuple #[.agg #[.int .i64 0, .int .i64 0, .int .i64 0], .bool false] by simp only [lookV, hg]] at hlk
    rw [hd]
    clear hd hg
    go_enter Try.func22, Try.ntmps22
    go_wp2_with (refine wpList_store_row rfl 95 _ _ rfl w.heap.size _ rfl rfl 95 _ (heap_new rfl) (info_tm_int _ _ _) rfl (by simp [Value.oneCell']) (unHd ?_))
    have eX : Ext w ((w.alloc (.cells #[.int .i64 0, .int .i64 0, .int .i64 0] 95)).setRow w.heap.size #[.int .i64 0, .int .i64 0, .int .i64 0]) := ((Ext.refl w).alloc _).setRow (Nat.le_refl _) _
    have eT := setRow_heap _ _ _ #[.int .i64 0, .int .i64 0, .int .i64 0] _ _ (heap_new (w := w) (o := .cells #[.int .i64 0, .int .i64 0, .int .i64 0] 95) rfl)
    generalize World.setRow _ _ _ = w2 at eX eT ⊢
    have hct := fun j => cell_of_row w2 _ j _ _ _ eT
    have lt2 : w.heap.size < w2.heap.size := (Array.getElem?_eq_some_iff.1 eT).1
    clear hlk hcb lb eT
    unfold Hd2
    go_wp2_with fail
    go_ret2
    exact ⟨rfl, eX⟩
  · have hd : dueV W.S k = .tuple #[.int .i64 t.a, .bool true] := by unfold dueV; rw [hg]
    rw [show lookV W.S k true = .tuple #[.agg #[.int .i64 t.a, .int .i64 t.o, .int .i64 t.v], .bool true] by simp only [lookV, hg]; rfl] at hlk
    rw [hd]
    clear hd hg
    go_enter Try.func22, Try.ntmps22
    go_wp2_with (refine wpList_store_row rfl 95 _ _ rfl w.heap.size _ rfl rfl 95 _ (heap_new rfl) (info_tm_int _ _ _) rfl (by simp [Value.oneCell']) (unHd ?_))
    have eX : Ext w ((w.alloc (.cells #[.int .i64 0, .int .i64 0, .int .i64 0] 95)).setRow w.heap.size #[.int .i64 t.a, .int .i64 t.o, .int .i64 t.v]) := ((Ext.refl w).alloc _).setRow (Nat.le_refl _) _
    have eT := setRow_heap _ _ _ #[.int .i64 t.a, .int .i64 t.o, .int .i64 t.v] _ _ (heap_new (w := w) (o := .cells #[.int .i64 0, .int .i64 0, .int .i64 0] 95) rfl)
    generalize World.setRow _ _ _ = w2 at eX eT ⊢
    have hct := fun j => cell_of_row w2 _ j _ _ _ eT
    have lt2 : w.heap.size < w2.heap.size := (Array.getElem?_eq_some_iff.1 eT).1
    clear hlk hcb lb eT
    unfold Hd2
    go_wp2_with fail
    go_ret2
    exact ⟨rfl, eX⟩

/-- What Cancel answers. -/
def cancelV (S : List Tm) (k : Int) : Value := match getT S k with
  | some t => .tuple #[.int .i64 t.v, .bool true]
  | none => .tuple #[.int .i64 0, .bool false]

set_option maxRecDepth 100000 in
set_option maxHeartbeats 4000000 in
theorem cancel_int (p : At) (v : Value) (W : Wh) (k : Int) (w : World) (hW : WheelW 91 43 p v W w) (hB : p.B ≤ w.heap.size) :
    Calls Try.prog 20 #[.pointer (some ⟨p.bW, 0, none⟩), .int .i64 k] w fun e w' => e = .returned (cancelV W.S k) ∧ WheelW 91 43 p v { W with S := dropT W.S k } w' ∧ Keeps (p.all v) w w' := by
  have HW := Lib.hid hW
  have lb : p.bW < w.heap.size := (Array.getElem?_eq_some_iff.1 hW.1).1
  have hcb := fun j => cell_of_row w _ j _ _ _ hW.1
  have hlk : (Instr.lookup 88 (.map (some p.bM)) (.int .i64 k) true).run Try.prog w = .ok (lookV W.S k true) w := run_lookup Try.underlying88 Try.underlying3 zero_int hW.2.1 k true
  clear hW
  rcases hg : getT W.S k with _ | t
  · have hd : cancelV W.S k = .tuple #[.int .i64 0, .bool false] := by unfold cancelV; rw [hg]
    rw [show lookV W.S k true = .tuple #[.agg #[.int .i64 0, .int .i64 0, .int .i64 0], .bool false] by simp only [lookV, hg]] at hlk
    rw [hd]
    clear hd hg
    go_enter Try.func20, Try.ntmps20
    go_wp2_with (refine wpList_store_row rfl 95 _ _ rfl w.heap.size _ rfl rfl 95 _ (heap_new rfl) (info_tm_int _ _ _) rfl (by simp [Value.oneCell']) (unHd ?_))
    have eX : Ext w ((w.alloc (.cells #[.int .i64 0, .int .i64 0, .int .i64 0] 95)).setRow w.heap.size #[.int .i64 0, .int .i64 0, .int .i64 0]) := ((Ext.refl w).alloc _).setRow (Nat.le_refl _) _
    have eT := setRow_heap _ _ _ #[.int .i64 0, .int .i64 0, .int .i64 0] _ _ (heap_new (w := w) (o := .cells #[.int .i64 0, .int .i64 0, .int .i64 0] 95) rfl)
    generalize World.setRow _ _ _ = w2 at eX eT ⊢
    have HW2 := Lib.hid (HW.out.ext eX)
    have lb2 : p.bW < w2.heap.size := Nat.lt_of_lt_of_le lb eX.size
    have hcb2 := fun j => cell_of_row w2 _ j _ _ _ HW2.out.1
    have HT2 := Lib.hid eT
    have HX2 := Lib.hid eX
    clear hlk hcb lb eT eX
    unfold Hd2
    go_wp2_with (refine wpList_delete rfl 88 3 95 3 .i64 _ _ rfl Try.underlying88 Try.underlying3 p.bM W.S k rfl rfl HW2.out.2.1 (fun ob hM4 => unHd ?_))
    have pW := p.hW
    have pH := p.hH
    have pM := p.hM
    have hbt : p.bM ≠ w.heap.size := by have := HW.out.2.1.lt; omega
    have t4 : (setB w2 p.bM ob).heap[w.heap.size]? = _ := (setB_other (Ne.symm hbt)).trans HT2.out
    have hW4 : WheelW 91 43 p v { W with S := dropT W.S k } (setB w2 p.bM ob) := ⟨(setB_other (by omega)).trans HW2.out.1, hM4, HW2.out.2.2.same (setB_other (by omega)) (fun q hq _ => setB_other (by omega))⟩
    have k4 : Keeps (p.all v) w (setB w2 p.bM ob) := ((Keeps.refl _ w).ext HX2.out).setB (.inl (by simp [At.all])) ob
    generalize setB w2 p.bM ob = w4 at t4 hW4 k4 ⊢
    have hct4 := fun j => cell_of_row w4 _ j _ _ _ t4
    have lt4 : w.heap.size < w4.heap.size := (Array.getElem?_eq_some_iff.1 t4).1
    have HW4 := Lib.hid hW4
    have HK4 := Lib.hid k4
    clear hM4 t4 hW4 k4 hcb2 lb2
    unfold Hd2
    go_wp2_with fail
    go_ret2
    exact ⟨rfl, HW4.out, HK4.out⟩
  · have hd : cancelV W.S k = .tuple #[.int .i64 t.v, .bool true] := by unfold cancelV; rw [hg]
    rw [show lookV W.S k true = .tuple #[.agg #[.int .i64 t.a, .int .i64 t.o, .int .i64 t.v], .bool true] by simp only [lookV, hg]; rfl] at hlk
    rw [hd]
    clear hd hg
    go_enter Try.func20, Try.ntmps20
    go_wp2_with (refine wpList_store_row rfl 95 _ _ rfl w.heap.size _ rfl rfl 95 _ (heap_new rfl) (info_tm_int _ _ _) rfl (by simp [Value.oneCell']) (unHd ?_))
    have eX : Ext w ((w.alloc (.cells #[.int .i64 0, .int .i64 0, .int .i64 0] 95)).setRow w.heap.size #[.int .i64 t.a, .int .i64 t.o, .int .i64 t.v]) := ((Ext.refl w).alloc _).setRow (Nat.le_refl _) _
    have eT := setRow_heap _ _ _ #[.int .i64 t.a, .int .i64 t.o, .int .i64 t.v] _ _ (heap_new (w := w) (o := .cells #[.int .i64 0, .int .i64 0, .int .i64 0] 95) rfl)
    generalize World.setRow _ _ _ = w2 at eX eT ⊢
    have HW2 := Lib.hid (HW.out.ext eX)
    have lb2 : p.bW < w2.heap.size := Nat.lt_of_lt_of_le lb eX.size
    have hcb2 := fun j => cell_of_row w2 _ j _ _ _ HW2.out.1
    have HT2 := Lib.hid eT
    have HX2 := Lib.hid eX
    clear hlk hcb lb eT eX
    unfold Hd2
    go_wp2_with (refine wpList_delete rfl 88 3 95 3 .i64 _ _ rfl Try.underlying88 Try.underlying3 p.bM W.S k rfl rfl HW2.out.2.1 (fun ob hM4 => unHd ?_))
    have pW := p.hW
    have pH := p.hH
    have pM := p.hM
    have hbt : p.bM ≠ w.heap.size := by have := HW.out.2.1.lt; omega
    have t4 : (setB w2 p.bM ob).heap[w.heap.size]? = _ := (setB_other (Ne.symm hbt)).trans HT2.out
    have hW4 : WheelW 91 43 p v { W with S := dropT W.S k } (setB w2 p.bM ob) := ⟨(setB_other (by omega)).trans HW2.out.1, hM4, HW2.out.2.2.same (setB_other (by omega)) (fun q hq _ => setB_other (by omega))⟩
    have k4 : Keeps (p.all v) w (setB w2 p.bM ob) := ((Keeps.refl _ w).ext HX2.out).setB (.inl (by simp [At.all])) ob
    generalize setB w2 p.bM ob = w4 at t4 hW4 k4 ⊢
    have hct4 := fun j => cell_of_row w4 _ j _ _ _ t4
    have lt4 : w.heap.size < w4.heap.size := (Array.getElem?_eq_some_iff.1 t4).1
    have HW4 := Lib.hid hW4
    have HK4 := Lib.hid k4
    clear hM4 t4 hW4 k4 hcb2 lb2
    unfold Hd2
    go_wp2_with fail
    go_ret2
    exact ⟨rfl, HW4.out, HK4.out⟩

attribute [local go_sem] field0_int

/-- What Next answers. -/
def nextV (S : List Tm) : List Hd → Value
  | [] => .tuple #[.int .i64 0, .bool false]
  | x :: _ => .tuple #[.int .i64 (tmAt S x.i).a, .bool true]

set_option maxRecDepth 100000 in
set_option maxHeartbeats 4000000 in
theorem next_int (p : At) (v : Value) (W : Wh) (w : World) (hW : WheelW 91 43 p v W w) (hB : p.B ≤ w.heap.size) (hL : W.L.length ≤ 100000) :
    Calls Try.prog 21 #[.pointer (some ⟨p.bW, 0, none⟩)] w fun e w' => e = .returned (nextV W.S (firstL W.S W.L.length W.L)) ∧ ∃ v', WheelW 91 43 p v' { W with L := firstL W.S W.L.length W.L } w' ∧ Keeps (p.bH :: rowB v) w w' ∧ rowB v' = rowB v := by
  have HW := Lib.hid hW
  clear hW
  go_enter Try.func21, Try.ntmps21
  go_wp2_with fail
  refine (first_int p v W w HW.out hB hL).mono ?_
  rintro e w1 ⟨rfl, v1, hW1, hk1, hr1⟩
  have lb1 : p.bW < w1.heap.size := (Array.getElem?_eq_some_iff.1 hW1.1).1
  have hcb1 := fun j => cell_of_row w1 _ j _ _ _ hW1.1
  have HW1 := Lib.hid hW1
  have HK1 := Lib.hid hk1
  have HR1 := Lib.hid hr1
  clear hW1 hk1 hr1
  rcases hfl : firstL W.S W.L.length W.L with _ | ⟨x, L2⟩
  · have HFL := Lib.hid hfl
    clear hfl
    simp only [firstV]
    go_wp2_with fail
    refine bodyPost_ret (results_tmp2 (t := 2) (u := 3) rfl _ _ _) ?_ ?_
    · rfl
    refine ⟨?_, v1, ?_, HK1.out, HR1.out⟩
    · first | rfl | (rw [HFL.out]; rfl) | simp [nextV]
    · first | exact HW1.out | (rw [← HFL.out]; exact HW1.out)
  · obtain ⟨t, hgt, hto⟩ := firstL_head (Nat.le_refl _) hfl
    have htm : tmAt W.S x.i = t := by unfold tmAt; rw [hgt]; rfl
    have hlk : (Instr.lookup 88 (.map (some p.bM)) (.int .i64 x.i) false).run Try.prog w1 = .ok (.agg #[.int .i64 t.a, .int .i64 t.o, .int .i64 t.v]) w1 := by
      rw [run_lookup Try.underlying88 Try.underlying3 zero_int HW1.out.2.1 x.i false]
      simp only [lookV, hgt]
      rfl
    have HFL := Lib.hid hfl
    have HTM := Lib.hid htm
    clear hfl hgt hto htm
    simp only [firstV]
    go_wp2_with fail
    refine bodyPost_ret (results_tmp2 (t := 2) (u := 3) rfl _ _ _) ?_ ?_
    · rfl
    refine ⟨?_, v1, ?_, HK1.out, HR1.out⟩
    · first | (simp only [nextV, HTM.out]; rfl) | (rw [HFL.out]; simp only [nextV, HTM.out]; rfl)
    · first | exact HW1.out | (rw [← HFL.out]; exact HW1.out)
end Go.Proofs.Ytibdplfdmncgiaa
