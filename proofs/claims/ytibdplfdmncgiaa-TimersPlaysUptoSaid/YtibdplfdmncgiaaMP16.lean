/-
  Walk: the wheel's other functions. No condition.
-/
import Derived.Test.YtibdplfdmncgiaaMP15
import Derived.Carry
import Derived.Laws.AppendOwnNone
import Derived.IntWalk
set_option linter.all false
namespace Go.Proofs.Ytibdplfdmncgiaa
open Go.RowKit
attribute [local go_sem] ExtOf.cell ExtOf.frozen ExtOf.lt ExtOf.le
attribute [local go_sem high] ExtOf.cell2 ExtOf.frozen2 ExtOf.lt2 ExtOf.cell3 ExtOf.frozen3 ExtOf.lt3 ExtOf.cellX ExtOf.frozenX ExtOf.cellX' ExtOf.frozenX'

def wh0 : Wh := ⟨0, 0, 0, [], [], 0⟩

/-- A new wheel. -/
def NewW (T : TypeId) (f : FuncId) (w : World) : Ending → World → Prop := fun e w' =>
  ∃ p : At, p.cv = .slice none 0 0 ∧ e = .returned (.pointer (some ⟨p.bW, 0, none⟩)) ∧ WheelW T f p (.slice none 0 0) wh0 w' ∧ Ext w w' ∧ w.heap.size ≤ p.bM ∧ p.B ≤ w'.heap.size

theorem heap_new_any (f : FuncId) (w : World) :
    Calls Try.prog 40 #[.func (.func f) #[] #[]] w fun e w' => e = .returned (.pointer (some ⟨w.heap.size, 0, none⟩)) ∧ w' = w.alloc (.cells #[.func (.func f) #[] #[], .slice none 0 0, .int .i64 0] 115) := by
  go_enter Try.func40, Try.ntmps40
  go_wp2_with fail
  go_ret
  exact ⟨rfl, rfl⟩

set_option maxHeartbeats 1600000 in
theorem new_string (w : World) : Calls Try.prog 25 #[] w (NewW 101 47 w) := by
  have hmm := @run_makeMap Try.prog
  go_enter Try.func25, Try.ntmps25
  go_wp2_with fail
  refine (heap_new_any 47 _).mono ?_
  rintro e w1 ⟨rfl, rfl⟩
  go_wp2_with fail
  go_ret
  exact ⟨⟨w.heap.size, w.heap.size + 1, w.heap.size + 1 + 1, w.heap.size + 3, .slice none 0 0, by omega, by omega, by omega⟩, rfl, rfl, ⟨heap_new (by simp), ⟨#[], 0, heap_ext (heap_new rfl) (((Ext.refl _).alloc _).alloc _), rfl, born0⟩, heap_ext (heap_new (by simp)) ((Ext.refl _).alloc _), World.ownsRow_nil _ _ _ _⟩, (((Ext.refl _).alloc _).alloc _).alloc _, Nat.le_refl _, by simp⟩

set_option maxRecDepth 100000 in
set_option maxHeartbeats 4000000 in
theorem turn_string (p : At) (v : Value) (W : Wh) (n : Int) (w : World) (hW : WheelW 101 47 p v W w) (hc : p.cv = .slice none 0 0) (hB : p.B ≤ w.heap.size) (hL : W.L.length ≤ 100000) (hS : W.S.length ≤ 100000) (h0 : 0 ≤ W.now) (hn : 0 ≤ n) (hn2 : n ≤ 9223372036854775807 - W.now) :
    Calls Try.prog 33 #[.pointer (some ⟨p.bW, 0, none⟩), .int .i64 n] w (TurnedW 101 9 47 p v (untilW (W.now + n) (W.S.length + 1) W []) (fun x => .tuple #[x, .int .i64 0]) w) := by
  have HW := Lib.hid hW
  have lb : p.bW < w.heap.size := (Array.getElem?_eq_some_iff.1 hW.1).1
  have hcb := fun j => cell_of_row w _ j _ _ _ hW.1
  clear hW
  go_enter Try.func33, Try.ntmps33
  go_wp2_with fail
  refine (until_string p v W (W.now + n) w HW.out hc hB hL hS).mono ?_
  rintro e w1 ⟨vl, v', rfl, ho, hW1, hk1, hr1⟩
  have HO := Lib.hid ho
  have HW1 := Lib.hid hW1
  have HK1 := Lib.hid hk1
  have HR1 := Lib.hid hr1
  clear ho hW1 hk1 hr1 hcb lb
  go_wp2_with fail
  refine bodyPost_ret (results_tmp2 (t := 4) (u := 5) rfl _ _ _) ?_ ?_
  · rfl
  exact ⟨vl, v', rfl, HO.out, HW1.out, HK1.out, HR1.out⟩

theorem len_string (p : At) (v : Value) (W : Wh) (w : World) (hW : WheelW 101 47 p v W w) :
    Calls Try.prog 38 #[.pointer (some ⟨p.bW, 0, none⟩)] w fun e w' => e = .returned (.int .i64 W.S.length) ∧ w' = w := by
  have hlen : ∀ ty, (Builtin.len_ #[98] ty #[.map (some p.bM)]).run Try.prog w = .ok (.int .i64 W.S.length) w := fun ty => run_lenMap (ts := #[98]) rfl Try.underlying98 hW.2.1
  have lb : p.bW < w.heap.size := (Array.getElem?_eq_some_iff.1 hW.1).1
  have hcb := fun j => cell_of_row w _ j _ _ _ hW.1
  clear hW
  go_enter Try.func38, Try.ntmps38
  go_wp2_with fail
  go_ret
  exact ⟨rfl, rfl⟩

theorem now_string (p : At) (v : Value) (W : Wh) (w : World) (hW : WheelW 101 47 p v W w) :
    Calls Try.prog 30 #[.pointer (some ⟨p.bW, 0, none⟩)] w fun e w' => e = .returned (.int .i64 W.now) ∧ w' = w := by
  have lb : p.bW < w.heap.size := (Array.getElem?_eq_some_iff.1 hW.1).1
  have hcb := fun j => cell_of_row w _ j _ _ _ hW.1
  clear hW
  go_enter Try.func30, Try.ntmps30
  go_wp2_with fail
  go_ret
  exact ⟨rfl, rfl⟩

set_option maxRecDepth 100000 in
set_option maxHeartbeats 4000000 in
theorem tick_go_string (p : At) (v : Value) (W : Wh) (w : World) (hW : WheelW 101 47 p v W w) (hc : p.cv = .slice none 0 0) (hB : p.B ≤ w.heap.size) (hL : W.L.length ≤ 100000) (hS : W.S.length ≤ 100000) (h0 : 0 ≤ W.now) (hn2 : W.now < 9223372036854775807) :
    Calls Try.prog 32 #[.pointer (some ⟨p.bW, 0, none⟩)] w (TurnedW 101 9 47 p v (untilW (W.now + 1) (W.S.length + 1) W []) (fun x => x) w) := by
  have HW := Lib.hid hW
  have lb : p.bW < w.heap.size := (Array.getElem?_eq_some_iff.1 hW.1).1
  have hcb := fun j => cell_of_row w _ j _ _ _ hW.1
  have he : (W.now == 9223372036854775807) = false := by simp; omega
  clear hW
  go_enter Try.func32, Try.ntmps32
  go_wp2_with fail
  refine (until_string p v W (W.now + 1) w HW.out hc hB hL hS).mono ?_
  rintro e w1 ⟨vl, v', rfl, ho, hW1, hk1, hr1⟩
  have HO := Lib.hid ho
  have HW1 := Lib.hid hW1
  have HK1 := Lib.hid hk1
  have HR1 := Lib.hid hr1
  clear ho hW1 hk1 hr1 hcb lb
  go_wp2_with fail
  refine bodyPost_ret (results_tmp (t := 2) rfl _ _ _) ?_ ?_
  · rfl
  exact ⟨vl, v', rfl, HO.out, HW1.out, HK1.out, HR1.out⟩

theorem tick_end_string (p : At) (v : Value) (W : Wh) (w : World) (hW : WheelW 101 47 p v W w) (hn2 : W.now = 9223372036854775807) :
    Calls Try.prog 32 #[.pointer (some ⟨p.bW, 0, none⟩)] w fun e w' => e = .returned (.slice none 0 0) ∧ w' = w := by
  obtain ⟨now, ids, ord, S, L, m⟩ := W
  simp only at hn2
  subst hn2
  have lb : p.bW < w.heap.size := (Array.getElem?_eq_some_iff.1 hW.1).1
  have hcb := fun j => cell_of_row w _ j _ _ _ hW.1
  clear hW
  go_enter Try.func32, Try.ntmps32
  go_wp2_with fail
  go_ret
  exact ⟨rfl, rfl⟩

/-- What Due answers. -/
def dueV (S : List Tm) (k : Int) : Value := match getT S k with
  | some t => .tuple #[.int .i64 t.a, .bool true]
  | none => .tuple #[.int .i64 0, .bool false]

set_option maxRecDepth 100000 in
set_option maxHeartbeats 4000000 in
theorem due_string (p : At) (v : Value) (W : Wh) (k : Int) (w : World) (hW : WheelW 101 47 p v W w) :
    Calls Try.prog 55 #[.pointer (some ⟨p.bW, 0, none⟩), .int .i64 k] w fun e w' => e = .returned (dueV W.S k) ∧ Ext w w' := by
  have lb : p.bW < w.heap.size := (Array.getElem?_eq_some_iff.1 hW.1).1
  have hcb := fun j => cell_of_row w _ j _ _ _ hW.1
  have hlk : (Instr.lookup 98 (.map (some p.bM)) (.int .i64 k) true).run Try.prog w = .ok (lookV W.S k true) w := run_lookup Try.underlying98 Try.underlying3 zero_string hW.2.1 k true
  clear hW
  rcases hg : getT W.S k with _ | t
  · have hd : dueV W.S k = .tuple #[.int .i64 0, .bool false] := by unfold dueV; rw [hg]
    rw [show lookV W.S k true = .tuple #[.agg #[.int .i64 0, .int .i64 0, .string { data := #[] }], .bool false] by simp only [lookV, hg]] at hlk
    rw [hd]
    clear hd hg
    go_enter Try.func55, Try.ntmps55
    go_wp2_with (refine wpList_store_row rfl 112 _ _ rfl w.heap.size _ rfl rfl 112 _ (heap_new rfl) (info_tm_string _ _ _) rfl (by simp [Value.oneCell']) (unHd ?_))
    have eX : Ext w ((w.alloc (.cells #[.int .i64 0, .int .i64 0, .string { data := #[] }] 112)).setRow w.heap.size #[.int .i64 0, .int .i64 0, .string { data := #[] }]) := ((Ext.refl w).alloc _).setRow (Nat.le_refl _) _
    have eT := setRow_heap _ _ _ #[.int .i64 0, .int .i64 0, .string { data := #[] }] _ _ (heap_new (w := w) (o := .cells #[.int .i64 0, .int .i64 0, .string { data := #[] }] 112) rfl)
    generalize World.setRow _ _ _ = w2 at eX eT ⊢
    have hct := fun j => cell_of_row w2 _ j _ _ _ eT
    have lt2 : w.heap.size < w2.heap.size := (Array.getElem?_eq_some_iff.1 eT).1
    clear hlk hcb lb eT
    unfold Hd2
    go_wp2_with fail
    go_ret2
    exact ⟨rfl, eX⟩
  · have hd : dueV W.S k = .tuple #[.int .i64 t.a, .bool true] := by unfold dueV; rw [hg]
    rw [show lookV W.S k true = .tuple #[.agg #[.int .i64 t.a, .int .i64 t.o, .string t.v], .bool true] by simp only [lookV, hg]; rfl] at hlk
    rw [hd]
    clear hd hg
    go_enter Try.func55, Try.ntmps55
    go_wp2_with (refine wpList_store_row rfl 112 _ _ rfl w.heap.size _ rfl rfl 112 _ (heap_new rfl) (info_tm_string _ _ _) rfl (by simp [Value.oneCell']) (unHd ?_))
    have eX : Ext w ((w.alloc (.cells #[.int .i64 0, .int .i64 0, .string { data := #[] }] 112)).setRow w.heap.size #[.int .i64 t.a, .int .i64 t.o, .string t.v]) := ((Ext.refl w).alloc _).setRow (Nat.le_refl _) _
    have eT := setRow_heap _ _ _ #[.int .i64 t.a, .int .i64 t.o, .string t.v] _ _ (heap_new (w := w) (o := .cells #[.int .i64 0, .int .i64 0, .string { data := #[] }] 112) rfl)
    generalize World.setRow _ _ _ = w2 at eX eT ⊢
    have hct := fun j => cell_of_row w2 _ j _ _ _ eT
    have lt2 : w.heap.size < w2.heap.size := (Array.getElem?_eq_some_iff.1 eT).1
    clear hlk hcb lb eT
    unfold Hd2
    go_wp2_with fail
    go_ret2
    exact ⟨rfl, eX⟩

/-- What Cancel answers. -/
def cancelV (S : List Tm) (k : Int) : Value := match getT S k with
  | some t => .tuple #[.string t.v, .bool true]
  | none => .tuple #[.string { data := #[] }, .bool false]

set_option maxRecDepth 100000 in
set_option maxHeartbeats 4000000 in
theorem cancel_string (p : At) (v : Value) (W : Wh) (k : Int) (w : World) (hW : WheelW 101 47 p v W w) (hB : p.B ≤ w.heap.size) :
    Calls Try.prog 49 #[.pointer (some ⟨p.bW, 0, none⟩), .int .i64 k] w fun e w' => e = .returned (cancelV W.S k) ∧ WheelW 101 47 p v { W with S := dropT W.S k } w' ∧ Keeps (p.all v) w w' := by
  have HW := Lib.hid hW
  have lb : p.bW < w.heap.size := (Array.getElem?_eq_some_iff.1 hW.1).1
  have hcb := fun j => cell_of_row w _ j _ _ _ hW.1
  have hlk : (Instr.lookup 98 (.map (some p.bM)) (.int .i64 k) true).run Try.prog w = .ok (lookV W.S k true) w := run_lookup Try.underlying98 Try.underlying3 zero_string hW.2.1 k true
  clear hW
  rcases hg : getT W.S k with _ | t
  · have hd : cancelV W.S k = .tuple #[.string { data := #[] }, .bool false] := by unfold cancelV; rw [hg]
    rw [show lookV W.S k true = .tuple #[.agg #[.int .i64 0, .int .i64 0, .string { data := #[] }], .bool false] by simp only [lookV, hg]] at hlk
    rw [hd]
    clear hd hg
    go_enter Try.func49, Try.ntmps49
    go_wp2_with (refine wpList_store_row rfl 112 _ _ rfl w.heap.size _ rfl rfl 112 _ (heap_new rfl) (info_tm_string _ _ _) rfl (by simp [Value.oneCell']) (unHd ?_))
    have eX : Ext w ((w.alloc (.cells #[.int .i64 0, .int .i64 0, .string { data := #[] }] 112)).setRow w.heap.size #[.int .i64 0, .int .i64 0, .string { data := #[] }]) := ((Ext.refl w).alloc _).setRow (Nat.le_refl _) _
    have eT := setRow_heap _ _ _ #[.int .i64 0, .int .i64 0, .string { data := #[] }] _ _ (heap_new (w := w) (o := .cells #[.int .i64 0, .int .i64 0, .string { data := #[] }] 112) rfl)
    generalize World.setRow _ _ _ = w2 at eX eT ⊢
    have HW2 := Lib.hid (HW.out.ext eX)
    have lb2 : p.bW < w2.heap.size := Nat.lt_of_lt_of_le lb eX.size
    have hcb2 := fun j => cell_of_row w2 _ j _ _ _ HW2.out.1
    have HT2 := Lib.hid eT
    have HX2 := Lib.hid eX
    clear hlk hcb lb eT eX
    unfold Hd2
    go_wp2_with (refine wpList_delete rfl 98 3 112 3 .i64 _ _ rfl Try.underlying98 Try.underlying3 p.bM W.S k rfl rfl HW2.out.2.1 (fun ob hM4 => unHd ?_))
    have pW := p.hW
    have pH := p.hH
    have pM := p.hM
    have hbt : p.bM ≠ w.heap.size := by have := HW.out.2.1.lt; omega
    have t4 : (setB w2 p.bM ob).heap[w.heap.size]? = _ := (setB_other (Ne.symm hbt)).trans HT2.out
    have hW4 : WheelW 101 47 p v { W with S := dropT W.S k } (setB w2 p.bM ob) := ⟨(setB_other (by omega)).trans HW2.out.1, hM4, HW2.out.2.2.same (setB_other (by omega)) (fun q hq _ => setB_other (by omega))⟩
    have k4 : Keeps (p.all v) w (setB w2 p.bM ob) := ((Keeps.refl _ w).ext HX2.out).setB (.inl (by simp [At.all])) ob
    generalize setB w2 p.bM ob = w4 at t4 hW4 k4 ⊢
    have hct4 := fun j => cell_of_row w4 _ j _ _ _ t4
    have lt4 : w.heap.size < w4.heap.size := (Array.getElem?_eq_some_iff.1 t4).1
    have HW4 := Lib.hid hW4
    have HK4 := Lib.hid k4
    clear hM4 t4 hW4 k4 hcb2 lb2
    unfold Hd2
    go_wp2_with fail
    go_ret2
    exact ⟨rfl, HW4.out, HK4.out⟩
  · have hd : cancelV W.S k = .tuple #[.string t.v, .bool true] := by unfold cancelV; rw [hg]
    rw [show lookV W.S k true = .tuple #[.agg #[.int .i64 t.a, .int .i64 t.o, .string t.v], .bool true] by simp only [lookV, hg]; rfl] at hlk
    rw [hd]
    clear hd hg
    go_enter Try.func49, Try.ntmps49
    go_wp2_with (refine wpList_store_row rfl 112 _ _ rfl w.heap.size _ rfl rfl 112 _ (heap_new rfl) (info_tm_string _ _ _) rfl (by simp [Value.oneCell']) (unHd ?_))
    have eX : Ext w ((w.alloc (.cells #[.int .i64 0, .int .i64 0, .string { data := #[] }] 112)).setRow w.heap.size #[.int .i64 t.a, .int .i64 t.o, .string t.v]) := ((Ext.refl w).alloc _).setRow (Nat.le_refl _) _
    have eT := setRow_heap _ _ _ #[.int .i64 t.a, .int .i64 t.o, .string t.v] _ _ (heap_new (w := w) (o := .cells #[.int .i64 0, .int .i64 0, .string { data := #[] }] 112) rfl)
    generalize World.setRow _ _ _ = w2 at eX eT ⊢
    have HW2 := Lib.hid (HW.out.ext eX)
    have lb2 : p.bW < w2.heap.size := Nat.lt_of_lt_of_le lb eX.size
    have hcb2 := fun j => cell_of_row w2 _ j _ _ _ HW2.out.1
    have HT2 := Lib.hid eT
    have HX2 := Lib.hid eX
    clear hlk hcb lb eT eX
    unfold Hd2
    go_wp2_with (refine wpList_delete rfl 98 3 112 3 .i64 _ _ rfl Try.underlying98 Try.underlying3 p.bM W.S k rfl rfl HW2.out.2.1 (fun ob hM4 => unHd ?_))
    have pW := p.hW
    have pH := p.hH
    have pM := p.hM
    have hbt : p.bM ≠ w.heap.size := by have := HW.out.2.1.lt; omega
    have t4 : (setB w2 p.bM ob).heap[w.heap.size]? = _ := (setB_other (Ne.symm hbt)).trans HT2.out
    have hW4 : WheelW 101 47 p v { W with S := dropT W.S k } (setB w2 p.bM ob) := ⟨(setB_other (by omega)).trans HW2.out.1, hM4, HW2.out.2.2.same (setB_other (by omega)) (fun q hq _ => setB_other (by omega))⟩
    have k4 : Keeps (p.all v) w (setB w2 p.bM ob) := ((Keeps.refl _ w).ext HX2.out).setB (.inl (by simp [At.all])) ob
    generalize setB w2 p.bM ob = w4 at t4 hW4 k4 ⊢
    have hct4 := fun j => cell_of_row w4 _ j _ _ _ t4
    have lt4 : w.heap.size < w4.heap.size := (Array.getElem?_eq_some_iff.1 t4).1
    have HW4 := Lib.hid hW4
    have HK4 := Lib.hid k4
    clear hM4 t4 hW4 k4 hcb2 lb2
    unfold Hd2
    go_wp2_with fail
    go_ret2
    exact ⟨rfl, HW4.out, HK4.out⟩

attribute [local go_sem] field0_string

/-- What Next answers. -/
def nextV (S : List Tm) : List Hd → Value
  | [] => .tuple #[.int .i64 0, .bool false]
  | x :: _ => .tuple #[.int .i64 (tmAt S x.i).a, .bool true]

set_option maxRecDepth 100000 in
set_option maxHeartbeats 4000000 in
theorem next_string (p : At) (v : Value) (W : Wh) (w : World) (hW : WheelW 101 47 p v W w) (hB : p.B ≤ w.heap.size) (hL : W.L.length ≤ 100000) :
    Calls Try.prog 36 #[.pointer (some ⟨p.bW, 0, none⟩)] w fun e w' => e = .returned (nextV W.S (firstL W.S W.L.length W.L)) ∧ ∃ v', WheelW 101 47 p v' { W with L := firstL W.S W.L.length W.L } w' ∧ Keeps (p.bH :: rowB v) w w' ∧ rowB v' = rowB v := by
  have HW := Lib.hid hW
  clear hW
  go_enter Try.func36, Try.ntmps36
  go_wp2_with fail
  refine (first_string p v W w HW.out hB hL).mono ?_
  rintro e w1 ⟨rfl, v1, hW1, hk1, hr1⟩
  have lb1 : p.bW < w1.heap.size := (Array.getElem?_eq_some_iff.1 hW1.1).1
  have hcb1 := fun j => cell_of_row w1 _ j _ _ _ hW1.1
  have HW1 := Lib.hid hW1
  have HK1 := Lib.hid hk1
  have HR1 := Lib.hid hr1
  clear hW1 hk1 hr1
  rcases hfl : firstL W.S W.L.length W.L with _ | ⟨x, L2⟩
  · have HFL := Lib.hid hfl
    clear hfl
    simp only [firstV]
    go_wp2_with fail
    refine bodyPost_ret (results_tmp2 (t := 2) (u := 3) rfl _ _ _) ?_ ?_
    · rfl
    refine ⟨?_, v1, ?_, HK1.out, HR1.out⟩
    · first | rfl | (rw [HFL.out]; rfl) | simp [nextV]
    · first | exact HW1.out | (rw [← HFL.out]; exact HW1.out)
  · obtain ⟨t, hgt, hto⟩ := firstL_head (Nat.le_refl _) hfl
    have htm : tmAt W.S x.i = t := by unfold tmAt; rw [hgt]; rfl
    have hlk : (Instr.lookup 98 (.map (some p.bM)) (.int .i64 x.i) false).run Try.prog w1 = .ok (.agg #[.int .i64 t.a, .int .i64 t.o, .string t.v]) w1 := by
      rw [run_lookup Try.underlying98 Try.underlying3 zero_string HW1.out.2.1 x.i false]
      simp only [lookV, hgt]
      rfl
    have HFL := Lib.hid hfl
    have HTM := Lib.hid htm
    clear hfl hgt hto htm
    simp only [firstV]
    go_wp2_with fail
    refine bodyPost_ret (results_tmp2 (t := 2) (u := 3) rfl _ _ _) ?_ ?_
    · rfl
    refine ⟨?_, v1, ?_, HK1.out, HR1.out⟩
    · first | (simp only [nextV, HTM.out]; rfl) | (rw [HFL.out]; simp only [nextV, HTM.out]; rfl)
    · first | exact HW1.out | (rw [← HFL.out]; exact HW1.out)
end Go.Proofs.Ytibdplfdmncgiaa

/-
  Quick steps of a script, taken in one walk. No condition.
-/
namespace Go.Proofs.Ytibdplfdmncgiaa
open Go.RowKit
section
variable {P : Program} {ops : Array Oper} {C : World → Prop} {Q : Exit → Act → World → Prop}
theorem post_walk {af : Act} {w : World} {r : List Stp} : ∀ (qs : List Stp) (a : Act), qs.all (·.q) = true → walkE P ops C af (qs.map (·.o)) a → wpPost P ops C Q r af w → wpPost P ops C Q (qs ++ r) a w
  | [], a, _, h, hr => by
    have h : a = af := h
    rw [h]; exact hr
  | s :: qs, a, hq, h, hr => by
    simp only [List.all_cons, Bool.and_eq_true] at hq
    obtain ⟨v, hy, hn⟩ := h
    rw [List.cons_append]
    unfold wpPost
    rw [if_pos hq.1]
    exact ⟨v, hy, post_walk qs _ hq.2 hn hr⟩

theorem post_quiet {a af : Act} {w : World} {l : List Stp} (k n : Nat) (hq : (l.take k).all (·.q) = true) (hn : a.tmps.size = n) (hd : dstsOk n ((l.take k).map (·.o)) = true) (hne : ∃ w, C w)
    (h : ∀ w', C w' → wpQuiet P ops (fun w'' => ∃ x : ExtOf w', w'' = x.val) (fun a' => a' = af) ((l.take k).map (·.o)) a) (hr : wpPost P ops C Q (l.drop k) af w) : wpPost P ops C Q l a w := by
  subst hn
  have := post_walk (Q := Q) (w := w) (r := l.drop k) (l.take k) a hq (walkE_of_quiet hne _ a hd h) hr
  rwa [List.take_append_drop] at this
end
/-- append to a row of the call's own (in a block from B on), of any slice of that type. -/
theorem wpList_app4 {P : Program} {ops : Array Oper} {rest : List Oper} {o : Oper} {a : Act} {Q : Exit → Act → World → Prop} {w : World} (B : Nat) (t e : TypeId) (i : TypeInfo) (z : Value) (size bytes : Nat)
    (ht : P.underlying t = some (.slice e)) (hi : P.info? e = some i) (hz : i.zero = some z) (hsize : i.size = size) (hby : i.bytes = bytes) (hzs : z.cells.size = size) (hsz : 0 < size)
    (hgd : o.guard = none) (s x : Operand) (ho : o.op = .call { callee := .builtin .append, args := #[s, x], argTypes := #[t, t] })
    (v : Value) (n : Nat) (xs : List Value) (hs : a.eval s = v) (hown : w.ownsRow B e size v n xs) (hB : B ≤ w.heap.size)
    (v2 : Value) (m : Nat) (news : List Value) (hx : a.eval x = v2) (hrow : Row w size v2 m news) (hnil : v2 = .slice none 0 0 ∨ ∃ a n c, v2 = .slice (some a) n c) (h1 : ∀ u ∈ news, u.oneCell' = true)
    (h63 : n + m ≤ maxLen) (hbytes : (n + m) * bytes ≤ 140737488355328)
    (h : ∀ v' w', w'.ownsRow B e size v' (n + m) (xs ++ news) → Below B w w' → w.grownBy w' v.ownBlock → wpList P ops Q rest (a.put o.dst v') w') : wpList P ops Q (o :: rest) a w := by
  rcases hnil with hnil | ⟨ad, n', c', hnil⟩
  · have hm0 : m = 0 := by
      rcases hrow.2 with ⟨h0, _⟩ | ⟨g, off, cap, hv, _⟩
      · exact h0
      · rw [hnil] at hv; cases hv
    subst hm0
    have hnews : news = [] := List.length_eq_zero_iff.1 (by simpa using hrow.1)
    subst hnews
    refine wpList_append_own_none hgd s x t ho B e i size ht hi v n xs hs hown (by rw [hx, hnil]) (h v w (by simpa using hown) (Below.refl _ _) ⟨rfl, rfl, rfl, Nat.le_refl _, fun _ _ _ => rfl⟩)
  · have key : v2 = .slice (some ad) m c' ∧ ∀ j u, news[j]? = some u → w.cell? (ad.add j) = some u := by
      rcases hrow.2 with ⟨h0, a', c2, hv⟩ | ⟨g, off, cap, hv, _, hc⟩
      · rw [hnil] at hv
        simp only [Value.slice.injEq] at hv
        refine ⟨by rw [hnil, hv.2.1, h0], fun j u hj => ?_⟩
        have : news = [] := List.length_eq_zero_iff.1 (by rw [hrow.1, h0, Nat.zero_mul])
        rw [this] at hj; simp at hj
      · rw [hnil] at hv
        simp only [Value.slice.injEq, Option.some.injEq] at hv
        refine ⟨by rw [hnil, hv.2.1], fun j u hj => ?_⟩
        rw [hv.1]
        have : (⟨g, off, none⟩ : Addr).add j = ⟨g, off + j, none⟩ := by unfold Addr.add; split <;> simp_all
        rw [this]; exact hc j u hj
    exact wpList_append_own w hgd s x t ho B e i z size bytes ht hi hz hsize hby hzs hsz v n xs hs hown ad m c' news (by rw [hx, key.1]) hrow.1 key.2 h1 h63 hbytes hB
      fun v' w' k1 k2 _ => h v' w' k1 (Below.grown (Below.refl _ _) k2 hB fun k hk => (hown.lt k hk).1) k2
end Go.Proofs.Ytibdplfdmncgiaa

/-
  Walk: the document's wheel: what only reads (Find, Values, Texts). No condition.
-/
namespace Go.Proofs.Ytibdplfdmncgiaa
open Go.RowKit
attribute [local go_sem] ExtOf.cell ExtOf.frozen ExtOf.lt ExtOf.le
attribute [local go_sem high] ExtOf.cell2 ExtOf.frozen2 ExtOf.lt2 ExtOf.cell3 ExtOf.frozen3 ExtOf.lt3

def Tr.cs (t : Tr) : List Value := [.int .i64 t.id, .int .i64 t.a, .string t.v]

/-- The document's wheel lies in block b; its row in a block from B on. -/
def RefW (b B : Nat) (v : Value) (R : Rw) (w : World) : Prop :=
  w.heap[b]? = some (.cells #[.int .i64 R.now, .int .i64 R.next, v] 56 (0, 0)) ∧ w.ownsRow B 72 3 v R.L.length (R.L.flatMap Tr.cs)
theorem RefW.ext {b B : Nat} {v : Value} {R : Rw} {w w' : World} (h : RefW b B v R w) (e : Ext w w') : RefW b B v R w' := ⟨heap_ext h.1 e, own_ext h.2 e⟩

/-- The facts that are read of the element k of a row of timers. -/
theorem tr_cells {w : World} {g : Nat} {L : List Tr} {k : Nat} {x : Tr} (h : ∀ j u, (L.flatMap Tr.cs)[j]? = some u → w.cell? ⟨g, j, none⟩ = some u) (hx : L[k]? = some x) :
    w.cell? ⟨g, k * 3, none⟩ = some (.int .i64 x.id) ∧ w.cell? ⟨g, k * 3 + 1, none⟩ = some (.int .i64 x.a) ∧ w.cell? ⟨g, k * 3 + 2, none⟩ = some (.string x.v) := by
  have f := fun j hj => flat_get Tr.cs 3 (fun _ => rfl) L k x hx j hj
  have F : ∀ j u, (Tr.cs x)[j]? = some u → j < 3 → w.cell? ⟨g, k * 3 + j, none⟩ = some u := fun j u hu hj => h _ _ ((f j hj).trans hu)
  exact ⟨F 0 _ rfl (by omega), F 1 _ rfl (by omega), F 2 _ rfl (by omega)⟩

theorem findI_here {L : List Tr} {k : Int} {n : Nat} {t : Tr} (h : ∀ j u, j < n → L[j]? = some u → (u.id == k) = false) (hx : L[n]? = some t) (he : (t.id == k) = true) : findI L k = n := by
  obtain ⟨hlt, hget⟩ := List.getElem?_eq_some_iff.1 hx
  have : findR L k = some n := by
    unfold findR
    rw [List.findIdx?_eq_some_iff_getElem]
    refine ⟨hlt, by rw [hget]; exact he, fun j hj => ?_⟩
    have := h j _ hj (List.getElem?_eq_getElem (by omega))
    simp [this]
  unfold findI
  rw [this]
theorem findI_none {L : List Tr} {k : Int} (h : ∀ j u, j < L.length → L[j]? = some u → (u.id == k) = false) : findI L k = -1 := by
  have : findR L k = none := by
    unfold findR
    rw [List.findIdx?_eq_none_iff]
    intro u hu
    obtain ⟨j, hj, he⟩ := List.getElem_of_mem hu
    exact h j u hj (by rw [List.getElem?_eq_getElem hj, he])
  unfold findI
  rw [this]

set_option maxRecDepth 100000 in
set_option maxHeartbeats 4000000 in
theorem ref_find (b B : Nat) (v : Value) (R : Rw) (k : Int) (w : World) (hW : RefW b B v R w) : Calls Try.prog 56 #[.pointer (some ⟨b, 0, none⟩), .int .i64 k] w fun e w' => e = .returned (.int .i64 (findI R.L k)) ∧ w' = w := by
  obtain ⟨hb, hO⟩ := hW
  obtain ⟨a, cap, rfl, hm, hvw⟩ := own_view hO
  have lb : b < w.heap.size := (Array.getElem?_eq_some_iff.1 hb).1
  have hcb := fun j => cell_of_row w _ j _ _ _ hb
  have HV := Lib.hid hvw
  clear hb hO hvw
  unfold maxLen at hm
  go_enter Try.func56, Try.ntmps56
  go_wp2_with fail
  go_loopg [5] R.L.length (fun g i wr => ∃ n : Nat, i = .int .i64 (n : Int) ∧ n + g = R.L.length ∧ w = wr ∧ Hid (∀ j u, j < n → R.L[j]? = some u → (u.id == k) = false))
  case atStart => exact ⟨0, rfl, by omega, rfl, Lib.hid fun _ _ h => by omega⟩
  case round =>
    obtain ⟨n, rfl, hg, rfl, HN⟩ := hrel
    by_cases hlt : n < R.L.length
    · obtain ⟨t, hx⟩ : ∃ t, R.L[n]? = some t := ⟨_, List.getElem?_eq_getElem hlt⟩
      obtain ⟨g, rfl, _, hgl, hcell⟩ := HV.out (by omega)
      obtain ⟨q0, q1, q2⟩ := tr_cells hcell hx
      have hlt' : (n : Int) < (R.L.length : Int) := by omega
      have HX := Lib.hid hx
      clear hcell hx
      rcases he : (t.id == k)
      · go_wp2_with fail
        go_roundg (gk - 1)
        case rel => exact ⟨n + 1, rfl, by omega, rfl, Lib.hid fun j u hj hu => by
          rcases Nat.lt_or_ge j n with h | h
          · exact HN.out j u h hu
          · obtain rfl : j = n := by omega
            rw [HX.out] at hu; cases hu; exact he⟩
        case measure => omega
      · go_wp2_with fail
        go_ret
        exact ⟨by rw [findI_here HN.out HX.out he]; rfl, rfl⟩
    · have hlt' : ¬ (n : Int) < (R.L.length : Int) := by omega
      go_wp2_with fail
      go_ret
      obtain rfl : n = R.L.length := by omega
      exact ⟨by rw [findI_none HN.out]; rfl, rfl⟩

theorem toList_eq_iff (s t : ByteArray) : (s.toList = t.toList) ↔ s = t := by
  rw [ByteArray.toList_eq, ByteArray.toList_eq]
  constructor
  · intro h; obtain ⟨⟨x⟩⟩ := s; obtain ⟨⟨y⟩⟩ := t; simpa using h
  · intro h; rw [h]
theorem toList_beq (s t : ByteArray) : (s.toList == t.toList) = decide (s = t) := by
  rw [Bool.eq_iff_iff]; simp [toList_eq_iff]

theorem txt_cells {w : World} {g : Nat} {L : List ByteArray} {k : Nat} {x : ByteArray} (h : ∀ j u, (txtCs L)[j]? = some u → w.cell? ⟨g, j, none⟩ = some u) (hx : L[k]? = some x) : w.cell? ⟨g, k, none⟩ = some (.string x) :=
  h k _ (by simp [txtCs, hx])

set_option maxRecDepth 100000 in
set_option maxHeartbeats 4000000 in
/-- Are two rows of texts the same? -/
theorem ref_texts (v u : Value) (L M : List ByteArray) (w : World) (B B' : Nat) (hv : w.ownsRow B 9 1 v L.length (txtCs L)) (hu : w.ownsRow B' 9 1 u M.length (txtCs M)) : Calls Try.prog 37 #[v, u] w fun e w' => e = .returned (.bool (decide (L = M))) ∧ Ext w w' := by
  obtain ⟨a, cap, rfl, hm, hvw⟩ := own_view hv
  obtain ⟨a2, cap2, rfl, hm2, hvw2⟩ := own_view hu
  have HV := Lib.hid hvw
  have HU := Lib.hid hvw2
  clear hv hu hvw hvw2
  unfold maxLen at hm hm2
  by_cases hl : L.length = M.length
  case neg =>
    have hl' : ((L.length : Int) == (M.length : Int)) = false := by simp; omega
    have hne : L ≠ M := fun e => hl (by rw [e])
    go_enter Try.func37, Try.ntmps37
    go_wp2_with fail
    go_ret
    exact ⟨by rw [decide_eq_false hne]; rfl, Ext.refl _⟩
  have HL := Lib.hid hl
  have hl' : ((L.length : Int) == (M.length : Int)) = true := by simp; omega
  clear hl
  go_enter Try.func37, Try.ntmps37
  go_wp2_with fail
  go_loopg [5] L.length (fun g i wr => ∃ (n : Nat) (y : ExtOf w), i = .int .i64 (n : Int) ∧ n + g = L.length ∧ wr = y.val ∧ Hid (∀ j, j < n → L[j]? = M[j]?))
  case atStart => exact ⟨0, ⟨w, Ext.refl _⟩, rfl, by omega, rfl, Lib.hid fun _ h => by omega⟩
  case round =>
    obtain ⟨n, y, rfl, hg, rfl, HN⟩ := hrel
    by_cases hlt : n < L.length
    · have hltM : n < M.length := by rw [← HL.out]; exact hlt
      obtain ⟨s, hx⟩ : ∃ s, L[n]? = some s := ⟨_, List.getElem?_eq_getElem hlt⟩
      obtain ⟨s2, hx2⟩ : ∃ s, M[n]? = some s := ⟨_, List.getElem?_eq_getElem hltM⟩
      obtain ⟨g, rfl, _, hgl, hcell⟩ := HV.out (by omega)
      obtain ⟨g2, rfl, _, hgl2, hcell2⟩ := HU.out (by omega)
      have q0 := txt_cells hcell hx
      have r0 := txt_cells hcell2 hx2
      have hlt' : (n : Int) < (L.length : Int) := by omega
      have hlt2 : (n : Int) < (M.length : Int) := by omega
      have HX := Lib.hid hx
      have HX2 := Lib.hid hx2
      clear hcell hx hcell2 hx2
      by_cases he : s = s2
      · subst he
        go_wp2_with fail
        refine wp_region_ext (by kernel_rfl) (by kernel_rfl) ?_
        repeat (go_big_quiet_step (fail))
        refine wpQuiet_nil ?_
        intro _ hx'
        obtain ⟨z, rfl⟩ := hx'
        go_wp2_with fail
        go_roundg (gk - 1)
        case rel => exact ⟨n + 1, ⟨_, y.ext.val z⟩, rfl, by omega, rfl, Lib.hid fun j hj => by
          rcases Nat.lt_or_ge j n with h | h
          · exact HN.out j h
          · obtain rfl : j = n := by omega
            rw [HX.out, HX2.out]⟩
        case measure => omega
      · have he' : (s.toList == s2.toList) = false := by rw [toList_beq]; simp [he]
        have HE := Lib.hid he
        clear he
        go_wp2_with fail
        refine wp_region_ext (by kernel_rfl) (by kernel_rfl) ?_
        repeat (go_big_quiet_step (fail))
        refine wpQuiet_nil ?_
        intro _ hx'
        obtain ⟨z, rfl⟩ := hx'
        go_wp2_with fail
        go_ret
        have hne : L ≠ M := fun e => HE.out (by have := HX.out; rw [e, HX2.out] at this; exact (Option.some.inj this).symm)
        exact ⟨by rw [decide_eq_false hne]; rfl, y.ext.val z⟩
    · have hlt' : ¬ (n : Int) < (L.length : Int) := by omega
      go_wp2_with fail
      go_ret
      have he : L = M := List.ext_getElem? fun j => by
        by_cases hj : j < L.length
        · exact HN.out j (by omega)
        · rw [List.getElem?_eq_none (by omega), List.getElem?_eq_none (by rw [← HL.out]; omega)]
      exact ⟨by rw [decide_eq_true he]; rfl, y.ext⟩

set_option maxRecDepth 100000 in
set_option maxHeartbeats 4000000 in
/-- The values of a row of timers. -/
theorem ref_values (B : Nat) (v : Value) (L : List Tr) (w : World) (hO : w.ownsRow B 72 3 v L.length (L.flatMap Tr.cs)) (hL : L.length ≤ 100000) : Calls Try.prog 53 #[v] w fun e w' => ∃ vl, e = .returned vl ∧ w'.ownsRow w.heap.size 9 1 vl L.length (txtCs (L.map (·.v))) ∧ Ext w w' := by
  obtain ⟨ti0, hi, hz0, hz1, hz2⟩ := info_parts info_v_string
  obtain ⟨a, cap, rfl, hm, hvw⟩ := own_view hO
  have HV := Lib.hid hvw
  clear hO hvw hm
  go_enter Try.func53, Try.ntmps53
  go_wp2_with fail
  go_loopg [3, 4] L.length (fun g o i wr => ∃ n : Nat, i = .int .i64 (n : Int) ∧ n + g = L.length ∧ Hid (wr.ownsRow w.heap.size 9 1 o n (txtCs ((L.take n).map (·.v)))) ∧ Hid (Ext w wr))
  case atStart => exact ⟨0, rfl, by omega, Lib.hid (World.ownsRow_nil _ _ _ _), Lib.hid (Ext.refl _)⟩
  case round =>
    obtain ⟨n, rfl, hg, HO, HE⟩ := hrel
    rename World => wr
    rename Value => o
    by_cases hlt : n < L.length
    · obtain ⟨t, hx⟩ : ∃ t, L[n]? = some t := ⟨_, List.getElem?_eq_getElem hlt⟩
      obtain ⟨g, rfl, _, hgl0, hcell⟩ := HV.out (by omega)
      have hgl : g < wr.heap.size := Nat.lt_of_lt_of_le hgl0 HE.out.size
      obtain ⟨q0, q1, q2⟩ := tr_cells (fun j u hj => cell_keep (hcell j u hj) HE.out) hx
      have hlt' : (n : Int) < (L.length : Int) := by omega
      have HX := Lib.hid hx
      clear hcell hx
      go_wp2_with (at_builtin; refine unHd ?_)
      unfold Hd2
      refine wpList_app w.heap.size 67 9 ti0 _ 1 16 Try.underlying67 hi hz0 hz1 hz2 rfl (by decide) rfl _ _ rfl _ n _ rfl (own_ext HO.out ((Ext.refl wr).alloc _)) (by have := HE.out.size; simp; omega) wr.heap.size 1 1 #[.string t.v] rfl (heap_new rfl) rfl (by simp [Value.oneCell']) (by unfold maxLen; omega) (by omega) ?_
      intro v5 w5 hown5 hb5 hg5
      have E5 := Lib.hid (show Ext w w5 from Ext.trans' (HE.out.alloc _) hb5)
      have HO5 := Lib.hid (show w5.ownsRow w.heap.size 9 1 v5 (n + 1) (txtCs ((L.take (n + 1)).map (·.v))) by
        have e : L.take (n + 1) = L.take n ++ [t] := by rw [List.take_add_one, HX.out]; rfl
        rw [e]
        simpa [txtCs] using hown5)
      clear hown5 hb5 hg5 q0 q1 q2
      go_wp2_with fail
      go_roundg (gk - 1)
      case rel => exact ⟨n + 1, rfl, by omega, HO5, E5⟩
      case measure => omega
    · have hlt' : ¬ (n : Int) < (L.length : Int) := by omega
      go_wp2_with fail
      go_ret
      obtain rfl : n = L.length := by omega
      have := HO.out
      rw [List.take_length] at this
      exact ⟨_, rfl, this, HE.out⟩
end Go.Proofs.Ytibdplfdmncgiaa

/-
  Walk: the document's wheel: a timer is put into its place. No condition.
-/
namespace Go.Proofs.Ytibdplfdmncgiaa
open Go.RowKit
attribute [local go_sem] ExtOf.cell ExtOf.frozen ExtOf.lt ExtOf.le
attribute [local go_sem high] ExtOf.cell2 ExtOf.frozen2 ExtOf.lt2 ExtOf.cell3 ExtOf.frozen3 ExtOf.lt3 ExtOf.cellX ExtOf.frozenX ExtOf.cellX' ExtOf.frozenX'

def Tr.val (t : Tr) : Value := .agg #[.int .i64 t.id, .int .i64 t.a, .string t.v]

theorem set_three {arr : Array Value} {o : Nat} {a b c : Value} {j : Nat} (h : o + 3 ≤ arr.size) :
    (((arr.setIfInBounds o a).setIfInBounds (o + 1) b).setIfInBounds (o + 2) c)[j]? = if j < o ∨ o + 3 ≤ j then arr[j]? else [a, b, c][j - o]? := by
  simp only [Array.getElem?_setIfInBounds, Array.size_setIfInBounds]
  by_cases h0 : j < o ∨ o + 3 ≤ j
  · rw [if_pos h0, if_neg (by omega), if_neg (by omega), if_neg (by omega)]
  · rw [if_neg h0]
    obtain rfl | rfl | rfl : j = o ∨ j = o + 1 ∨ j = o + 2 := by omega
    all_goals simp
    all_goals omega

theorem tr_flat (L : List Tr) : (L.flatMap Tr.cs).length = L.length * 3 := by
  induction L with
  | nil => rfl
  | cons x L ih => rw [List.flatMap_cons, List.length_append, ih, List.length_cons, show x.cs.length = 3 from rfl]; omega

theorem tr_at {L : List Tr} {j : Nat} : (L.flatMap Tr.cs)[j]? = (L[j / 3]?).bind fun x => x.cs[j % 3]? := by
  cases hx : L[j / 3]? with
  | none =>
    rw [Option.bind_none, List.getElem?_eq_none_iff, tr_flat]
    have := List.getElem?_eq_none_iff.1 hx
    omega
  | some x =>
    have := flat_get Tr.cs 3 (fun _ => rfl) L (j / 3) x hx (j % 3) (by omega)
    rw [show j / 3 * 3 + j % 3 = j by omega] at this
    rw [this]; rfl

/-- A timer is laid into a row of the call's own. -/
theorem own_put3 {w : World} {B : Nat} {e : TypeId} {g n cap : Nat} {L : List Tr} (h : w.ownsRow B e 3 (.slice (some ⟨g, 0, none⟩) n cap) n (L.flatMap Tr.cs)) {i : Nat} (hi : i < n) (y : Tr) :
    (w.setCells g (i * 3) y.cs).ownsRow B e 3 (.slice (some ⟨g, 0, none⟩) n cap) n ((L.set i y).flatMap Tr.cs) := by
  obtain ⟨hl, h⟩ := h
  rw [tr_flat] at hl
  refine ⟨by rw [tr_flat, List.length_set]; exact hl, ?_⟩
  rcases h with ⟨hv, _⟩ | ⟨g', cap', cur, hv, hb, hg, hn, hm, hs, hx⟩
  · cases hv
  · cases hv
    refine .inr ⟨g, cap, _, rfl, hb, (setCell_row (setCell_row (setCell_row hg _) _) _), hn, hm, by simp [hs], ?_⟩
    have hsz : i * 3 + 3 ≤ cur.size := by rw [hs]; omega
    refine List.ext_getElem? fun j => ?_
    by_cases hj : j < n * 3
    · rw [List.getElem?_take_of_lt hj, Array.getElem?_toList, set_three hsz, tr_at]
      have hL : ∀ j, j < n * 3 → cur[j]? = (L[j / 3]?).bind fun x => x.cs[j % 3]? := fun j hj => by
        rw [← tr_at, ← hx, List.getElem?_take_of_lt hj, Array.getElem?_toList]
      by_cases hc : j < i * 3 ∨ i * 3 + 3 ≤ j
      · rw [if_pos hc, hL j hj, List.getElem?_set_ne (by omega)]
      · rw [if_neg hc]
        have h4 : j / 3 = i := by omega
        rw [h4, List.getElem?_set_self (by omega), Option.bind_some, show j % 3 = j - i * 3 by omega]
        rfl
    · rw [List.getElem?_eq_none (by simp; omega), List.getElem?_eq_none (by rw [tr_flat, List.length_set]; omega)]

theorem range_three {w : World} {g o : Nat} {x : Tr} (h : w.cell? ⟨g, o, none⟩ = some (.int .i64 x.id) ∧ w.cell? ⟨g, o + 1, none⟩ = some (.int .i64 x.a) ∧ w.cell? ⟨g, o + 2, none⟩ = some (.string x.v)) {w' : World} (e : Ext w w') : w'.rangeAt g o x.cs := by
  intro j v hj
  match j, hj with
  | 0, hj => simp only [Tr.cs, List.getElem?_cons_zero, Option.some.injEq] at hj; subst hj; exact cell_keep h.1 e
  | 1, hj => simp only [Tr.cs, List.getElem?_cons_succ, List.getElem?_cons_zero, Option.some.injEq] at hj; subst hj; exact cell_keep h.2.1 e
  | 2, hj => simp only [Tr.cs, List.getElem?_cons_succ, List.getElem?_cons_zero, Option.some.injEq] at hj; subst hj; exact cell_keep h.2.2 e
  | j + 3, hj => simp [Tr.cs] at hj

theorem own_there3 {w : World} {B : Nat} {e : TypeId} {g n cap : Nat} {xs : List Value} (h : w.ownsRow B e 3 (.slice (some ⟨g, 0, none⟩) n cap) n xs) {i : Nat} (hi : i < n) : w.there g (i * 3) 3 := by
  obtain ⟨_, h⟩ := h
  rcases h with ⟨hv, _⟩ | ⟨g', cap', cur, hv, hb, hg, hn, hm, hs, hx⟩
  · cases hv
  · cases hv
    intro j hj
    refine ⟨?_, frozen_of_row w _ _ _ _ hg⟩
    rw [cell_of_row w g _ cur e (0, 0) hg]
    rw [Array.getElem?_eq_getElem (by rw [hs]; omega)]
    rfl

theorem info_three (x : Tr) : (Try.prog.info? 72).map (·.size) = some x.cs.length := by
  rw [show x.cs.length = 3 from rfl]
  kernel_rfl
theorem info_tr : (Try.prog.info? 72).map (fun i => (i.zero, i.size, i.bytes)) = some (some (.agg #[.int .i64 0, .int .i64 0, .string { data := #[] }]), 3, 32) := by kernel_rfl

/-- What is behind a call that turns the document's wheel. -/
def RefTo (b B : Nat) (v : Value) (R : Rw) (r : Value) (w : World) : Ending → World → Prop := fun e w' =>
  e = .returned r ∧ ∃ v', RefW b B v' R w' ∧ Keeps (b :: rowB v) w w' ∧ ∀ g ∈ rowB v', g ∈ rowB v ∨ w.heap.size ≤ g
def RefIn (b B : Nat) (v : Value) (R : Rw) (w wx : World) : Prop :=
  ∃ v', RefW b B v' R wx ∧ Keeps (b :: rowB v) w wx ∧ ∀ g ∈ rowB v', g ∈ rowB v ∨ w.heap.size ≤ g

theorem upR_stop {k : Nat} {L : List Tr} (h : ∀ x y, L[k]? = some x → L[k - 1]? = some y → 0 < k → ¬ x.a < y.a) : upR k L = L := by
  cases k with
  | zero => rfl
  | succ k =>
    unfold upR
    split
    · rename_i y x hy hx
      rw [if_neg (h x y hx hy (by omega))]
    · rfl
theorem upR_go {k : Nat} {L : List Tr} {x y : Tr} (hx : L[k]? = some x) (hy : L[k - 1]? = some y) (h0 : 0 < k) (h1 : x.a < y.a) : upR k L = upR (k - 1) ((L.set (k - 1) x).set k y) := by
  obtain ⟨k, rfl⟩ : ∃ j, k = j + 1 := ⟨k - 1, by omega⟩
  conv => lhs; unfold upR
  simp only [Nat.add_sub_cancel] at hy ⊢
  rw [hx, hy]
  simp only
  rw [if_pos h1]

set_option maxRecDepth 100000 in
set_option maxHeartbeats 8000000 in
theorem ref_put (b B : Nat) (v : Value) (R : Rw) (t : Tr) (w : World) (hW : RefW b B v R w) (hB : b < B) (hBw : B ≤ w.heap.size) (hL : R.L.length ≤ 100000) :
    Calls Try.prog 65 #[.pointer (some ⟨b, 0, none⟩), .agg #[.int .i64 t.id, .int .i64 t.a, .string t.v]] w (RefTo b B v ⟨R.now, R.next, upR R.L.length (R.L ++ [t])⟩ (.tuple #[]) w) := by
  obtain ⟨ti0, hi, hz0, hz1, hz2⟩ := info_parts info_tr
  obtain ⟨now, next, L⟩ := R
  obtain ⟨hb, hown⟩ := hW
  simp only at hb hown hL ⊢
  have lb : b < w.heap.size := (Array.getElem?_eq_some_iff.1 hb).1
  have hcb := fun j => cell_of_row w _ j _ _ _ hb
  have HHB := Lib.hid hb
  have HO := Lib.hid hown
  clear hb hown
  go_enter Try.func65, Try.ntmps65
  go_upto_region 1 with fail
  go_cut [] (fun wx => Hid (RefIn b B v ⟨now, next, L ++ [t]⟩ w wx))
  case first =>
    obtain ⟨w1, hw1⟩ : ∃ w1, w1 = w.alloc (.cells #[.int .i64 t.id, .int .i64 t.a, .string t.v] 72) := ⟨_, rfl⟩
    have hx1 : Ext w w1 := by rw [hw1]; exact (Ext.refl _).alloc _
    have hbox : w1.heap[w.heap.size]? = some (.cells #[.int .i64 t.id, .int .i64 t.a, .string t.v] 72 (0, 0)) := by rw [hw1]; exact heap_new rfl
    have hb1 := heap_ext HHB.out hx1
    rw [← hw1]
    clear hw1 hcb
    have hcb := fun j => cell_of_row w1 _ j _ _ _ hb1
    have hcx := fun j => cell_of_row w1 _ j _ _ _ hbox
    have lb1 : b < w1.heap.size := (Array.getElem?_eq_some_iff.1 hb1).1
    have lx1 : w.heap.size < w1.heap.size := (Array.getElem?_eq_some_iff.1 hbox).1
    have HB1 := Lib.hid hb1
    have HX1 := Lib.hid hx1
    clear hbox hb1 hx1
    rcases HO.out.2 with ⟨hv, hn⟩ | ⟨g, cap, cur, hv, hbg, hg, hnc, hcm, hcs, htk⟩
    · subst hv
      obtain rfl : L = [] := List.length_eq_zero_iff.1 hn
      refine wp_region_late (af := ?af1) [true, true, true, true, true, true, false, false, false, false, false] [false, false, false, false, false, false, false, false, true, true, true] 73 (fun w' => w1.grownBy w' none) (by kernel_rfl) rfl (by kernel_rfl) (fun _ _ h e => non_ext h e) (non_of (Ext.refl w1).drew) ?q ?r
      case q =>
        intro w' hw'
        obtain ⟨y, rfl⟩ : ∃ y : ExtOf w1, w' = y.val := ⟨⟨w', ext_grown hw'⟩, rfl⟩
        simp only [pickT, if_true, if_false, Bool.false_eq_true]
        repeat (go_big_quiet_step (fail))
        exact rfl
      case r =>
        simp only [pickN, if_true, if_false, Bool.false_eq_true]
        intro x1
        have e1 : Ext w1 x1.val := (Ext.refl _).drew.val x1
        go_wp2_with fail
        refine ⟨fun _ => non_of (e1.alloc _), ?_⟩
        intro x2
        have e2 : Ext w1 x2.val := (e1.alloc _).val x2
        go_wp2_with (at_builtin; refine unHd ?_)
        unfold Hd2
        have hbx2 : B ≤ x2.val.heap.size := by have := HX1.out.size; have := e2.size; omega
        refine wpList_app5 B 54 72 ti0 _ 3 32 Try.underlying54 hi hz0 hz1 hz2 rfl (by decide) rfl _ _ rfl _ 0 _ rfl (own_ext HO.out (HX1.out.trans e2)) hbx2 x1.val.heap.size 1 1 #[.int .i64 t.id, .int .i64 t.a, .string t.v] (by decide) rfl (heap_ext (heap_new rfl) x2.ext) rfl (by simp [Value.oneCell']) (by unfold maxLen; omega) (by omega) ?_
        intro v2 w2 hown2 hg2 hr2
        obtain ⟨g2, cap2, rfl⟩ : ∃ g2 cap2, v2 = .slice (some ⟨g2, 0, none⟩) (0 + 1) cap2 := by
          rcases hown2.2 with ⟨_, h0⟩ | ⟨g2, cap2, _, h0, _⟩
          · omega
          · exact ⟨g2, cap2, h0⟩
        have c2 : w1.grownBy w2 none := but_trans (non_of e2) hg2
        refine ⟨c2, ?_⟩
        intro x3
        go_wp2_with fail
        try refine ⟨fun h => absurd h (by decide), ?_⟩
        intro x4
        go_wp2_with fail
        try refine ⟨fun h => absurd h (by decide), ?_⟩
        intro x5
        have c5 : w1.grownBy x5.val none := non_ext c2 ((x3.ext.trans x4.ext).trans x5.ext)
        have hb5 : x5.val.heap[b]? = some (.cells #[.int .i64 now, .int .i64 next, .slice none 0 0] 56 (0, 0)) := (c5.block b lb1 (by simp)).trans HB1.out
        have o5 := own_ext hown2 ((x3.ext.trans x4.ext).trans x5.ext)
        have hcb5 := fun j => cell_of_row x5.val _ j _ _ _ hb5
        have hfb5 := fun j => frozen_of_row x5.val _ j _ _ hb5
        generalize x5.val = w5 at c5 hb5 o5 hcb5 hfb5 ⊢
        have HB5 := Lib.hid hb5
        clear hb5
        go_wp2_with fail
        try refine ⟨fun h => absurd h (by decide), ?_⟩
        intro x6
        go_wp2_with fail
        go_meet
        refine Lib.hid ⟨.slice (some ⟨g2, 0, none⟩) (0 + 1) cap2, ⟨by simpa using heap_ext (setCell_row HB5.out _) x6.ext, ?_⟩, ?_, fun k hk => (hr2 k hk).imp id (fun h => by have := HX1.out.size; have := e2.size; omega)⟩
        · have := own_ext (own_same o5 (fun k hk _ => cell_other (o := 2) (v := .slice (some ⟨g2, 0, none⟩) (0 + 1) cap2) (show k ≠ b by omega))) x6.ext
          simpa [Tr.cs] using this
        · exact ((keeps_grown ((Keeps.refl _ w).ext HX1.out) (v := .slice none 0 0) c5 (fun _ h => List.mem_cons_of_mem _ h)).setCell (.inl (.head _)) 2 _).ext x6.ext
    · subst hv
      have lg : g < w.heap.size := (Array.getElem?_eq_some_iff.1 hg).1
      have lbg : b < g := by omega
      clear hg hnc hcm hcs htk
      refine wp_region_late (af := ?af2) [true, true, true, true, true, true, false, false, false, false, false] [false, false, false, false, false, false, false, false, true, true, true] 73 (fun w' => w1.grownBy w' (some g)) (by kernel_rfl) rfl (by kernel_rfl) (fun _ _ h e => but_ext h e) (but_ext (but_refl g w1) (Ext.refl w1).drew) ?q ?r
      case q =>
        intro w' hw'
        obtain ⟨y, rfl⟩ : ∃ y : ButOf g w1, w' = y.val := ⟨⟨w', hw'⟩, rfl⟩
        simp only [pickT, if_true, if_false, Bool.false_eq_true]
        repeat (go_big_quiet_step (fail))
        exact rfl
      case r =>
        simp only [pickN, if_true, if_false, Bool.false_eq_true]
        intro x1
        have e1 : Ext w1 x1.val := (Ext.refl _).drew.val x1
        go_wp2_with fail
        refine ⟨fun _ => but_ext (but_refl g w1) (e1.alloc _), ?_⟩
        intro x2
        have e2 : Ext w1 x2.val := (e1.alloc _).val x2
        go_wp2_with (at_builtin; refine unHd ?_)
        unfold Hd2
        have hbx2 : B ≤ x2.val.heap.size := by have := HX1.out.size; have := e2.size; omega
        refine wpList_app5 B 54 72 ti0 _ 3 32 Try.underlying54 hi hz0 hz1 hz2 rfl (by decide) rfl _ _ rfl _ L.length _ rfl (own_ext HO.out (HX1.out.trans e2)) hbx2 x1.val.heap.size 1 1 #[.int .i64 t.id, .int .i64 t.a, .string t.v] (by decide) rfl (heap_ext (heap_new rfl) x2.ext) rfl (by simp [Value.oneCell']) (by unfold maxLen; omega) (by omega) ?_
        intro v2 w2 hown2 hg2 hr2
        obtain ⟨g2, cap2, rfl⟩ : ∃ g2 cap2, v2 = .slice (some ⟨g2, 0, none⟩) (L.length + 1) cap2 := by
          rcases hown2.2 with ⟨_, h0⟩ | ⟨g2, cap2, _, h0, _⟩
          · omega
          · exact ⟨g2, cap2, h0⟩
        have c2 : w1.grownBy w2 (some g) := but_trans (but_ext (but_refl g w1) e2) hg2
        refine ⟨c2, ?_⟩
        intro x3
        go_wp2_with fail
        try refine ⟨fun h => absurd h (by decide), ?_⟩
        intro x4
        go_wp2_with fail
        try refine ⟨fun h => absurd h (by decide), ?_⟩
        intro x5
        have c5 : w1.grownBy x5.val (some g) := but_ext c2 ((x3.ext.trans x4.ext).trans x5.ext)
        have hb5 : x5.val.heap[b]? = some (.cells #[.int .i64 now, .int .i64 next, .slice (some ⟨g, 0, none⟩) L.length cap] 56 (0, 0)) := (c5.block b lb1 (by simp; omega)).trans HB1.out
        have o5 := own_ext hown2 ((x3.ext.trans x4.ext).trans x5.ext)
        have hcb5 := fun j => cell_of_row x5.val _ j _ _ _ hb5
        have hfb5 := fun j => frozen_of_row x5.val _ j _ _ hb5
        generalize x5.val = w5 at c5 hb5 o5 hcb5 hfb5 ⊢
        have HB5 := Lib.hid hb5
        clear hb5
        go_wp2_with fail
        try refine ⟨fun h => absurd h (by decide), ?_⟩
        intro x6
        go_wp2_with fail
        go_meet
        refine Lib.hid ⟨.slice (some ⟨g2, 0, none⟩) (L.length + 1) cap2, ⟨by simpa using heap_ext (setCell_row HB5.out _) x6.ext, ?_⟩, ?_, fun k hk => (hr2 k hk).imp id (fun h => by have := HX1.out.size; have := e2.size; omega)⟩
        · have := own_ext (own_same o5 (fun k hk _ => cell_other (o := 2) (v := .slice (some ⟨g2, 0, none⟩) (L.length + 1) cap2) (show k ≠ b by omega))) x6.ext
          simpa [Tr.cs] using this
        · exact ((keeps_grown ((Keeps.refl _ w).ext HX1.out) (v := .slice (some ⟨g, 0, none⟩) L.length cap) c5 (fun _ h => List.mem_cons_of_mem _ h)).setCell (.inl (.head _)) 2 _).ext x6.ext
  case rest =>
    obtain ⟨v', ⟨hb1, hown1⟩, hk1, hr1⟩ := hcut.out
    obtain ⟨g, cap, rfl⟩ : ∃ g cap, v' = .slice (some ⟨g, 0, none⟩) (L.length + 1) cap := by
      rcases hown1.2 with ⟨_, h0⟩ | ⟨g2, cap2, _, h0, _⟩
      · simp at h0
      · simp only [List.length_append, List.length_cons, List.length_nil] at h0
        exact ⟨g2, cap2, h0⟩
    have hgB : B ≤ g := by
      rcases hown1.2 with ⟨h0, _⟩ | ⟨g2, cap2, _, h0, hb, _⟩
      · cases h0
      · simp only [Value.slice.injEq, Option.some.injEq, Addr.mk.injEq] at h0
        rw [h0.1.1]; exact hb
    clear hcut hcb
    have lb2 : b < wc.heap.size := (Array.getElem?_eq_some_iff.1 hb1).1
    have hcb2 := fun j => cell_of_row wc _ j _ _ _ hb1
    have hne : b ≠ g := by omega
    have lbg : b < g := by omega
    simp only [List.length_append, List.length_cons, List.length_nil, Nat.zero_add] at hown1
    have HB2 := Lib.hid hb1
    have HO2 := Lib.hid hown1
    have HK2 := Lib.hid hk1
    clear hb1 hown1 hk1
    go_wp2_with fail
    go_loopw [4] (fun si wr => ∃ (k : Nat) (Lc : List Tr), si = .int .i64 k ∧ k ≤ L.length ∧ Lc.length = L.length + 1 ∧ Hid (upR k Lc = upR L.length (L ++ [t])) ∧
        Hid (wr.heap[b]? = some (.cells #[.int .i64 now, .int .i64 next, .slice (some ⟨g, 0, none⟩) (L.length + 1) cap] 56 (0, 0))) ∧
        Hid (wr.ownsRow B 72 3 (.slice (some ⟨g, 0, none⟩) (L.length + 1) cap) (L.length + 1) (Lc.flatMap Tr.cs)) ∧ Hid (Keeps (b :: rowB v) w wr)) (fun si _ => (intOf si).toNat)
    case atStart => exact ⟨L.length, L ++ [t], by simp, Nat.le_refl _, by simp, rfl, HB2, HO2, HK2⟩
    case round =>
      obtain ⟨k, Lc, rfl, hkL, hLc, HUP, HB3, HO3, HK3⟩ := hrel
      rename_i wr
      clear HB2 HO2 HK2 hcb2 lb2
      have lb3 : b < wr.heap.size := (Array.getElem?_eq_some_iff.1 HB3.out).1
      have hcb3 := fun j => cell_of_row wr _ j _ _ _ HB3.out
      by_cases h0 : 0 < k
      · obtain ⟨p, hp⟩ : ∃ p, p = k - 1 := ⟨_, rfl⟩
        have HP := Lib.hid hp
        obtain ⟨x, hx⟩ : ∃ y, Lc[k]? = some y := ⟨_, List.getElem?_eq_getElem (by omega)⟩
        obtain ⟨y, hy⟩ : ∃ z, Lc[p]? = some z := ⟨_, List.getElem?_eq_getElem (by omega)⟩
        have HX := Lib.hid hx
        have HY := Lib.hid hy
        have hcell : ∀ j u, (Lc.flatMap Tr.cs)[j]? = some u → wr.cell? ⟨g, j, none⟩ = some u := fun j u hj => by
          have := HO3.out.cells (g := g) rfl j u hj
          rwa [show (⟨g, 0, none⟩ : Addr).add j = ⟨g, j, none⟩ by unfold Addr.add; split <;> simp_all] at this
        obtain ⟨x0, x1, x2⟩ := tr_cells hcell hx
        obtain ⟨y0, y1, y2⟩ := tr_cells hcell hy
        have lg3 : g < wr.heap.size := World.block_lt_of_cell? wr _ x0
        clear hx hy hcell
        have e0 : (0 : Int) < (k : Int) := by omega
        have e4 : (k : Int) - 1 = (p : Int) := by omega
        have p0 : (0 : Int) ≤ (p : Int) := by omega
        have p1 : (p : Int) < (L.length : Int) + 1 := by omega
        have k0 : (0 : Int) ≤ (k : Int) := by omega
        have k1 : (k : Int) < (L.length : Int) + 1 := by omega
        have hpk : p < k := by omega
        clear hp
        have e2 : (0 : Int) ≤ (k : Int) - 1 := by omega
        have e3 : (k : Int) ≤ 100000 := by omega
        have w1 : IntKind.i64.wrap ((k : Int) - 1) = (p : Int) := by rw [IntWalk.i64_in _ (by omega)]; exact e4
        rcases hab : decide (x.a < y.a)
        · have hab' : ¬ x.a < y.a := of_decide_eq_false hab
          go_wp2_with fail
          refine wp_region_ext (by kernel_rfl) (by kernel_rfl) ?_
          repeat (go_big_quiet_step (fail))
          refine wpQuiet_nil ?_
          intro _ hx'
          obtain ⟨z, rfl⟩ := hx'
          go_wp2_with fail
          have hR : upR L.length (L ++ [t]) = Lc := by
            rw [← HUP.out]
            exact upR_stop (fun a b ha hb _ => by rw [HX.out] at ha; rw [← HP.out, HY.out] at hb; cases ha; cases hb; omega)
          refine ⟨rfl, .tuple #[], by simp [results, go_sem], rfl, .slice (some ⟨g, 0, none⟩) (L.length + 1) cap, ⟨heap_ext HB3.out z.ext, ?_⟩, HK3.out.ext z.ext, fun q hq => hr1 q hq⟩
          rw [hR]
          simp only [hLc]
          exact own_ext HO3.out z.ext
        · have hab' : x.a < y.a := of_decide_eq_true hab
          go_wp2_with fail
          refine wp_region_ext (by kernel_rfl) (by kernel_rfl) ?_
          repeat (go_big_quiet_step (fail))
          refine wpQuiet_nil ?_
          intro _ hx'
          obtain ⟨z, rfl⟩ := hx'
          have HB4 := Lib.hid (heap_ext HB3.out z.ext)
          have HO4 := Lib.hid (own_ext HO3.out z.ext)
          have HK4 := Lib.hid (HK3.out.ext z.ext)
          have HXC := Lib.hid (show z.val.cell? ⟨g, k * 3, none⟩ = some (.int .i64 x.id) ∧ z.val.cell? ⟨g, k * 3 + 1, none⟩ = some (.int .i64 x.a) ∧ z.val.cell? ⟨g, k * 3 + 2, none⟩ = some (.string x.v) from ⟨cell_keep x0 z.ext, cell_keep x1 z.ext, cell_keep x2 z.ext⟩)
          have HYC := Lib.hid (show z.val.cell? ⟨g, p * 3, none⟩ = some (.int .i64 y.id) ∧ z.val.cell? ⟨g, p * 3 + 1, none⟩ = some (.int .i64 y.a) ∧ z.val.cell? ⟨g, p * 3 + 2, none⟩ = some (.string y.v) from ⟨cell_keep y0 z.ext, cell_keep y1 z.ext, cell_keep y2 z.ext⟩)
          have lg4 : g < z.val.heap.size := Nat.lt_of_lt_of_le lg3 z.ext.size
          generalize z.val = w4 at HB4 HO4 HK4 HXC HYC lg4 ⊢
          clear z HB3 HO3 HK3 lb3 hcb3 lg3 x0 x1 x2 y0 y1 y2
          have lb4 : b < w4.heap.size := (Array.getElem?_eq_some_iff.1 HB4.out).1
          have hcb4 := fun j => cell_of_row w4 _ j _ _ _ HB4.out
          go_wp2_with fail
          refine wp_region_pair (af := ?af3) [true, true, true, true, true, true, true, true, true, true, true, true, true, true, true, true, true, false, true, true, true, true, true, true, true, false, false, false, false, false] [true, true, true, true, true, true, true, true, true, true, true, true, true, true, true, true, true, true, true, true, true, true, true, true, true, true, false, false, false, false] 73 17 25 (fun w' => w4.grownBy w' (some g)) (by kernel_rfl) rfl (by kernel_rfl) (fun _ _ h e => but_ext h e) (but_ext (but_refl g w4) (Ext.refl w4).drew) ?q (.agg #[.int .i64 x.id, .int .i64 x.a, .string x.v]) (.agg #[.int .i64 y.id, .int .i64 y.a, .string y.v]) _ _ rfl rfl ?y1 ?y2 ?r
          case q =>
            intro w' hw'
            obtain ⟨s, rfl⟩ : ∃ s : ButOf g w4, w' = s.val := ⟨⟨w', hw'⟩, rfl⟩
            simp only [pickT, if_true, if_false, Bool.false_eq_true]
            repeat (go_big_quiet_step (fail))
            exact rfl
          case y1 => exact yieldsE_load rfl 72 _ rfl g (k * 3) rfl x.cs _ (fun w' e => range_three HXC.out ((Ext.refl w4).drew.trans e)) Try.underlying72 rfl (info_three x)
          case y2 => exact yieldsE_load rfl 72 _ rfl g (p * 3) rfl y.cs _ (fun w' e => range_three HYC.out ((Ext.refl w4).drew.trans e)) Try.underlying72 rfl (info_three y)
          case r =>
            simp only [pickF, if_true, if_false, Bool.false_eq_true]
            intro x1
            have e1 : Ext w4 x1.val := (Ext.refl _).drew.val x1
            go_wp2_with fail
            refine ⟨but_ext (but_refl g w4) e1, ?_⟩
            intro x2
            have e2 : Ext w4 x2.val := e1.val x2
            go_wp2_with (refine wpList_store_mid rfl 72 _ _ rfl g (p * 3) #[.int .i64 x.id, .int .i64 x.a, .string x.v] rfl rfl (own_there3 (own_ext HO4.out e2) (by omega)) (info_three x) (by simp [Value.oneCell']) (unHd ?_))
            have c2 : w4.grownBy (x2.val.setCells g (p * 3) x.cs) (some g) := but_puts (but_ext (but_refl g w4) e2) _ _
            have o2 := own_put3 (own_ext HO4.out e2) (show p < L.length + 1 by omega) x
            have b2 : (x2.val.setCells g (p * 3) x.cs).heap[b]? = some (.cells #[.int .i64 now, .int .i64 next, .slice (some ⟨g, 0, none⟩) (L.length + 1) cap] 56 (0, 0)) := (puts_other hne).trans (heap_ext HB4.out e2)
            have kk2 : Keeps (b :: rowB v) w (x2.val.setCells g (p * 3) x.cs) := (HK4.out.ext e2).put ((hr1 g (.head _)).imp (List.mem_cons_of_mem _) id) _ _
            change Hd2 (wpList _ _ _ _ _ (x2.val.setCells g (p * 3) x.cs))
            generalize x2.val.setCells g (p * 3) x.cs = w5 at c2 o2 b2 kk2 ⊢
            unfold Hd2
            go_wp2_with fail
            try refine ⟨c2, ?_⟩
            intro x3
            go_wp2_with fail
            try refine ⟨but_ext c2 x3.ext, ?_⟩
            intro x4
            have e4 : Ext w5 x4.val := x3.ext.trans x4.ext
            go_wp2_with (refine wpList_store_mid rfl 72 _ _ rfl g (k * 3) #[.int .i64 y.id, .int .i64 y.a, .string y.v] rfl rfl (own_there3 (own_ext o2 e4) (by omega)) (info_three y) (by simp [Value.oneCell']) (unHd ?_))
            have c4 : w4.grownBy (x4.val.setCells g (k * 3) y.cs) (some g) := but_puts (but_ext c2 e4) _ _
            have o4 := own_put3 (own_ext o2 e4) (show k < L.length + 1 by omega) y
            have b4 : (x4.val.setCells g (k * 3) y.cs).heap[b]? = some (.cells #[.int .i64 now, .int .i64 next, .slice (some ⟨g, 0, none⟩) (L.length + 1) cap] 56 (0, 0)) := (puts_other hne).trans (heap_ext b2 e4)
            have kk4 : Keeps (b :: rowB v) w (x4.val.setCells g (k * 3) y.cs) := (kk2.ext e4).put ((hr1 g (.head _)).imp (List.mem_cons_of_mem _) id) _ _
            change Hd2 (wpList _ _ _ _ _ (x4.val.setCells g (k * 3) y.cs))
            generalize x4.val.setCells g (k * 3) y.cs = w6 at c4 o4 b4 kk4 ⊢
            unfold Hd2
            go_wp2_with fail
            try refine ⟨c4, ?_⟩
            intro x5
            have HB6 := Lib.hid (heap_ext b4 x5.ext)
            have HO6 := Lib.hid (own_ext o4 x5.ext)
            have HK6 := Lib.hid (kk4.ext x5.ext)
            clear c2 o2 b2 kk2 c4 o4 b4 kk4 hcb4
            go_wp2_with fail
            have hgo := upR_go HX.out (show Lc[k - 1]? = some y by rw [← HP.out]; exact HY.out) h0 hab'
            rw [← HP.out] at hgo
            exact ⟨⟨p, (Lc.set p x).set k y, by simp, by omega, by simp [hLc], Lib.hid (hgo.symm.trans HUP.out), HB6, HO6, HK6⟩, by simp [intOf]; omega⟩
      · go_wp2_with fail
        refine wp_region_ext (by kernel_rfl) (by kernel_rfl) ?_
        repeat (go_big_quiet_step (fail))
        refine wpQuiet_nil ?_
        intro _ hx'
        obtain ⟨z, rfl⟩ := hx'
        go_wp2_with fail
        have hR : upR L.length (L ++ [t]) = Lc := by
          rw [← HUP.out]
          exact upR_stop (fun a b ha hb hc => absurd hc h0)
        refine ⟨rfl, .tuple #[], by simp [results, go_sem], rfl, .slice (some ⟨g, 0, none⟩) (L.length + 1) cap, ⟨heap_ext HB3.out z.ext, ?_⟩, HK3.out.ext z.ext, fun q hq => hr1 q hq⟩
        rw [hR]
        simp only [hLc]
        exact own_ext HO3.out z.ext
end Go.Proofs.Ytibdplfdmncgiaa
