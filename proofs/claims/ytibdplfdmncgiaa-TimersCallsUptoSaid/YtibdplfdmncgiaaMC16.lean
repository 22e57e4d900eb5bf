/-
  Walk: the wheel's other functions. No condition.
-/
import Derived.Test.YtibdplfdmncgiaaMC15
import Derived.Carry
import Derived.Laws.AppendOwnNone
set_option linter.all false
namespace Go.Proofs.Ytibdplfdmncgiaa
open Go.RowKit
attribute [local go_sem] ExtOf.cell ExtOf.frozen ExtOf.lt ExtOf.le
attribute [local go_sem high] ExtOf.cell2 ExtOf.frozen2 ExtOf.lt2 ExtOf.cell3 ExtOf.frozen3 ExtOf.lt3 ExtOf.cellX ExtOf.frozenX ExtOf.cellX' ExtOf.frozenX'

def wh0 : Wh := ⟨0, 0, 0, [], [], 0⟩

/-- A new wheel. -/
def NewW (T : TypeId) (f : FuncId) (w : World) : Ending → World → Prop := fun e w' =>
  ∃ p : At, p.cv = .slice none 0 0 ∧ e = .returned (.pointer (some ⟨p.bW, 0, none⟩)) ∧ WheelW T f p (.slice none 0 0) wh0 w' ∧ Ext w w' ∧ w.heap.size ≤ p.bM ∧ p.B ≤ w'.heap.size

theorem heap_new_any (f : FuncId) (w : World) :
    Calls Try.prog 40 #[.func (.func f) #[] #[]] w fun e w' => e = .returned (.pointer (some ⟨w.heap.size, 0, none⟩)) ∧ w' = w.alloc (.cells #[.func (.func f) #[] #[], .slice none 0 0, .int .i64 0] 115) := by
  go_enter Try.func40, Try.ntmps40
  go_wp2_with fail
  go_ret
  exact ⟨rfl, rfl⟩

set_option maxHeartbeats 1600000 in
theorem new_string (w : World) : Calls Try.prog 25 #[] w (NewW 101 47 w) := by
  have hmm := @run_makeMap Try.prog
  go_enter Try.func25, Try.ntmps25
  go_wp2_with fail
  refine (heap_new_any 47 _).mono ?_
  rintro e w1 ⟨rfl, rfl⟩
  go_wp2_with fail
  go_ret
  exact ⟨⟨w.heap.size, w.heap.size + 1, w.heap.size + 1 + 1, w.heap.size + 3, .slice none 0 0, by omega, by omega, by omega⟩, rfl, rfl, ⟨heap_new (by simp), ⟨#[], 0, heap_ext (heap_new rfl) (((Ext.refl _).alloc _).alloc _), rfl, born0⟩, heap_ext (heap_new (by simp)) ((Ext.refl _).alloc _), World.ownsRow_nil _ _ _ _⟩, (((Ext.refl _).alloc _).alloc _).alloc _, Nat.le_refl _, by simp⟩

set_option maxRecDepth 100000 in
set_option maxHeartbeats 4000000 in
theorem turn_string (p : At) (v : Value) (W : Wh) (n : Int) (w : World) (hW : WheelW 101 47 p v W w) (hc : p.cv = .slice none 0 0) (hB : p.B ≤ w.heap.size) (hL : W.L.length ≤ 100000) (hS : W.S.length ≤ 100000) (h0 : 0 ≤ W.now) (hn : 0 ≤ n) (hn2 : n ≤ 9223372036854775807 - W.now) :
    Calls Try.prog 33 #[.pointer (some ⟨p.bW, 0, none⟩), .int .i64 n] w (TurnedW 101 9 47 p v (untilW (W.now + n) (W.S.length + 1) W []) (fun x => .tuple #[x, .int .i64 0]) w) := by
  have HW := Lib.hid hW
  have lb : p.bW < w.heap.size := (Array.getElem?_eq_some_iff.1 hW.1).1
  have hcb := fun j => cell_of_row w _ j _ _ _ hW.1
  clear hW
  go_enter Try.func33, Try.ntmps33
  go_wp2_with fail
  refine (until_string p v W (W.now + n) w HW.out hc hB hL hS).mono ?_
  rintro e w1 ⟨vl, v', rfl, ho, hW1, hk1, hr1⟩
  have HO := Lib.hid ho
  have HW1 := Lib.hid hW1
  have HK1 := Lib.hid hk1
  have HR1 := Lib.hid hr1
  clear ho hW1 hk1 hr1 hcb lb
  go_wp2_with fail
  refine bodyPost_ret (results_tmp2 (t := 4) (u := 5) rfl _ _ _) ?_ ?_
  · rfl
  exact ⟨vl, v', rfl, HO.out, HW1.out, HK1.out, HR1.out⟩

theorem len_string (p : At) (v : Value) (W : Wh) (w : World) (hW : WheelW 101 47 p v W w) :
    Calls Try.prog 38 #[.pointer (some ⟨p.bW, 0, none⟩)] w fun e w' => e = .returned (.int .i64 W.S.length) ∧ w' = w := by
  have hlen : ∀ ty, (Builtin.len_ #[98] ty #[.map (some p.bM)]).run Try.prog w = .ok (.int .i64 W.S.length) w := fun ty => run_lenMap (ts := #[98]) rfl Try.underlying98 hW.2.1
  have lb : p.bW < w.heap.size := (Array.getElem?_eq_some_iff.1 hW.1).1
  have hcb := fun j => cell_of_row w _ j _ _ _ hW.1
  clear hW
  go_enter Try.func38, Try.ntmps38
  go_wp2_with fail
  go_ret
  exact ⟨rfl, rfl⟩

theorem now_string (p : At) (v : Value) (W : Wh) (w : World) (hW : WheelW 101 47 p v W w) :
    Calls Try.prog 30 #[.pointer (some ⟨p.bW, 0, none⟩)] w fun e w' => e = .returned (.int .i64 W.now) ∧ w' = w := by
  have lb : p.bW < w.heap.size := (Array.getElem?_eq_some_iff.1 hW.1).1
  have hcb := fun j => cell_of_row w _ j _ _ _ hW.1
  clear hW
  go_enter Try.func30, Try.ntmps30
  go_wp2_with fail
  go_ret
  exact ⟨rfl, rfl⟩

set_option maxRecDepth 100000 in
set_option maxHeartbeats 4000000 in
theorem tick_go_string (p : At) (v : Value) (W : Wh) (w : World) (hW : WheelW 101 47 p v W w) (hc : p.cv = .slice none 0 0) (hB : p.B ≤ w.heap.size) (hL : W.L.length ≤ 100000) (hS : W.S.length ≤ 100000) (h0 : 0 ≤ W.now) (hn2 : W.now < 9223372036854775807) :
    Calls Try.prog 32 #[.pointer (some ⟨p.bW, 0, none⟩)] w (TurnedW 101 9 47 p v (untilW (W.now + 1) (W.S.length + 1) W []) (fun x => x) w) := by
  have HW := Lib.hid hW
  have lb : p.bW < w.heap.size := (Array.getElem?_eq_some_iff.1 hW.1).1
  have hcb := fun j => cell_of_row w _ j _ _ _ hW.1
  have he : (W.now == 9223372036854775807) = false := by simp; omega
  clear hW
  go_enter Try.func32, Try.ntmps32
  go_wp2_with fail
  refine (until_string p v W (W.now + 1) w HW.out hc hB hL hS).mono ?_
  rintro e w1 ⟨vl, v', rfl, ho, hW1, hk1, hr1⟩
  have HO := Lib.hid ho
  have HW1 := Lib.hid hW1
  have HK1 := Lib.hid hk1
  have HR1 := Lib.hid hr1
  clear ho hW1 hk1 hr1 hcb lb
  go_wp2_with fail
  refine bodyPost_ret (results_tmp (t := 2) rfl _ _ _) ?_ ?_
  · rfl
  exact ⟨vl, v', rfl, HO.out, HW1.out, HK1.out, HR1.out⟩

theorem tick_end_string (p : At) (v : Value) (W : Wh) (w : World) (hW : WheelW 101 47 p v W w) (hn2 : W.now = 9223372036854775807) :
    Calls Try.prog 32 #[.pointer (some ⟨p.bW, 0, none⟩)] w fun e w' => e = .returned (.slice none 0 0) ∧ w' = w := by
  obtain ⟨now, ids, ord, S, L, m⟩ := W
  simp only at hn2
  subst hn2
  have lb : p.bW < w.heap.size := (Array.getElem?_eq_some_iff.1 hW.1).1
  have hcb := fun j => cell_of_row w _ j _ _ _ hW.1
  clear hW
  go_enter Try.func32, Try.ntmps32
  go_wp2_with fail
  go_ret
  exact ⟨rfl, rfl⟩

/-- What Due answers. -/
def dueV (S : List Tm) (k : Int) : Value := match getT S k with
  | some t => .tuple #[.int .i64 t.a, .bool true]
  | none => .tuple #[.int .i64 0, .bool false]

set_option maxRecDepth 100000 in
set_option maxHeartbeats 4000000 in
theorem due_string (p : At) (v : Value) (W : Wh) (k : Int) (w : World) (hW : WheelW 101 47 p v W w) :
    Calls Try.prog 55 #[.pointer (some ⟨p.bW, 0, none⟩), .int .i64 k] w fun e w' => e = .returned (dueV W.S k) ∧ Ext w w' := by
  have lb : p.bW < w.heap.size := (Array.getElem?_eq_some_iff.1 hW.1).1
  have hcb := fun j => cell_of_row w _ j _ _ _ hW.1
  have hlk : (Instr.lookup 98 (.map (some p.bM)) (.int .i64 k) true).run Try.prog w = .ok (lookV W.S k true) w := run_lookup Try.underlying98 Try.underlying3 zero_string hW.2.1 k true
  clear hW
  rcases hg : getT W.S k with _ | t
  · have hd : dueV W.S k = .tuple #[.int .i64 0, .bool false] := by unfold dueV; rw [hg]
    rw [show lookV W.S k true = .tuple #[.agg #[.int .i64 0, .int .i64 0, .string { data := #[] }], .bool false] by simp only [lookV, hg]] at hlk
    rw [hd]
    clear hd hg
    go_enter Try.func55, Try.ntmps55
    go_wp2_with (refine wpList_store_row rfl 112 _ _ rfl w.heap.size _ rfl rfl 112 _ (heap_new rfl) (info_tm_string _ _ _) rfl (by simp [Value.oneCell']) (unHd ?_))
    have eX : Ext w ((w.alloc (.cells #[.int .i64 0, .int .i64 0, .string { data := #[] }] 112)).setRow w.heap.size #[.int .i64 0, .int .i64 0, .string { data := #[] }]) := ((Ext.refl w).alloc _).setRow (Nat.le_refl _) _
    have eT := setRow_heap _ _ _ #[.int .i64 0, .int .i64 0, .string { data := #[] }] _ _ (heap_new (w := w) (o := .cells #[.int .i64 0, .int .i64 0, .string { data := #[] }] 112) rfl)
    generalize World.setRow _ _ _ = w2 at eX eT ⊢
    have hct := fun j => cell_of_row w2 _ j _ _ _ eT
    have lt2 : w.heap.size < w2.heap.size := (Array.getElem?_eq_some_iff.1 eT).1
    clear hlk hcb lb eT
    unfold Hd2
    go_wp2_with fail
    go_ret2
    exact ⟨rfl, eX⟩
  · have hd : dueV W.S k = .tuple #[.int .i64 t.a, .bool true] := by unfold dueV; rw [hg]
    rw [show lookV W.S k true = .tuple #[.agg #[.int .i64 t.a, .int .i64 t.o, .string t.v], .bool true] by simp only [lookV, hg]; rfl] at hlk
    rw [hd]
    clear hd hg
    go_enter Try.func55, Try.ntmps55
    go_wp2_with (refine wpList_store_row rfl 112 _ _ rfl w.heap.size _ rfl rfl 112 _ (heap_new rfl) (info_tm_string _ _ _) rfl (by simp [Value.oneCell']) (unHd ?_))
    have eX : Ext w ((w.alloc (.cells #[.int .i64 0, .int .i64 0, .string { data := #[] }] 112)).setRow w.heap.size #[.int .i64 t.a, .int .i64 t.o, .string t.v]) := ((Ext.refl w).alloc _).setRow (Nat.le_refl _) _
    have eT := setRow_heap _ _ _ #[.int .i64 t.a, .int .i64 t.o, .string t.v] _ _ (heap_new (w := w) (o := .cells #[.int .i64 0, .int .i64 0, .string { data := #[] }] 112) rfl)
    generalize World.setRow _ _ _ = w2 at eX eT ⊢
    have hct := fun j => cell_of_row w2 _ j _ _ _ eT
    have lt2 : w.heap.size < w2.heap.size := (Array.getElem?_eq_some_iff.1 eT).1
    clear hlk hcb lb eT
    unfold Hd2
    go_wp2_with fail
    go_ret2
    exact ⟨rfl, eX⟩

/-- What Cancel answers. -/
def cancelV (S : List Tm) (k : Int) : Value := match getT S k with
  | some t => .tuple #[.string t.v, .bool true]
  | none => .tuple #[.string { data := #[] }, .bool false]

set_option maxRecDepth 100000 in
set_option maxHeartbeats 4000000 in
theorem cancel_string (p : At) (v : Value) (W : Wh) (k : Int) (w : World) (hW : WheelW 101 47 p v W w) (hB : p.B ≤ w.heap.size) :
    Calls Try.prog 49 #[.pointer (some ⟨p.bW, 0, none⟩), .int .i64 k] w fun e w' => e = .returned (cancelV W.S k) ∧ WheelW 101 47 p v { W with S := dropT W.S k } w' ∧ Keeps (p.all v) w w' := by
  have HW := Lib.hid hW
  have lb : p.bW < w.heap.size := (Array.getElem?_eq_some_iff.1 hW.1).1
  have hcb := fun j => cell_of_row w _ j _ _ _ hW.1
  have hlk : (Instr.lookup 98 (.map (some p.bM)) (.int .i64 k) true).run Try.prog w = .ok (lookV W.S k true) w := run_lookup Try.underlying98 Try.underlying3 zero_string hW.2.1 k true
  clear hW
  rcases hg : getT W.S k with _ | t
  · have hd : cancelV W.S k = .tuple #[.string { data := #[] }, .bool false] := by unfold cancelV; rw [hg]
    rw [show lookV W.S k true = .tuple #[.agg #[.int .i64 0, .int .i64 0, .string { data := #[] }], .bool false] by simp only [lookV, hg]] at hlk
    rw [hd]
    clear hd hg
    go_enter Try.func49, Try.ntmps49
    go_wp2_with (refine wpList_store_row rfl 112 _ _ rfl w.heap.size _ rfl rfl 112 _ (heap_new rfl) (info_tm_string _ _ _) rfl (by simp [Value.oneCell']) (unHd ?_))
    have eX : Ext w ((w.alloc (.cells #[.int .i64 0, .int .i64 0, .string { data := #[] }] 112)).setRow w.heap.size #[.int .i64 0, .int .i64 0, .string { data := #[] }]) := ((Ext.refl w).alloc _).setRow (Nat.le_refl _) _
    have eT := setRow_heap _ _ _ #[.int .i64 0, .int .i64 0, .string { data := #[] }] _ _ (heap_new (w := w) (o := .cells #[.int .i64 0, .int .i64 0, .string { data := #[] }] 112) rfl)
    generalize World.setRow _ _ _ = w2 at eX eT ⊢
    have HW2 := Lib.hid (HW.out.ext eX)
    have lb2 : p.bW < w2.heap.size := Nat.lt_of_lt_of_le lb eX.size
    have hcb2 := fun j => cell_of_row w2 _ j _ _ _ HW2.out.1
    have HT2 := Lib.hid eT
    have HX2 := Lib.hid eX
    clear hlk hcb lb eT eX
    unfold Hd2
    go_wp2_with (refine wpList_delete rfl 98 3 112 3 .i64 _ _ rfl Try.underlying98 Try.underlying3 p.bM W.S k rfl rfl HW2.out.2.1 (fun ob hM4 => unHd ?_))
    have pW := p.hW
    have pH := p.hH
    have pM := p.hM
    have hbt : p.bM ≠ w.heap.size := by have := HW.out.2.1.lt; omega
    have t4 : (setB w2 p.bM ob).heap[w.heap.size]? = _ := (setB_other (Ne.symm hbt)).trans HT2.out
    have hW4 : WheelW 101 47 p v { W with S := dropT W.S k } (setB w2 p.bM ob) := ⟨(setB_other (by omega)).trans HW2.out.1, hM4, HW2.out.2.2.same (setB_other (by omega)) (fun q hq _ => setB_other (by omega))⟩
    have k4 : Keeps (p.all v) w (setB w2 p.bM ob) := ((Keeps.refl _ w).ext HX2.out).setB (.inl (by simp [At.all])) ob
    generalize setB w2 p.bM ob = w4 at t4 hW4 k4 ⊢
    have hct4 := fun j => cell_of_row w4 _ j _ _ _ t4
    have lt4 : w.heap.size < w4.heap.size := (Array.getElem?_eq_some_iff.1 t4).1
    have HW4 := Lib.hid hW4
    have HK4 := Lib.hid k4
    clear hM4 t4 hW4 k4 hcb2 lb2
    unfold Hd2
    go_wp2_with fail
    go_ret2
    exact ⟨rfl, HW4.out, HK4.out⟩
  · have hd : cancelV W.S k = .tuple #[.string t.v, .bool true] := by unfold cancelV; rw [hg]
    rw [show lookV W.S k true = .tuple #[.agg #[.int .i64 t.a, .int .i64 t.o, .string t.v], .bool true] by simp only [lookV, hg]; rfl] at hlk
    rw [hd]
    clear hd hg
    go_enter Try.func49, Try.ntmps49
    go_wp2_with (refine wpList_store_row rfl 112 _ _ rfl w.heap.size _ rfl rfl 112 _ (heap_new rfl) (info_tm_string _ _ _) rfl (by simp [Value.oneCell']) (unHd ?_))
    have eX : Ext w ((w.alloc (.cells #[.int .i64 0, .int .i64 0, .string { data := #[] }] 112)).setRow w.heap.size #[.int .i64 t.a, .int .i64 t.o, .string t.v]) := ((Ext.refl w).alloc _).setRow (Nat.le_refl _) _
    have eT := setRow_heap _ _ _ #[.int .i64 t.a, .int .i64 t.o, .string t.v] _ _ (heap_new (w := w) (o := .cells #[.int .i64 0, .int .i64 0, .string { data := #[] }] 112) rfl)
    generalize World.setRow _ _ _ = w2 at eX eT ⊢
    have HW2 := Lib.hid (HW.out.ext eX)
    have lb2 : p.bW < w2.heap.size := Nat.lt_of_lt_of_le lb eX.size
    have hcb2 := fun j => cell_of_row w2 _ j _ _ _ HW2.out.1
    have HT2 := Lib.hid eT
    have HX2 := Lib.hid eX
    clear hlk hcb lb eT eX
    unfold Hd2
    go_wp2_with (refine wpList_delete rfl 98 3 112 3 .i64 _ _ rfl Try.underlying98 Try.underlying3 p.bM W.S k rfl rfl HW2.out.2.1 (fun ob hM4 => unHd ?_))
    have pW := p.hW
    have pH := p.hH
    have pM := p.hM
    have hbt : p.bM ≠ w.heap.size := by have := HW.out.2.1.lt; omega
    have t4 : (setB w2 p.bM ob).heap[w.heap.size]? = _ := (setB_other (Ne.symm hbt)).trans HT2.out
    have hW4 : WheelW 101 47 p v { W with S := dropT W.S k } (setB w2 p.bM ob) := ⟨(setB_other (by omega)).trans HW2.out.1, hM4, HW2.out.2.2.same (setB_other (by omega)) (fun q hq _ => setB_other (by omega))⟩
    have k4 : Keeps (p.all v) w (setB w2 p.bM ob) := ((Keeps.refl _ w).ext HX2.out).setB (.inl (by simp [At.all])) ob
    generalize setB w2 p.bM ob = w4 at t4 hW4 k4 ⊢
    have hct4 := fun j => cell_of_row w4 _ j _ _ _ t4
    have lt4 : w.heap.size < w4.heap.size := (Array.getElem?_eq_some_iff.1 t4).1
    have HW4 := Lib.hid hW4
    have HK4 := Lib.hid k4
    clear hM4 t4 hW4 k4 hcb2 lb2
    unfold Hd2
    go_wp2_with fail
    go_ret2
    exact ⟨rfl, HW4.out, HK4.out⟩

attribute [local go_sem] field0_string

/-- What Next answers. -/
def nextV (S : List Tm) : List Hd → Value
  | [] => .tuple #[.int .i64 0, .bool false]
  | x :: _ => .tuple #[.int .i64 (tmAt S x.i).a, .bool true]

set_option maxRecDepth 100000 in
set_option maxHeartbeats 4000000 in
theorem next_string (p : At) (v : Value) (W : Wh) (w : World) (hW : WheelW 101 47 p v W w) (hB : p.B ≤ w.heap.size) (hL : W.L.length ≤ 100000) :
    Calls Try.prog 36 #[.pointer (some ⟨p.bW, 0, none⟩)] w fun e w' => e = .returned (nextV W.S (firstL W.S W.L.length W.L)) ∧ ∃ v', WheelW 101 47 p v' { W with L := firstL W.S W.L.length W.L } w' ∧ Keeps (p.bH :: rowB v) w w' ∧ rowB v' = rowB v := by
  have HW := Lib.hid hW
  clear hW
  go_enter Try.func36, Try.ntmps36
  go_wp2_with fail
  refine (first_string p v W w HW.out hB hL).mono ?_
  rintro e w1 ⟨rfl, v1, hW1, hk1, hr1⟩
  have lb1 : p.bW < w1.heap.size := (Array.getElem?_eq_some_iff.1 hW1.1).1
  have hcb1 := fun j => cell_of_row w1 _ j _ _ _ hW1.1
  have HW1 := Lib.hid hW1
  have HK1 := Lib.hid hk1
  have HR1 := Lib.hid hr1
  clear hW1 hk1 hr1
  rcases hfl : firstL W.S W.L.length W.L with _ | ⟨x, L2⟩
  · have HFL := Lib.hid hfl
    clear hfl
    simp only [firstV]
    go_wp2_with fail
    refine bodyPost_ret (results_tmp2 (t := 2) (u := 3) rfl _ _ _) ?_ ?_
    · rfl
    refine ⟨?_, v1, ?_, HK1.out, HR1.out⟩
    · first | rfl | (rw [HFL.out]; rfl) | simp [nextV]
    · first | exact HW1.out | (rw [← HFL.out]; exact HW1.out)
  · obtain ⟨t, hgt, hto⟩ := firstL_head (Nat.le_refl _) hfl
    have htm : tmAt W.S x.i = t := by unfold tmAt; rw [hgt]; rfl
    have hlk : (Instr.lookup 98 (.map (some p.bM)) (.int .i64 x.i) false).run Try.prog w1 = .ok (.agg #[.int .i64 t.a, .int .i64 t.o, .string t.v]) w1 := by
      rw [run_lookup Try.underlying98 Try.underlying3 zero_string HW1.out.2.1 x.i false]
      simp only [lookV, hgt]
      rfl
    have HFL := Lib.hid hfl
    have HTM := Lib.hid htm
    clear hfl hgt hto htm
    simp only [firstV]
    go_wp2_with fail
    refine bodyPost_ret (results_tmp2 (t := 2) (u := 3) rfl _ _ _) ?_ ?_
    · rfl
    refine ⟨?_, v1, ?_, HK1.out, HR1.out⟩
    · first | (simp only [nextV, HTM.out]; rfl) | (rw [HFL.out]; simp only [nextV, HTM.out]; rfl)
    · first | exact HW1.out | (rw [← HFL.out]; exact HW1.out)
end Go.Proofs.Ytibdplfdmncgiaa

/-
  Quick steps of a script, taken in one walk. No condition.
-/
namespace Go.Proofs.Ytibdplfdmncgiaa
open Go.RowKit
section
variable {P : Program} {ops : Array Oper} {C : World → Prop} {Q : Exit → Act → World → Prop}
theorem post_walk {af : Act} {w : World} {r : List Stp} : ∀ (qs : List Stp) (a : Act), qs.all (·.q) = true → walkE P ops C af (qs.map (·.o)) a → wpPost P ops C Q r af w → wpPost P ops C Q (qs ++ r) a w
  | [], a, _, h, hr => by
    have h : a = af := h
    rw [h]; exact hr
  | s :: qs, a, hq, h, hr => by
    simp only [List.all_cons, Bool.and_eq_true] at hq
    obtain ⟨v, hy, hn⟩ := h
    rw [List.cons_append]
    unfold wpPost
    rw [if_pos hq.1]
    exact ⟨v, hy, post_walk qs _ hq.2 hn hr⟩

theorem post_quiet {a af : Act} {w : World} {l : List Stp} (k n : Nat) (hq : (l.take k).all (·.q) = true) (hn : a.tmps.size = n) (hd : dstsOk n ((l.take k).map (·.o)) = true) (hne : ∃ w, C w)
    (h : ∀ w', C w' → wpQuiet P ops (fun w'' => ∃ x : ExtOf w', w'' = x.val) (fun a' => a' = af) ((l.take k).map (·.o)) a) (hr : wpPost P ops C Q (l.drop k) af w) : wpPost P ops C Q l a w := by
  subst hn
  have := post_walk (Q := Q) (w := w) (r := l.drop k) (l.take k) a hq (walkE_of_quiet hne _ a hd h) hr
  rwa [List.take_append_drop] at this
end
/-- append to a row of the call's own (in a block from B on), of any slice of that type. -/
theorem wpList_app4 {P : Program} {ops : Array Oper} {rest : List Oper} {o : Oper} {a : Act} {Q : Exit → Act → World → Prop} {w : World} (B : Nat) (t e : TypeId) (i : TypeInfo) (z : Value) (size bytes : Nat)
    (ht : P.underlying t = some (.slice e)) (hi : P.info? e = some i) (hz : i.zero = some z) (hsize : i.size = size) (hby : i.bytes = bytes) (hzs : z.cells.size = size) (hsz : 0 < size)
    (hgd : o.guard = none) (s x : Operand) (ho : o.op = .call { callee := .builtin .append, args := #[s, x], argTypes := #[t, t] })
    (v : Value) (n : Nat) (xs : List Value) (hs : a.eval s = v) (hown : w.ownsRow B e size v n xs) (hB : B ≤ w.heap.size)
    (v2 : Value) (m : Nat) (news : List Value) (hx : a.eval x = v2) (hrow : Row w size v2 m news) (hnil : v2 = .slice none 0 0 ∨ ∃ a n c, v2 = .slice (some a) n c) (h1 : ∀ u ∈ news, u.oneCell' = true)
    (h63 : n + m ≤ maxLen) (hbytes : (n + m) * bytes ≤ 140737488355328)
    (h : ∀ v' w', w'.ownsRow B e size v' (n + m) (xs ++ news) → Below B w w' → w.grownBy w' v.ownBlock → wpList P ops Q rest (a.put o.dst v') w') : wpList P ops Q (o :: rest) a w := by
  rcases hnil with hnil | ⟨ad, n', c', hnil⟩
  · have hm0 : m = 0 := by
      rcases hrow.2 with ⟨h0, _⟩ | ⟨g, off, cap, hv, _⟩
      · exact h0
      · rw [hnil] at hv; cases hv
    subst hm0
    have hnews : news = [] := List.length_eq_zero_iff.1 (by simpa using hrow.1)
    subst hnews
    refine wpList_append_own_none hgd s x t ho B e i size ht hi v n xs hs hown (by rw [hx, hnil]) (h v w (by simpa using hown) (Below.refl _ _) ⟨rfl, rfl, rfl, Nat.le_refl _, fun _ _ _ => rfl⟩)
  · have key : v2 = .slice (some ad) m c' ∧ ∀ j u, news[j]? = some u → w.cell? (ad.add j) = some u := by
      rcases hrow.2 with ⟨h0, a', c2, hv⟩ | ⟨g, off, cap, hv, _, hc⟩
      · rw [hnil] at hv
        simp only [Value.slice.injEq] at hv
        refine ⟨by rw [hnil, hv.2.1, h0], fun j u hj => ?_⟩
        have : news = [] := List.length_eq_zero_iff.1 (by rw [hrow.1, h0, Nat.zero_mul])
        rw [this] at hj; simp at hj
      · rw [hnil] at hv
        simp only [Value.slice.injEq, Option.some.injEq] at hv
        refine ⟨by rw [hnil, hv.2.1], fun j u hj => ?_⟩
        rw [hv.1]
        have : (⟨g, off, none⟩ : Addr).add j = ⟨g, off + j, none⟩ := by unfold Addr.add; split <;> simp_all
        rw [this]; exact hc j u hj
    exact wpList_append_own w hgd s x t ho B e i z size bytes ht hi hz hsize hby hzs hsz v n xs hs hown ad m c' news (by rw [hx, key.1]) hrow.1 key.2 h1 h63 hbytes hB
      fun v' w' k1 k2 _ => h v' w' k1 (Below.grown (Below.refl _ _) k2 hB fun k hk => (hown.lt k hk).1) k2
end Go.Proofs.Ytibdplfdmncgiaa

/-
  Walk: the document's wheel: what only reads (Find, Values, Texts). No condition.
-/
namespace Go.Proofs.Ytibdplfdmncgiaa
open Go.RowKit
attribute [local go_sem] ExtOf.cell ExtOf.frozen ExtOf.lt ExtOf.le
attribute [local go_sem high] ExtOf.cell2 ExtOf.frozen2 ExtOf.lt2 ExtOf.cell3 ExtOf.frozen3 ExtOf.lt3

def Tr.cs (t : Tr) : List Value := [.int .i64 t.id, .int .i64 t.a, .string t.v]

theorem tr_flat (L : List Tr) : (L.flatMap Tr.cs).length = L.length * 3 := by
  induction L with
  | nil => rfl
  | cons x L ih => rw [List.flatMap_cons, List.length_append, ih, List.length_cons, show x.cs.length = 3 from rfl]; omega

theorem tr_at {L : List Tr} {j : Nat} : (L.flatMap Tr.cs)[j]? = (L[j / 3]?).bind fun x => x.cs[j % 3]? := by
  cases hx : L[j / 3]? with
  | none =>
    rw [Option.bind_none, List.getElem?_eq_none_iff, tr_flat]
    have := List.getElem?_eq_none_iff.1 hx
    omega
  | some x =>
    have := flat_get Tr.cs 3 (fun _ => rfl) L (j / 3) x hx (j % 3) (by omega)
    rw [show j / 3 * 3 + j % 3 = j by omega] at this
    rw [this]; rfl

theorem row_view {w : World} {size : Nat} {v : Value} {n : Nat} {xs : List Value} (h : Row w size v n xs) :
    ∃ a cap, v = .slice a n cap ∧ n ≤ maxLen ∧ (0 < n → ∃ g off, a = some ⟨g, off, none⟩ ∧ (0 < size → g < w.heap.size) ∧ ∀ j u, xs[j]? = some u → w.cell? ⟨g, off + j, none⟩ = some u) := by
  obtain ⟨hl, h0⟩ := h
  rcases h0 with ⟨hn, a, c, hv⟩ | ⟨g, off, cap, hv, hm, hc⟩
  · exact ⟨a, c, by rw [hv, hn], by omega, fun h => by omega⟩
  · refine ⟨_, cap, hv, hm, fun hn => ⟨g, off, rfl, fun hs => ?_, hc⟩⟩
    have h0 : 0 < xs.length := by rw [hl]; exact Nat.mul_pos hn hs
    have := hc 0 _ (List.getElem?_eq_getElem h0)
    exact World.block_lt_of_cell? w _ this

theorem own_rowB {w w' : World} {base : Nat} {e : TypeId} {size : Nat} {v : Value} {n : Nat} {xs : List Value} (h : w.ownsRow base e size v n xs) (hk : ∀ k ∈ rowB v, w'.heap[k]? = w.heap[k]?) : w'.ownsRow base e size v n xs := by
  refine ⟨h.1, h.2.imp id ?_⟩
  rintro ⟨g, cap, cur, rfl, hb, hg, r⟩
  exact ⟨g, cap, cur, rfl, hb, (hk g (by simp [rowB, Value.ownBlock])).trans hg, r⟩


/-- A row of timers of the call's own, that may begin behind the head of its block: what lies ahead of it was passed over. -/
def OwnL (w : World) (B : Nat) (v : Value) (L : List Tr) : Prop :=
  (v = .slice none 0 0 ∧ L = []) ∨ ∃ (g cap C : Nat) (P : List Tr), v = .slice (some ⟨g, P.length * 3, none⟩) L.length cap ∧ (L.length ≤ cap ∧ P.length + cap ≤ C) ∧
    w.ownsRow B 72 3 (.slice (some ⟨g, 0, none⟩) (P.length + L.length) C) (P.length + L.length) ((P ++ L).flatMap Tr.cs)
theorem OwnL.nil (w : World) (B : Nat) : OwnL w B (.slice none 0 0) [] := .inl ⟨rfl, rfl⟩
theorem OwnL.of {w : World} {B : Nat} {v : Value} {L : List Tr} (h : w.ownsRow B 72 3 v L.length (L.flatMap Tr.cs)) : OwnL w B v L := by
  rcases h.2 with ⟨hv, hn⟩ | ⟨g, cap, cur, hv, h1, h2, h3, r⟩
  · exact .inl ⟨hv, List.length_eq_zero_iff.1 hn⟩
  · refine .inr ⟨g, cap, cap, [], by simpa using hv, ⟨h3, by simp⟩, ?_⟩
    simp only [List.length_nil, Nat.zero_add, List.nil_append]
    rw [← hv]; exact h
theorem OwnL.ext {w w' : World} {B : Nat} {v : Value} {L : List Tr} (h : OwnL w B v L) (e : Ext w w') : OwnL w' B v L := by
  rcases h with h | ⟨g, cap, C, P, hv, hc, ho⟩
  · exact .inl h
  · exact .inr ⟨g, cap, C, P, hv, hc, own_ext ho e⟩
theorem OwnL.rowB {w w' : World} {B : Nat} {v : Value} {L : List Tr} (h : OwnL w B v L) (hk : ∀ k ∈ Go.Proofs.Ytibdplfdmncgiaa.rowB v, w'.heap[k]? = w.heap[k]?) : OwnL w' B v L := by
  rcases h with h | ⟨g, cap, C, P, hv, hc, ho⟩
  · exact .inl h
  · subst hv
    exact .inr ⟨g, cap, C, P, rfl, hc, own_rowB ho hk⟩
theorem OwnL.lt {w : World} {B : Nat} {v : Value} {L : List Tr} (h : OwnL w B v L) : ∀ k ∈ Go.Proofs.Ytibdplfdmncgiaa.rowB v, B ≤ k ∧ k < w.heap.size := fun k hk => by
  rcases h with ⟨hv, _⟩ | ⟨g, cap, C, P, hv, _, ho⟩
  · subst hv; simp [Go.Proofs.Ytibdplfdmncgiaa.rowB, Value.ownBlock] at hk
  · subst hv
    obtain rfl : k = g := by simpa [Go.Proofs.Ytibdplfdmncgiaa.rowB, Value.ownBlock] using hk
    exact ho.lt k rfl
theorem OwnL.same {w w' : World} {B : Nat} {v : Value} {L : List Tr} (h : OwnL w B v L) (hk : ∀ k, B ≤ k → k < w.heap.size → w'.heap[k]? = w.heap[k]?) : OwnL w' B v L :=
  h.rowB fun k hm => hk k (h.lt k hm).1 (h.lt k hm).2
theorem OwnL.row {w : World} {B : Nat} {v : Value} {L : List Tr} (h : OwnL w B v L) : Row w 3 v L.length (L.flatMap Tr.cs) := by
  refine ⟨tr_flat L, ?_⟩
  rcases h with ⟨hv, hL⟩ | ⟨g, cap, C, P, hv, _, ho⟩
  · exact .inl ⟨by rw [hL]; rfl, _, _, hv.trans rfl⟩
  · refine .inr ⟨g, P.length * 3, cap, hv, ?_, fun j u hj => ?_⟩
    · rcases ho.2 with ⟨h0, _⟩ | ⟨g', cap', cur, h0, _, _, hn, hm, _⟩
      · cases h0
      · simp only [Value.slice.injEq] at h0
        omega
    · have := ho.cells (g := g) rfl (P.length * 3 + j) u (by
        rw [List.flatMap_append, List.getElem?_append_right (by rw [tr_flat]; omega), tr_flat, Nat.add_sub_cancel_left]
        exact hj)
      rwa [show (⟨g, 0, none⟩ : Addr).add (P.length * 3 + j) = ⟨g, P.length * 3 + j, none⟩ by unfold Addr.add; split <;> simp_all] at this
/-- The row behind its first element. -/
theorem OwnL.tail {w : World} {B : Nat} {g o n cap : Nat} {t : Tr} {L : List Tr} (h : OwnL w B (.slice (some ⟨g, o, none⟩) n cap) (t :: L)) : L.length + 1 ≤ cap ∧ OwnL w B (.slice (some ⟨g, o + 3, none⟩) L.length (cap - 1)) L ∧ (cap = 1 → OwnL w B (.slice (some ⟨g, o, none⟩) L.length 0) L) := by
  rcases h with ⟨h0, _⟩ | ⟨g', cap', C, P, hv, hc, ho⟩
  · cases h0
  · simp only [Value.slice.injEq, Option.some.injEq, Addr.mk.injEq, List.length_cons] at hv hc
    obtain ⟨⟨rfl, rfl, _⟩, rfl, rfl⟩ := hv
    refine ⟨hc.1, .inr ⟨g, cap - 1, C, P ++ [t], by simp only [List.length_append, List.length_singleton]; congr 3; omega, by simp only [List.length_append, List.length_singleton]; omega, ?_⟩, fun h1 => ?_⟩
    · simp only [List.length_append, List.length_singleton, List.append_assoc, List.singleton_append, List.length_cons, List.length_nil, Nat.zero_add] at ho ⊢
      rw [show P.length + 1 + L.length = P.length + (L.length + 1) by omega]
      exact ho
    · obtain rfl : L = [] := List.length_eq_zero_iff.1 (by omega)
      refine .inr ⟨g, 0, C, P, rfl, ⟨Nat.le_refl _, by omega⟩, ?_⟩
      simp only [List.length_nil, Nat.add_zero, List.append_nil]
      rcases ho.2 with ⟨h0, _⟩ | ⟨g', cap', cur, h0, h2, h3, h4, h5, h6, h7⟩
      · cases h0
      · simp only [Value.slice.injEq, Option.some.injEq, Addr.mk.injEq, List.length_cons, List.length_nil, Nat.zero_add] at h0 h4 h7
        obtain ⟨⟨rfl, _⟩, _, rfl⟩ := h0
        refine ⟨tr_flat P, .inr ⟨g, C, cur, rfl, h2, h3, by omega, h5, h6, ?_⟩⟩
        have h8 := congrArg (List.take (P.length * 3)) h7
        rw [List.take_take, Nat.min_eq_left (by omega), List.flatMap_append, ← tr_flat P, List.take_left] at h8
        rw [tr_flat] at h8
        exact h8

/-- The document's wheel lies in block b; its row in a block from B on. -/
def RefW (b B : Nat) (v : Value) (R : Rw) (w : World) : Prop :=
  w.heap[b]? = some (.cells #[.int .i64 R.now, .int .i64 R.next, v] 56 (0, 0)) ∧ OwnL w B v R.L
theorem RefW.ext {b B : Nat} {v : Value} {R : Rw} {w w' : World} (h : RefW b B v R w) (e : Ext w w') : RefW b B v R w' := ⟨heap_ext h.1 e, h.2.ext e⟩

/-- The facts that are read of the element k of a row of timers. -/
theorem tr_cells {w : World} {g off : Nat} {L : List Tr} {k : Nat} {x : Tr} (h : ∀ j u, (L.flatMap Tr.cs)[j]? = some u → w.cell? ⟨g, off + j, none⟩ = some u) (hx : L[k]? = some x) :
    w.cell? ⟨g, off + k * 3, none⟩ = some (.int .i64 x.id) ∧ w.cell? ⟨g, off + k * 3 + 1, none⟩ = some (.int .i64 x.a) ∧ w.cell? ⟨g, off + k * 3 + 2, none⟩ = some (.string x.v) := by
  have f := fun j hj => flat_get Tr.cs 3 (fun _ => rfl) L k x hx j hj
  have F : ∀ j u, (Tr.cs x)[j]? = some u → j < 3 → w.cell? ⟨g, off + k * 3 + j, none⟩ = some u := fun j u hu hj => by rw [Nat.add_assoc]; exact h _ _ ((f j hj).trans hu)
  exact ⟨F 0 _ rfl (by omega), F 1 _ rfl (by omega), F 2 _ rfl (by omega)⟩

theorem findI_here {L : List Tr} {k : Int} {n : Nat} {t : Tr} (h : ∀ j u, j < n → L[j]? = some u → (u.id == k) = false) (hx : L[n]? = some t) (he : (t.id == k) = true) : findI L k = n := by
  obtain ⟨hlt, hget⟩ := List.getElem?_eq_some_iff.1 hx
  have : findR L k = some n := by
    unfold findR
    rw [List.findIdx?_eq_some_iff_getElem]
    refine ⟨hlt, by rw [hget]; exact he, fun j hj => ?_⟩
    have := h j _ hj (List.getElem?_eq_getElem (by omega))
    simp [this]
  unfold findI
  rw [this]
theorem findI_none {L : List Tr} {k : Int} (h : ∀ j u, j < L.length → L[j]? = some u → (u.id == k) = false) : findI L k = -1 := by
  have : findR L k = none := by
    unfold findR
    rw [List.findIdx?_eq_none_iff]
    intro u hu
    obtain ⟨j, hj, he⟩ := List.getElem_of_mem hu
    exact h j u hj (by rw [List.getElem?_eq_getElem hj, he])
  unfold findI
  rw [this]

set_option maxRecDepth 100000 in
set_option maxHeartbeats 4000000 in
theorem ref_find (b B : Nat) (v : Value) (R : Rw) (k : Int) (w : World) (hW : RefW b B v R w) : Calls Try.prog 56 #[.pointer (some ⟨b, 0, none⟩), .int .i64 k] w fun e w' => e = .returned (.int .i64 (findI R.L k)) ∧ w' = w := by
  obtain ⟨hb, hO⟩ := hW
  obtain ⟨a, cap, rfl, hm, hvw⟩ := row_view hO.row
  have lb : b < w.heap.size := (Array.getElem?_eq_some_iff.1 hb).1
  have hcb := fun j => cell_of_row w _ j _ _ _ hb
  have HV := Lib.hid hvw
  clear hb hO hvw
  unfold maxLen at hm
  go_enter Try.func56, Try.ntmps56
  go_wp2_with fail
  go_loopg [5] R.L.length (fun g i wr => ∃ n : Nat, i = .int .i64 (n : Int) ∧ n + g = R.L.length ∧ w = wr ∧ Hid (∀ j u, j < n → R.L[j]? = some u → (u.id == k) = false))
  case atStart => exact ⟨0, rfl, by omega, rfl, Lib.hid fun _ _ h => by omega⟩
  case round =>
    obtain ⟨n, rfl, hg, rfl, HN⟩ := hrel
    by_cases hlt : n < R.L.length
    · obtain ⟨t, hx⟩ : ∃ t, R.L[n]? = some t := ⟨_, List.getElem?_eq_getElem hlt⟩
      obtain ⟨g, off, rfl, hgl, hcell⟩ := HV.out (by omega)
      have hgl := hgl (by decide)
      obtain ⟨q0, q1, q2⟩ := tr_cells hcell hx
      have hlt' : (n : Int) < (R.L.length : Int) := by omega
      have HX := Lib.hid hx
      clear hcell hx
      rcases he : (t.id == k)
      · go_wp2_with fail
        go_roundg (gk - 1)
        case rel => exact ⟨n + 1, rfl, by omega, rfl, Lib.hid fun j u hj hu => by
          rcases Nat.lt_or_ge j n with h | h
          · exact HN.out j u h hu
          · obtain rfl : j = n := by omega
            rw [HX.out] at hu; cases hu; exact he⟩
        case measure => omega
      · go_wp2_with fail
        go_ret
        exact ⟨by rw [findI_here HN.out HX.out he]; rfl, rfl⟩
    · have hlt' : ¬ (n : Int) < (R.L.length : Int) := by omega
      go_wp2_with fail
      go_ret
      obtain rfl : n = R.L.length := by omega
      exact ⟨by rw [findI_none HN.out]; rfl, rfl⟩

theorem toList_eq_iff (s t : ByteArray) : (s.toList = t.toList) ↔ s = t := by
  rw [ByteArray.toList_eq, ByteArray.toList_eq]
  constructor
  · intro h; obtain ⟨⟨x⟩⟩ := s; obtain ⟨⟨y⟩⟩ := t; simpa using h
  · intro h; rw [h]
theorem toList_beq (s t : ByteArray) : (s.toList == t.toList) = decide (s = t) := by
  rw [Bool.eq_iff_iff]; simp [toList_eq_iff]

theorem txt_cells {w : World} {g : Nat} {L : List ByteArray} {k : Nat} {x : ByteArray} (h : ∀ j u, (txtCs L)[j]? = some u → w.cell? ⟨g, j, none⟩ = some u) (hx : L[k]? = some x) : w.cell? ⟨g, k, none⟩ = some (.string x) :=
  h k _ (by simp [txtCs, hx])

set_option maxRecDepth 100000 in
set_option maxHeartbeats 4000000 in
/-- Are two rows of texts the same? -/
theorem ref_texts (v u : Value) (L M : List ByteArray) (w : World) (B B' : Nat) (hv : w.ownsRow B 9 1 v L.length (txtCs L)) (hu : w.ownsRow B' 9 1 u M.length (txtCs M)) : Calls Try.prog 37 #[v, u] w fun e w' => e = .returned (.bool (decide (L = M))) ∧ Ext w w' := by
  obtain ⟨a, cap, rfl, hm, hvw⟩ := own_view hv
  obtain ⟨a2, cap2, rfl, hm2, hvw2⟩ := own_view hu
  have HV := Lib.hid hvw
  have HU := Lib.hid hvw2
  clear hv hu hvw hvw2
  unfold maxLen at hm hm2
  by_cases hl : L.length = M.length
  case neg =>
    have hl' : ((L.length : Int) == (M.length : Int)) = false := by simp; omega
    have hne : L ≠ M := fun e => hl (by rw [e])
    go_enter Try.func37, Try.ntmps37
    go_wp2_with fail
    go_ret
    exact ⟨by rw [decide_eq_false hne]; rfl, Ext.refl _⟩
  have HL := Lib.hid hl
  have hl' : ((L.length : Int) == (M.length : Int)) = true := by simp; omega
  clear hl
  go_enter Try.func37, Try.ntmps37
  go_wp2_with fail
  go_loopg [5] L.length (fun g i wr => ∃ (n : Nat) (y : ExtOf w), i = .int .i64 (n : Int) ∧ n + g = L.length ∧ wr = y.val ∧ Hid (∀ j, j < n → L[j]? = M[j]?))
  case atStart => exact ⟨0, ⟨w, Ext.refl _⟩, rfl, by omega, rfl, Lib.hid fun _ h => by omega⟩
  case round =>
    obtain ⟨n, y, rfl, hg, rfl, HN⟩ := hrel
    by_cases hlt : n < L.length
    · have hltM : n < M.length := by rw [← HL.out]; exact hlt
      obtain ⟨s, hx⟩ : ∃ s, L[n]? = some s := ⟨_, List.getElem?_eq_getElem hlt⟩
      obtain ⟨s2, hx2⟩ : ∃ s, M[n]? = some s := ⟨_, List.getElem?_eq_getElem hltM⟩
      obtain ⟨g, rfl, _, hgl, hcell⟩ := HV.out (by omega)
      obtain ⟨g2, rfl, _, hgl2, hcell2⟩ := HU.out (by omega)
      have q0 := txt_cells hcell hx
      have r0 := txt_cells hcell2 hx2
      have hlt' : (n : Int) < (L.length : Int) := by omega
      have hlt2 : (n : Int) < (M.length : Int) := by omega
      have HX := Lib.hid hx
      have HX2 := Lib.hid hx2
      clear hcell hx hcell2 hx2
      by_cases he : s = s2
      · subst he
        go_wp2_with fail
        refine wp_region_ext (by kernel_rfl) (by kernel_rfl) ?_
        repeat (go_big_quiet_step (fail))
        refine wpQuiet_nil ?_
        intro _ hx'
        obtain ⟨z, rfl⟩ := hx'
        go_wp2_with fail
        go_roundg (gk - 1)
        case rel => exact ⟨n + 1, ⟨_, y.ext.val z⟩, rfl, by omega, rfl, Lib.hid fun j hj => by
          rcases Nat.lt_or_ge j n with h | h
          · exact HN.out j h
          · obtain rfl : j = n := by omega
            rw [HX.out, HX2.out]⟩
        case measure => omega
      · have he' : (s.toList == s2.toList) = false := by rw [toList_beq]; simp [he]
        have HE := Lib.hid he
        clear he
        go_wp2_with fail
        refine wp_region_ext (by kernel_rfl) (by kernel_rfl) ?_
        repeat (go_big_quiet_step (fail))
        refine wpQuiet_nil ?_
        intro _ hx'
        obtain ⟨z, rfl⟩ := hx'
        go_wp2_with fail
        go_ret
        have hne : L ≠ M := fun e => HE.out (by have := HX.out; rw [e, HX2.out] at this; exact (Option.some.inj this).symm)
        exact ⟨by rw [decide_eq_false hne]; rfl, y.ext.val z⟩
    · have hlt' : ¬ (n : Int) < (L.length : Int) := by omega
      go_wp2_with fail
      go_ret
      have he : L = M := List.ext_getElem? fun j => by
        by_cases hj : j < L.length
        · exact HN.out j (by omega)
        · rw [List.getElem?_eq_none (by omega), List.getElem?_eq_none (by rw [← HL.out]; omega)]
      exact ⟨by rw [decide_eq_true he]; rfl, y.ext⟩

set_option maxRecDepth 100000 in
set_option maxHeartbeats 4000000 in
/-- The values of a row of timers. -/
theorem ref_values (v : Value) (L : List Tr) (w : World) (hO : Row w 3 v L.length (L.flatMap Tr.cs)) (hL : L.length ≤ 100000) : Calls Try.prog 53 #[v] w fun e w' => ∃ vl, e = .returned vl ∧ w'.ownsRow w.heap.size 9 1 vl L.length (txtCs (L.map (·.v))) ∧ Ext w w' := by
  obtain ⟨ti0, hi, hz0, hz1, hz2⟩ := info_parts info_v_string
  obtain ⟨a, cap, rfl, hm, hvw⟩ := row_view hO
  have HV := Lib.hid hvw
  clear hO hvw hm
  go_enter Try.func53, Try.ntmps53
  go_wp2_with fail
  go_loopg [3, 4] L.length (fun g o i wr => ∃ n : Nat, i = .int .i64 (n : Int) ∧ n + g = L.length ∧ Hid (wr.ownsRow w.heap.size 9 1 o n (txtCs ((L.take n).map (·.v)))) ∧ Hid (Ext w wr))
  case atStart => exact ⟨0, rfl, by omega, Lib.hid (World.ownsRow_nil _ _ _ _), Lib.hid (Ext.refl _)⟩
  case round =>
    obtain ⟨n, rfl, hg, HO, HE⟩ := hrel
    rename World => wr
    rename Value => o
    by_cases hlt : n < L.length
    · obtain ⟨t, hx⟩ : ∃ t, L[n]? = some t := ⟨_, List.getElem?_eq_getElem hlt⟩
      obtain ⟨g, off, rfl, hgl0, hcell⟩ := HV.out (by omega)
      have hgl0 := hgl0 (by decide)
      have hgl : g < wr.heap.size := Nat.lt_of_lt_of_le hgl0 HE.out.size
      obtain ⟨q0, q1, q2⟩ := tr_cells (fun j u hj => cell_keep (hcell j u hj) HE.out) hx
      have hlt' : (n : Int) < (L.length : Int) := by omega
      have HX := Lib.hid hx
      clear hcell hx
      go_wp2_with (at_builtin; refine unHd ?_)
      unfold Hd2
      refine wpList_app w.heap.size 67 9 ti0 _ 1 16 Try.underlying67 hi hz0 hz1 hz2 rfl (by decide) rfl _ _ rfl _ n _ rfl (own_ext HO.out ((Ext.refl wr).alloc _)) (by have := HE.out.size; simp; omega) wr.heap.size 1 1 #[.string t.v] rfl (heap_new rfl) rfl (by simp [Value.oneCell']) (by unfold maxLen; omega) (by omega) ?_
      intro v5 w5 hown5 hb5 hg5
      have E5 := Lib.hid (show Ext w w5 from Ext.trans' (HE.out.alloc _) hb5)
      have HO5 := Lib.hid (show w5.ownsRow w.heap.size 9 1 v5 (n + 1) (txtCs ((L.take (n + 1)).map (·.v))) by
        have e : L.take (n + 1) = L.take n ++ [t] := by rw [List.take_add_one, HX.out]; rfl
        rw [e]
        simpa [txtCs] using hown5)
      clear hown5 hb5 hg5 q0 q1 q2
      go_wp2_with fail
      go_roundg (gk - 1)
      case rel => exact ⟨n + 1, rfl, by omega, HO5, E5⟩
      case measure => omega
    · have hlt' : ¬ (n : Int) < (L.length : Int) := by omega
      go_wp2_with fail
      go_ret
      obtain rfl : n = L.length := by omega
      have := HO.out
      rw [List.take_length] at this
      exact ⟨_, rfl, this, HE.out⟩
end Go.Proofs.Ytibdplfdmncgiaa
