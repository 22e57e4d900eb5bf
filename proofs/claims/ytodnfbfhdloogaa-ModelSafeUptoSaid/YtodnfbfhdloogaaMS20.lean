/-
  Walks: what is broken? No condition.
-/
import Derived.Test.YtodnfbfhdloogaaMS19
import Derived.Deep.MidRow
set_option linter.all false
namespace Go.Proofs.Ytodnfbfhdloogaa
open Go.RowKit
attribute [local go_sem ↓] eql_lEq eql_sEq eql_eEq eql_oEq neq_lEq neq_sEq neq_eEq neq_oEq eql_vEq neq_vEq eql_nil
attribute [local go_sem] ExtOf.cell ExtOf.frozen ExtOf.lt ExtOf.le
attribute [local go_sem high] ExtOf.cell2 ExtOf.frozen2 ExtOf.lt2 ExtOf.cell3 ExtOf.frozen3 ExtOf.lt3

theorem info_s2 : (Try.prog.info? 30).map (·.size) = some 18 := by kernel_rfl
theorem info_b6 : (Try.prog.info? 63).map (·.size) = some 6 := by kernel_rfl

/-- The two states of an exchange, as cells. -/
def Ex.ss (x : Ex) : List Value := [.int .i64 x.s0.r, .int .u64 x.s0.c, .string x.s0.t, .int .i64 x.s0.ph, .int .i64 x.s0.p.k, .int .i64 x.s0.p.f, .int .u64 x.s0.p.c, .string x.s0.p.t, .bool x.s0.p.b,
  .int .i64 x.s1.r, .int .u64 x.s1.c, .string x.s1.t, .int .i64 x.s1.ph, .int .i64 x.s1.p.k, .int .i64 x.s1.p.f, .int .u64 x.s1.p.c, .string x.s1.p.t, .bool x.s1.p.b]
theorem ExAt.ss {w : World} {g : Nat} {x : Ex} {v : Value} (h : ExAt w g x v) : w.rangeAt g 1 x.ss := by
  unfold ExAt Ex.arr at h
  intro j u hj
  rw [cell_of_row w _ _ _ _ _ h]
  have : j < 18 := by simpa [Ex.ss] using (List.getElem?_eq_some_iff.1 hj).1
  match j, this with
  | 0, _ | 1, _ | 2, _ | 3, _ | 4, _ | 5, _ | 6, _ | 7, _ | 8, _ | 9, _ | 10, _ | 11, _ | 12, _ | 13, _ | 14, _ | 15, _ | 16, _ | 17, _ => simpa [Ex.ss] using hj

/-- What holds while what is broken is looked for. -/
structure Brk (w W : World) (x : Ex) (v : Value) (hs es : Array Value) : Prop where
  hx : ExAt W w.heap.size x v
  hh : W.heap[w.heap.size + 1]? = some (.cells hs 63 (0, 0))
  he : W.heap[w.heap.size + 1 + 1]? = some (.cells es 64 (0, 0))
  ext : Ext w W
theorem Brk.ext' {w W W' : World} {x : Ex} {v : Value} {hs es : Array Value} (k : Brk w W x v hs es) (e : Ext W W') : Brk w W' x v hs es :=
  ⟨k.hx.ext e, heap_ext k.hh e, heap_ext k.he e, k.ext.trans e⟩
theorem Brk.setE {w W : World} {x : Ex} {v : Value} {hs es : Array Value} (k : Brk w W x v hs es) (i : Nat) (u : Value) : Brk w (W.setCell ⟨w.heap.size + 1 + 1, i, none⟩ u) x v hs (es.setIfInBounds i u) :=
  ⟨(cell_other (by omega)).trans k.hx, (cell_other (by omega)).trans k.hh, setCell_row k.he _, k.ext.setCell (by simp only []; omega) _⟩
theorem Brk.setH {w W : World} {x : Ex} {v : Value} {hs es : Array Value} (k : Brk w W x v hs es) (i : Nat) (u : Value) : Brk w (W.setCell ⟨w.heap.size + 1, i, none⟩ u) x v (hs.setIfInBounds i u) es :=
  ⟨(cell_other (by omega)).trans k.hx, setCell_row k.hh _, (cell_other (by omega)).trans k.he, k.ext.setCell (by simp only []; omega) _⟩

theorem idx_s0 (x : Ex) (w : World) : (Instr.index 30 (.agg x.ss.toArray) (.int .i64 0)).run Try.prog w = .ok (.agg #[.int .i64 x.s0.r, .int .u64 x.s0.c, .string x.s0.t, .int .i64 x.s0.ph, .int .i64 x.s0.p.k, .int .i64 x.s0.p.f, .int .u64 x.s0.p.c, .string x.s0.p.t, .bool x.s0.p.b]) w := by
  unfold Ex.ss
  kernel_rfl
theorem idx_s1 (x : Ex) (w : World) : (Instr.index 30 (.agg x.ss.toArray) (.int .i64 1)).run Try.prog w = .ok (.agg #[.int .i64 x.s1.r, .int .u64 x.s1.c, .string x.s1.t, .int .i64 x.s1.ph, .int .i64 x.s1.p.k, .int .i64 x.s1.p.f, .int .u64 x.s1.p.c, .string x.s1.p.t, .bool x.s1.p.b]) w := by
  unfold Ex.ss
  kernel_rfl
attribute [local go_sem high] idx_s0 idx_s1

def part1 (x : Ex) (who : Int) : Bool := !x.bad who && ((x.st who).ph == 7 && decide (0 < (boundX x who).length))
def part2 (x : Ex) (who : Int) : Bool := !x.bad who && ((x.st who).ph == 6 && !canS x (x.st who).p)
theorem holds1_eq (x : Ex) : holds1 x = (part1 x 0 || part1 x 1) := rfl
theorem holds2_eq (x : Ex) : holds2 x = (part2 x 0 || part2 x 1) := rfl
def hs2 (a1 a2 : Bool) : Array Value := #[.bool false, .bool a1, .bool a2, .bool false, .bool false, .bool false]
def hs5 (a1 a2 a5 : Bool) : Array Value := #[.bool false, .bool a1, .bool a2, .bool false, .bool false, .bool a5]
def hs35 (a1 a2 a3 a5 : Bool) : Array Value := #[.bool false, .bool a1, .bool a2, .bool a3, .bool false, .bool a5]
def hs345 (a1 a2 a3 a4 a5 : Bool) : Array Value := #[.bool false, .bool a1, .bool a2, .bool a3, .bool a4, .bool a5]
def i2E (a b c d : Int) : Bool := a == c && b == d
theorem holds4_eq (x : Ex) : holds4 x = ((!x.b0 && !x.b1) && (i2E x.s0.ph x.s1.ph 6 7 || i2E x.s0.ph x.s1.ph 7 6)) := rfl
theorem eqIn_i2 (a b c d : Int) (w : World) : (Op.equalIn 10000 64 (.agg #[.int .i64 a, .int .i64 b]) (.agg #[.int .i64 c, .int .i64 d])).run Try.prog w = .ok (a == c && b == d) w := by
  have u3 := Try.underlying3
  have a3 := Try.isAgg3
  have z3 := Try.sizeOf3
  rw [show (10000 : Nat) = 9999 + 1 from rfl, Op.equalIn]
  simp only [Sem.run_bind, run_underlying Try.underlying64, Result.andThen_ok]
  simp only [Std.Legacy.Range.forIn_eq_forIn_range', Std.Legacy.Range.size, Nat.sub_zero, Nat.add_sub_cancel, Nat.div_one, List.range'_succ, List.range'_zero, List.forIn_cons, List.forIn_nil]
  go_simp
  by_cases h1 : a = c <;> by_cases h2 : b = d <;> simp [h1, h2]
theorem eqIn_b2 (a b c d : Bool) (w : World) : (Op.equalIn 10000 33 (.agg #[.bool a, .bool b]) (.agg #[.bool c, .bool d])).run Try.prog w = .ok (a == c && b == d) w := by
  have u3 := Try.underlying4
  have a3 := Try.isAgg4
  have z3 := Try.sizeOf4
  rw [show (10000 : Nat) = 9999 + 1 from rfl, Op.equalIn]
  simp only [Sem.run_bind, run_underlying Try.underlying33, Result.andThen_ok]
  simp only [Std.Legacy.Range.forIn_eq_forIn_range', Std.Legacy.Range.size, Nat.sub_zero, Nat.add_sub_cancel, Nat.div_one, List.range'_succ, List.range'_zero, List.forIn_cons, List.forIn_nil]
  go_simp
  by_cases h1 : a = c <;> by_cases h2 : b = d <;> simp [h1, h2]
theorem eql_i2 (a b c d : Int) (w : World) : (binOp .eql 64 (.agg #[.int .i64 a, .int .i64 b]) (.agg #[.int .i64 c, .int .i64 d])).run Try.prog w = .ok (.bool (i2E a b c d)) w := by
  simp [go_sem, eqIn_i2, i2E]
theorem eql_b2 (a b c d : Bool) (w : World) : (binOp .eql 33 (.agg #[.bool a, .bool b]) (.agg #[.bool c, .bool d])).run Try.prog w = .ok (.bool (a == c && b == d)) w := by
  simp [go_sem, eqIn_b2]
attribute [local go_sem ↓] eql_i2 eql_b2
theorem info_int : (Try.prog.info? 3).map (fun i => (i.zero, i.size, i.bytes)) = some (some (.int .i64 0), 1, 8) := by kernel_rfl
section
variable (a0 a1 a2 a3 a4 a5 : Bool) (w : World)
theorem idx_b0 : (Instr.index 63 (.agg #[.bool a0, .bool a1, .bool a2, .bool a3, .bool a4, .bool a5]) (.int .i64 0)).run Try.prog w = .ok (.bool a0) w := by kernel_rfl
theorem idx_b1 : (Instr.index 63 (.agg #[.bool a0, .bool a1, .bool a2, .bool a3, .bool a4, .bool a5]) (.int .i64 1)).run Try.prog w = .ok (.bool a1) w := by kernel_rfl
theorem idx_b2 : (Instr.index 63 (.agg #[.bool a0, .bool a1, .bool a2, .bool a3, .bool a4, .bool a5]) (.int .i64 2)).run Try.prog w = .ok (.bool a2) w := by kernel_rfl
theorem idx_b3 : (Instr.index 63 (.agg #[.bool a0, .bool a1, .bool a2, .bool a3, .bool a4, .bool a5]) (.int .i64 3)).run Try.prog w = .ok (.bool a3) w := by kernel_rfl
theorem idx_b4 : (Instr.index 63 (.agg #[.bool a0, .bool a1, .bool a2, .bool a3, .bool a4, .bool a5]) (.int .i64 4)).run Try.prog w = .ok (.bool a4) w := by kernel_rfl
theorem idx_b5 : (Instr.index 63 (.agg #[.bool a0, .bool a1, .bool a2, .bool a3, .bool a4, .bool a5]) (.int .i64 5)).run Try.prog w = .ok (.bool a5) w := by kernel_rfl
end
attribute [local go_sem high] idx_b0 idx_b1 idx_b2 idx_b3 idx_b4 idx_b5
def bad5 (sd l : Lt) : Bool := (l.k == 5 || l.k == 6) && !decide (l = sd)
theorem holds5_eq (x : Ex) : holds5 x = x.h.any (bad5 (saysL x.v)) := rfl
theorem any_next {L : List Lt} {n : Nat} {z : Lt} {p : Lt → Bool} (h : L[n]? = some z) : (L.take (n + 1)).any p = ((L.take n).any p || p z) := by
  rw [List.take_add_one, h]
  simp
theorem ltat_set {w : World} {b o g : Nat} {u : Value} {l : Lt} (h : LtAt w g l) (hg : g ≠ b) : LtAt (w.setCell ⟨b, o, none⟩ u) g l := (cell_other hg).trans h
def es2 (a b : Int) : Array Value := #[.int .i64 a, .int .i64 b]

set_option maxRecDepth 100000 in
set_option maxHeartbeats 6400000 in
theorem mo_broken (x : Ex) (v : Value) (w : World) (hR : Hrd w x v) (hn : x.h.length ≤ 100000) : Calls Try.prog 8 #[.agg (x.arr v)] w fun e w' => ∃ a n c, e = .returned (.slice a n c) ∧ (n == 0) = okX x ∧ Ext w w' := by
  have HR := Lib.hid hR
  obtain ⟨a, cap, rfl, hm, hvw⟩ := row_view hR
  have HV := Lib.hid hvw
  clear hR hvw hm
  go_enter Try.func8, Try.ntmps8
  go_upto_region 3 with fail
  refine wp_forget (fun w' => Brk w w' x (.slice a x.h.length cap) (hs2 false false) (es2 0 0)) ⟨(three_new (Ext.refl _)).1, (three_new (Ext.refl _)).2.1, (three_new (Ext.refl _)).2.2.1, (three_new (Ext.refl _)).2.2.2⟩ ?_
  rintro W1 k1
  have K1 := Lib.hid k1
  clear k1
  go_wp2_with (refine wpList_load_mid rfl 30 _ rfl _ _ rfl x.ss _ K1.out.hx.ss Try.underlying30 rfl info_s2 ?_)
  go_loopg [20] 2 (fun g ii wr => (g = 2 ∧ ii = .int .i64 0 ∧ W1 = wr) ∨ (g = 1 ∧ ii = .int .i64 1 ∧ ∃ a1 a2, Hid (Brk w wr x (.slice a x.h.length cap) (hs2 a1 a2) (es2 x.s0.ph 0) ∧ a1 = part1 x 0 ∧ a2 = part2 x 0)) ∨ (g = 0 ∧ ii = .int .i64 2 ∧ ∃ a1 a2, Hid (Brk w wr x (.slice a x.h.length cap) (hs2 a1 a2) (es2 x.s0.ph x.s1.ph) ∧ a1 = holds1 x ∧ a2 = holds2 x)))
  case atStart => exact .inl ⟨rfl, rfl, rfl⟩
  case round =>
    obtain ⟨rfl, rfl, rfl⟩ | ⟨rfl, rfl, a1, a2, KA⟩ | ⟨rfl, rfl, a1, a2, KA⟩ := hrel
    · skip
      have he1 := K1.out.he
      unfold es2 at he1
      have qe := fun j => cell_of_row W1 _ j _ _ _ he1
      have fe := fun j => frozen_of_row W1 _ j _ _ he1
      have le1 : w.heap.size + 1 + 1 < W1.heap.size := (Array.getElem?_eq_some_iff.1 he1).1
      have hgt : w.heap.size + 1 + 1 < W1.heap.size := le1
      clear he1
      go_upto_region 7 with fail
      refine wp_forget (fun w' => Brk w w' x (.slice a x.h.length cap) (hs2 false false) (es2 x.s0.ph 0) ∧ w'.heap[W1.heap.size]? = some (.cells #[.int .i64 x.s0.r, .int .u64 x.s0.c, .string x.s0.t, .int .i64 x.s0.ph, .int .i64 x.s0.p.k, .int .i64 x.s0.p.f, .int .u64 x.s0.p.c, .string x.s0.p.t, .bool x.s0.p.b] 29 (0, 0))) ⟨(K1.out.setE 0 _).ext' ((Ext.refl _).alloc _), heap_new (by simp [World.setCell])⟩ ?_
      clear qe fe le1
      rintro W2 ⟨k2, hs⟩
      have K2 := Lib.hid k2
      have qs := fun j => cell_of_row W2 _ j _ _ _ hs
      have ls : W1.heap.size < W2.heap.size := (Array.getElem?_eq_some_iff.1 hs).1
      clear k2 hs
      have hx2 := K2.out.hx
      unfold ExAt Ex.arr at hx2
      have qx := fun j => cell_of_row W2 _ j _ _ _ hx2
      have hh2 := K2.out.hh
      unfold hs2 at hh2
      have qh := fun j => cell_of_row W2 _ j _ _ _ hh2
      have fh := fun j => frozen_of_row W2 _ j _ _ hh2
      have lx : w.heap.size < W2.heap.size := (Array.getElem?_eq_some_iff.1 hx2).1
      have lh : w.heap.size + 1 < W2.heap.size := (Array.getElem?_eq_some_iff.1 hh2).1
      clear hx2 hh2
      have hnb : ∃ nb : Nat, (boundX x 0).length = nb := ⟨_, rfl⟩
      obtain ⟨nb, hnb⟩ := hnb
      have hB := fun w' (hw : Ext w w') => mo_bound x (.slice a x.h.length cap) 0 w' (HR.out.ext hw) hn
      rw [hnb] at hB
      have HB := Lib.hid hB
      have hC := fun w' (hw : Ext w w') => mo_can x (.slice a x.h.length cap) x.s0.p w' (Row.ext HR.out hw)
      have HNB := Lib.hid hnb
      clear hB hnb
      rcases hbad : x.b0
      case true =>
        have HC := Lib.hid hC
        clear hC
        go_wp2_with (fail)
        go_roundg 1
        case rel => exact .inr (.inl ⟨rfl, rfl, false, false, Lib.hid ⟨K2.out, by unfold part1; simp only [show x.bad 0 = x.b0 from rfl, show x.st 0 = x.s0 from rfl]; simp [hbad], by unfold part2; simp only [show x.bad 0 = x.b0 from rfl, show x.st 0 = x.s0 from rfl]; simp [hbad]⟩⟩)
        case measure => omega
      rcases h7 : (x.s0.ph == 7)
      case true =>
        have h6 : (x.s0.ph == 6) = false := by
          rw [beq_iff_eq] at h7
          rw [h7]; rfl
        have HC := Lib.hid hC
        clear hC
        by_cases hp : 0 < nb
        · have hp' : (0 : Int) < (nb : Int) := by omega
          go_wp2_with (first | (go_at_call 22; refine (HB.out _ K2.out.ext).mono ?_; rintro e w3 ⟨ba, bc, rfl, hx3⟩; obtain ⟨y3, rfl⟩ := ext_of hx3; clear hx3) | (refine wpList_load_rowG rfl 36 _ rfl _ rfl _ _ (0, 0) _ K2.out.hx Try.underlying36 rfl info_ex ?_))
          go_roundg 1
          case rel => exact .inr (.inl ⟨rfl, rfl, true, false, Lib.hid ⟨(K2.out.ext' y3.ext).setH 1 _, by unfold part1; simp only [show x.bad 0 = x.b0 from rfl, show x.st 0 = x.s0 from rfl]; simp [hbad, h7, HNB.out, hp], by unfold part2; simp only [show x.bad 0 = x.b0 from rfl, show x.st 0 = x.s0 from rfl]; simp [hbad, h6]⟩⟩)
          case measure => omega
        · have hp' : ¬ (0 : Int) < (nb : Int) := by omega
          go_wp2_with (first | (go_at_call 22; refine (HB.out _ K2.out.ext).mono ?_; rintro e w3 ⟨ba, bc, rfl, hx3⟩; obtain ⟨y3, rfl⟩ := ext_of hx3; clear hx3) | (refine wpList_load_rowG rfl 36 _ rfl _ rfl _ _ (0, 0) _ K2.out.hx Try.underlying36 rfl info_ex ?_))
          go_roundg 1
          case rel => exact .inr (.inl ⟨rfl, rfl, false, false, Lib.hid ⟨K2.out.ext' y3.ext, by unfold part1; simp only [show x.bad 0 = x.b0 from rfl, show x.st 0 = x.s0 from rfl]; simp [hbad, h7, HNB.out, hp], by unfold part2; simp only [show x.bad 0 = x.b0 from rfl, show x.st 0 = x.s0 from rfl]; simp [hbad, h6]⟩⟩)
          case measure => omega
      rcases h6 : (x.s0.ph == 6)
      case false =>
        have HC := Lib.hid hC
        clear hC
        go_wp2_with (fail)
        go_roundg 1
        case rel => exact .inr (.inl ⟨rfl, rfl, false, false, Lib.hid ⟨K2.out, by unfold part1; simp only [show x.bad 0 = x.b0 from rfl, show x.st 0 = x.s0 from rfl]; simp [hbad, h7], by unfold part2; simp only [show x.bad 0 = x.b0 from rfl, show x.st 0 = x.s0 from rfl]; simp [hbad, h6]⟩⟩)
        case measure => omega
      rcases hcan : canS x x.s0.p
      case true =>
        rw [hcan] at hC
        have HC := Lib.hid hC
        clear hC
        go_wp2_with (first | (go_at_call 13; refine (HC.out _ K2.out.ext).mono ?_; rintro e w3 ⟨rfl, hx3⟩; obtain ⟨y3, rfl⟩ := ext_of hx3; clear hx3) | (refine wpList_load_rowG rfl 36 _ rfl _ rfl _ _ (0, 0) _ K2.out.hx Try.underlying36 rfl info_ex ?_))
        go_roundg 1
        case rel => exact .inr (.inl ⟨rfl, rfl, false, false, Lib.hid ⟨K2.out.ext' y3.ext, by unfold part1; simp only [show x.bad 0 = x.b0 from rfl, show x.st 0 = x.s0 from rfl]; simp [hbad, h7], by unfold part2; simp only [show x.bad 0 = x.b0 from rfl, show x.st 0 = x.s0 from rfl]; simp [hbad, h6, hcan]⟩⟩)
        case measure => omega
      case false =>
        rw [hcan] at hC
        have HC := Lib.hid hC
        clear hC
        go_wp2_with (first | (go_at_call 13; refine (HC.out _ K2.out.ext).mono ?_; rintro e w3 ⟨rfl, hx3⟩; obtain ⟨y3, rfl⟩ := ext_of hx3; clear hx3) | (refine wpList_load_rowG rfl 36 _ rfl _ rfl _ _ (0, 0) _ K2.out.hx Try.underlying36 rfl info_ex ?_))
        go_roundg 1
        case rel => exact .inr (.inl ⟨rfl, rfl, false, true, Lib.hid ⟨(K2.out.ext' y3.ext).setH 2 _, by unfold part1; simp only [show x.bad 0 = x.b0 from rfl, show x.st 0 = x.s0 from rfl]; simp [hbad, h7], by unfold part2; simp only [show x.bad 0 = x.b0 from rfl, show x.st 0 = x.s0 from rfl]; simp [hbad, h6, hcan]⟩⟩)
        case measure => omega
    · rename World => Wr
      have he1 := KA.out.1.he
      unfold es2 at he1
      have qe := fun j => cell_of_row Wr _ j _ _ _ he1
      have fe := fun j => frozen_of_row Wr _ j _ _ he1
      have le1 : w.heap.size + 1 + 1 < Wr.heap.size := (Array.getElem?_eq_some_iff.1 he1).1
      have hgt : w.heap.size + 1 + 1 < Wr.heap.size := le1
      clear he1
      go_upto_region 7 with fail
      refine wp_forget (fun w' => Brk w w' x (.slice a x.h.length cap) (hs2 a1 a2) (es2 x.s0.ph x.s1.ph) ∧ w'.heap[Wr.heap.size]? = some (.cells #[.int .i64 x.s1.r, .int .u64 x.s1.c, .string x.s1.t, .int .i64 x.s1.ph, .int .i64 x.s1.p.k, .int .i64 x.s1.p.f, .int .u64 x.s1.p.c, .string x.s1.p.t, .bool x.s1.p.b] 29 (0, 0))) ⟨(KA.out.1.setE 1 _).ext' ((Ext.refl _).alloc _), heap_new (by simp [World.setCell])⟩ ?_
      clear qe fe le1
      rintro W2 ⟨k2, hs⟩
      have K2 := Lib.hid k2
      have qs := fun j => cell_of_row W2 _ j _ _ _ hs
      have ls : Wr.heap.size < W2.heap.size := (Array.getElem?_eq_some_iff.1 hs).1
      clear k2 hs
      have hx2 := K2.out.hx
      unfold ExAt Ex.arr at hx2
      have qx := fun j => cell_of_row W2 _ j _ _ _ hx2
      have hh2 := K2.out.hh
      unfold hs2 at hh2
      have qh := fun j => cell_of_row W2 _ j _ _ _ hh2
      have fh := fun j => frozen_of_row W2 _ j _ _ hh2
      have lx : w.heap.size < W2.heap.size := (Array.getElem?_eq_some_iff.1 hx2).1
      have lh : w.heap.size + 1 < W2.heap.size := (Array.getElem?_eq_some_iff.1 hh2).1
      clear hx2 hh2
      have hnb : ∃ nb : Nat, (boundX x 1).length = nb := ⟨_, rfl⟩
      obtain ⟨nb, hnb⟩ := hnb
      have hB := fun w' (hw : Ext w w') => mo_bound x (.slice a x.h.length cap) 1 w' (HR.out.ext hw) hn
      rw [hnb] at hB
      have HB := Lib.hid hB
      have hC := fun w' (hw : Ext w w') => mo_can x (.slice a x.h.length cap) x.s1.p w' (Row.ext HR.out hw)
      have HNB := Lib.hid hnb
      clear hB hnb
      rcases hbad : x.b1
      case true =>
        have HC := Lib.hid hC
        clear hC
        go_wp2_with (fail)
        go_roundg 0
        case rel => exact .inr (.inr ⟨rfl, rfl, a1, a2, Lib.hid ⟨K2.out, by rw [holds1_eq, ← KA.out.2.1]; unfold part1; simp only [show x.bad 1 = x.b1 from rfl, show x.st 1 = x.s1 from rfl]; simp [hbad], by rw [holds2_eq, ← KA.out.2.2]; unfold part2; simp only [show x.bad 1 = x.b1 from rfl, show x.st 1 = x.s1 from rfl]; simp [hbad]⟩⟩)
        case measure => omega
      rcases h7 : (x.s1.ph == 7)
      case true =>
        have h6 : (x.s1.ph == 6) = false := by
          rw [beq_iff_eq] at h7
          rw [h7]; rfl
        have HC := Lib.hid hC
        clear hC
        by_cases hp : 0 < nb
        · have hp' : (0 : Int) < (nb : Int) := by omega
          go_wp2_with (first | (go_at_call 22; refine (HB.out _ K2.out.ext).mono ?_; rintro e w3 ⟨ba, bc, rfl, hx3⟩; obtain ⟨y3, rfl⟩ := ext_of hx3; clear hx3) | (refine wpList_load_rowG rfl 36 _ rfl _ rfl _ _ (0, 0) _ K2.out.hx Try.underlying36 rfl info_ex ?_))
          go_roundg 0
          case rel => exact .inr (.inr ⟨rfl, rfl, true, a2, Lib.hid ⟨(K2.out.ext' y3.ext).setH 1 _, by rw [holds1_eq, ← KA.out.2.1]; unfold part1; simp only [show x.bad 1 = x.b1 from rfl, show x.st 1 = x.s1 from rfl]; simp [hbad, h7, HNB.out, hp], by rw [holds2_eq, ← KA.out.2.2]; unfold part2; simp only [show x.bad 1 = x.b1 from rfl, show x.st 1 = x.s1 from rfl]; simp [hbad, h6]⟩⟩)
          case measure => omega
        · have hp' : ¬ (0 : Int) < (nb : Int) := by omega
          go_wp2_with (first | (go_at_call 22; refine (HB.out _ K2.out.ext).mono ?_; rintro e w3 ⟨ba, bc, rfl, hx3⟩; obtain ⟨y3, rfl⟩ := ext_of hx3; clear hx3) | (refine wpList_load_rowG rfl 36 _ rfl _ rfl _ _ (0, 0) _ K2.out.hx Try.underlying36 rfl info_ex ?_))
          go_roundg 0
          case rel => exact .inr (.inr ⟨rfl, rfl, a1, a2, Lib.hid ⟨K2.out.ext' y3.ext, by rw [holds1_eq, ← KA.out.2.1]; unfold part1; simp only [show x.bad 1 = x.b1 from rfl, show x.st 1 = x.s1 from rfl]; simp [hbad, h7, HNB.out, hp], by rw [holds2_eq, ← KA.out.2.2]; unfold part2; simp only [show x.bad 1 = x.b1 from rfl, show x.st 1 = x.s1 from rfl]; simp [hbad, h6]⟩⟩)
          case measure => omega
      rcases h6 : (x.s1.ph == 6)
      case false =>
        have HC := Lib.hid hC
        clear hC
        go_wp2_with (fail)
        go_roundg 0
        case rel => exact .inr (.inr ⟨rfl, rfl, a1, a2, Lib.hid ⟨K2.out, by rw [holds1_eq, ← KA.out.2.1]; unfold part1; simp only [show x.bad 1 = x.b1 from rfl, show x.st 1 = x.s1 from rfl]; simp [hbad, h7], by rw [holds2_eq, ← KA.out.2.2]; unfold part2; simp only [show x.bad 1 = x.b1 from rfl, show x.st 1 = x.s1 from rfl]; simp [hbad, h6]⟩⟩)
        case measure => omega
      rcases hcan : canS x x.s1.p
      case true =>
        rw [hcan] at hC
        have HC := Lib.hid hC
        clear hC
        go_wp2_with (first | (go_at_call 13; refine (HC.out _ K2.out.ext).mono ?_; rintro e w3 ⟨rfl, hx3⟩; obtain ⟨y3, rfl⟩ := ext_of hx3; clear hx3) | (refine wpList_load_rowG rfl 36 _ rfl _ rfl _ _ (0, 0) _ K2.out.hx Try.underlying36 rfl info_ex ?_))
        go_roundg 0
        case rel => exact .inr (.inr ⟨rfl, rfl, a1, a2, Lib.hid ⟨K2.out.ext' y3.ext, by rw [holds1_eq, ← KA.out.2.1]; unfold part1; simp only [show x.bad 1 = x.b1 from rfl, show x.st 1 = x.s1 from rfl]; simp [hbad, h7], by rw [holds2_eq, ← KA.out.2.2]; unfold part2; simp only [show x.bad 1 = x.b1 from rfl, show x.st 1 = x.s1 from rfl]; simp [hbad, h6, hcan]⟩⟩)
        case measure => omega
      case false =>
        rw [hcan] at hC
        have HC := Lib.hid hC
        clear hC
        go_wp2_with (first | (go_at_call 13; refine (HC.out _ K2.out.ext).mono ?_; rintro e w3 ⟨rfl, hx3⟩; obtain ⟨y3, rfl⟩ := ext_of hx3; clear hx3) | (refine wpList_load_rowG rfl 36 _ rfl _ rfl _ _ (0, 0) _ K2.out.hx Try.underlying36 rfl info_ex ?_))
        go_roundg 0
        case rel => exact .inr (.inr ⟨rfl, rfl, a1, true, Lib.hid ⟨(K2.out.ext' y3.ext).setH 2 _, by rw [holds1_eq, ← KA.out.2.1]; unfold part1; simp only [show x.bad 1 = x.b1 from rfl, show x.st 1 = x.s1 from rfl]; simp [hbad, h7], by rw [holds2_eq, ← KA.out.2.2]; unfold part2; simp only [show x.bad 1 = x.b1 from rfl, show x.st 1 = x.s1 from rfl]; simp [hbad, h6, hcan]⟩⟩)
        case measure => omega
    · clear K1
      rename World => W3
      have hx2 := KA.out.1.hx
      unfold ExAt Ex.arr at hx2
      have qx := fun j => cell_of_row W3 _ j _ _ _ hx2
      have lx : w.heap.size < W3.heap.size := (Array.getElem?_eq_some_iff.1 hx2).1
      clear hx2
      have hS := fun w => ve_says x.v.c x.v.k x.v.t w
      rw [show (⟨x.v.c, x.v.k, x.v.t⟩ : Vd) = x.v from rfl] at hS
      obtain ⟨sd, hsd⟩ : ∃ sd, saysL x.v = sd := ⟨_, rfl⟩
      rw [hsd] at hS
      have HS := Lib.hid hS
      have HSd := Lib.hid hsd
      clear hS hsd
      go_upto_region 14 with (go_at_call 23; refine (HS.out _).mono ?_; rintro e w3 ⟨rfl, hx3⟩; obtain ⟨y3, rfl⟩ := ext_of hx3; clear hx3)
      refine wp_forget (fun w' => Brk w w' x (.slice a x.h.length cap) (hs2 a1 a2) (es2 x.s0.ph x.s1.ph) ∧ LtAt w' y3.val.heap.size sd ∧ w.heap.size + 1 + 1 < y3.val.heap.size) ⟨KA.out.1.ext' (((Ext.refl _).val y3).alloc _), heap_new rfl, Nat.lt_of_lt_of_le (Array.getElem?_eq_some_iff.1 KA.out.1.he).1 y3.ext.size⟩ ?_
      clear qx lx
      rintro W4 ⟨k4, s4, hg4⟩
      generalize y3.val.heap.size = gs at s4 hg4 ⊢
      have hx2 := k4.hx
      unfold ExAt Ex.arr at hx2
      have qx := fun j => cell_of_row W4 _ j _ _ _ hx2
      have lx : w.heap.size < W4.heap.size := (Array.getElem?_eq_some_iff.1 hx2).1
      clear hx2
      have K4 := Lib.hid k4
      have S4 := Lib.hid s4
      clear k4 s4
      go_wp2_with fail
      go_loopg [9, 10, 64] x.h.length (fun g s9 s10 ii wr => ∃ (n : Nat) (tk ins h5 : Bool), s9 = .bool tk ∧ s10 = .bool ins ∧ ii = .int .i64 (n : Int) ∧ n + g = x.h.length ∧ Hid (Brk w wr x (.slice a x.h.length cap) (hs5 a1 a2 h5) (es2 x.s0.ph x.s1.ph) ∧ LtAt wr gs sd ∧ tk = (x.h.take n).any (·.k == 5) ∧ ins = (x.h.take n).any (·.k == 6) ∧ h5 = (x.h.take n).any (bad5 sd)))
      case atStart => exact ⟨0, false, false, false, rfl, rfl, rfl, by omega, Lib.hid ⟨K4.out, S4.out, by simp, by simp, by simp⟩⟩
      case round =>
        clear qx lx
        obtain ⟨n, tk, ins, h5, rfl, rfl, rfl, hg, HN⟩ := hrel
        rename World => Wr
        by_cases hlt : n < x.h.length
        · obtain ⟨g, off, rfl, hgl, hcell⟩ := HV.out (by omega)
          have hgl := hgl (by omega)
          obtain ⟨z, hz⟩ : ∃ z, x.h[n]? = some z := ⟨_, List.getElem?_eq_getElem hlt⟩
          obtain ⟨q0, q1, q2, q3, q4⟩ := lt_cellsO (fun j u hj => cell_keep (hcell j u hj) HN.out.1.ext) hz
          have HZ := Lib.hid hz
          have hgl1 : g < Wr.heap.size := Nat.lt_of_lt_of_le hgl HN.out.1.ext.size
          have hgsr : gs < Wr.heap.size := (Array.getElem?_eq_some_iff.1 HN.out.2.1).1
          clear hz hcell hgl
          have hlt' : (n : Int) < (x.h.length : Int) := by omega
          go_upto_region 18 with fail
          refine wp_forget (fun w' => Brk w w' x (.slice (some ⟨g, off, none⟩) x.h.length cap) (hs5 a1 a2 h5) (es2 x.s0.ph x.s1.ph) ∧ LtAt w' gs sd ∧ LtAt w' Wr.heap.size z) ⟨HN.out.1.ext' ((Ext.refl _).alloc _), HN.out.2.1.ext ((Ext.refl _).alloc _), heap_new rfl⟩ ?_
          clear q0 q1 q2 q3 q4 hgl1
          rintro W5 ⟨k5, s5, z5⟩
          have hTk := HN.out.2.2.1
          have hIns := HN.out.2.2.2.1
          have hH5 := HN.out.2.2.2.2
          have HTk := Lib.hid hTk
          have HIns := Lib.hid hIns
          have HH5 := Lib.hid hH5
          clear hTk hIns hH5 HN
          have hh2 := k5.hh
          unfold hs5 at hh2
          have qh := fun j => cell_of_row W5 _ j _ _ _ hh2
          have fh := fun j => frozen_of_row W5 _ j _ _ hh2
          have lh : w.heap.size + 1 < W5.heap.size := (Array.getElem?_eq_some_iff.1 hh2).1
          have qs := fun j => cell_of_row W5 _ j _ _ _ s5
          have ls : gs < W5.heap.size := (Array.getElem?_eq_some_iff.1 s5).1
          have K5 := Lib.hid k5
          have S5 := Lib.hid s5
          clear k5 s5 hh2
          obtain ⟨zk, zf, zc, zt, zb⟩ := z
          simp only [LtAt] at z5
          by_cases hk5 : zk = 5
          · subst hk5
            have qz := fun j => cell_of_row W5 _ j _ _ _ z5
            have lz : Wr.heap.size < W5.heap.size := (Array.getElem?_eq_some_iff.1 z5).1
            clear z5
            rcases tk <;> rcases ins
            · rcases h5
              · by_cases he : (⟨5, zf, zc, zt, zb⟩ : Lt) = sd
                · have he2 : lEq 5 zf zc zt zb sd.k sd.f sd.c sd.t sd.b = true := by rw [show lEq 5 zf zc zt zb sd.k sd.f sd.c sd.t sd.b = decide ((⟨5, zf, zc, zt, zb⟩ : Lt) = sd) from lEq_lt ⟨5, zf, zc, zt, zb⟩ sd]; exact decide_eq_true he
                  have HEq := Lib.hid he
                  clear he
                  go_wp2_with fail
                  go_roundg (gk - 1)
                  case rel => exact ⟨n + 1, true, false, false, rfl, rfl, rfl, by omega, Lib.hid ⟨K5.out.setH 5 _, ltat_set S5.out (by omega), by rw [any_next HZ.out, ← HTk.out]; rfl, by rw [any_next HZ.out, ← HIns.out]; rfl, by rw [any_next HZ.out, ← HH5.out]; unfold bad5; rw [decide_eq_true HEq.out]; rfl⟩⟩
                  case measure => omega
                · have he2 : lEq 5 zf zc zt zb sd.k sd.f sd.c sd.t sd.b = false := by rw [show lEq 5 zf zc zt zb sd.k sd.f sd.c sd.t sd.b = decide ((⟨5, zf, zc, zt, zb⟩ : Lt) = sd) from lEq_lt ⟨5, zf, zc, zt, zb⟩ sd]; exact decide_eq_false he
                  have HEq := Lib.hid he
                  clear he
                  go_wp2_with fail
                  go_roundg (gk - 1)
                  case rel => exact ⟨n + 1, true, false, true, rfl, rfl, rfl, by omega, Lib.hid ⟨K5.out.setH 5 _, ltat_set S5.out (by omega), by rw [any_next HZ.out, ← HTk.out]; rfl, by rw [any_next HZ.out, ← HIns.out]; rfl, by rw [any_next HZ.out, ← HH5.out]; unfold bad5; rw [decide_eq_false HEq.out]; rfl⟩⟩
                  case measure => omega
              · go_wp2_with fail
                go_roundg (gk - 1)
                case rel => exact ⟨n + 1, true, false, true, rfl, rfl, rfl, by omega, Lib.hid ⟨K5.out.setH 5 _, ltat_set S5.out (by omega), by rw [any_next HZ.out, ← HTk.out]; rfl, by rw [any_next HZ.out, ← HIns.out]; rfl, by rw [any_next HZ.out, ← HH5.out]; rfl⟩⟩
                case measure => omega
            · rcases h5
              · by_cases he : (⟨5, zf, zc, zt, zb⟩ : Lt) = sd
                · have he2 : lEq 5 zf zc zt zb sd.k sd.f sd.c sd.t sd.b = true := by rw [show lEq 5 zf zc zt zb sd.k sd.f sd.c sd.t sd.b = decide ((⟨5, zf, zc, zt, zb⟩ : Lt) = sd) from lEq_lt ⟨5, zf, zc, zt, zb⟩ sd]; exact decide_eq_true he
                  have HEq := Lib.hid he
                  clear he
                  go_wp2_with fail
                  go_roundg (gk - 1)
                  case rel => exact ⟨n + 1, true, true, false, rfl, rfl, rfl, by omega, Lib.hid ⟨K5.out.setH 5 _, ltat_set S5.out (by omega), by rw [any_next HZ.out, ← HTk.out]; rfl, by rw [any_next HZ.out, ← HIns.out]; rfl, by rw [any_next HZ.out, ← HH5.out]; unfold bad5; rw [decide_eq_true HEq.out]; rfl⟩⟩
                  case measure => omega
                · have he2 : lEq 5 zf zc zt zb sd.k sd.f sd.c sd.t sd.b = false := by rw [show lEq 5 zf zc zt zb sd.k sd.f sd.c sd.t sd.b = decide ((⟨5, zf, zc, zt, zb⟩ : Lt) = sd) from lEq_lt ⟨5, zf, zc, zt, zb⟩ sd]; exact decide_eq_false he
                  have HEq := Lib.hid he
                  clear he
                  go_wp2_with fail
                  go_roundg (gk - 1)
                  case rel => exact ⟨n + 1, true, true, true, rfl, rfl, rfl, by omega, Lib.hid ⟨K5.out.setH 5 _, ltat_set S5.out (by omega), by rw [any_next HZ.out, ← HTk.out]; rfl, by rw [any_next HZ.out, ← HIns.out]; rfl, by rw [any_next HZ.out, ← HH5.out]; unfold bad5; rw [decide_eq_false HEq.out]; rfl⟩⟩
                  case measure => omega
              · go_wp2_with fail
                go_roundg (gk - 1)
                case rel => exact ⟨n + 1, true, true, true, rfl, rfl, rfl, by omega, Lib.hid ⟨K5.out.setH 5 _, ltat_set S5.out (by omega), by rw [any_next HZ.out, ← HTk.out]; rfl, by rw [any_next HZ.out, ← HIns.out]; rfl, by rw [any_next HZ.out, ← HH5.out]; rfl⟩⟩
                case measure => omega
            · rcases h5
              · by_cases he : (⟨5, zf, zc, zt, zb⟩ : Lt) = sd
                · have he2 : lEq 5 zf zc zt zb sd.k sd.f sd.c sd.t sd.b = true := by rw [show lEq 5 zf zc zt zb sd.k sd.f sd.c sd.t sd.b = decide ((⟨5, zf, zc, zt, zb⟩ : Lt) = sd) from lEq_lt ⟨5, zf, zc, zt, zb⟩ sd]; exact decide_eq_true he
                  have HEq := Lib.hid he
                  clear he
                  go_wp2_with fail
                  go_roundg (gk - 1)
                  case rel => exact ⟨n + 1, true, false, false, rfl, rfl, rfl, by omega, Lib.hid ⟨K5.out.setH 5 _, ltat_set S5.out (by omega), by rw [any_next HZ.out, ← HTk.out]; rfl, by rw [any_next HZ.out, ← HIns.out]; rfl, by rw [any_next HZ.out, ← HH5.out]; unfold bad5; rw [decide_eq_true HEq.out]; rfl⟩⟩
                  case measure => omega
                · have he2 : lEq 5 zf zc zt zb sd.k sd.f sd.c sd.t sd.b = false := by rw [show lEq 5 zf zc zt zb sd.k sd.f sd.c sd.t sd.b = decide ((⟨5, zf, zc, zt, zb⟩ : Lt) = sd) from lEq_lt ⟨5, zf, zc, zt, zb⟩ sd]; exact decide_eq_false he
                  have HEq := Lib.hid he
                  clear he
                  go_wp2_with fail
                  go_roundg (gk - 1)
                  case rel => exact ⟨n + 1, true, false, true, rfl, rfl, rfl, by omega, Lib.hid ⟨K5.out.setH 5 _, ltat_set S5.out (by omega), by rw [any_next HZ.out, ← HTk.out]; rfl, by rw [any_next HZ.out, ← HIns.out]; rfl, by rw [any_next HZ.out, ← HH5.out]; unfold bad5; rw [decide_eq_false HEq.out]; rfl⟩⟩
                  case measure => omega
              · go_wp2_with fail
                go_roundg (gk - 1)
                case rel => exact ⟨n + 1, true, false, true, rfl, rfl, rfl, by omega, Lib.hid ⟨K5.out.setH 5 _, ltat_set S5.out (by omega), by rw [any_next HZ.out, ← HTk.out]; rfl, by rw [any_next HZ.out, ← HIns.out]; rfl, by rw [any_next HZ.out, ← HH5.out]; rfl⟩⟩
                case measure => omega
            · rcases h5
              · by_cases he : (⟨5, zf, zc, zt, zb⟩ : Lt) = sd
                · have he2 : lEq 5 zf zc zt zb sd.k sd.f sd.c sd.t sd.b = true := by rw [show lEq 5 zf zc zt zb sd.k sd.f sd.c sd.t sd.b = decide ((⟨5, zf, zc, zt, zb⟩ : Lt) = sd) from lEq_lt ⟨5, zf, zc, zt, zb⟩ sd]; exact decide_eq_true he
                  have HEq := Lib.hid he
                  clear he
                  go_wp2_with fail
                  go_roundg (gk - 1)
                  case rel => exact ⟨n + 1, true, true, false, rfl, rfl, rfl, by omega, Lib.hid ⟨K5.out.setH 5 _, ltat_set S5.out (by omega), by rw [any_next HZ.out, ← HTk.out]; rfl, by rw [any_next HZ.out, ← HIns.out]; rfl, by rw [any_next HZ.out, ← HH5.out]; unfold bad5; rw [decide_eq_true HEq.out]; rfl⟩⟩
                  case measure => omega
                · have he2 : lEq 5 zf zc zt zb sd.k sd.f sd.c sd.t sd.b = false := by rw [show lEq 5 zf zc zt zb sd.k sd.f sd.c sd.t sd.b = decide ((⟨5, zf, zc, zt, zb⟩ : Lt) = sd) from lEq_lt ⟨5, zf, zc, zt, zb⟩ sd]; exact decide_eq_false he
                  have HEq := Lib.hid he
                  clear he
                  go_wp2_with fail
                  go_roundg (gk - 1)
                  case rel => exact ⟨n + 1, true, true, true, rfl, rfl, rfl, by omega, Lib.hid ⟨K5.out.setH 5 _, ltat_set S5.out (by omega), by rw [any_next HZ.out, ← HTk.out]; rfl, by rw [any_next HZ.out, ← HIns.out]; rfl, by rw [any_next HZ.out, ← HH5.out]; unfold bad5; rw [decide_eq_false HEq.out]; rfl⟩⟩
                  case measure => omega
              · go_wp2_with fail
                go_roundg (gk - 1)
                case rel => exact ⟨n + 1, true, true, true, rfl, rfl, rfl, by omega, Lib.hid ⟨K5.out.setH 5 _, ltat_set S5.out (by omega), by rw [any_next HZ.out, ← HTk.out]; rfl, by rw [any_next HZ.out, ← HIns.out]; rfl, by rw [any_next HZ.out, ← HH5.out]; rfl⟩⟩
                case measure => omega
          by_cases hk6 : zk = 6
          · subst hk6
            have qz := fun j => cell_of_row W5 _ j _ _ _ z5
            have lz : Wr.heap.size < W5.heap.size := (Array.getElem?_eq_some_iff.1 z5).1
            clear z5 hk5
            rcases tk <;> rcases ins
            · rcases h5
              · by_cases he : (⟨6, zf, zc, zt, zb⟩ : Lt) = sd
                · have he2 : lEq 6 zf zc zt zb sd.k sd.f sd.c sd.t sd.b = true := by rw [show lEq 6 zf zc zt zb sd.k sd.f sd.c sd.t sd.b = decide ((⟨6, zf, zc, zt, zb⟩ : Lt) = sd) from lEq_lt ⟨6, zf, zc, zt, zb⟩ sd]; exact decide_eq_true he
                  have HEq := Lib.hid he
                  clear he
                  go_wp2_with fail
                  go_roundg (gk - 1)
                  case rel => exact ⟨n + 1, false, true, false, rfl, rfl, rfl, by omega, Lib.hid ⟨K5.out.setH 5 _, ltat_set S5.out (by omega), by rw [any_next HZ.out, ← HTk.out]; rfl, by rw [any_next HZ.out, ← HIns.out]; rfl, by rw [any_next HZ.out, ← HH5.out]; unfold bad5; rw [decide_eq_true HEq.out]; rfl⟩⟩
                  case measure => omega
                · have he2 : lEq 6 zf zc zt zb sd.k sd.f sd.c sd.t sd.b = false := by rw [show lEq 6 zf zc zt zb sd.k sd.f sd.c sd.t sd.b = decide ((⟨6, zf, zc, zt, zb⟩ : Lt) = sd) from lEq_lt ⟨6, zf, zc, zt, zb⟩ sd]; exact decide_eq_false he
                  have HEq := Lib.hid he
                  clear he
                  go_wp2_with fail
                  go_roundg (gk - 1)
                  case rel => exact ⟨n + 1, false, true, true, rfl, rfl, rfl, by omega, Lib.hid ⟨K5.out.setH 5 _, ltat_set S5.out (by omega), by rw [any_next HZ.out, ← HTk.out]; rfl, by rw [any_next HZ.out, ← HIns.out]; rfl, by rw [any_next HZ.out, ← HH5.out]; unfold bad5; rw [decide_eq_false HEq.out]; rfl⟩⟩
                  case measure => omega
              · go_wp2_with fail
                go_roundg (gk - 1)
                case rel => exact ⟨n + 1, false, true, true, rfl, rfl, rfl, by omega, Lib.hid ⟨K5.out.setH 5 _, ltat_set S5.out (by omega), by rw [any_next HZ.out, ← HTk.out]; rfl, by rw [any_next HZ.out, ← HIns.out]; rfl, by rw [any_next HZ.out, ← HH5.out]; rfl⟩⟩
                case measure => omega
            · rcases h5
              · by_cases he : (⟨6, zf, zc, zt, zb⟩ : Lt) = sd
                · have he2 : lEq 6 zf zc zt zb sd.k sd.f sd.c sd.t sd.b = true := by rw [show lEq 6 zf zc zt zb sd.k sd.f sd.c sd.t sd.b = decide ((⟨6, zf, zc, zt, zb⟩ : Lt) = sd) from lEq_lt ⟨6, zf, zc, zt, zb⟩ sd]; exact decide_eq_true he
                  have HEq := Lib.hid he
                  clear he
                  go_wp2_with fail
                  go_roundg (gk - 1)
                  case rel => exact ⟨n + 1, false, true, false, rfl, rfl, rfl, by omega, Lib.hid ⟨K5.out.setH 5 _, ltat_set S5.out (by omega), by rw [any_next HZ.out, ← HTk.out]; rfl, by rw [any_next HZ.out, ← HIns.out]; rfl, by rw [any_next HZ.out, ← HH5.out]; unfold bad5; rw [decide_eq_true HEq.out]; rfl⟩⟩
                  case measure => omega
                · have he2 : lEq 6 zf zc zt zb sd.k sd.f sd.c sd.t sd.b = false := by rw [show lEq 6 zf zc zt zb sd.k sd.f sd.c sd.t sd.b = decide ((⟨6, zf, zc, zt, zb⟩ : Lt) = sd) from lEq_lt ⟨6, zf, zc, zt, zb⟩ sd]; exact decide_eq_false he
                  have HEq := Lib.hid he
                  clear he
                  go_wp2_with fail
                  go_roundg (gk - 1)
                  case rel => exact ⟨n + 1, false, true, true, rfl, rfl, rfl, by omega, Lib.hid ⟨K5.out.setH 5 _, ltat_set S5.out (by omega), by rw [any_next HZ.out, ← HTk.out]; rfl, by rw [any_next HZ.out, ← HIns.out]; rfl, by rw [any_next HZ.out, ← HH5.out]; unfold bad5; rw [decide_eq_false HEq.out]; rfl⟩⟩
                  case measure => omega
              · go_wp2_with fail
                go_roundg (gk - 1)
                case rel => exact ⟨n + 1, false, true, true, rfl, rfl, rfl, by omega, Lib.hid ⟨K5.out.setH 5 _, ltat_set S5.out (by omega), by rw [any_next HZ.out, ← HTk.out]; rfl, by rw [any_next HZ.out, ← HIns.out]; rfl, by rw [any_next HZ.out, ← HH5.out]; rfl⟩⟩
                case measure => omega
            · rcases h5
              · by_cases he : (⟨6, zf, zc, zt, zb⟩ : Lt) = sd
                · have he2 : lEq 6 zf zc zt zb sd.k sd.f sd.c sd.t sd.b = true := by rw [show lEq 6 zf zc zt zb sd.k sd.f sd.c sd.t sd.b = decide ((⟨6, zf, zc, zt, zb⟩ : Lt) = sd) from lEq_lt ⟨6, zf, zc, zt, zb⟩ sd]; exact decide_eq_true he
                  have HEq := Lib.hid he
                  clear he
                  go_wp2_with fail
                  go_roundg (gk - 1)
                  case rel => exact ⟨n + 1, true, true, false, rfl, rfl, rfl, by omega, Lib.hid ⟨K5.out.setH 5 _, ltat_set S5.out (by omega), by rw [any_next HZ.out, ← HTk.out]; rfl, by rw [any_next HZ.out, ← HIns.out]; rfl, by rw [any_next HZ.out, ← HH5.out]; unfold bad5; rw [decide_eq_true HEq.out]; rfl⟩⟩
                  case measure => omega
                · have he2 : lEq 6 zf zc zt zb sd.k sd.f sd.c sd.t sd.b = false := by rw [show lEq 6 zf zc zt zb sd.k sd.f sd.c sd.t sd.b = decide ((⟨6, zf, zc, zt, zb⟩ : Lt) = sd) from lEq_lt ⟨6, zf, zc, zt, zb⟩ sd]; exact decide_eq_false he
                  have HEq := Lib.hid he
                  clear he
                  go_wp2_with fail
                  go_roundg (gk - 1)
                  case rel => exact ⟨n + 1, true, true, true, rfl, rfl, rfl, by omega, Lib.hid ⟨K5.out.setH 5 _, ltat_set S5.out (by omega), by rw [any_next HZ.out, ← HTk.out]; rfl, by rw [any_next HZ.out, ← HIns.out]; rfl, by rw [any_next HZ.out, ← HH5.out]; unfold bad5; rw [decide_eq_false HEq.out]; rfl⟩⟩
                  case measure => omega
              · go_wp2_with fail
                go_roundg (gk - 1)
                case rel => exact ⟨n + 1, true, true, true, rfl, rfl, rfl, by omega, Lib.hid ⟨K5.out.setH 5 _, ltat_set S5.out (by omega), by rw [any_next HZ.out, ← HTk.out]; rfl, by rw [any_next HZ.out, ← HIns.out]; rfl, by rw [any_next HZ.out, ← HH5.out]; rfl⟩⟩
                case measure => omega
            · rcases h5
              · by_cases he : (⟨6, zf, zc, zt, zb⟩ : Lt) = sd
                · have he2 : lEq 6 zf zc zt zb sd.k sd.f sd.c sd.t sd.b = true := by rw [show lEq 6 zf zc zt zb sd.k sd.f sd.c sd.t sd.b = decide ((⟨6, zf, zc, zt, zb⟩ : Lt) = sd) from lEq_lt ⟨6, zf, zc, zt, zb⟩ sd]; exact decide_eq_true he
                  have HEq := Lib.hid he
                  clear he
                  go_wp2_with fail
                  go_roundg (gk - 1)
                  case rel => exact ⟨n + 1, true, true, false, rfl, rfl, rfl, by omega, Lib.hid ⟨K5.out.setH 5 _, ltat_set S5.out (by omega), by rw [any_next HZ.out, ← HTk.out]; rfl, by rw [any_next HZ.out, ← HIns.out]; rfl, by rw [any_next HZ.out, ← HH5.out]; unfold bad5; rw [decide_eq_true HEq.out]; rfl⟩⟩
                  case measure => omega
                · have he2 : lEq 6 zf zc zt zb sd.k sd.f sd.c sd.t sd.b = false := by rw [show lEq 6 zf zc zt zb sd.k sd.f sd.c sd.t sd.b = decide ((⟨6, zf, zc, zt, zb⟩ : Lt) = sd) from lEq_lt ⟨6, zf, zc, zt, zb⟩ sd]; exact decide_eq_false he
                  have HEq := Lib.hid he
                  clear he
                  go_wp2_with fail
                  go_roundg (gk - 1)
                  case rel => exact ⟨n + 1, true, true, true, rfl, rfl, rfl, by omega, Lib.hid ⟨K5.out.setH 5 _, ltat_set S5.out (by omega), by rw [any_next HZ.out, ← HTk.out]; rfl, by rw [any_next HZ.out, ← HIns.out]; rfl, by rw [any_next HZ.out, ← HH5.out]; unfold bad5; rw [decide_eq_false HEq.out]; rfl⟩⟩
                  case measure => omega
              · go_wp2_with fail
                go_roundg (gk - 1)
                case rel => exact ⟨n + 1, true, true, true, rfl, rfl, rfl, by omega, Lib.hid ⟨K5.out.setH 5 _, ltat_set S5.out (by omega), by rw [any_next HZ.out, ← HTk.out]; rfl, by rw [any_next HZ.out, ← HIns.out]; rfl, by rw [any_next HZ.out, ← HH5.out]; rfl⟩⟩
                case measure => omega
          · have hk5n : (zk != 5) = true := by simpa using hk5
            have hk6n : (zk != 6) = true := by simpa using hk6
            have qz := fun j => cell_of_row W5 _ j _ _ _ z5
            have lz : Wr.heap.size < W5.heap.size := (Array.getElem?_eq_some_iff.1 z5).1
            clear z5
            go_wp2_with fail
            go_roundg (gk - 1)
            case rel => exact ⟨n + 1, tk, ins, h5, rfl, rfl, rfl, by omega, Lib.hid ⟨K5.out, S5.out, by rw [any_next HZ.out, HTk.out]; simp [hk5], by rw [any_next HZ.out, HIns.out]; simp [hk6], by rw [any_next HZ.out, HH5.out]; simp [bad5, hk5, hk6]⟩⟩
            case measure => omega
        · have hn : n = x.h.length := by omega
          subst hn
          have hge : ¬ (x.h.length : Int) < (x.h.length : Int) := by omega
          clear hg hlt
          have HE : Hid (Brk w Wr x (.slice a x.h.length cap) (hs5 a1 a2 h5) (es2 x.s0.ph x.s1.ph)) := Lib.hid HN.out.1
          have HT3 : Hid ((tk && ins) = holds3 x) := Lib.hid (by have h1 := HN.out.2.2.1; have h2 := HN.out.2.2.2.1; rw [List.take_length] at h1 h2; rw [h1, h2]; rfl)
          have HT5 : Hid (h5 = holds5 x) := Lib.hid (by have h1 := HN.out.2.2.2.2; rw [List.take_length] at h1; rw [h1, holds5_eq, HSd.out])
          have HT1 := Lib.hid KA.out.2
          clear HN KA
          have hh2 := HE.out.hh
          unfold hs5 at hh2
          have qh := fun j => cell_of_row Wr _ j _ _ _ hh2
          have fh := fun j => frozen_of_row Wr _ j _ _ hh2
          have lh : w.heap.size + 1 < Wr.heap.size := (Array.getElem?_eq_some_iff.1 hh2).1
          clear hh2
          go_upto_region 23 with fail
          go_cut [] from 97 (fun wc => Hid (Brk w wc x (.slice a x.h.length cap) (hs35 a1 a2 (tk && ins) h5) (es2 x.s0.ph x.s1.ph)))
          case first =>
            rcases tk <;> rcases ins
            all_goals
              go_wp2_with fail
              go_meet
              case rel => exact Lib.hid (HE.out.setH 3 _)
          case rest =>
            clear qh fh lh
            rename World => W6
            have hx2 := hcut.out.hx
            unfold ExAt Ex.arr at hx2
            have qx := fun j => cell_of_row W6 _ j _ _ _ hx2
            have lx : w.heap.size < W6.heap.size := (Array.getElem?_eq_some_iff.1 hx2).1
            have HK := Lib.hid hcut.out
            clear hx2 hcut
            go_upto_region 26 with fail
            refine wp_forget (fun w' => Brk w w' x (.slice a x.h.length cap) (hs35 a1 a2 (tk && ins) h5) (es2 x.s0.ph x.s1.ph) ∧ w'.heap[W6.heap.size]? = some (.cells #[.int .i64 6, .int .i64 7] 64 (0, 0)) ∧ w'.heap[W6.heap.size + 1]? = some (.cells #[.int .i64 7, .int .i64 6] 64 (0, 0))) ⟨HK.out.ext' (((Ext.refl _).alloc _).alloc _), (two_new (Ext.refl _)).1, (two_new (Ext.refl _)).2.1⟩ ?_
            clear qx lx
            rintro W7 ⟨k7, m7, n7⟩
            have hx2 := k7.hx
            unfold ExAt Ex.arr at hx2
            have qx := fun j => cell_of_row W7 _ j _ _ _ hx2
            have lx : w.heap.size < W7.heap.size := (Array.getElem?_eq_some_iff.1 hx2).1
            have hh2 := k7.hh
            unfold hs35 at hh2
            have qh := fun j => cell_of_row W7 _ j _ _ _ hh2
            have fh := fun j => frozen_of_row W7 _ j _ _ hh2
            have lh : w.heap.size + 1 < W7.heap.size := (Array.getElem?_eq_some_iff.1 hh2).1
            have he2 := k7.he
            unfold es2 at he2
            have qe := fun j => cell_of_row W7 _ j _ _ _ he2
            have le : w.heap.size + 1 + 1 < W7.heap.size := (Array.getElem?_eq_some_iff.1 he2).1
            have q6 := fun j => cell_of_row W7 _ j _ _ _ m7
            have l6 : W6.heap.size < W7.heap.size := (Array.getElem?_eq_some_iff.1 m7).1
            have q7 := fun j => cell_of_row W7 _ j _ _ _ n7
            have l7 : W6.heap.size + 1 < W7.heap.size := (Array.getElem?_eq_some_iff.1 n7).1
            have K7 := Lib.hid k7
            clear k7 m7 n7 hx2 hh2 he2 HK
            go_cut [] from 104 (fun wc => Hid (Brk w wc x (.slice a x.h.length cap) (hs345 a1 a2 (tk && ins) (holds4 x) h5) (es2 x.s0.ph x.s1.ph)))
            case first =>
              rcases hb0 : x.b0
              case true =>
                go_wp2_with fail
                go_meet
                case rel => exact Lib.hid (by rw [show holds4 x = false by unfold holds4; rw [hb0]; rfl]; exact K7.out.setH 4 _)
              rcases hb1 : x.b1
              case true =>
                go_wp2_with fail
                go_meet
                case rel => exact Lib.hid (by rw [show holds4 x = false by unfold holds4; rw [hb0, hb1]; rfl]; exact K7.out.setH 4 _)
              rcases e1 : i2E x.s0.ph x.s1.ph 6 7
              case true =>
                go_wp2_with fail
                go_meet
                case rel => exact Lib.hid (by rw [holds4_eq, hb0, hb1, e1]; exact K7.out.setH 4 _)
              rcases e2 : i2E x.s0.ph x.s1.ph 7 6
              all_goals
                go_wp2_with fail
                go_meet
                case rel => exact Lib.hid (by rw [holds4_eq, hb0, hb1, e1, e2]; exact K7.out.setH 4 _)
            case rest =>
              clear qx lx qh fh lh qe le q6 l6 q7 l7 K7
              rename World => W8
              have hh2 := hcut.out.hh
              have HH := Lib.hid hh2
              unfold hs345 at hh2
              have HK := Lib.hid hcut.out
              clear hh2 hcut
              obtain ⟨i0, hi, hz0, hz1, hz2⟩ := info_parts info_int
              obtain ⟨b3, hb3⟩ : ∃ b, (tk && ins) = b := ⟨_, rfl⟩
              obtain ⟨b4, hb4⟩ : ∃ b, holds4 x = b := ⟨_, rfl⟩
              rw [hb3, hb4] at HH HK
              have HB3 := Lib.hid hb3
              have HB4 := Lib.hid hb4
              clear hb3 hb4
              have HOK : Hid (okX x = !(a1 || (a2 || (b3 || (b4 || h5))))) := Lib.hid (by unfold okX; rw [← HT1.out.1, ← HT1.out.2, ← HT3.out, ← HT5.out, HB3.out, HB4.out])
              go_upto_region 29 with (refine wpList_load_row rfl 63 _ rfl _ rfl _ _ (0, 0) _ HH.out Try.underlying63 rfl info_b6 ?_)
              unfold hs345
              go_loopg [15, 120] 6 (fun g l ii wr => ∃ (n : Nat) (M : List Value), ii = .int .i64 (n : Int) ∧ n + g = 6 ∧ Hid (wr.ownsRow W8.heap.size 3 1 l M.length M ∧ Ext W8 wr ∧ M.length ≤ n ∧ (M.length == 0) = !(([false, a1, a2, b3, b4, h5].take n).any id)))
              case atStart => exact ⟨0, [], rfl, rfl, Lib.hid ⟨World.ownsRow_nil _ _ _ _, Ext.refl _, by simp, rfl⟩⟩
              case round =>
                obtain ⟨n, M, rfl, hg, HM⟩ := hrel
                rename World => Wr
                have hMl : M.length ≤ n := HM.out.2.2.1
                have hor : n = 0 ∨ n = 1 ∨ n = 2 ∨ n = 3 ∨ n = 4 ∨ n = 5 ∨ n = 6 := by omega
                have hszW : W8.heap.size ≤ Wr.heap.size := HM.out.2.1.size
                rcases hor with rfl | rfl | rfl | rfl | rfl | rfl | rfl
                · go_wp2_with fail
                  go_roundg (gk - 1)
                  case rel => exact ⟨1, M, rfl, by omega, Lib.hid ⟨HM.out.1, HM.out.2.1, by omega, by rw [HM.out.2.2.2]; rfl⟩⟩
                  case measure => omega
                · rcases a1
                  · go_wp2_with fail
                    go_roundg (gk - 1)
                    case rel => exact ⟨2, M, rfl, by omega, Lib.hid ⟨HM.out.1, HM.out.2.1, by omega, by rw [HM.out.2.2.2]; simp⟩⟩
                    case measure => omega
                  · go_wp2_with (at_builtin; refine wpList_app W8.heap.size 42 3 i0 _ 1 8 Try.underlying42 hi hz0 hz1 hz2 rfl (by decide) rfl _ _ rfl _ M.length _ rfl (own_ext HM.out.1 ((Ext.refl Wr).alloc _)) (Nat.le_trans hszW ((Ext.refl Wr).alloc _).size) Wr.heap.size 1 1 _ rfl (heap_new rfl) rfl (by simp [Value.oneCell']) (by unfold maxLen; omega) (by omega) ?_; intro v2 w2 hv2 hb2 _)
                    go_roundg (gk - 1)
                    case rel => exact ⟨2, M ++ [.int .i64 1], rfl, by omega, Lib.hid ⟨by simpa using hv2, (HM.out.2.1.alloc _).trans' hb2, by simp; omega, by simp⟩⟩
                    case measure => omega
                · rcases a2
                  · go_wp2_with fail
                    go_roundg (gk - 1)
                    case rel => exact ⟨3, M, rfl, by omega, Lib.hid ⟨HM.out.1, HM.out.2.1, by omega, by rw [HM.out.2.2.2]; simp⟩⟩
                    case measure => omega
                  · go_wp2_with (at_builtin; refine wpList_app W8.heap.size 42 3 i0 _ 1 8 Try.underlying42 hi hz0 hz1 hz2 rfl (by decide) rfl _ _ rfl _ M.length _ rfl (own_ext HM.out.1 ((Ext.refl Wr).alloc _)) (Nat.le_trans hszW ((Ext.refl Wr).alloc _).size) Wr.heap.size 1 1 _ rfl (heap_new rfl) rfl (by simp [Value.oneCell']) (by unfold maxLen; omega) (by omega) ?_; intro v2 w2 hv2 hb2 _)
                    go_roundg (gk - 1)
                    case rel => exact ⟨3, M ++ [.int .i64 2], rfl, by omega, Lib.hid ⟨by simpa using hv2, (HM.out.2.1.alloc _).trans' hb2, by simp; omega, by simp⟩⟩
                    case measure => omega
                · rcases b3
                  · go_wp2_with fail
                    go_roundg (gk - 1)
                    case rel => exact ⟨4, M, rfl, by omega, Lib.hid ⟨HM.out.1, HM.out.2.1, by omega, by rw [HM.out.2.2.2]; simp⟩⟩
                    case measure => omega
                  · go_wp2_with (at_builtin; refine wpList_app W8.heap.size 42 3 i0 _ 1 8 Try.underlying42 hi hz0 hz1 hz2 rfl (by decide) rfl _ _ rfl _ M.length _ rfl (own_ext HM.out.1 ((Ext.refl Wr).alloc _)) (Nat.le_trans hszW ((Ext.refl Wr).alloc _).size) Wr.heap.size 1 1 _ rfl (heap_new rfl) rfl (by simp [Value.oneCell']) (by unfold maxLen; omega) (by omega) ?_; intro v2 w2 hv2 hb2 _)
                    go_roundg (gk - 1)
                    case rel => exact ⟨4, M ++ [.int .i64 3], rfl, by omega, Lib.hid ⟨by simpa using hv2, (HM.out.2.1.alloc _).trans' hb2, by simp; omega, by simp⟩⟩
                    case measure => omega
                · rcases b4
                  · go_wp2_with fail
                    go_roundg (gk - 1)
                    case rel => exact ⟨5, M, rfl, by omega, Lib.hid ⟨HM.out.1, HM.out.2.1, by omega, by rw [HM.out.2.2.2]; simp⟩⟩
                    case measure => omega
                  · go_wp2_with (at_builtin; refine wpList_app W8.heap.size 42 3 i0 _ 1 8 Try.underlying42 hi hz0 hz1 hz2 rfl (by decide) rfl _ _ rfl _ M.length _ rfl (own_ext HM.out.1 ((Ext.refl Wr).alloc _)) (Nat.le_trans hszW ((Ext.refl Wr).alloc _).size) Wr.heap.size 1 1 _ rfl (heap_new rfl) rfl (by simp [Value.oneCell']) (by unfold maxLen; omega) (by omega) ?_; intro v2 w2 hv2 hb2 _)
                    go_roundg (gk - 1)
                    case rel => exact ⟨5, M ++ [.int .i64 4], rfl, by omega, Lib.hid ⟨by simpa using hv2, (HM.out.2.1.alloc _).trans' hb2, by simp; omega, by simp⟩⟩
                    case measure => omega
                · rcases h5
                  · go_wp2_with fail
                    go_roundg (gk - 1)
                    case rel => exact ⟨6, M, rfl, by omega, Lib.hid ⟨HM.out.1, HM.out.2.1, by omega, by rw [HM.out.2.2.2]; simp⟩⟩
                    case measure => omega
                  · go_wp2_with (at_builtin; refine wpList_app W8.heap.size 42 3 i0 _ 1 8 Try.underlying42 hi hz0 hz1 hz2 rfl (by decide) rfl _ _ rfl _ M.length _ rfl (own_ext HM.out.1 ((Ext.refl Wr).alloc _)) (Nat.le_trans hszW ((Ext.refl Wr).alloc _).size) Wr.heap.size 1 1 _ rfl (heap_new rfl) rfl (by simp [Value.oneCell']) (by unfold maxLen; omega) (by omega) ?_; intro v2 w2 hv2 hb2 _)
                    go_roundg (gk - 1)
                    case rel => exact ⟨6, M ++ [.int .i64 5], rfl, by omega, Lib.hid ⟨by simpa using hv2, (HM.out.2.1.alloc _).trans' hb2, by simp; omega, by simp⟩⟩
                    case measure => omega
                · obtain ⟨la, lc, rfl, _⟩ := own_view HM.out.1
                  go_wp2_with fail
                  go_ret
                  refine ⟨la, M.length, lc, rfl, ?_, HK.out.ext.trans HM.out.2.1⟩
                  rw [HM.out.2.2.2, HOK.out]
                  cases a1 <;> cases a2 <;> cases b3 <;> cases b4 <;> cases h5 <;> rfl
end Go.Proofs.Ytodnfbfhdloogaa

/-
  Walks: an exchange is the same as itself. No condition.
-/
namespace Go.Proofs.Ytodnfbfhdloogaa
open Go.RowKit
attribute [local go_sem ↓] eql_lEq eql_sEq eql_eEq eql_oEq neq_lEq neq_sEq neq_eEq neq_oEq eql_vEq neq_vEq eql_nil
attribute [local go_sem] ExtOf.cell ExtOf.frozen ExtOf.lt ExtOf.le
attribute [local go_sem high] ExtOf.cell2 ExtOf.frozen2 ExtOf.lt2 ExtOf.cell3 ExtOf.frozen3 ExtOf.lt3

/-- A struct that lies whole in a block, loaded in a region that draws its order. -/
theorem quiet_load_row {P : Program} {W : World} {a : Act} {o : Oper} {K : Act → Prop} (ty : TypeId) (x : Operand) (ho : o.op = .load ty x)
    (g : Nat) (hx : a.eval x = .pointer (some ⟨g, 0, none⟩)) (t : TypeId) (cs : Array Value) (fr : Nat × Nat) (d : TypeDesc) (hg : W.heap[g]? = some (.cells cs t fr))
    (hu : P.underlying ty = some d) (hd : (match d with | .struct _ | .array _ _ => true | _ => false) = true) (hi : (P.info? ty).map (·.size) = some cs.size)
    (h : K (a.put o.dst (.agg cs))) : o.quiet P a (fun w'' => ∃ x : ExtOf W, w'' = x.val) K := by
  refine ⟨_, ?_, h⟩
  rintro w ⟨y, rfl⟩
  unfold Oper.quietAt execOp
  simp only [ho, hx, Instr.loadAt, Instr.sureAddr, Sem.run_bind, Sem.run_pure, Result.andThen_ok, run_loadVar_row y.val g t ty cs fr d (heap_ext hg y.ext) hu hd hi]
  exact ⟨rfl, rfl⟩

theorem sEq_self (s : St) : sEq s.r s.c s.t s.ph s.p.k s.p.f s.p.c s.p.t s.p.b s.r s.c s.t s.ph s.p.k s.p.f s.p.c s.p.t s.p.b = true := by simp [sEq]
theorem vEq_self (v : Vd) : vEq v.c v.k v.t v.c v.k v.t = true := by simp [vEq]
attribute [local go_sem] sEq_self vEq_self

set_option maxRecDepth 100000 in
set_option maxHeartbeats 3200000 in
theorem rf_same (x : Ex) (v v' : Value) (w : World) (hR : Hrd w x v) (hR' : Hrd w x v') : Calls Try.prog 10 #[.agg (x.arr v), .agg (x.arr v')] w fun e w' => e = .returned (.bool true) ∧ Ext w w' := by
  have HR := Lib.hid hR
  have HR' := Lib.hid hR'
  obtain ⟨a, cap, rfl, hm, hvw⟩ := row_view hR
  obtain ⟨a', cap', rfl, hm', hvw'⟩ := row_view hR'
  have HV := Lib.hid hvw
  have HV' := Lib.hid hvw'
  clear hR hR' hvw hvw' hm'
  unfold maxLen at hm
  go_enter Try.func10, Try.ntmps10
  go_upto_region 1 with fail
  refine wp_forget (fun w' => ExAt w' w.heap.size x (.slice a x.h.length cap) ∧ ExAt w' (w.heap.size + 1) x (.slice a' x.h.length cap') ∧ Ext w w') (two_new (Ext.refl _)) ?_
  rintro W1 ⟨h1, h2, x1⟩
  have HX1 := Lib.hid h1
  have HX2 := Lib.hid h2
  unfold ExAt Ex.arr at h1 h2
  have c1 := fun j => cell_of_row W1 _ j _ _ _ h1
  have c2 := fun j => cell_of_row W1 _ j _ _ _ h2
  have l1 : w.heap.size < W1.heap.size := (Array.getElem?_eq_some_iff.1 h1).1
  have l2 : w.heap.size + 1 < W1.heap.size := (Array.getElem?_eq_some_iff.1 h2).1
  have X1 := Lib.hid x1
  clear h1 h2 x1
  go_wp2_with fail
  go_loopg [5] x.h.length (fun g ii wr => ∃ (n : Nat) (y : ExtOf W1), ii = .int .i64 (n : Int) ∧ n + g = x.h.length ∧ wr = y.val)
  case atStart => exact ⟨0, ⟨W1, Ext.refl _⟩, rfl, by omega, rfl⟩
  case round =>
    obtain ⟨n, y, rfl, hg, rfl⟩ := hrel
    by_cases hlt : n < x.h.length
    · obtain ⟨g, off, rfl, hgl, hcell⟩ := HV.out (by omega)
      obtain ⟨g', off', rfl, hgl', hcell'⟩ := HV'.out (by omega)
      have hgl := hgl (by omega)
      have hgl' := hgl' (by omega)
      obtain ⟨z, hx⟩ : ∃ z, x.h[n]? = some z := ⟨_, List.getElem?_eq_getElem hlt⟩
      obtain ⟨q0, q1, q2, q3, q4⟩ := lt_cellsO (fun j u hj => cell_keep (hcell j u hj) X1.out) hx
      obtain ⟨r0, r1, r2, r3, r4⟩ := lt_cellsO (fun j u hj => cell_keep (hcell' j u hj) X1.out) hx
      have hgl1 : g < W1.heap.size := Nat.lt_of_lt_of_le hgl X1.out.size
      have hgl2 : g' < W1.heap.size := Nat.lt_of_lt_of_le hgl' X1.out.size
      have hlt' : (n : Int) < (x.h.length : Int) := by omega
      have hH := fun w' (hw : Ext w w') => rf_heard x (.slice (some ⟨g, off, none⟩) x.h.length cap) z w' (HR.out.ext hw)
      have hH' := fun w' (hw : Ext w w') => rf_heard x (.slice (some ⟨g', off', none⟩) x.h.length cap') z w' (HR'.out.ext hw)
      rw [decide_eq_true (mem_of_get hx)] at hH hH'
      have HH := Lib.hid hH
      have HH' := Lib.hid hH'
      clear hx hcell hgl hcell' hgl' hH hH'
      go_wp2_with fail
      refine wp_region_ext (by kernel_rfl) (by kernel_rfl) ?_
      (go_big_quiet_want; refine quiet_load_row 36 _ rfl _ rfl _ _ (0, 0) _ (HX2.out.ext y.ext) Try.underlying36 rfl info_ex ?_; go_big_quiet_on; simp only [Act.put, List.setIfInBounds_toArray, List.set_cons_succ, List.set_cons_zero])
      iterate 5 (go_big_quiet_step (fail))
      go_big_quiet_step ((go_at_call 12; exact calls_ext (HH'.out _ ((X1.out.val y).val _))))
      iterate 2 (go_big_quiet_step (fail))
      (go_big_quiet_want; refine quiet_load_row 36 _ rfl _ rfl _ _ (0, 0) _ (HX1.out.ext y.ext) Try.underlying36 rfl info_ex ?_; go_big_quiet_on; simp only [Act.put, List.setIfInBounds_toArray, List.set_cons_succ, List.set_cons_zero])
      repeat (go_big_quiet_step ((go_at_call 12; exact calls_ext (HH.out _ ((X1.out.val y).val _)))))
      refine wpQuiet_nil ?_
      intro _ hx'
      obtain ⟨z', rfl⟩ := hx'
      go_wp2_with fail
      go_roundg (gk - 1)
      case rel => exact ⟨n + 1, ⟨z'.val, y.ext.val z'⟩, rfl, by omega, rfl⟩
      case measure => omega
    · have hge : (x.h.length : Int) ≤ (n : Int) := by omega
      go_wp2_with fail
      go_ret
      exact ⟨rfl, X1.out.val y⟩
end Go.Proofs.Ytodnfbfhdloogaa
