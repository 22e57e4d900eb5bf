/-
  Walk: the document's wheel: Set, After, Cancel, Move. No condition.
-/
import Derived.Test.YtibdplfdmncgiaaMC17
import Derived.IntWalk
import Derived.Sort.Grow
import Derived.Lib.QuietBelow
import Derived.Maps.RangeWalk
import Derived.Sort.OwnSortedInts
import Derived.Shelf.SlSortCmp.Kit1
import Derived.Shelf.SlSortCmp.Whole1
import Derived.Ground.SlsfProg
set_option linter.all false
namespace Go.Proofs.Ytibdplfdmncgiaa
open Go.RowKit
attribute [local go_sem] ExtOf.cell ExtOf.frozen ExtOf.lt ExtOf.le
attribute [local go_sem high] ExtOf.cell2 ExtOf.frozen2 ExtOf.lt2 ExtOf.cell3 ExtOf.frozen3 ExtOf.lt3 ExtOf.cellX ExtOf.frozenX ExtOf.cellX' ExtOf.frozenX'

theorem Keeps.trans2 {X Y : List Nat} {a b c : World} (h : Keeps X a b) (k : Keeps Y b c) (hy : ∀ g ∈ Y, g ∈ X ∨ a.heap.size ≤ g) : Keeps X a c :=
  ⟨k.os.trans h.os, k.tape.trans h.tape, k.output.trans h.output, Nat.le_trans h.size k.size, fun i hi hx =>
    (k.block i (Nat.lt_of_lt_of_le hi h.size) fun e => by
      rcases hy i e with h1 | h1
      · exact hx h1
      · omega).trans (h.block i hi hx)⟩

theorem put_ins {R : Rw} (hs : R.L.Pairwise (fun x y => x.a ≤ y.a)) (t : Tr) : upR R.L.length (R.L ++ [t]) = insR t R.L := by
  rw [upR_ok R.L.length R.L t [] rfl hs, List.append_nil]

theorem insR_len (t : Tr) : ∀ L : List Tr, (insR t L).length = L.length + 1
  | [] => rfl
  | y :: L => by
    unfold insR
    split
    · rw [List.length_cons, insR_len t L]; rfl
    · rfl

set_option maxRecDepth 100000 in
set_option maxHeartbeats 8000000 in
theorem ref_set (b B : Nat) (v : Value) (R : Rw) (at_ : Int) (s : ByteArray) (w : World) (hW : RefW b B v R w) (hB : b < B) (hBw : B ≤ w.heap.size) (hL : R.L.length ≤ 100000) (hs : R.L.Pairwise (fun x y => x.a ≤ y.a)) (hn : 0 ≤ R.next ∧ R.next ≤ 100000) :
    Calls Try.prog 48 #[.pointer (some ⟨b, 0, none⟩), .int .i64 at_, .string s] w (RefTo b B v (setR R at_ s).2 (numV (setR R at_ s).1) w) := by
  obtain ⟨now, next, L⟩ := R
  have HW := Lib.hid hW
  obtain ⟨hb, hown⟩ := hW
  simp only at hb hown hL hs hn ⊢
  obtain ⟨a, cap, rfl, hm, _⟩ := row_view hown.row
  have lb : b < w.heap.size := (Array.getElem?_eq_some_iff.1 hb).1
  have hcb := fun j => cell_of_row w _ j _ _ _ hb
  obtain ⟨n0, n1⟩ := hn
  have HS := Lib.hid hs
  clear hb hown hm hs
  by_cases h1 : at_ ≤ now
  · have hr : setR ⟨now, next, L⟩ at_ s = ((0, 140), ⟨now, next, L⟩) := by unfold setR; rw [if_pos h1]
    rw [hr]
    go_enter Try.func48, Try.ntmps48
    go_wp2_with fail
    go_ret2
    exact ⟨rfl, _, HW.out, Keeps.refl _ _, fun q hq => .inl hq⟩
  · have h1' : now < at_ := by omega
    by_cases h2 : 4096 ≤ (L.length : Int)
    · have hr : setR ⟨now, next, L⟩ at_ s = ((0, 6), ⟨now, next, L⟩) := by unfold setR; rw [if_neg h1, if_pos h2]
      rw [hr]
      clear hr h1
      go_enter Try.func48, Try.ntmps48
      go_wp2_with fail
      go_ret2
      exact ⟨rfl, _, HW.out, Keeps.refl _ _, fun q hq => .inl hq⟩
    · have h2' : (L.length : Int) < 4096 := by omega
      have hr : setR ⟨now, next, L⟩ at_ s = ((next, 0), ⟨now, next + 1, insR ⟨next, at_, s⟩ L⟩) := by unfold setR; rw [if_neg h1, if_neg h2]
      rw [hr]
      clear hr h1 h2
      go_enter Try.func48, Try.ntmps48
      go_wp2_with fail
      refine (ref_put b B _ ⟨now, next, L⟩ ⟨next, at_, s⟩ w HW.out hB hBw hL).mono ?_
      rintro e w2 ⟨rfl, v', hW2, hk2, hr2⟩
      simp only at hW2
      rw [put_ins (R := ⟨now, next, L⟩) HS.out] at hW2
      obtain ⟨hb2, ho2⟩ := hW2
      have lb2 : b < w2.heap.size := (Array.getElem?_eq_some_iff.1 hb2).1
      have hcb2 := fun j => cell_of_row w2 _ j _ _ _ hb2
      have hfb2 := fun j => frozen_of_row w2 _ j _ _ hb2
      have HB2 := Lib.hid hb2
      have HO2 := Lib.hid ho2
      have HK2 := Lib.hid hk2
      have HR2 := Lib.hid hr2
      clear hcb lb hb2 ho2 hk2 hr2
      go_upto_region 7 with fail
      have hb3 := setCell_row (o := 1) HB2.out (.int .i64 (next + 1))
      have o3 := HO2.out.same (w' := w2.setCell ⟨b, 1, none⟩ (.int .i64 (next + 1))) (fun k hk _ => cell_other (show k ≠ b by omega))
      have k3 := HK2.out.setCell (g := b) (.inl (.head _)) 1 (.int .i64 (next + 1))
      generalize w2.setCell ⟨b, 1, none⟩ (.int .i64 (next + 1)) = w3 at hb3 o3 k3 ⊢
      have hb3' : w3.heap[b]? = some (.cells #[.int .i64 now, .int .i64 (next + 1), v'] 56 (0, 0)) := by simpa using hb3
      have lb3 : b < w3.heap.size := (Array.getElem?_eq_some_iff.1 hb3').1
      have hcb3 := fun j => cell_of_row w3 _ j _ _ _ hb3'
      have HB3 := Lib.hid hb3'
      have HO3 := Lib.hid o3
      have HK3 := Lib.hid k3
      clear hcb2 hfb2 lb2 hb3 hb3' o3 k3
      have e1 : next + 1 - 1 = next := by omega
      go_wp2_with fail
      go_ret2
      exact ⟨by first | rfl | (rw [e1]; rfl), v', ⟨HB3.out, HO3.out⟩, HK3.out, HR2.out⟩

set_option maxRecDepth 100000 in
set_option maxHeartbeats 8000000 in
theorem ref_after (b B : Nat) (v : Value) (R : Rw) (n : Int) (s : ByteArray) (w : World) (hW : RefW b B v R w) (hB : b < B) (hBw : B ≤ w.heap.size) (hL : R.L.length ≤ 100000) (hs : R.L.Pairwise (fun x y => x.a ≤ y.a)) (hn : 0 ≤ R.next ∧ R.next ≤ 100000)
    (h0 : 0 ≤ R.now) (h9 : R.now ≤ 9223372036854775807) : Calls Try.prog 34 #[.pointer (some ⟨b, 0, none⟩), .int .i64 n, .string s] w (RefTo b B v (afterR R n s).2 (numV (afterR R n s).1) w) := by
  have HW := Lib.hid hW
  have lb : b < w.heap.size := (Array.getElem?_eq_some_iff.1 hW.1).1
  have hcb := fun j => cell_of_row w _ j _ _ _ hW.1
  have HS := Lib.hid hs
  have HN := Lib.hid hn
  clear hW hs hn
  have w1 : IntKind.i64.wrap (9223372036854775807 - R.now) = 9223372036854775807 - R.now := IntWalk.i64_in _ (by omega)
  by_cases h1 : n < 1
  · have hr : afterR R n s = ((0, 2), R) := by unfold afterR; rw [if_pos (.inl h1)]
    rw [hr]
    clear hr
    go_enter Try.func34, Try.ntmps34
    go_wp2_with fail
    go_ret2
    exact ⟨rfl, _, HW.out, Keeps.refl _ _, fun q hq => .inl hq⟩
  · have h1' : 1 ≤ n := by omega
    by_cases h2 : 9223372036854775807 - R.now < n
    · have hr : afterR R n s = ((0, 2), R) := by unfold afterR; rw [if_pos (.inr h2)]
      rw [hr]
      clear hr h1
      go_enter Try.func34, Try.ntmps34
      go_wp2_with fail
      go_ret2
      exact ⟨rfl, _, HW.out, Keeps.refl _ _, fun q hq => .inl hq⟩
    · have h2' : n ≤ 9223372036854775807 - R.now := by omega
      have hr : afterR R n s = setR R (R.now + n) s := by unfold afterR; rw [if_neg (by omega)]
      rw [hr]
      have w2 : IntKind.i64.wrap (R.now + n) = R.now + n := IntWalk.i64_in _ (by omega)
      have hS := ref_set b B v R (R.now + n) s w HW.out hB hBw hL HS.out HN.out
      generalize setR R (R.now + n) s = r at hS ⊢
      obtain ⟨⟨x, y⟩, R2⟩ := r
      simp only [numV] at hS ⊢
      clear hr h1 h2
      go_enter Try.func34, Try.ntmps34
      go_wp2_with fail
      refine hS.mono ?_
      rintro e w3 ⟨rfl, v', hW3, hk3, hr3⟩
      have HW3 := Lib.hid hW3
      have HK3 := Lib.hid hk3
      have HR3 := Lib.hid hr3
      clear hW3 hk3 hr3 hcb lb
      go_wp2_with fail
      go_ret2
      exact ⟨rfl, v', HW3.out, HK3.out, HR3.out⟩

theorem field2_tr (x y : Int) (z : ByteArray) (w : World) : (Instr.field 72 (.agg #[.int .i64 x, .int .i64 y, .string z]) 2).run Try.prog w = .ok (.string z) w := by kernel_rfl
attribute [local go_sem] field2_tr

/-- What the document's Cancel answers. -/
def cancelR (R : Rw) (k : Int) : Value × Rw := match findR R.L k with
  | none => (.tuple #[.string { data := #[] }, .bool false], R)
  | some i => match R.L[i]? with
    | none => (.tuple #[.string { data := #[] }, .bool false], R)
    | some t => (.tuple #[.string t.v, .bool true], { R with L := R.L.eraseIdx i })
theorem find_lt {L : List Tr} {k : Int} {i : Nat} (h : findR L k = some i) : i < L.length := by
  unfold findR at h
  exact (List.findIdx?_eq_some_iff_getElem.1 h).1

set_option maxRecDepth 100000 in
set_option maxHeartbeats 8000000 in
theorem ref_cancel (b B : Nat) (v : Value) (R : Rw) (k : Int) (w : World) (hW : RefW b B v R w) (hBw : B ≤ w.heap.size) (hL : R.L.length ≤ 100000) :
    Calls Try.prog 50 #[.pointer (some ⟨b, 0, none⟩), .int .i64 k] w (RefTo b B v (cancelR R k).2 (cancelR R k).1 w) := by
  have HW := Lib.hid hW
  have hF := ref_find b B v R k w hW
  clear hW
  cases hf : findR R.L k with
  | none =>
    have hr : cancelR R k = (.tuple #[.string { data := #[] }, .bool false], R) := by unfold cancelR; rw [hf]
    have hi : findI R.L k = -1 := by unfold findI; rw [hf]
    rw [hr]
    rw [hi] at hF
    clear hr hi hf
    go_enter Try.func50, Try.ntmps50
    go_wp2_with fail
    refine hF.mono ?_
    rintro e w1 ⟨rfl, rfl⟩
    go_wp2_with fail
    go_ret2
    exact ⟨rfl, _, HW.out, Keeps.refl _ _, fun q hq => .inl hq⟩
  | some i =>
    have hlt := find_lt hf
    obtain ⟨t, ht⟩ : ∃ t, R.L[i]? = some t := ⟨_, List.getElem?_eq_getElem hlt⟩
    have hr : cancelR R k = (.tuple #[.string t.v, .bool true], { R with L := R.L.eraseIdx i }) := by unfold cancelR; rw [hf]; simp only [ht]
    have hi : findI R.L k = i := by unfold findI; rw [hf]
    rw [hr]
    rw [hi] at hF
    have HT := Lib.hid ht
    clear hr hi hf hlt ht
    have i0 : (0 : Int) ≤ (i : Int) := by omega
    go_enter Try.func50, Try.ntmps50
    go_wp2_with fail
    refine hF.mono ?_
    rintro e w1 ⟨rfl, rfl⟩
    go_wp2_with fail
    refine (ref_take b B v R i t _ HW.out hBw hL HT.out).mono ?_
    rintro e w2 ⟨rfl, v', hW2, hk2, hr2⟩
    have HW2 := Lib.hid hW2
    have HK2 := Lib.hid hk2
    have HR2 := Lib.hid hr2
    clear hW2 hk2 hr2
    go_wp2_with fail
    go_ret2
    exact ⟨rfl, v', HW2.out, HK2.out, fun g hg => .inr (HR2.out g hg)⟩

set_option maxRecDepth 100000 in
set_option maxHeartbeats 8000000 in
theorem ref_move (b B : Nat) (v : Value) (R : Rw) (k at_ : Int) (w : World) (hW : RefW b B v R w) (hB : b < B) (hBw : B ≤ w.heap.size) (hL : R.L.length ≤ 100000) (hs : R.L.Pairwise (fun x y => x.a ≤ y.a)) :
    Calls Try.prog 52 #[.pointer (some ⟨b, 0, none⟩), .int .i64 k, .int .i64 at_] w (RefTo b B v (moveR R k at_).2 (.int .i64 (moveR R k at_).1) w) := by
  have HW := Lib.hid hW
  have lb : b < w.heap.size := (Array.getElem?_eq_some_iff.1 hW.1).1
  have hcb := fun j => cell_of_row w _ j _ _ _ hW.1
  have hF := ref_find b B v R k w hW
  have HS := Lib.hid hs
  clear hW hs
  cases hf : findR R.L k with
  | none =>
    have hr : moveR R k at_ = (7, R) := by unfold moveR; rw [hf]
    have hi : findI R.L k = -1 := by unfold findI; rw [hf]
    rw [hr]
    rw [hi] at hF
    clear hr hi hf
    go_enter Try.func52, Try.ntmps52
    go_wp2_with fail
    refine hF.mono ?_
    rintro e w1 ⟨rfl, rfl⟩
    go_wp2_with fail
    go_ret
    exact ⟨rfl, _, HW.out, Keeps.refl _ _, fun q hq => .inl hq⟩
  | some i =>
    have hlt := find_lt hf
    obtain ⟨t, ht⟩ : ∃ t, R.L[i]? = some t := ⟨_, List.getElem?_eq_getElem hlt⟩
    have hi : findI R.L k = i := by unfold findI; rw [hf]
    rw [hi] at hF
    have i0 : (0 : Int) ≤ (i : Int) := by omega
    by_cases h1 : at_ ≤ R.now
    · have hr : moveR R k at_ = (140, R) := by unfold moveR; rw [hf]; simp only [if_pos h1]
      rw [hr]
      clear hr hi hf hlt ht
      go_enter Try.func52, Try.ntmps52
      go_wp2_with fail
      refine hF.mono ?_
      rintro e w1 ⟨rfl, he⟩
      obtain rfl := he
      go_wp2_with fail
      go_ret
      exact ⟨rfl, _, HW.out, Keeps.refl _ _, fun q hq => .inl hq⟩
    · have h1' : R.now < at_ := by omega
      have hr : moveR R k at_ = (0, { R with L := insR ⟨t.id, at_, t.v⟩ (R.L.eraseIdx i) }) := by unfold moveR; rw [hf]; simp only [if_neg h1, ht]
      rw [hr]
      have HT := Lib.hid ht
      have hle : (R.L.eraseIdx i).length ≤ 100000 := Nat.le_trans (List.length_eraseIdx_le _ _) hL
      clear hr hi hf hlt ht h1
      go_enter Try.func52, Try.ntmps52
      go_wp2_with fail
      refine hF.mono ?_
      rintro e w1 ⟨rfl, he⟩
      obtain rfl := he
      go_wp2_with fail
      refine (ref_take b B v R i t _ HW.out hBw hL HT.out).mono ?_
      rintro e w2 ⟨rfl, v', hW2, hk2, hr2⟩
      have HW2 := Lib.hid hW2
      have HK2 := Lib.hid hk2
      have HR2 := Lib.hid hr2
      clear hW2 hk2 hr2 hcb lb
      go_wp2_with (refine wpList_store_row rfl 72 _ _ rfl w2.heap.size _ rfl rfl 72 _ (heap_new rfl) (info_tr3 _ _ _) rfl (by simp [Value.oneCell']) (unHd ?_))
      have eX : Ext w2 ((w2.alloc (.cells #[.int .i64 0, .int .i64 0, .string { data := #[] }] 72)).setRow w2.heap.size #[.int .i64 t.id, .int .i64 t.a, .string t.v]) := ((Ext.refl w2).alloc _).setRow (Nat.le_refl _) _
      have eT := setRow_heap _ _ _ #[.int .i64 t.id, .int .i64 t.a, .string t.v] _ _ (heap_new (w := w2) (o := .cells #[.int .i64 0, .int .i64 0, .string { data := #[] }] 72) rfl)
      generalize World.setRow _ _ _ = w3 at eX eT ⊢
      have lt3 : w2.heap.size < w3.heap.size := (Array.getElem?_eq_some_iff.1 eT).1
      have hct3 := fun j => cell_of_row w3 _ j _ _ _ eT
      have hft3 := fun j => frozen_of_row w3 _ j _ _ eT
      have HX3 := Lib.hid eX
      have HT3 := Lib.hid eT
      clear eX eT
      unfold Hd2
      go_upto_region 8 with fail
      have eT4 := setCell_row (o := 1) HT3.out (.int .i64 at_)
      have eX4 : Ext w2 (w3.setCell ⟨w2.heap.size, 1, none⟩ (.int .i64 at_)) := HX3.out.setCell (Nat.le_refl _) _
      generalize w3.setCell ⟨w2.heap.size, 1, none⟩ (.int .i64 at_) = w4 at eT4 eX4 ⊢
      have eT4' : w4.heap[w2.heap.size]? = some (.cells #[.int .i64 t.id, .int .i64 at_, .string t.v] 72 (0, 0)) := by simpa using eT4
      have HX4 := Lib.hid eX4
      clear hct3 hft3 lt3 eT4 eX4 HX3 HT3
      go_wp2_with (refine wpList_load_row rfl 72 _ rfl _ rfl _ _ (0, 0) _ eT4' Try.underlying72 rfl (info_tr3 _ _ _) (unHd ?_))
      unfold Hd2
      go_wp2_with fail
      refine (ref_put b B v' ⟨R.now, R.next, R.L.eraseIdx i⟩ ⟨t.id, at_, t.v⟩ w4 (HW2.out.ext HX4.out) hB (Nat.le_trans (Nat.le_trans hBw HK2.out.size) HX4.out.size) hle).mono ?_
      rintro e w5 ⟨rfl, v5, hW5, hk5, hr5⟩
      simp only at hW5
      rw [put_ins (R := ⟨R.now, R.next, R.L.eraseIdx i⟩) (List.Pairwise.sublist (List.eraseIdx_sublist _ _) HS.out)] at hW5
      have HW5 := Lib.hid hW5
      have HK5 := Lib.hid (((HK2.out.ext HX4.out).trans2 hk5 (fun g hg => by
        rcases List.mem_cons.1 hg with rfl | hg
        · exact .inl (.head _)
        · exact .inr (HR2.out g hg))))
      have HR5 : Hid (∀ g ∈ rowB v5, g ∈ rowB v ∨ _) := Lib.hid (fun g hg => .inr (by
        rcases hr5 g hg with h | h
        · exact HR2.out g h
        · exact Nat.le_trans (HK2.out.ext HX4.out).size h))
      clear hW5 hk5 hr5 eT4'
      go_wp2_with fail
      go_ret
      exact ⟨rfl, v5, HW5.out, HK5.out, HR5.out⟩
end Go.Proofs.Ytibdplfdmncgiaa

/-
  Walk: the wheel's After and Move. No condition.
-/
namespace Go.Proofs.Ytibdplfdmncgiaa
open Go.RowKit
attribute [local go_sem] ExtOf.cell ExtOf.frozen ExtOf.lt ExtOf.le
attribute [local go_sem high] ExtOf.cell2 ExtOf.frozen2 ExtOf.lt2 ExtOf.cell3 ExtOf.frozen3 ExtOf.lt3 ExtOf.cellX ExtOf.frozenX ExtOf.cellX' ExtOf.frozenX'

set_option maxRecDepth 100000 in
set_option maxHeartbeats 8000000 in
theorem after_string (p : At) (v : Value) (W : Wh) (n : Int) (s : ByteArray) (w : World) (hW : WheelW 101 47 p v W w) (hB : p.B ≤ w.heap.size) (hL : W.L.length ≤ 100000) (hm : 0 ≤ W.m ∧ W.m ≤ 100000) (ho : 0 ≤ W.ord ∧ W.ord ≤ 100000) (hi : 0 ≤ W.ids ∧ W.ids ≤ 100000)
    (h0 : 0 ≤ W.now) (h9 : W.now ≤ 9223372036854775807) : Calls Try.prog 31 #[.pointer (some ⟨p.bW, 0, none⟩), .int .i64 n, .string s] w (LaidW 101 47 p v (afterW W n s).2 (numV (afterW W n s).1) w) := by
  have HW := Lib.hid hW
  have lb : p.bW < w.heap.size := (Array.getElem?_eq_some_iff.1 hW.1).1
  have hcb := fun j => cell_of_row w _ j _ _ _ hW.1
  have HM := Lib.hid hm
  have HO := Lib.hid ho
  have HI := Lib.hid hi
  clear hW hm ho hi
  have w1 : IntKind.i64.wrap (9223372036854775807 - W.now) = 9223372036854775807 - W.now := IntWalk.i64_in _ (by omega)
  by_cases h1 : n < 1
  · have hr : afterW W n s = ((0, 2), W) := by unfold afterW; rw [if_pos (.inl h1)]
    rw [hr]
    clear hr
    go_enter Try.func31, Try.ntmps31
    go_wp2_with fail
    go_ret2
    exact ⟨rfl, _, HW.out, Keeps.refl _ _, fun q hq => .inl hq⟩
  · have h1' : 1 ≤ n := by omega
    by_cases h2 : 9223372036854775807 - W.now < n
    · have hr : afterW W n s = ((0, 2), W) := by unfold afterW; rw [if_pos (.inr h2)]
      rw [hr]
      clear hr h1
      go_enter Try.func31, Try.ntmps31
      go_wp2_with fail
      go_ret2
      exact ⟨rfl, _, HW.out, Keeps.refl _ _, fun q hq => .inl hq⟩
    · have h2' : n ≤ 9223372036854775807 - W.now := by omega
      have hr : afterW W n s = setW W (W.now + n) s := by unfold afterW; rw [if_neg (by omega)]
      rw [hr]
      have w2 : IntKind.i64.wrap (W.now + n) = W.now + n := IntWalk.i64_in _ (by omega)
      have hS := set_string p v W (W.now + n) s w HW.out hB hL HM.out HO.out HI.out
      generalize setW W (W.now + n) s = r at hS ⊢
      obtain ⟨⟨x, y⟩, W2⟩ := r
      simp only [numV] at hS ⊢
      clear hr h1 h2
      go_enter Try.func31, Try.ntmps31
      go_wp2_with fail
      refine hS.mono ?_
      rintro e w3 ⟨rfl, v', hW3, hk3, hr3⟩
      have HW3 := Lib.hid hW3
      have HK3 := Lib.hid hk3
      have HR3 := Lib.hid hr3
      clear hW3 hk3 hr3 hcb lb
      go_wp2_with fail
      go_ret2
      exact ⟨rfl, v', HW3.out, HK3.out, HR3.out⟩

set_option maxRecDepth 100000 in
set_option maxHeartbeats 8000000 in
theorem move_string (p : At) (v : Value) (W : Wh) (k at_ : Int) (w : World) (hW : WheelW 101 47 p v W w) (hB : p.B ≤ w.heap.size) (hL : W.L.length ≤ 100000) (hm : 0 ≤ W.m ∧ W.m ≤ 100000) (ho : 0 ≤ W.ord ∧ W.ord ≤ 100000) :
    Calls Try.prog 51 #[.pointer (some ⟨p.bW, 0, none⟩), .int .i64 k, .int .i64 at_] w (LaidW 101 47 p v (moveW W k at_).2 (.int .i64 (moveW W k at_).1) w) := by
  have HW := Lib.hid hW
  have lb : p.bW < w.heap.size := (Array.getElem?_eq_some_iff.1 hW.1).1
  have hcb := fun j => cell_of_row w _ j _ _ _ hW.1
  have hlk : (Instr.lookup 98 (.map (some p.bM)) (.int .i64 k) true).run Try.prog w = .ok (lookV W.S k true) w := run_lookup Try.underlying98 Try.underlying3 zero_string hW.2.1 k true
  have HM := Lib.hid hm
  have HO := Lib.hid ho
  clear hW hm ho
  rcases hg : getT W.S k with _ | t
  · have hr : moveW W k at_ = (7, W) := by unfold moveW; rw [hg]
    rw [show lookV W.S k true = .tuple #[.agg #[.int .i64 0, .int .i64 0, .string { data := #[] }], .bool false] by simp only [lookV, hg]] at hlk
    rw [hr]
    clear hr hg
    go_enter Try.func51, Try.ntmps51
    go_wp2_with (refine wpList_store_row rfl 112 _ _ rfl w.heap.size _ rfl rfl 112 _ (heap_new rfl) (info_tm_string _ _ _) rfl (by simp [Value.oneCell']) (unHd ?_))
    have eX : Ext w ((w.alloc (.cells #[.int .i64 0, .int .i64 0, .string { data := #[] }] 112)).setRow w.heap.size #[.int .i64 0, .int .i64 0, .string { data := #[] }]) := ((Ext.refl w).alloc _).setRow (Nat.le_refl _) _
    generalize World.setRow _ _ _ = w2 at eX ⊢
    have HX2 := Lib.hid eX
    clear hlk hcb lb eX
    unfold Hd2
    go_wp2_with fail
    go_ret
    exact ⟨rfl, v, HW.out.ext HX2.out, (Keeps.refl _ _).ext HX2.out, fun q hq => .inl hq⟩
  · rw [show lookV W.S k true = .tuple #[.agg #[.int .i64 t.a, .int .i64 t.o, .string t.v], .bool true] by simp only [lookV, hg]; rfl] at hlk
    by_cases h1 : at_ ≤ W.now
    · have hr : moveW W k at_ = (140, W) := by unfold moveW; rw [hg]; simp only [if_pos h1]
      rw [hr]
      clear hr hg
      go_enter Try.func51, Try.ntmps51
      go_wp2_with (refine wpList_store_row rfl 112 _ _ rfl w.heap.size _ rfl rfl 112 _ (heap_new rfl) (info_tm_string _ _ _) rfl (by simp [Value.oneCell']) (unHd ?_))
      have eX : Ext w ((w.alloc (.cells #[.int .i64 0, .int .i64 0, .string { data := #[] }] 112)).setRow w.heap.size #[.int .i64 t.a, .int .i64 t.o, .string t.v]) := ((Ext.refl w).alloc _).setRow (Nat.le_refl _) _
      generalize World.setRow _ _ _ = w2 at eX ⊢
      have HX2 := Lib.hid eX
      have lb2 : p.bW < w2.heap.size := Nat.lt_of_lt_of_le lb eX.size
      have hcb2 := fun j => cell_of_row w2 _ j _ _ _ (heap_ext HW.out.1 eX)
      clear hlk hcb lb eX
      unfold Hd2
      go_wp2_with fail
      go_ret
      exact ⟨rfl, v, HW.out.ext HX2.out, (Keeps.refl _ _).ext HX2.out, fun q hq => .inl hq⟩
    · have h1' : W.now < at_ := by omega
      have hr : moveW W k at_ = (0, laidW W k at_ t.v) := by unfold moveW; rw [hg]; simp only [if_neg h1]
      rw [hr]
      clear hr hg h1
      go_enter Try.func51, Try.ntmps51
      go_wp2_with (refine wpList_store_row rfl 112 _ _ rfl w.heap.size _ rfl rfl 112 _ (heap_new rfl) (info_tm_string _ _ _) rfl (by simp [Value.oneCell']) (unHd ?_))
      have eX : Ext w ((w.alloc (.cells #[.int .i64 0, .int .i64 0, .string { data := #[] }] 112)).setRow w.heap.size #[.int .i64 t.a, .int .i64 t.o, .string t.v]) := ((Ext.refl w).alloc _).setRow (Nat.le_refl _) _
      have eT := setRow_heap _ _ _ #[.int .i64 t.a, .int .i64 t.o, .string t.v] _ _ (heap_new (w := w) (o := .cells #[.int .i64 0, .int .i64 0, .string { data := #[] }] 112) rfl)
      generalize World.setRow _ _ _ = w2 at eX eT ⊢
      have HX2 := Lib.hid eX
      have lb2 : p.bW < w2.heap.size := Nat.lt_of_lt_of_le lb eX.size
      have hcb2 := fun j => cell_of_row w2 _ j _ _ _ (heap_ext HW.out.1 eX)
      have hct := fun j => cell_of_row w2 _ j _ _ _ eT
      have lt2 : w.heap.size < w2.heap.size := (Array.getElem?_eq_some_iff.1 eT).1
      clear hlk hcb lb eX eT
      unfold Hd2
      go_wp2_with fail
      refine (lay_string p v W k at_ t.v w2 (HW.out.ext HX2.out) (Nat.le_trans hB HX2.out.size) hL HM.out HO.out).mono ?_
      rintro e w3 ⟨rfl, v', hW3, hk3, hr3⟩
      have HW3 := Lib.hid hW3
      have HK3 := Lib.hid (((Keeps.refl (p.all v) w).ext HX2.out).trans hk3)
      have HR3 : Hid (∀ q ∈ rowB v', q ∈ rowB v ∨ w.heap.size ≤ q) := Lib.hid fun q hq => (hr3 q hq).imp id (fun h => Nat.le_trans HX2.out.size h)
      clear hW3 hk3 hr3 hcb2 lb2 hct lt2
      go_wp2_with fail
      go_ret
      exact ⟨rfl, v', HW3.out, HK3.out, HR3.out⟩
end Go.Proofs.Ytibdplfdmncgiaa

/-
  Walk: the order in which the timers' numbers are sorted. No condition.
-/
namespace Go.Proofs.Ytibdplfdmncgiaa
open Go.RowKit
attribute [local go_sem] ExtOf.cell ExtOf.frozen ExtOf.lt ExtOf.le
attribute [local go_sem high] ExtOf.cell2 ExtOf.frozen2 ExtOf.lt2 ExtOf.cell3 ExtOf.frozen3 ExtOf.lt3 ExtOf.cellX ExtOf.frozenX ExtOf.cellX' ExtOf.frozenX'

/-- The timer of a number; nought if it is not set. -/
def tmZ (S : List Tm) (k : Int) : Tm := (getT S k).getD ⟨k, 0, 0, { data := #[] }⟩
theorem look_tmZ (S : List Tm) (k : Int) : lookV S k false = .agg #[.int .i64 (tmZ S k).a, .int .i64 (tmZ S k).o, .string (tmZ S k).v] := by
  unfold lookV tmZ
  cases getT S k <;> rfl

/-- How two numbers are compared. -/
def cmpT (S : List Tm) (a b : Int) : Int :=
  if (tmZ S a).a = (tmZ S b).a then (tmZ S a).o - (tmZ S b).o else if (tmZ S a).a < (tmZ S b).a then -1 else 1

/-- A world that is w after some draws, with blocks laid behind it. -/
def Grown (w w' : World) : Prop := ∃ (q : Nat) (os : Array Obj), w' = Sort.grow (w.drewN q) os
theorem grown_of {w w' : World} (h : Ext w w') (hd : w.drawn ≤ w'.drawn) : Grown w w' := by
  obtain ⟨p, hp⟩ := regrown_of_below h
  have e : w'.drawn = p.d := by rw [hp]; rfl
  refine ⟨w'.drawn - w.drawn, p.os, ?_⟩
  rw [hp]
  have e2 : w.drawn + (w'.drawn - w.drawn) = p.d := by omega
  rw [← hp]
  unfold World.drewN
  rw [e2]
  exact hp

set_option maxRecDepth 100000 in
set_option maxHeartbeats 8000000 in
theorem row_cmp (bB bW bM : Nat) (S : List Tm) (now ids ord : Int) (x3 x4 x5 : Value) (a b : Int) (w : World) (hbx : w.heap[bB]? = some (.cells #[.pointer (some ⟨bW, 0, none⟩)] 51 (0, 0)))
    (hb : w.heap[bW]? = some (.cells #[.int .i64 now, .int .i64 ids, .int .i64 ord, .map (some bM), x4, x5] 101 (0, 0))) (hM : MapW bM S w) (ho : ∀ k, 0 ≤ (tmZ S k).o ∧ (tmZ S k).o ≤ 100000) :
    Calls Try.prog 70 #[.int .i64 a, .int .i64 b, .pointer (some ⟨bB, 0, none⟩)] w fun e w' => e = .returned (.int .i64 (cmpT S a b)) ∧ Grown w w' := by
  have lb : bW < w.heap.size := (Array.getElem?_eq_some_iff.1 hb).1
  have lx : bB < w.heap.size := (Array.getElem?_eq_some_iff.1 hbx).1
  have hcb := fun j => cell_of_row w _ j _ _ _ hb
  have hcx := fun j => cell_of_row w _ j _ _ _ hbx
  have HM := Lib.hid hM
  obtain ⟨xa, hxa⟩ : ∃ x, x = tmZ S a := ⟨_, rfl⟩
  obtain ⟨xb, hxb⟩ : ∃ x, x = tmZ S b := ⟨_, rfl⟩
  have key : ∀ (k : Int) (W : World), Ext w W → (Instr.lookup 98 (.map (some bM)) (.int .i64 k) false).run Try.prog W = .ok (.agg #[.int .i64 (tmZ S k).a, .int .i64 (tmZ S k).o, .string (tmZ S k).v]) W := fun k W e => by
    rw [← look_tmZ]
    exact run_lookup Try.underlying98 Try.underlying3 zero_string (HM.out.ext e) k false
  have w1 : IntKind.i64.wrap (xa.o - xb.o) = xa.o - xb.o := by
    have a1 := ho a
    have b1 := ho b
    rw [← hxa] at a1
    rw [← hxb] at b1
    exact IntWalk.i64_in _ (by omega)
  have ha0 := key a _ (show Ext w (w.drew) from (Ext.refl w).drew)
  have hb0 := key b _ (show Ext w (w.drew) from (Ext.refl w).drew)
  have ha1 := key a _ (show Ext w ((w.alloc (.cells #[.int .i64 0, .int .i64 0, .string { data := #[] }] 112)).drew) from ((Ext.refl w).alloc _).drew)
  have hb1 := key b _ (show Ext w ((w.alloc (.cells #[.int .i64 0, .int .i64 0, .string { data := #[] }] 112)).drew) from ((Ext.refl w).alloc _).drew)
  have ha2 := key a _ (show Ext w (((w.alloc (.cells #[.int .i64 0, .int .i64 0, .string { data := #[] }] 112)).alloc (.cells #[.int .i64 0, .int .i64 0, .string { data := #[] }] 112)).drew) from (((Ext.refl w).alloc _).alloc _).drew)
  have hb2 := key b _ (show Ext w (((w.alloc (.cells #[.int .i64 0, .int .i64 0, .string { data := #[] }] 112)).alloc (.cells #[.int .i64 0, .int .i64 0, .string { data := #[] }] 112)).drew) from (((Ext.refl w).alloc _).alloc _).drew)
  have hb3 := key b _ (show Ext w (((w.alloc (.cells #[.int .i64 xa.a, .int .i64 xa.o, .string xa.v] 112)).alloc (.cells #[.int .i64 0, .int .i64 0, .string { data := #[] }] 112)).drew) from (((Ext.refl w).alloc _).alloc _).drew)
  have hb4 := key b _ (show Ext w (((w.alloc (.cells #[.int .i64 0, .int .i64 0, .string { data := #[] }] 112)).alloc (.cells #[.int .i64 xa.a, .int .i64 xa.o, .string xa.v] 112)).drew) from (((Ext.refl w).alloc _).alloc _).drew)
  have hb5 := key b _ (show Ext w ((w.alloc (.cells #[.int .i64 xa.a, .int .i64 xa.o, .string xa.v] 112)).drew) from ((Ext.refl w).alloc _).drew)
  rw [← hxa] at ha0 ha1 ha2
  rw [← hxb] at hb0 hb1 hb2 hb3 hb4 hb5
  clear key ho
  have HC : Hid (cmpT S a b = if xa.a = xb.a then xa.o - xb.o else if xa.a < xb.a then -1 else 1) := Lib.hid (by rw [hxa, hxb]; rfl)
  clear hb hbx hM hxa hxb
  go_enter Try.func70, Try.ntmps70
  go_upto_region 1 with fail
  go_cut [6, 7] (fun u v wx => ∃ p q : Nat, u = .pointer (some ⟨p, 0, none⟩) ∧ v = .pointer (some ⟨q, 0, none⟩) ∧ wx.heap[p]? = some (.cells #[.int .i64 xa.a, .int .i64 xa.o, .string xa.v] 112 (0, 0)) ∧ wx.heap[q]? = some (.cells #[.int .i64 xb.a, .int .i64 xb.o, .string xb.v] 112 (0, 0)) ∧ Hid (Ext w wx ∧ w.drawn ≤ wx.drawn))
  case first =>
    go_region
    all_goals go_wp2_with fail
    all_goals go_meet
    all_goals first
      | exact ⟨_, _, rfl, rfl, heap_ext (heap_new rfl) ((Ext.refl _).alloc _).drew, heap_ext (heap_new (by simp)) (Ext.refl _).drew, Lib.hid ⟨(((Ext.refl _).alloc _).alloc _).drew, by simp⟩⟩
      | exact ⟨_, _, rfl, rfl, heap_ext (heap_new (by simp)) (Ext.refl _).drew, heap_ext (heap_new rfl) ((Ext.refl _).alloc _).drew, Lib.hid ⟨(((Ext.refl _).alloc _).alloc _).drew, by simp⟩⟩
  case rest =>
    obtain ⟨p, q, rfl, rfl, hp, hq, HX⟩ := hcut
    have hcp := fun j => cell_of_row wc _ j _ _ _ hp
    have hcq := fun j => cell_of_row wc _ j _ _ _ hq
    have lp : p < wc.heap.size := (Array.getElem?_eq_some_iff.1 hp).1
    have lq : q < wc.heap.size := (Array.getElem?_eq_some_iff.1 hq).1
    clear hp hq hcb hcx lb lx ha0 ha1 ha2 hb0 hb1 hb2 hb3 hb4 hb5 HM
    by_cases e1 : xa.a = xb.a
    · have HC2 := Lib.hid (HC.out.trans (if_pos e1))
      have e1' : (xa.a == xb.a) = true := by simp [e1]
      have HE := Lib.hid e1
      clear HC e1
      go_wp2_with fail
      go_ret
      exact ⟨by rw [HC2.out]; rfl, grown_of HX.out.1 HX.out.2⟩
    · by_cases e2 : xa.a < xb.a
      · have HC2 := Lib.hid (HC.out.trans ((if_neg e1).trans (if_pos e2)))
        have e1' : (xa.a == xb.a) = false := by simp [e1]
        clear HC e1
        go_wp2_with fail
        go_ret
        exact ⟨by rw [HC2.out]; rfl, grown_of HX.out.1 HX.out.2⟩
      · have HC2 := Lib.hid (HC.out.trans ((if_neg e1).trans (if_neg e2)))
        have e1' : (xa.a == xb.a) = false := by simp [e1]
        clear HC e1
        go_wp2_with fail
        go_ret
        exact ⟨by rw [HC2.out]; rfl, grown_of HX.out.1 HX.out.2⟩
end Go.Proofs.Ytibdplfdmncgiaa

/-
  Walk: the numbers of all timers, in the order in which they fall due. Condition: what slices.SortFunc does (SortC).
-/
namespace Go.Proofs.Ytibdplfdmncgiaa
open Go.RowKit
attribute [local go_sem] ExtOf.cell ExtOf.frozen ExtOf.lt ExtOf.le
attribute [local go_sem high] ExtOf.cell2 ExtOf.frozen2 ExtOf.lt2 ExtOf.cell3 ExtOf.frozen3 ExtOf.lt3 ExtOf.cellX ExtOf.frozenX ExtOf.cellX' ExtOf.frozenX'

/-- What slices.SortFunc does at a row of numbers. -/
def SortC : Prop := ∀ (cf : Int → Int → Int) (cb : Array Value) (blk cap : Nat) (d : Array Int) (w : World), Sort.SWO (ltOf cf) → CmpLays1 Try.prog 70 cb (Value.int .i64) cf blk 0 d.size w →
  Sort.Holds (Value.int .i64) w blk 0 d → blk < w.heap.size → d.size < 4611686018427387904 →
  Calls Try.prog 69 #[.slice (some ⟨blk, 0, none⟩) d.size cap, .func (.func 70) #[] cb] w fun e w' =>
    e = .returned (.tuple #[]) ∧ ∃ d' n os, Sort.PermIn 0 d.size d d' ∧ Sort.SortedIn (ltOf cf) 0 d.size d' ∧ w' = sortWorld (Value.int .i64) w blk 0 n d' os
def SortNil : Prop := ∀ (fv : Value) (w : World), Calls Try.prog 69 #[.slice none 0 0, fv] w fun e w' => e = .returned (.tuple #[]) ∧ w' = w

section
variable {P : Program} {ops : Array Oper} {rest : List Oper} {o : Oper} {a : Act} {w : World} {Q : Exit → Act → World → Prop}
theorem wpList_rangeM (hg : o.guard = none) (m : Operand) (t : TypeId) (hop : o.op = Op.range t m) (k e : TypeId) (ht : P.underlying t = some (.map k e)) (b : Nat) (es : Array MapEntry) (clock : Nat)
    (hm : a.eval m = .map (some b)) (hb : w.heap[b]? = some (.map es clock))
    (h : wpList P ops Q rest (a.put o.dst (.pointer (some ⟨w.heap.size, 0, none⟩))) (w.alloc (.mapIter (some b) clock #[] clock))) : wpList P ops Q (o :: rest) a w := by
  refine wpList_plain hg fun K' hK' => ?_
  unfold Oper.wp
  simp [execOp, hop, hm, run_range_map w t k e b es clock ht hb, Result.andThen]
  exact hK' _ _ h
theorem wpList_nextM (hg : o.guard = none) (it : Operand) (hop : o.op = Op.next it false) (r b since c0 : Nat) (seen : Array Nat) (es : Array MapEntry) (clock : Nat)
    (hit : a.eval it = .pointer (some ⟨r, 0, none⟩)) (hr : w.heap[r]? = some (.mapIter (some b) since seen c0)) (hb : w.heap[b]? = some (.map es clock)) (hold : ∀ x ∈ es.toList, x.born < since) (hsc : since ≤ c0)
    (hDone : (leftOf es seen).size = 0 → wpList P ops Q rest (a.put o.dst (.tuple #[.bool false])) w)
    (hMore : ∀ e ∈ (leftOf es seen).toList, ∀ w1 : World, (w1 = w ∨ w1 = w.drew) → wpList P ops Q rest (a.put o.dst (.tuple #[.bool true, e.key, e.val])) (setB w1 r (.mapIter (some b) since (seen.push e.born) clock))) : wpList P ops Q (o :: rest) a w := by
  refine wpList_plain hg fun K' hK' => ?_
  unfold Oper.wp
  rcases run_next_at (P := P) w o.type r b since c0 seen es clock hr hb hold hsc with ⟨h0, hrun⟩ | ⟨e, he, w1, hw1, hrun⟩
  · simp [execOp, hop, hit, hrun, Result.andThen]
    exact hK' _ _ (hDone h0)
  · simp [execOp, hop, hit, hrun, Result.andThen]
    exact hK' _ _ (hMore e he w1 hw1)
end

theorem own_rowC {w w' : World} {base : Nat} {e : TypeId} {size : Nat} {v : Value} {n : Nat} {xs : List Value} (h : w.ownsRow base e size v n xs) (hk : ∀ k ∈ rowB v, w'.heap[k]? = w.heap[k]?) : w'.ownsRow base e size v n xs := by
  refine ⟨h.1, h.2.imp id ?_⟩
  rintro ⟨g, cap, cur, rfl, hb, hg, r⟩
  exact ⟨g, cap, cur, rfl, hb, (hk g (by simp [rowB, Value.ownBlock])).trans hg, r⟩

def keyI : Value → Int
  | .int _ i => i
  | _ => 0
def bornE (e : MapEntry) : Nat := e.born
def cellE (e : MapEntry) : Value := .int .i64 (keyI e.key)

theorem key_of {es : Array MapEntry} {S : List Tm} (h : es.toList.map (fun e => (e.key, e.val)) = S.map (fun t => (Value.int .i64 t.id, t.val))) {e : MapEntry} (he : e ∈ es.toList) : e.key = .int .i64 (keyI e.key) := by
  have : (e.key, e.val) ∈ S.map (fun t => (Value.int .i64 t.id, t.val)) := by rw [← h]; exact List.mem_map.2 ⟨e, he, rfl⟩
  obtain ⟨t, _, ht⟩ := List.mem_map.1 this
  simp only [Prod.mk.injEq] at ht
  rw [← ht.1]; rfl
theorem keys_of {es : Array MapEntry} {S : List Tm} (h : es.toList.map (fun e => (e.key, e.val)) = S.map (fun t => (Value.int .i64 t.id, t.val))) : es.toList.map (fun e => keyI e.key) = S.map (·.id) := by
  have := congrArg (List.map fun x : Value × Value => keyI x.1) h
  simpa [List.map_map, Function.comp_def, keyI] using this

/-- All entries have been met. -/
theorem met_all {es : Array MapEntry} {E : List MapEntry} (hn : (es.toList.map (·.born)).Nodup) (h1 : ∀ e ∈ E, e ∈ es.toList) (h2 : (E.map bornE).Nodup) (h0 : (leftOf es (E.map bornE).toArray).size = 0) : E.Perm es.toList := by
  have a : E.Nodup := List.Pairwise.of_map bornE (fun x y h e => h (by rw [e])) h2
  have b : es.toList.Nodup := List.Pairwise.of_map (·.born) (fun x y h e => h (by rw [e])) hn
  refine (List.perm_ext_iff_of_nodup a b).2 fun e => ⟨h1 e, fun he => ?_⟩
  have := all_seen es _ h0 e he
  obtain ⟨e2, he2, hb⟩ : ∃ e2 ∈ E, bornE e2 = e.born := by simpa using this
  have f1 := find_born e es.toList hn he
  have f2 := find_born e2 es.toList hn (h1 e2 he2)
  rw [show e2.born = e.born from hb, f1] at f2
  rw [Option.some.inj f2]; exact he2

/-- What row hands back. -/
def RowW (S : List Tm) (w : World) : Ending → World → Prop := fun e w' =>
  ∃ v, e = .returned v ∧ ∃ I : Array Int, w'.ownsRow w.heap.size 3 1 v I.size (I.toList.map (Value.int .i64)) ∧ I.toList.Perm (S.map (·.id)) ∧ Sort.SortedIn (ltOf (cmpT S)) 0 I.size I ∧ Ext w w'

theorem info_int : (Try.prog.info? 3).map (fun i => (i.zero, i.size, i.bytes)) = some (some (.int .i64 0), 1, 8) := by kernel_rfl

set_option maxRecDepth 100000 in
set_option maxHeartbeats 8000000 in
theorem row_string (p : At) (v : Value) (W : Wh) (w : World) (hW : WheelW 101 47 p v W w) (hS : W.S.length ≤ 100000) (ho : ∀ k, 0 ≤ (tmZ W.S k).o ∧ (tmZ W.S k).o ≤ 100000) (hO : Sort.SWO (ltOf (cmpT W.S))) (hsort : SortC) (hnil : SortNil) :
    Calls Try.prog 67 #[.pointer (some ⟨p.bW, 0, none⟩)] w (RowW W.S w) := by
  obtain ⟨ti0, hi, hz0, hz1, hz2⟩ := info_parts info_int
  have HW := Lib.hid hW
  obtain ⟨now, ids, ord, S, L, m⟩ := W
  obtain ⟨bM, bH, bW, B, cv, pM, pH, pW⟩ := p
  obtain ⟨hb, hM, _⟩ := hW
  simp only at hb hM hS ho hO ⊢
  have HMM := Lib.hid hM
  obtain ⟨es, clock, hbm, hes, hbn⟩ := hM
  have lb : bW < w.heap.size := (Array.getElem?_eq_some_iff.1 hb).1
  have lm : bM < w.heap.size := (Array.getElem?_eq_some_iff.1 hbm).1
  have hcb := fun j => cell_of_row w _ j _ _ _ hb
  have HB := Lib.hid hb
  have HBM := Lib.hid hbm
  have HES := Lib.hid hes
  have HBN := Lib.hid hbn
  have hlen : es.toList.length = S.length := by have := congrArg List.length hes; simpa using this
  have HOO := Lib.hid ho
  have HSW := Lib.hid hO
  clear hb hbm hes hbn ho hO
  go_enter Try.func67, Try.ntmps67
  go_wp2_with (at_range; refine wpList_rangeM rfl _ 98 rfl _ _ Try.underlying98 bM es clock rfl (heap_ext HBM.out ((Ext.refl _).alloc _)) (unHd ?_))
  unfold Hd2
  obtain ⟨W1, hW1⟩ : ∃ W1, W1 = (w.alloc (.cells #[.pointer (some ⟨bW, 0, none⟩)] 51)).alloc (.mapIter (some bM) clock #[] clock) := ⟨_, rfl⟩
  have eX : Ext w W1 := by rw [hW1]; exact ((Ext.refl w).alloc _).alloc _
  have eB : W1.heap[w.heap.size]? = some (.cells #[.pointer (some ⟨bW, 0, none⟩)] 51 (0, 0)) := by rw [hW1]; exact heap_ext (heap_new rfl) ((Ext.refl _).alloc _)
  have eI : W1.heap[w.heap.size + 1]? = some (.mapIter (some bM) clock #[] clock) := by rw [hW1]; exact heap_new (by simp)
  rw [← hW1]
  clear hW1 hcb lb lm
  go_wp2_with fail
  go_loopg [3] es.size (fun g o wr => ∃ (E : List MapEntry) (c0 : Nat), clock ≤ c0 ∧ (leftOf es (E.map bornE).toArray).size ≤ g ∧ E.length + (leftOf es (E.map bornE).toArray).size ≤ es.size ∧ Hid (wr.heap[w.heap.size + 1]? = some (.mapIter (some bM) clock (E.map bornE).toArray c0)) ∧ Hid (wr.ownsRow w.heap.size 3 1 o E.length (E.map cellE)) ∧ Hid (Ext w wr) ∧
      Hid (wr.heap[w.heap.size]? = some (.cells #[.pointer (some ⟨bW, 0, none⟩)] 51 (0, 0))) ∧ Hid ((∀ e ∈ E, e ∈ es.toList) ∧ (E.map bornE).Nodup))
  case atStart => exact ⟨[], clock, Nat.le_refl _, Array.size_filter_le .., by rw [List.length_nil, Nat.zero_add]; exact Array.size_filter_le .., Lib.hid eI, Lib.hid (World.ownsRow_nil _ _ _ _), Lib.hid eX, Lib.hid eB, Lib.hid ⟨fun e h => (by cases h), List.Pairwise.nil⟩⟩
  case round =>
    obtain ⟨E, c0, hc0, hg, hgE, HI, HR, HX, HBX, HE⟩ := hrel
    rename World => wr
    clear eX eB eI
    have hbm := heap_ext HBM.out HX.out
    have hold : ∀ x ∈ es.toList, x.born < clock := fun x hx => HBN.out.1 _ (List.mem_map.2 ⟨x, hx, rfl⟩)
    have HOL := Lib.hid hold
    have HBM2 := Lib.hid hbm
    clear hold hbm
    go_wp2_with (at_next; refine wpList_nextM rfl _ rfl (w.heap.size + 1) bM clock c0 _ es clock rfl HI.out HBM2.out HOL.out hc0 (fun h => unHd ?_) (fun e he W2 hW2 => unHd ?_))
    · have HP := Lib.hid (met_all HBN.out.2 HE.out.1 HE.out.2 h)
      unfold Hd2
      clear h hg hgE
      have hpm : (E.map fun e => keyI e.key).Perm (S.map (·.id)) := by
        rw [← keys_of HES.out]
        exact HP.out.map _
      have HPM := Lib.hid hpm
      clear hpm
      have hv := HR.out.2
      rcases hv with ⟨hv, hn0⟩ | ⟨g, cap, cur, hv, hbg, hgc, hnc, hcm, hcs, htk⟩
      · subst hv
        obtain rfl : E = [] := List.length_eq_zero_iff.1 hn0
        go_wp2_with fail
        refine (hnil _ _).mono ?_
        rintro e w' ⟨rfl, rfl⟩
        go_wp2_with fail
        go_ret
        exact ⟨_, rfl, #[], World.ownsRow_nil _ _ _ _, by simpa using HPM.out, fun i j _ _ h => by simp at h, HX.out⟩
      · subst hv
        have lg : g < wr.heap.size := (Array.getElem?_eq_some_iff.1 hgc).1
        obtain ⟨d, hd⟩ : ∃ d : Array Int, d = (E.map fun e => keyI e.key).toArray := ⟨_, rfl⟩
        have hds : d.size = E.length := by rw [hd]; simp
        have hcells : E.map cellE = d.toList.map (Value.int .i64) := by rw [hd]; simp [cellE, Function.comp_def]
        have hdt : d.toList.length = E.length := by rw [Array.length_toList, hds]
        have hH : Sort.Holds (Value.int .i64) wr g 0 d := by
          have := holds_of_blockI (ss := d.toList) hgc (by rw [hdt, ← hcells]; simpa using htk)
          simpa using this
        have hcmp : CmpLays1 Try.prog 70 #[.pointer (some ⟨w.heap.size, 0, none⟩)] (Value.int .i64) (cmpT S) g 0 d.size wr := fun m os dk hs x y => by
          have hk := grownBy_sortedI (w := wr) (g := g) (n := m) (os := os) dk
          have lw : w.heap.size ≤ wr.heap.size := HX.out.size
          have hblk : ∀ k, k ≤ w.heap.size → k ≠ g → (sortWorld (Value.int .i64) wr g 0 m dk os).heap[k]? = wr.heap[k]? := fun k hk1 hk2 => hk.block k (by have := (Array.getElem?_eq_some_iff.1 HBX.out).1; omega) (by simp; omega)
          have hgne : g ≠ w.heap.size := fun h => by
            subst h
            rw [HBX.out] at hgc
            cases hgc
          have lb := (Array.getElem?_eq_some_iff.1 HB.out).1
          have lm := HMM.out.lt
          exact (row_cmp w.heap.size bW bM S now ids ord (.bool true) _ _ x y _ ((hblk _ (Nat.le_refl _) (Ne.symm hgne)).trans HBX.out) ((hblk bW (by omega) (by omega)).trans (heap_ext HB.out HX.out)) ((HMM.out.ext HX.out).same (hblk bM (by omega) (by omega))) HOO.out)
        have hc := hsort (cmpT S) #[.pointer (some ⟨w.heap.size, 0, none⟩)] g cap d wr HSW.out hcmp hH lg (by rw [hds, HP.out.length_eq]; omega)
        rw [hds] at hc
        have HBG := Lib.hid hgc
        have HDC := Lib.hid hcells
        have HDS := Lib.hid hds
        have HDD := Lib.hid hd
        have HDT := Lib.hid hdt
        clear hcmp hH hgc htk hcells hd hds hdt
        go_wp2_with fail
        refine hc.mono ?_
        rintro e w' ⟨rfl, d', n, os, hpr, hsr, rfl⟩
        have hk := grownBy_sortedI (w := wr) (g := g) (n := n) (os := os) d'
        have hX : Ext w (sortWorld (Value.int .i64) wr g 0 n d' os) := Ext.trans' HX.out (Below.grown (Below.refl _ _) hk HX.out.size fun k hk => by cases hk; exact hbg)
        have hsz' : d'.size = E.length := hpr.1.trans HDS.out
        have hR : (sortWorld (Value.int .i64) wr g 0 n d' os).ownsRow w.heap.size 3 1 (.slice (some ⟨g, 0, none⟩) E.length cap) E.length (d'.toList.map (Value.int .i64)) := by
          have := ownsRow_sortedI (n := n) (os := os) (ss := d'.toList) (ts := d'.toList) rfl hbg HBG.out (by rw [Array.length_toList, hsz']; exact hnc) hcm hcs
          rw [Array.length_toList, hsz'] at this
          simpa [sortWorld] using this
        have hP : d'.toList.Perm (S.map (·.id)) := by
          have := hpr.2.2
          have e1 : d'.extract 0 E.length = d' := by rw [← hsz']; simp
          have e2 : d.extract 0 E.length = d := by rw [← HDS.out]; simp
          rw [e1, e2, HDD.out] at this
          exact this.trans HPM.out
        generalize sortWorld (Value.int .i64) wr g 0 n d' os = w9 at hX hR ⊢
        have HX9 := Lib.hid hX
        have HR9 := Lib.hid hR
        have HP9 := Lib.hid hP
        have HS9 := Lib.hid hsr
        clear hX hR hP hsr hpr hk
        go_wp2_with fail
        go_ret
        exact ⟨_, rfl, d', by rw [hsz']; exact HR9.out, HP9.out, by rw [hsz']; exact HS9.out, HX9.out⟩
    · obtain ⟨hm1, hm2⟩ := mem_left he
      have hlt := left_shrinks es (E.map bornE).toArray e he
      have hpush : (E.map bornE).toArray.push e.born = (E.map bornE ++ [e.born]).toArray := by simp
      rw [hpush] at hlt
      have hsz2 : W2.heap.size = wr.heap.size := by rcases hW2 with rfl | rfl <;> rfl
      have hk2 : ∀ k, k ≠ w.heap.size + 1 → (setB W2 (w.heap.size + 1) (.mapIter (some bM) clock (E.map bornE ++ [e.born]).toArray clock)).heap[k]? = wr.heap[k]? := fun k hk => (setB_other hk).trans (by rcases hW2 with rfl | rfl <;> rfl)
      have hr : w.heap.size + 1 < wr.heap.size := (Array.getElem?_eq_some_iff.1 HI.out).1
      have eI2 : (setB W2 (w.heap.size + 1) (.mapIter (some bM) clock (E.map bornE ++ [e.born]).toArray clock)).heap[w.heap.size + 1]? = some (.mapIter (some bM) clock (E.map bornE ++ [e.born]).toArray clock) := setB_same (by omega)
      have eR2 := own_rowC HR.out (w' := setB W2 (w.heap.size + 1) (.mapIter (some bM) clock (E.map bornE ++ [e.born]).toArray clock)) fun k hk => hk2 k (fun h => by
        rcases HR.out.2 with ⟨h0, _⟩ | ⟨g2, cap2, cur, h0, _, h1, _⟩
        · rw [h0] at hk; simp [rowB, Value.ownBlock] at hk
        · rw [h0] at hk
          simp only [rowB, Value.ownBlock, List.mem_singleton] at hk
          subst hk
          rw [h, HI.out] at h1
          cases h1)
      have eX2 : Ext w (setB W2 (w.heap.size + 1) (.mapIter (some bM) clock (E.map bornE ++ [e.born]).toArray clock)) := ⟨by rcases hW2 with rfl | rfl <;> exact HX.out.os, by rcases hW2 with rfl | rfl <;> exact HX.out.tape, by rcases hW2 with rfl | rfl <;> exact HX.out.output, by simp [setB, hsz2]; exact HX.out.size, fun k hk => (hk2 k (by omega)).trans (HX.out.block k hk)⟩
      have eB2 := (hk2 w.heap.size (by omega)).trans HBX.out
      generalize setB W2 (w.heap.size + 1) (.mapIter (some bM) clock (E.map bornE ++ [e.born]).toArray clock) = W3 at eI2 eR2 eX2 eB2 ⊢
      have hen : (Instr.entry (.pointer (some ⟨w.heap.size + 1, 0, none⟩))).run Try.prog W3 = .ok (.tuple #[e.key, e.val]) W3 := run_entry_at W3 _ bM clock (E.map bornE).toArray es clock e (by rw [hpush]; exact eI2) (heap_ext HBM.out eX2) hm1 HBN.out.2
      have hky := key_of HES.out hm1
      rw [hky] at hen
      have hEl : E.length < 100000 := by
        have h1 : es.size = S.length := by rw [← hlen, Array.length_toList]
        omega
      rw [hky]
      have HI2 := Lib.hid eI2
      have HR2 := Lib.hid eR2
      have HX2 := Lib.hid eX2
      have HB2 := Lib.hid eB2
      have HM2 := Lib.hid hm2
      have HLT := Lib.hid hlt
      have HM1 := Lib.hid hm1
      have HKY := Lib.hid hky
      clear hpush hk2 hsz2 hr eI2 eR2 eX2 eB2 hW2 hm2 he hlt hm1 hky HR HX HBX HI HBM2
      unfold Hd2
      go_wp2_with (at_builtin; refine unHd ?_)
      unfold Hd2
      refine wpList_app w.heap.size 38 3 ti0 _ 1 8 Try.underlying38 hi hz0 hz1 hz2 rfl (by decide) rfl _ _ rfl _ E.length _ rfl (own_ext HR2.out ((Ext.refl W3).alloc _)) (by have := HX2.out.size; simp; omega) W3.heap.size 1 1 #[.int .i64 (keyI e.key)] rfl (heap_new rfl) rfl (by simp [Value.oneCell']) (by unfold maxLen; omega) (by omega) ?_
      intro v5 w5 hown5 hb5 hg5
      have hg5 : (W3.alloc (.cells #[.int .i64 (keyI e.key)] 3)).grownBy w5 u3.ownBlock := hg5
      have eA : Ext W3 (W3.alloc (.cells #[.int .i64 (keyI e.key)] 3)) := (Ext.refl W3).alloc _
      have hne : ∀ (k : Nat) (ob : Obj), W3.heap[k]? = some ob → (∀ cur, ob ≠ .cells cur 3 (0, 0)) → w5.heap[k]? = some ob := fun k ob hk hno => by
        have hkl : k < W3.heap.size := (Array.getElem?_eq_some_iff.1 hk).1
        refine ((hg5.block k (Nat.lt_of_lt_of_le hkl eA.size) fun h => ?_).trans (eA.block k hkl)).trans hk
        rcases HR2.out.2 with ⟨h0, _⟩ | ⟨g2, cap2, cur, h0, _, h1, _⟩
        · rw [h0] at h; cases h
        · rw [h0] at h
          simp only [Value.ownBlock, Option.some.injEq] at h
          subst h
          rw [hk] at h1
          exact hno cur (Option.some.inj h1)
      have I5 := Lib.hid (hne _ _ HI2.out (fun _ h => by cases h))
      have B5 := Lib.hid (hne _ _ HB2.out (fun _ h => by cases h))
      have X5 := Lib.hid (show Ext w w5 from Ext.trans' (HX2.out.alloc _) hb5)
      have R5 := Lib.hid (show w5.ownsRow w.heap.size 3 1 v5 (E ++ [e]).length ((E ++ [e]).map cellE) by simpa [cellE] using hown5)
      have hmap : (E ++ [e]).map bornE = E.map bornE ++ [e.born] := by simp [bornE]
      have E5 := Lib.hid (show (∀ x ∈ E ++ [e], x ∈ es.toList) ∧ ((E ++ [e]).map bornE).Nodup by
        refine ⟨fun x hx => ?_, ?_⟩
        · rcases List.mem_append.1 hx with hx | hx
          · exact HE.out.1 x hx
          · rw [List.mem_singleton.1 hx]; exact HM1.out
        · rw [hmap, List.nodup_append]
          refine ⟨HE.out.2, by simp, fun a ha b hb hab => ?_⟩
          rw [List.mem_singleton.1 hb] at hab
          have := HM2.out
          subst hab
          simp [bornE] at this ha
          obtain ⟨y, hy, hyb⟩ := ha
          exact this y hy hyb)
      have I6 := Lib.hid (show w5.heap[w.heap.size + 1]? = some (.mapIter (some bM) clock ((E ++ [e]).map bornE).toArray clock) by rw [hmap]; exact I5.out)
      have hlt2 : (leftOf es ((E ++ [e]).map bornE).toArray).size < (leftOf es (E.map bornE).toArray).size := by rw [hmap]; exact HLT.out
      clear hown5 hb5 hg5 eA hne hmap I5 HI2 HR2 HX2 HB2 HM2 HM1 HKY hen
      go_wp2_with fail
      go_roundg (gk - 1)
      case rel => exact ⟨E ++ [e], clock, Nat.le_refl _, by omega, by rw [List.length_append, List.length_singleton]; omega, I6, R5, X5, B5, E5⟩
      case measure => omega
end Go.Proofs.Ytibdplfdmncgiaa

/-
  What slices.SortFunc does at this place: the shelf's contract, laid in plain words (its facts were printed by the shelf's own tool for this seat). No condition.
-/
namespace Go.Proofs.Ytibdplfdmncgiaa
open Go.RowKit
open Go.Shelf
def sortRow_ren : Go.Shelf.Ren := ⟨fun | 6 => 69 | 15 => 72 | 14 => 71 | 28 => 81 | 29 => 82 | 20 => 73 | 21 => 74 | 22 => 75 | 23 => 76 | 24 => 77 | 25 => 78 | 26 => 79 | 27 => 80 | 46 => 83 | 47 => 84 | 48 => 85 | 49 => 86 | 50 => 87 | 57 => 88 | n => n, fun | 22 => 38 | 24 => 3 | 25 => 131 | 3 => 3 | 39 => 134 | 0 => 0 | 53 => 143 | 55 => 145 | 4 => 4 | 46 => 137 | 45 => 136 | 50 => 43 | 5 => 5 | 9 => 9 | 66 => 146 | 70 => 150 | 76 => 152 | 77 => 73 | n => n, fun | n => n⟩
theorem sortRow : Go.Proofs.SlLaysF.n6 Try.prog sortRow_ren := {
  mixed := by kernel_rfl
  f6 := ⟨Try.f69.name, by decide, Try.func69.trans (congrArg some (by kernel_rfl))⟩
  f14 := ⟨Try.f71.name, by decide, Try.func71.trans (congrArg some (by kernel_rfl))⟩
  f15 := Try.func72.trans (congrArg some (by kernel_rfl))
  f20 := ⟨Try.f73.name, by decide, Try.func73.trans (congrArg some (by kernel_rfl))⟩
  f21 := ⟨Try.f74.name, by decide, Try.func74.trans (congrArg some (by kernel_rfl))⟩
  f22 := ⟨Try.f75.name, by decide, Try.func75.trans (congrArg some (by kernel_rfl))⟩
  f23 := ⟨Try.f76.name, by decide, Try.func76.trans (congrArg some (by kernel_rfl))⟩
  f24 := ⟨Try.f77.name, by decide, Try.func77.trans (congrArg some (by kernel_rfl))⟩
  f25 := ⟨Try.f78.name, by decide, Try.func78.trans (congrArg some (by kernel_rfl))⟩
  f26 := ⟨Try.f79.name, by decide, Try.func79.trans (congrArg some (by kernel_rfl))⟩
  f27 := ⟨Try.f80.name, by decide, Try.func80.trans (congrArg some (by kernel_rfl))⟩
  f28 := Try.func81.trans (congrArg some (by kernel_rfl))
  f29 := Try.func82.trans (congrArg some (by kernel_rfl))
  f46 := ⟨Try.f83.name, by decide, Try.func83.trans (congrArg some (by kernel_rfl))⟩
  f47 := Try.func84.trans (congrArg some (by kernel_rfl))
  f48 := Try.func85.trans (congrArg some (by kernel_rfl))
  f49 := ⟨Try.f86.name, by decide, Try.func86.trans (congrArg some (by kernel_rfl))⟩
  f50 := ⟨Try.f87.name, by decide, Try.func87.trans (congrArg some (by kernel_rfl))⟩
  f57 := ⟨Try.f88.name, by decide, Try.func88.trans (congrArg some (by kernel_rfl))⟩
  t0 := Try.underlying0
  a0 := Try.isAgg0
  z0 := Try.sizeOf0
  v0 := Try.zeroValue0
  t3 := Try.underlying3
  a3 := Try.isAgg3
  z3 := Try.sizeOf3
  v3 := Try.zeroValue3
  t4 := Try.underlying4
  a4 := Try.isAgg4
  z4 := Try.sizeOf4
  v4 := Try.zeroValue4
  t5 := Try.underlying5
  a5 := Try.isAgg5
  z5 := Try.sizeOf5
  v5 := Try.zeroValue5
  t9 := Try.underlying9
  a9 := Try.isAgg9
  z9 := Try.sizeOf9
  v9 := Try.zeroValue9
  t22 := Try.underlying38
  a22 := Try.isAgg38
  z22 := Try.sizeOf38
  v22 := Try.zeroValue38
  a24 := Try.isAgg3
  z24 := Try.sizeOf3
  t25 := Try.underlying131
  a25 := Try.isAgg131
  z25 := Try.sizeOf131
  v25 := Try.zeroValue131
  t39 := Try.underlying134
  a39 := Try.isAgg134
  z39 := Try.sizeOf134
  v39 := Try.zeroValue134
  t45 := Try.underlying136
  a45 := Try.isAgg136
  z45 := Try.sizeOf136
  v45 := Try.zeroValue136
  t46 := Try.underlying137
  a46 := Try.isAgg137
  z46 := Try.sizeOf137
  v46 := Try.zeroValue137
  t50 := Try.underlying43
  a50 := Try.isAgg43
  z50 := Try.sizeOf43
  v50 := Try.zeroValue43
  t53 := Try.underlying143
  a53 := Try.isAgg143
  z53 := Try.sizeOf143
  v53 := Try.zeroValue143
  t55 := Try.underlying145
  a55 := Try.isAgg145
  z55 := Try.sizeOf145
  v55 := Try.zeroValue145
  t66 := Try.underlying146
  a66 := Try.isAgg146
  z66 := Try.sizeOf146
  v66 := Try.zeroValue146
  t70 := Try.underlying150
  a70 := Try.isAgg150
  z70 := Try.sizeOf150
  v70 := Try.zeroValue150
  t76 := Try.underlying152
  a76 := Try.isAgg152
  z76 := Try.sizeOf152
  v76 := Try.zeroValue152
  t77 := Try.underlying73
  a77 := Try.isAgg73
  z77 := Try.sizeOf73
  v77 := Try.zeroValue73 }

theorem sortC : SortC := fun cf cb blk cap d w hO hcmp hH hblk hsz =>
  Any.slices_SortFunc sortRow (Value.int .i64) (fun _ => rfl) cf hO 70 cb blk 0 cap d w (enters_of Try.func70 (by kernel_rfl) rfl) hcmp hH hblk hsz

set_option maxHeartbeats 2000000 in
theorem ins_nil (fv : Value) (w : World) : Calls Try.prog 73 #[.slice none 0 0, .int .i64 0, .int .i64 0, fv] w fun e w' => e = .returned (.tuple #[]) ∧ w' = w := by
  go_enter Try.func73, Try.ntmps73
  go_wp2
  refine wp_loop_rounds 1 ?_
  rw [rounds_succ]
  go_wp2
  go_end0
  exact ⟨rfl, rfl⟩

set_option maxHeartbeats 2000000 in
theorem pdq_nil (lim : Int) (fv : Value) (w : World) : Calls Try.prog 71 #[.slice none 0 0, .int .i64 0, .int .i64 0, .int .i64 lim, fv] w fun e w' => e = .returned (.tuple #[]) ∧ w' = w := by
  have hi := fun W => ins_nil fv W
  go_enter Try.func71, Try.ntmps71
  go_wp2
  refine wp_loop_rounds 1 ?_
  rw [rounds_succ]
  go_wp2_with (go_at_call 73; refine (hi _).mono ?_; rintro e w' ⟨rfl, rfl⟩)
  (try simp only [Exit.inBlock, Exit.then])
  refine bodyPost_ret (results_none rfl _ _ _) rfl ?_
  exact ⟨rfl, rfl⟩

set_option maxHeartbeats 2000000 in
theorem sortNil : SortNil := fun fv w => by
  have hl : ∀ W, Calls Try.prog 72 #[.int .u64 0] W fun e w' => e = .returned (.int .i64 (Lib.bitLen 0 : Nat)) ∧ w' = W := fun W =>
    Any.bits_Len (SlLaysF0.n15.bits (P := Try.prog) (ρ := sortRow_ren) { sortRow with }) 0 W (by omega) (by omega)
  have hp := fun lim W => pdq_nil lim fv W
  go_enter Try.func69, Try.ntmps69
  go_wp2_with (first | (go_at_call 72; refine (hl _).mono ?_; rintro e w' ⟨rfl, rfl⟩) | (go_at_call 71; refine (hp _ _).mono ?_; rintro e w' ⟨rfl, rfl⟩))
  go_end0
  exact ⟨rfl, rfl⟩
end Go.Proofs.Ytibdplfdmncgiaa
