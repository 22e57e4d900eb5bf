/-
  Worlds in which some blocks have changed; append to a row of the call's own, and where it lies then. No condition.
-/
import Derived.Test.YtlnmhocehgmbbaaGreatDoorMS11
import Derived.Laws.AppendOwnNone
import Derived.Deep.MidRow
namespace Go.Proofs.YtlnmhocehgmbbaaGreatDoor
open Go.RowKit

theorem setCell_row {w : World} {b o : Nat} {arr : Array Value} {e : TypeId} {fr : Nat × Nat} (h : w.heap[b]? = some (.cells arr e fr)) (v : Value) : (w.setCell ⟨b, o, none⟩ v).heap[b]? = some (.cells (arr.setIfInBounds o v) e fr) := by
  simp [World.setCell, Array.getElem?_modify, h]

/-- The world w' holds the blocks of w, but for those named, as they were. -/
structure Keeps (X : List Nat) (w w' : World) : Prop where
  os : w'.os = w.os
  tape : w'.tape = w.tape
  output : w'.output = w.output
  size : w.heap.size ≤ w'.heap.size
  block : ∀ k, k < w.heap.size → k ∉ X → w'.heap[k]? = w.heap[k]?

theorem Keeps.refl (X : List Nat) (w : World) : Keeps X w w := ⟨rfl, rfl, rfl, Nat.le_refl _, fun _ _ _ => rfl⟩
theorem Keeps.trans {X : List Nat} {a b c : World} (h : Keeps X a b) (k : Keeps X b c) : Keeps X a c :=
  ⟨k.os.trans h.os, k.tape.trans h.tape, k.output.trans h.output, Nat.le_trans h.size k.size, fun i hi hx => (k.block i (Nat.lt_of_lt_of_le hi h.size) hx).trans (h.block i hi hx)⟩
theorem Keeps.mono {X Y : List Nat} {a b : World} (h : Keeps X a b) (hs : ∀ k ∈ X, k ∈ Y) : Keeps Y a b := ⟨h.os, h.tape, h.output, h.size, fun i hi hx => h.block i hi fun he => hx (hs i he)⟩
theorem Keeps.ext {X : List Nat} {a b c : World} (h : Keeps X a b) (k : Ext b c) : Keeps X a c :=
  ⟨k.os.trans h.os, k.tape.trans h.tape, k.output.trans h.output, Nat.le_trans h.size k.size, fun i hi hx => (k.block i (Nat.lt_of_lt_of_le hi h.size)).trans (h.block i hi hx)⟩

theorem Keeps.cell {X : List Nat} {a b : World} (h : Keeps X a b) {p : Addr} {v : Value} (hp : p.block ∉ X) (hc : a.cell? p = some v) : b.cell? p = some v := by
  rw [← hc]
  exact World.cell?_of_block (h.block _ (World.block_lt_of_cell? a _ hc) hp)

/-- The block of a row. -/
def rowB (v : Value) : List Nat := match v.ownBlock with
  | some g => [g]
  | none => []

section
variable {P : Program}
theorem run_append_where (w : World) (base : Nat) (t ty e : TypeId) (i : TypeInfo) (z : Value) (size bytes : Nat) (ht : P.underlying t = some (.slice e)) (hi : P.info? e = some i) (hz : i.zero = some z)
    (hsize : i.size = size) (hby : i.bytes = bytes) (hzs : z.cells.size = size) (hsz : 0 < size)
    (v : Value) (n : Nat) (xs : List Value) (hown : w.ownsRow base e size v n xs)
    (a : Addr) (m c : Nat) (news : List Value) (hm : 0 < m) (hl : news.length = m * size) (hnews : ∀ j u, news[j]? = some u → w.cell? (a.add j) = some u) (h1 : ∀ u ∈ news, u.oneCell' = true)
    (h63 : n + m ≤ maxLen) (hbytes : (n + m) * bytes ≤ 140737488355328) (hbase : base ≤ w.heap.size) :
    ∃ v' w', (Builtin.append_ #[t, t] ty #[v, .slice (some a) m c]).run P w = .ok v' w' ∧ w'.ownsRow base e size v' (n + m) (xs ++ news) ∧ w.grownBy w' v.ownBlock ∧ (∀ g ∈ rowB v', g ∈ rowB v ∨ w.heap.size ≤ g) := by
  obtain ⟨v', w', hr, h2, h3, _⟩ := run_append_own (P := P) w base t ty e i z size bytes ht hi hz hsize hby hzs hsz v n xs hown a m c news hl hnews h1 h63 hbytes hbase
  refine ⟨v', w', hr, h2, h3, ?_⟩
  subst hsize; subst hby
  have hsmall : n + m ≤ 9223372036854775807 := by simp only [maxLen] at h63; omega
  rcases hown.2 with ⟨hv, hn⟩ | ⟨g, cap, cur, hv, hbg, hg, hnc, hcm, hcs, htake⟩
  · subst hv; subst hn
    have hr2 := run_append_nil (P := P) w t ty e i z ht hi hz a m c news hl hnews hm (by omega) (by have hb := hbytes; simp only [Nat.zero_add] at hb; omega)
    rw [hr2] at hr
    cases hr
    intro g hg
    simp only [rowB, Value.ownBlock, List.mem_singleton] at hg
    exact .inr (by omega)
  · subst hv
    by_cases hroom : n + m ≤ cap
    · have hfit : n * i.size + news.length ≤ cur.size := by rw [hl, hcs, ← Nat.add_mul]; exact Nat.mul_le_mul_right _ hroom
      have hr2 := run_append_room (P := P) w t ty e i ht hi g n cap cur hg a m c news hl hnews h1 hroom hfit
      rw [hr2] at hr
      cases hr
      exact fun k hk => .inl hk
    · have holds : ∀ j u, xs[j]? = some u → w.cell? ((⟨g, 0, none⟩ : Addr).add j) = some u := hown.cells (g := g) rfl
      have hr2 := run_append_grow (P := P) w t ty e i z ht hi hz ⟨g, 0, none⟩ n cap xs hown.1 holds a m c news hl hnews (by omega) (by omega) (growslice_fits (by omega) hbytes)
      rw [hr2] at hr
      cases hr
      intro k hk
      simp only [rowB, Value.ownBlock, List.mem_singleton] at hk
      exact .inr (by omega)

/-- append to a row of the call's own, of what was just built; where the row lies then. -/
theorem wpList_app5 {ops : Array Oper} {rest : List Oper} {o : Oper} {a : Act} {Q : Exit → Act → World → Prop} {w : World} (B : Nat) (t e : TypeId) (i : TypeInfo) (z : Value) (size bytes : Nat)
    (ht : P.underlying t = some (.slice e)) (hi : P.info? e = some i) (hz : i.zero = some z) (hsize : i.size = size) (hby : i.bytes = bytes) (hzs : z.cells.size = size) (hsz : 0 < size)
    (hgd : o.guard = none) (s x : Operand) (ho : o.op = .call { callee := .builtin .append, args := #[s, x], argTypes := #[t, t] })
    (v : Value) (n : Nat) (xs : List Value) (hs : a.eval s = v) (hown : w.ownsRow B e size v n xs) (hB : B ≤ w.heap.size)
    (G m c : Nat) (news : Array Value) (hm : 0 < m) (hx : a.eval x = .slice (some ⟨G, 0, none⟩) m c) (hG : w.heap[G]? = some (.cells news e (0, 0))) (hl : news.size = m * size) (h1 : ∀ u ∈ news.toList, u.oneCell' = true)
    (h63 : n + m ≤ maxLen) (hbytes : (n + m) * bytes ≤ 140737488355328)
    (h : ∀ v' w', w'.ownsRow B e size v' (n + m) (xs ++ news.toList) → w.grownBy w' v.ownBlock → (∀ g ∈ rowB v', g ∈ rowB v ∨ w.heap.size ≤ g) → wpList P ops Q rest (a.put o.dst v') w') : wpList P ops Q (o :: rest) a w := by
  refine wpList_plain hgd fun _ hK => ?_
  obtain ⟨v', w', hr, h2, h3, h4⟩ := run_append_where (P := P) w B t o.type e i z size bytes ht hi hz hsize hby hzs hsz v n xs hown ⟨G, 0, none⟩ m c news.toList hm (by simpa using hl) (fun j u hj => by
      have : (⟨G, 0, none⟩ : Addr).add j = ⟨G, j, none⟩ := by unfold Addr.add; split <;> simp_all
      rw [this, cell_of_row w G j news e (0, 0) hG]
      simpa using hj) h1 h63 hbytes hB
  unfold Oper.wp execOp
  simp only [ho, resolve, invoke, builtin, Sem.run_bind, Sem.run_pure, Result.andThen_ok, List.map_toArray, List.map_cons, List.map_nil, hs, hx, hr]
  exact hK _ _ (h v' w' h2 h3 h4)
end

theorem but_trans {X : Option Nat} {a b c : World} (h : a.grownBy b X) (k : b.grownBy c X) : a.grownBy c X :=
  ⟨k.os.trans h.os, k.tape.trans h.tape, k.output.trans h.output, Nat.le_trans h.size k.size, fun i hi hx => (k.block i (Nat.lt_of_lt_of_le hi h.size) hx).trans (h.block i hi hx)⟩
theorem keeps_grown {X : List Nat} {a b c : World} (h : Keeps X a b) {v : Value} (k : b.grownBy c v.ownBlock) (hv : ∀ g ∈ rowB v, g ∈ X) : Keeps X a c :=
  ⟨k.os.trans h.os, k.tape.trans h.tape, k.output.trans h.output, Nat.le_trans h.size k.size, fun i hi hx => (k.block i (Nat.lt_of_lt_of_le hi h.size) (fun he => hx (hv i (by unfold rowB; rw [← he]; exact .head _)))).trans (h.block i hi hx)⟩
theorem cell_other {w : World} {b o k : Nat} {v : Value} (h : k ≠ b) : (w.setCell ⟨b, o, none⟩ v).heap[k]? = w.heap[k]? := by
  simp only [World.setCell, Array.getElem?_modify]
  rw [if_neg (Ne.symm h)]
theorem Keeps.setCell {X : List Nat} {a b : World} (h : Keeps X a b) {g : Nat} (hg : g ∈ X ∨ a.heap.size ≤ g) (o : Nat) (v : Value) : Keeps X a (b.setCell ⟨g, o, none⟩ v) := by
  refine ⟨h.os, h.tape, h.output, by simpa [World.setCell] using h.size, fun i hi hx => ?_⟩
  refine (cell_other ?_).trans (h.block i hi hx)
  rcases hg with hg | hg
  · rintro rfl; exact hx hg
  · omega
/-- A row stays where its blocks stay. -/
theorem own_same {w w' : World} {base : Nat} {e : TypeId} {size : Nat} {v : Value} {n : Nat} {xs : List Value} (h : w.ownsRow base e size v n xs) (hk : ∀ k, base ≤ k → k < w.heap.size → w'.heap[k]? = w.heap[k]?) : w'.ownsRow base e size v n xs := by
  refine ⟨h.1, h.2.imp id ?_⟩
  rintro ⟨g, cap, cur, hv, hb, hg, r⟩
  exact ⟨g, cap, cur, hv, hb, by rw [hk g hb (Array.getElem?_eq_some_iff.1 hg).1]; exact hg, r⟩

theorem Keeps.setRow {X : List Nat} {a b : World} (h : Keeps X a b) {g : Nat} (hg : g ∈ X ∨ a.heap.size ≤ g) (cs : Array Value) : Keeps X a (b.setRow g cs) := by
  refine ⟨h.os, h.tape, h.output, by simpa using h.size, fun i hi hx => ?_⟩
  refine (setRow_other b g i cs ?_).trans (h.block i hi hx)
  rcases hg with hg | hg
  · rintro rfl; exact hx hg
  · omega

theorem non_of {a b : World} (e : Ext a b) : a.grownBy b none := ⟨e.os, e.tape, e.output, e.size, fun k hk _ => e.block k hk⟩
theorem non_ext {a b c : World} (h : a.grownBy b none) (e : Ext b c) : a.grownBy c none := but_trans h (non_of e)

/-- An exchange lies in block g. -/
def ExAt (w : World) (g : Nat) (x : Ex) (v : Value) : Prop := w.heap[g]? = some (.cells (x.arr v) 33 (0, 0))
theorem ExAt.ext {w w' : World} {g : Nat} {x : Ex} {v : Value} (h : ExAt w g x v) (e : Ext w w') : ExAt w' g x v := heap_ext h e
/-- What was heard, in a row of the call's own. -/
def Own (w : World) (B : Nat) (h : List Lt) (v : Value) : Prop := w.ownsRow B 24 5 v h.length (h.flatMap Lt.cs)
theorem Own.ext {w w' : World} {B : Nat} {h : List Lt} {v : Value} (o : Own w B h v) (e : Ext w w') : Own w' B h v := own_ext o e
theorem Own.row {w : World} {B : Nat} {h : List Lt} {v : Value} (o : Own w B h v) : Row w 5 v h.length (h.flatMap Lt.cs) := Row.of_own o
end Go.Proofs.YtlnmhocehgmbbaaGreatDoor

/-
  Walks: are two exchanges the same? No condition.
-/
namespace Go.Proofs.YtlnmhocehgmbbaaGreatDoor
open Go.RowKit
attribute [local go_sem ↓] eql_lEq eql_sEq eql_eEq eql_oEq neq_lEq neq_sEq neq_eEq neq_oEq eql_vEq neq_vEq eql_nil neq_bEq2
attribute [local go_sem] ExtOf.cell ExtOf.frozen ExtOf.lt ExtOf.le
attribute [local go_sem high] ExtOf.cell2 ExtOf.frozen2 ExtOf.lt2 ExtOf.cell3 ExtOf.frozen3 ExtOf.lt3

/-- A part of a block, loaded behind a guard. -/
theorem wpList_load_midG {P : Program} {ops : Array Oper} {rest : List Oper} {o : Oper} {a : Act} {w : World} {Q : Exit → Act → World → Prop} (ty : TypeId) (x : Operand) (ho : o.op = .load ty x)
    (b f : Nat) (hx : a.eval x = .pointer (some ⟨b, f, none⟩)) (hwt : Region.wanted o (yielded ops a.tmps) = true) (cs : List Value) (d : TypeDesc) (hc : w.rangeAt b f cs)
    (hu : P.underlying ty = some d) (hd : d.isRow = true) (hi : (P.info? ty).map (·.size) = some cs.length)
    (h : wpList P ops Q rest (a.put o.dst (.agg cs.toArray)) w) : wpList P ops Q (o :: rest) a w := by
  unfold wpList
  rw [if_pos hwt]
  exact .inl (wp_load_mid ty x ho b f hx cs d hc hu hd hi h)
/-- The cells of both states. -/
def Ex.sts (x : Ex) : List Value := [.int .i64 x.s0.r, .int .u64 x.s0.c, .string x.s0.t, .int .i64 x.s0.ph, .int .i64 x.s0.p.k, .int .i64 x.s0.p.f, .int .u64 x.s0.p.c, .string x.s0.p.t, .bool x.s0.p.b,
  .int .i64 x.s1.r, .int .u64 x.s1.c, .string x.s1.t, .int .i64 x.s1.ph, .int .i64 x.s1.p.k, .int .i64 x.s1.p.f, .int .u64 x.s1.p.c, .string x.s1.p.t, .bool x.s1.p.b]
theorem range_of_row {w : World} {b : Nat} {A : Array Value} {t : TypeId} (h : w.heap[b]? = some (.cells A t (0, 0))) (o n : Nat) (cs : List Value) (hc : (A.toList.drop o).take n = cs) : w.rangeAt b o cs := fun j v hj => by
  rw [cell_of_row w b _ _ _ _ h, ← Array.getElem?_toList]
  subst hc
  have hj' : j < n := by
    have := (List.getElem?_eq_some_iff.1 hj).1
    rw [List.length_take] at this
    omega
  rw [List.getElem?_take_of_lt hj', List.getElem?_drop] at hj
  exact hj
/-- Are both states the same? -/
def stsEq (x y : Ex) : Bool := sEq2 x.s0.r x.s0.c x.s0.t x.s0.ph x.s0.p.k x.s0.p.f x.s0.p.c x.s0.p.t x.s0.p.b x.s1.r x.s1.c x.s1.t x.s1.ph x.s1.p.k x.s1.p.f x.s1.p.c x.s1.p.t x.s1.p.b y.s0.r y.s0.c y.s0.t y.s0.ph y.s0.p.k y.s0.p.f y.s0.p.c y.s0.p.t y.s0.p.b y.s1.r y.s1.c y.s1.t y.s1.ph y.s1.p.k y.s1.p.f y.s1.p.c y.s1.p.t y.s1.p.b
theorem neq_sts (x y : Ex) (w : World) : (binOp .neq 27 (.agg x.sts.toArray) (.agg y.sts.toArray)).run Tryz.prog w = .ok (.bool (!(stsEq x y))) w := neq_sEq2 x.s0.r x.s0.c x.s0.t x.s0.ph x.s0.p.k x.s0.p.f x.s0.p.c x.s0.p.t x.s0.p.b x.s1.r x.s1.c x.s1.t x.s1.ph x.s1.p.k x.s1.p.f x.s1.p.c x.s1.p.t x.s1.p.b y.s0.r y.s0.c y.s0.t y.s0.ph y.s0.p.k y.s0.p.f y.s0.p.c y.s0.p.t y.s0.p.b y.s1.r y.s1.c y.s1.t y.s1.ph y.s1.p.k y.s1.p.f y.s1.p.c y.s1.p.t y.s1.p.b w
attribute [local go_sem ↓] neq_sts
theorem info_sts : (Tryz.prog.info? 27).map (·.size) = some 18 := by kernel_rfl
theorem info_stx (x : Ex) : (Tryz.prog.info? 27).map (·.size) = some x.sts.length := info_sts

set_option maxRecDepth 100000 in
set_option maxHeartbeats 3200000 in
theorem same_no1 (x y : Ex) (v v' : Value) (w : World) (hR : Hrd w x v) (hR' : Hrd w y v')  (t1 : x.c ≠ y.c) : Calls Tryz.prog 55 #[.agg (x.arr v), .agg (y.arr v')] w fun e w' => e = .returned (.bool false) ∧ Ext w w' := by
  obtain ⟨a, cap, rfl, hm, hvw⟩ := row_view hR
  obtain ⟨a', cap', rfl, hm', hvw'⟩ := row_view hR'
  clear hvw hvw' hm'
  unfold maxLen at hm
  go_enter Tryz.func55, Tryz.ntmps55
  go_upto_region 1 with fail
  refine wp_forget (fun w' => w'.heap[w.heap.size]? = some (.cells (x.arr (.slice a x.h.length cap)) 33 (0, 0)) ∧ w'.heap[w.heap.size + 1]? = some (.cells (y.arr (.slice a' y.h.length cap')) 33 (0, 0)) ∧ Ext w w') ⟨heap_ext (heap_ext (heap_new rfl) ((Ext.refl _).alloc _)) (Ext.refl _), heap_ext (heap_new (by simp)) (Ext.refl _), (((Ext.refl _).alloc _).alloc _)⟩ ?_
  rintro W1 ⟨h1, h2, x1⟩
  revert h1 h2
  generalize w.heap.size + 1 = g2
  generalize w.heap.size = g1
  intro h1 h2
  have r1 : W1.rangeAt g1 1 x.sts := range_of_row h1 1 18 _ rfl
  have r2 : W1.rangeAt g2 1 y.sts := range_of_row h2 1 18 _ rfl
  have R1 := Lib.hid r1
  have R2 := Lib.hid r2
  clear r1 r2
  unfold Ex.arr at h1 h2
  have c1_0 := cell_of_row W1 _ 0 _ _ _ h1
  have c2_0 := cell_of_row W1 _ 0 _ _ _ h2
  have c1_19 := cell_of_row W1 _ 19 _ _ _ h1
  have c2_19 := cell_of_row W1 _ 19 _ _ _ h2
  have c1_20 := cell_of_row W1 _ 20 _ _ _ h1
  have c2_20 := cell_of_row W1 _ 20 _ _ _ h2
  have c1_21 := cell_of_row W1 _ 21 _ _ _ h1
  have c2_21 := cell_of_row W1 _ 21 _ _ _ h2
  have c1_22 := cell_of_row W1 _ 22 _ _ _ h1
  have c2_22 := cell_of_row W1 _ 22 _ _ _ h2
  have c1_23 := cell_of_row W1 _ 23 _ _ _ h1
  have c2_23 := cell_of_row W1 _ 23 _ _ _ h2
  have c1_24 := cell_of_row W1 _ 24 _ _ _ h1
  have c2_24 := cell_of_row W1 _ 24 _ _ _ h2
  have c1_25 := cell_of_row W1 _ 25 _ _ _ h1
  have c2_25 := cell_of_row W1 _ 25 _ _ _ h2
  have l1 : g1 < W1.heap.size := (Array.getElem?_eq_some_iff.1 h1).1
  have l2 : g2 < W1.heap.size := (Array.getElem?_eq_some_iff.1 h2).1
  have X1 := Lib.hid x1
  clear h1 h2 x1
  go_wp2_with (first | ((with_reducible refine wpList_load_midG 27 (.tmp 15) ?_ g1 1 ?_ ?_ x.sts (.array 2 26) ?_ ?_ ?_ ?_ ?_); (· rfl); (· rfl); (· kernel_rfl); (· exact R1.out); (· exact Tryz.underlying27); (· rfl); (· exact info_stx _)) | ((with_reducible refine wpList_load_midG 27 (.tmp 17) ?_ g2 1 ?_ ?_ y.sts (.array 2 26) ?_ ?_ ?_ ?_ ?_); (· rfl); (· rfl); (· kernel_rfl); (· exact R2.out); (· exact Tryz.underlying27); (· rfl); (· exact info_stx _)))
  go_ret
  exact ⟨rfl, X1.out⟩

set_option maxRecDepth 100000 in
set_option maxHeartbeats 3200000 in
theorem same_no2 (x y : Ex) (v v' : Value) (w : World) (hR : Hrd w x v) (hR' : Hrd w y v') (t1 : x.c = y.c) (t2 : stsEq x y = false) : Calls Tryz.prog 55 #[.agg (x.arr v), .agg (y.arr v')] w fun e w' => e = .returned (.bool false) ∧ Ext w w' := by
  obtain ⟨a, cap, rfl, hm, hvw⟩ := row_view hR
  obtain ⟨a', cap', rfl, hm', hvw'⟩ := row_view hR'
  clear hvw hvw' hm'
  unfold maxLen at hm
  go_enter Tryz.func55, Tryz.ntmps55
  go_upto_region 1 with fail
  refine wp_forget (fun w' => w'.heap[w.heap.size]? = some (.cells (x.arr (.slice a x.h.length cap)) 33 (0, 0)) ∧ w'.heap[w.heap.size + 1]? = some (.cells (y.arr (.slice a' y.h.length cap')) 33 (0, 0)) ∧ Ext w w') ⟨heap_ext (heap_ext (heap_new rfl) ((Ext.refl _).alloc _)) (Ext.refl _), heap_ext (heap_new (by simp)) (Ext.refl _), (((Ext.refl _).alloc _).alloc _)⟩ ?_
  rintro W1 ⟨h1, h2, x1⟩
  revert h1 h2
  generalize w.heap.size + 1 = g2
  generalize w.heap.size = g1
  intro h1 h2
  have r1 : W1.rangeAt g1 1 x.sts := range_of_row h1 1 18 _ rfl
  have r2 : W1.rangeAt g2 1 y.sts := range_of_row h2 1 18 _ rfl
  have R1 := Lib.hid r1
  have R2 := Lib.hid r2
  clear r1 r2
  unfold Ex.arr at h1 h2
  have c1_0 := cell_of_row W1 _ 0 _ _ _ h1
  have c2_0 := cell_of_row W1 _ 0 _ _ _ h2
  have c1_19 := cell_of_row W1 _ 19 _ _ _ h1
  have c2_19 := cell_of_row W1 _ 19 _ _ _ h2
  have c1_20 := cell_of_row W1 _ 20 _ _ _ h1
  have c2_20 := cell_of_row W1 _ 20 _ _ _ h2
  have c1_21 := cell_of_row W1 _ 21 _ _ _ h1
  have c2_21 := cell_of_row W1 _ 21 _ _ _ h2
  have c1_22 := cell_of_row W1 _ 22 _ _ _ h1
  have c2_22 := cell_of_row W1 _ 22 _ _ _ h2
  have c1_23 := cell_of_row W1 _ 23 _ _ _ h1
  have c2_23 := cell_of_row W1 _ 23 _ _ _ h2
  have c1_24 := cell_of_row W1 _ 24 _ _ _ h1
  have c2_24 := cell_of_row W1 _ 24 _ _ _ h2
  have c1_25 := cell_of_row W1 _ 25 _ _ _ h1
  have c2_25 := cell_of_row W1 _ 25 _ _ _ h2
  have l1 : g1 < W1.heap.size := (Array.getElem?_eq_some_iff.1 h1).1
  have l2 : g2 < W1.heap.size := (Array.getElem?_eq_some_iff.1 h2).1
  have X1 := Lib.hid x1
  clear h1 h2 x1
  go_wp2_with (first | ((with_reducible refine wpList_load_midG 27 (.tmp 15) ?_ g1 1 ?_ ?_ x.sts (.array 2 26) ?_ ?_ ?_ ?_ ?_); (· rfl); (· rfl); (· kernel_rfl); (· exact R1.out); (· exact Tryz.underlying27); (· rfl); (· exact info_stx _)) | ((with_reducible refine wpList_load_midG 27 (.tmp 17) ?_ g2 1 ?_ ?_ y.sts (.array 2 26) ?_ ?_ ?_ ?_ ?_); (· rfl); (· rfl); (· kernel_rfl); (· exact R2.out); (· exact Tryz.underlying27); (· rfl); (· exact info_stx _)))
  go_ret
  exact ⟨rfl, X1.out⟩

set_option maxRecDepth 100000 in
set_option maxHeartbeats 3200000 in
theorem same_no3 (x y : Ex) (v v' : Value) (w : World) (hR : Hrd w x v) (hR' : Hrd w y v') (t1 : x.c = y.c) (t2 : stsEq x y = true) (t3 : vEq x.v.c x.v.k x.v.t y.v.c y.v.k y.v.t = false) : Calls Tryz.prog 55 #[.agg (x.arr v), .agg (y.arr v')] w fun e w' => e = .returned (.bool false) ∧ Ext w w' := by
  obtain ⟨a, cap, rfl, hm, hvw⟩ := row_view hR
  obtain ⟨a', cap', rfl, hm', hvw'⟩ := row_view hR'
  clear hvw hvw' hm'
  unfold maxLen at hm
  go_enter Tryz.func55, Tryz.ntmps55
  go_upto_region 1 with fail
  refine wp_forget (fun w' => w'.heap[w.heap.size]? = some (.cells (x.arr (.slice a x.h.length cap)) 33 (0, 0)) ∧ w'.heap[w.heap.size + 1]? = some (.cells (y.arr (.slice a' y.h.length cap')) 33 (0, 0)) ∧ Ext w w') ⟨heap_ext (heap_ext (heap_new rfl) ((Ext.refl _).alloc _)) (Ext.refl _), heap_ext (heap_new (by simp)) (Ext.refl _), (((Ext.refl _).alloc _).alloc _)⟩ ?_
  rintro W1 ⟨h1, h2, x1⟩
  revert h1 h2
  generalize w.heap.size + 1 = g2
  generalize w.heap.size = g1
  intro h1 h2
  have r1 : W1.rangeAt g1 1 x.sts := range_of_row h1 1 18 _ rfl
  have r2 : W1.rangeAt g2 1 y.sts := range_of_row h2 1 18 _ rfl
  have R1 := Lib.hid r1
  have R2 := Lib.hid r2
  clear r1 r2
  unfold Ex.arr at h1 h2
  have c1_0 := cell_of_row W1 _ 0 _ _ _ h1
  have c2_0 := cell_of_row W1 _ 0 _ _ _ h2
  have c1_19 := cell_of_row W1 _ 19 _ _ _ h1
  have c2_19 := cell_of_row W1 _ 19 _ _ _ h2
  have c1_20 := cell_of_row W1 _ 20 _ _ _ h1
  have c2_20 := cell_of_row W1 _ 20 _ _ _ h2
  have c1_21 := cell_of_row W1 _ 21 _ _ _ h1
  have c2_21 := cell_of_row W1 _ 21 _ _ _ h2
  have c1_22 := cell_of_row W1 _ 22 _ _ _ h1
  have c2_22 := cell_of_row W1 _ 22 _ _ _ h2
  have c1_23 := cell_of_row W1 _ 23 _ _ _ h1
  have c2_23 := cell_of_row W1 _ 23 _ _ _ h2
  have c1_24 := cell_of_row W1 _ 24 _ _ _ h1
  have c2_24 := cell_of_row W1 _ 24 _ _ _ h2
  have c1_25 := cell_of_row W1 _ 25 _ _ _ h1
  have c2_25 := cell_of_row W1 _ 25 _ _ _ h2
  have l1 : g1 < W1.heap.size := (Array.getElem?_eq_some_iff.1 h1).1
  have l2 : g2 < W1.heap.size := (Array.getElem?_eq_some_iff.1 h2).1
  have X1 := Lib.hid x1
  clear h1 h2 x1
  go_wp2_with (first | ((with_reducible refine wpList_load_midG 27 (.tmp 15) ?_ g1 1 ?_ ?_ x.sts (.array 2 26) ?_ ?_ ?_ ?_ ?_); (· rfl); (· rfl); (· kernel_rfl); (· exact R1.out); (· exact Tryz.underlying27); (· rfl); (· exact info_stx _)) | ((with_reducible refine wpList_load_midG 27 (.tmp 17) ?_ g2 1 ?_ ?_ y.sts (.array 2 26) ?_ ?_ ?_ ?_ ?_); (· rfl); (· rfl); (· kernel_rfl); (· exact R2.out); (· exact Tryz.underlying27); (· rfl); (· exact info_stx _)))
  go_ret
  exact ⟨rfl, X1.out⟩

set_option maxRecDepth 100000 in
set_option maxHeartbeats 3200000 in
theorem same_no4 (x y : Ex) (v v' : Value) (w : World) (hR : Hrd w x v) (hR' : Hrd w y v') (t1 : x.c = y.c) (t2 : stsEq x y = true) (t3 : vEq x.v.c x.v.k x.v.t y.v.c y.v.k y.v.t = true) (t4 : bEq2 x.b0 x.b1 y.b0 y.b1 = false) : Calls Tryz.prog 55 #[.agg (x.arr v), .agg (y.arr v')] w fun e w' => e = .returned (.bool false) ∧ Ext w w' := by
  obtain ⟨a, cap, rfl, hm, hvw⟩ := row_view hR
  obtain ⟨a', cap', rfl, hm', hvw'⟩ := row_view hR'
  clear hvw hvw' hm'
  unfold maxLen at hm
  go_enter Tryz.func55, Tryz.ntmps55
  go_upto_region 1 with fail
  refine wp_forget (fun w' => w'.heap[w.heap.size]? = some (.cells (x.arr (.slice a x.h.length cap)) 33 (0, 0)) ∧ w'.heap[w.heap.size + 1]? = some (.cells (y.arr (.slice a' y.h.length cap')) 33 (0, 0)) ∧ Ext w w') ⟨heap_ext (heap_ext (heap_new rfl) ((Ext.refl _).alloc _)) (Ext.refl _), heap_ext (heap_new (by simp)) (Ext.refl _), (((Ext.refl _).alloc _).alloc _)⟩ ?_
  rintro W1 ⟨h1, h2, x1⟩
  revert h1 h2
  generalize w.heap.size + 1 = g2
  generalize w.heap.size = g1
  intro h1 h2
  have r1 : W1.rangeAt g1 1 x.sts := range_of_row h1 1 18 _ rfl
  have r2 : W1.rangeAt g2 1 y.sts := range_of_row h2 1 18 _ rfl
  have R1 := Lib.hid r1
  have R2 := Lib.hid r2
  clear r1 r2
  unfold Ex.arr at h1 h2
  have c1_0 := cell_of_row W1 _ 0 _ _ _ h1
  have c2_0 := cell_of_row W1 _ 0 _ _ _ h2
  have c1_19 := cell_of_row W1 _ 19 _ _ _ h1
  have c2_19 := cell_of_row W1 _ 19 _ _ _ h2
  have c1_20 := cell_of_row W1 _ 20 _ _ _ h1
  have c2_20 := cell_of_row W1 _ 20 _ _ _ h2
  have c1_21 := cell_of_row W1 _ 21 _ _ _ h1
  have c2_21 := cell_of_row W1 _ 21 _ _ _ h2
  have c1_22 := cell_of_row W1 _ 22 _ _ _ h1
  have c2_22 := cell_of_row W1 _ 22 _ _ _ h2
  have c1_23 := cell_of_row W1 _ 23 _ _ _ h1
  have c2_23 := cell_of_row W1 _ 23 _ _ _ h2
  have c1_24 := cell_of_row W1 _ 24 _ _ _ h1
  have c2_24 := cell_of_row W1 _ 24 _ _ _ h2
  have c1_25 := cell_of_row W1 _ 25 _ _ _ h1
  have c2_25 := cell_of_row W1 _ 25 _ _ _ h2
  have l1 : g1 < W1.heap.size := (Array.getElem?_eq_some_iff.1 h1).1
  have l2 : g2 < W1.heap.size := (Array.getElem?_eq_some_iff.1 h2).1
  have X1 := Lib.hid x1
  clear h1 h2 x1
  go_wp2_with (first | ((with_reducible refine wpList_load_midG 27 (.tmp 15) ?_ g1 1 ?_ ?_ x.sts (.array 2 26) ?_ ?_ ?_ ?_ ?_); (· rfl); (· rfl); (· kernel_rfl); (· exact R1.out); (· exact Tryz.underlying27); (· rfl); (· exact info_stx _)) | ((with_reducible refine wpList_load_midG 27 (.tmp 17) ?_ g2 1 ?_ ?_ y.sts (.array 2 26) ?_ ?_ ?_ ?_ ?_); (· rfl); (· rfl); (· kernel_rfl); (· exact R2.out); (· exact Tryz.underlying27); (· rfl); (· exact info_stx _)))
  go_ret
  exact ⟨rfl, X1.out⟩

set_option maxRecDepth 100000 in
set_option maxHeartbeats 3200000 in
theorem same_no5 (x y : Ex) (v v' : Value) (w : World) (hR : Hrd w x v) (hR' : Hrd w y v') (t1 : x.c = y.c) (t2 : stsEq x y = true) (t3 : vEq x.v.c x.v.k x.v.t y.v.c y.v.k y.v.t = true) (t4 : bEq2 x.b0 x.b1 y.b0 y.b1 = true) (t5 : x.full ≠ y.full) : Calls Tryz.prog 55 #[.agg (x.arr v), .agg (y.arr v')] w fun e w' => e = .returned (.bool false) ∧ Ext w w' := by
  obtain ⟨a, cap, rfl, hm, hvw⟩ := row_view hR
  obtain ⟨a', cap', rfl, hm', hvw'⟩ := row_view hR'
  clear hvw hvw' hm'
  unfold maxLen at hm
  go_enter Tryz.func55, Tryz.ntmps55
  go_upto_region 1 with fail
  refine wp_forget (fun w' => w'.heap[w.heap.size]? = some (.cells (x.arr (.slice a x.h.length cap)) 33 (0, 0)) ∧ w'.heap[w.heap.size + 1]? = some (.cells (y.arr (.slice a' y.h.length cap')) 33 (0, 0)) ∧ Ext w w') ⟨heap_ext (heap_ext (heap_new rfl) ((Ext.refl _).alloc _)) (Ext.refl _), heap_ext (heap_new (by simp)) (Ext.refl _), (((Ext.refl _).alloc _).alloc _)⟩ ?_
  rintro W1 ⟨h1, h2, x1⟩
  revert h1 h2
  generalize w.heap.size + 1 = g2
  generalize w.heap.size = g1
  intro h1 h2
  have r1 : W1.rangeAt g1 1 x.sts := range_of_row h1 1 18 _ rfl
  have r2 : W1.rangeAt g2 1 y.sts := range_of_row h2 1 18 _ rfl
  have R1 := Lib.hid r1
  have R2 := Lib.hid r2
  clear r1 r2
  unfold Ex.arr at h1 h2
  have c1_0 := cell_of_row W1 _ 0 _ _ _ h1
  have c2_0 := cell_of_row W1 _ 0 _ _ _ h2
  have c1_19 := cell_of_row W1 _ 19 _ _ _ h1
  have c2_19 := cell_of_row W1 _ 19 _ _ _ h2
  have c1_20 := cell_of_row W1 _ 20 _ _ _ h1
  have c2_20 := cell_of_row W1 _ 20 _ _ _ h2
  have c1_21 := cell_of_row W1 _ 21 _ _ _ h1
  have c2_21 := cell_of_row W1 _ 21 _ _ _ h2
  have c1_22 := cell_of_row W1 _ 22 _ _ _ h1
  have c2_22 := cell_of_row W1 _ 22 _ _ _ h2
  have c1_23 := cell_of_row W1 _ 23 _ _ _ h1
  have c2_23 := cell_of_row W1 _ 23 _ _ _ h2
  have c1_24 := cell_of_row W1 _ 24 _ _ _ h1
  have c2_24 := cell_of_row W1 _ 24 _ _ _ h2
  have c1_25 := cell_of_row W1 _ 25 _ _ _ h1
  have c2_25 := cell_of_row W1 _ 25 _ _ _ h2
  have l1 : g1 < W1.heap.size := (Array.getElem?_eq_some_iff.1 h1).1
  have l2 : g2 < W1.heap.size := (Array.getElem?_eq_some_iff.1 h2).1
  have X1 := Lib.hid x1
  clear h1 h2 x1
  go_wp2_with (first | ((with_reducible refine wpList_load_midG 27 (.tmp 15) ?_ g1 1 ?_ ?_ x.sts (.array 2 26) ?_ ?_ ?_ ?_ ?_); (· rfl); (· rfl); (· kernel_rfl); (· exact R1.out); (· exact Tryz.underlying27); (· rfl); (· exact info_stx _)) | ((with_reducible refine wpList_load_midG 27 (.tmp 17) ?_ g2 1 ?_ ?_ y.sts (.array 2 26) ?_ ?_ ?_ ?_ ?_); (· rfl); (· rfl); (· kernel_rfl); (· exact R2.out); (· exact Tryz.underlying27); (· rfl); (· exact info_stx _)))
  go_ret
  exact ⟨rfl, X1.out⟩

set_option maxRecDepth 100000 in
set_option maxHeartbeats 3200000 in
theorem same_no6 (x y : Ex) (v v' : Value) (w : World) (hR : Hrd w x v) (hR' : Hrd w y v') (t1 : x.c = y.c) (t2 : stsEq x y = true) (t3 : vEq x.v.c x.v.k x.v.t y.v.c y.v.k y.v.t = true) (t4 : bEq2 x.b0 x.b1 y.b0 y.b1 = true) (t5 : x.full = y.full) (t6 : (x.h.length : Int) ≠ (y.h.length : Int)) : Calls Tryz.prog 55 #[.agg (x.arr v), .agg (y.arr v')] w fun e w' => e = .returned (.bool false) ∧ Ext w w' := by
  obtain ⟨a, cap, rfl, hm, hvw⟩ := row_view hR
  obtain ⟨a', cap', rfl, hm', hvw'⟩ := row_view hR'
  clear hvw hvw' hm'
  unfold maxLen at hm
  go_enter Tryz.func55, Tryz.ntmps55
  go_upto_region 1 with fail
  refine wp_forget (fun w' => w'.heap[w.heap.size]? = some (.cells (x.arr (.slice a x.h.length cap)) 33 (0, 0)) ∧ w'.heap[w.heap.size + 1]? = some (.cells (y.arr (.slice a' y.h.length cap')) 33 (0, 0)) ∧ Ext w w') ⟨heap_ext (heap_ext (heap_new rfl) ((Ext.refl _).alloc _)) (Ext.refl _), heap_ext (heap_new (by simp)) (Ext.refl _), (((Ext.refl _).alloc _).alloc _)⟩ ?_
  rintro W1 ⟨h1, h2, x1⟩
  revert h1 h2
  generalize w.heap.size + 1 = g2
  generalize w.heap.size = g1
  intro h1 h2
  have r1 : W1.rangeAt g1 1 x.sts := range_of_row h1 1 18 _ rfl
  have r2 : W1.rangeAt g2 1 y.sts := range_of_row h2 1 18 _ rfl
  have R1 := Lib.hid r1
  have R2 := Lib.hid r2
  clear r1 r2
  unfold Ex.arr at h1 h2
  have c1_0 := cell_of_row W1 _ 0 _ _ _ h1
  have c2_0 := cell_of_row W1 _ 0 _ _ _ h2
  have c1_19 := cell_of_row W1 _ 19 _ _ _ h1
  have c2_19 := cell_of_row W1 _ 19 _ _ _ h2
  have c1_20 := cell_of_row W1 _ 20 _ _ _ h1
  have c2_20 := cell_of_row W1 _ 20 _ _ _ h2
  have c1_21 := cell_of_row W1 _ 21 _ _ _ h1
  have c2_21 := cell_of_row W1 _ 21 _ _ _ h2
  have c1_22 := cell_of_row W1 _ 22 _ _ _ h1
  have c2_22 := cell_of_row W1 _ 22 _ _ _ h2
  have c1_23 := cell_of_row W1 _ 23 _ _ _ h1
  have c2_23 := cell_of_row W1 _ 23 _ _ _ h2
  have c1_24 := cell_of_row W1 _ 24 _ _ _ h1
  have c2_24 := cell_of_row W1 _ 24 _ _ _ h2
  have c1_25 := cell_of_row W1 _ 25 _ _ _ h1
  have c2_25 := cell_of_row W1 _ 25 _ _ _ h2
  have l1 : g1 < W1.heap.size := (Array.getElem?_eq_some_iff.1 h1).1
  have l2 : g2 < W1.heap.size := (Array.getElem?_eq_some_iff.1 h2).1
  have X1 := Lib.hid x1
  clear h1 h2 x1
  go_wp2_with (first | ((with_reducible refine wpList_load_midG 27 (.tmp 15) ?_ g1 1 ?_ ?_ x.sts (.array 2 26) ?_ ?_ ?_ ?_ ?_); (· rfl); (· rfl); (· kernel_rfl); (· exact R1.out); (· exact Tryz.underlying27); (· rfl); (· exact info_stx _)) | ((with_reducible refine wpList_load_midG 27 (.tmp 17) ?_ g2 1 ?_ ?_ y.sts (.array 2 26) ?_ ?_ ?_ ?_ ?_); (· rfl); (· rfl); (· kernel_rfl); (· exact R2.out); (· exact Tryz.underlying27); (· rfl); (· exact info_stx _)))
  go_ret
  exact ⟨rfl, X1.out⟩

theorem Ext.grown {a w w' : World} {X : Nat} (h : Ext a w) (g : w.grownBy w' (some X)) (hX : a.heap.size ≤ X) : Ext a w' :=
  ⟨g.os.trans h.os, g.tape.trans h.tape, g.output.trans h.output, Nat.le_trans h.size g.size, fun k hk => (g.block k (Nat.lt_of_lt_of_le hk h.size) (by simp; omega)).trans (h.block k hk)⟩
/-- What was not met yet of what y heard. -/
def Left (x y : Ex) (n : Nat) (R : List Lt) : Prop := R.length + n = y.h.length ∧ (x.h.take n ++ R).Perm y.h
theorem left_no {x y : Ex} {n : Nat} {R : List Lt} {l : Lt} (h : Left x y n R) (hl : x.h[n]? = some l) (hm : l ∉ R) : ¬ x.h.Perm y.h := fun hp => by
  have h1 := h.2.trans hp.symm
  have h2 : (x.h.take n ++ R).Perm (x.h.take n ++ x.h.drop n) := by rw [List.take_append_drop]; exact h1
  have h3 := (List.perm_append_left_iff _).1 h2
  have h4 : l ∈ x.h.drop n := List.mem_of_getElem? (i := 0) (by rw [List.getElem?_drop]; exact hl)
  exact hm (h3.mem_iff.2 h4)
theorem left_step {x y : Ex} {n i : Nat} {R : List Lt} {l : Lt} (h : Left x y n R) (hl : x.h[n]? = some l) (hi : R[i]? = some l) : Left x y (n + 1) (R.eraseIdx i) := by
  have hi' := (List.getElem?_eq_some_iff.1 hi).1
  refine ⟨by rw [List.length_eraseIdx_of_lt hi']; have := h.1; omega, ?_⟩
  have h1 : x.h.take (n + 1) = x.h.take n ++ [l] := by rw [List.take_add_one, hl]; rfl
  have h2 : R.Perm (l :: R.eraseIdx i) := by
    rw [erase_eq]
    have h3 : R = R.take i ++ l :: R.drop (i + 1) := by
      conv => lhs; rw [← List.take_append_drop i R]
      rw [List.drop_eq_getElem_cons hi', (List.getElem?_eq_some_iff.1 hi).2]
    conv => lhs; rw [h3]
    exact List.perm_middle
  rw [h1, List.append_assoc]
  exact ((List.Perm.append_left _ h2).symm).trans h.2
theorem left_all {x y : Ex} {R : List Lt} (h : Left x y x.h.length R) (hn : x.h.length = y.h.length) : x.h.Perm y.h := by
  have h1 : R = [] := List.length_eq_zero_iff.1 (by have := h.1; omega)
  have h2 := h.2
  rwa [h1, List.append_nil, List.take_length] at h2

set_option maxRecDepth 100000 in
set_option maxHeartbeats 6400000 in
theorem same_yes (x y : Ex) (v v' : Value) (w : World) (B0 : Nat) (hR : Hrd w x v) (hO : Own w B0 y.h v') (hn : y.h.length ≤ 100000) (t1 : x.c = y.c) (t2 : stsEq x y = true) (t3 : vEq x.v.c x.v.k x.v.t y.v.c y.v.k y.v.t = true) (t4 : bEq2 x.b0 x.b1 y.b0 y.b1 = true) (t5 : x.full = y.full) (t6 : (x.h.length : Int) = (y.h.length : Int)) : Calls Tryz.prog 55 #[.agg (x.arr v), .agg (y.arr v')] w fun e w' => e = .returned (.bool (decide (x.h.Perm y.h))) ∧ Ext w w' := by
  have hR' : Hrd w y v' := Row.of_own hO
  have t6' : x.h.length = y.h.length := by omega
  have HN := Lib.hid t6'
  have HO := Lib.hid hO
  clear t6' hO
  obtain ⟨a, cap, rfl, hm, hvw⟩ := row_view hR
  obtain ⟨a', cap', rfl, hm', hvw'⟩ := row_view hR'
  have HV := Lib.hid hvw
  clear hvw hvw' hm'
  unfold maxLen at hm
  go_enter Tryz.func55, Tryz.ntmps55
  go_upto_region 1 with fail
  refine wp_forget (fun w' => w'.heap[w.heap.size]? = some (.cells (x.arr (.slice a x.h.length cap)) 33 (0, 0)) ∧ w'.heap[w.heap.size + 1]? = some (.cells (y.arr (.slice a' y.h.length cap')) 33 (0, 0)) ∧ Ext w w') ⟨heap_ext (heap_ext (heap_new rfl) ((Ext.refl _).alloc _)) (Ext.refl _), heap_ext (heap_new (by simp)) (Ext.refl _), (((Ext.refl _).alloc _).alloc _)⟩ ?_
  rintro W1 ⟨h1, h2, x1⟩
  revert h1 h2
  generalize w.heap.size + 1 = g2
  generalize w.heap.size = g1
  intro h1 h2
  have r1 : W1.rangeAt g1 1 x.sts := range_of_row h1 1 18 _ rfl
  have r2 : W1.rangeAt g2 1 y.sts := range_of_row h2 1 18 _ rfl
  have R1 := Lib.hid r1
  have R2 := Lib.hid r2
  clear r1 r2
  have H1 := Lib.hid h1
  unfold Ex.arr at h1 h2
  have c1_0 := cell_of_row W1 _ 0 _ _ _ h1
  have c2_0 := cell_of_row W1 _ 0 _ _ _ h2
  have c1_19 := cell_of_row W1 _ 19 _ _ _ h1
  have c2_19 := cell_of_row W1 _ 19 _ _ _ h2
  have c1_20 := cell_of_row W1 _ 20 _ _ _ h1
  have c2_20 := cell_of_row W1 _ 20 _ _ _ h2
  have c1_21 := cell_of_row W1 _ 21 _ _ _ h1
  have c2_21 := cell_of_row W1 _ 21 _ _ _ h2
  have c1_22 := cell_of_row W1 _ 22 _ _ _ h1
  have c2_22 := cell_of_row W1 _ 22 _ _ _ h2
  have c1_23 := cell_of_row W1 _ 23 _ _ _ h1
  have c2_23 := cell_of_row W1 _ 23 _ _ _ h2
  have c1_24 := cell_of_row W1 _ 24 _ _ _ h1
  have c2_24 := cell_of_row W1 _ 24 _ _ _ h2
  have c1_25 := cell_of_row W1 _ 25 _ _ _ h1
  have c2_25 := cell_of_row W1 _ 25 _ _ _ h2
  have l1 : g1 < W1.heap.size := (Array.getElem?_eq_some_iff.1 h1).1
  have l2 : g2 < W1.heap.size := (Array.getElem?_eq_some_iff.1 h2).1
  have X1 := Lib.hid x1
  clear h1 h2 x1
  go_wp2_with (first | ((with_reducible refine wpList_load_midG 27 (.tmp 15) ?_ g1 1 ?_ ?_ x.sts (.array 2 26) ?_ ?_ ?_ ?_ ?_); (· rfl); (· rfl); (· kernel_rfl); (· exact R1.out); (· exact Tryz.underlying27); (· rfl); (· exact info_stx _)) | ((with_reducible refine wpList_load_midG 27 (.tmp 17) ?_ g2 1 ?_ ?_ y.sts (.array 2 26) ?_ ?_ ?_ ?_ ?_); (· rfl); (· rfl); (· kernel_rfl); (· exact R2.out); (· exact Tryz.underlying27); (· rfl); (· exact info_stx _)) | (go_at_call 51; refine (sl_clone _ B0 y.h _ (own_ext HO.out X1.out) hn).mono ?_; rintro e W2 ⟨vr, rfl, hC, hx⟩; have h1 := heap_ext H1.out hx; unfold Ex.arr at h1; have d25 := cell_of_row W2 _ 25 _ _ _ h1; have m1 : g1 < W2.heap.size := (Array.getElem?_eq_some_iff.1 h1).1; have HC := Lib.hid hC; have HX2 := Lib.hid hx; clear h1 hC hx))
  go_loopg [5, 57] x.h.length (fun g rv ii wr => ∃ (n : Nat) (z : ExtOf W1) (R : List Lt), ii = .int .i64 (n : Int) ∧ n + g = x.h.length ∧ wr = z.val ∧ Hid (z.val.ownsRow W1.heap.size 24 5 rv R.length (R.flatMap Lt.cs)) ∧ Hid (Left x y n R))
  case atStart => exact ⟨0, ⟨W2, HX2.out⟩, y.h, rfl, by omega, rfl, HC, Lib.hid ⟨rfl, by simp⟩⟩
  case round =>
    obtain ⟨n, z, R, rfl, hg, rfl, HR, HL⟩ := hrel
    by_cases hlt : n < x.h.length
    · obtain ⟨g, off, rfl, hgl, hcell⟩ := HV.out (by omega)
      have hgl := hgl (by omega)
      obtain ⟨l, hl⟩ : ∃ l, x.h[n]? = some l := ⟨_, List.getElem?_eq_getElem hlt⟩
      obtain ⟨q0, q1, q2, q3, q4⟩ := lt_cellsO (fun j u hj => cell_keep (hcell j u hj) X1.out) hl
      have HLl := Lib.hid hl
      have hgl1 : g < W1.heap.size := Nat.lt_of_lt_of_le hgl X1.out.size
      clear hl hcell hgl
      have hlt' : (n : Int) < (x.h.length : Int) := by omega
      by_cases hm : l ∈ R
      · obtain ⟨gb, cb, hv, hbg⟩ : ∃ gb cb, u5 = .slice (some ⟨gb, 0, none⟩) R.length cb ∧ W1.heap.size ≤ gb := by
          rcases HR.out.2 with ⟨_, h0⟩ | ⟨gb, cb, cur, h0, h1, _⟩
          · have := List.length_pos_of_mem hm
            omega
          · exact ⟨gb, cb, h0, h1⟩
        subst hv
        have HM := Lib.hid hm
        have HBG := Lib.hid hbg
        have hRl : R.length ≤ 100000 := by have := HL.out.1; omega
        clear hm hbg
        go_wp2_with (first | (go_at_call 82; refine (sl_indexE _ R l _ (Row.of_own (own_ext HR.out ((Ext.refl _).alloc _)))).mono ?_; rintro e W3 ⟨m, rfl, hm', hx3⟩; obtain ⟨i, rfl, hi⟩ := hm'.resolve_right (fun h0 => h0.2 HM.out); have hni : ¬ ((i : Int) < 0) := (by omega); have HI := Lib.hid hi; have hi9 : i < 100000 := (Nat.lt_of_lt_of_le (List.getElem?_eq_some_iff.1 hi).1 hRl); have HX3 := Lib.hid ((Ext.alloc (Ext.refl z.val) _).trans hx3); clear hm' hx3 hi) | (go_at_call 83; refine (sl_delete W1.heap.size gb cb i R _ (own_ext HR.out HX3.out) (List.getElem?_eq_some_iff.1 HI.out).1 hRl).mono ?_; rintro e W4 ⟨rfl, hD, hgr⟩; have HD := Lib.hid hD; have HG := Lib.hid (Ext.grown (z.ext.trans HX3.out) hgr HBG.out); clear hD hgr))
        go_roundg (gk - 1)
        case rel =>
          refine ⟨n + 1, ⟨W4, HG.out⟩, R.eraseIdx i, rfl, by omega, rfl, ?_, Lib.hid (left_step HL.out HLl.out HI.out)⟩
          have hd := HD.out
          have he := List.length_eraseIdx_of_lt (List.getElem?_eq_some_iff.1 HI.out).1
          refine Lib.hid ?_
          rw [he]
          exact hd
        case measure => omega
      · have HM := Lib.hid hm
        clear hm
        go_wp2_with (first | (go_at_call 82; refine (sl_indexE _ R l _ (Row.of_own (own_ext HR.out ((Ext.refl _).alloc _)))).mono ?_; rintro e W3 ⟨m, rfl, hm', hx3⟩; have hmm := (hm'.resolve_left (fun ⟨_, _, h0⟩ => HM.out (List.mem_of_getElem? h0))).1; subst hmm; have HX3 := Lib.hid ((Ext.alloc (Ext.refl z.val) _).trans hx3); clear hm' hx3))
        go_ret
        exact ⟨by rw [decide_eq_false (left_no HL.out HLl.out HM.out)]; rfl, (X1.out.val z).trans HX3.out⟩
    · have hge : (x.h.length : Int) ≤ (n : Int) := by omega
      go_wp2_with fail
      go_ret
      have hnn : n = x.h.length := by omega
      subst hnn
      exact ⟨by rw [decide_eq_true (left_all HL.out HN.out)]; rfl, X1.out.val z⟩

theorem sts_iff (x y : Ex) : stsEq x y = true ↔ x.s0 = y.s0 ∧ x.s1 = y.s1 := by
  obtain ⟨xc, ⟨a1, a2, a3, a4, ⟨a5, a6, a7, a8, a9⟩⟩, ⟨b1, b2, b3, b4, ⟨b5, b6, b7, b8, b9⟩⟩, xv, xb0, xb1, xf, xh⟩ := x
  obtain ⟨yc, ⟨c1, c2, c3, c4, ⟨c5, c6, c7, c8, c9⟩⟩, ⟨d1, d2, d3, d4, ⟨d5, d6, d7, d8, d9⟩⟩, yv, yb0, yb1, yf, yh⟩ := y
  simp [stsEq, sEq2, and_assoc]
theorem mo_same (x y : Ex) (v v' : Value) (w : World) (B0 : Nat) (hR : Hrd w x v) (hO : Own w B0 y.h v') (hn : y.h.length ≤ 100000) : Calls Tryz.prog 55 #[.agg (x.arr v), .agg (y.arr v')] w fun e w' => e = .returned (.bool (sameX x y)) ∧ Ext w w' := by
  have hR' : Hrd w y v' := Row.of_own hO
  have no : (¬ SameP x y) → ∀ {e : Ending} {w' : World}, (e = .returned (.bool false) ∧ Ext w w') → (e = .returned (.bool (sameX x y)) ∧ Ext w w') := fun h _ _ h1 => ⟨by rw [h1.1, sameX, decide_eq_false h], h1.2⟩
  by_cases t1 : x.c = y.c
  case neg => exact (same_no1 x y v v' w hR hR' t1).mono fun _ _ h => no (fun s => t1 s.c) h
  cases t2 : stsEq x y
  · exact (same_no2 x y v v' w hR hR' t1 t2).mono fun _ _ h => no (fun s => by rw [(sts_iff x y).2 ⟨s.s0, s.s1⟩] at t2; cases t2) h
  cases t3 : vEq x.v.c x.v.k x.v.t y.v.c y.v.k y.v.t
  · exact (same_no3 x y v v' w hR hR' t1 t2 t3).mono fun _ _ h => no (fun s => by rw [vEq_vd, decide_eq_true s.v] at t3; cases t3) h
  cases t4 : bEq2 x.b0 x.b1 y.b0 y.b1
  · exact (same_no4 x y v v' w hR hR' t1 t2 t3 t4).mono fun _ _ h => no (fun s => by simp [bEq2, s.b0, s.b1] at t4) h
  by_cases t5 : x.full = y.full
  case neg => exact (same_no5 x y v v' w hR hR' t1 t2 t3 t4 t5).mono fun _ _ h => no (fun s => t5 s.full) h
  by_cases t6 : (x.h.length : Int) = (y.h.length : Int)
  case neg => exact (same_no6 x y v v' w hR hR' t1 t2 t3 t4 t5 t6).mono fun _ _ h => no (fun s => t6 (by rw [s.h.length_eq])) h
  refine (same_yes x y v v' w B0 hR hO hn t1 t2 t3 t4 t5 t6).mono fun e w' h => ⟨?_, h.2⟩
  have hs := (sts_iff x y).1 t2
  have hv : x.v = y.v := by rw [vEq_vd] at t3; exact of_decide_eq_true t3
  have hb : x.b0 = y.b0 ∧ x.b1 = y.b1 := by simpa [bEq2] using t4
  rw [h.1, sameX]
  congr 2
  rw [decide_eq_decide]
  exact ⟨fun p => ⟨t1, hs.1, hs.2, hv, hb.1, hb.2, t5, p⟩, fun s => s.h⟩
end Go.Proofs.YtlnmhocehgmbbaaGreatDoor

/-
  Walk: the originator's events. No condition.
-/
namespace Go.Proofs.YtlnmhocehgmbbaaGreatDoor
open Go.RowKit
attribute [local go_sem ↓] eql_lEq eql_sEq eql_eEq eql_oEq neq_lEq neq_sEq neq_eEq neq_oEq
attribute [local go_sem] ExtOf.cell ExtOf.frozen ExtOf.lt ExtOf.le
attribute [local go_sem high] ExtOf.cell2 ExtOf.frozen2 ExtOf.lt2 ExtOf.cell3 ExtOf.frozen3 ExtOf.lt3 ExtOf.cellB ExtOf.frozenB ExtOf.cellX ExtOf.frozenX ExtOf.cellX' ExtOf.frozenX'
attribute [local go_sem] BelOf.cell BelOf.frozen BelOf.lt

def evR (sc : Int) (x : Rw) : Ev := if x.tick then ⟨3, sc, { data := #[] }, l0⟩ else ⟨2, 0, { data := #[] }, x.comes⟩
def evsS (s : St) : List Ev := if waitS s then (rowsS s.c s.t s.ph).map (evR s.c) else []

theorem rows_len (c : Int) (t : ByteArray) (ph : Int) : (rowsS c t ph).length ≤ 3 := by
  unfold rowsS
  repeat' split
  all_goals simp

theorem take_flat {α : Type} (f : α → List Value) {L : List α} {n : Nat} {x : α} (h : L[n]? = some x) : (L.take (n + 1)).flatMap f = (L.take n).flatMap f ++ f x := by
  rw [List.take_add_one, h]
  simp

theorem info_event : (Tryz.prog.info? 102).map (fun i => (i.zero, i.size, i.bytes)) = some (some (.agg #[.int .i64 0, .int .u64 0, .string { data := #[] }, .int .i64 0, .int .i64 0, .int .u64 0, .string { data := #[] }, .bool false]), 8, 80) := by kernel_rfl

theorem evR_t {sc : Int} {x : Rw} (h : x.tick = true) : evR sc x = ⟨3, sc, { data := #[] }, l0⟩ := by simp [evR, h]
theorem evR_f {sc : Int} {x : Rw} (h : x.tick = false) : evR sc x = ⟨2, 0, { data := #[] }, x.comes⟩ := by simp [evR, h]

set_option maxHeartbeats 800000 in
theorem or_eventsW (r c : Int) (t : ByteArray) (ph k f c2 : Int) (t2 : ByteArray) (fk : Bool) (w : World) (hw : waitS ⟨r, c, t, ph, ⟨k, f, c2, t2, fk⟩⟩ = true) :
    Calls Tryz.prog 117 #[.agg #[.int .i64 r, .int .u64 c, .string t, .int .i64 ph, .int .i64 k, .int .i64 f, .int .u64 c2, .string t2, .bool fk]] w (Made w 102 8 (rowsS c t ph).length (((rowsS c t ph).map (evR c)).flatMap Ev.cs)) := by
  obtain ⟨i0, hi, hz0, hz1, hz2⟩ := info_parts info_event
  have hm3 := rows_len c t ph
  generalize hL : rowsS c t ph = L
  rw [hL] at hm3
  have HL := Lib.hid hL
  clear hL
  go_enter Tryz.func117, Tryz.ntmps117
  go_wp2_with (first
    | (go_at_call 152; refine (or_waits _ _ _ _ _ _ _ _ _ _).mono ?_; rintro e w1 ⟨rfl, hx⟩; obtain ⟨x1, rfl⟩ := ext_of hx; clear hx)
    | (go_at_call 128; refine (or_rows _ _ _ _ _ _ _ _ _ _).mono ?_; rintro e w2 ⟨v, rfl, hv, hx2⟩; rw [HL.out] at hv; obtain ⟨a, cap, rfl, hm, hvw⟩ := own_view hv; obtain ⟨x2, rfl⟩ := ext_of hx2; clear hx2 hv))
  refine wp_forget (fun w' => w'.heap[w.heap.size]? = some (.cells #[.int .i64 r, .int .u64 c, .string t, .int .i64 ph, .int .i64 k, .int .i64 f, .int .u64 c2, .string t2, .bool fk] 26 (0, 0)) ∧ Ext w w' ∧
      (0 < L.length → ∃ g, a = some ⟨g, 0, none⟩ ∧ g < w'.heap.size ∧ ∀ j u, (L.flatMap Rw.cs)[j]? = some u → w'.cell? ⟨g, j, none⟩ = some u)) ⟨?f1, ?f4, ?f5⟩ ?fr
  case f1 => exact heap_ext (heap_ext (heap_new rfl) x1.ext) x2.ext
  case f4 => exact (((Ext.refl _).alloc _).val x1).val x2
  case f5 => exact fun h => let ⟨g, ha, _, hg, hcell⟩ := hvw h; ⟨g, ha, hg, hcell⟩
  clear hvw x2 x1
  rintro W3 ⟨h3a, h3x, hvw⟩
  have HV := Lib.hid hvw
  clear hvw
  have hc3 := fun j => cell_of_row W3 _ j _ _ _ h3a
  have hl3 : w.heap.size < W3.heap.size := (Array.getElem?_eq_some_iff.1 h3a).1
  clear h3a
  unfold maxLen at hm
  go_loopw [3, 12] (fun l i wr => ∃ (n : Nat) (y : ExtOf W3), n ≤ L.length ∧ i = .int .i64 n ∧ wr = y.val ∧ y.val.ownsRow W3.heap.size 102 8 l n (((L.take n).map (evR c)).flatMap Ev.cs)) (fun _ i _ => L.length - (intOf i).toNat)
  case atStart => exact ⟨0, ⟨W3, Ext.refl _⟩, Nat.zero_le _, rfl, rfl, World.ownsRow_nil _ _ _ _⟩
  case round =>
    obtain ⟨n, y, hn, rfl, rfl, hown⟩ := hrel
    by_cases hlt : n < L.length
    · obtain ⟨g, rfl, hg, hcell⟩ := HV.out (by omega)
      obtain ⟨x, hx⟩ : ∃ x, L[n]? = some x := ⟨_, List.getElem?_eq_getElem hlt⟩
      obtain ⟨q0, q1, q2, q3, q4, q5, q6, q7, q8, q9, q10, q11⟩ := rw_cells hcell hx
      have HX := Lib.hid hx
      clear hx hcell
      have hyB : W3.heap.size ≤ ((y.val.alloc (.cells #[] 0)).alloc (.cells #[] 0)).heap.size := Nat.le_trans y.ext.size (((Ext.refl y.val).alloc _).alloc _).size
      rcases ht : x.tick
      all_goals
        have HT := Lib.hid ht
        go_wp2_with (at_builtin; refine wpList_app W3.heap.size 140 102 i0 _ 8 80 Tryz.underlying140 hi hz0 hz1 hz2 rfl (by decide) rfl _ _ rfl _ n _ rfl (own_ext hown (((Ext.refl y.val).alloc _).alloc _)) (Nat.le_trans y.ext.size (((Ext.refl y.val).alloc _).alloc _).size) (y.val.heap.size + 1) 1 1 _ rfl (heap_new (by simp)) rfl (by simp [Value.oneCell']) (by unfold maxLen; omega) (by omega) ?_; intro v2 w2 hv2 hb2 _)
        go_roundw
        case rel =>
          refine ⟨n + 1, ⟨w2, (((y.ext.alloc _).alloc _).trans' hb2)⟩, by omega, by go_num, rfl, ?_⟩
          rw [List.map_take] at hv2 ⊢
          rw [take_flat Ev.cs (x := evR c x) (by rw [List.getElem?_map, HX.out]; rfl)]
          first
            | (rw [evR_t HT.out]; exact hv2)
            | (rw [evR_f HT.out]; exact hv2)
        case measure => simp [intOf]; omega
    · obtain rfl : n = L.length := by omega
      go_wp2
      go_ret
      refine ⟨_, rfl, ?_, h3x.trans y.ext⟩
      rw [List.take_length] at hown
      exact own_base hown h3x.size
end Go.Proofs.YtlnmhocehgmbbaaGreatDoor

/-
  Walks: final? heard? what binds a party. No condition.
-/
namespace Go.Proofs.YtlnmhocehgmbbaaGreatDoor
open Go.RowKit
attribute [local go_sem ↓] eql_lEq eql_sEq eql_eEq eql_oEq neq_lEq neq_sEq neq_eEq neq_oEq eql_vEq neq_vEq eql_nil
attribute [local go_sem] ExtOf.cell ExtOf.frozen ExtOf.lt ExtOf.le
attribute [local go_sem high] ExtOf.cell2 ExtOf.frozen2 ExtOf.lt2 ExtOf.cell3 ExtOf.frozen3 ExtOf.lt3

/-- One block that was just made. -/
theorem one_new {w w1 : World} {A : Obj} (hx : Ext (w.alloc A) w1) : w1.heap[w.heap.size]? = some A ∧ Ext w w1 :=
  ⟨heap_ext (heap_new rfl) hx, ((Ext.refl _).alloc _).trans hx⟩

set_option maxRecDepth 100000 in
set_option maxHeartbeats 1600000 in
theorem mo_final (x : Ex) (v : Value) (who : Int) (w : World) (hw : who = 0 ∨ who = 1) : Calls Tryz.prog 36 #[.agg (x.arr v), .int .i64 who] w fun e w' => e = .returned (.bool (finX x who)) ∧ Ext w w' := by
  rcases hw with rfl | rfl
  · have hF : finX x 0 = finS x.s0 := rfl
    rw [hF]
    have hO := fun w => or_final x.s0.r x.s0.c x.s0.t x.s0.ph x.s0.p.k x.s0.p.f x.s0.p.c x.s0.p.t x.s0.p.b w
    have HO := Lib.hid hO
    clear hO hF
    go_enter Tryz.func36, Tryz.ntmps36
    go_upto_region 1 with fail
    refine wp_forget (fun w' => ExAt w' w.heap.size x v ∧ Ext w w') (one_new (Ext.refl _)) ?_
    rintro W1 ⟨h1, x1⟩
    unfold ExAt Ex.arr at h1
    have q1 := fun j => cell_of_row W1 _ j _ _ _ h1
    have l1 : w.heap.size < W1.heap.size := (Array.getElem?_eq_some_iff.1 h1).1
    have HX1 := Lib.hid x1
    clear x1 h1
    go_wp2_with (go_at_call 62; refine (HO.out _).mono ?_; rintro e w1 ⟨rfl, hx⟩; have HX := Lib.hid hx; clear hx)
    go_ret
    exact ⟨rfl, HX1.out.trans HX.out⟩
  · have hF : finX x 1 = finA x.s1 := rfl
    rw [hF]
    have hO := fun w => an_final x.s1.r x.s1.c x.s1.t x.s1.ph x.s1.p.k x.s1.p.f x.s1.p.c x.s1.p.t x.s1.p.b w
    have HO := Lib.hid hO
    clear hO hF
    go_enter Tryz.func36, Tryz.ntmps36
    go_upto_region 1 with fail
    refine wp_forget (fun w' => ExAt w' w.heap.size x v ∧ Ext w w') (one_new (Ext.refl _)) ?_
    rintro W1 ⟨h1, x1⟩
    unfold ExAt Ex.arr at h1
    have q1 := fun j => cell_of_row W1 _ j _ _ _ h1
    have l1 : w.heap.size < W1.heap.size := (Array.getElem?_eq_some_iff.1 h1).1
    have HX1 := Lib.hid x1
    clear x1 h1
    go_wp2_with (go_at_call 63; refine (HO.out _).mono ?_; rintro e w1 ⟨rfl, hx⟩; have HX := Lib.hid hx; clear hx)
    go_ret
    exact ⟨rfl, HX1.out.trans HX.out⟩

set_option maxRecDepth 100000 in
set_option maxHeartbeats 1600000 in
theorem rf_heard (x : Ex) (v : Value) (l : Lt) (w : World) (hR : Hrd w x v) : Calls Tryz.prog 35 #[.agg (x.arr v), .agg #[.int .i64 l.k, .int .i64 l.f, .int .u64 l.c, .string l.t, .bool l.b]] w fun e w' => e = .returned (.bool (decide (l ∈ x.h))) ∧ Ext w w' := by
  obtain ⟨a, cap, rfl, hm, hvw⟩ := row_view hR
  have HV := Lib.hid hvw
  clear hvw hR
  unfold maxLen at hm
  generalize hL : x.h = L at HV hm ⊢
  go_enter Tryz.func35, Tryz.ntmps35
  go_upto_region 1 with fail
  refine wp_forget (fun w' => ExAt w' w.heap.size x (.slice a L.length cap) ∧ LtAt w' (w.heap.size + 1) l ∧ Ext w w') (two_new (Ext.refl _)) ?_
  rintro W1 ⟨h1, h2, x1⟩
  unfold ExAt Ex.arr at h1
  unfold LtAt at h2
  have c1 := fun j => cell_of_row W1 _ j _ _ _ h1
  have c2 := fun j => cell_of_row W1 _ j _ _ _ h2
  have l1 : w.heap.size < W1.heap.size := (Array.getElem?_eq_some_iff.1 h1).1
  have l2 : w.heap.size + 1 < W1.heap.size := (Array.getElem?_eq_some_iff.1 h2).1
  have X1 := Lib.hid x1
  clear h1 h2 x1 hL
  go_wp2_with fail
  go_loopg [5] L.length (fun g ii wr => ∃ (n : Nat) (y : ExtOf W1), ii = .int .i64 (n : Int) ∧ n + g = L.length ∧ wr = y.val ∧ Hid (∀ (j : Nat) z, j < n → L[j]? = some z → z ≠ l))
  case atStart => exact ⟨0, ⟨W1, Ext.refl _⟩, rfl, by omega, rfl, Lib.hid fun _ _ h => by omega⟩
  case round =>
    obtain ⟨n, y, rfl, hg, rfl, HN⟩ := hrel
    by_cases hlt : n < L.length
    · obtain ⟨g, off, rfl, hgl, hcell⟩ := HV.out (by omega)
      have hgl := hgl (by omega)
      obtain ⟨z, hx⟩ : ∃ x, L[n]? = some x := ⟨_, List.getElem?_eq_getElem hlt⟩
      obtain ⟨q0, q1, q2, q3, q4⟩ := lt_cellsO (fun j u hj => cell_keep (hcell j u hj) X1.out) hx
      have HX := Lib.hid hx
      have hgl1 : g < W1.heap.size := Nat.lt_of_lt_of_le hgl X1.out.size
      clear hx hcell hgl
      have hlt' : (n : Int) < (L.length : Int) := by omega
      by_cases he : z = l
      · have he' : lEq z.k z.f z.c z.t z.b l.k l.f l.c l.t l.b = true := by rw [lEq_lt]; simpa using he
        have HE := Lib.hid he
        clear he
        go_wp2_with fail
        refine wp_region_ext (by kernel_rfl) (by kernel_rfl) ?_
        repeat (go_big_quiet_step (fail))
        refine wpQuiet_nil ?_
        intro _ hx'
        obtain ⟨z', rfl⟩ := hx'
        go_wp2_with fail
        go_ret
        refine ⟨?_, X1.out.trans (y.ext.val z')⟩
        rw [decide_eq_true (mem_of_get (HE.out ▸ HX.out))]
        rfl
      · have he' : lEq z.k z.f z.c z.t z.b l.k l.f l.c l.t l.b = false := by rw [lEq_lt]; simpa using he
        have HE := Lib.hid he
        clear he
        go_wp2_with fail
        refine wp_region_ext (by kernel_rfl) (by kernel_rfl) ?_
        repeat (go_big_quiet_step (fail))
        refine wpQuiet_nil ?_
        intro _ hx'
        obtain ⟨z', rfl⟩ := hx'
        go_wp2_with fail
        go_roundg (gk - 1)
        case rel =>
          refine ⟨n + 1, ⟨z'.val, y.ext.val z'⟩, rfl, by omega, rfl, Lib.hid fun j u hj hu => ?_⟩
          by_cases hjn : j = n
          · subst hjn
            rw [HX.out, Option.some.injEq] at hu
            rw [← hu]
            exact HE.out
          · exact HN.out j u (by omega) hu
        case measure => omega
    · have hge : (L.length : Int) ≤ (n : Int) := by omega
      go_wp2_with fail
      go_ret
      refine ⟨?_, X1.out.val y⟩
      rw [decide_eq_false (not_mem_of_all fun j z hz => HN.out j z (by have := (List.getElem?_eq_some_iff.1 hz).1; omega) hz)]
      rfl

/-- Does a letter bind a party? -/
def bindB (who : Int) (l : Lt) : Bool := (l.k == 2 && l.f == who) || l.k == 6
theorem boundX_eq (x : Ex) (who : Int) : boundX x who = x.h.filter (bindB who) := rfl

set_option maxRecDepth 100000 in
set_option maxHeartbeats 3200000 in
theorem mo_bound (x : Ex) (v : Value) (who : Int) (w : World) (hR : Hrd w x v) (hn : x.h.length ≤ 100000) : Calls Tryz.prog 44 #[.agg (x.arr v), .int .i64 who] w fun e w' => ∃ a c, e = .returned (.slice a (boundX x who).length c) ∧ Ext w w' := by
  obtain ⟨i0, hi, hz0, hz1, hz2⟩ := info_parts info_letter
  obtain ⟨a, cap, rfl, hm, hvw⟩ := row_view hR
  have HV := Lib.hid hvw
  clear hvw hR hm
  rw [boundX_eq]
  generalize hL : x.h = L at HV hn ⊢
  go_enter Tryz.func44, Tryz.ntmps44
  go_upto_region 1 with fail
  refine wp_forget (fun w' => ExAt w' w.heap.size x (.slice a L.length cap) ∧ Ext w w') (one_new (Ext.refl _)) ?_
  rintro W1 ⟨h1, x1⟩
  unfold ExAt Ex.arr at h1
  have c1 := fun j => cell_of_row W1 _ j _ _ _ h1
  have l1 : w.heap.size < W1.heap.size := (Array.getElem?_eq_some_iff.1 h1).1
  have X1 := Lib.hid x1
  clear h1 x1 hL
  go_wp2_with fail
  go_loopg [5, 11] L.length (fun g l ii wr => ∃ (n : Nat) (M : List Lt) (y : ExtOf W1), ii = .int .i64 (n : Int) ∧ n + g = L.length ∧ wr = y.val ∧ Hid (M.length ≤ n ∧ M ++ (L.drop n).filter (bindB who) = L.filter (bindB who)) ∧ Hid (Own wr W1.heap.size M l))
  case atStart => exact ⟨0, [], ⟨W1, Ext.refl _⟩, rfl, by omega, rfl, Lib.hid ⟨by simp, by simp⟩, Lib.hid (World.ownsRow_nil _ _ _ _)⟩
  case round =>
    obtain ⟨n, M, y, rfl, hg, rfl, HN, HOwn⟩ := hrel
    by_cases hlt : n < L.length
    · obtain ⟨g, off, rfl, hgl, hcell⟩ := HV.out (by omega)
      have hgl := hgl (by omega)
      obtain ⟨z, hx⟩ : ∃ x, L[n]? = some x := ⟨_, List.getElem?_eq_getElem hlt⟩
      obtain ⟨q0, q1, q2, q3, q4⟩ := lt_cellsO (fun j u hj => cell_keep (hcell j u hj) X1.out) hx
      have HX := Lib.hid hx
      have hgl1 : g < W1.heap.size := Nat.lt_of_lt_of_le hgl X1.out.size
      clear hx hcell hgl
      have hlt' : (n : Int) < (L.length : Int) := by omega
      have hMl : M.length ≤ n := HN.out.1
      have hW1 : W1.heap.size ≤ y.val.heap.size := y.ext.size
      rcases h2 : (z.k == 2) <;> rcases h3 : (z.f == who) <;> rcases h6 : (z.k == 6)
      all_goals
        have hbd : bindB who z = ((z.k == 2 && z.f == who) || z.k == 6) := rfl
        rw [h2, h3, h6] at hbd
        have HB := Lib.hid hbd
        clear hbd
        first
          | (exfalso; simp at h2 h6; omega)
          | skip
        try first
          | (have : ((z.k == 2 && z.f == who) || z.k == 6) = false := by rw [h2, h3, h6]; rfl
             clear this
             go_wp2_with fail
             go_roundg (gk - 1)
             case rel =>
               refine ⟨n + 1, M, ⟨_, y.ext.alloc _⟩, rfl, by omega, rfl, Lib.hid ⟨by omega, ?_⟩, Lib.hid (HOwn.out.ext ((Ext.refl _).alloc _))⟩
               have hh := HN.out.2
               rw [List.drop_eq_getElem_cons hlt, List.filter_cons] at hh
               have hz := (List.getElem?_eq_some_iff.1 HX.out).2
               rw [hz, HB.out] at hh
               simpa using hh
             case measure => omega)
          | (go_wp2_with (at_builtin; refine wpList_app W1.heap.size 31 24 i0 _ 5 48 Tryz.underlying31 hi hz0 hz1 hz2 rfl (by decide) rfl _ _ rfl _ M.length _ rfl (own_ext HOwn.out (((Ext.refl y.val).alloc _).alloc _)) (Nat.le_trans y.ext.size (((Ext.refl y.val).alloc _).alloc _).size) (y.val.heap.size + 1) 1 1 _ rfl (heap_new (by simp)) rfl (by simp [Value.oneCell']) (by unfold maxLen; omega) (by omega) ?_; intro v2 w2 hv2 hb2 _)
             go_roundg (gk - 1)
             case rel =>
               refine ⟨n + 1, M ++ [z], ⟨w2, ((y.ext.alloc _).alloc _).trans' hb2⟩, rfl, by omega, rfl, Lib.hid ⟨by simp; omega, ?_⟩, Lib.hid (by simpa [Own, Lt.cs] using hv2)⟩
               have hh := HN.out.2
               rw [List.drop_eq_getElem_cons hlt, List.filter_cons] at hh
               have hz := (List.getElem?_eq_some_iff.1 HX.out).2
               rw [hz, HB.out] at hh
               simpa using hh
             case measure => omega)
    · have hge : (L.length : Int) ≤ (n : Int) := by omega
      obtain ⟨ma, mc, rfl, _⟩ := own_view HOwn.out
      go_wp2_with fail
      go_ret
      refine ⟨ma, mc, ?_, X1.out.val y⟩
      have := HN.out.2
      rw [List.drop_eq_nil_of_le (by omega), List.filter_nil, List.append_nil] at this
      rw [← this]
      rfl
end Go.Proofs.YtlnmhocehgmbbaaGreatDoor
