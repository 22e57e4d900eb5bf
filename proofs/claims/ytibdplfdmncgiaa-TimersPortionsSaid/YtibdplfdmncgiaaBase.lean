/-
  Plain lemmas of this place's own: a world that extends another one; a region that draws its order and whose operations only extend the world. No condition.
-/
import Derived.Test.YtibdplfdmncgiaaProg
import Derived.WalkKit
import Derived.WalkSpells
import Derived.WalkLawsBesides
import Derived.Deep.QuietTactic
import Derived.BigQuiet
import Derived.Lib.Hide
set_option linter.all false
namespace Go.Proofs.Ytibdplfdmncgiaa
open Go.RowKit

/-- The world w' holds all the blocks of w as they were, and perhaps more. -/
def Ext (w w' : World) : Prop := Below w.heap.size w w'

theorem Ext.refl (w : World) : Ext w w := Below.refl _ _
theorem Ext.trans {a b c : World} (h : Ext a b) (k : Ext b c) : Ext a c := Below.trans h (Below.mono k h.size)
/-- .. then whatever leaves the blocks below as they are. -/
theorem Ext.trans' {a b c : World} (h : Ext a b) (k : Below a.heap.size b c) : Ext a c := Below.trans h k
theorem Ext.drew {a w : World} (h : Ext a w) : Ext a w.drew := Below.drew h
theorem Ext.drewN {a w : World} (h : Ext a w) (n : Nat) : Ext a (w.drewN n) := ⟨h.os, h.tape, h.output, h.size, h.block⟩
theorem Ext.alloc {a w : World} (h : Ext a w) (o : Obj) : Ext a (w.alloc o) := Below.alloc h h.size o
theorem Ext.setCell {a w : World} (h : Ext a w) {p : Addr} (hp : a.heap.size ≤ p.block) (u : Value) : Ext a (w.setCell p u) := Below.setCell h hp u
theorem Ext.size {a w : World} (h : Ext a w) : a.heap.size ≤ w.heap.size := Below.size h

/-- A world that extends w. -/
structure ExtOf (w : World) where
  val : World
  ext : Ext w val

instance (w : World) : Nonempty (ExtOf w) := ⟨⟨w, Ext.refl w⟩⟩

theorem ext_of {w w' : World} (h : Ext w w') : ∃ x : ExtOf w, w' = x.val := ⟨⟨w', h⟩, rfl⟩
theorem Ext.val {a w : World} (h : Ext a w) (x : ExtOf w) : Ext a x.val := h.trans x.ext

theorem ExtOf.cell {w : World} (x : ExtOf w) {a : Addr} (h : a.block < w.heap.size) : x.val.cell? a = w.cell? a := Below.cell x.ext h
theorem ExtOf.frozen {w : World} (x : ExtOf w) {a : Addr} (h : a.block < w.heap.size) : x.val.frozen? a = w.frozen? a := Below.frozen x.ext h
theorem ExtOf.lt {w : World} (x : ExtOf w) {n : Nat} (h : n < w.heap.size) : (n < x.val.heap.size) = True := by
  have := x.ext.size
  exact eq_true (by omega)
theorem ExtOf.le {w : World} (x : ExtOf w) {n : Nat} (h : n ≤ w.heap.size) : (n ≤ x.val.heap.size) = True := by
  have := x.ext.size
  exact eq_true (by omega)

theorem ExtOf.cell2 {w : World} {x : ExtOf w} (y : ExtOf x.val) {a : Addr} (h : a.block < w.heap.size) : y.val.cell? a = w.cell? a := Below.cell (x.ext.trans y.ext) h
theorem ExtOf.frozen2 {w : World} {x : ExtOf w} (y : ExtOf x.val) {a : Addr} (h : a.block < w.heap.size) : y.val.frozen? a = w.frozen? a := Below.frozen (x.ext.trans y.ext) h
theorem ExtOf.lt2 {w : World} {x : ExtOf w} (y : ExtOf x.val) {n : Nat} (h : n < w.heap.size) : (n < y.val.heap.size) = True := by
  have := (x.ext.trans y.ext).size
  exact eq_true (by omega)

theorem ExtOf.cell3 {w : World} {x : ExtOf w} {y : ExtOf x.val} (z : ExtOf y.val) {a : Addr} (h : a.block < w.heap.size) : z.val.cell? a = w.cell? a := Below.cell ((x.ext.trans y.ext).trans z.ext) h
theorem ExtOf.frozen3 {w : World} {x : ExtOf w} {y : ExtOf x.val} (z : ExtOf y.val) {a : Addr} (h : a.block < w.heap.size) : z.val.frozen? a = w.frozen? a := Below.frozen ((x.ext.trans y.ext).trans z.ext) h
theorem ExtOf.lt3 {w : World} {x : ExtOf w} {y : ExtOf x.val} (z : ExtOf y.val) {n : Nat} (h : n < w.heap.size) : (n < z.val.heap.size) = True := by
  have := ((x.ext.trans y.ext).trans z.ext).size
  exact eq_true (by omega)

/-- A world that has, below block B, the blocks of w as they were. -/
structure BelOf (B : Nat) (w : World) where
  val : World
  bel : Below B w val

instance (B : Nat) (w : World) : Nonempty (BelOf B w) := ⟨⟨w, Below.refl B w⟩⟩

theorem bel_of {B : Nat} {w w' : World} (h : Below B w w') : ∃ x : BelOf B w, w' = x.val := ⟨⟨w', h⟩, rfl⟩
theorem bel_ext {B : Nat} {a w w' : World} (h : Below B a w) (e : Ext w w') (hB : B ≤ a.heap.size) : Below B a w' := Below.trans h (Below.mono e (Nat.le_trans hB h.size))

theorem BelOf.cell {B : Nat} {w : World} (x : BelOf B w) {a : Addr} (h : a.block < B) : x.val.cell? a = w.cell? a := Below.cell x.bel h
theorem BelOf.frozen {B : Nat} {w : World} (x : BelOf B w) {a : Addr} (h : a.block < B) : x.val.frozen? a = w.frozen? a := Below.frozen x.bel h
theorem BelOf.lt {B : Nat} {w : World} (x : BelOf B w) {n : Nat} (h : n < w.heap.size) : (n < x.val.heap.size) = True := by
  have := x.bel.size
  exact eq_true (by omega)

theorem ExtOf.cellB {B : Nat} {w : World} {x : BelOf B w} (y : ExtOf x.val) {a : Addr} (h : a.block < B) (hB : B ≤ w.heap.size) : y.val.cell? a = w.cell? a :=
  Below.cell (bel_ext x.bel y.ext hB) h
theorem ExtOf.frozenB {B : Nat} {w : World} {x : BelOf B w} (y : ExtOf x.val) {a : Addr} (h : a.block < B) (hB : B ≤ w.heap.size) : y.val.frozen? a = w.frozen? a :=
  Below.frozen (bel_ext x.bel y.ext hB) h

/-- A world that has the blocks of w as they were, but for block X. -/
structure ButOf (X : Nat) (w : World) where
  val : World
  but : w.grownBy val (some X)

theorem but_refl (X : Nat) (w : World) : w.grownBy w (some X) := ⟨rfl, rfl, rfl, Nat.le_refl _, fun _ _ _ => rfl⟩
theorem but_ext {X : Nat} {a w w' : World} (h : a.grownBy w (some X)) (e : Ext w w') : a.grownBy w' (some X) :=
  ⟨e.os.trans h.os, e.tape.trans h.tape, e.output.trans h.output, Nat.le_trans h.size e.size, fun k hk hn => (e.block k (Nat.lt_of_lt_of_le hk h.size)).trans (h.block k hk hn)⟩
theorem but_setRow {X : Nat} {a w : World} (h : a.grownBy w (some X)) (cs : Array Value) : a.grownBy (w.setRow X cs) (some X) :=
  ⟨h.os, h.tape, h.output, by simpa using h.size, fun k hk hn => (setRow_other w X k cs (fun e => hn (by rw [e]))).trans (h.block k hk hn)⟩
instance (X : Nat) (w : World) : Nonempty (ButOf X w) := ⟨⟨w, but_refl X w⟩⟩

theorem ButOf.cell0 {X : Nat} {w : World} (x : ButOf X w) {a : Addr} (h : a.block < w.heap.size) (hn : a.block ≠ X) : x.val.cell? a = w.cell? a :=
  World.cell?_of_block (x.but.block a.block h (by simpa using hn))
theorem ButOf.frozen0 {X : Nat} {w : World} (x : ButOf X w) {a : Addr} (h : a.block < w.heap.size) (hn : a.block ≠ X) : x.val.frozen? a = w.frozen? a :=
  World.frozen?_of_block (x.but.block a.block h (by simpa using hn))
theorem ExtOf.cellX {X : Nat} {w : World} {x : ButOf X w} (y : ExtOf x.val) {a : Addr} (h : a.block < w.heap.size) (hn : a.block < X) : y.val.cell? a = w.cell? a :=
  ButOf.cell0 ⟨y.val, but_ext x.but y.ext⟩ h (Nat.ne_of_lt hn)
theorem ExtOf.frozenX {X : Nat} {w : World} {x : ButOf X w} (y : ExtOf x.val) {a : Addr} (h : a.block < w.heap.size) (hn : a.block < X) : y.val.frozen? a = w.frozen? a :=
  ButOf.frozen0 ⟨y.val, but_ext x.but y.ext⟩ h (Nat.ne_of_lt hn)
theorem ExtOf.cellX' {X : Nat} {w : World} {x : ButOf X w} (y : ExtOf x.val) {a : Addr} (h : a.block < w.heap.size) (hn : X < a.block) : y.val.cell? a = w.cell? a :=
  ButOf.cell0 ⟨y.val, but_ext x.but y.ext⟩ h (Nat.ne_of_gt hn)
theorem ExtOf.frozenX' {X : Nat} {w : World} {x : ButOf X w} (y : ExtOf x.val) {a : Addr} (h : a.block < w.heap.size) (hn : X < a.block) : y.val.frozen? a = w.frozen? a :=
  ButOf.frozen0 ⟨y.val, but_ext x.but y.ext⟩ h (Nat.ne_of_gt hn)
theorem Ext.setRow {a w : World} (h : Ext a w) {g : Nat} (hg : a.heap.size ≤ g) (cs : Array Value) : Ext a (w.setRow g cs) :=
  ⟨h.os, h.tape, h.output, by simpa using h.size, fun k hk => (setRow_other w g k cs (by omega)).trans (h.block k hk)⟩

theorem heap_ext {w w' : World} {G : Nat} {o : Obj} (h : w.heap[G]? = some o) (e : Ext w w') : w'.heap[G]? = some o := by
  rw [Below.block e G (Array.getElem?_eq_some_iff.1 h).1]; exact h

section
variable {P : Program}
/-- A region that draws its order; each operation gives one value in every world that extends w, and leaves such a world. -/
theorem wp_region_ext {id : Nat} {Q : Exit → Act → World → Prop} {a : Act} {w : World} {l : List Oper} (hm : P.follows .mixedOrders = true) (hB : Region.lexB .any l.toArray = true)
    (h : wpQuiet P l.toArray (fun w' => ∃ x : ExtOf w, w' = x.val) (fun a' => ∀ w', (∃ x : ExtOf w, w' = x.val) → Q .normal a' w') l a) : (Code.region id l.toArray true).wp P Q a w :=
  wp_region_quiet (C := fun w' => ∃ x : ExtOf w, w' = x.val) hm hB ⟨⟨_, (Ext.refl w).drew⟩, rfl⟩ (by simpa using h)

/-- A contract met in such a region. -/
theorem calls_ext {f : FuncId} {args : Array Value} {w : World} {x : ExtOf w} {v : Value}
    (h : Calls P f args x.val fun e w' => e = .returned v ∧ Ext x.val w') : Calls P f args x.val fun e w'' => e = .returned v ∧ ∃ y : ExtOf w, w'' = y.val :=
  h.mono fun _ w' ⟨he, hw⟩ => ⟨he, ⟨w', x.ext.trans hw⟩, rfl⟩
end
end Go.Proofs.Ytibdplfdmncgiaa
