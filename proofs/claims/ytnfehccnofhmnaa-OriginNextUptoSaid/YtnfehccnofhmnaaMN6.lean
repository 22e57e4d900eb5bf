/-
  Symbols in the abstract machine: a law that is true in all ways is true. No condition.
-/
import Derived.Test.YtnfehccnofhmnaaMN5
import Derived.Test.YtnfehccnofhmnaaProg
import Derived.WalkKit
import Derived.WalkSpells
import Derived.WalkLawsBesides
import Derived.Deep.QuietTactic
import Derived.BigQuiet
import Derived.Lib.Hide
import Derived.Deep.Light
import Derived.Deep.AppendLies
import Derived.Laws.ResultCell
set_option linter.all false
namespace Go.Proofs.Ytnfehccnofhmnaa
open Go.RowKit
namespace E

def isTrueV : V → Bool
  | .one (.lit (.bool b)) => b
  | _ => false

def allTrue : Ways (V × Heap) → Bool
  | some l => l.all fun p => isTrueV p.2.1
  | none => false

def ovOf (l f : FuncId) : Bool := Nat.beq f l

theorem isTrueV_eq {v : V} (h : isTrueV v = true) : v = .one (.lit (.bool true)) := by
  unfold isTrueV at h
  split at h
  · subst h; rfl
  · cases h

/-- A law whose run on symbols is true in all ways. -/
theorem true_of_ways {ρ : Env} {l f : FuncId} {args : List V} {K : Know} {loops n : Nat} (h : allTrue (callS Try.prog X1 FT (ovOf l) (gLiveS l) loops n f args ⟨0, []⟩ K) = true) (hK : Holds ρ K) :
    ∃ h', callO Try.prog X1 FT (ovOf l) (gLive l) loops n f (args.map (V.den ρ)) ⟨0, []⟩ = some (.one (.lit (.bool true)), h') := by
  have := callS_ok (P := Try.prog) zfree ftK (gLiveS_ok (ρ := ρ) (l := l)) (ov := ovOf l) loops n f args ⟨0, []⟩ K hK
  cases hw : callS Try.prog X1 FT (ovOf l) (gLiveS l) loops n f args ⟨0, []⟩ K with
  | none => rw [hw] at h; cases h
  | some ws =>
    rw [hw] at h
    obtain ⟨p, h1, _, h3⟩ := this ws hw
    have hp := isTrueV_eq (List.all_eq_true.1 h p h1)
    rw [hp, V.den_free (ρ := ρ) (v := .one (.lit (.bool true))) rfl] at h3
    exact ⟨_, h3⟩

theorem acall_of_ways {ρ : Env} {l f : FuncId} {args : List V} {K : Know} {loops n : Nat} (hl : isTrue (callN Try.prog X0 FT 100 100 l [] ⟨0, []⟩) = true)
    (h : allTrue (callS Try.prog X1 FT (ovOf l) (gLiveS l) loops n f args ⟨0, []⟩ K) = true) (hK : Holds ρ K) : ∃ h', ACall Try.prog f (args.map (V.den ρ)) ⟨0, []⟩ (.one (.lit (.bool true))) h' := by
  obtain ⟨h', hc⟩ := true_of_ways h hK
  exact ⟨h', callO_ok ttOk1 flatOk1 mixed ftOk (gLive_ok hl) loops n _ _ _ _ _ hc⟩

/-- A law that is true in all ways, called with arguments that its symbols stand for. -/
theorem calls_of_ways {ρ : Env} {l f : FuncId} {args : List V} {xs : List Value} {K : Know} {loops n : Nat} (hl : isTrue (callN Try.prog X0 FT 100 100 l [] ⟨0, []⟩) = true)
    (h : allTrue (callS Try.prog X1 FT (ovOf l) (gLiveS l) loops n f args ⟨0, []⟩ K) = true) (hK : Holds ρ K) (hxs : All2 (VRel (fun _ => none) noF) (args.map (V.den ρ)) xs) (W : World) :
    Calls Try.prog f xs.toArray W fun e w' => e = .returned (.bool true) ∧ Below W.heap.size W w' := by
  obtain ⟨h', _, _, hc⟩ := acall_of_ways hl h hK
  refine (hc (fun _ => none) W xs ⟨fun _ _ => rfl, (fun b x e => by cases e), (fun b b' x x' p p' _ e => by cases e)⟩ hxs).mono fun e w' he => ?_
  obtain ⟨x, β', rfl, hv, _, hst, _⟩ := he
  have hx : x = .bool true := hv
  exact ⟨by rw [hx], step_below (h := ⟨0, []⟩) (fun b x e => by cases e) hst⟩

def sI (k : IntKind) (i : Nat) : C := .lit (.iface 0 (.int k i))
def sS (i : Nat) : C := .lit (.iface 1 (.int .i64 i))
def sB (i : Nat) : C := .lit (.iface 4 (.int .i64 i))
end E
end Go.Proofs.Ytnfehccnofhmnaa

/-
  The law OriginSteps on symbols: its arguments; a split of what is known. No condition.
-/
namespace Go.Proofs.Ytnfehccnofhmnaa
open Go.RowKit
namespace E
def letS (i : Nat) : List C := [sI .i64 i, sI .i64 (i + 1), sI .u64 (i + 2), sS (i + 3), sB (i + 4)]
def stS (i : Nat) : V := .agg ([sI .i64 i, sI .u64 (i + 1), sS (i + 2), sI .i64 (i + 3)] ++ letS (i + 4))
def evS (i : Nat) : V := .agg ([sI .i64 i, sI .u64 (i + 1), sS (i + 2)] ++ letS (i + 3))

theorem splitK {ρ : Env} {K : Know} {G : Prop} (lt : Bool) (x y : Value) (ht : Holds ρ (⟨lt, x, y, true⟩ :: K) → G) (hf : Holds ρ (⟨lt, x, y, false⟩ :: K) → G) (hK : Holds ρ K) : G := by
  by_cases ha : Atom ρ lt x y
  · exact ht (hK.cons (by simpa [Fact.holds] using ha))
  · exact hf (hK.cons (by simpa [Fact.holds] using ha))

set_option maxRecDepth 1000000 in
theorem origin_live : isTrue (callN Try.prog X0 FT 100 100 9 [] ⟨0, []⟩) = true := by kernel_rfl
end E
end Go.Proofs.Ytnfehccnofhmnaa

/-
  Plain lemmas of this place's own: a world that extends another one; a region that draws its order and whose operations only extend the world. No condition.
-/
namespace Go.Proofs.Ytnfehccnofhmnaa
open Go.RowKit

/-- The world w' holds all the blocks of w as they were, and perhaps more. -/
def Ext (w w' : World) : Prop := Below w.heap.size w w'

theorem Ext.refl (w : World) : Ext w w := Below.refl _ _
theorem Ext.trans {a b c : World} (h : Ext a b) (k : Ext b c) : Ext a c := Below.trans h (Below.mono k h.size)
/-- .. then whatever leaves the blocks below as they are. -/
theorem Ext.trans' {a b c : World} (h : Ext a b) (k : Below a.heap.size b c) : Ext a c := Below.trans h k
theorem Ext.drew {a w : World} (h : Ext a w) : Ext a w.drew := Below.drew h
theorem Ext.drewN {a w : World} (h : Ext a w) (n : Nat) : Ext a (w.drewN n) := ⟨h.os, h.tape, h.output, h.size, h.block⟩
theorem Ext.alloc {a w : World} (h : Ext a w) (o : Obj) : Ext a (w.alloc o) := Below.alloc h h.size o
theorem Ext.setCell {a w : World} (h : Ext a w) {p : Addr} (hp : a.heap.size ≤ p.block) (u : Value) : Ext a (w.setCell p u) := Below.setCell h hp u
theorem Ext.size {a w : World} (h : Ext a w) : a.heap.size ≤ w.heap.size := Below.size h

/-- A world that extends w. -/
structure ExtOf (w : World) where
  val : World
  ext : Ext w val

instance (w : World) : Nonempty (ExtOf w) := ⟨⟨w, Ext.refl w⟩⟩

theorem ext_of {w w' : World} (h : Ext w w') : ∃ x : ExtOf w, w' = x.val := ⟨⟨w', h⟩, rfl⟩
theorem Ext.val {a w : World} (h : Ext a w) (x : ExtOf w) : Ext a x.val := h.trans x.ext

theorem ExtOf.cell {w : World} (x : ExtOf w) {a : Addr} (h : a.block < w.heap.size) : x.val.cell? a = w.cell? a := Below.cell x.ext h
theorem ExtOf.frozen {w : World} (x : ExtOf w) {a : Addr} (h : a.block < w.heap.size) : x.val.frozen? a = w.frozen? a := Below.frozen x.ext h
theorem ExtOf.lt {w : World} (x : ExtOf w) {n : Nat} (h : n < w.heap.size) : (n < x.val.heap.size) = True := by
  have := x.ext.size
  exact eq_true (by omega)
theorem ExtOf.le {w : World} (x : ExtOf w) {n : Nat} (h : n ≤ w.heap.size) : (n ≤ x.val.heap.size) = True := by
  have := x.ext.size
  exact eq_true (by omega)

theorem ExtOf.cell2 {w : World} {x : ExtOf w} (y : ExtOf x.val) {a : Addr} (h : a.block < w.heap.size) : y.val.cell? a = w.cell? a := Below.cell (x.ext.trans y.ext) h
theorem ExtOf.frozen2 {w : World} {x : ExtOf w} (y : ExtOf x.val) {a : Addr} (h : a.block < w.heap.size) : y.val.frozen? a = w.frozen? a := Below.frozen (x.ext.trans y.ext) h
theorem ExtOf.lt2 {w : World} {x : ExtOf w} (y : ExtOf x.val) {n : Nat} (h : n < w.heap.size) : (n < y.val.heap.size) = True := by
  have := (x.ext.trans y.ext).size
  exact eq_true (by omega)

theorem ExtOf.cell3 {w : World} {x : ExtOf w} {y : ExtOf x.val} (z : ExtOf y.val) {a : Addr} (h : a.block < w.heap.size) : z.val.cell? a = w.cell? a := Below.cell ((x.ext.trans y.ext).trans z.ext) h
theorem ExtOf.frozen3 {w : World} {x : ExtOf w} {y : ExtOf x.val} (z : ExtOf y.val) {a : Addr} (h : a.block < w.heap.size) : z.val.frozen? a = w.frozen? a := Below.frozen ((x.ext.trans y.ext).trans z.ext) h
theorem ExtOf.lt3 {w : World} {x : ExtOf w} {y : ExtOf x.val} (z : ExtOf y.val) {n : Nat} (h : n < w.heap.size) : (n < z.val.heap.size) = True := by
  have := ((x.ext.trans y.ext).trans z.ext).size
  exact eq_true (by omega)

/-- A world that has, below block B, the blocks of w as they were. -/
structure BelOf (B : Nat) (w : World) where
  val : World
  bel : Below B w val

instance (B : Nat) (w : World) : Nonempty (BelOf B w) := ⟨⟨w, Below.refl B w⟩⟩

theorem bel_of {B : Nat} {w w' : World} (h : Below B w w') : ∃ x : BelOf B w, w' = x.val := ⟨⟨w', h⟩, rfl⟩
theorem bel_ext {B : Nat} {a w w' : World} (h : Below B a w) (e : Ext w w') (hB : B ≤ a.heap.size) : Below B a w' := Below.trans h (Below.mono e (Nat.le_trans hB h.size))

theorem BelOf.cell {B : Nat} {w : World} (x : BelOf B w) {a : Addr} (h : a.block < B) : x.val.cell? a = w.cell? a := Below.cell x.bel h
theorem BelOf.frozen {B : Nat} {w : World} (x : BelOf B w) {a : Addr} (h : a.block < B) : x.val.frozen? a = w.frozen? a := Below.frozen x.bel h
theorem BelOf.lt {B : Nat} {w : World} (x : BelOf B w) {n : Nat} (h : n < w.heap.size) : (n < x.val.heap.size) = True := by
  have := x.bel.size
  exact eq_true (by omega)

theorem ExtOf.cellB {B : Nat} {w : World} {x : BelOf B w} (y : ExtOf x.val) {a : Addr} (h : a.block < B) (hB : B ≤ w.heap.size) : y.val.cell? a = w.cell? a :=
  Below.cell (bel_ext x.bel y.ext hB) h
theorem ExtOf.frozenB {B : Nat} {w : World} {x : BelOf B w} (y : ExtOf x.val) {a : Addr} (h : a.block < B) (hB : B ≤ w.heap.size) : y.val.frozen? a = w.frozen? a :=
  Below.frozen (bel_ext x.bel y.ext hB) h

/-- A world that has the blocks of w as they were, but for block X. -/
structure ButOf (X : Nat) (w : World) where
  val : World
  but : w.grownBy val (some X)

theorem but_refl (X : Nat) (w : World) : w.grownBy w (some X) := ⟨rfl, rfl, rfl, Nat.le_refl _, fun _ _ _ => rfl⟩
theorem but_ext {X : Nat} {a w w' : World} (h : a.grownBy w (some X)) (e : Ext w w') : a.grownBy w' (some X) :=
  ⟨e.os.trans h.os, e.tape.trans h.tape, e.output.trans h.output, Nat.le_trans h.size e.size, fun k hk hn => (e.block k (Nat.lt_of_lt_of_le hk h.size)).trans (h.block k hk hn)⟩
theorem but_setRow {X : Nat} {a w : World} (h : a.grownBy w (some X)) (cs : Array Value) : a.grownBy (w.setRow X cs) (some X) :=
  ⟨h.os, h.tape, h.output, by simpa using h.size, fun k hk hn => (setRow_other w X k cs (fun e => hn (by rw [e]))).trans (h.block k hk hn)⟩
instance (X : Nat) (w : World) : Nonempty (ButOf X w) := ⟨⟨w, but_refl X w⟩⟩

theorem ButOf.cell0 {X : Nat} {w : World} (x : ButOf X w) {a : Addr} (h : a.block < w.heap.size) (hn : a.block ≠ X) : x.val.cell? a = w.cell? a :=
  World.cell?_of_block (x.but.block a.block h (by simpa using hn))
theorem ButOf.frozen0 {X : Nat} {w : World} (x : ButOf X w) {a : Addr} (h : a.block < w.heap.size) (hn : a.block ≠ X) : x.val.frozen? a = w.frozen? a :=
  World.frozen?_of_block (x.but.block a.block h (by simpa using hn))
theorem ExtOf.cellX {X : Nat} {w : World} {x : ButOf X w} (y : ExtOf x.val) {a : Addr} (h : a.block < w.heap.size) (hn : a.block < X) : y.val.cell? a = w.cell? a :=
  ButOf.cell0 ⟨y.val, but_ext x.but y.ext⟩ h (Nat.ne_of_lt hn)
theorem ExtOf.frozenX {X : Nat} {w : World} {x : ButOf X w} (y : ExtOf x.val) {a : Addr} (h : a.block < w.heap.size) (hn : a.block < X) : y.val.frozen? a = w.frozen? a :=
  ButOf.frozen0 ⟨y.val, but_ext x.but y.ext⟩ h (Nat.ne_of_lt hn)
theorem ExtOf.cellX' {X : Nat} {w : World} {x : ButOf X w} (y : ExtOf x.val) {a : Addr} (h : a.block < w.heap.size) (hn : X < a.block) : y.val.cell? a = w.cell? a :=
  ButOf.cell0 ⟨y.val, but_ext x.but y.ext⟩ h (Nat.ne_of_gt hn)
theorem ExtOf.frozenX' {X : Nat} {w : World} {x : ButOf X w} (y : ExtOf x.val) {a : Addr} (h : a.block < w.heap.size) (hn : X < a.block) : y.val.frozen? a = w.frozen? a :=
  ButOf.frozen0 ⟨y.val, but_ext x.but y.ext⟩ h (Nat.ne_of_gt hn)
theorem Ext.setRow {a w : World} (h : Ext a w) {g : Nat} (hg : a.heap.size ≤ g) (cs : Array Value) : Ext a (w.setRow g cs) :=
  ⟨h.os, h.tape, h.output, by simpa using h.size, fun k hk => (setRow_other w g k cs (by omega)).trans (h.block k hk)⟩

theorem heap_ext {w w' : World} {G : Nat} {o : Obj} (h : w.heap[G]? = some o) (e : Ext w w') : w'.heap[G]? = some o := by
  rw [Below.block e G (Array.getElem?_eq_some_iff.1 h).1]; exact h

section
variable {P : Program}
/-- A region that draws its order; each operation gives one value in every world that extends w, and leaves such a world. -/
theorem wp_region_ext {id : Nat} {Q : Exit → Act → World → Prop} {a : Act} {w : World} {l : List Oper} (hm : P.follows .mixedOrders = true) (hB : Region.lexB .any l.toArray = true)
    (h : wpQuiet P l.toArray (fun w' => ∃ x : ExtOf w, w' = x.val) (fun a' => ∀ w', (∃ x : ExtOf w, w' = x.val) → Q .normal a' w') l a) : (Code.region id l.toArray true).wp P Q a w :=
  wp_region_quiet (C := fun w' => ∃ x : ExtOf w, w' = x.val) hm hB ⟨⟨_, (Ext.refl w).drew⟩, rfl⟩ (by simpa using h)

/-- A contract met in such a region. -/
theorem calls_ext {f : FuncId} {args : Array Value} {w : World} {x : ExtOf w} {v : Value}
    (h : Calls P f args x.val fun e w' => e = .returned v ∧ Ext x.val w') : Calls P f args x.val fun e w'' => e = .returned v ∧ ∃ y : ExtOf w, w'' = y.val :=
  h.mono fun _ w' ⟨he, hw⟩ => ⟨he, ⟨w', x.ext.trans hw⟩, rfl⟩
end
end Go.Proofs.Ytnfehccnofhmnaa

/-
  The program's struct types: two letters, states, events, outs against each other. No condition.
-/
namespace Go.Proofs.Ytnfehccnofhmnaa
open Go.RowKit

theorem toList_eq_iff (s t : ByteArray) : (s.toList = t.toList) ↔ s = t := by
  rw [ByteArray.toList_eq, ByteArray.toList_eq]
  constructor
  · intro h; obtain ⟨⟨x⟩⟩ := s; obtain ⟨⟨y⟩⟩ := t; simpa using h
  · intro h; rw [h]
theorem toList_beq (s t : ByteArray) : (s.toList == t.toList) = decide (s = t) := by
  rw [Bool.eq_iff_iff]; simp [toList_eq_iff]

/-- Are two of api.Letter the same? -/
def lEq (k : Int) (f : Int) (c : Int) (t : ByteArray) (b : Bool) (k' : Int) (f' : Int) (c' : Int) (t' : ByteArray) (b' : Bool) : Bool := decide (k = k' ∧ f = f' ∧ c = c' ∧ t = t' ∧ b = b')
theorem lEq_true {k : Int} {f : Int} {c : Int} {t : ByteArray} {b : Bool} {k' : Int} {f' : Int} {c' : Int} {t' : ByteArray} {b' : Bool} : lEq k f c t b k' f' c' t' b' = true ↔ (k = k' ∧ f = f' ∧ c = c' ∧ t = t' ∧ b = b') := by simp [lEq]
theorem eql_lEq (k : Int) (f : Int) (c : Int) (t : ByteArray) (b : Bool) (k' : Int) (f' : Int) (c' : Int) (t' : ByteArray) (b' : Bool) (w : World) : (binOp .eql 24 (.agg #[.int .i64 k, .int .i64 f, .int .u64 c, .string t, .bool b]) (.agg #[.int .i64 k', .int .i64 f', .int .u64 c', .string t', .bool b'])).run Try.prog w = .ok (.bool (lEq k f c t b k' f' c' t' b')) w := by
  simp [go_sem, toList_beq, lEq]
  by_cases h_k : k = k'
  case neg => simp [h_k]
  by_cases h_f : f = f'
  case neg => simp [h_f]
  by_cases h_c : c = c'
  case neg => simp [h_c]
  by_cases h_t : t = t'
  case neg => simp [h_t]
  by_cases h_b : b = b'
  case neg => simp [h_b]
  simp [h_k, h_f, h_c, h_t, h_b]
theorem neq_lEq (k : Int) (f : Int) (c : Int) (t : ByteArray) (b : Bool) (k' : Int) (f' : Int) (c' : Int) (t' : ByteArray) (b' : Bool) (w : World) : (binOp .neq 24 (.agg #[.int .i64 k, .int .i64 f, .int .u64 c, .string t, .bool b]) (.agg #[.int .i64 k', .int .i64 f', .int .u64 c', .string t', .bool b'])).run Try.prog w = .ok (.bool (!(lEq k f c t b k' f' c' t' b'))) w := by
  simp [go_sem, toList_beq, lEq]
  by_cases h_k : k = k'
  case neg => simp [h_k]
  by_cases h_f : f = f'
  case neg => simp [h_f]
  by_cases h_c : c = c'
  case neg => simp [h_c]
  by_cases h_t : t = t'
  case neg => simp [h_t]
  by_cases h_b : b = b'
  case neg => simp [h_b]
  simp [h_k, h_f, h_c, h_t, h_b]

/-- Are two of api.State the same? -/
def sEq (r : Int) (c : Int) (t : ByteArray) (ph : Int) (pk : Int) (pf : Int) (pc : Int) (pt : ByteArray) (pb : Bool) (r' : Int) (c' : Int) (t' : ByteArray) (ph' : Int) (pk' : Int) (pf' : Int) (pc' : Int) (pt' : ByteArray) (pb' : Bool) : Bool := decide (r = r' ∧ c = c' ∧ t = t' ∧ ph = ph' ∧ pk = pk' ∧ pf = pf' ∧ pc = pc' ∧ pt = pt' ∧ pb = pb')
theorem sEq_true {r : Int} {c : Int} {t : ByteArray} {ph : Int} {pk : Int} {pf : Int} {pc : Int} {pt : ByteArray} {pb : Bool} {r' : Int} {c' : Int} {t' : ByteArray} {ph' : Int} {pk' : Int} {pf' : Int} {pc' : Int} {pt' : ByteArray} {pb' : Bool} : sEq r c t ph pk pf pc pt pb r' c' t' ph' pk' pf' pc' pt' pb' = true ↔ (r = r' ∧ c = c' ∧ t = t' ∧ ph = ph' ∧ pk = pk' ∧ pf = pf' ∧ pc = pc' ∧ pt = pt' ∧ pb = pb') := by simp [sEq]
theorem eql_sEq (r : Int) (c : Int) (t : ByteArray) (ph : Int) (pk : Int) (pf : Int) (pc : Int) (pt : ByteArray) (pb : Bool) (r' : Int) (c' : Int) (t' : ByteArray) (ph' : Int) (pk' : Int) (pf' : Int) (pc' : Int) (pt' : ByteArray) (pb' : Bool) (w : World) : (binOp .eql 26 (.agg #[.int .i64 r, .int .u64 c, .string t, .int .i64 ph, .int .i64 pk, .int .i64 pf, .int .u64 pc, .string pt, .bool pb]) (.agg #[.int .i64 r', .int .u64 c', .string t', .int .i64 ph', .int .i64 pk', .int .i64 pf', .int .u64 pc', .string pt', .bool pb'])).run Try.prog w = .ok (.bool (sEq r c t ph pk pf pc pt pb r' c' t' ph' pk' pf' pc' pt' pb')) w := by
  simp [go_sem, toList_beq, sEq]
  by_cases h_r : r = r'
  case neg => simp [h_r]
  by_cases h_c : c = c'
  case neg => simp [h_c]
  by_cases h_t : t = t'
  case neg => simp [h_t]
  by_cases h_ph : ph = ph'
  case neg => simp [h_ph]
  by_cases h_pk : pk = pk'
  case neg => simp [h_pk]
  by_cases h_pf : pf = pf'
  case neg => simp [h_pf]
  by_cases h_pc : pc = pc'
  case neg => simp [h_pc]
  by_cases h_pt : pt = pt'
  case neg => simp [h_pt]
  by_cases h_pb : pb = pb'
  case neg => simp [h_pb]
  simp [h_r, h_c, h_t, h_ph, h_pk, h_pf, h_pc, h_pt, h_pb]
theorem neq_sEq (r : Int) (c : Int) (t : ByteArray) (ph : Int) (pk : Int) (pf : Int) (pc : Int) (pt : ByteArray) (pb : Bool) (r' : Int) (c' : Int) (t' : ByteArray) (ph' : Int) (pk' : Int) (pf' : Int) (pc' : Int) (pt' : ByteArray) (pb' : Bool) (w : World) : (binOp .neq 26 (.agg #[.int .i64 r, .int .u64 c, .string t, .int .i64 ph, .int .i64 pk, .int .i64 pf, .int .u64 pc, .string pt, .bool pb]) (.agg #[.int .i64 r', .int .u64 c', .string t', .int .i64 ph', .int .i64 pk', .int .i64 pf', .int .u64 pc', .string pt', .bool pb'])).run Try.prog w = .ok (.bool (!(sEq r c t ph pk pf pc pt pb r' c' t' ph' pk' pf' pc' pt' pb'))) w := by
  simp [go_sem, toList_beq, sEq]
  by_cases h_r : r = r'
  case neg => simp [h_r]
  by_cases h_c : c = c'
  case neg => simp [h_c]
  by_cases h_t : t = t'
  case neg => simp [h_t]
  by_cases h_ph : ph = ph'
  case neg => simp [h_ph]
  by_cases h_pk : pk = pk'
  case neg => simp [h_pk]
  by_cases h_pf : pf = pf'
  case neg => simp [h_pf]
  by_cases h_pc : pc = pc'
  case neg => simp [h_pc]
  by_cases h_pt : pt = pt'
  case neg => simp [h_pt]
  by_cases h_pb : pb = pb'
  case neg => simp [h_pb]
  simp [h_r, h_c, h_t, h_ph, h_pk, h_pf, h_pc, h_pt, h_pb]

/-- Are two of api.Event the same? -/
def eEq (k : Int) (c : Int) (t : ByteArray) (lk : Int) (lf : Int) (lc : Int) (lt : ByteArray) (lb : Bool) (k' : Int) (c' : Int) (t' : ByteArray) (lk' : Int) (lf' : Int) (lc' : Int) (lt' : ByteArray) (lb' : Bool) : Bool := decide (k = k' ∧ c = c' ∧ t = t' ∧ lk = lk' ∧ lf = lf' ∧ lc = lc' ∧ lt = lt' ∧ lb = lb')
theorem eEq_true {k : Int} {c : Int} {t : ByteArray} {lk : Int} {lf : Int} {lc : Int} {lt : ByteArray} {lb : Bool} {k' : Int} {c' : Int} {t' : ByteArray} {lk' : Int} {lf' : Int} {lc' : Int} {lt' : ByteArray} {lb' : Bool} : eEq k c t lk lf lc lt lb k' c' t' lk' lf' lc' lt' lb' = true ↔ (k = k' ∧ c = c' ∧ t = t' ∧ lk = lk' ∧ lf = lf' ∧ lc = lc' ∧ lt = lt' ∧ lb = lb') := by simp [eEq]
theorem eql_eEq (k : Int) (c : Int) (t : ByteArray) (lk : Int) (lf : Int) (lc : Int) (lt : ByteArray) (lb : Bool) (k' : Int) (c' : Int) (t' : ByteArray) (lk' : Int) (lf' : Int) (lc' : Int) (lt' : ByteArray) (lb' : Bool) (w : World) : (binOp .eql 28 (.agg #[.int .i64 k, .int .u64 c, .string t, .int .i64 lk, .int .i64 lf, .int .u64 lc, .string lt, .bool lb]) (.agg #[.int .i64 k', .int .u64 c', .string t', .int .i64 lk', .int .i64 lf', .int .u64 lc', .string lt', .bool lb'])).run Try.prog w = .ok (.bool (eEq k c t lk lf lc lt lb k' c' t' lk' lf' lc' lt' lb')) w := by
  simp [go_sem, toList_beq, eEq]
  by_cases h_k : k = k'
  case neg => simp [h_k]
  by_cases h_c : c = c'
  case neg => simp [h_c]
  by_cases h_t : t = t'
  case neg => simp [h_t]
  by_cases h_lk : lk = lk'
  case neg => simp [h_lk]
  by_cases h_lf : lf = lf'
  case neg => simp [h_lf]
  by_cases h_lc : lc = lc'
  case neg => simp [h_lc]
  by_cases h_lt : lt = lt'
  case neg => simp [h_lt]
  by_cases h_lb : lb = lb'
  case neg => simp [h_lb]
  simp [h_k, h_c, h_t, h_lk, h_lf, h_lc, h_lt, h_lb]
theorem neq_eEq (k : Int) (c : Int) (t : ByteArray) (lk : Int) (lf : Int) (lc : Int) (lt : ByteArray) (lb : Bool) (k' : Int) (c' : Int) (t' : ByteArray) (lk' : Int) (lf' : Int) (lc' : Int) (lt' : ByteArray) (lb' : Bool) (w : World) : (binOp .neq 28 (.agg #[.int .i64 k, .int .u64 c, .string t, .int .i64 lk, .int .i64 lf, .int .u64 lc, .string lt, .bool lb]) (.agg #[.int .i64 k', .int .u64 c', .string t', .int .i64 lk', .int .i64 lf', .int .u64 lc', .string lt', .bool lb'])).run Try.prog w = .ok (.bool (!(eEq k c t lk lf lc lt lb k' c' t' lk' lf' lc' lt' lb'))) w := by
  simp [go_sem, toList_beq, eEq]
  by_cases h_k : k = k'
  case neg => simp [h_k]
  by_cases h_c : c = c'
  case neg => simp [h_c]
  by_cases h_t : t = t'
  case neg => simp [h_t]
  by_cases h_lk : lk = lk'
  case neg => simp [h_lk]
  by_cases h_lf : lf = lf'
  case neg => simp [h_lf]
  by_cases h_lc : lc = lc'
  case neg => simp [h_lc]
  by_cases h_lt : lt = lt'
  case neg => simp [h_lt]
  by_cases h_lb : lb = lb'
  case neg => simp [h_lb]
  simp [h_k, h_c, h_t, h_lk, h_lf, h_lc, h_lt, h_lb]

/-- Are two of api.Out the same? -/
def oEq (to : Int) (lk : Int) (lf : Int) (lc : Int) (lt : ByteArray) (lb : Bool) (to' : Int) (lk' : Int) (lf' : Int) (lc' : Int) (lt' : ByteArray) (lb' : Bool) : Bool := decide (to = to' ∧ lk = lk' ∧ lf = lf' ∧ lc = lc' ∧ lt = lt' ∧ lb = lb')
theorem oEq_true {to : Int} {lk : Int} {lf : Int} {lc : Int} {lt : ByteArray} {lb : Bool} {to' : Int} {lk' : Int} {lf' : Int} {lc' : Int} {lt' : ByteArray} {lb' : Bool} : oEq to lk lf lc lt lb to' lk' lf' lc' lt' lb' = true ↔ (to = to' ∧ lk = lk' ∧ lf = lf' ∧ lc = lc' ∧ lt = lt' ∧ lb = lb') := by simp [oEq]
theorem eql_oEq (to : Int) (lk : Int) (lf : Int) (lc : Int) (lt : ByteArray) (lb : Bool) (to' : Int) (lk' : Int) (lf' : Int) (lc' : Int) (lt' : ByteArray) (lb' : Bool) (w : World) : (binOp .eql 45 (.agg #[.int .i64 to, .int .i64 lk, .int .i64 lf, .int .u64 lc, .string lt, .bool lb]) (.agg #[.int .i64 to', .int .i64 lk', .int .i64 lf', .int .u64 lc', .string lt', .bool lb'])).run Try.prog w = .ok (.bool (oEq to lk lf lc lt lb to' lk' lf' lc' lt' lb')) w := by
  simp [go_sem, toList_beq, oEq]
  by_cases h_to : to = to'
  case neg => simp [h_to]
  by_cases h_lk : lk = lk'
  case neg => simp [h_lk]
  by_cases h_lf : lf = lf'
  case neg => simp [h_lf]
  by_cases h_lc : lc = lc'
  case neg => simp [h_lc]
  by_cases h_lt : lt = lt'
  case neg => simp [h_lt]
  by_cases h_lb : lb = lb'
  case neg => simp [h_lb]
  simp [h_to, h_lk, h_lf, h_lc, h_lt, h_lb]
theorem neq_oEq (to : Int) (lk : Int) (lf : Int) (lc : Int) (lt : ByteArray) (lb : Bool) (to' : Int) (lk' : Int) (lf' : Int) (lc' : Int) (lt' : ByteArray) (lb' : Bool) (w : World) : (binOp .neq 45 (.agg #[.int .i64 to, .int .i64 lk, .int .i64 lf, .int .u64 lc, .string lt, .bool lb]) (.agg #[.int .i64 to', .int .i64 lk', .int .i64 lf', .int .u64 lc', .string lt', .bool lb'])).run Try.prog w = .ok (.bool (!(oEq to lk lf lc lt lb to' lk' lf' lc' lt' lb'))) w := by
  simp [go_sem, toList_beq, oEq]
  by_cases h_to : to = to'
  case neg => simp [h_to]
  by_cases h_lk : lk = lk'
  case neg => simp [h_lk]
  by_cases h_lf : lf = lf'
  case neg => simp [h_lf]
  by_cases h_lc : lc = lc'
  case neg => simp [h_lc]
  by_cases h_lt : lt = lt'
  case neg => simp [h_lt]
  by_cases h_lb : lb = lb'
  case neg => simp [h_lb]
  simp [h_to, h_lk, h_lf, h_lc, h_lt, h_lb]

end Go.Proofs.Ytnfehccnofhmnaa

/-
  Walks of the originator's small functions. No condition.
-/
namespace Go.Proofs.Ytnfehccnofhmnaa
open Go.RowKit
attribute [local go_sem ↓] eql_lEq eql_sEq eql_eEq eql_oEq neq_lEq neq_sEq neq_eEq neq_oEq
attribute [local go_sem] ExtOf.cell ExtOf.frozen ExtOf.lt ExtOf.le
attribute [local go_sem high] ExtOf.cell2 ExtOf.frozen2 ExtOf.lt2 ExtOf.cell3 ExtOf.frozen3 ExtOf.lt3

theorem ret_bool {a b : Bool} (h : a = b) : Ending.returned (.bool a) = .returned (.bool b) := by rw [h]

theorem or_promise (r c ph : Int) (t : ByteArray) (k f c2 : Int) (t2 : ByteArray) (fk : Bool) (n : Int) (w : World) :
    Calls Try.prog 30 #[.agg #[.int .i64 r, .int .u64 c, .string t, .int .i64 ph, .int .i64 k, .int .i64 f, .int .u64 c2, .string t2, .bool fk], .int .i64 n] w fun e w' => e = .returned (.agg #[.int .i64 1, .int .i64 n, .int .u64 c, .string t, .bool false]) ∧ Ext w w' := by
  go_enter Try.func30, Try.ntmps30
  go_wp2
  exact bodyPost_ret (v := .agg #[.int .i64 1, .int .i64 n, .int .u64 c, .string t, .bool false]) (by simp [results, Try.results30, go_sem]) rfl ⟨rfl, ((Ext.refl _).alloc _).alloc _⟩

theorem or_signature (r c ph : Int) (t : ByteArray) (k f c2 : Int) (t2 : ByteArray) (fk : Bool) (n : Int) (w : World) :
    Calls Try.prog 37 #[.agg #[.int .i64 r, .int .u64 c, .string t, .int .i64 ph, .int .i64 k, .int .i64 f, .int .u64 c2, .string t2, .bool fk], .int .i64 n] w fun e w' => e = .returned (.agg #[.int .i64 2, .int .i64 n, .int .u64 c, .string t, .bool false]) ∧ Ext w w' := by
  go_enter Try.func37, Try.ntmps37
  go_wp2
  exact bodyPost_ret (v := .agg #[.int .i64 2, .int .i64 n, .int .u64 c, .string t, .bool false]) (by simp [results, Try.results37, go_sem]) rfl ⟨rfl, ((Ext.refl _).alloc _).alloc _⟩

theorem or_instead (r c ph : Int) (t : ByteArray) (k f c2 : Int) (t2 : ByteArray) (fk : Bool) (w : World) :
    Calls Try.prog 38 #[.agg #[.int .i64 r, .int .u64 c, .string t, .int .i64 ph, .int .i64 k, .int .i64 f, .int .u64 c2, .string t2, .bool fk]] w fun e w' => e = .returned (.agg #[.int .i64 6, .int .i64 0, .int .u64 c, .string t, .bool false]) ∧ Ext w w' := by
  go_enter Try.func38, Try.ntmps38
  go_wp2
  exact bodyPost_ret (v := .agg #[.int .i64 6, .int .i64 0, .int .u64 c, .string t, .bool false]) (by simp [results, Try.results38, go_sem]) rfl ⟨rfl, ((Ext.refl _).alloc _).alloc _⟩

theorem or_token (r c ph : Int) (t : ByteArray) (k f c2 : Int) (t2 : ByteArray) (fk : Bool) (w : World) :
    Calls Try.prog 41 #[.agg #[.int .i64 r, .int .u64 c, .string t, .int .i64 ph, .int .i64 k, .int .i64 f, .int .u64 c2, .string t2, .bool fk]] w fun e w' => e = .returned (.agg #[.int .i64 5, .int .i64 0, .int .u64 c, .string { data := #[] }, .bool false]) ∧ Ext w w' := by
  go_enter Try.func41, Try.ntmps41
  go_wp2
  exact bodyPost_ret (v := .agg #[.int .i64 5, .int .i64 0, .int .u64 c, .string { data := #[] }, .bool false]) (by simp [results, Try.results41, go_sem]) rfl ⟨rfl, ((Ext.refl _).alloc _).alloc _⟩



/-- A state's phase 6: signed. -/
def chk6 (c : Int) (t : ByteArray) (k f c2 : Int) (t2 : ByteArray) (fk : Bool) : Bool :=
  lEq k f c2 t2 fk 2 1 c t false || lEq k f c2 t2 fk 6 0 c t false

set_option maxHeartbeats 400000 in
theorem or_check6 (c : Int) (t : ByteArray) (k f c2 : Int) (t2 : ByteArray) (fk : Bool) (w : World) (ht : (t.size : Int) ≤ 64) :
    Calls Try.prog 13 #[.agg #[.int .i64 0, .int .u64 c, .string t, .int .i64 6, .int .i64 k, .int .i64 f, .int .u64 c2, .string t2, .bool fk]] w fun e w' => e = .returned (.bool (chk6 c t k f c2 t2 fk)) ∧ Ext w w' := by
  unfold chk6
  rcases h : lEq k f c2 t2 fk 2 1 c t false
  all_goals
    go_enter Try.func13, Try.ntmps13
    go_wp2_with fail
    refine wp_region_ext (by kernel_rfl) (by kernel_rfl) ?_
    repeat (go_big_quiet_step ((first | (go_at_call 37; exact calls_ext (or_signature _ _ _ _ _ _ _ _ _ _ _)) | (go_at_call 38; exact calls_ext (or_instead _ _ _ _ _ _ _ _ _ _)))))
    refine wpQuiet_nil ?_
    intro _ hx
    obtain ⟨x, rfl⟩ := hx
    go_wp2
    go_ret
    exact ⟨by simp, ((Ext.refl _).alloc _).val x⟩

/-- Is a state good? -/
def chk (r c : Int) (t : ByteArray) (ph k f c2 : Int) (t2 : ByteArray) (fk : Bool) : Bool :=
  if r = 0 ∧ t.size ≤ 64 then
    if ph = 6 then chk6 c t k f c2 t2 fk
    else if ph = 0 then t.toList.isEmpty && lEq k f c2 t2 fk 0 0 0 { data := #[] } false
    else if ph = 2 ∨ ph = 3 ∨ ph = 4 ∨ ph = 5 ∨ ph = 7 then lEq k f c2 t2 fk 0 0 0 { data := #[] } false
    else false
  else false

set_option maxHeartbeats 400000 in
theorem or_check (r c : Int) (t : ByteArray) (ph k f c2 : Int) (t2 : ByteArray) (fk : Bool) (w : World) :
    Calls Try.prog 13 #[.agg #[.int .i64 r, .int .u64 c, .string t, .int .i64 ph, .int .i64 k, .int .i64 f, .int .u64 c2, .string t2, .bool fk]] w fun e w' => e = .returned (.bool (chk r c t ph k f c2 t2 fk)) ∧ Ext w w' := by
  by_cases h0 : r = 0 ∧ t.size ≤ 64
  · obtain ⟨rfl, h1⟩ := h0
    by_cases h6 : ph = 6
    · subst h6
      have := or_check6 c t k f c2 t2 fk w (by omega)
      simpa [chk, h1] using this
    · go_enter Try.func13, Try.ntmps13
      go_wp2
      all_goals (go_ret; exact ⟨ret_bool (by go_light; simp_all [chk]), (Ext.refl _).alloc _⟩)
  · have e : chk r c t ph k f c2 t2 fk = false := by unfold chk; rw [if_neg h0]
    rw [e]
    clear e
    have h1 : ¬ (r = 0 ∧ (t.size : Int) ≤ 64) := by omega
    go_enter Try.func13, Try.ntmps13
    go_wp2
    all_goals first | (go_light; omega) | (go_ret; exact ⟨rfl, (Ext.refl _).alloc _⟩)
end Go.Proofs.Ytnfehccnofhmnaa

/-
  A region that draws its order, walked once: the operations that give one value in every world that extends the region's first one are taken ahead, in the order of the text; the others (a call that makes a slice, a store) are walked behind them, each in whatever world extends what was. No condition.
-/
namespace Go.Proofs.Ytnfehccnofhmnaa
open Go.RowKit
section
variable {P : Program} {md : Region.Mode} {ops : Array Oper}

/-- The same, but for a panic, which is not to come. -/
def Quiets (Q : Exit → Act → World → Prop) : Exit → Act → World → Prop
  | .panic _, _, _ => False
  | e, a, w => Q e a w
theorem quiets_imp {Q : Exit → Act → World → Prop} : ∀ (e : Exit) (a : Act) (w : World), Quiets Q e a w → Q e a w := fun e a w h => by
  cases e <;> first | exact h | exact h.elim

/-- Whatever order is picked, and whatever else extends the world between two operations. -/
def wpAnyE (P : Program) (md : Region.Mode) (ops : Array Oper) (C : World → Prop) (Q : Exit → Act → World → Prop) : Nat → Array Bool → Act → World → Prop
  | 0, listed, a, w => Region.ready md ops listed = [] ∧ ∀ w', Ext w w' → Q .normal a w'
  | n + 1, listed, a, w => ∀ w', Ext w w' → ((Region.ready md ops listed = [] → Q .normal a w') ∧
      ∀ i ∈ Region.ready md ops listed, wpOp P ops (Quiets Q) i (fun a' w'' => C w'' ∧ wpAnyE P md ops C Q n (listed.setIfInBounds i true) a' w'') a w')

theorem wpAnyE_up {C : World → Prop} {Q : Exit → Act → World → Prop} : ∀ (n : Nat) {l : Array Bool} {a : Act} {w w' : World}, wpAnyE P md ops C Q n l a w → Ext w w' → wpAnyE P md ops C Q n l a w'
  | 0, _, _, _, _, h, e => ⟨h.1, fun _ k => h.2 _ (e.trans k)⟩
  | _ + 1, _, _, _, _, h, e => fun _ k => h _ (e.trans k)

theorem wpAny_of_E {C : World → Prop} {Q : Exit → Act → World → Prop} : ∀ (n : Nat) (l : Array Bool) (a : Act) (w : World), wpAnyE P md ops C Q n l a w → wpAny P md ops (Quiets Q) n l a w
  | 0, _, _, _, h => ⟨h.1, h.2 _ (Ext.refl _)⟩
  | n + 1, _, _, _, h => ⟨fun h0 => (h _ (Ext.refl _)).1 h0, fun i hi => wpOp_mono (fun a' w' h' => wpAny_of_E n _ a' w' h'.2) ((h _ (Ext.refl _)).2 i hi)⟩

/-- In every world of the class the operation gives v, and leaves what extends that world. -/
def YieldsE (P : Program) (ops : Array Oper) (C : World → Prop) (o : Oper) (v : Value) (a : Act) : Prop :=
  (Region.wanted o (yielded ops a.tmps) = true ∧ ∀ w, C w → o.quietAt P a (Ext w) w v) ∨
  (Region.wanted o (yielded ops a.tmps) = false ∧ v = undef)

theorem YieldsE.wpOp {C : World → Prop} {Q : Exit → Act → World → Prop} {i : Nat} {o : Oper} {v : Value} {a : Act} (hi : ops[i]? = some o) (hy : YieldsE P ops C o v a)
    {K : Act → World → Prop} {w : World} (hC : C w) (h : ∀ w', Ext w w' → K (a.put o.dst v) w') : Go.wpOp P ops Q i K a w := by
  unfold Go.wpOp
  simp only [hi]
  rcases hy with ⟨hw, hv⟩ | ⟨hw, rfl⟩
  · rw [if_pos hw]
    refine .inl ?_
    have h1 := hv w hC
    unfold Oper.quietAt at h1
    unfold Oper.wp
    generalize (execOp a.eval o).run P w = r at *
    cases r with
    | ok n w' =>
      cases n <;> simp only [Oper.quietUpon] at h1 <;> simp only [Oper.upon]
      case value u => obtain ⟨e1, e2⟩ := h1; rw [e1, e2]; exact h _ (Ext.refl _)
      case skip => obtain ⟨e1, e2⟩ := h1; rw [e1, ← e2]; exact h _ (Ext.refl _)
      case enter f args =>
        obtain ⟨e1, hc⟩ := h1
        rw [e1]
        exact hc.mono fun e w'' ⟨he, hw''⟩ => by subst he; exact h _ hw''
    | halt x w' => simp only [Oper.quietUpon] at h1
  · rw [if_neg (by rw [hw]; exact Bool.false_ne_true)]
    exact h _ (Ext.refl _)

theorem YieldsE.of_same {C : World → Prop} {o : Oper} {v : Value} {a a' : Act} (hy : YieldsE P ops C o v a) (he : execOp a'.eval o = execOp a.eval o)
    (hw : Region.wanted o (yielded ops a'.tmps) = Region.wanted o (yielded ops a.tmps)) : YieldsE P ops C o v a' := by
  unfold YieldsE Oper.quietAt at *
  rw [he, hw]
  exact hy

/-- An operation that is apart from the one that was taken ahead. -/
theorem wpOp_behind {C : World → Prop} {Q : Exit → Act → World → Prop} {j : Nat} {oi oj : Oper} {v : Value} (hj : ops[j]? = some oj) (hap : oi.apart ops oj = true)
    (hsi : ∀ cs b, oi.op ≠ .select cs b) (hsj : ∀ cs b, oj.op ≠ .select cs b) {K : Act → World → Prop} {a : Act} {w : World}
    (hy : YieldsE P ops C oi v a) (h : wpOp P ops (Quiets Q) j K (a.put oi.dst v) w) :
    wpOp P ops (Quiets Q) j (fun a' w' => YieldsE P ops C oi v a' ∧ K (a'.put oi.dst v) w') a w := by
  obtain ⟨h1, h2, h3⟩ := Oper.apart_spec hap
  have keep : ∀ (a : Act), YieldsE P ops C oi v a → ∀ u, YieldsE P ops C oi v (a.put oj.dst u) := fun a hy u =>
    hy.of_same (execOp_put oi hsi a oj.dst u h3) (wanted_put oi a oj.dst u h3)
  have comm : ∀ (a : Act) u, (a.put oj.dst u).put oi.dst v = (a.put oi.dst v).put oj.dst u := fun a u => (Act.put_comm a v u h2).symm
  unfold wpOp at *
  simp only [hj] at *
  rw [wanted_put oj a oi.dst v h1] at h
  by_cases hw : Region.wanted oj (yielded ops a.tmps) = true
  · rw [if_pos hw] at h ⊢
    have he := execOp_put oj hsj a oi.dst v h1
    rcases h with h | h
    · refine .inl ?_
      unfold Oper.wp at *
      rw [he] at h
      generalize (execOp a.eval oj).run P w = r at *
      cases r with
      | ok n w' =>
        cases n <;> simp only [Oper.upon] at h ⊢
        case value u => exact ⟨keep a hy u, by rw [comm]; exact h⟩
        case skip => exact ⟨keep a hy _, by rw [comm]; exact h⟩
        case defer d =>
          refine ⟨keep { a with defers := d :: a.defers } (hy.of_same rfl rfl) _, ?_⟩
          rw [comm, ← Act.put_defers]
          exact h
        case enter f args =>
          refine Calls.mono h fun e w'' he => ?_
          cases e with
          | returned u => exact ⟨keep a hy u, by rw [comm]; exact he⟩
          | panicked c => exact (he : False).elim
          | outgrown => exact he
        case row row args => exact Rows.mono h fun u w'' he => ⟨keep a hy u, by rw [comm]; exact he⟩
      | halt x w' =>
        cases x <;> simp only [Oper.upon] at h ⊢
        case panic u => exact (h : False).elim
    · refine .inr ⟨?_, h.2⟩
      have h4 := h.1
      unfold Oper.asks at *
      rwa [he] at h4
  · rw [if_neg hw] at h ⊢
    exact ⟨keep a hy _, by rw [comm]; exact h⟩

/-- An operation that may come up is taken ahead. -/
theorem wpAnyE_first {C : World → Prop} (hCE : ∀ w w', C w → Ext w w' → C w') {Q : Exit → Act → World → Prop} {i : Nat} {oi : Oper} {v : Value} (hi : ops[i]? = some oi)
    (hsel : ∀ (j : Nat) (o : Oper) cs b, ops[j]? = some o → o.op ≠ .select cs b) :
    ∀ (n : Nat) (l : Array Bool) (a : Act) (w : World),
      (∀ j oj, ops[j]? = some oj → j ≠ i → l.getD j true = false → (∀ e ∈ oj.after, Region.binds md e = true → e.on ≠ i) → oi.apart ops oj = true) →
      i ∈ Region.ready md ops l → YieldsE P ops C oi v a → C w →
      wpAnyE P md ops C Q n (l.setIfInBounds i true) (a.put oi.dst v) w → wpAnyE P md ops C Q (n + 1) l a w := by
  intro n
  induction n with
  | zero =>
    intro l a w _ hr hy hC H w' hw'
    refine ⟨fun h => (by rw [h] at hr; cases hr), fun j hj => ?_⟩
    by_cases hji : j = i
    · subst hji
      exact hy.wpOp hi (hCE _ _ hC hw') fun w'' hw'' => ⟨hCE _ _ (hCE _ _ hC hw') hw'', wpAnyE_up 0 H (hw'.trans hw'')⟩
    · have := ready_mono hj hji
      rw [H.1] at this
      cases this
  | succ n ih =>
    intro l a w hfree hr hy hC H w' hw'
    refine ⟨fun h => (by rw [h] at hr; cases hr), fun j hj => ?_⟩
    by_cases hji : j = i
    · subst hji
      exact hy.wpOp hi (hCE _ _ hC hw') fun w'' hw'' => ⟨hCE _ _ (hCE _ _ hC hw') hw'', wpAnyE_up (n + 1) H (hw'.trans hw'')⟩
    · have h1 := (H w' hw').2 j (ready_mono hj hji)
      obtain ⟨hjun, oj, hoj, hall⟩ := mem_ready.1 hj
      have hnot : ∀ e ∈ oj.after, Region.binds md e = true → e.on ≠ i := fun e he hb heq => by
        have h2 := hall e he hb
        have h0 := (mem_ready.1 hr).1
        rw [heq] at h2
        rcases Nat.lt_or_ge i l.size with h' | h'
        · simp [h'] at h0 h2; rw [h0] at h2; cases h2
        · simp [Array.getElem?_eq_none h'] at h2
      have h2 := wpOp_behind hoj (hfree j oj hoj hji hjun hnot) (fun cs b => hsel i oi cs b hi) (fun cs b => hsel j oj cs b hoj) hy h1
      have hfree' : ∀ k ok, ops[k]? = some ok → k ≠ i → (l.setIfInBounds j true).getD k true = false →
          (∀ e ∈ ok.after, Region.binds md e = true → e.on ≠ i) → oi.apart ops ok = true := fun k ok hk hki hun hno => by
        refine hfree k ok hk hki ?_ hno
        by_cases hjk : j = k
        · subst hjk; exact hjun
        · rw [getD_set_ne true hjk] at hun; exact hun
      refine wpOp_mono (fun a' w'' h3 => ⟨h3.2.1, ih (l.setIfInBounds j true) a' w'' hfree' (ready_mono hr (Ne.symm hji)) h3.1 h3.2.1 ?_⟩) h2
      rw [Array.setIfInBounds_comm _ _ hji]
      exact h3.2.2

/-- Those of a list that are taken ahead (where the mask says true). -/
def pickT : List Bool → List Oper → List Oper
  | b :: m, o :: l => if b then o :: pickT m l else pickT m l
  | _, _ => []

/-- What is listed when those are taken, if each may come up and is free. -/
def Region.lexMask (md : Region.Mode) (ops : Array Oper) : List Bool → Nat → Array Bool → Option (Array Bool)
  | [], _, l => some l
  | b :: m, k, l =>
    if b then
      if (Region.ready md ops l).contains k && Region.free md ops l k then Region.lexMask md ops m (k + 1) (l.setIfInBounds k true) else none
    else Region.lexMask md ops m (k + 1) l

/-- The walk of those that are taken, in the order of the text: it ends in the frame af. -/
def walkE (P : Program) (ops : Array Oper) (C : World → Prop) (af : Act) : List Oper → Act → Prop
  | [], a => a = af
  | o :: l, a => ∃ v, YieldsE P ops C o v a ∧ walkE P ops C af l (a.put o.dst v)

theorem wpAnyE_lex {C : World → Prop} (hCE : ∀ w w', C w → Ext w w' → C w') {Q : Exit → Act → World → Prop} (hs : Region.noSelect ops = true) {af : Act} {le : Array Bool} {g : Nat} :
    ∀ (m : List Bool) (l : List Oper) (k : Nat) (listed : Array Bool) (a : Act) (w : World), m.length = l.length → (∀ j, j < l.length → l[j]? = ops[k + j]?) → Region.lexMask md ops m k listed = some le →
    walkE P ops C af (pickT m l) a → C w → wpAnyE P md ops C Q g le af w → wpAnyE P md ops C Q ((pickT m l).length + g) listed a w
  | [], [], _, _, _, _, _, _, hm, hw, _, h => by
    simp only [Region.lexMask, Option.some.injEq] at hm
    simp only [pickT, walkE] at hw
    subst hm; subst hw
    simpa [pickT] using h
  | [], _ :: _, _, _, _, _, hl, _, _, _, _, _ => by simp at hl
  | _ :: _, [], _, _, _, _, hl, _, _, _, _, _ => by simp at hl
  | b :: m, o :: l, k, listed, a, w, hl, ho, hm, hw, hC, h => by
    have h0 : ops[k]? = some o := by simpa using (ho 0 (by simp)).symm
    have hl' : m.length = l.length := by simpa using hl
    have ho' : ∀ j, j < l.length → l[j]? = ops[k + 1 + j]? := fun j hj => by
      have := ho (j + 1) (by simp; omega)
      simpa [Nat.add_assoc, Nat.add_comm 1 j] using this
    cases b
    · simp only [Region.lexMask, pickT, Bool.false_eq_true, if_false] at hm hw ⊢
      exact wpAnyE_lex hCE hs m l (k + 1) listed a w hl' ho' hm hw hC h
    · simp only [Region.lexMask, pickT, if_true] at hm hw ⊢
      split at hm
      case isFalse => cases hm
      case isTrue hc =>
        simp only [Bool.and_eq_true] at hc
        obtain ⟨v, hy, hw'⟩ := hw
        have ih := wpAnyE_lex hCE hs m l (k + 1) _ _ w hl' ho' hm hw' hC h
        rw [List.length_cons, show (pickT m l).length + 1 + g = ((pickT m l).length + g) + 1 by omega]
        exact wpAnyE_first hCE h0 (Region.noSelect_spec hs) _ listed a w (Region.free_spec h0 hc.2) (by simpa using hc.1) hy hC ih

/-- Each writes a slot of its own, within the frame. -/
def dstsOk (n : Nat) : List Oper → Bool
  | [] => true
  | o :: l => (match o.dst with | some d => decide (d < n) && l.all (fun p => p.dst != some d) | none => false) && dstsOk n l

theorem put_size (a : Act) (d : Option Tmp) (v : Value) : (a.put d v).tmps.size = a.tmps.size := by
  cases d <;> simp [Act.put]

theorem final_slot {C : World → Prop} {af : Act} {d : Tmp} : ∀ (l : List Oper) (a : Act), l.all (fun p => p.dst != some d) = true → wpQuiet P ops C (fun a' => a' = af) l a → af.tmps[d]? = a.tmps[d]?
  | [], a, _, h => by simp only [wpQuiet] at h; rw [h]
  | o :: l, a, hd, h => by
    simp only [List.all_cons, Bool.and_eq_true] at hd
    have hne : o.dst ≠ some d := by simpa using hd.1
    have hput : ∀ v, (a.put o.dst v).tmps[d]? = a.tmps[d]? := fun v => by
      cases hx : o.dst with
      | none => rfl
      | some e =>
        have : e ≠ d := fun he => hne (by rw [hx, he])
        simp [Act.put, Array.getElem?_setIfInBounds_ne this]
    simp only [wpQuiet] at h
    split at h
    · obtain ⟨v, _, hv⟩ := h
      rw [final_slot l _ hd.2 hv, hput]
    · rw [final_slot l _ hd.2 h, hput]

theorem quietAt_ext {o : Oper} {a : Act} {w : World} {v : Value} (h : o.quietAt P a (fun w' => ∃ x : ExtOf w, w' = x.val) w v) : o.quietAt P a (Ext w) w v := by
  unfold Oper.quietAt at *
  generalize (execOp a.eval o).run P w = r at *
  cases r with
  | ok n w' =>
    cases n <;> simp only [Oper.quietUpon] at h ⊢
    case value u => exact h
    case skip => exact h
    case enter f args => exact ⟨h.1, h.2.mono fun e w'' ⟨he, x, hx⟩ => ⟨he, by rw [hx]; exact x.ext⟩⟩
  | halt x w' => simp only [Oper.quietUpon] at h

theorem walkE_of_quiet {C : World → Prop} {af : Act} (hne : ∃ w, C w) : ∀ (l : List Oper) (a : Act), dstsOk a.tmps.size l = true →
    (∀ w, C w → wpQuiet P ops (fun w' => ∃ x : ExtOf w, w' = x.val) (fun a' => a' = af) l a) → walkE P ops C af l a
  | [], a, _, h => by
    obtain ⟨w, hw⟩ := hne
    simpa only [walkE, wpQuiet] using h w hw
  | o :: l, a, hd, h => by
    simp only [dstsOk, Bool.and_eq_true] at hd
    obtain ⟨hd1, hd2⟩ := hd
    cases hx : o.dst with
    | none => rw [hx] at hd1; cases hd1
    | some d =>
      rw [hx] at hd1
      simp only [Bool.and_eq_true, decide_eq_true_eq] at hd1
      by_cases hw : Region.wanted o (yielded ops a.tmps) = true
      · obtain ⟨w₀, hw₀⟩ := hne
        have h0 := h w₀ hw₀
        simp only [wpQuiet, hw, if_true] at h0
        obtain ⟨v, _, hv⟩ := h0
        have e0 := final_slot l _ hd1.2 hv
        have key : ∀ w, C w → o.quietAt P a (Ext w) w v ∧ wpQuiet P ops (fun w' => ∃ x : ExtOf w, w' = x.val) (fun a' => a' = af) l (a.put o.dst v) := fun w hC => by
          have h1 := h w hC
          simp only [wpQuiet, hw, if_true] at h1
          obtain ⟨u, hu, hn⟩ := h1
          have e1 := final_slot l _ hd1.2 hn
          rw [e0, hx] at e1
          simp only [Act.put, Array.getElem?_setIfInBounds_self_of_lt hd1.1, Option.some.injEq] at e1
          subst e1
          exact ⟨quietAt_ext (hu w ⟨⟨w, Ext.refl w⟩, rfl⟩), hn⟩
        exact ⟨v, .inl ⟨hw, fun w hC => (key w hC).1⟩, walkE_of_quiet ⟨w₀, hw₀⟩ l _ (by rw [put_size]; exact hd2) fun w hC => (key w hC).2⟩
      · have hw' : Region.wanted o (yielded ops a.tmps) = false := by simpa using hw
        refine ⟨undef, .inr ⟨hw', rfl⟩, walkE_of_quiet hne l _ (by rw [put_size]; exact hd2) fun w hC => ?_⟩
        have h1 := h w hC
        simpa only [wpQuiet, hw', Bool.false_eq_true, if_false] using h1

/-- The rest, if it comes up in one order alone: from number k on those of the list where the mask says false. -/
def seqMask (md : Region.Mode) (ops : Array Oper) : List Bool → Nat → Array Bool → Bool
  | [], _, l => (Region.ready md ops l).isEmpty
  | b :: m, k, l => if b then seqMask md ops m (k + 1) l else decide (Region.ready md ops l = [k]) && seqMask md ops m (k + 1) (l.setIfInBounds k true)

def pickF : List Bool → List Oper → List Oper
  | b :: m, o :: l => if b then pickF m l else o :: pickF m l
  | _, _ => []

/-- The rest, one behind the other, each in whatever extends what was. -/
def wpChain (P : Program) (ops : Array Oper) (C : World → Prop) (Q : Exit → Act → World → Prop) : List Oper → Act → World → Prop
  | [], a, w => ∀ x : ExtOf w, Q .normal a x.val
  | o :: l, a, w => ∀ x : ExtOf w, wpList P ops (Exit.then (fun a' w'' => C w'' ∧ wpChain P ops C Q l a' w'') (Quiets Q)) [o] a x.val

theorem wpAnyE_of_chain {C : World → Prop} {Q : Exit → Act → World → Prop} : ∀ (m : List Bool) (l : List Oper) (k : Nat) (listed : Array Bool) (a : Act) (w : World), m.length = l.length →
    (∀ j, j < l.length → l[j]? = ops[k + j]?) → seqMask md ops m k listed = true → wpChain P ops C Q (pickF m l) a w → wpAnyE P md ops C Q (pickF m l).length listed a w
  | [], [], _, _, _, _, _, _, hm, h => ⟨by simpa [seqMask] using hm, fun w' hw' => h ⟨w', hw'⟩⟩
  | [], _ :: _, _, _, _, _, hl, _, _, _ => by simp at hl
  | _ :: _, [], _, _, _, _, hl, _, _, _ => by simp at hl
  | b :: m, o :: l, k, listed, a, w, hl, ho, hm, h => by
    have h0 : ops[k]? = some o := by simpa using (ho 0 (by simp)).symm
    have hl' : m.length = l.length := by simpa using hl
    have ho' : ∀ j, j < l.length → l[j]? = ops[k + 1 + j]? := fun j hj => by
      have := ho (j + 1) (by simp; omega)
      simpa [Nat.add_assoc, Nat.add_comm 1 j] using this
    cases b
    · simp only [seqMask, pickF, Bool.false_eq_true, if_false, Bool.and_eq_true, decide_eq_true_eq] at hm h ⊢
      intro w' hw'
      refine ⟨fun h1 => (by rw [hm.1] at h1; cases h1), fun i hi => ?_⟩
      rw [hm.1] at hi
      have hik : i = k := by simpa using hi
      subst hik
      have hw := h ⟨w', hw'⟩
      simp only [wpList] at hw
      have hop : wpOp P ops (Quiets Q) i (fun a' w'' => C w'' ∧ wpChain P ops C Q (pickF m l) a' w'') a w' := by
        unfold wpOp
        simp only [h0]
        by_cases hwd : Region.wanted o (yielded ops a.tmps) = true
        · rw [if_pos hwd] at hw ⊢
          rcases hw with hw | hw
          · refine .inl ?_
            unfold Oper.wp at *
            generalize (execOp a.eval o).run P w' = r at *
            cases r with
            | ok n w2 =>
              cases n <;> simp only [Oper.upon] at hw ⊢
              case value u => exact hw
              case skip => exact hw
              case defer d => exact hw
              case enter f args =>
                exact Calls.mono hw fun e w'' he => by
                  cases e with
                  | returned u => exact he
                  | panicked c => exact he
                  | outgrown => exact he
              case row row args => exact hw
            | halt x w2 =>
              cases x <;> simp only [Oper.upon] at hw ⊢
              case panic u => exact hw
          · exact .inr ⟨hw.1, hw.2⟩
        · rw [if_neg hwd] at hw ⊢
          exact hw
      exact wpOp_mono (fun a' w'' h' => ⟨h'.1, wpAnyE_of_chain m l (i + 1) _ a' w'' hl' ho' hm.2 h'.2⟩) hop
    · simp only [seqMask, pickF, if_true] at hm h ⊢
      exact wpAnyE_of_chain m l (k + 1) listed a w hl' ho' hm h

/-- The three Bools of a region at once. -/
def mixB (md : Region.Mode) (ops : Array Oper) (m : List Bool) (l : List Oper) (n : Nat) : Bool :=
  Region.noSelect ops && decide (m.length = l.length) && dstsOk n (pickT m l) &&
    (match Region.lexMask md ops m 0 (Array.replicate l.length false) with | some le => seqMask md ops m 0 le | none => false)

theorem pick_length : ∀ (m : List Bool) (l : List Oper), m.length = l.length → (pickT m l).length + (pickF m l).length = l.length
  | [], [], _ => rfl
  | [], _ :: _, h => by simp at h
  | _ :: _, [], h => by simp at h
  | b :: m, o :: l, h => by
    have := pick_length m l (by simpa using h)
    cases b <;> simp [pickT, pickF] <;> omega

/-- A REGION THAT DRAWS ITS ORDER: those that the mask names are taken ahead, the rest follows in the one order that it has. -/
theorem wp_region_mix {id : Nat} {Q : Exit → Act → World → Prop} {a af : Act} {w : World} {l : List Oper} (m : List Bool) (n : Nat) (C : World → Prop) (hm : P.follows .mixedOrders = true)
    (hn : a.tmps.size = n) (hB : mixB .any l.toArray m l n = true) (hCE : ∀ w w', C w → Ext w w' → C w') (hC : C w.drew)
    (h : ∀ w', C w' → wpQuiet P l.toArray (fun w'' => ∃ x : ExtOf w', w'' = x.val) (fun a' => a' = af) (pickT m l) a)
    (hr : wpChain P l.toArray C Q (pickF m l) af w.drew) : (Code.region id l.toArray true).wp P Q a w := by
  subst hn
  simp only [mixB, Bool.and_eq_true, decide_eq_true_eq] at hB
  obtain ⟨⟨⟨hs, hl⟩, hd⟩, hx⟩ := hB
  split at hx
  case h_2 => cases hx
  case h_1 le hle =>
    have hq := walkE_of_quiet (P := P) (ops := l.toArray) ⟨_, hC⟩ (pickT m l) a hd h
    have hch := wpAnyE_of_chain (P := P) (md := .any) (ops := l.toArray) (C := C) (Q := Q) m l 0 le af w.drew hl (fun j _ => by simp) hx hr
    have := wpAnyE_lex (P := P) (md := .any) (ops := l.toArray) (Q := Q) hCE hs m l 0 _ a w.drew hl (fun j _ => by simp) hle hq hC hch
    rw [pick_length m l hl] at this
    refine Code.wp_mono quiets_imp (wp_region_any hm ?_)
    have h2 := wpAny_of_E _ _ _ _ this
    simpa using h2

/-- The same, at the class of the worlds that extend the first one. -/
theorem wp_region_mixE {id : Nat} {Q : Exit → Act → World → Prop} {a af : Act} {w : World} {l : List Oper} (m : List Bool) (n : Nat) (hm : P.follows .mixedOrders = true)
    (hn : a.tmps.size = n) (hB : mixB .any l.toArray m l n = true)
    (h : ∀ x : ExtOf w, wpQuiet P l.toArray (fun w'' => ∃ y : ExtOf x.val, w'' = y.val) (fun a' => a' = af) (pickT m l) a)
    (hr : wpChain P l.toArray (Ext w) Q (pickF m l) af w.drew) : (Code.region id l.toArray true).wp P Q a w :=
  wp_region_mix m n (Ext w) hm hn hB (fun _ _ h e => Ext.trans h e) (Ext.refl _).drew (fun w' hw' => h ⟨w', hw'⟩) hr

/-- The same, at the class of the worlds that have the blocks below B as they were. -/
theorem wp_region_mixB {id : Nat} {Q : Exit → Act → World → Prop} {a af : Act} {w : World} {l : List Oper} (B : Nat) (hBw : B ≤ w.heap.size) (m : List Bool) (n : Nat) (hm : P.follows .mixedOrders = true)
    (hn : a.tmps.size = n) (hB : mixB .any l.toArray m l n = true)
    (h : ∀ x : BelOf B w, wpQuiet P l.toArray (fun w'' => ∃ y : ExtOf x.val, w'' = y.val) (fun a' => a' = af) (pickT m l) a)
    (hr : wpChain P l.toArray (Below B w) Q (pickF m l) af w.drew) : (Code.region id l.toArray true).wp P Q a w :=
  wp_region_mix m n (Below B w) hm hn hB (fun _ _ h e => bel_ext h e hBw) (Below.refl _ _).drew (fun w' hw' => h ⟨w', hw'⟩) hr

/-- A region whose rest holds a store into block X (a result's cell, say). -/
theorem wp_region_mixX {id : Nat} {Q : Exit → Act → World → Prop} {a af : Act} {w : World} {l : List Oper} (X : Nat) (m : List Bool) (n : Nat) (hm : P.follows .mixedOrders = true)
    (hn : a.tmps.size = n) (hB : mixB .any l.toArray m l n = true)
    (h : ∀ x : ButOf X w, wpQuiet P l.toArray (fun w'' => ∃ y : ExtOf x.val, w'' = y.val) (fun a' => a' = af) (pickT m l) a)
    (hr : wpChain P l.toArray (fun w' => w.grownBy w' (some X)) Q (pickF m l) af w.drew) : (Code.region id l.toArray true).wp P Q a w :=
  wp_region_mix m n (fun w' => w.grownBy w' (some X)) hm hn hB (fun _ _ h e => but_ext h e) (but_ext (but_refl X w) (Ext.refl w).drew) (fun w' hw' => h ⟨w', hw'⟩) hr

/-- The results of a function that hands back a struct (in a cell) and a slot. -/
theorem results_row_tmp {fn : Func} {p u : Tmp} {ty : TypeId} (h : fn.results = #[.cell p ty, .tmp u]) (tmps : Array Value) (w : World) (g : Nat) (t : TypeId) (cs : Array Value) (fr : Nat × Nat) (d : TypeDesc)
    (hp : tmps.getD p undef = .pointer (some ⟨g, 0, none⟩)) (hg : w.heap[g]? = some (.cells cs t fr))
    (hu : P.underlying ty = some d) (hd : (match d with | .struct _ | .array _ _ => true | _ => false) = true) (hi : (P.info? ty).map (·.size) = some cs.size) :
    (results fn tmps).run P w = .ok (.tuple #[.agg cs, tmps.getD u undef]) w := by
  rw [results_cell_tmp h, hp]
  simp [asAddr, run_loadVar_row w g t ty cs fr d hg hu hd hi]
end
end Go.Proofs.Ytnfehccnofhmnaa

/-
  The plain data: letters, states, events, what is sent; their cells; lists of them in memory. No condition.
-/
namespace Go.Proofs.Ytnfehccnofhmnaa
open Go.RowKit

structure Lt where
  k : Int
  f : Int
  c : Int
  t : ByteArray
  b : Bool
structure St where
  r : Int
  c : Int
  t : ByteArray
  ph : Int
  p : Lt
structure Ev where
  k : Int
  c : Int
  t : ByteArray
  l : Lt
structure Ou where
  to : Int
  l : Lt

def Lt.cs (x : Lt) : List Value := [.int .i64 x.k, .int .i64 x.f, .int .u64 x.c, .string x.t, .bool x.b]
def St.cs (x : St) : List Value := [.int .i64 x.r, .int .u64 x.c, .string x.t, .int .i64 x.ph, .int .i64 x.p.k, .int .i64 x.p.f, .int .u64 x.p.c, .string x.p.t, .bool x.p.b]
def Ev.cs (x : Ev) : List Value := [.int .i64 x.k, .int .u64 x.c, .string x.t, .int .i64 x.l.k, .int .i64 x.l.f, .int .u64 x.l.c, .string x.l.t, .bool x.l.b]
def Ou.cs (x : Ou) : List Value := [.int .i64 x.to, .int .i64 x.l.k, .int .i64 x.l.f, .int .u64 x.l.c, .string x.l.t, .bool x.l.b]

/-- The empty letter. -/
def l0 : Lt := ⟨0, 0, 0, { data := #[] }, false⟩

/-- A slice v that shows n elements whose cells, one behind the other, are xs. -/
def Row (w : World) (size : Nat) (v : Value) (n : Nat) (xs : List Value) : Prop :=
  xs.length = n * size ∧ ((n = 0 ∧ ∃ a c, v = .slice a 0 c) ∨
    ∃ g off cap, v = .slice (some ⟨g, off, none⟩) n cap ∧ n ≤ maxLen ∧ ∀ j u, xs[j]? = some u → w.cell? ⟨g, off + j, none⟩ = some u)

theorem Row.ext {w w' : World} {size : Nat} {v : Value} {n : Nat} {xs : List Value} (h : Row w size v n xs) (e : Ext w w') : Row w' size v n xs := by
  refine ⟨h.1, h.2.imp id ?_⟩
  rintro ⟨g, off, cap, hv, hm, hc⟩
  refine ⟨g, off, cap, hv, hm, fun j u hj => ?_⟩
  have h1 := hc j u hj
  rw [Below.cell e (World.block_lt_of_cell? w _ h1)]
  exact h1

theorem Row.of_own {w : World} {base : Nat} {e : TypeId} {size : Nat} {v : Value} {n : Nat} {xs : List Value} (h : w.ownsRow base e size v n xs) : Row w size v n xs := by
  obtain ⟨hl, h⟩ := h
  refine ⟨hl, ?_⟩
  rcases h with ⟨hv, hn⟩ | ⟨g, cap, cur, hv, hb, hg, hn, hm, hs, hx⟩
  · exact .inl ⟨hn, none, 0, hv⟩
  · refine .inr ⟨g, 0, cap, hv, by omega, fun j u hj => ?_⟩
    rw [Nat.zero_add, cell_of_row w g j cur e (0, 0) hg]
    rw [← hx] at hj
    have : j < n * size := by
      have := (List.getElem?_eq_some_iff.1 hj).1
      rw [hx, hl] at this
      exact this
    rw [List.getElem?_take_of_lt this] at hj
    simpa using hj

/-- An own row stays, whatever extends the world. -/
theorem own_ext {w w' : World} {base : Nat} {e : TypeId} {size : Nat} {v : Value} {n : Nat} {xs : List Value} (h : w.ownsRow base e size v n xs) (x : Ext w w') : w'.ownsRow base e size v n xs := by
  refine ⟨h.1, h.2.imp id ?_⟩
  rintro ⟨g, cap, cur, hv, hb, hg, r⟩
  exact ⟨g, cap, cur, hv, hb, by rw [Below.block x g (Array.getElem?_eq_some_iff.1 hg).1]; exact hg, r⟩

theorem own_base {w : World} {base b' : Nat} {e : TypeId} {size : Nat} {v : Value} {n : Nat} {xs : List Value} (h : w.ownsRow base e size v n xs) (hb : b' ≤ base) : w.ownsRow b' e size v n xs := by
  refine ⟨h.1, h.2.imp id ?_⟩
  rintro ⟨g, cap, cur, hv, hg, r⟩
  exact ⟨g, cap, cur, hv, by omega, r⟩

theorem own_new {a w : World} {cs : Array Value} {n H size : Nat} {e : TypeId} {xs : List Value} (hw : Ext a w) (hH : w.heap.size = H) (hn : n ≤ maxLen) (hs : cs.size = n * size) (hx : cs.toList = xs) :
    (w.alloc (.cells cs e)).ownsRow a.heap.size e size (.slice (some ⟨H, 0, none⟩) n n) n xs := by
  subst hH; subst hx
  exact World.ownsRow_lit w cs n hw.size hn hs

theorem ext_grown {w w' : World} (h : w.grownBy w' none) : Ext w w' := ⟨h.os, h.tape, h.output, h.size, fun k hk => h.block k hk (by simp)⟩

/-- Behind an append to a row of the call's own: what was there when the call began is as it was. -/
theorem ext_append {a w w' : World} {v : Value} {base : Nat} {e : TypeId} {size n : Nat} {xs : List Value} (h : Ext a w) (hv : w.ownsRow base e size v n xs) (hb : a.heap.size ≤ base) (hg : w.grownBy w' v.ownBlock) : Ext a w' :=
  Below.grown h hg h.size fun k hk => by have := (hv.lt k hk).1; omega

theorem heap_new {w : World} {o : Obj} {G : Nat} (h : w.heap.size = G) : (w.alloc o).heap[G]? = some o := by
  subst h; exact heap_alloc_new w o

/-- append to a row of the call's own (in a block from B on), of what was just built. -/
theorem wpList_app {P : Program} {ops : Array Oper} {rest : List Oper} {o : Oper} {a : Act} {Q : Exit → Act → World → Prop} {w : World} (B : Nat) (t e : TypeId) (i : TypeInfo) (z : Value) (size bytes : Nat)
    (ht : P.underlying t = some (.slice e)) (hi : P.info? e = some i) (hz : i.zero = some z) (hsize : i.size = size) (hby : i.bytes = bytes) (hzs : z.cells.size = size) (hsz : 0 < size)
    (hgd : o.guard = none) (s x : Operand) (ho : o.op = .call { callee := .builtin .append, args := #[s, x], argTypes := #[t, t] })
    (v : Value) (n : Nat) (xs : List Value) (hs : a.eval s = v) (hown : w.ownsRow B e size v n xs) (hB : B ≤ w.heap.size)
    (G m c : Nat) (news : Array Value) (hx : a.eval x = .slice (some ⟨G, 0, none⟩) m c) (hG : w.heap[G]? = some (.cells news e (0, 0))) (hl : news.size = m * size) (h1 : ∀ u ∈ news.toList, u.oneCell' = true)
    (h63 : n + m ≤ maxLen) (hbytes : (n + m) * bytes ≤ 140737488355328)
    (h : ∀ v' w', w'.ownsRow B e size v' (n + m) (xs ++ news.toList) → Below B w w' → w.grownBy w' v.ownBlock → wpList P ops Q rest (a.put o.dst v') w') : wpList P ops Q (o :: rest) a w :=
  wpList_append_own w hgd s x t ho B e i z size bytes ht hi hz hsize hby hzs hsz v n xs hs hown ⟨G, 0, none⟩ m c news.toList hx (by simpa using hl)
    (fun j u hj => by
      have : (⟨G, 0, none⟩ : Addr).add j = ⟨G, j, none⟩ := by unfold Addr.add; split <;> simp_all
      rw [this, cell_of_row w G j news e (0, 0) hG]
      simpa using hj) h1 h63 hbytes hB
    fun v' w' k1 k2 _ => h v' w' k1 (Below.grown (Below.refl _ _) k2 hB fun k hk => (hown.lt k hk).1) k2

/-- An own row stays where another kind of block is written whole. -/
theorem own_setRow {w : World} {base : Nat} {e : TypeId} {size : Nat} {v : Value} {n : Nat} {xs : List Value} (h : w.ownsRow base e size v n xs) {X : Nat} {old : Array Value} {t : TypeId} {fr : Nat × Nat}
    (hX : w.heap[X]? = some (.cells old t fr)) (hne : e ≠ t) (cs : Array Value) : (w.setRow X cs).ownsRow base e size v n xs := by
  refine ⟨h.1, h.2.imp id ?_⟩
  rintro ⟨g, cap, cur, hv, hb, hg, r⟩
  refine ⟨g, cap, cur, hv, hb, ?_, r⟩
  rw [setRow_other]
  · exact hg
  · rintro rfl
    rw [hg] at hX
    simp only [Option.some.injEq, Obj.cells.injEq] at hX
    exact hne hX.2.1

/-- Where a row of the call's own lies. -/
theorem own_view {w : World} {base : Nat} {e : TypeId} {size : Nat} {v : Value} {n : Nat} {xs : List Value} (h : w.ownsRow base e size v n xs) :
    ∃ a cap, v = .slice a n cap ∧ n ≤ maxLen ∧ (0 < n → ∃ g, a = some ⟨g, 0, none⟩ ∧ base ≤ g ∧ g < w.heap.size ∧ ∀ j u, xs[j]? = some u → w.cell? ⟨g, j, none⟩ = some u) := by
  obtain ⟨hl, h0⟩ := h
  rcases h0 with ⟨hv, hn⟩ | ⟨g, cap, cur, hv, hb, hg, hn, hm, hs, hx⟩
  · exact ⟨none, 0, by rw [hv, hn], by omega, fun h => by omega⟩
  · refine ⟨_, cap, hv, by omega, fun _ => ⟨g, rfl, hb, (Array.getElem?_eq_some_iff.1 hg).1, fun j u hj => ?_⟩⟩
    rw [cell_of_row w g j cur e (0, 0) hg]
    rw [← hx] at hj
    have : j < n * size := by
      have := (List.getElem?_eq_some_iff.1 hj).1
      rw [hx, hl] at this
      exact this
    rw [List.getElem?_take_of_lt this] at hj
    simpa using hj

/-- Number j of the cells of element k. -/
theorem flat_get {α : Type} (f : α → List Value) (sz : Nat) (hf : ∀ x, (f x).length = sz) : ∀ (L : List α) (k : Nat) (x : α), L[k]? = some x → ∀ j, j < sz → (L.flatMap f)[k * sz + j]? = (f x)[j]?
  | [], k, x, h, _, _ => by simp at h
  | y :: L, 0, x, h, j, hj => by
    simp only [List.getElem?_cons_zero, Option.some.injEq] at h
    subst h
    rw [List.flatMap_cons, Nat.zero_mul, Nat.zero_add, List.getElem?_append_left (by rw [hf]; exact hj)]
  | y :: L, k + 1, x, h, j, hj => by
    simp only [List.getElem?_cons_succ] at h
    rw [List.flatMap_cons, List.getElem?_append_right (by rw [hf, Nat.add_mul]; omega), hf, show (k + 1) * sz + j - sz = k * sz + j by rw [Nat.add_mul]; omega]
    exact flat_get f sz hf L k x h j hj

/-- A slice of the call's own: what extends w, and the row. -/
def Made (w : World) (e : TypeId) (size : Nat) (n : Nat) (xs : List Value) (en : Ending) (w' : World) : Prop :=
  ∃ v, en = .returned v ∧ w'.ownsRow w.heap.size e size v n xs ∧ Ext w w'

end Go.Proofs.Ytnfehccnofhmnaa

/-
  Walks of the originator's slices. No condition.
-/
namespace Go.Proofs.Ytnfehccnofhmnaa
open Go.RowKit
attribute [local go_sem ↓] eql_lEq eql_sEq eql_eEq eql_oEq neq_lEq neq_sEq neq_eEq neq_oEq
attribute [local go_sem] ExtOf.cell ExtOf.frozen ExtOf.lt ExtOf.le
attribute [local go_sem high] ExtOf.cell2 ExtOf.frozen2 ExtOf.lt2 ExtOf.cell3 ExtOf.frozen3 ExtOf.lt3 ExtOf.cellB ExtOf.frozenB ExtOf.cellX ExtOf.frozenX ExtOf.cellX' ExtOf.frozenX'
attribute [local go_sem] BelOf.cell BelOf.frozen BelOf.lt

def outS (l : Lt) : List Ou := if l.k = 0 then [] else if l.k = 1 ∨ l.k = 2 then [⟨1, l⟩] else [⟨2, l⟩]

theorem outS_0 {k f c : Int} {t : ByteArray} {b : Bool} (h : (k == 0) = true) : outS ⟨k, f, c, t, b⟩ = [] := by
  simp [outS] at *; simp [h]
theorem outS_1 {k f c : Int} {t : ByteArray} {b : Bool} (h : (k == 1) = true ∨ (k == 2) = true) : outS ⟨k, f, c, t, b⟩ = [⟨1, ⟨k, f, c, t, b⟩⟩] := by
  have h' : k = 1 ∨ k = 2 := by simpa using h
  unfold outS
  rw [if_neg (by simp only; omega), if_pos h']
theorem outS_2 {k f c : Int} {t : ByteArray} {b : Bool} (h0 : (k == 0) = false) (h1 : (k == 1) = false) (h2 : (k == 2) = false) : outS ⟨k, f, c, t, b⟩ = [⟨2, ⟨k, f, c, t, b⟩⟩] := by
  have g0 : ¬ k = 0 := by simpa using h0
  have g1 : ¬ k = 1 := by simpa using h1
  have g2 : ¬ k = 2 := by simpa using h2
  unfold outS
  rw [if_neg g0, if_neg (by simp only; omega)]

set_option maxHeartbeats 400000 in
theorem or_out (k f c : Int) (t : ByteArray) (b : Bool) (w : World) :
    Calls Try.prog 29 #[.agg #[.int .i64 k, .int .i64 f, .int .u64 c, .string t, .bool b]] w (Made w 45 6 (outS ⟨k, f, c, t, b⟩).length ((outS ⟨k, f, c, t, b⟩).flatMap Ou.cs)) := by
  go_enter Try.func29, Try.ntmps29
  go_wp2
  · go_ret
    rw [outS_0 ‹_›]
    exact ⟨_, rfl, World.ownsRow_nil _ _ _ _, (Ext.refl _).alloc _⟩
  · go_ret
    rw [outS_1 (.inl ‹_›)]
    exact ⟨_, rfl, own_new ((Ext.refl _).alloc _) (by simp) (by decide) rfl rfl, ((Ext.refl _).alloc _).alloc _⟩
  · go_ret
    rw [outS_1 (.inr ‹_›)]
    exact ⟨_, rfl, own_new ((Ext.refl _).alloc _) (by simp) (by decide) rfl rfl, ((Ext.refl _).alloc _).alloc _⟩
  · go_ret
    rw [outS_2 ‹(k == 0) = false› ‹(k == 1) = false› ‹(k == 2) = false›]
    exact ⟨_, rfl, own_new ((Ext.refl _).alloc _) (by simp) (by decide) rfl rfl, ((Ext.refl _).alloc _).alloc _⟩

structure Rw where
  tick : Bool
  comes : Lt
  to : Int
  sends : Lt
def Rw.cs (x : Rw) : List Value := [.bool x.tick, .int .i64 x.comes.k, .int .i64 x.comes.f, .int .u64 x.comes.c, .string x.comes.t, .bool x.comes.b, .int .i64 x.to, .int .i64 x.sends.k, .int .i64 x.sends.f, .int .u64 x.sends.c, .string x.sends.t, .bool x.sends.b]

def prS (c : Int) (t : ByteArray) (n : Int) : Lt := ⟨1, n, c, t, false⟩
def sgS (c : Int) (t : ByteArray) (n : Int) : Lt := ⟨2, n, c, t, false⟩
def inS (c : Int) (t : ByteArray) : Lt := ⟨6, 0, c, t, false⟩
def tkS (c : Int) : Lt := ⟨5, 0, c, { data := #[] }, false⟩
def abS (c : Int) : Lt := ⟨3, 0, c, { data := #[] }, false⟩
def rsS (c : Int) (t : ByteArray) : Lt := ⟨4, 0, c, t, false⟩

def rowsS (c : Int) (t : ByteArray) (ph : Int) : List Rw :=
  if ph = 2 then [⟨false, prS c t 1, 3, sgS c t 0⟩, ⟨true, l0, 4, abS c⟩]
  else if ph = 3 then [⟨false, prS c t 1, 3, sgS c t 0⟩, ⟨false, sgS c t 1, 6, l0⟩, ⟨true, l0, 5, rsS c t⟩]
  else if ph = 4 then [⟨true, l0, 4, abS c⟩, ⟨false, tkS c, 7, l0⟩, ⟨false, inS c t, 6, l0⟩]
  else if ph = 5 then [⟨true, l0, 5, rsS c t⟩, ⟨false, sgS c t 1, 6, l0⟩, ⟨false, inS c t, 6, l0⟩]
  else []

set_option maxHeartbeats 400000 in
theorem or_rows2 (r c : Int) (t : ByteArray) (k f c2 : Int) (t2 : ByteArray) (fk : Bool) (w : World) :
    Calls Try.prog 31 #[.agg #[.int .i64 r, .int .u64 c, .string t, .int .i64 2, .int .i64 k, .int .i64 f, .int .u64 c2, .string t2, .bool fk]] w (Made w 55 12 (rowsS c t 2).length ((rowsS c t 2).flatMap Rw.cs)) := by
  go_enter Try.func31, Try.ntmps31
  go_wp2_with fail
  refine wp_region_mixE (af := ?af) [true, true, true, true, true, true, true, false, false] 67 (by kernel_rfl) rfl (by kernel_rfl) ?q ?r
  case q =>
    intro x0
    simp only [pickT, if_true, if_false, Bool.false_eq_true]
    repeat (go_big_quiet_step ((first | (go_at_call 30; exact calls_ext (or_promise _ _ _ _ _ _ _ _ _ _ _)) | (go_at_call 37; exact calls_ext (or_signature _ _ _ _ _ _ _ _ _ _ _)))))
    exact rfl
  case r =>
    simp only [pickF, if_true, if_false, Bool.false_eq_true]
    intro x1
    have e1 : Ext w x1.val := ((((Ext.refl _).alloc _).alloc _).alloc _).drew.val x1
    go_wp2_with fail
    refine ⟨((Ext.refl _).drew.val x1).alloc _, ?_⟩
    intro x2
    go_wp2_with fail
    refine ⟨(((Ext.refl _).drew.val x1).alloc _).val x2, ?_⟩
    intro x3
    go_wp2_with fail
    go_ret
    exact ⟨_, rfl, own_ext (own_ext (own_new e1 rfl (by decide) rfl rfl) x2.ext) x3.ext, ((e1.alloc _).val x2).val x3⟩

set_option maxHeartbeats 800000 in
theorem or_rows3 (r c : Int) (t : ByteArray) (k f c2 : Int) (t2 : ByteArray) (fk : Bool) (w : World) :
    Calls Try.prog 31 #[.agg #[.int .i64 r, .int .u64 c, .string t, .int .i64 3, .int .i64 k, .int .i64 f, .int .u64 c2, .string t2, .bool fk]] w (Made w 55 12 (rowsS c t 3).length ((rowsS c t 3).flatMap Rw.cs)) := by
  go_enter Try.func31, Try.ntmps31
  go_wp2_with fail
  refine wp_region_mixE (af := ?af) [true, true, true, true, true, true, true, true, true, true, false, false] 67 (by kernel_rfl) rfl (by kernel_rfl) ?q ?r
  case q =>
    intro x0
    simp only [pickT, if_true, if_false, Bool.false_eq_true]
    repeat (go_big_quiet_step ((first | (go_at_call 30; exact calls_ext (or_promise _ _ _ _ _ _ _ _ _ _ _)) | (go_at_call 37; exact calls_ext (or_signature _ _ _ _ _ _ _ _ _ _ _)) | (go_at_call 41; exact calls_ext (or_token _ _ _ _ _ _ _ _ _ _)) | (go_at_call 38; exact calls_ext (or_instead _ _ _ _ _ _ _ _ _ _)))))
    exact rfl
  case r =>
    simp only [pickF, if_true, if_false, Bool.false_eq_true]
    intro x1
    have e1 : Ext w x1.val := ((((Ext.refl _).alloc _).alloc _).alloc _).drew.val x1
    go_wp2_with fail
    refine ⟨((Ext.refl _).drew.val x1).alloc _, ?_⟩
    intro x2
    go_wp2_with fail
    refine ⟨(((Ext.refl _).drew.val x1).alloc _).val x2, ?_⟩
    intro x3
    go_wp2_with fail
    go_ret
    exact ⟨_, rfl, own_ext (own_ext (own_new e1 rfl (by decide) rfl rfl) x2.ext) x3.ext, ((e1.alloc _).val x2).val x3⟩

set_option maxHeartbeats 800000 in
theorem or_rows4 (r c : Int) (t : ByteArray) (k f c2 : Int) (t2 : ByteArray) (fk : Bool) (w : World) :
    Calls Try.prog 31 #[.agg #[.int .i64 r, .int .u64 c, .string t, .int .i64 4, .int .i64 k, .int .i64 f, .int .u64 c2, .string t2, .bool fk]] w (Made w 55 12 (rowsS c t 4).length ((rowsS c t 4).flatMap Rw.cs)) := by
  go_enter Try.func31, Try.ntmps31
  go_wp2_with fail
  refine wp_region_mixE (af := ?af) [true, true, true, true, true, true, true, true, false, false] 67 (by kernel_rfl) rfl (by kernel_rfl) ?q ?r
  case q =>
    intro x0
    simp only [pickT, if_true, if_false, Bool.false_eq_true]
    repeat (go_big_quiet_step ((first | (go_at_call 30; exact calls_ext (or_promise _ _ _ _ _ _ _ _ _ _ _)) | (go_at_call 37; exact calls_ext (or_signature _ _ _ _ _ _ _ _ _ _ _)) | (go_at_call 41; exact calls_ext (or_token _ _ _ _ _ _ _ _ _ _)) | (go_at_call 38; exact calls_ext (or_instead _ _ _ _ _ _ _ _ _ _)))))
    exact rfl
  case r =>
    simp only [pickF, if_true, if_false, Bool.false_eq_true]
    intro x1
    have e1 : Ext w x1.val := ((((Ext.refl _).alloc _).alloc _).alloc _).drew.val x1
    go_wp2_with fail
    refine ⟨((Ext.refl _).drew.val x1).alloc _, ?_⟩
    intro x2
    go_wp2_with fail
    refine ⟨(((Ext.refl _).drew.val x1).alloc _).val x2, ?_⟩
    intro x3
    go_wp2_with fail
    go_ret
    exact ⟨_, rfl, own_ext (own_ext (own_new e1 rfl (by decide) rfl rfl) x2.ext) x3.ext, ((e1.alloc _).val x2).val x3⟩

theorem info_row : (Try.prog.info? 55).map (fun i => (i.zero, i.size, i.bytes)) = some (some (.agg #[.bool false, .int .i64 0, .int .i64 0, .int .u64 0, .string { data := #[] }, .bool false, .int .i64 0, .int .i64 0, .int .i64 0, .int .u64 0, .string { data := #[] }, .bool false]), 12, 112) := by kernel_rfl

set_option maxHeartbeats 800000 in
theorem or_rows5 (r c : Int) (t : ByteArray) (k f c2 : Int) (t2 : ByteArray) (fk : Bool) (w : World) :
    Calls Try.prog 31 #[.agg #[.int .i64 r, .int .u64 c, .string t, .int .i64 5, .int .i64 k, .int .i64 f, .int .u64 c2, .string t2, .bool fk]] w (Made w 55 12 (rowsS c t 5).length ((rowsS c t 5).flatMap Rw.cs)) := by
  obtain ⟨i0, hi, hz0, hz1, hz2⟩ := info_parts info_row
  go_enter Try.func31, Try.ntmps31
  go_wp2_with (at_builtin; refine wpList_app (w.heap.size + 1 + 1 + 1) 52 55 i0 _ 12 112 Try.underlying52 hi hz0 hz1 hz2 rfl (by decide) rfl _ _ rfl _ 0 [] rfl (World.ownsRow_nil _ _ _ _) (by simp) _ 1 1 _ rfl (heap_new (by simp)) rfl (by simp [Value.oneCell']) (by decide) (by decide) ?_; intro v1 w1 hown1 hx1 _; obtain ⟨y1, rfl⟩ := bel_of hx1)
  have e1 : Below (w.heap.size + 1 + 1 + 1) (((w.alloc _).alloc _).alloc _) y1.val := (Below.alloc (Below.refl _ _) (by simp) _).trans y1.bel
  have hs1 : w.heap.size + 1 + 1 + 1 ≤ y1.val.heap.size := by have := y1.bel.size; simp at this; omega
  refine wp_region_mixB (w.heap.size + 1 + 1 + 1) hs1 (af := ?af) [true, true, true, true, true, true, true, false, false, false] 67 (by kernel_rfl) rfl (by kernel_rfl) ?q ?r
  case q =>
    intro x0
    simp only [pickT, if_true, if_false, Bool.false_eq_true]
    repeat (go_big_quiet_step ((first | (go_at_call 37; exact calls_ext (or_signature _ _ _ _ _ _ _ _ _ _ _)) | (go_at_call 38; exact calls_ext (or_instead _ _ _ _ _ _ _ _ _ _)))))
    exact rfl
  case r =>
    simp only [pickF, if_true, if_false, Bool.false_eq_true]
    intro x1
    have f1 : Ext y1.val x1.val := (Ext.refl _).drew.val x1
    have hs2 : w.heap.size + 1 + 1 + 1 ≤ x1.val.heap.size := Nat.le_trans hs1 f1.size
    go_wp2_with fail
    refine ⟨(Below.mono f1 hs1).alloc hs2 _, ?_⟩
    intro x2
    have f2 : Ext y1.val x2.val := (f1.alloc _).val x2
    have hs3 : w.heap.size + 1 + 1 + 1 ≤ x2.val.heap.size := Nat.le_trans hs1 f2.size
    go_wp2_with (at_builtin; refine wpList_app (w.heap.size + 1 + 1 + 1) 52 55 i0 _ 12 112 Try.underlying52 hi hz0 hz1 hz2 rfl (by decide) rfl _ _ rfl _ 1 _ rfl (own_ext hown1 f2) hs3 x1.val.heap.size 2 2 _ rfl (heap_ext (heap_new rfl) x2.ext) rfl (by simp [Value.oneCell']) (by decide) (by decide) ?_; intro v2 w2 hown2 hx2 _)
    refine ⟨(Below.mono f2 hs1).trans hx2, ?_⟩
    intro x3
    go_wp2_with fail
    refine ⟨bel_ext ((Below.mono f2 hs1).trans hx2) x3.ext hs1, ?_⟩
    intro x4
    go_wp2_with fail
    go_ret
    have hs4 := Nat.le_trans hs3 hx2.size
    have hs5 := Nat.le_trans hs4 x3.ext.size
    refine ⟨_, rfl, own_base (b' := w.heap.size) (own_ext (own_ext hown2 x3.ext) x4.ext) (by omega), ?_⟩
    have g0 := Below.trans (((Ext.refl w).alloc _).alloc _ |>.alloc _) (Below.mono e1 (B' := w.heap.size) (by omega))
    exact (((g0.trans (Below.mono f2 (by omega))).trans (Below.mono hx2 (by omega))).trans (Below.mono x3.ext (by omega))).trans (Below.mono x4.ext (by omega))

/-- Another phase has no line. -/
theorem or_rows0 (r c : Int) (t : ByteArray) (ph k f c2 : Int) (t2 : ByteArray) (fk : Bool) (w : World) (h2 : ph ≠ 2) (h3 : ph ≠ 3) (h4 : ph ≠ 4) (h5 : ph ≠ 5) :
    Calls Try.prog 31 #[.agg #[.int .i64 r, .int .u64 c, .string t, .int .i64 ph, .int .i64 k, .int .i64 f, .int .u64 c2, .string t2, .bool fk]] w (Made w 55 12 (rowsS c t ph).length ((rowsS c t ph).flatMap Rw.cs)) := by
  have g2 : (ph == 2) = false := by simpa using h2
  have g3 : (ph == 3) = false := by simpa using h3
  have g4 : (ph == 4) = false := by simpa using h4
  have g5 : (ph == 5) = false := by simpa using h5
  have e : rowsS c t ph = [] := by unfold rowsS; rw [if_neg h2, if_neg h3, if_neg h4, if_neg h5]
  rw [e]
  clear e h2 h3 h4 h5
  go_enter Try.func31, Try.ntmps31
  go_wp2
  go_ret
  exact ⟨_, rfl, World.ownsRow_nil _ _ _ _, (((Ext.refl _).alloc _).alloc _).alloc _⟩

theorem or_rows (r c : Int) (t : ByteArray) (ph k f c2 : Int) (t2 : ByteArray) (fk : Bool) (w : World) :
    Calls Try.prog 31 #[.agg #[.int .i64 r, .int .u64 c, .string t, .int .i64 ph, .int .i64 k, .int .i64 f, .int .u64 c2, .string t2, .bool fk]] w (Made w 55 12 (rowsS c t ph).length ((rowsS c t ph).flatMap Rw.cs)) := by
  by_cases h2 : ph = 2
  · subst h2; exact or_rows2 r c t k f c2 t2 fk w
  by_cases h3 : ph = 3
  · subst h3; exact or_rows3 r c t k f c2 t2 fk w
  by_cases h4 : ph = 4
  · subst h4; exact or_rows4 r c t k f c2 t2 fk w
  by_cases h5 : ph = 5
  · subst h5; exact or_rows5 r c t k f c2 t2 fk w
  exact or_rows0 r c t ph k f c2 t2 fk w h2 h3 h4 h5
end Go.Proofs.Ytnfehccnofhmnaa

/-
  Walks: a line's test, a line's state, the step. No condition.
-/
namespace Go.Proofs.Ytnfehccnofhmnaa
open Go.RowKit
attribute [local go_sem ↓] eql_lEq eql_sEq eql_eEq eql_oEq neq_lEq neq_sEq neq_eEq neq_oEq
attribute [local go_sem] ExtOf.cell ExtOf.frozen ExtOf.lt ExtOf.le
attribute [local go_sem high] ExtOf.cell2 ExtOf.frozen2 ExtOf.lt2 ExtOf.cell3 ExtOf.frozen3 ExtOf.lt3 ExtOf.cellB ExtOf.frozenB ExtOf.cellX ExtOf.frozenX ExtOf.cellX' ExtOf.frozenX'
attribute [local go_sem] BelOf.cell BelOf.frozen BelOf.lt

/-- Does an event fit a line? -/
def takesS (tick : Bool) (k f c : Int) (t : ByteArray) (b : Bool) (sc : Int) (ek ec : Int) (lk lf lc : Int) (lt : ByteArray) (lb : Bool) : Bool :=
  if tick then decide (ek = 3 ∧ ec = sc) else decide (ek = 2) && lEq lk lf lc lt lb k f c t b

set_option maxHeartbeats 400000 in
theorem or_takes (tick : Bool) (k f c : Int) (t : ByteArray) (b : Bool) (to k2 f2 c2 : Int) (t2 : ByteArray) (b2 : Bool)
    (r sc : Int) (st : ByteArray) (ph pk pf pc : Int) (pt : ByteArray) (pb : Bool) (ek ec : Int) (et : ByteArray) (lk lf lc : Int) (lt : ByteArray) (lb : Bool) (w : World) :
    Calls Try.prog 32 #[.agg #[.bool tick, .int .i64 k, .int .i64 f, .int .u64 c, .string t, .bool b, .int .i64 to, .int .i64 k2, .int .i64 f2, .int .u64 c2, .string t2, .bool b2],
      .agg #[.int .i64 r, .int .u64 sc, .string st, .int .i64 ph, .int .i64 pk, .int .i64 pf, .int .u64 pc, .string pt, .bool pb],
      .agg #[.int .i64 ek, .int .u64 ec, .string et, .int .i64 lk, .int .i64 lf, .int .u64 lc, .string lt, .bool lb]] w
      fun e w' => e = .returned (.bool (takesS tick k f c t b sc ek ec lk lf lc lt lb)) ∧ Ext w w' := by
  cases tick
  · by_cases h : ek = 2
    · have h' : (ek == 2) = true := by simpa using h
      have hs : takesS false k f c t b sc ek ec lk lf lc lt lb = lEq lk lf lc lt lb k f c t b := by simp [takesS, h]
      rw [hs]
      clear hs h
      go_enter Try.func32, Try.ntmps32
      go_wp2
      all_goals (go_ret; exact ⟨rfl, (((Ext.refl _).alloc _).alloc _).alloc _⟩)
    · have h' : (ek == 2) = false := by simpa using h
      have hs : takesS false k f c t b sc ek ec lk lf lc lt lb = false := by simp [takesS, h]
      rw [hs]
      clear hs h
      go_enter Try.func32, Try.ntmps32
      go_wp2
      all_goals (go_ret; exact ⟨rfl, (((Ext.refl _).alloc _).alloc _).alloc _⟩)
  · by_cases h : ek = 3
    · have h' : (ek == 3) = true := by simpa using h
      have hs : takesS true k f c t b sc ek ec lk lf lc lt lb = (ec == sc) := by simp [takesS, h]; rfl
      rw [hs]
      clear hs h
      go_enter Try.func32, Try.ntmps32
      go_wp2
      all_goals (go_ret; exact ⟨rfl, (((Ext.refl _).alloc _).alloc _).alloc _⟩)
    · have h' : (ek == 3) = false := by simpa using h
      have hs : takesS true k f c t b sc ek ec lk lf lc lt lb = false := by simp [takesS, h]
      rw [hs]
      clear hs h
      go_enter Try.func32, Try.ntmps32
      go_wp2
      all_goals (go_ret; exact ⟨rfl, (((Ext.refl _).alloc _).alloc _).alloc _⟩)

set_option maxHeartbeats 400000 in
theorem or_to (tick : Bool) (k f c : Int) (t : ByteArray) (b : Bool) (to k2 f2 c2 : Int) (t2 : ByteArray) (b2 : Bool)
    (r sc : Int) (st : ByteArray) (ph pk pf pc : Int) (pt : ByteArray) (pb : Bool) (w : World) :
    Calls Try.prog 33 #[.agg #[.bool tick, .int .i64 k, .int .i64 f, .int .u64 c, .string t, .bool b, .int .i64 to, .int .i64 k2, .int .i64 f2, .int .u64 c2, .string t2, .bool b2],
      .agg #[.int .i64 r, .int .u64 sc, .string st, .int .i64 ph, .int .i64 pk, .int .i64 pf, .int .u64 pc, .string pt, .bool pb]] w
      fun e w' => e = .returned (.agg (if to = 6 then #[.int .i64 r, .int .u64 sc, .string st, .int .i64 to, .int .i64 k, .int .i64 f, .int .u64 c, .string t, .bool b]
        else #[.int .i64 r, .int .u64 sc, .string st, .int .i64 to, .int .i64 pk, .int .i64 pf, .int .u64 pc, .string pt, .bool pb])) ∧ Ext w w' := by
  by_cases h : to = 6
  · have h' : (to == 6) = true := by simpa using h
    rw [if_pos h]
    clear h
    go_enter Try.func33, Try.ntmps33
    go_wp2
    exact bodyPost_ret (v := .agg #[.int .i64 r, .int .u64 sc, .string st, .int .i64 to, .int .i64 k, .int .i64 f, .int .u64 c, .string t, .bool b]) (by simp [results, Try.results33, go_sem]) rfl ⟨rfl, (((Ext.refl _).alloc _).alloc _).alloc _⟩
  · have h' : (to == 6) = false := by simpa using h
    rw [if_neg h]
    clear h
    go_enter Try.func33, Try.ntmps33
    go_wp2
    exact bodyPost_ret (v := .agg #[.int .i64 r, .int .u64 sc, .string st, .int .i64 to, .int .i64 pk, .int .i64 pf, .int .u64 pc, .string pt, .bool pb]) (by simp [results, Try.results33, go_sem]) rfl ⟨rfl, (((Ext.refl _).alloc _).alloc _).alloc _⟩
end Go.Proofs.Ytnfehccnofhmnaa

/-
  Walk: the originator's step. No condition.
-/
namespace Go.Proofs.Ytnfehccnofhmnaa
open Go.RowKit
attribute [local go_sem ↓] eql_lEq eql_sEq eql_eEq eql_oEq neq_lEq neq_sEq neq_eEq neq_oEq
attribute [local go_sem] ExtOf.cell ExtOf.frozen ExtOf.lt ExtOf.le
attribute [local go_sem high] ExtOf.cell2 ExtOf.frozen2 ExtOf.lt2 ExtOf.cell3 ExtOf.frozen3 ExtOf.lt3 ExtOf.cellB ExtOf.frozenB ExtOf.cellX ExtOf.frozenX ExtOf.cellX' ExtOf.frozenX'
attribute [local go_sem] BelOf.cell BelOf.frozen BelOf.lt

def chkS (s : St) : Bool := chk s.r s.c s.t s.ph s.p.k s.p.f s.p.c s.p.t s.p.b
def takesR (x : Rw) (s : St) (e : Ev) : Bool := takesS x.tick x.comes.k x.comes.f x.comes.c x.comes.t x.comes.b s.c e.k e.c e.l.k e.l.f e.l.c e.l.t e.l.b
/-- The proof behind a line. -/
def toP (to : Int) (l p : Lt) : Lt := if to = 6 then l else p
def toS (x : Rw) (s : St) : St := ⟨s.r, s.c, s.t, x.to, toP x.to x.comes s.p⟩

theorem or_toE (tick : Bool) (k f c : Int) (t : ByteArray) (b : Bool) (to k2 f2 c2 : Int) (t2 : ByteArray) (b2 : Bool)
    (r sc : Int) (st : ByteArray) (ph pk pf pc : Int) (pt : ByteArray) (pb : Bool) (w : World) :
    Calls Try.prog 33 #[.agg #[.bool tick, .int .i64 k, .int .i64 f, .int .u64 c, .string t, .bool b, .int .i64 to, .int .i64 k2, .int .i64 f2, .int .u64 c2, .string t2, .bool b2],
      .agg #[.int .i64 r, .int .u64 sc, .string st, .int .i64 ph, .int .i64 pk, .int .i64 pf, .int .u64 pc, .string pt, .bool pb]] w
      fun e w' => e = .returned (.agg #[.int .i64 r, .int .u64 sc, .string st, .int .i64 to, .int .i64 (toP to ⟨k, f, c, t, b⟩ ⟨pk, pf, pc, pt, pb⟩).k, .int .i64 (toP to ⟨k, f, c, t, b⟩ ⟨pk, pf, pc, pt, pb⟩).f,
        .int .u64 (toP to ⟨k, f, c, t, b⟩ ⟨pk, pf, pc, pt, pb⟩).c, .string (toP to ⟨k, f, c, t, b⟩ ⟨pk, pf, pc, pt, pb⟩).t, .bool (toP to ⟨k, f, c, t, b⟩ ⟨pk, pf, pc, pt, pb⟩).b]) ∧ Ext w w' :=
  (or_to tick k f c t b to k2 f2 c2 t2 b2 r sc st ph pk pf pc pt pb w).mono fun e w' ⟨he, hx⟩ => ⟨by rw [he]; unfold toP; split <;> rfl, hx⟩
/-- The step as the table has it. -/
def stepS (s : St) (e : Ev) : St × List Ou :=
  if chkS s then
    if s.ph = 0 then
      if e.k = 1 ∧ e.c = s.c ∧ e.t.size ≤ 64 then (⟨s.r, s.c, e.t, 2, s.p⟩, outS (prS s.c e.t 0)) else (s, [])
    else match (rowsS s.c s.t s.ph).find? (fun x => takesR x s e) with
      | some x => (toS x s, outS x.sends)
      | none => (s, [])
  else (s, [])

/-- What a step hands back: the state; the outs, in a row of its own. -/
def Stepped (w : World) (s : St × List Ou) (en : Ending) (w' : World) : Prop :=
  ∃ v, en = .returned (.tuple #[.agg s.1.cs.toArray, v]) ∧ w'.ownsRow w.heap.size 45 6 v s.2.length (s.2.flatMap Ou.cs) ∧ Ext w w'

theorem info_state : (Try.prog.info? 26).map (·.size) = some 9 := by kernel_rfl

theorem wp_forget {P : Program} {c : Code} {Q : Exit → Act → World → Prop} {a : Act} {w : World} (F : World → Prop) (hF : F w) (h : ∀ w', F w' → c.wp P Q a w') : c.wp P Q a w := h w hF

set_option maxHeartbeats 400000 in
theorem or_stepA (r c : Int) (t : ByteArray) (ph k f c2 : Int) (t2 : ByteArray) (fk : Bool) (ek ec : Int) (et : ByteArray) (lk lf lc : Int) (lt : ByteArray) (lb : Bool) (w : World) (hc : chk r c t ph k f c2 t2 fk = false) :
    Calls Try.prog 10 #[.agg #[.int .i64 r, .int .u64 c, .string t, .int .i64 ph, .int .i64 k, .int .i64 f, .int .u64 c2, .string t2, .bool fk],
      .agg #[.int .i64 ek, .int .u64 ec, .string et, .int .i64 lk, .int .i64 lf, .int .u64 lc, .string lt, .bool lb]] w
      (Stepped w (⟨r, c, t, ph, ⟨k, f, c2, t2, fk⟩⟩, [])) := by
  go_enter Try.func10, Try.ntmps10
  go_wp2_with (first
    | (go_at_call 13; refine (or_check _ _ _ _ _ _ _ _ _ _).mono ?_; rintro e w1 ⟨rfl, hx⟩; obtain ⟨x1, rfl⟩ := ext_of hx; clear hx)
    | (refine wpList_store_row rfl 26 _ _ rfl _ _ rfl rfl 26 _ (heap_ext (heap_new (by simp)) x1.ext) info_state rfl (by simp [Value.oneCell']) ?_))
  refine bodyPost_ret (results_row_tmp rfl _ _ _ 26 _ (0, 0) _ rfl (setRow_heap _ _ _ _ _ _ (heap_ext (heap_new (by simp)) x1.ext)) Try.underlying26 rfl info_state) rfl ?_
  exact ⟨_, rfl, World.ownsRow_nil _ _ _ _, Ext.setRow (((((Ext.refl _).alloc _).alloc _).alloc _).val x1) (by omega) _⟩

theorem stepS_A (s : St) (e : Ev) (h : chkS s = false) : stepS s e = (s, []) := by unfold stepS; rw [h]; rfl

def start0 (r c : Int) (t : ByteArray) (k f c2 : Int) (t2 : ByteArray) (fk : Bool) (ek ec : Int) (et : ByteArray) : St × List Ou :=
  if ek = 1 ∧ ec = c ∧ et.size ≤ 64 then (⟨r, c, et, 2, ⟨k, f, c2, t2, fk⟩⟩, [⟨1, prS c et 0⟩]) else (⟨r, c, t, 0, ⟨k, f, c2, t2, fk⟩⟩, [])

set_option maxHeartbeats 800000 in
/-- A state at the beginning. -/
theorem or_step0 (r c : Int) (t : ByteArray) (k f c2 : Int) (t2 : ByteArray) (fk : Bool) (ek ec : Int) (et : ByteArray) (lk lf lc : Int) (lt : ByteArray) (lb : Bool) (w : World) (hc : chk r c t 0 k f c2 t2 fk = true) :
    Calls Try.prog 10 #[.agg #[.int .i64 r, .int .u64 c, .string t, .int .i64 0, .int .i64 k, .int .i64 f, .int .u64 c2, .string t2, .bool fk],
      .agg #[.int .i64 ek, .int .u64 ec, .string et, .int .i64 lk, .int .i64 lf, .int .u64 lc, .string lt, .bool lb]] w
      (Stepped w (start0 r c t k f c2 t2 fk ek ec et)) := by
  go_enter Try.func10, Try.ntmps10
  go_wp2_with (first
    | (go_at_call 13; refine (or_check _ _ _ _ _ _ _ _ _ _).mono ?_; rintro e w1 ⟨rfl, hx⟩; obtain ⟨x1, rfl⟩ := ext_of hx; clear hx)
    | (refine wpList_store_row rfl 26 _ _ rfl _ _ rfl rfl 26 _ (heap_ext (heap_new (by simp)) x1.ext) info_state rfl (by simp [Value.oneCell']) ?_))
  case' _ => skip
  · rw [show start0 r c t k f c2 t2 fk ek ec et = (⟨r, c, t, 0, ⟨k, f, c2, t2, fk⟩⟩, []) from if_neg (by omega)]
    refine bodyPost_ret (results_row_tmp rfl _ _ _ 26 _ (0, 0) _ rfl (setRow_heap _ _ _ _ _ _ (heap_ext (heap_new (by simp)) x1.ext)) Try.underlying26 rfl info_state) rfl ?_
    exact ⟨_, rfl, World.ownsRow_nil _ _ _ _, Ext.setRow (((((Ext.refl _).alloc _).alloc _).alloc _).val x1) (by omega) _⟩
  · have HS := Lib.hid (show start0 r c t k f c2 t2 fk ek ec et = (⟨r, c, et, 2, ⟨k, f, c2, t2, fk⟩⟩, [⟨1, prS c et 0⟩]) from if_pos ⟨‹_›, ‹_›, by omega⟩)
    go_region
    go_wp2_with fail
    refine wp_forget (fun w' => w'.heap[w.heap.size]? = some (.cells #[.int .i64 r, .int .u64 c, .string et, .int .i64 2, .int .i64 k, .int .i64 f, .int .u64 c2, .string t2, .bool fk] 26 (0, 0)) ∧ w'.heap[w.heap.size + 1 + 1]? = some (.cells #[.int .i64 0, .int .u64 0, .string { data := #[] }, .int .i64 0, .int .i64 0, .int .i64 0, .int .u64 0, .string { data := #[] }, .bool false] 26 (0, 0)) ∧ Ext w w') ⟨?f1, ?f2, ?f3⟩ ?fr
    case f1 => exact heap_setCell_same _ _ _ _ _ _ (heap_setCell_same _ _ _ _ _ _ (heap_ext (heap_ext (heap_new rfl) (((Ext.refl _).alloc _).alloc _)) x1.ext))
    case f2 =>
      rw [heap_drew, heap_setCell_other _ _ _ _ (by simp only []; omega), heap_setCell_other _ _ _ _ (by simp only []; omega)]
      exact heap_ext (heap_new (by simp)) x1.ext
    case f3 => exact (((((((Ext.refl _).alloc _).alloc _).alloc _).val x1).setCell (Nat.le_refl _) _).setCell (Nat.le_refl _) _).drew
    clear x1
    rintro W7 ⟨h7a, h7b, h7x⟩
    have hc7 := fun j => cell_of_row W7 _ j _ _ _ h7a
    have hl7 : w.heap.size < W7.heap.size := (Array.getElem?_eq_some_iff.1 h7a).1
    have b7 := but_refl (w.heap.size + 1 + 1) W7
    refine wp_region_mixX (w.heap.size + 1 + 1) (af := ?af) [true, true, true, false, false, false] 59 (by kernel_rfl) rfl (by kernel_rfl) ?q ?r
    case q =>
      intro x0
      simp only [pickT, if_true, if_false, Bool.false_eq_true]
      repeat (go_big_quiet_step ((go_at_call 30; exact calls_ext (or_promise _ _ _ _ _ _ _ _ _ _ _))))
      exact rfl
    case r =>
      simp only [pickF, if_true, if_false, Bool.false_eq_true]
      intro x1
      have e1 : Ext W7 x1.val := (Ext.refl _).drew.val x1
      have g1 := h7x.trans e1
      go_wp2_with (go_at_call 29; refine (or_out _ _ _ _ _ _).mono ?_; rintro e w2 ⟨v, rfl, hv, hx2⟩)
      refine ⟨but_ext b7 (e1.trans hx2), ?_⟩
      intro x2
      have e2 := (e1.trans hx2).trans x2.ext
      go_wp2_with (refine wpList_store_row rfl 26 _ _ rfl _ _ rfl rfl 26 _ (heap_ext h7b e2) info_state rfl (by simp [Value.oneCell']) ?_)
      refine ⟨but_setRow (but_ext b7 e2) _, ?_⟩
      intro x3
      go_wp2_with fail
      refine ⟨but_ext (but_setRow (but_ext b7 e2) _) x3.ext, ?_⟩
      intro x4
      go_wp2_with fail
      have gx : Ext w x4.val := ((Ext.setRow (h7x.trans e2) (Nat.le_succ_of_le (Nat.le_succ _)) _).val x3).val x4
      refine bodyPost_ret (results_row_tmp rfl _ _ _ 26 _ (0, 0) _ rfl (heap_ext (heap_ext (setRow_heap _ _ _ _ _ _ (heap_ext h7b e2)) x3.ext) x4.ext) Try.underlying26 rfl info_state) rfl ?_
      rw [HS.out]
      refine ⟨_, rfl, ?_, gx⟩
      have hv2 := own_ext (own_base (b' := w.heap.size) hv g1.size) x2.ext
      exact own_ext (own_ext (own_setRow hv2 (heap_ext h7b e2) (by decide) _) x3.ext) x4.ext
  all_goals
    rw [show start0 r c t k f c2 t2 fk ek ec et = (⟨r, c, t, 0, ⟨k, f, c2, t2, fk⟩⟩, []) from if_neg (by omega)]
    refine bodyPost_ret (results_row_tmp rfl _ _ _ 26 _ (0, 0) _ rfl (setRow_heap _ _ _ _ _ _ (heap_ext (heap_new (by simp)) x1.ext)) Try.underlying26 rfl info_state) rfl ?_
    exact ⟨_, rfl, World.ownsRow_nil _ _ _ _, Ext.setRow (((((Ext.refl _).alloc _).alloc _).alloc _).val x1) (by omega) _⟩
end Go.Proofs.Ytnfehccnofhmnaa

/-
  Walk: the originator's step, behind its beginning. No condition.
-/
namespace Go.Proofs.Ytnfehccnofhmnaa
open Go.RowKit
attribute [local go_sem ↓] eql_lEq eql_sEq eql_eEq eql_oEq neq_lEq neq_sEq neq_eEq neq_oEq
attribute [local go_sem] ExtOf.cell ExtOf.frozen ExtOf.lt ExtOf.le
attribute [local go_sem high] ExtOf.cell2 ExtOf.frozen2 ExtOf.lt2 ExtOf.cell3 ExtOf.frozen3 ExtOf.lt3 ExtOf.cellB ExtOf.frozenB ExtOf.cellX ExtOf.frozenX ExtOf.cellX' ExtOf.frozenX'
attribute [local go_sem] BelOf.cell BelOf.frozen BelOf.lt

theorem rw_cells {w : World} {g : Nat} {L : List Rw} {k : Nat} {x : Rw} (h : ∀ j u, (L.flatMap Rw.cs)[j]? = some u → w.cell? ⟨g, j, none⟩ = some u) (hx : L[k]? = some x) :
    w.cell? ⟨g, k * 12, none⟩ = some (.bool x.tick) ∧ w.cell? ⟨g, k * 12 + 1, none⟩ = some (.int .i64 x.comes.k) ∧ w.cell? ⟨g, k * 12 + 2, none⟩ = some (.int .i64 x.comes.f) ∧
    w.cell? ⟨g, k * 12 + 3, none⟩ = some (.int .u64 x.comes.c) ∧ w.cell? ⟨g, k * 12 + 4, none⟩ = some (.string x.comes.t) ∧ w.cell? ⟨g, k * 12 + 5, none⟩ = some (.bool x.comes.b) ∧
    w.cell? ⟨g, k * 12 + 6, none⟩ = some (.int .i64 x.to) ∧ w.cell? ⟨g, k * 12 + 7, none⟩ = some (.int .i64 x.sends.k) ∧ w.cell? ⟨g, k * 12 + 8, none⟩ = some (.int .i64 x.sends.f) ∧
    w.cell? ⟨g, k * 12 + 9, none⟩ = some (.int .u64 x.sends.c) ∧ w.cell? ⟨g, k * 12 + 10, none⟩ = some (.string x.sends.t) ∧ w.cell? ⟨g, k * 12 + 11, none⟩ = some (.bool x.sends.b) := by
  have f := fun j hj => flat_get Rw.cs 12 (fun _ => rfl) L k x hx j hj
  refine ⟨h _ _ (f 0 (by omega)), h _ _ (f 1 (by omega)), h _ _ (f 2 (by omega)), h _ _ (f 3 (by omega)), h _ _ (f 4 (by omega)), h _ _ (f 5 (by omega)), h _ _ (f 6 (by omega)), h _ _ (f 7 (by omega)), h _ _ (f 8 (by omega)), h _ _ (f 9 (by omega)), h _ _ (f 10 (by omega)), h _ _ (f 11 (by omega))⟩

theorem find_first {α : Type} (p : α → Bool) : ∀ (L : List α) (n : Nat) (x : α), L[n]? = some x → p x = true → (∀ j z, j < n → L[j]? = some z → p z = false) → L.find? p = some x
  | [], n, x, h, _, _ => by simp at h
  | y :: L, 0, x, h, hp, _ => by
    simp only [List.getElem?_cons_zero, Option.some.injEq] at h
    subst h
    simp [hp]
  | y :: L, n + 1, x, h, hp, hn => by
    have hy : p y = false := hn 0 y (by omega) rfl
    rw [List.find?_cons, hy]
    exact find_first p L n x (by simpa using h) hp fun j z hj hz => hn (j + 1) z (by omega) (by simpa using hz)

theorem step_found {r c : Int} {t : ByteArray} {ph k f c2 : Int} {t2 : ByteArray} {fk : Bool} {e : Ev} {L : List Rw} {n : Nat} {x : Rw} (hL : rowsS c t ph = L) (hc : chk r c t ph k f c2 t2 fk = true) (hp : (ph == 0) = false)
    (hx : L[n]? = some x) (ht : takesR x ⟨r, c, t, ph, ⟨k, f, c2, t2, fk⟩⟩ e = true) (hno : ∀ j z, j < n → L[j]? = some z → takesR z ⟨r, c, t, ph, ⟨k, f, c2, t2, fk⟩⟩ e = false) :
    stepS ⟨r, c, t, ph, ⟨k, f, c2, t2, fk⟩⟩ e = (toS x ⟨r, c, t, ph, ⟨k, f, c2, t2, fk⟩⟩, outS x.sends) := by
  have hp' : ¬ ph = 0 := by simpa using hp
  have hf := find_first (fun x => takesR x ⟨r, c, t, ph, ⟨k, f, c2, t2, fk⟩⟩ e) L n x hx ht hno
  unfold stepS chkS
  simp only [hc, if_true, hp', if_false, hL, hf]

theorem step_none {r c : Int} {t : ByteArray} {ph k f c2 : Int} {t2 : ByteArray} {fk : Bool} {e : Ev} {L : List Rw} (hL : rowsS c t ph = L) (hc : chk r c t ph k f c2 t2 fk = true) (hp : (ph == 0) = false)
    (hno : ∀ (j : Nat) z, L[j]? = some z → takesR z ⟨r, c, t, ph, ⟨k, f, c2, t2, fk⟩⟩ e = false) :
    stepS ⟨r, c, t, ph, ⟨k, f, c2, t2, fk⟩⟩ e = (⟨r, c, t, ph, ⟨k, f, c2, t2, fk⟩⟩, []) := by
  have hp' : ¬ ph = 0 := by simpa using hp
  have hf : L.find? (fun x => takesR x ⟨r, c, t, ph, ⟨k, f, c2, t2, fk⟩⟩ e) = none := by
    rw [List.find?_eq_none]
    intro z hz
    obtain ⟨j, hj⟩ := List.getElem?_of_mem hz
    simp [hno j z hj]
  unfold stepS chkS
  simp only [hc, if_true, hp', if_false, hL, hf]

set_option maxHeartbeats 800000 in
theorem or_stepC (r c : Int) (t : ByteArray) (ph k f c2 : Int) (t2 : ByteArray) (fk : Bool) (ek ec : Int) (et : ByteArray) (lk lf lc : Int) (lt : ByteArray) (lb : Bool) (w : World) (hc : chk r c t ph k f c2 t2 fk = true) (hp : (ph == 0) = false) :
    Calls Try.prog 10 #[.agg #[.int .i64 r, .int .u64 c, .string t, .int .i64 ph, .int .i64 k, .int .i64 f, .int .u64 c2, .string t2, .bool fk],
      .agg #[.int .i64 ek, .int .u64 ec, .string et, .int .i64 lk, .int .i64 lf, .int .u64 lc, .string lt, .bool lb]] w
      (Stepped w (stepS ⟨r, c, t, ph, ⟨k, f, c2, t2, fk⟩⟩ ⟨ek, ec, et, ⟨lk, lf, lc, lt, lb⟩⟩)) := by
  have HC := Lib.hid hc
  have HP := Lib.hid hp
  generalize hL : rowsS c t ph = L
  have HL := Lib.hid hL
  clear hL
  go_enter Try.func10, Try.ntmps10
  go_wp2_with (first
    | (go_at_call 13; refine (or_check _ _ _ _ _ _ _ _ _ _).mono ?_; rintro e w1 ⟨rfl, hx⟩; obtain ⟨x1, rfl⟩ := ext_of hx; clear hx)
    | (go_at_call 31; refine (or_rows _ _ _ _ _ _ _ _ _ _).mono ?_; rintro e w2 ⟨v, rfl, hv, hx2⟩; rw [HL.out] at hv; obtain ⟨a, cap, rfl, hm, hvw⟩ := own_view hv; obtain ⟨x2, rfl⟩ := ext_of hx2; clear hx2 hv))
  refine wp_forget (fun w' => w'.heap[w.heap.size]? = some (.cells #[.int .i64 r, .int .u64 c, .string t, .int .i64 ph, .int .i64 k, .int .i64 f, .int .u64 c2, .string t2, .bool fk] 26 (0, 0)) ∧ w'.heap[w.heap.size + 1]? = some (.cells #[.int .i64 ek, .int .u64 ec, .string et, .int .i64 lk, .int .i64 lf, .int .u64 lc, .string lt, .bool lb] 28 (0, 0)) ∧ w'.heap[w.heap.size + 1 + 1]? = some (.cells #[.int .i64 0, .int .u64 0, .string { data := #[] }, .int .i64 0, .int .i64 0, .int .i64 0, .int .u64 0, .string { data := #[] }, .bool false] 26 (0, 0)) ∧ Ext w w' ∧
      (0 < L.length → ∃ g, a = some ⟨g, 0, none⟩ ∧ g < w'.heap.size ∧ ∀ j u, (L.flatMap Rw.cs)[j]? = some u → w'.cell? ⟨g, j, none⟩ = some u)) ⟨?f1, ?f2, ?f3, ?f4, ?f5⟩ ?fr
  case f1 => exact heap_ext (heap_ext (heap_ext (heap_new rfl) (((Ext.refl _).alloc _).alloc _)) x1.ext) x2.ext
  case f2 => exact heap_ext (heap_ext (heap_ext (heap_new (by simp)) ((Ext.refl _).alloc _)) x1.ext) x2.ext
  case f3 => exact heap_ext (heap_ext (heap_new (by simp)) x1.ext) x2.ext
  case f4 => exact (((((Ext.refl _).alloc _).alloc _).alloc _).val x1).val x2
  case f5 => exact fun h => let ⟨g, ha, _, hg, hcell⟩ := hvw h; ⟨g, ha, hg, hcell⟩
  clear hvw x2 x1
  rintro W3 ⟨h3a, h3b, h3c, h3x, hvw⟩
  have HV := Lib.hid hvw
  clear hvw
  have hc3 := fun j => cell_of_row W3 _ j _ _ _ h3a
  have hd3 := fun j => cell_of_row W3 _ j _ _ _ h3b
  have hl3 : w.heap.size < W3.heap.size := (Array.getElem?_eq_some_iff.1 h3a).1
  have hm3 : w.heap.size + 1 < W3.heap.size := (Array.getElem?_eq_some_iff.1 h3b).1
  have H3a := Lib.hid h3a
  have H3c := Lib.hid h3c
  clear h3a h3b h3c
  unfold maxLen at hm
  go_loopw [43] (fun i wr => ∃ n : Nat, n ≤ L.length ∧ i = .int .i64 n ∧ (∃ y : ExtOf W3, wr = y.val) ∧ ∀ j x, j < n → L[j]? = some x → takesR x ⟨r, c, t, ph, ⟨k, f, c2, t2, fk⟩⟩ ⟨ek, ec, et, ⟨lk, lf, lc, lt, lb⟩⟩ = false) (fun i _ => L.length - (intOf i).toNat)
  case atStart => exact ⟨0, Nat.zero_le _, rfl, ⟨⟨W3, Ext.refl _⟩, rfl⟩, fun _ _ h => by omega⟩
  case round =>
    obtain ⟨n, hn, rfl, ⟨y, rfl⟩, hno⟩ := hrel
    have HN := Lib.hid hno
    clear hno
    by_cases hlt : n < L.length
    · obtain ⟨g, rfl, hg, hcell⟩ := HV.out (by omega)
      obtain ⟨x, hx⟩ : ∃ x, L[n]? = some x := ⟨_, List.getElem?_eq_getElem hlt⟩
      obtain ⟨q0, q1, q2, q3, q4, q5, q6, q7, q8, q9, q10, q11⟩ := rw_cells hcell hx
      have HX := Lib.hid hx
      clear hx hcell
      rcases ht : takesR x ⟨r, c, t, ph, ⟨k, f, c2, t2, fk⟩⟩ ⟨ek, ec, et, ⟨lk, lf, lc, lt, lb⟩⟩
      · have HT := Lib.hid ht
        simp only [takesR] at ht
        go_wp2_with (go_at_call 32; refine (or_takes _ _ _ _ _ _ _ _ _ _ _ _ _ _ _ _ _ _ _ _ _ _ _ _ _ _ _ _ _ _).mono ?_; rintro e w4 ⟨rfl, hx4⟩; obtain ⟨x4, rfl⟩ := ext_of hx4; clear hx4)
        go_roundw
        case rel =>
          refine ⟨n + 1, by omega, by go_num, ⟨⟨x4.val, (y.ext.alloc _).val x4⟩, rfl⟩, fun j z hj hz => ?_⟩
          by_cases hjn : j = n
          · subst hjn
            rw [HX.out] at hz
            simp only [Option.some.injEq] at hz
            subst hz
            exact HT.out
          · exact HN.out j z (by omega) hz
        case measure => simp [intOf]; omega
      · have HT := Lib.hid ht
        simp only [takesR] at ht
        go_wp2_with (go_at_call 32; refine (or_takes _ _ _ _ _ _ _ _ _ _ _ _ _ _ _ _ _ _ _ _ _ _ _ _ _ _ _ _ _ _).mono ?_; rintro e w4 ⟨rfl, hx4⟩; obtain ⟨x4, rfl⟩ := ext_of hx4; clear hx4)
        refine wp_forget (fun w' => w'.heap[w.heap.size]? = some (.cells #[.int .i64 r, .int .u64 c, .string t, .int .i64 ph, .int .i64 k, .int .i64 f, .int .u64 c2, .string t2, .bool fk] 26 (0, 0)) ∧ w'.heap[w.heap.size + 1 + 1]? = some (.cells #[.int .i64 0, .int .u64 0, .string { data := #[] }, .int .i64 0, .int .i64 0, .int .i64 0, .int .u64 0, .string { data := #[] }, .bool false] 26 (0, 0)) ∧ w'.heap[y.val.heap.size]? = some (.cells #[.bool x.tick, .int .i64 x.comes.k, .int .i64 x.comes.f, .int .u64 x.comes.c, .string x.comes.t, .bool x.comes.b, .int .i64 x.to, .int .i64 x.sends.k, .int .i64 x.sends.f, .int .u64 x.sends.c, .string x.sends.t, .bool x.sends.b] 55 (0, 0)) ∧ Ext w w' ∧ w.heap.size + 1 + 1 < y.val.heap.size) ⟨?d1, ?d2, ?d3, ?d4, ?d5⟩ ?dr
        case d1 => exact heap_ext H3a.out ((y.ext.alloc _).val x4)
        case d2 => exact heap_ext H3c.out ((y.ext.alloc _).val x4)
        case d3 => exact heap_ext (heap_new rfl) x4.ext
        case d4 => exact h3x.trans ((y.ext.alloc _).val x4)
        case d5 => exact Nat.lt_of_lt_of_le (Array.getElem?_eq_some_iff.1 H3c.out).1 y.ext.size
        clear x4 q0 q1 q2 q3 q4 q5 q6 q7 q8 q9 q10 q11 hc3 hd3
        rintro W7 ⟨h7a, h7b, h7c, h7x, h7l⟩
        have hc7 := fun j => cell_of_row W7 _ j _ _ _ h7a
        have hd7 := fun j => cell_of_row W7 _ j _ _ _ h7c
        have hl7 : w.heap.size < W7.heap.size := (Array.getElem?_eq_some_iff.1 h7a).1
        have hm7 : y.val.heap.size < W7.heap.size := (Array.getElem?_eq_some_iff.1 h7c).1
        have H7b := Lib.hid h7b
        clear h7a h7b h7c
        have b7 := but_refl (w.heap.size + 1 + 1) W7
        refine wp_region_mixX (w.heap.size + 1 + 1) (af := ?af) [true, true, true, true, true, false, false, false] 59 (by kernel_rfl) rfl (by kernel_rfl) ?q ?r
        case q =>
          intro x0
          simp only [pickT, if_true, if_false, Bool.false_eq_true]
          repeat (go_big_quiet_step ((go_at_call 33; exact calls_ext (or_toE _ _ _ _ _ _ _ _ _ _ _ _ _ _ _ _ _ _ _ _ _ _))))
          exact rfl
        case r =>
          simp only [pickF, if_true, if_false, Bool.false_eq_true]
          intro x1
          have e1 : Ext W7 x1.val := (Ext.refl _).drew.val x1
          have g1 := h7x.trans e1
          go_wp2_with (go_at_call 29; refine (or_out _ _ _ _ _ _).mono ?_; rintro e w2 ⟨v, rfl, hv, hx2⟩)
          refine ⟨but_ext b7 (e1.trans hx2), ?_⟩
          intro x2
          have e2 := (e1.trans hx2).trans x2.ext
          go_wp2_with (refine wpList_store_row rfl 26 _ _ rfl _ _ rfl rfl 26 _ (heap_ext H7b.out e2) info_state rfl (by simp [Value.oneCell']) ?_)
          refine ⟨but_setRow (but_ext b7 e2) _, ?_⟩
          intro x3
          go_wp2_with fail
          refine ⟨but_ext (but_setRow (but_ext b7 e2) _) x3.ext, ?_⟩
          intro x4
          go_wp2_with fail
          have gx : Ext w x4.val := ((Ext.setRow (h7x.trans e2) (Nat.le_succ_of_le (Nat.le_succ _)) _).val x3).val x4
          refine bodyPost_ret (results_row_tmp rfl _ _ _ 26 _ (0, 0) _ rfl (heap_ext (heap_ext (setRow_heap _ _ _ _ _ _ (heap_ext H7b.out e2)) x3.ext) x4.ext) Try.underlying26 rfl info_state) rfl ?_
          rw [step_found HL.out HC.out HP.out HX.out HT.out HN.out]
          refine ⟨_, rfl, ?_, gx⟩
          have hv2 := own_ext (own_base (b' := w.heap.size) hv g1.size) x2.ext
          exact own_ext (own_ext (own_setRow hv2 (heap_ext H7b.out e2) (by decide) _) x3.ext) x4.ext
    · have hs : stepS ⟨r, c, t, ph, ⟨k, f, c2, t2, fk⟩⟩ ⟨ek, ec, et, ⟨lk, lf, lc, lt, lb⟩⟩ = (⟨r, c, t, ph, ⟨k, f, c2, t2, fk⟩⟩, []) := by
        exact step_none HL.out HC.out HP.out (fun j z hz => HN.out j z (by have := (List.getElem?_eq_some_iff.1 hz).1; omega) hz)
      have HS := Lib.hid hs
      clear hs
      go_wp2_with (refine wpList_store_row rfl 26 _ _ rfl _ _ rfl rfl 26 _ (heap_ext H3c.out y.ext) info_state rfl (by simp [Value.oneCell']) ?_)
      refine bodyPost_ret (results_row_tmp rfl _ _ _ 26 _ (0, 0) _ rfl (setRow_heap _ _ _ _ _ _ (heap_ext H3c.out y.ext)) Try.underlying26 rfl info_state) rfl ?_
      rw [HS.out]
      exact ⟨_, rfl, World.ownsRow_nil _ _ _ _, Ext.setRow (h3x.val y) (by omega) _⟩
end Go.Proofs.Ytnfehccnofhmnaa

/-
  Walks: the originator's step in one; final, waiting, new. No condition.
-/
namespace Go.Proofs.Ytnfehccnofhmnaa
open Go.RowKit
attribute [local go_sem ↓] eql_lEq eql_sEq eql_eEq eql_oEq neq_lEq neq_sEq neq_eEq neq_oEq
attribute [local go_sem] ExtOf.cell ExtOf.frozen ExtOf.lt ExtOf.le
attribute [local go_sem high] ExtOf.cell2 ExtOf.frozen2 ExtOf.lt2 ExtOf.cell3 ExtOf.frozen3 ExtOf.lt3 ExtOf.cellB ExtOf.frozenB ExtOf.cellX ExtOf.frozenX ExtOf.cellX' ExtOf.frozenX'
attribute [local go_sem] BelOf.cell BelOf.frozen BelOf.lt

theorem or_step (r c : Int) (t : ByteArray) (ph k f c2 : Int) (t2 : ByteArray) (fk : Bool) (ek ec : Int) (et : ByteArray) (lk lf lc : Int) (lt : ByteArray) (lb : Bool) (w : World) :
    Calls Try.prog 10 #[.agg #[.int .i64 r, .int .u64 c, .string t, .int .i64 ph, .int .i64 k, .int .i64 f, .int .u64 c2, .string t2, .bool fk], .agg #[.int .i64 ek, .int .u64 ec, .string et, .int .i64 lk, .int .i64 lf, .int .u64 lc, .string lt, .bool lb]] w (Stepped w (stepS ⟨r, c, t, ph, ⟨k, f, c2, t2, fk⟩⟩ ⟨ek, ec, et, ⟨lk, lf, lc, lt, lb⟩⟩)) := by
  rcases hc : chk r c t ph k f c2 t2 fk
  · rw [stepS_A ⟨r, c, t, ph, ⟨k, f, c2, t2, fk⟩⟩ ⟨ek, ec, et, ⟨lk, lf, lc, lt, lb⟩⟩ hc]
    exact or_stepA r c t ph k f c2 t2 fk ek ec et lk lf lc lt lb w hc
  · by_cases hp : ph = 0
    · subst hp
      have h := or_step0 r c t k f c2 t2 fk ek ec et lk lf lc lt lb w hc
      have e : stepS ⟨r, c, t, 0, ⟨k, f, c2, t2, fk⟩⟩ ⟨ek, ec, et, ⟨lk, lf, lc, lt, lb⟩⟩ = start0 r c t k f c2 t2 fk ek ec et := by
        unfold stepS chkS start0
        simp only [hc, if_true]
        split <;> rfl
      rw [e]
      exact h
    · exact or_stepC r c t ph k f c2 t2 fk ek ec et lk lf lc lt lb w hc (by simpa using hp)

def finS (s : St) : Bool := chkS s && (s.ph == 6 || s.ph == 7)
def waitS (s : St) : Bool := chkS s && (s.ph != 0 && !finS s)

set_option maxHeartbeats 400000 in
theorem or_final (r c : Int) (t : ByteArray) (ph k f c2 : Int) (t2 : ByteArray) (fk : Bool) (w : World) :
    Calls Try.prog 15 #[.agg #[.int .i64 r, .int .u64 c, .string t, .int .i64 ph, .int .i64 k, .int .i64 f, .int .u64 c2, .string t2, .bool fk]] w fun e w' => e = .returned (.bool (finS ⟨r, c, t, ph, ⟨k, f, c2, t2, fk⟩⟩)) ∧ Ext w w' := by
  rcases hc : chk r c t ph k f c2 t2 fk
  · have hs : finS ⟨r, c, t, ph, ⟨k, f, c2, t2, fk⟩⟩ = false := by simp [finS, chkS, hc]
    rw [hs]; clear hs
    go_enter Try.func15, Try.ntmps15
    go_wp2_with (go_at_call 13; refine (or_check _ _ _ _ _ _ _ _ _ _).mono ?_; rintro e w1 ⟨rfl, hx⟩; obtain ⟨x1, rfl⟩ := ext_of hx; clear hx)
    go_ret
    exact ⟨rfl, ((Ext.refl _).alloc _).val x1⟩
  · have hs : finS ⟨r, c, t, ph, ⟨k, f, c2, t2, fk⟩⟩ = (ph == 6 || ph == 7) := by simp [finS, chkS, hc]
    rw [hs]; clear hs
    rcases h6 : (ph == 6)
    all_goals
      go_enter Try.func15, Try.ntmps15
      go_wp2_with (go_at_call 13; refine (or_check _ _ _ _ _ _ _ _ _ _).mono ?_; rintro e w1 ⟨rfl, hx⟩; obtain ⟨x1, rfl⟩ := ext_of hx; clear hx)
      go_ret
      exact ⟨by simp, ((Ext.refl _).alloc _).val x1⟩

set_option maxHeartbeats 400000 in
theorem or_waits (r c : Int) (t : ByteArray) (ph k f c2 : Int) (t2 : ByteArray) (fk : Bool) (w : World) :
    Calls Try.prog 17 #[.agg #[.int .i64 r, .int .u64 c, .string t, .int .i64 ph, .int .i64 k, .int .i64 f, .int .u64 c2, .string t2, .bool fk]] w fun e w' => e = .returned (.bool (waitS ⟨r, c, t, ph, ⟨k, f, c2, t2, fk⟩⟩)) ∧ Ext w w' := by
  rcases hc : chk r c t ph k f c2 t2 fk
  · have hs : waitS ⟨r, c, t, ph, ⟨k, f, c2, t2, fk⟩⟩ = false := by simp [waitS, chkS, hc]
    rw [hs]; clear hs
    go_enter Try.func17, Try.ntmps17
    go_wp2_with (go_at_call 13; refine (or_check _ _ _ _ _ _ _ _ _ _).mono ?_; rintro e w1 ⟨rfl, hx⟩; obtain ⟨x1, rfl⟩ := ext_of hx; clear hx)
    go_ret
    exact ⟨rfl, ((Ext.refl _).alloc _).val x1⟩
  · have hs : waitS ⟨r, c, t, ph, ⟨k, f, c2, t2, fk⟩⟩ = (ph != 0 && !finS ⟨r, c, t, ph, ⟨k, f, c2, t2, fk⟩⟩) := by simp [waitS, chkS, hc]
    rw [hs]; clear hs
    rcases h0 : (ph != 0)
    · go_enter Try.func17, Try.ntmps17
      go_wp2_with (go_at_call 13; refine (or_check _ _ _ _ _ _ _ _ _ _).mono ?_; rintro e w1 ⟨rfl, hx⟩; obtain ⟨x1, rfl⟩ := ext_of hx; clear hx)
      go_ret
      exact ⟨by simp, ((Ext.refl _).alloc _).val x1⟩
    · go_enter Try.func17, Try.ntmps17
      go_wp2_with (first
        | (go_at_call 13; refine (or_check _ _ _ _ _ _ _ _ _ _).mono ?_; rintro e w1 ⟨rfl, hx⟩; obtain ⟨x1, rfl⟩ := ext_of hx; clear hx)
        | (go_at_call 15; refine (or_final _ _ _ _ _ _ _ _ _ _).mono ?_; rintro e w1 ⟨rfl, hx⟩; obtain ⟨x2, rfl⟩ := ext_of hx; clear hx))
      go_ret
      exact ⟨by simp, (((Ext.refl _).alloc _).val x1).val x2⟩

theorem or_new (c : Int) (w : World) :
    Calls Try.prog 25 #[.int .u64 c] w fun e w' => e = .returned (.agg #[.int .i64 0, .int .u64 c, .string { data := #[] }, .int .i64 0, .int .i64 0, .int .i64 0, .int .u64 0, .string { data := #[] }, .bool false]) ∧ Ext w w' := by
  go_enter Try.func25, Try.ntmps25
  go_wp2
  exact bodyPost_ret (v := .agg #[.int .i64 0, .int .u64 c, .string { data := #[] }, .int .i64 0, .int .i64 0, .int .i64 0, .int .u64 0, .string { data := #[] }, .bool false]) (by simp [results, Try.results25, go_sem]) rfl ⟨rfl, (Ext.refl _).alloc _⟩
end Go.Proofs.Ytnfehccnofhmnaa

/-
  Walk: the originator's events. No condition.
-/
namespace Go.Proofs.Ytnfehccnofhmnaa
open Go.RowKit
attribute [local go_sem ↓] eql_lEq eql_sEq eql_eEq eql_oEq neq_lEq neq_sEq neq_eEq neq_oEq
attribute [local go_sem] ExtOf.cell ExtOf.frozen ExtOf.lt ExtOf.le
attribute [local go_sem high] ExtOf.cell2 ExtOf.frozen2 ExtOf.lt2 ExtOf.cell3 ExtOf.frozen3 ExtOf.lt3 ExtOf.cellB ExtOf.frozenB ExtOf.cellX ExtOf.frozenX ExtOf.cellX' ExtOf.frozenX'
attribute [local go_sem] BelOf.cell BelOf.frozen BelOf.lt

def evR (sc : Int) (x : Rw) : Ev := if x.tick then ⟨3, sc, { data := #[] }, l0⟩ else ⟨2, 0, { data := #[] }, x.comes⟩
def evsS (s : St) : List Ev := if waitS s then (rowsS s.c s.t s.ph).map (evR s.c) else []

theorem rows_len (c : Int) (t : ByteArray) (ph : Int) : (rowsS c t ph).length ≤ 3 := by
  unfold rowsS
  repeat' split
  all_goals simp

theorem take_flat {α : Type} (f : α → List Value) {L : List α} {n : Nat} {x : α} (h : L[n]? = some x) : (L.take (n + 1)).flatMap f = (L.take n).flatMap f ++ f x := by
  rw [List.take_add_one, h]
  simp

theorem info_event : (Try.prog.info? 28).map (fun i => (i.zero, i.size, i.bytes)) = some (some (.agg #[.int .i64 0, .int .u64 0, .string { data := #[] }, .int .i64 0, .int .i64 0, .int .u64 0, .string { data := #[] }, .bool false]), 8, 80) := by kernel_rfl

theorem evR_t {sc : Int} {x : Rw} (h : x.tick = true) : evR sc x = ⟨3, sc, { data := #[] }, l0⟩ := by simp [evR, h]
theorem evR_f {sc : Int} {x : Rw} (h : x.tick = false) : evR sc x = ⟨2, 0, { data := #[] }, x.comes⟩ := by simp [evR, h]

set_option maxHeartbeats 800000 in
theorem or_eventsW (r c : Int) (t : ByteArray) (ph k f c2 : Int) (t2 : ByteArray) (fk : Bool) (w : World) (hw : waitS ⟨r, c, t, ph, ⟨k, f, c2, t2, fk⟩⟩ = true) :
    Calls Try.prog 20 #[.agg #[.int .i64 r, .int .u64 c, .string t, .int .i64 ph, .int .i64 k, .int .i64 f, .int .u64 c2, .string t2, .bool fk]] w (Made w 28 8 (rowsS c t ph).length (((rowsS c t ph).map (evR c)).flatMap Ev.cs)) := by
  obtain ⟨i0, hi, hz0, hz1, hz2⟩ := info_parts info_event
  have hm3 := rows_len c t ph
  generalize hL : rowsS c t ph = L
  rw [hL] at hm3
  have HL := Lib.hid hL
  clear hL
  go_enter Try.func20, Try.ntmps20
  go_wp2_with (first
    | (go_at_call 17; refine (or_waits _ _ _ _ _ _ _ _ _ _).mono ?_; rintro e w1 ⟨rfl, hx⟩; obtain ⟨x1, rfl⟩ := ext_of hx; clear hx)
    | (go_at_call 31; refine (or_rows _ _ _ _ _ _ _ _ _ _).mono ?_; rintro e w2 ⟨v, rfl, hv, hx2⟩; rw [HL.out] at hv; obtain ⟨a, cap, rfl, hm, hvw⟩ := own_view hv; obtain ⟨x2, rfl⟩ := ext_of hx2; clear hx2 hv))
  refine wp_forget (fun w' => w'.heap[w.heap.size]? = some (.cells #[.int .i64 r, .int .u64 c, .string t, .int .i64 ph, .int .i64 k, .int .i64 f, .int .u64 c2, .string t2, .bool fk] 26 (0, 0)) ∧ Ext w w' ∧
      (0 < L.length → ∃ g, a = some ⟨g, 0, none⟩ ∧ g < w'.heap.size ∧ ∀ j u, (L.flatMap Rw.cs)[j]? = some u → w'.cell? ⟨g, j, none⟩ = some u)) ⟨?f1, ?f4, ?f5⟩ ?fr
  case f1 => exact heap_ext (heap_ext (heap_new rfl) x1.ext) x2.ext
  case f4 => exact (((Ext.refl _).alloc _).val x1).val x2
  case f5 => exact fun h => let ⟨g, ha, _, hg, hcell⟩ := hvw h; ⟨g, ha, hg, hcell⟩
  clear hvw x2 x1
  rintro W3 ⟨h3a, h3x, hvw⟩
  have HV := Lib.hid hvw
  clear hvw
  have hc3 := fun j => cell_of_row W3 _ j _ _ _ h3a
  have hl3 : w.heap.size < W3.heap.size := (Array.getElem?_eq_some_iff.1 h3a).1
  clear h3a
  unfold maxLen at hm
  go_loopw [3, 12] (fun l i wr => ∃ (n : Nat) (y : ExtOf W3), n ≤ L.length ∧ i = .int .i64 n ∧ wr = y.val ∧ y.val.ownsRow W3.heap.size 28 8 l n (((L.take n).map (evR c)).flatMap Ev.cs)) (fun _ i _ => L.length - (intOf i).toNat)
  case atStart => exact ⟨0, ⟨W3, Ext.refl _⟩, Nat.zero_le _, rfl, rfl, World.ownsRow_nil _ _ _ _⟩
  case round =>
    obtain ⟨n, y, hn, rfl, rfl, hown⟩ := hrel
    by_cases hlt : n < L.length
    · obtain ⟨g, rfl, hg, hcell⟩ := HV.out (by omega)
      obtain ⟨x, hx⟩ : ∃ x, L[n]? = some x := ⟨_, List.getElem?_eq_getElem hlt⟩
      obtain ⟨q0, q1, q2, q3, q4, q5, q6, q7, q8, q9, q10, q11⟩ := rw_cells hcell hx
      have HX := Lib.hid hx
      clear hx hcell
      have hyB : W3.heap.size ≤ ((y.val.alloc (.cells #[] 0)).alloc (.cells #[] 0)).heap.size := Nat.le_trans y.ext.size (((Ext.refl y.val).alloc _).alloc _).size
      rcases ht : x.tick
      all_goals
        have HT := Lib.hid ht
        go_wp2_with (at_builtin; refine wpList_app W3.heap.size 30 28 i0 _ 8 80 Try.underlying30 hi hz0 hz1 hz2 rfl (by decide) rfl _ _ rfl _ n _ rfl (own_ext hown (((Ext.refl y.val).alloc _).alloc _)) (Nat.le_trans y.ext.size (((Ext.refl y.val).alloc _).alloc _).size) (y.val.heap.size + 1) 1 1 _ rfl (heap_new (by simp)) rfl (by simp [Value.oneCell']) (by unfold maxLen; omega) (by omega) ?_; intro v2 w2 hv2 hb2 _)
        go_roundw
        case rel =>
          refine ⟨n + 1, ⟨w2, (((y.ext.alloc _).alloc _).trans' hb2)⟩, by omega, by go_num, rfl, ?_⟩
          rw [List.map_take] at hv2 ⊢
          rw [take_flat Ev.cs (x := evR c x) (by rw [List.getElem?_map, HX.out]; rfl)]
          first
            | (rw [evR_t HT.out]; exact hv2)
            | (rw [evR_f HT.out]; exact hv2)
        case measure => simp [intOf]; omega
    · obtain rfl : n = L.length := by omega
      go_wp2
      go_ret
      refine ⟨_, rfl, ?_, h3x.trans y.ext⟩
      rw [List.take_length] at hown
      exact own_base hown h3x.size
end Go.Proofs.Ytnfehccnofhmnaa
