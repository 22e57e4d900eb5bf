/-
  An abstract machine of this place's own: the row's last step, for a law whose call only extends the world. No condition.
-/
import Derived.Test.YtfibbhmmiemcoaaML13
import Derived.Test.YtfibbhmmiemcoaaRows
import Derived.ProofKit
import Derived.Deep.Slices
import Derived.Lib.SmallJoins
import Derived.JoinedCond
import Derived.OpenShut
import Derived.Test.YtfibbhmmiemcoaaProg
import Derived.WalkKit
import Derived.WalkSpells
import Derived.WalkLawsBesides
import Derived.Deep.QuietTactic
import Derived.BigQuiet
import Derived.Lib.Hide
import Derived.Deep.Light
set_option linter.all false
namespace Go.Proofs.Ytfibbhmmiemcoaa
open Go.ChangeShapes Go.WideShapes Go.ChangeAt Go.RowKit Go.Deep
namespace E

theorem prog_own : ownKnob Try.prog.godebug = none := by kernel_rfl
theorem prog_laid : laidOutB Try.prog = true := by kernel_rfl
theorem mixed : Try.prog.follows .mixedOrders = true := by kernel_rfl
noncomputable def X0 : Ctx := ctxOf Try.prog
theorem gok (loops n : Nat) : GOk Try.prog (callN Try.prog X0 FT loops n) := callN_ok ttOk flatOk mixed ftOk loops n

def isTrue (r : Option (V × Heap)) : Bool := match r with | some (.one (.lit (.bool b)), _) => b | _ => false

theorem isTrue_some {r : Option (V × Heap)} (h : isTrue r = true) : ∃ h', r = some (.one (.lit (.bool true)), h') := by
  unfold isTrue at h
  split at h
  · rename_i b h'
    subst h
    exact ⟨h', rfl⟩
  · cases h

/-- A call that hands nothing back that may be written only extends the world. -/
theorem step_below {β β' : Pls} {w w' : World} {h h' : Heap} (hro : ∀ b x, h.get b = some x → x.rw = false) (hst : Step β noF ⟨[], [], h⟩ w β' noF ⟨[], [], h'⟩ w') : Below w.heap.size w w' :=
  ⟨hst.os, hst.tape, hst.output, hst.size, fun k hk => hst.fr k hk fun hm => by
    rcases hm with ⟨b, x, p, e1, e2, _⟩ | ⟨t, cs, e1, _⟩
    · rw [hro b x e1] at e2; cases e2
    · cases e1⟩

/-- A law without arguments that the machine runs to true. -/
theorem calls_true {f : FuncId} {loops n : Nat} (h : isTrue (callN Try.prog X0 FT loops n f [] ⟨0, []⟩) = true) (W : World) :
    Calls Try.prog f #[] W fun e w' => e = .returned (.bool true) ∧ Below W.heap.size W w' := by
  obtain ⟨h', hr⟩ := isTrue_some h
  obtain ⟨_, _, hc⟩ := gok loops n _ _ _ _ _ hr
  refine (hc (fun _ => none) W [] ⟨fun _ _ => rfl, (fun b x e => by cases e), (fun b b' x x' p p' _ e => by cases e)⟩ trivial).mono fun e w' he => ?_
  obtain ⟨x, β', rfl, hv, _, hst, _⟩ := he
  have hx : x = .bool true := hv
  exact ⟨by rw [hx], step_below (h := ⟨0, []⟩) (fun b x e => by cases e) hst⟩

section
variable {H : Type} {enc : TypeId × Value → H} {P : Program}
/-- Behind a call that extends the world and hands back what the specification says, each argument reads as it did. -/
theorem post_ext {f : Func} {s : ChangeSpec} {apart fresh handsOn again : Bool} {W W' : World} {args : Array Value} {v : Value} {ds gs : List (DataW H)} {before pa pv : List MemPlace}
    (hW : DataW.Whole enc P f.params.toList s.vars apart W args.toList ds gs before)
    (hres : ∀ (b : Nat) (sp : Nat → Bool) (hd : Bool), DataW.TrodAll enc P W' b sp hd f.resultTypes.toList (v.resultList f.resultTypes.size) (s.fn H (ds ++ gs)).results [])
    (hargs : ∀ sp : Nat → Bool, (∀ p ∈ before, sp p.block = true) → DataW.TrodAll enc P W' 0 sp true f.params.toList args.toList (s.fn H (ds ++ gs)).args pa)
    (hvars : ∀ sp : Nat → Bool, (∀ p ∈ before, sp p.block = true) → DataW.TrodVars enc P W' sp s.vars (s.fn H (ds ++ gs)).vars pv)
    (hps : before = pa ++ pv) (hb : Below W.heap.size W W')
    (hok : ∀ (j : Nat) (t : TypeId) (r : Value), f.resultTypes[j]? = some t → (v.resultList f.resultTypes.size)[j]? = some r → Value.okWide P W' .any 0 t r) :
    s.post enc P f apart fresh handsOn again W args v W' := by
  have hlt : ∀ p ∈ before, p.block < W.heap.size := fun p hp => hW.lt p hp
  have hold : ∀ p ∈ before, (fun b => decide (b < W.heap.size)) p.block = true := fun p hp => by simpa using hlt p hp
  refine ⟨ds, gs, before, [], pa, pv, hW, hres _ _ _, hargs _ hold, hvars _ hold, World.keptBut_mono (fun p hp => ⟨hp, ?_⟩) (Below.frame hb (· ∈ before)), fun _ => ?_⟩
  · rw [hps, List.mem_append] at hp
    exact Or.inr hp
  · obtain ⟨_, _, _, _, _, hz, hn⟩ := hW
    refine ⟨hok, _, _, ([] ++ pa) ++ pv, ⟨[] ++ pa, pv, trodAll_append (hargs _ (fun _ _ => rfl)) (hres _ _ _), hvars _ (fun _ _ => rfl), rfl, ?_, ?_⟩, ?_⟩
    · intro b off hp
      have hin : MemPlace.cell b off ∈ before := by rw [hps]; simpa using hp
      rw [Below.frozen hb (hlt _ hin)]
      exact hz b off hin
    · intro ha
      have := hn ha
      rw [hps] at this
      simpa using this
    · intro p hp _
      rw [hps]
      simpa using hp

theorem trod_ext {t : TypeId} (hl : laidOutB P = true) (hr : P.readableRec t = true) (hrow : t < P.types.size) {W W' : World} {sp : Nat → Bool} {v : Value} {d : DataW H} {ps : List MemPlace}
    (h : DataW.Trod enc P W 0 (fun _ => true) true t v d ps) (hb : Below W.heap.size W W') (hlt : ∀ x ∈ ps, x.block < W.heap.size) (hs : ∀ p ∈ ps, sp p.block = true) : DataW.Trod enc P W' 0 sp true t v d ps :=
  WideElems.Trod_stays hl hr hrow h (fun x hx => Below.same hb (hlt x hx)) hs

end
end E
end Go.Proofs.Ytfibbhmmiemcoaa

/-
  Plain lemmas of this place's own: a world that extends another one; a region that draws its order and whose operations only extend the world. No condition.
-/
namespace Go.Proofs.Ytfibbhmmiemcoaa
open Go.RowKit

/-- The world w' holds all the blocks of w as they were, and perhaps more. -/
def Ext (w w' : World) : Prop := Below w.heap.size w w'

theorem Ext.refl (w : World) : Ext w w := Below.refl _ _
theorem Ext.trans {a b c : World} (h : Ext a b) (k : Ext b c) : Ext a c := Below.trans h (Below.mono k h.size)
/-- .. then whatever leaves the blocks below as they are. -/
theorem Ext.trans' {a b c : World} (h : Ext a b) (k : Below a.heap.size b c) : Ext a c := Below.trans h k
theorem Ext.drew {a w : World} (h : Ext a w) : Ext a w.drew := Below.drew h
theorem Ext.drewN {a w : World} (h : Ext a w) (n : Nat) : Ext a (w.drewN n) := ⟨h.os, h.tape, h.output, h.size, h.block⟩
theorem Ext.alloc {a w : World} (h : Ext a w) (o : Obj) : Ext a (w.alloc o) := Below.alloc h h.size o
theorem Ext.setCell {a w : World} (h : Ext a w) {p : Addr} (hp : a.heap.size ≤ p.block) (u : Value) : Ext a (w.setCell p u) := Below.setCell h hp u
theorem Ext.size {a w : World} (h : Ext a w) : a.heap.size ≤ w.heap.size := Below.size h

/-- A world that extends w. -/
structure ExtOf (w : World) where
  val : World
  ext : Ext w val

instance (w : World) : Nonempty (ExtOf w) := ⟨⟨w, Ext.refl w⟩⟩

theorem ext_of {w w' : World} (h : Ext w w') : ∃ x : ExtOf w, w' = x.val := ⟨⟨w', h⟩, rfl⟩
theorem Ext.val {a w : World} (h : Ext a w) (x : ExtOf w) : Ext a x.val := h.trans x.ext

theorem ExtOf.cell {w : World} (x : ExtOf w) {a : Addr} (h : a.block < w.heap.size) : x.val.cell? a = w.cell? a := Below.cell x.ext h
theorem ExtOf.frozen {w : World} (x : ExtOf w) {a : Addr} (h : a.block < w.heap.size) : x.val.frozen? a = w.frozen? a := Below.frozen x.ext h
theorem ExtOf.lt {w : World} (x : ExtOf w) {n : Nat} (h : n < w.heap.size) : (n < x.val.heap.size) = True := by
  have := x.ext.size
  exact eq_true (by omega)
theorem ExtOf.le {w : World} (x : ExtOf w) {n : Nat} (h : n ≤ w.heap.size) : (n ≤ x.val.heap.size) = True := by
  have := x.ext.size
  exact eq_true (by omega)

theorem ExtOf.cell2 {w : World} {x : ExtOf w} (y : ExtOf x.val) {a : Addr} (h : a.block < w.heap.size) : y.val.cell? a = w.cell? a := Below.cell (x.ext.trans y.ext) h
theorem ExtOf.frozen2 {w : World} {x : ExtOf w} (y : ExtOf x.val) {a : Addr} (h : a.block < w.heap.size) : y.val.frozen? a = w.frozen? a := Below.frozen (x.ext.trans y.ext) h
theorem ExtOf.lt2 {w : World} {x : ExtOf w} (y : ExtOf x.val) {n : Nat} (h : n < w.heap.size) : (n < y.val.heap.size) = True := by
  have := (x.ext.trans y.ext).size
  exact eq_true (by omega)

theorem ExtOf.cell3 {w : World} {x : ExtOf w} {y : ExtOf x.val} (z : ExtOf y.val) {a : Addr} (h : a.block < w.heap.size) : z.val.cell? a = w.cell? a := Below.cell ((x.ext.trans y.ext).trans z.ext) h
theorem ExtOf.frozen3 {w : World} {x : ExtOf w} {y : ExtOf x.val} (z : ExtOf y.val) {a : Addr} (h : a.block < w.heap.size) : z.val.frozen? a = w.frozen? a := Below.frozen ((x.ext.trans y.ext).trans z.ext) h
theorem ExtOf.lt3 {w : World} {x : ExtOf w} {y : ExtOf x.val} (z : ExtOf y.val) {n : Nat} (h : n < w.heap.size) : (n < z.val.heap.size) = True := by
  have := ((x.ext.trans y.ext).trans z.ext).size
  exact eq_true (by omega)

/-- A world that has, below block B, the blocks of w as they were. -/
structure BelOf (B : Nat) (w : World) where
  val : World
  bel : Below B w val

instance (B : Nat) (w : World) : Nonempty (BelOf B w) := ⟨⟨w, Below.refl B w⟩⟩

theorem bel_of {B : Nat} {w w' : World} (h : Below B w w') : ∃ x : BelOf B w, w' = x.val := ⟨⟨w', h⟩, rfl⟩
theorem bel_ext {B : Nat} {a w w' : World} (h : Below B a w) (e : Ext w w') (hB : B ≤ a.heap.size) : Below B a w' := Below.trans h (Below.mono e (Nat.le_trans hB h.size))

theorem BelOf.cell {B : Nat} {w : World} (x : BelOf B w) {a : Addr} (h : a.block < B) : x.val.cell? a = w.cell? a := Below.cell x.bel h
theorem BelOf.frozen {B : Nat} {w : World} (x : BelOf B w) {a : Addr} (h : a.block < B) : x.val.frozen? a = w.frozen? a := Below.frozen x.bel h
theorem BelOf.lt {B : Nat} {w : World} (x : BelOf B w) {n : Nat} (h : n < w.heap.size) : (n < x.val.heap.size) = True := by
  have := x.bel.size
  exact eq_true (by omega)

theorem ExtOf.cellB {B : Nat} {w : World} {x : BelOf B w} (y : ExtOf x.val) {a : Addr} (h : a.block < B) (hB : B ≤ w.heap.size) : y.val.cell? a = w.cell? a :=
  Below.cell (bel_ext x.bel y.ext hB) h
theorem ExtOf.frozenB {B : Nat} {w : World} {x : BelOf B w} (y : ExtOf x.val) {a : Addr} (h : a.block < B) (hB : B ≤ w.heap.size) : y.val.frozen? a = w.frozen? a :=
  Below.frozen (bel_ext x.bel y.ext hB) h

/-- A world that has the blocks of w as they were, but for block X. -/
structure ButOf (X : Nat) (w : World) where
  val : World
  but : w.grownBy val (some X)

theorem but_refl (X : Nat) (w : World) : w.grownBy w (some X) := ⟨rfl, rfl, rfl, Nat.le_refl _, fun _ _ _ => rfl⟩
theorem but_ext {X : Nat} {a w w' : World} (h : a.grownBy w (some X)) (e : Ext w w') : a.grownBy w' (some X) :=
  ⟨e.os.trans h.os, e.tape.trans h.tape, e.output.trans h.output, Nat.le_trans h.size e.size, fun k hk hn => (e.block k (Nat.lt_of_lt_of_le hk h.size)).trans (h.block k hk hn)⟩
theorem but_setRow {X : Nat} {a w : World} (h : a.grownBy w (some X)) (cs : Array Value) : a.grownBy (w.setRow X cs) (some X) :=
  ⟨h.os, h.tape, h.output, by simpa using h.size, fun k hk hn => (setRow_other w X k cs (fun e => hn (by rw [e]))).trans (h.block k hk hn)⟩
instance (X : Nat) (w : World) : Nonempty (ButOf X w) := ⟨⟨w, but_refl X w⟩⟩

theorem ButOf.cell0 {X : Nat} {w : World} (x : ButOf X w) {a : Addr} (h : a.block < w.heap.size) (hn : a.block ≠ X) : x.val.cell? a = w.cell? a :=
  World.cell?_of_block (x.but.block a.block h (by simpa using hn))
theorem ButOf.frozen0 {X : Nat} {w : World} (x : ButOf X w) {a : Addr} (h : a.block < w.heap.size) (hn : a.block ≠ X) : x.val.frozen? a = w.frozen? a :=
  World.frozen?_of_block (x.but.block a.block h (by simpa using hn))
theorem ExtOf.cellX {X : Nat} {w : World} {x : ButOf X w} (y : ExtOf x.val) {a : Addr} (h : a.block < w.heap.size) (hn : a.block < X) : y.val.cell? a = w.cell? a :=
  ButOf.cell0 ⟨y.val, but_ext x.but y.ext⟩ h (Nat.ne_of_lt hn)
theorem ExtOf.frozenX {X : Nat} {w : World} {x : ButOf X w} (y : ExtOf x.val) {a : Addr} (h : a.block < w.heap.size) (hn : a.block < X) : y.val.frozen? a = w.frozen? a :=
  ButOf.frozen0 ⟨y.val, but_ext x.but y.ext⟩ h (Nat.ne_of_lt hn)
theorem ExtOf.cellX' {X : Nat} {w : World} {x : ButOf X w} (y : ExtOf x.val) {a : Addr} (h : a.block < w.heap.size) (hn : X < a.block) : y.val.cell? a = w.cell? a :=
  ButOf.cell0 ⟨y.val, but_ext x.but y.ext⟩ h (Nat.ne_of_gt hn)
theorem ExtOf.frozenX' {X : Nat} {w : World} {x : ButOf X w} (y : ExtOf x.val) {a : Addr} (h : a.block < w.heap.size) (hn : X < a.block) : y.val.frozen? a = w.frozen? a :=
  ButOf.frozen0 ⟨y.val, but_ext x.but y.ext⟩ h (Nat.ne_of_gt hn)
theorem Ext.setRow {a w : World} (h : Ext a w) {g : Nat} (hg : a.heap.size ≤ g) (cs : Array Value) : Ext a (w.setRow g cs) :=
  ⟨h.os, h.tape, h.output, by simpa using h.size, fun k hk => (setRow_other w g k cs (by omega)).trans (h.block k hk)⟩

theorem heap_ext {w w' : World} {G : Nat} {o : Obj} (h : w.heap[G]? = some o) (e : Ext w w') : w'.heap[G]? = some o := by
  rw [Below.block e G (Array.getElem?_eq_some_iff.1 h).1]; exact h

section
variable {P : Program}
/-- A region that draws its order; each operation gives one value in every world that extends w, and leaves such a world. -/
theorem wp_region_ext {id : Nat} {Q : Exit → Act → World → Prop} {a : Act} {w : World} {l : List Oper} (hm : P.follows .mixedOrders = true) (hB : Region.lexB .any l.toArray = true)
    (h : wpQuiet P l.toArray (fun w' => ∃ x : ExtOf w, w' = x.val) (fun a' => ∀ w', (∃ x : ExtOf w, w' = x.val) → Q .normal a' w') l a) : (Code.region id l.toArray true).wp P Q a w :=
  wp_region_quiet (C := fun w' => ∃ x : ExtOf w, w' = x.val) hm hB ⟨⟨_, (Ext.refl w).drew⟩, rfl⟩ (by simpa using h)

/-- A contract met in such a region. -/
theorem calls_ext {f : FuncId} {args : Array Value} {w : World} {x : ExtOf w} {v : Value}
    (h : Calls P f args x.val fun e w' => e = .returned v ∧ Ext x.val w') : Calls P f args x.val fun e w'' => e = .returned v ∧ ∃ y : ExtOf w, w'' = y.val :=
  h.mono fun _ w' ⟨he, hw⟩ => ⟨he, ⟨w', x.ext.trans hw⟩, rfl⟩
end
end Go.Proofs.Ytfibbhmmiemcoaa

/-
  The program's struct types: two letters, states, events, outs against each other. No condition.
-/
namespace Go.Proofs.Ytfibbhmmiemcoaa
open Go.RowKit

theorem toList_eq_iff (s t : ByteArray) : (s.toList = t.toList) ↔ s = t := by
  rw [ByteArray.toList_eq, ByteArray.toList_eq]
  constructor
  · intro h; obtain ⟨⟨x⟩⟩ := s; obtain ⟨⟨y⟩⟩ := t; simpa using h
  · intro h; rw [h]
theorem toList_beq (s t : ByteArray) : (s.toList == t.toList) = decide (s = t) := by
  rw [Bool.eq_iff_iff]; simp [toList_eq_iff]

/-- Are two of api.Letter the same? -/
def lEq (k : Int) (f : Int) (c : Int) (t : ByteArray) (b : Bool) (k' : Int) (f' : Int) (c' : Int) (t' : ByteArray) (b' : Bool) : Bool := decide (k = k' ∧ f = f' ∧ c = c' ∧ t = t' ∧ b = b')
theorem lEq_true {k : Int} {f : Int} {c : Int} {t : ByteArray} {b : Bool} {k' : Int} {f' : Int} {c' : Int} {t' : ByteArray} {b' : Bool} : lEq k f c t b k' f' c' t' b' = true ↔ (k = k' ∧ f = f' ∧ c = c' ∧ t = t' ∧ b = b') := by simp [lEq]
theorem eql_lEq (k : Int) (f : Int) (c : Int) (t : ByteArray) (b : Bool) (k' : Int) (f' : Int) (c' : Int) (t' : ByteArray) (b' : Bool) (w : World) : (binOp .eql 24 (.agg #[.int .i64 k, .int .i64 f, .int .u64 c, .string t, .bool b]) (.agg #[.int .i64 k', .int .i64 f', .int .u64 c', .string t', .bool b'])).run Try.prog w = .ok (.bool (lEq k f c t b k' f' c' t' b')) w := by
  simp [go_sem, toList_beq, lEq]
  by_cases h_k : k = k'
  case neg => simp [h_k]
  by_cases h_f : f = f'
  case neg => simp [h_f]
  by_cases h_c : c = c'
  case neg => simp [h_c]
  by_cases h_t : t = t'
  case neg => simp [h_t]
  by_cases h_b : b = b'
  case neg => simp [h_b]
  simp [h_k, h_f, h_c, h_t, h_b]
theorem neq_lEq (k : Int) (f : Int) (c : Int) (t : ByteArray) (b : Bool) (k' : Int) (f' : Int) (c' : Int) (t' : ByteArray) (b' : Bool) (w : World) : (binOp .neq 24 (.agg #[.int .i64 k, .int .i64 f, .int .u64 c, .string t, .bool b]) (.agg #[.int .i64 k', .int .i64 f', .int .u64 c', .string t', .bool b'])).run Try.prog w = .ok (.bool (!(lEq k f c t b k' f' c' t' b'))) w := by
  simp [go_sem, toList_beq, lEq]
  by_cases h_k : k = k'
  case neg => simp [h_k]
  by_cases h_f : f = f'
  case neg => simp [h_f]
  by_cases h_c : c = c'
  case neg => simp [h_c]
  by_cases h_t : t = t'
  case neg => simp [h_t]
  by_cases h_b : b = b'
  case neg => simp [h_b]
  simp [h_k, h_f, h_c, h_t, h_b]

/-- Are two of api.State the same? -/
def sEq (r : Int) (c : Int) (t : ByteArray) (ph : Int) (pk : Int) (pf : Int) (pc : Int) (pt : ByteArray) (pb : Bool) (r' : Int) (c' : Int) (t' : ByteArray) (ph' : Int) (pk' : Int) (pf' : Int) (pc' : Int) (pt' : ByteArray) (pb' : Bool) : Bool := decide (r = r' ∧ c = c' ∧ t = t' ∧ ph = ph' ∧ pk = pk' ∧ pf = pf' ∧ pc = pc' ∧ pt = pt' ∧ pb = pb')
theorem sEq_true {r : Int} {c : Int} {t : ByteArray} {ph : Int} {pk : Int} {pf : Int} {pc : Int} {pt : ByteArray} {pb : Bool} {r' : Int} {c' : Int} {t' : ByteArray} {ph' : Int} {pk' : Int} {pf' : Int} {pc' : Int} {pt' : ByteArray} {pb' : Bool} : sEq r c t ph pk pf pc pt pb r' c' t' ph' pk' pf' pc' pt' pb' = true ↔ (r = r' ∧ c = c' ∧ t = t' ∧ ph = ph' ∧ pk = pk' ∧ pf = pf' ∧ pc = pc' ∧ pt = pt' ∧ pb = pb') := by simp [sEq]
theorem eql_sEq (r : Int) (c : Int) (t : ByteArray) (ph : Int) (pk : Int) (pf : Int) (pc : Int) (pt : ByteArray) (pb : Bool) (r' : Int) (c' : Int) (t' : ByteArray) (ph' : Int) (pk' : Int) (pf' : Int) (pc' : Int) (pt' : ByteArray) (pb' : Bool) (w : World) : (binOp .eql 26 (.agg #[.int .i64 r, .int .u64 c, .string t, .int .i64 ph, .int .i64 pk, .int .i64 pf, .int .u64 pc, .string pt, .bool pb]) (.agg #[.int .i64 r', .int .u64 c', .string t', .int .i64 ph', .int .i64 pk', .int .i64 pf', .int .u64 pc', .string pt', .bool pb'])).run Try.prog w = .ok (.bool (sEq r c t ph pk pf pc pt pb r' c' t' ph' pk' pf' pc' pt' pb')) w := by
  simp [go_sem, toList_beq, sEq]
  by_cases h_r : r = r'
  case neg => simp [h_r]
  by_cases h_c : c = c'
  case neg => simp [h_c]
  by_cases h_t : t = t'
  case neg => simp [h_t]
  by_cases h_ph : ph = ph'
  case neg => simp [h_ph]
  by_cases h_pk : pk = pk'
  case neg => simp [h_pk]
  by_cases h_pf : pf = pf'
  case neg => simp [h_pf]
  by_cases h_pc : pc = pc'
  case neg => simp [h_pc]
  by_cases h_pt : pt = pt'
  case neg => simp [h_pt]
  by_cases h_pb : pb = pb'
  case neg => simp [h_pb]
  simp [h_r, h_c, h_t, h_ph, h_pk, h_pf, h_pc, h_pt, h_pb]
theorem neq_sEq (r : Int) (c : Int) (t : ByteArray) (ph : Int) (pk : Int) (pf : Int) (pc : Int) (pt : ByteArray) (pb : Bool) (r' : Int) (c' : Int) (t' : ByteArray) (ph' : Int) (pk' : Int) (pf' : Int) (pc' : Int) (pt' : ByteArray) (pb' : Bool) (w : World) : (binOp .neq 26 (.agg #[.int .i64 r, .int .u64 c, .string t, .int .i64 ph, .int .i64 pk, .int .i64 pf, .int .u64 pc, .string pt, .bool pb]) (.agg #[.int .i64 r', .int .u64 c', .string t', .int .i64 ph', .int .i64 pk', .int .i64 pf', .int .u64 pc', .string pt', .bool pb'])).run Try.prog w = .ok (.bool (!(sEq r c t ph pk pf pc pt pb r' c' t' ph' pk' pf' pc' pt' pb'))) w := by
  simp [go_sem, toList_beq, sEq]
  by_cases h_r : r = r'
  case neg => simp [h_r]
  by_cases h_c : c = c'
  case neg => simp [h_c]
  by_cases h_t : t = t'
  case neg => simp [h_t]
  by_cases h_ph : ph = ph'
  case neg => simp [h_ph]
  by_cases h_pk : pk = pk'
  case neg => simp [h_pk]
  by_cases h_pf : pf = pf'
  case neg => simp [h_pf]
  by_cases h_pc : pc = pc'
  case neg => simp [h_pc]
  by_cases h_pt : pt = pt'
  case neg => simp [h_pt]
  by_cases h_pb : pb = pb'
  case neg => simp [h_pb]
  simp [h_r, h_c, h_t, h_ph, h_pk, h_pf, h_pc, h_pt, h_pb]

/-- Are two of api.Event the same? -/
def eEq (k : Int) (c : Int) (t : ByteArray) (lk : Int) (lf : Int) (lc : Int) (lt : ByteArray) (lb : Bool) (k' : Int) (c' : Int) (t' : ByteArray) (lk' : Int) (lf' : Int) (lc' : Int) (lt' : ByteArray) (lb' : Bool) : Bool := decide (k = k' ∧ c = c' ∧ t = t' ∧ lk = lk' ∧ lf = lf' ∧ lc = lc' ∧ lt = lt' ∧ lb = lb')
theorem eEq_true {k : Int} {c : Int} {t : ByteArray} {lk : Int} {lf : Int} {lc : Int} {lt : ByteArray} {lb : Bool} {k' : Int} {c' : Int} {t' : ByteArray} {lk' : Int} {lf' : Int} {lc' : Int} {lt' : ByteArray} {lb' : Bool} : eEq k c t lk lf lc lt lb k' c' t' lk' lf' lc' lt' lb' = true ↔ (k = k' ∧ c = c' ∧ t = t' ∧ lk = lk' ∧ lf = lf' ∧ lc = lc' ∧ lt = lt' ∧ lb = lb') := by simp [eEq]
theorem eql_eEq (k : Int) (c : Int) (t : ByteArray) (lk : Int) (lf : Int) (lc : Int) (lt : ByteArray) (lb : Bool) (k' : Int) (c' : Int) (t' : ByteArray) (lk' : Int) (lf' : Int) (lc' : Int) (lt' : ByteArray) (lb' : Bool) (w : World) : (binOp .eql 104 (.agg #[.int .i64 k, .int .u64 c, .string t, .int .i64 lk, .int .i64 lf, .int .u64 lc, .string lt, .bool lb]) (.agg #[.int .i64 k', .int .u64 c', .string t', .int .i64 lk', .int .i64 lf', .int .u64 lc', .string lt', .bool lb'])).run Try.prog w = .ok (.bool (eEq k c t lk lf lc lt lb k' c' t' lk' lf' lc' lt' lb')) w := by
  simp [go_sem, toList_beq, eEq]
  by_cases h_k : k = k'
  case neg => simp [h_k]
  by_cases h_c : c = c'
  case neg => simp [h_c]
  by_cases h_t : t = t'
  case neg => simp [h_t]
  by_cases h_lk : lk = lk'
  case neg => simp [h_lk]
  by_cases h_lf : lf = lf'
  case neg => simp [h_lf]
  by_cases h_lc : lc = lc'
  case neg => simp [h_lc]
  by_cases h_lt : lt = lt'
  case neg => simp [h_lt]
  by_cases h_lb : lb = lb'
  case neg => simp [h_lb]
  simp [h_k, h_c, h_t, h_lk, h_lf, h_lc, h_lt, h_lb]
theorem neq_eEq (k : Int) (c : Int) (t : ByteArray) (lk : Int) (lf : Int) (lc : Int) (lt : ByteArray) (lb : Bool) (k' : Int) (c' : Int) (t' : ByteArray) (lk' : Int) (lf' : Int) (lc' : Int) (lt' : ByteArray) (lb' : Bool) (w : World) : (binOp .neq 104 (.agg #[.int .i64 k, .int .u64 c, .string t, .int .i64 lk, .int .i64 lf, .int .u64 lc, .string lt, .bool lb]) (.agg #[.int .i64 k', .int .u64 c', .string t', .int .i64 lk', .int .i64 lf', .int .u64 lc', .string lt', .bool lb'])).run Try.prog w = .ok (.bool (!(eEq k c t lk lf lc lt lb k' c' t' lk' lf' lc' lt' lb'))) w := by
  simp [go_sem, toList_beq, eEq]
  by_cases h_k : k = k'
  case neg => simp [h_k]
  by_cases h_c : c = c'
  case neg => simp [h_c]
  by_cases h_t : t = t'
  case neg => simp [h_t]
  by_cases h_lk : lk = lk'
  case neg => simp [h_lk]
  by_cases h_lf : lf = lf'
  case neg => simp [h_lf]
  by_cases h_lc : lc = lc'
  case neg => simp [h_lc]
  by_cases h_lt : lt = lt'
  case neg => simp [h_lt]
  by_cases h_lb : lb = lb'
  case neg => simp [h_lb]
  simp [h_k, h_c, h_t, h_lk, h_lf, h_lc, h_lt, h_lb]

/-- Are two of api.Out the same? -/
def oEq (to : Int) (lk : Int) (lf : Int) (lc : Int) (lt : ByteArray) (lb : Bool) (to' : Int) (lk' : Int) (lf' : Int) (lc' : Int) (lt' : ByteArray) (lb' : Bool) : Bool := decide (to = to' ∧ lk = lk' ∧ lf = lf' ∧ lc = lc' ∧ lt = lt' ∧ lb = lb')
theorem oEq_true {to : Int} {lk : Int} {lf : Int} {lc : Int} {lt : ByteArray} {lb : Bool} {to' : Int} {lk' : Int} {lf' : Int} {lc' : Int} {lt' : ByteArray} {lb' : Bool} : oEq to lk lf lc lt lb to' lk' lf' lc' lt' lb' = true ↔ (to = to' ∧ lk = lk' ∧ lf = lf' ∧ lc = lc' ∧ lt = lt' ∧ lb = lb') := by simp [oEq]
theorem eql_oEq (to : Int) (lk : Int) (lf : Int) (lc : Int) (lt : ByteArray) (lb : Bool) (to' : Int) (lk' : Int) (lf' : Int) (lc' : Int) (lt' : ByteArray) (lb' : Bool) (w : World) : (binOp .eql 111 (.agg #[.int .i64 to, .int .i64 lk, .int .i64 lf, .int .u64 lc, .string lt, .bool lb]) (.agg #[.int .i64 to', .int .i64 lk', .int .i64 lf', .int .u64 lc', .string lt', .bool lb'])).run Try.prog w = .ok (.bool (oEq to lk lf lc lt lb to' lk' lf' lc' lt' lb')) w := by
  simp [go_sem, toList_beq, oEq]
  by_cases h_to : to = to'
  case neg => simp [h_to]
  by_cases h_lk : lk = lk'
  case neg => simp [h_lk]
  by_cases h_lf : lf = lf'
  case neg => simp [h_lf]
  by_cases h_lc : lc = lc'
  case neg => simp [h_lc]
  by_cases h_lt : lt = lt'
  case neg => simp [h_lt]
  by_cases h_lb : lb = lb'
  case neg => simp [h_lb]
  simp [h_to, h_lk, h_lf, h_lc, h_lt, h_lb]
theorem neq_oEq (to : Int) (lk : Int) (lf : Int) (lc : Int) (lt : ByteArray) (lb : Bool) (to' : Int) (lk' : Int) (lf' : Int) (lc' : Int) (lt' : ByteArray) (lb' : Bool) (w : World) : (binOp .neq 111 (.agg #[.int .i64 to, .int .i64 lk, .int .i64 lf, .int .u64 lc, .string lt, .bool lb]) (.agg #[.int .i64 to', .int .i64 lk', .int .i64 lf', .int .u64 lc', .string lt', .bool lb'])).run Try.prog w = .ok (.bool (!(oEq to lk lf lc lt lb to' lk' lf' lc' lt' lb'))) w := by
  simp [go_sem, toList_beq, oEq]
  by_cases h_to : to = to'
  case neg => simp [h_to]
  by_cases h_lk : lk = lk'
  case neg => simp [h_lk]
  by_cases h_lf : lf = lf'
  case neg => simp [h_lf]
  by_cases h_lc : lc = lc'
  case neg => simp [h_lc]
  by_cases h_lt : lt = lt'
  case neg => simp [h_lt]
  by_cases h_lb : lb = lb'
  case neg => simp [h_lb]
  simp [h_to, h_lk, h_lf, h_lc, h_lt, h_lb]

end Go.Proofs.Ytfibbhmmiemcoaa

/-
  Walks of the originator's small functions. No condition.
-/
namespace Go.Proofs.Ytfibbhmmiemcoaa
open Go.RowKit
attribute [local go_sem ↓] eql_lEq eql_sEq eql_eEq eql_oEq neq_lEq neq_sEq neq_eEq neq_oEq
attribute [local go_sem] ExtOf.cell ExtOf.frozen ExtOf.lt ExtOf.le
attribute [local go_sem high] ExtOf.cell2 ExtOf.frozen2 ExtOf.lt2 ExtOf.cell3 ExtOf.frozen3 ExtOf.lt3

theorem ret_bool {a b : Bool} (h : a = b) : Ending.returned (.bool a) = .returned (.bool b) := by rw [h]

theorem or_promise (r c ph : Int) (t : ByteArray) (k f c2 : Int) (t2 : ByteArray) (fk : Bool) (n : Int) (w : World) :
    Calls Try.prog 84 #[.agg #[.int .i64 r, .int .u64 c, .string t, .int .i64 ph, .int .i64 k, .int .i64 f, .int .u64 c2, .string t2, .bool fk], .int .i64 n] w fun e w' => e = .returned (.agg #[.int .i64 1, .int .i64 n, .int .u64 c, .string t, .bool false]) ∧ Ext w w' := by
  go_enter Try.func84, Try.ntmps84
  go_wp2
  exact bodyPost_ret (v := .agg #[.int .i64 1, .int .i64 n, .int .u64 c, .string t, .bool false]) (by simp [results, Try.results84, go_sem]) rfl ⟨rfl, ((Ext.refl _).alloc _).alloc _⟩

theorem or_signature (r c ph : Int) (t : ByteArray) (k f c2 : Int) (t2 : ByteArray) (fk : Bool) (n : Int) (w : World) :
    Calls Try.prog 38 #[.agg #[.int .i64 r, .int .u64 c, .string t, .int .i64 ph, .int .i64 k, .int .i64 f, .int .u64 c2, .string t2, .bool fk], .int .i64 n] w fun e w' => e = .returned (.agg #[.int .i64 2, .int .i64 n, .int .u64 c, .string t, .bool false]) ∧ Ext w w' := by
  go_enter Try.func38, Try.ntmps38
  go_wp2
  exact bodyPost_ret (v := .agg #[.int .i64 2, .int .i64 n, .int .u64 c, .string t, .bool false]) (by simp [results, Try.results38, go_sem]) rfl ⟨rfl, ((Ext.refl _).alloc _).alloc _⟩

theorem or_instead (r c ph : Int) (t : ByteArray) (k f c2 : Int) (t2 : ByteArray) (fk : Bool) (w : World) :
    Calls Try.prog 39 #[.agg #[.int .i64 r, .int .u64 c, .string t, .int .i64 ph, .int .i64 k, .int .i64 f, .int .u64 c2, .string t2, .bool fk]] w fun e w' => e = .returned (.agg #[.int .i64 6, .int .i64 0, .int .u64 c, .string t, .bool false]) ∧ Ext w w' := by
  go_enter Try.func39, Try.ntmps39
  go_wp2
  exact bodyPost_ret (v := .agg #[.int .i64 6, .int .i64 0, .int .u64 c, .string t, .bool false]) (by simp [results, Try.results39, go_sem]) rfl ⟨rfl, ((Ext.refl _).alloc _).alloc _⟩

theorem or_token (r c ph : Int) (t : ByteArray) (k f c2 : Int) (t2 : ByteArray) (fk : Bool) (w : World) :
    Calls Try.prog 93 #[.agg #[.int .i64 r, .int .u64 c, .string t, .int .i64 ph, .int .i64 k, .int .i64 f, .int .u64 c2, .string t2, .bool fk]] w fun e w' => e = .returned (.agg #[.int .i64 5, .int .i64 0, .int .u64 c, .string { data := #[] }, .bool false]) ∧ Ext w w' := by
  go_enter Try.func93, Try.ntmps93
  go_wp2
  exact bodyPost_ret (v := .agg #[.int .i64 5, .int .i64 0, .int .u64 c, .string { data := #[] }, .bool false]) (by simp [results, Try.results93, go_sem]) rfl ⟨rfl, ((Ext.refl _).alloc _).alloc _⟩



/-- A state's phase 6: signed. -/
def chk6 (c : Int) (t : ByteArray) (k f c2 : Int) (t2 : ByteArray) (fk : Bool) : Bool :=
  lEq k f c2 t2 fk 2 1 c t false || lEq k f c2 t2 fk 6 0 c t false

set_option maxHeartbeats 400000 in
theorem or_check6 (c : Int) (t : ByteArray) (k f c2 : Int) (t2 : ByteArray) (fk : Bool) (w : World) (ht : (t.size : Int) ≤ 64) :
    Calls Try.prog 17 #[.agg #[.int .i64 0, .int .u64 c, .string t, .int .i64 6, .int .i64 k, .int .i64 f, .int .u64 c2, .string t2, .bool fk]] w fun e w' => e = .returned (.bool (chk6 c t k f c2 t2 fk)) ∧ Ext w w' := by
  unfold chk6
  rcases h : lEq k f c2 t2 fk 2 1 c t false
  all_goals
    go_enter Try.func17, Try.ntmps17
    go_wp2_with fail
    refine wp_region_ext (by kernel_rfl) (by kernel_rfl) ?_
    repeat (go_big_quiet_step ((first | (go_at_call 38; exact calls_ext (or_signature _ _ _ _ _ _ _ _ _ _ _)) | (go_at_call 39; exact calls_ext (or_instead _ _ _ _ _ _ _ _ _ _)))))
    refine wpQuiet_nil ?_
    intro _ hx
    obtain ⟨x, rfl⟩ := hx
    go_wp2
    go_ret
    exact ⟨by simp, ((Ext.refl _).alloc _).val x⟩

/-- Is a state good? -/
def chk (r c : Int) (t : ByteArray) (ph k f c2 : Int) (t2 : ByteArray) (fk : Bool) : Bool :=
  if r = 0 ∧ t.size ≤ 64 then
    if ph = 6 then chk6 c t k f c2 t2 fk
    else if ph = 0 then t.toList.isEmpty && lEq k f c2 t2 fk 0 0 0 { data := #[] } false
    else if ph = 2 ∨ ph = 3 ∨ ph = 4 ∨ ph = 5 ∨ ph = 7 then lEq k f c2 t2 fk 0 0 0 { data := #[] } false
    else false
  else false

set_option maxHeartbeats 400000 in
theorem or_check (r c : Int) (t : ByteArray) (ph k f c2 : Int) (t2 : ByteArray) (fk : Bool) (w : World) :
    Calls Try.prog 17 #[.agg #[.int .i64 r, .int .u64 c, .string t, .int .i64 ph, .int .i64 k, .int .i64 f, .int .u64 c2, .string t2, .bool fk]] w fun e w' => e = .returned (.bool (chk r c t ph k f c2 t2 fk)) ∧ Ext w w' := by
  by_cases h0 : r = 0 ∧ t.size ≤ 64
  · obtain ⟨rfl, h1⟩ := h0
    by_cases h6 : ph = 6
    · subst h6
      have := or_check6 c t k f c2 t2 fk w (by omega)
      simpa [chk, h1] using this
    · go_enter Try.func17, Try.ntmps17
      go_wp2
      all_goals (go_ret; exact ⟨ret_bool (by go_light; simp_all [chk]), (Ext.refl _).alloc _⟩)
  · have e : chk r c t ph k f c2 t2 fk = false := by unfold chk; rw [if_neg h0]
    rw [e]
    clear e
    have h1 : ¬ (r = 0 ∧ (t.size : Int) ≤ 64) := by omega
    go_enter Try.func17, Try.ntmps17
    go_wp2
    all_goals first | (go_light; omega) | (go_ret; exact ⟨rfl, (Ext.refl _).alloc _⟩)
end Go.Proofs.Ytfibbhmmiemcoaa
